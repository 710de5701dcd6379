/- Proved here: what the proof of TopCertified rests on, part 4 of 5. Conditions: those that each theorem names. -/
import Derived.Test.YtedbjmgchfgabaaDoorTopCertifiedK3
namespace Go.Proofs.YtedbjmgchfgabaaDoor.Abs
set_option linter.unusedSimpArgs false
set_option linter.unusedVariables false
open Go.RowKit
open Go.Proofs.YtedbjmgchfgabaaDoor.Sim
open Go.Proofs
theorem ze47 : zeroB Tryd.prog 59 = some #[.slice none 0 0] := by kernel_rfl
theorem bl23w {c d : Int} : abuild Tryd.prog 47 [(2, .int .i64 c), (3, .int .i64 d)] = some (.agg #[.int .i64 0, .int .i64 0, .int .i64 c, .int .i64 d]) := by kernel_rfl
set_option maxRecDepth 100000 in
theorem whole_ok {m : AM} {p : Nat} {B : Brd} {K : List Kd} (hB : BoardAt m p B K) : ACall Tryd.prog 37 #[.pointer (some ⟨p, 0, none⟩)] m (Ret (wholeR B).rc.v m) := by
  refine ACall.drop (Ren.aggI [_, _, _, _]) ?_
  have tw := hB.w
  have th := hB.h
  change ACall Tryd.prog 37 _ m fun v m' => v = .agg #[.int .i64 0, .int .i64 0, .int .i64 (bw B : Nat), .int .i64 (bh B : Nat)] ∧ _
  refine ACall.start Tryd.func37 rfl rfl ?_
  (repeat (first | (with_reducible refine AWo.cons ?_) | ((with_reducible refine Step.id ?_); first | ((with_reducible apply Step.move); exact rfl; exact rfl) | ((with_reducible apply Step.load); exact rfl; (focus (decide +kernel)); exact rfl; (focus (exact Rd.old _ (by assumption)))) | ((with_reducible apply Step.field (k := 2)); exact rfl; (focus (decide +kernel)); exact rfl) | ((with_reducible apply Step.field (k := 3)); exact rfl; (focus (decide +kernel)); exact rfl) | ((with_reducible apply Step.nilp); exact rfl; exact rfl) | ((with_reducible apply Step.alloc 0); exact rfl; exact ze23; exact rfl; (focus (first | (simp only [List.nil_append, List.cons_append, List.set_cons_zero, List.set_cons_succ, iv_set, bv_set, iv_rep, bv_rep]; done) | (simp only [List.nil_append, List.cons_append, List.set_cons_zero, List.set_cons_succ, iv_set, bv_set, iv_rep, bv_rep]; rfl) | rfl))) | ((with_reducible apply Step.storeA (k := 0) (n := 4)); exact rfl; exact rfl; exact rfl; exact rfl; (focus (decide +kernel)); exact rfl; (focus (kernel_rfl)); exact rfl; (focus (first | (simp only [List.nil_append, List.cons_append, List.set_cons_zero, List.set_cons_succ, iv_set, bv_set, iv_rep, bv_rep]; done) | (simp only [List.nil_append, List.cons_append, List.set_cons_zero, List.set_cons_succ, iv_set, bv_set, iv_rep, bv_rep]; rfl) | rfl))) | ((with_reducible apply Step.build); exact rfl; exact bl23w; exact rfl)) | (with_reducible refine AWo.nil ?_) | ((with_reducible apply AW.seq)) | ((with_reducible apply Then.n)) | ((with_reducible apply AW.regL)) | ((with_reducible apply AW.drawL fit); (focus (decide +kernel)))))
  (refine AW.ret ?_; (repeat (first | refine Then.r ?_ | refine InBlk.r ?_)))
  exact ⟨_, ares_cell rfl rfl (by decide +kernel) (n := 4) (by decide +kernel) (RdL.new rfl rfl) rfl rfl, rfl, _, rfl⟩
theorem total_rects {B : Brd} {K : List Kd} (hg : goodB B K = true) : rectsM (bw B : Nat) (bh B : Nat) = (((total (bw B) (bh B) : Nat) : Int), 0) := by
  have hgb : boardB B = true := by simp only [goodB, Bool.and_eq_true] at hg; exact hg.1
  have hin := good_in hgb
  unfold rectsM
  rw [if_pos (by simp [sidesB]; omega)]
  unfold total t2
  simp only [Int.natCast_mul, Int.natCast_ediv, Int.natCast_add]
  rfl
set_option maxHeartbeats 8000000 in
set_option maxRecDepth 100000 in
theorem best_ok {m : AM} {p : Nat} {B : Brd} {K : List Kd} (hB : BoardAt m p B K) (hg : goodB B K = true) :
    ACall Tryd.prog 35 #[.pointer (some ⟨p, 0, none⟩)] m (More (fun m' v => ∃ q, m.length ≤ q ∧ v = .slice (some ⟨q, 0, none⟩) (total (bw B) (bh B)) (total (bw B) (bh B)) ∧ m'[q]? = some (some { cells := iv (boardT B K) })) m) := by
  have hgb : boardB B = true := by simp only [goodB, Bool.and_eq_true] at hg; exact hg.1
  have hin := good_in hgb
  have htl := total_le hin.2.2.2 hin.2.1
  have tw := hB.w
  have th := hB.h
  have hp := hB.lt
  have hR := fun m => Rects_ok (m := m) (bw B : Nat) (bh B : Nat)
  rw [total_rects hg] at hR
  refine ACall.start Tryd.func35 rfl rfl ?_
  (repeat (first | (with_reducible refine AWo.cons ?_) | ((with_reducible refine Step.id ?_); first | ((with_reducible apply Step.move); exact rfl; exact rfl) | ((with_reducible apply Step.assign); exact rfl; exact rfl) | ((with_reducible apply Step.load); exact rfl; (focus (decide +kernel)); exact rfl; (focus (first | exact Rd.new rfl rfl | exact Rd.old _ (by assumption)))) | ((with_reducible apply Step.field (k := 2)); exact rfl; (focus (decide +kernel)); exact rfl) | ((with_reducible apply Step.field (k := 3)); exact rfl; (focus (decide +kernel)); exact rfl) | ((with_reducible apply Step.nilp); exact rfl; exact rfl) | ((with_reducible apply Step.extract); exact rfl; exact rfl; exact rfl) | ((with_reducible apply Step.fn); exact rfl; exact rfl; exact rfl) | ((with_reducible apply Step.callR fit); exact rfl; exact Tryd.func49; exact rfl; exact rfl; exact (hR _)) | ((with_reducible apply Step.box 0); exact rfl; exact rfl; (focus (kernel_rfl)); exact rfl; (focus (first | (simp only [List.nil_append, List.cons_append, List.set_cons_zero, List.set_cons_succ, iv_set, bv_set, iv_rep, bv_rep]; done) | (simp only [List.nil_append, List.cons_append, List.set_cons_zero, List.set_cons_succ, iv_set, bv_set, iv_rep, bv_rep]; rfl) | rfl))) | ((with_reducible apply Step.make1 1); exact rfl; exact rfl; exact rfl; exact el47; (focus (omega)); exact rfl; (focus (first | (simp only [List.nil_append, List.cons_append, List.set_cons_zero, List.set_cons_succ, iv_set, bv_set, iv_rep, bv_rep]; done) | (simp only [List.nil_append, List.cons_append, List.set_cons_zero, List.set_cons_succ, iv_set, bv_set, iv_rep, bv_rep]; rfl) | rfl))) | ((with_reducible apply Step.alloc 2); exact rfl; exact ze47; exact rfl; (focus (first | (simp only [List.nil_append, List.cons_append, List.set_cons_zero, List.set_cons_succ, iv_set, bv_set, iv_rep, bv_rep]; done) | (simp only [List.nil_append, List.cons_append, List.set_cons_zero, List.set_cons_succ, iv_set, bv_set, iv_rep, bv_rep]; rfl) | rfl))) | ((with_reducible apply Step.store (k := 2)); exact rfl; exact rfl; exact rfl; exact rfl; (focus (decide +kernel)); exact rfl; exact rfl; (focus (first | omega | (simp [iv, bv]; done) | (simp [iv, bv]; omega))); (focus (first | (simp only [List.nil_append, List.cons_append, List.set_cons_zero, List.set_cons_succ, iv_set, bv_set, iv_rep, bv_rep]; done) | (simp only [List.nil_append, List.cons_append, List.set_cons_zero, List.set_cons_succ, iv_set, bv_set, iv_rep, bv_rep]; rfl) | rfl)))) | (with_reducible refine AWo.nil ?_) | ((with_reducible apply AW.seq)) | ((with_reducible apply Then.n)) | ((with_reducible apply AW.regL)) | ((with_reducible apply AW.drawL fit); (focus (decide +kernel)))))
  have hMM : ∀ X Y Z : Option Blk, ∀ v, MI (m ++ [X, Y, Z]) (m.length + 1) v = m ++ [X, some { cells := iv v }, Z] := fun X Y Z v => by
    unfold MI
    rw [List.set_append_right _ _ (by omega), show m.length + 1 - m.length = 1 by omega]
    rfl
  have h0 := hMM (some { cells := [.pointer (some ⟨p, 0, none⟩)] }) (some { cells := iv (List.replicate (total (bw B) (bh B)) 0) }) (some { cells := [.slice (some ⟨m.length + 1, 0, none⟩) (total (bw B) (bh B)) (total (bw B) (bh B))] })
  have hE : ∀ M0 : AM, (∃ N, M0 = m ++ N) → M0.length = m.length + 3 → Rd M0 (m.length + 0) 0 (.pointer (some ⟨p, 0, none⟩)) → Rd M0 (m.length + 2) 0 (.slice (some ⟨m.length + 1, 0, none⟩) (total (bw B) (bh B)) (total (bw B) (bh B))) →
      ACall Tryd.prog 50 #[.pointer (some ⟨p, 0, none⟩), .func (.func 64) #[] #[.pointer (some ⟨m.length + 0, 0, none⟩), .pointer (some ⟨m.length + 2, 0, none⟩)]] (MI M0 (m.length + 1) (List.replicate (total (bw B) (bh B)) 0)) (Ret (.tuple #[]) (MI M0 (m.length + 1) (boardT B K))) := fun M0 hN hl r1 r2 =>
    each_ok (m0 := M0) (fun v => MI M0 (m.length + 1) v) (bstep (leafM B K) (bw B) (bh B)) (TabI (V (leafM B K)) (bw B) (bh B)) (caps := #[.pointer (some ⟨m.length + 0, 0, none⟩), .pointer (some ⟨m.length + 2, 0, none⟩)]) Tryd.func64 rfl
    (fun v => by
      obtain ⟨N, rfl⟩ := hN
      obtain ⟨N', hN'⟩ := set_high (m0 := m) (N := N) (a := m.length + 1) (by omega) (some { cells := iv v })
      unfold MI
      rw [hN']
      exact hB.old _) hg (bstep_each hin.2.2.2 hin.2.1)
    (fun i j y x v T b1 b2 b3 b4 hI => bestc_ok (m := M0) (m1 := m) (q := m.length + 1) (a1 := m.length + 0) (a2 := m.length + 2) hN hB hg (by omega) (by omega) r1 r2 (by omega) (by omega) b1 b2 b3 b4 hI)
    (fun v => MI.len) (fun v v' j b h => MI.flat (by omega) v v' _ j b h) (Low.func (fun v hv => by
      simp only [List.mem_cons, List.not_mem_nil, or_false] at hv
      rcases hv with rfl | rfl
      · exact Low.ptr (by omega)
      · exact Low.ptr (by omega))) (List.replicate (total (bw B) (bh B)) 0) TabI.zero
  have hE := hE _ ⟨_, rfl⟩ (by rw [List.length_append]; rfl) (Rd.new (b := { cells := [.pointer (some ⟨p, 0, none⟩)] }) rfl rfl) (Rd.new (L := [some { cells := [.pointer (some ⟨p, 0, none⟩)] }, some { cells := iv (List.replicate (total (bw B) (bh B)) 0) }, some { cells := [.slice (some ⟨m.length + 1, 0, none⟩) (total (bw B) (bh B)) (total (bw B) (bh B))] }]) rfl rfl)
  simp only [h0] at hE
  ((with_reducible apply Step.callM fit); exact rfl; exact Tryd.func50; exact rfl; exact rfl; exact hE)
  (repeat (first | (with_reducible refine AWo.cons ?_) | ((with_reducible refine Step.id ?_); first | ((with_reducible apply Step.assign); exact rfl; exact rfl) | ((with_reducible apply Step.load); exact rfl; (focus (decide +kernel)); exact rfl; (focus (exact Rd.new rfl rfl)))) | (with_reducible refine AWo.nil ?_) | ((with_reducible apply AW.seq)) | ((with_reducible apply Then.n)) | ((with_reducible apply AW.regL))))
  (refine AW.ret ?_; (repeat (first | refine Then.r ?_ | refine InBlk.r ?_)))
  exact ⟨_, rfl, _, rfl, m.length + 1, by omega, rfl, by rw [get_app]; rfl⟩
set_option maxHeartbeats 8000000 in
set_option maxRecDepth 100000 in
theorem Best_no {m : AM} {sv kv : Value} {B : Brd} {K : List Kd} (hs : Strs m sv B) (hk : Kds m kv K) (hg : goodB B K = false) :
    ACall Tryd.prog 12 #[sv, kv] m (Ret (.tuple #[.int .i64 0, .int .i64 2]) m) := by
  have hN := fun T => newBoard_no (hs.old T) (hk.old T) hg
  refine ACall.start Tryd.func12 rfl rfl ?_
  (repeat (first | (with_reducible refine AWo.cons ?_) | ((with_reducible refine Step.id ?_); first | ((with_reducible apply Step.move); exact rfl; exact rfl) | ((with_reducible apply Step.assign); exact rfl; exact rfl) | ((with_reducible apply Step.ptrNil); exact rfl; exact rfl; exact un100; exact rfl) | ((with_reducible apply Step.callR fit); exact rfl; exact Tryd.func34; exact rfl; exact rfl; exact (hN _))) | (with_reducible refine AWo.nil ?_) | ((with_reducible apply AW.seq)) | ((with_reducible apply Then.n)) | ((with_reducible apply AW.regL)) | ((with_reducible apply AW.condT); exact rfl; (focus (rfl)))))
  (refine AW.retD (l := [(4, _), (5, _)]) (by repeat (first | exact trivial | (refine And.intro ⟨rfl, by (exact .int _ _)⟩ ?_))) ?_; (repeat (first | refine Then.r ?_ | refine InBlk.r ?_)))
  exact ⟨_, rfl, rfl, rfl⟩
set_option maxHeartbeats 8000000 in
set_option maxRecDepth 100000 in
theorem Best_ok {m : AM} {sv kv : Value} {B : Brd} {K : List Kd} (hs : Strs m sv B) (hk : Kds m kv K) (hg : goodB B K = true) :
    ACall Tryd.prog 12 #[sv, kv] m (Ret (.tuple #[.int .i64 (bestM B K), .int .i64 0]) m) := by
  have hgb : boardB B = true := by simp only [goodB, Bool.and_eq_true] at hg; exact hg.1
  have hin := good_in hgb
  refine ACall.drop (Ren.tup2 (.int _ _) (.int _ _)) ?_
  refine ACall.start Tryd.func12 rfl rfl ?_
  (repeat (first | (with_reducible refine AWo.cons ?_) | ((with_reducible refine Step.id ?_); first | ((with_reducible apply Step.move); exact rfl; exact rfl) | ((with_reducible apply Step.assign); exact rfl; exact rfl)) | (with_reducible refine AWo.nil ?_) | ((with_reducible apply AW.seq)) | ((with_reducible apply Then.n)) | ((with_reducible apply AW.regL))))
  ((with_reducible apply Step.callX fit); exact rfl; exact Tryd.func34; exact rfl; exact rfl; exact (newBoard_ok (hs.old _) (hk.old _) hg))
  rintro v m1 ⟨N1, hN1⟩ ⟨p, hp, rfl, hB⟩
  have hok : (wholeR B).ok (bw B) (bh B) := by
    simp only [R4.ok, wholeR]
    omega
  have hat := at_lt hin.2.2.2 hin.2.1 hok
  have hlen : (boardT B K).length = total (bw B) (bh B) := (bestT_ok hin.2.2.2 hin.2.1).len
  have hb2 : ∀ T, ACall Tryd.prog 35 #[.pointer (some ⟨p, 0, none⟩)] (m1 ++ T) _ := fun T => best_ok (hB.old T) hg
  have w1 := fun T => whole_ok (hB.old T)
  have nn := fun T => num_ok (m := T) hin.2.2.2 hin.2.1 hok
  have tw := hB.w
  have th := hB.h
  change ∀ T, ACall Tryd.prog 37 _ _ (Ret (.agg (wholeR B).rc.cells.toArray) _) at w1
  have hrr : (wholeR B).rc = (wholeR B).rc := rfl
  change ∀ T, ACall Tryd.prog 36 #[_, _, .agg (wholeR B).rc.cells.toArray] _ _ at nn
  have hbm : bestM B K = (boardT B K).getD ((wholeR B).at (bw B) (bh B)) 0 := rfl
  rw [hbm]
  generalize (wholeR B).at (bw B) (bh B) = n at *
  clear hrr
  (repeat' (first | (with_reducible refine AWo.cons ?_) | ((with_reducible refine Step.id ?_); first | ((with_reducible apply Step.move); exact rfl; exact rfl) | ((with_reducible apply Step.assign); exact rfl; exact rfl) | ((with_reducible apply Step.load); exact rfl; (focus (decide +kernel)); exact rfl; (focus (exact Rd.old _ (by assumption)))) | ((with_reducible apply Step.field (k := 2)); exact rfl; (focus (decide +kernel)); exact rfl) | ((with_reducible apply Step.field (k := 3)); exact rfl; (focus (decide +kernel)); exact rfl) | ((with_reducible apply Step.ptrNot); exact rfl; exact rfl; exact un100; exact rfl) | ((with_reducible apply Step.nilp); exact rfl; exact rfl)) | (with_reducible refine AWo.nil ?_) | ((with_reducible apply AW.seq)) | ((with_reducible apply Then.n)) | ((with_reducible apply AW.regL)) | ((with_reducible apply AW.drawT fit (T := (.step 0 (.step 2 (.step 3 (.step 4 (.step 6 (.step 7 (.step 8 (.step 10 (.both (.step 1 (.both (.step 5 (.both (.step 9 (.step 11 (.step 12 (.step 13 (.step 14 (.step 15 (.step 16 .done))))))) (.step 11 (.step 9 (.step 12 (.step 13 (.step 14 (.step 15 (.step 16 .done))))))))) (.both (.step 9 (.both (.step 5 (.step 11 (.step 12 (.step 13 (.step 14 (.step 15 (.step 16 .done))))))) (.step 11 (.step 5 (.step 12 (.step 13 (.step 14 (.step 15 (.step 16 .done))))))))) (.step 11 (.step 5 (.step 9 (.step 12 (.step 13 (.step 14 (.step 15 (.step 16 .done))))))))))) (.both (.step 5 (.both (.step 1 (.both (.step 9 (.step 11 (.step 12 (.step 13 (.step 14 (.step 15 (.step 16 .done))))))) (.step 11 (.step 9 (.step 12 (.step 13 (.step 14 (.step 15 (.step 16 .done))))))))) (.step 9 (.step 1 (.step 11 (.step 12 (.step 13 (.step 14 (.step 15 (.step 16 .done)))))))))) (.step 9 (.both (.step 1 (.both (.step 5 (.step 11 (.step 12 (.step 13 (.step 14 (.step 15 (.step 16 .done))))))) (.step 11 (.step 5 (.step 12 (.step 13 (.step 14 (.step 15 (.step 16 .done))))))))) (.step 5 (.step 1 (.step 11 (.step 12 (.step 13 (.step 14 (.step 15 (.step 16 .done)))))))))))))))))))))); (focus (decide +kernel))) | ((with_reducible apply AWt.step); exact rfl) | ((with_reducible apply AW.skip)) | ((with_reducible apply AW.condF); exact rfl; (focus (rfl))) | refine AWt.both ?_ ?_))
  all_goals
    ((with_reducible apply Step.callX fit); exact rfl; exact Tryd.func35; exact rfl; exact rfl; exact (hb2 _))
    rintro v m2 ⟨N2, hN2⟩ ⟨q, hq, rfl, hqc⟩
    have x0 : ∀ T, BoardAt (m2 ++ T) p B K := fun T => by rw [hN2]; exact ((hB.old _).old _).old _
    have x1 := (x0 []).w
    have x2 := (x0 []).h
    rw [List.append_nil] at x1 x2
    have x3 := fun T => whole_ok (x0 T)
    have x4 := rd_iv hqc rfl (k := n) (by omega)
    have x5 : ∃ N, m2 = m ++ N := ⟨N1 ++ N2, by rw [hN2, hN1]; simp⟩
    change ∀ T, ACall Tryd.prog 37 _ _ (Ret (.agg (wholeR B).rc.cells.toArray) _) at x3
    clear hN2 hq hqc
    (repeat' (first | ((with_reducible refine Step.id ?_); first | ((with_reducible apply Step.assign); exact rfl; exact rfl) | ((with_reducible apply Step.load); exact rfl; (focus (decide +kernel)); exact rfl; (focus (exact Rd.old _ (by assumption)))) | ((with_reducible apply Step.ix1z); exact rfl; (focus (exact Sl.mk (by omega))); exact rfl; (focus (decide +kernel)); exact rfl; (focus (omega))) | ((with_reducible apply Step.callR fit); exact rfl; exact Tryd.func37; exact rfl; exact rfl; exact (x3 _)) | ((with_reducible apply Step.callR fit); exact rfl; exact Tryd.func36; exact rfl; exact rfl; exact (nn _))) | ((with_reducible apply Then.n)) | ((with_reducible apply AWt.step); exact rfl) | ((with_reducible apply AWt.done)) | refine AWt.both ?_ ?_))
    all_goals
      (refine AW.ret ?_; (repeat (first | refine Then.r ?_ | refine InBlk.r ?_)))
      obtain ⟨N3, hN3⟩ := x5
      exact ⟨_, rfl, rfl, N3 ++ [], by rw [hN3, List.append_assoc]⟩
end Go.Proofs.YtedbjmgchfgabaaDoor.Abs
namespace Go.Proofs.YtedbjmgchfgabaaDoor.Abs
set_option linter.unusedSimpArgs false
set_option linter.unusedVariables false
open Go.RowKit
open Go.Proofs.YtedbjmgchfgabaaDoor.Sim
open Go.Proofs
theorem bs30 {m : AM} {k : Nat} {a b : ByteArray} : abuildSlice Tryd.prog m k 22 2 [(0, .string a), (1, .string b)] = some (.slice (some ⟨k, 0, none⟩) 2 2, m.set k (some { cells := [.string a, .string b] })) := by kernel_rfl
theorem bl99 {a b c d : Int} : abuild Tryd.prog 77 [(0, .int .i64 a), (1, .int .i64 b), (2, .int .i64 c), (3, .int .i64 d)] = some (.agg #[.int .i64 a, .int .i64 b, .int .i64 c, .int .i64 d, .bool false]) := by kernel_rfl
theorem bs35 {m : AM} {k : Nat} {a b c d a' b' c' d' : Int} {t t' : Bool} : abuildSlice Tryd.prog m k 35 2 [(0, .agg #[.int .i64 a, .int .i64 b, .int .i64 c, .int .i64 d, .bool t]), (1, .agg #[.int .i64 a', .int .i64 b', .int .i64 c', .int .i64 d', .bool t'])] = some (.slice (some ⟨k, 0, none⟩) 2 2, m.set k (some { cells := [.int .i64 a, .int .i64 b, .int .i64 c, .int .i64 d, .bool t, .int .i64 a', .int .i64 b', .int .i64 c', .int .i64 d', .bool t'] })) := by kernel_rfl
def b10 : ByteArray := ⟨#[49, 48]⟩
def b11 : ByteArray := ⟨#[49, 49]⟩
def awB : Brd := [b10, b11]
def awK : List Kd := [⟨2, 1, 1, 5, false⟩, ⟨1, 1, 1, 2, false⟩]
theorem aw_good : goodB awB awK = true := by decide +kernel
theorem aw_best : bestM awB awK = 7 := by kernel_rfl
set_option maxRecDepth 100000 in
theorem awake_ok {m : AM} : ACall Tryd.prog 10 #[] m (Ret (.bool true) m) := by
  have hS : ∀ (T : AM), Strs (m ++ (some { cells := [.string b10, .string b11] } :: T)) (.slice (some ⟨m.length + 0, 0, none⟩) 2 2) awB := fun T =>
    ⟨m.length + 0, 0, Sl.mk (by decide), by simp, fun y hy => by
      rcases (show y = 0 ∨ y = 1 by simp [awB] at hy; omega) with rfl | rfl
      · exact Rd.new rfl rfl
      · exact Rd.new rfl rfl⟩
  have hK : ∀ (b0 : Option Blk) (T : AM), Kds (m ++ (b0 :: some { cells := [.int .i64 2, .int .i64 1, .int .i64 1, .int .i64 5, .bool false, .int .i64 1, .int .i64 1, .int .i64 1, .int .i64 2, .bool false] } :: T)) (.slice (some ⟨m.length + 1, 0, none⟩) 2 2) awK := fun b0 T =>
    ⟨m.length + 1, 0, Sl.mk (by decide), by simp, fun y hy => by
      rcases (show y = 0 ∨ y = 1 by simp [awK] at hy; omega) with rfl | rfl
      · refine ⟨_, by rw [get_app]; rfl, fun j v hj => ?_⟩
        rcases j with _ | _ | _ | _ | _ | j
        all_goals first | exact hj | (simp [Kd.cells, awK] at hj)
      · refine ⟨_, by rw [get_app]; rfl, fun j v hj => ?_⟩
        rcases j with _ | _ | _ | _ | _ | j
        all_goals first | exact hj | (simp [Kd.cells, awK] at hj)⟩
  have hb := fun T => Best_ok (m := m ++ (some { cells := [.string b10, .string b11] } :: some { cells := [.int .i64 2, .int .i64 1, .int .i64 1, .int .i64 5, .bool false, .int .i64 1, .int .i64 1, .int .i64 1, .int .i64 2, .bool false] } :: T)) (hS _) (hK _ T) aw_good
  rw [aw_best] at hb
  refine ACall.start Tryd.func10 rfl rfl ?_
  (repeat (first | (with_reducible refine AWo.cons ?_) | ((with_reducible refine Step.id ?_); first | ((with_reducible apply Step.gdT); exact rfl; exact rfl; (focus (rfl))) | ((with_reducible apply Step.move); exact rfl; exact rfl) | ((with_reducible apply Step.assign); exact rfl; exact rfl) | ((with_reducible apply Step.eql); exact rfl; exact rfl; exact rfl) | ((with_reducible apply Step.extract); exact rfl; exact rfl; exact rfl) | ((with_reducible apply Step.pickT); exact rfl; exact rfl; exact rfl; exact rfl; (focus (rfl))) | ((with_reducible apply Step.callR fit); exact rfl; exact Tryd.func12; exact rfl; exact rfl; exact (hb _)) | ((with_reducible apply Step.buildS 0); exact rfl; exact rfl; exact (fun _ _ => bs30); exact rfl; (focus (first | (simp only [List.nil_append, List.cons_append, List.set_cons_zero, List.set_cons_succ, iv_set, bv_set, iv_rep, bv_rep]; done) | (simp only [List.nil_append, List.cons_append, List.set_cons_zero, List.set_cons_succ, iv_set, bv_set, iv_rep, bv_rep]; rfl) | rfl))) | ((with_reducible apply Step.buildS 1); exact rfl; exact rfl; exact (fun _ _ => bs35); exact rfl; (focus (first | (simp only [List.nil_append, List.cons_append, List.set_cons_zero, List.set_cons_succ, iv_set, bv_set, iv_rep, bv_rep]; done) | (simp only [List.nil_append, List.cons_append, List.set_cons_zero, List.set_cons_succ, iv_set, bv_set, iv_rep, bv_rep]; rfl) | rfl))) | ((with_reducible apply Step.build); exact rfl; exact bl99; exact rfl)) | (with_reducible refine AWo.nil ?_) | ((with_reducible apply AW.seq)) | ((with_reducible apply Then.n)) | ((with_reducible apply AW.regL))))
  (refine AW.retD (l := [(0, _)]) (by repeat (first | exact trivial | (refine And.intro ⟨rfl, by (exact .bool _)⟩ ?_))) ?_; (repeat (first | refine Then.r ?_ | refine InBlk.r ?_)))
  exact ⟨_, rfl, rfl, rfl⟩
end Go.Proofs.YtedbjmgchfgabaaDoor.Abs
namespace Go.Proofs.YtedbjmgchfgabaaDoor.Abs
set_option linter.unusedSimpArgs false
set_option linter.unusedVariables false
open Go.RowKit
open Go.Proofs.YtedbjmgchfgabaaDoor.Sim
open Go.Proofs
def kvc (l : List Kd) : List Value := l.flatMap Kd.cells
theorem kvc_len (l : List Kd) : (kvc l).length = l.length * 5 := by
  induction l with
  | nil => rfl
  | cons k l ih =>
    have : kvc (k :: l) = k.cells ++ kvc l := rfl
    rw [this, List.length_append, ih]
    simp [Kd.cells]
    omega
theorem kvc_snoc (l : List Kd) (k : Kd) : kvc (l ++ [k]) = kvc l ++ k.cells := by simp [kvc]
theorem kvc_get : ∀ (l : List Kd) (i : Nat), i < l.length → ∀ (j : Nat) (v : Value), (l.getD i default).cells[j]? = some v → (kvc l)[i * 5 + j]? = some v
  | [], i, hi, _, _, _ => by simp at hi
  | k :: l, 0, _, j, v, hj => by
    have : kvc (k :: l) = k.cells ++ kvc l := rfl
    change k.cells[j]? = some v at hj
    rw [this, Nat.zero_mul, Nat.zero_add, List.getElem?_append_left (List.getElem?_eq_some_iff.1 hj).1]
    exact hj
  | k :: l, i + 1, hi, j, v, hj => by
    have e : kvc (k :: l) = k.cells ++ kvc l := rfl
    have hl : k.cells.length = 5 := rfl
    rw [e, List.getElem?_append_right (by omega), hl, show (i + 1) * 5 + j - 5 = i * 5 + j by omega]
    exact kvc_get l i (by simpa using hi) j v hj
theorem g0_kvc (l : List Kd) : ∀ v ∈ kvc l, g0 v = true := fun v hv => by
  simp only [kvc, List.mem_flatMap] at hv
  obtain ⟨k, _, hk⟩ := hv
  simp [Kd.cells] at hk
  rcases hk with rfl | rfl | rfl | rfl | rfl <;> rfl
theorem good_take (B : Brd) (K : List Kd) : goodB B (K.take 14) = goodB B K := by
  rcases Nat.lt_or_ge 14 K.length with h | h
  · have h1 : kindsB K = false := by simp [kindsB]; omega
    have h2 : kindsB (K.take 14) = false := by simp [kindsB]; omega
    simp [goodB, h1, h2]
  · rw [List.take_of_length_le h]
theorem good_len {B : Brd} {K : List Kd} (h : goodB B K = true) : K.take 14 = K := by
  simp only [goodB, kindsB, Bool.and_eq_true, decide_eq_true_eq] at h
  exact List.take_of_length_le (by omega)
theorem bl99b {a b c d : Int} {t : Bool} : abuild Tryd.prog 77 [(0, .int .i64 a), (1, .int .i64 b), (2, .int .i64 c), (3, .int .i64 d), (4, .bool t)] = some (.agg #[.int .i64 a, .int .i64 b, .int .i64 c, .int .i64 d, .bool t]) := by kernel_rfl
theorem bs35x {m : AM} {k : Nat} {a b c d : Int} {t : Bool} : abuildSlice Tryd.prog m k 35 1 [(0, .agg #[.int .i64 a, .int .i64 b, .int .i64 c, .int .i64 d, .bool t])] = some (.slice (some ⟨k, 0, none⟩) 1 1, m.set k (some { cells := [.int .i64 a, .int .i64 b, .int .i64 c, .int .i64 d, .bool t] })) := by kernel_rfl
theorem el35 : elemB Tryd.prog 35 = some (77, 5, 40, #[.int .i64 0, .int .i64 0, .int .i64 0, .int .i64 0, .bool false]) := by kernel_rfl
theorem un35 : Tryd.prog.underlying 35 = some (.slice 77) := by kernel_rfl
set_option maxHeartbeats 4000000 in
set_option maxRecDepth 100000 in
theorem of_ok {m : AM} {kv : Value} {K : List Kd} (hk : Kds m kv K) (hlen : K.length ≤ 9223372036854775807) : ACall Tryd.prog 13 #[kv] m (NewG (kvc (K.take 14)) 5 (K.take 14).length m) := by
  obtain ⟨A, O, sl, la, rd⟩ := hk
  obtain ⟨q, c, rfl⟩ := sl.shape
  have wl : Low m.length (.slice q K.length c) := Low.of_sl sl la
  refine ACall.start Tryd.func13 rfl rfl ?_
  (repeat (first | (with_reducible refine AWo.cons ?_) | ((with_reducible refine Step.id ?_); first | ((with_reducible apply Step.move); exact rfl; exact rfl) | ((with_reducible apply Step.assign); exact rfl; exact rfl) | ((with_reducible apply Step.len); exact rfl; (focus (assumption)); (focus (decide +kernel)); exact rfl)) | (with_reducible refine AWo.nil ?_) | ((with_reducible apply AW.seq)) | ((with_reducible apply Then.n)) | ((with_reducible apply AW.regL)) | ((with_reducible apply AW.block))))
  refine AW.loopT (fun n t L => ∃ i : Nat, n = K.length - i ∧ i ≤ K.length ∧ i ≤ 14 ∧ L = [gb (kvc (K.take i)) 5] ∧
    t = [(0, .slice q K.length c), (3, gv (m.length + 0) i), (6, .slice q K.length c), (7, .int .i64 (K.length : Nat)), (8, .int .i64 (i : Nat))])
    ⟨_, _, [none], (Back.padC rfl (by repeat (first | exact trivial | (refine And.intro ⟨rfl, by (first | exact Low.rid (by assumption) (by simp) | exact .int _ _ | exact Ren.of_gv (by first | (simp; done) | omega | (simp; omega)))⟩ ?_))) (by repeat (exact CellsP.nil))), 0, rfl, Nat.zero_le _, Nat.zero_le _, rfl, rfl⟩ ?_
  rintro n t L ⟨i, rfl, hi, hi14, rfl, rfl⟩
  rcases Nat.lt_or_ge i K.length with hlt | hge
  · have rk := rd i hlt
    have hs : K.take (i + 1) = K.take i ++ [K.getD i default] := take_snoc K i default hlt
    generalize K.getD i default = k at rk hs
    obtain ⟨kw, kh, kg, ko, kt⟩ := k
    simp only [Kd.cells] at rk
    by_cases h13 : 13 < i
    · obtain rfl : i = 14 := by omega
      have hg0 := g0_kvc (K.take 14)
      (repeat (first | (with_reducible refine AWo.cons ?_) | ((with_reducible refine Step.id ?_); first | ((with_reducible apply Step.move); exact rfl; exact rfl) | ((with_reducible apply Step.assign); exact rfl; exact rfl) | ((with_reducible apply Step.loadL (n := 5)); exact rfl; (focus (decide +kernel)); (focus (decide +kernel)); exact rfl; (focus (exact RdL.old _ (by assumption))); exact rfl; exact rfl) | ((with_reducible apply Step.ix (s := 5)); exact rfl; (focus (assumption)); exact rfl; (focus (decide +kernel)); exact rfl; (focus (omega))) | ((with_reducible apply Step.lss); exact rfl; exact rfl; exact rfl) | ((with_reducible apply Step.gtr); exact rfl; exact rfl; exact rfl) | ((with_reducible apply Step.alloc 1); exact rfl; exact ze33; exact rfl; (focus (first | (simp only [List.nil_append, List.cons_append, List.set_cons_zero, List.set_cons_succ, iv_set, bv_set, iv_rep, bv_rep]; done) | (simp only [List.nil_append, List.cons_append, List.set_cons_zero, List.set_cons_succ, iv_set, bv_set, iv_rep, bv_rep]; rfl) | rfl))) | ((with_reducible apply Step.storeA (k := 1) (n := 5)); exact rfl; exact rfl; exact rfl; exact rfl; (focus (decide +kernel)); exact rfl; (focus (kernel_rfl)); exact rfl; (focus (first | (simp only [List.nil_append, List.cons_append, List.set_cons_zero, List.set_cons_succ, iv_set, bv_set, iv_rep, bv_rep]; done) | (simp only [List.nil_append, List.cons_append, List.set_cons_zero, List.set_cons_succ, iv_set, bv_set, iv_rep, bv_rep]; rfl) | rfl)))) | (with_reducible refine AWo.nil ?_) | ((with_reducible apply AW.seq)) | ((with_reducible apply Then.n)) | ((with_reducible apply AW.regL)) | ((with_reducible apply AW.block)) | ((with_reducible apply AW.exit)) | ((with_reducible apply InBlk.hit)) | ((with_reducible apply InBlk.miss); exact rfl) | ((with_reducible apply Then.e)) | ((with_reducible apply AW.skip)) | ((with_reducible apply AW.condT); exact rfl; (focus (first | rfl | (simp only [decide_eq_true_eq, decide_eq_false_iff_not, Bool.not_eq_true', Bool.not_eq_false', Bool.not_true, Bool.not_false]; first | assumption | omega))))))
      refine AW.retT (l := [(2, gv (m.length + 0) 14)]) (L1 := [gb (kvc (K.take 14)) 5]) (L2 := [_]) rfl (by repeat (first | exact CellsOk.nil | refine CellsOk.gb (by assumption) ?_)) (by repeat (first | exact trivial | (refine And.intro ⟨rfl, by (exact Ren.of_gv (by first | (simp; done) | omega | (simp; omega)))⟩ ?_))) ?_
      exact ⟨_, rfl, by rw [List.length_take, Nat.min_eq_left (by omega)], rfl⟩
    · have hpl : (kvc (K.take i)).length = i * 5 := by rw [kvc_len, List.length_take]; congr 1; omega
      have hg0 := g0_kvc (K.take (i + 1))
      have hcc : kvc (K.take (i + 1)) = kvc (K.take i) ++ [.int .i64 kw, .int .i64 kh, .int .i64 kg, .int .i64 ko, .bool kt] := by rw [hs, kvc_snoc]; rfl
      rw [hcc] at hg0
      (repeat (first | (with_reducible refine AWo.cons ?_) | ((with_reducible refine Step.id ?_); first | ((with_reducible apply Step.move); exact rfl; exact rfl) | ((with_reducible apply Step.assign); exact rfl; exact rfl) | ((with_reducible apply Step.load); exact rfl; (focus (decide +kernel)); exact rfl; (focus (exact Rd.new rfl rfl))) | ((with_reducible apply Step.loadL (n := 5)); exact rfl; (focus (decide +kernel)); (focus (decide +kernel)); exact rfl; (focus (exact RdL.old _ (by assumption))); exact rfl; exact rfl) | ((with_reducible apply Step.ix (s := 5)); exact rfl; (focus (assumption)); exact rfl; (focus (decide +kernel)); exact rfl; (focus (omega))) | ((with_reducible apply Step.field0); exact rfl; (focus (decide +kernel)); exact rfl) | ((with_reducible apply Step.field (k := 1)); exact rfl; (focus (decide +kernel)); exact rfl) | ((with_reducible apply Step.field (k := 2)); exact rfl; (focus (decide +kernel)); exact rfl) | ((with_reducible apply Step.field (k := 3)); exact rfl; (focus (decide +kernel)); exact rfl) | ((with_reducible apply Step.field (k := 4)); exact rfl; (focus (decide +kernel)); exact rfl) | ((with_reducible apply Step.lss); exact rfl; exact rfl; exact rfl) | ((with_reducible apply Step.gtr); exact rfl; exact rfl; exact rfl) | ((with_reducible apply Step.alloc 1); exact rfl; exact ze33; exact rfl; (focus (first | (simp only [List.nil_append, List.cons_append, List.set_cons_zero, List.set_cons_succ, iv_set, bv_set, iv_rep, bv_rep]; done) | (simp only [List.nil_append, List.cons_append, List.set_cons_zero, List.set_cons_succ, iv_set, bv_set, iv_rep, bv_rep]; rfl) | rfl))) | ((with_reducible apply Step.storeA (k := 1) (n := 5)); exact rfl; exact rfl; exact rfl; exact rfl; (focus (decide +kernel)); exact rfl; (focus (kernel_rfl)); exact rfl; (focus (first | (simp only [List.nil_append, List.cons_append, List.set_cons_zero, List.set_cons_succ, iv_set, bv_set, iv_rep, bv_rep]; done) | (simp only [List.nil_append, List.cons_append, List.set_cons_zero, List.set_cons_succ, iv_set, bv_set, iv_rep, bv_rep]; rfl) | rfl))) | ((with_reducible apply Step.buildS 2); exact rfl; exact rfl; exact (fun _ _ => bs35x); exact rfl; (focus (first | (simp only [List.nil_append, List.cons_append, List.set_cons_zero, List.set_cons_succ, iv_set, bv_set, iv_rep, bv_rep]; done) | (simp only [List.nil_append, List.cons_append, List.set_cons_zero, List.set_cons_succ, iv_set, bv_set, iv_rep, bv_rep]; rfl) | rfl))) | ((with_reducible apply Step.build); exact rfl; exact bl99b; exact rfl)) | (with_reducible refine AWo.nil ?_) | ((with_reducible apply AW.seq)) | ((with_reducible apply Then.n)) | ((with_reducible apply AW.regL)) | ((with_reducible apply AW.block)) | ((with_reducible apply AW.skip)) | ((with_reducible apply AW.condT); exact rfl; (focus ((simp only [decide_eq_true_eq, decide_eq_false_iff_not, Bool.not_eq_true', Bool.not_eq_false', Bool.not_true, Bool.not_false]; first | assumption | omega)))) | ((with_reducible apply AW.condF); exact rfl; (focus ((simp only [decide_eq_true_eq, decide_eq_false_iff_not, Bool.not_eq_true', Bool.not_eq_false', Bool.not_true, Bool.not_false]; first | assumption | omega))))))
      ((with_reducible apply Step.appG (k := 3) (q := 0) (r := 2) (n := i) (xl := 1)); exact rfl; exact rfl; exact rfl; exact el35; exact un35; exact rfl; exact rfl; exact rfl; exact hpl; exact rfl; exact rfl; (focus (kernel_rfl)); (focus (omega)); exact rfl; (focus (first | (simp only [List.nil_append, List.cons_append, List.set_cons_zero, List.set_cons_succ, iv_set, bv_set, iv_rep, bv_rep]; done) | (simp only [List.nil_append, List.cons_append, List.set_cons_zero, List.set_cons_succ, iv_set, bv_set, iv_rep, bv_rep]; rfl) | rfl)))
      (repeat (first | (with_reducible refine AWo.cons ?_) | ((with_reducible refine Step.id ?_); first | ((with_reducible apply Step.move); exact rfl; exact rfl) | ((with_reducible apply Step.assign); exact rfl; exact rfl) | ((with_reducible apply Step.add); exact rfl; exact rfl; (focus (omega)); exact rfl)) | (with_reducible refine AWo.nil ?_) | ((with_reducible apply Then.n)) | ((with_reducible apply AW.regL)) | ((with_reducible apply InBlk.n))))
      exact ⟨_, [(0, .slice q K.length c), (3, .slice (some ⟨m.length + 0, 0, none⟩) (i + 1) (i + 1)), (6, .slice q K.length c), (7, .int .i64 (K.length : Nat)), (8, .int .i64 (i + 1 : Nat))], [some { cells := kvc (K.take i) ++ [.int .i64 kw, .int .i64 kh, .int .i64 kg, .int .i64 ko, .bool kt], kind := .grow, size := 5 }], by omega, (Back.mv 0 3 rfl rfl rfl rfl (by intro j b hj h; rcases j with _ | _ | _ | _ | _ | _ | j <;> simp_all) (by repeat (first | exact CellsOk.nil | refine CellsOk.cons (by assumption) ?_)) (by repeat (first | exact trivial | (refine And.intro ⟨_, rfl, by (first | exact Low.ne (by assumption) (by simp) | exact .int _ _ | exact Ren.slice_mv (by first | (simp; done) | omega | (simp; omega)))⟩ ?_)))), i + 1, rfl, by omega, by omega, by rw [hcc, gb_pos (by simp)], by rw [gv_pos (by omega)]⟩
  · obtain rfl : i = K.length := by omega
    (repeat (first | (with_reducible refine AWo.cons ?_) | ((with_reducible refine Step.id ?_); first | ((with_reducible apply Step.move); exact rfl; exact rfl) | ((with_reducible apply Step.assign); exact rfl; exact rfl) | ((with_reducible apply Step.lss); exact rfl; exact rfl; exact rfl)) | (with_reducible refine AWo.nil ?_) | ((with_reducible apply AW.seq)) | ((with_reducible apply Then.n)) | ((with_reducible apply AW.regL)) | ((with_reducible apply AW.exit)) | ((with_reducible apply InBlk.hit)) | ((with_reducible apply Then.e)) | ((with_reducible apply AW.condF); exact rfl; (focus ((simp only [decide_eq_true_eq, decide_eq_false_iff_not, Bool.not_eq_true', Bool.not_eq_false', Bool.not_true, Bool.not_false]; first | assumption | omega))))))
    (refine AW.retB (l := [(2, _)]) (Or.inl ⟨rfl, (by repeat (first | exact trivial | (refine And.intro rfl ?_)))⟩) ?_; (repeat (first | refine Then.r ?_ | refine InBlk.r ?_)))
    exact ⟨_, rfl, by rw [List.take_of_length_le hi14], by rw [List.take_of_length_le hi14, List.take_of_length_le (Nat.le_refl _)]⟩
end Go.Proofs.YtedbjmgchfgabaaDoor.Abs
namespace Go.Proofs.YtedbjmgchfgabaaDoor.Abs
set_option linter.unusedSimpArgs false
set_option linter.unusedVariables false
open Go.RowKit
open Go.Proofs.YtedbjmgchfgabaaDoor.Sim
open Go.Proofs
section
variable (leaf : R4 → Int) (w h : Nat) (t : List Int)
/-- The first k cuts hold. -/
def cutOk (r : R4) (d : Bool) : Nat → Bool
  | 0 => true
  | k + 1 => cutOk r d k && decide (tg w h t (r.lo d (k + 1)) + tg w h t (r.hi d (k + 1)) ≤ tg w h t r)
def okR (r : R4) : Bool := decide (leaf r ≤ tg w h t r) && cutOk w h t r true (r.len true - 1) && cutOk w h t r false (r.len false - 1)
def boundB : Bool := (t.all fun x => decide (0 ≤ x)) && ((allR w h h).all fun r => okR leaf w h t r)
end
section
variable {leaf : R4 → Int} {w h : Nat} {t : List Int}
theorem cutOk_iff {r : R4} {d : Bool} : ∀ {k : Nat}, cutOk w h t r d k = true ↔ ∀ i, 1 ≤ i → i ≤ k → tg w h t (r.lo d i) + tg w h t (r.hi d i) ≤ tg w h t r
  | 0 => ⟨fun _ i h1 h2 => by omega, fun _ => rfl⟩
  | k + 1 => by
    simp only [cutOk, Bool.and_eq_true, decide_eq_true_eq, cutOk_iff (k := k)]
    constructor
    · rintro ⟨h1, h2⟩ i h3 h4
      rcases Nat.lt_succ_iff_lt_or_eq.1 (Nat.lt_succ_of_le h4) with h5 | rfl
      · exact h1 i h3 (by omega)
      · exact h2
    · intro h
      exact ⟨fun i h3 h4 => h i h3 (by omega), h (k + 1) (by omega) (Nat.le_refl _)⟩
/-- All rectangles behind the walk hold. -/
def OkI (leaf : R4 → Int) (w h : Nat) (t : List Int) (D : R4 → Prop) (b : Bool) : Prop := b = true ↔ ∀ r, D r → okR leaf w h t r = true
theorem okStep_each : EachI (fun r b => b && okR leaf w h t r) w h (OkI leaf w h t) := by
  refine ⟨fun i j y x b hi hj hy hx H => ?_⟩
  have hr := step_ok hi hj hy hx
  rw [done_step (i := i) (j := j) (y := y) (x := x) hr rfl rfl rfl rfl]
  unfold OkI at *
  rw [Bool.and_eq_true, H]
  constructor
  · rintro ⟨h1, h2⟩ r (rfl | hd)
    · exact h2
    · exact h1 r hd
  · intro h
    exact ⟨fun r hd => h r (.inr hd), h _ (.inl rfl)⟩
theorem okFin : fW (fun r b => b && okR leaf w h t r) w h w true = (allR w h h).all fun r => okR leaf w h t r := by
  have := (okStep_each (leaf := leaf) (w := w) (h := h) (t := t)).all (s := true) (by unfold OkI; simp)
  unfold OkI at this
  rw [Bool.eq_iff_iff, this, List.all_eq_true]
  exact ⟨fun h r hr => h r (mem_all.1 hr), fun h r hr => h r (mem_all.2 hr)⟩
end
/-- Behind k of the two directions. -/
def okW (w h : Nat) (t : List Int) (r : R4) (w0 : Bool) : Nat → Bool
  | 0 => w0
  | k + 1 => okW w h t r w0 k && cutOk w h t r (k == 0) (r.len (k == 0) - 1)
/-- The memory in which block q holds some cells. -/
def MC (m : AM) (q : Nat) (c : List Value) : AM := m.set q (some { cells := c })
section
variable {m : AM} {q : Nat} {c c' : List Value}
theorem MC.len : (MC m q c).length = m.length := by simp [MC]
theorem MC.at (hq : q < m.length) : (MC m q c)[q]? = some (some { cells := c }) := by unfold MC; exact List.getElem?_set_self hq
theorem MC.ne {a : Nat} (h : a ≠ q) : (MC m q c)[a]? = m[a]? := by unfold MC; exact List.getElem?_set_ne (fun e => h e.symm)
theorem MC.set (hq : q < m.length) (T : AM) : (MC m q c ++ T).set q (some { cells := c' }) = MC m q c' ++ T := by
  unfold MC
  rw [List.set_append_left _ _ (by simpa using hq), List.set_set]
theorem MC.rd {a o : Nat} {x : Value} (h : a ≠ q) (hr : Rd m a o x) : Rd (MC m q c) a o x := by
  obtain ⟨b, h1, h2⟩ := hr
  exact ⟨b, by rw [MC.ne h]; exact h1, h2⟩
theorem MC.ints {v : Value} {l : List Int} {m1 N : AM} (hm : m = m1 ++ N) (hq1 : m1.length ≤ q) (h : Ints m1 v l) : Ints (MC m q c) v l := by
  subst hm
  obtain ⟨N', hN'⟩ := set_high (N := N) hq1 (some { cells := c })
  unfold MC
  rw [hN']
  exact h.old _
/-- A turned block of flat cells: what may be let go behind it. -/
theorem MC.cut (hq : q < m.length) (hg : ∀ x ∈ c', g0 x = true) (T X : AM) (hX : ∀ b, some b ∈ X → isMapK b.kind = false ∧ ∀ x ∈ b.cells, g0 x = true) (n j : Nat) (b : Blk) (h : (MC m q c' ++ (T ++ X))[j]? = some (some b)) :
    (j < (MC m q c ++ T).length ∧ (MC m q c ++ T)[j]? = some (some b)) ∨ (isMapK b.kind = false ∧ ∀ x ∈ b.cells, Ren rid n x x) := by
  have e : (MC m q c').length = (MC m q c).length := by rw [MC.len, MC.len]
  rcases Nat.lt_or_ge j (MC m q c').length with hj | hj
  · rw [List.getElem?_append_left hj] at h
    by_cases ej : j = q
    · subst ej
      rw [MC.at hq] at h
      simp only [Option.some.injEq] at h
      subst h
      exact .inr ⟨rfl, fun x hx => Ren.of_g0 (hg x hx)⟩
    · rw [MC.ne ej] at h
      refine .inl ⟨by rw [List.length_append]; omega, ?_⟩
      rw [List.getElem?_append_left (by omega), MC.ne ej]
      exact h
  · rw [List.getElem?_append_right hj] at h
    rcases Nat.lt_or_ge (j - (MC m q c').length) T.length with hj2 | hj2
    · rw [List.getElem?_append_left hj2] at h
      refine .inl ⟨by rw [List.length_append]; omega, ?_⟩
      rw [List.getElem?_append_right (by omega), ← e]
      exact h
    · rw [List.getElem?_append_right hj2] at h
      obtain ⟨h1, h2⟩ := hX b (List.mem_of_getElem? h)
      exact .inr ⟨h1, fun x hx => Ren.of_g0 (h2 x hx)⟩
end
end Go.Proofs.YtedbjmgchfgabaaDoor.Abs
namespace Go.Proofs.YtedbjmgchfgabaaDoor.Abs
set_option linter.unusedSimpArgs false
set_option linter.unusedVariables false
open Go.RowKit
open Go.Proofs.YtedbjmgchfgabaaDoor.Sim
open Go.Proofs
set_option maxHeartbeats 8000000 in
set_option maxRecDepth 100000 in
theorem checkc_ok {m1 m T : AM} {p q a3 a4 : Nat} {tv : Value} {t : List Int} {B : Brd} {K : List Kd} (hm : ∃ N, m = m1 ++ N) (hB : BoardAt m1 p B K) (hg : goodB B K = true) (hq1 : m1.length ≤ q) (hq : q < m.length)
    (h3 : Rd m a3 0 tv) (h4 : Rd m a4 0 (.pointer (some ⟨p, 0, none⟩))) (n3 : a3 ≠ q) (n4 : a4 ≠ q) (ht : Ints m1 tv t) (hl : t.length = total (bw B) (bh B)) (hi : ∀ i, 0 ≤ t.getD i 0 ∧ t.getD i 0 ≤ 9223372036854775807)
    {r : R4} (hr : r.ok (bw B) (bh B)) (b : Bool) :
    ACall Tryd.prog 51 #[r.rc.v, .int .i64 (r.at (bw B) (bh B) : Nat), .pointer (some ⟨q, 0, none⟩), .pointer (some ⟨a3, 0, none⟩), .pointer (some ⟨a4, 0, none⟩)] (MC m q [.bool b] ++ T)
      (Ret (.tuple #[]) (MC m q [.bool (b && okR (leafM B K) (bw B) (bh B) t r)] ++ T)) := by
  have hgb : boardB B = true := by simp only [goodB, Bool.and_eq_true] at hg; exact hg.1
  have hin := good_in hgb
  have hrl := hr
  simp only [R4.ok] at hrl
  have hat := fun (r' : R4) (h : r'.ok (bw B) (bh B)) => at_lt hin.2.2.2 hin.2.1 h
  rw [← hl] at hat
  have hBv : ∀ c T', BoardAt (MC m q c ++ T') p B K := fun u T' => by
    obtain ⟨N, rfl⟩ := hm
    obtain ⟨N', hN'⟩ := set_high (N := N) hq1 (some { cells := u })
    unfold MC
    rw [hN', List.append_assoc]
    exact hB.old _
  have hIv : ∀ c T', Ints (MC m q c ++ T') tv t := fun c T' => by
    obtain ⟨N, hN⟩ := hm
    exact (MC.ints hN hq1 ht).old T'
  obtain ⟨A, O, sl, la, _⟩ := id ht
  obtain ⟨q', c', rfl⟩ := sl.shape
  have rd : ∀ c T' k, k < t.length → Rd (MC m q c ++ T') A (O + k) (.int .i64 (t.getD k 0)) := fun c T' k hk => by
    obtain ⟨N, rfl⟩ := hm
    obtain ⟨N', hN'⟩ := set_high (N := N) hq1 (some { cells := c })
    obtain ⟨A2, O2, sl2, la2, rd2⟩ := ht
    unfold MC
    rw [hN', List.append_assoc]
    rcases sl with ⟨_, h⟩ | ⟨c1, _, e1⟩ | ⟨h, _⟩
    · omega
    · rcases sl2 with ⟨_, h⟩ | ⟨c2, _, e2⟩ | ⟨h, _⟩
      · omega
      · rw [e1] at e2
        injection e2 with e2
        injection e2 with e2
        injection e2 with e3 e4
        subst e3 e4
        exact (rd2 k hk).old _
      · omega
    · omega
  have hlm : ∀ c, (MC m q c ++ T).length = (MC m q [.bool b] ++ T).length := fun c => by simp [MC.len]
  have z3 : ∀ c T', Rd (MC m q c ++ T') a3 0 (.slice q' t.length c') := fun u T' => (MC.rd n3 h3).old T'
  have z4 : ∀ c T', Rd (MC m q c ++ T') a4 0 (.pointer (some ⟨p, 0, none⟩)) := fun u T' => (MC.rd n4 h4).old T'
  have zq : ∀ c T', (MC m q [c] ++ T')[q]? = some (some { cells := [c] }) := fun u T' => get_old _ (MC.at hq)
  have zb : ∀ c T', Rd (MC m q [c] ++ T') q 0 c := fun c T' => ⟨_, zq c T', rfl⟩
  have tw := fun c T' => (hBv c T').w
  have th := fun c T' => (hBv c T').h
  have hL := fun c T' => leaf_ok (hBv c T') hg hr
  have hlen := fun M d => length_ok (m := M) r d
  have hP := fun M d i h1 h2 => part_ok (m := M) r d (i := i) h1 h2 (by omega)
  have hN := fun M (r' : R4) (h : r'.ok (bw B) (bh B)) => num_ok (m := M) hin.2.2.2 hin.2.1 h
  have hlf := leafM_in hg r
  have hpos := fun d => len_pos d hr
  have hle := fun d => len_le d hin.2.2.2 hin.2.1 hr
  have hlo := fun d i h1 h2 => lo_ok (d := d) (i := i) hr h1 h2
  have hhi := fun d i h1 h2 => hi_ok (d := d) (i := i) hr h1 h2
  have hmem : ∀ (c c2 : Value) (T' : AM), (MC m q [c] ++ T').set q (some { cells := [c].set 0 c2 }) = MC m q [c2] ++ T' := fun c c2 T' => MC.set hq T'
  have hok : okR (leafM B K) (bw B) (bh B) t r = (decide (leafM B K r ≤ t.getD (r.at (bw B) (bh B)) 0) && cutOk (bw B) (bh B) t r true (r.len true - 1) && cutOk (bw B) (bh B) t r false (r.len false - 1)) := rfl
  have hst : ∀ d k, cutOk (bw B) (bh B) t r d (k + 1) = (cutOk (bw B) (bh B) t r d k && decide (t.getD ((r.lo d (k + 1)).at (bw B) (bh B)) 0 + t.getD ((r.hi d (k + 1)).at (bw B) (bh B)) 0 ≤ t.getD (r.at (bw B) (bh B)) 0)) := fun d k => rfl
  change ∀ c T', ACall Tryd.prog 52 #[_, .agg r.rc.cells.toArray] _ _ at hL
  change ∀ M d, ACall Tryd.prog 53 #[.agg r.rc.cells.toArray, _] _ _ at hlen
  change ∀ M d i, _ → _ → ACall Tryd.prog 54 #[.agg r.rc.cells.toArray, _, _] _ (Ret (.tuple #[.agg (r.lo d i).rc.cells.toArray, .agg (r.hi d i).rc.cells.toArray]) _) at hP
  change ∀ M (r' : R4), _ → ACall Tryd.prog 36 #[_, _, .agg r'.rc.cells.toArray] _ _ at hN
  change ACall Tryd.prog 51 #[.agg r.rc.cells.toArray, _, _, _, _] _ _
  have hrat := hat r hr
  rw [hok]
  have hg0 : ∀ (r : R4), ∀ v ∈ r.rc.cells, g0 v = true := fun r v hv => by
    simp [Rc.cells] at hv
    rcases hv with rfl | rfl | rfl | rfl <;> rfl
  have hr0 := hg0 r
  generalize hrr : r.rc = rr at *
  generalize hnn : r.at (bw B) (bh B) = n at *
  have x1 := hi n
  have rdn : ∀ c T', Rd (MC m q c ++ T') A (O + n) (.int .i64 (t.getD n 0)) := fun c T' => rd c T' n hrat
  refine ACall.start Tryd.func51 rfl rfl ?_
  (repeat (first | (with_reducible refine AWo.cons ?_) | ((with_reducible refine Step.id ?_); ((with_reducible apply Step.box 0); exact rfl; exact rfl; (focus (kernel_rfl)); exact rfl; (focus (first | (simp only [List.nil_append, List.cons_append, List.set_cons_zero, List.set_cons_succ, iv_set, bv_set, iv_rep, bv_rep]; done) | (simp only [List.nil_append, List.cons_append, List.set_cons_zero, List.set_cons_succ, iv_set, bv_set, iv_rep, bv_rep]; rfl) | rfl)))) | (with_reducible refine AWo.nil ?_) | ((fail_if_success (with_reducible refine AW.atR (id := 1) ?_)); ((with_reducible apply AW.seq))) | ((with_reducible apply Then.n)) | ((with_reducible apply AW.regL))))
  rw [List.append_assoc]
  change AW _ _ _ _ _ (MC m q [.bool b] ++ (T ++ [some { cells := rr.cells }])) _
  have r5 : ∀ c X, RdL (MC m q c ++ (T ++ (some { cells := rr.cells } :: X))) ((MC m q [.bool b] ++ T).length + 0) 0 rr.cells := fun u X => by
    rw [← List.append_assoc, ← hlm u]; exact RdL.new rfl rfl
  generalize hbp : (MC m q [.bool b] ++ T).length + 0 = bp at *
  refine AW.joinS [(1, .int .i64 (n : Nat)), (2, .pointer (some ⟨q, 0, none⟩)), (3, .pointer (some ⟨a3, 0, none⟩)), (4, .pointer (some ⟨a4, 0, none⟩)), (5, .pointer (some ⟨bp, 0, none⟩))] (MC m q [.bool (b && decide (leafM B K r ≤ t.getD n 0))] ++ (T ++ [some { cells := rr.cells }])) ?_ ?_
  · refine AW.flatM fit [(1, .int .i64 (n : Nat)), (2, .pointer (some ⟨q, 0, none⟩)), (3, .pointer (some ⟨a3, 0, none⟩)), (4, .pointer (some ⟨a4, 0, none⟩)), (5, .pointer (some ⟨bp, 0, none⟩))] [1, 2, 3, 4, 5] [[], [0], [0], [1], [1, 0, 2], [0, 3], [4], [5], [1, 0, 6, 6], [3, 0, 7], [8, 0], [0, 2, 10, 9, 8, 7, 6, 5, 4, 3, 2, 1, 0]] (by repeat (first | exact trivial | (refine And.intro rfl ?_))) rfl (by decide +kernel) ?_
    cases b with
    | false =>
      (repeat (first | ((with_reducible refine Step.id ?_); first | ((with_reducible apply Step.gdF); exact rfl; exact rfl; (focus (rfl))) | ((with_reducible apply Step.move); exact rfl; exact rfl) | ((with_reducible apply Step.load); exact rfl; (focus (decide +kernel)); exact rfl; (focus (exact zb _ _))) | ((with_reducible apply Step.pickF); exact rfl; exact rfl; exact rfl; exact rfl; (focus (rfl)))) | (apply AWfL.cons; exact rfl) | ((with_reducible apply AWfL.last)) | exact ⟨put_same _ _ _, rfl⟩))
      ((with_reducible apply Step.storeC); exact rfl; exact rfl; exact (zq _ _); exact rfl; (focus (decide +kernel)); exact rfl; exact rfl; (focus (simp)))
      rw [hmem]
      intro t2 ht2
      exact ⟨rfl, by repeat (first | exact trivial | refine And.intro (ht2 _ _ rfl) ?_)⟩
    | true =>
      (repeat (first | ((with_reducible refine Step.id ?_); first | ((with_reducible apply Step.gdT); exact rfl; exact rfl; (focus (rfl))) | ((with_reducible apply Step.move); exact rfl; exact rfl) | ((with_reducible apply Step.load); exact rfl; (focus (decide +kernel)); exact rfl; (focus (first | exact zb _ _ | exact z3 _ _ | exact z4 _ _ | exact rdn _ _))) | ((with_reducible apply Step.loadL (n := 4)); exact rfl; (focus (decide +kernel)); (focus (decide +kernel)); exact rfl; (focus (exact r5 _ _)); exact rfl; exact rfl) | ((with_reducible apply Step.ix1); exact rfl; (focus (assumption)); exact rfl; (focus (decide +kernel)); exact rfl; (focus (omega))) | ((with_reducible apply Step.geq); exact rfl; exact rfl; exact rfl) | ((with_reducible apply Step.pickT); exact rfl; exact rfl; exact rfl; exact rfl; (focus (rfl))) | ((with_reducible apply Step.callR fit); exact rfl; exact Tryd.func52; exact rfl; exact rfl; exact (hL _ _))) | (apply AWfL.cons; exact rfl) | ((with_reducible apply AWfL.last)) | exact ⟨put_same _ _ _, rfl⟩))
      ((with_reducible apply Step.storeC); exact rfl; exact rfl; exact (zq _ _); exact rfl; (focus (decide +kernel)); exact rfl; exact rfl; (focus (simp)))
      rw [hmem]
      intro t2 ht2
      exact ⟨by rw [Bool.true_and], by repeat (first | exact trivial | refine And.intro (ht2 _ _ rfl) ?_)⟩
  have hfin : (b && (decide (leafM B K r ≤ t.getD n 0) && cutOk (bw B) (bh B) t r true (r.len true - 1) && cutOk (bw B) (bh B) t r false (r.len false - 1))) = okW (bw B) (bh B) t r (b && decide (leafM B K r ≤ t.getD n 0)) 2 := by
    simp only [okW, Bool.and_assoc]; rfl
  rw [hfin]
  generalize (b && decide (leafM B K r ≤ t.getD n 0)) = w0
  have hW : ∀ k, okW (bw B) (bh B) t r w0 (k + 1) = (okW (bw B) (bh B) t r w0 k && cutOk (bw B) (bh B) t r (k == 0) (r.len (k == 0) - 1)) := fun k => rfl
  have hW0 : okW (bw B) (bh B) t r w0 0 = w0 := rfl
  generalize okW (bw B) (bh B) t r w0 = W at *
  clear hok hfin
  (repeat (first | (with_reducible refine AWo.cons ?_) | ((with_reducible refine Step.id ?_); ((with_reducible apply Step.assign); exact rfl; exact rfl)) | (with_reducible refine AWo.nil ?_) | ((with_reducible apply AW.seq)) | ((with_reducible apply Then.n)) | ((with_reducible apply AW.regL)) | ((with_reducible apply AW.block))))
  refine AW.loopW (fun rk t M => ∃ k : Nat, rk = 2 - k ∧ k ≤ 2 ∧ M = MC m q [.bool (W k)] ++ (T ++ [some { cells := rr.cells }]) ∧ t = fr [(1, .int .i64 (n : Nat)), (2, .pointer (some ⟨q, 0, none⟩)), (3, .pointer (some ⟨a3, 0, none⟩)), (4, .pointer (some ⟨a4, 0, none⟩)), (5, .pointer (some ⟨bp, 0, none⟩)), (7, .int .i64 (2 + k : Nat))])
    ⟨_, _, (by repeat (first | exact trivial | (refine And.intro rfl ?_))), 0, rfl, Nat.zero_le _, by rw [hW0], rfl⟩ ?_
  rintro rk t0 M ⟨k, rfl, hk, rfl, rfl⟩
  have hgo : ∀ k, k ≤ 2 → (k = 2 ∨ W k = false) → W k = W 2 := fun k hk h => by
    rcases h with rfl | h
    · rfl
    · rcases (show k = 0 ∨ k = 1 ∨ k = 2 by omega) with rfl | rfl | rfl
      · rw [h, hW 1, hW 0, h]; rfl
      · rw [h, hW 1, h]; rfl
      · rfl
  have hcell0 : ∀ b, some b ∈ ([] : AM) → isMapK b.kind = false ∧ ∀ x ∈ b.cells, g0 x = true := fun b hb => by simp at hb
  by_cases hx : k = 2 ∨ W k = false
  · have hwk := hgo k hk hx
    rw [← List.append_assoc]
    refine AW.gc (Gc.cut (l := [(2, .pointer (some ⟨q, 0, none⟩)), (7, .int .i64 (2 + k : Nat))]) (by rw [hlm [.bool (W k)]]; exact Nat.le_refl _) (fun j bb hj => ?_) ?_) ?_
    · have := MC.cut (m := m) (c := [.bool b]) (c' := [.bool (W k)]) hq (fun x hx => by simp at hx; subst hx; rfl) T [] hcell0 (MC m q [.bool (W k)] ++ T).length j bb (by rw [List.append_nil]; exact hj)
      exact this
    · have wq : Low (MC m q [.bool (W k)] ++ T).length (.pointer (some ⟨q, 0, none⟩)) := Low.ptr (by rw [List.length_append, MC.len]; omega)
      exact (by repeat (first | exact trivial | (refine And.intro ⟨rfl, by (first | exact Low.rid (by assumption) (by simp) | exact .int _ _)⟩ ?_)))
    · rcases hx with rfl | hx
      · (repeat (first | (with_reducible refine AWo.cons ?_) | ((with_reducible refine Step.id ?_); first | ((with_reducible apply Step.gdF); exact rfl; exact rfl; (focus (rfl))) | ((with_reducible apply Step.move); exact rfl; exact rfl) | ((with_reducible apply Step.leq); exact rfl; exact rfl; exact rfl) | ((with_reducible apply Step.pickF); exact rfl; exact rfl; exact rfl; exact rfl; (focus (rfl)))) | (with_reducible refine AWo.nil ?_) | ((with_reducible apply AW.seq)) | ((with_reducible apply Then.n)) | ((with_reducible apply AW.regL)) | ((with_reducible apply AW.exit)) | ((with_reducible apply InBlk.hit)) | ((with_reducible apply Then.e)) | ((with_reducible apply AW.condF); exact rfl; (focus (rfl)))))
        exact ⟨_, rfl, rfl, by rw [hwk]⟩
      · rcases Nat.lt_or_ge k 2 with hk2 | hk2
        · have zf : ∀ T', Rd (MC m q [.bool (W k)] ++ T') q 0 (.bool false) := fun T' => by
            have := zb (.bool (W k)) T'
            rw [hx] at this ⊢
            exact this
          (repeat (first | (with_reducible refine AWo.cons ?_) | ((with_reducible refine Step.id ?_); first | ((with_reducible apply Step.gdT); exact rfl; exact rfl; (focus ((simp only [decide_eq_true_eq, decide_eq_false_iff_not, Bool.not_eq_true', Bool.not_eq_false', Bool.not_true, Bool.not_false]; first | assumption | omega)))) | ((with_reducible apply Step.move); exact rfl; exact rfl) | ((with_reducible apply Step.load); exact rfl; (focus (decide +kernel)); exact rfl; (focus (exact zf _))) | ((with_reducible apply Step.leq); exact rfl; exact rfl; exact rfl) | ((with_reducible apply Step.pickT); exact rfl; exact rfl; exact rfl; exact rfl; (focus ((simp only [decide_eq_true_eq, decide_eq_false_iff_not, Bool.not_eq_true', Bool.not_eq_false', Bool.not_true, Bool.not_false]; first | assumption | omega))))) | (with_reducible refine AWo.nil ?_) | ((with_reducible apply AW.seq)) | ((with_reducible apply Then.n)) | ((with_reducible apply AW.regL)) | ((with_reducible apply AW.exit)) | ((with_reducible apply InBlk.hit)) | ((with_reducible apply Then.e)) | ((with_reducible apply AW.condF); exact rfl; (focus (rfl)))))
          exact ⟨_, rfl, rfl, by rw [hwk]⟩
        · obtain rfl : k = 2 := by omega
          (repeat (first | (with_reducible refine AWo.cons ?_) | ((with_reducible refine Step.id ?_); first | ((with_reducible apply Step.gdF); exact rfl; exact rfl; (focus (rfl))) | ((with_reducible apply Step.move); exact rfl; exact rfl) | ((with_reducible apply Step.leq); exact rfl; exact rfl; exact rfl) | ((with_reducible apply Step.pickF); exact rfl; exact rfl; exact rfl; exact rfl; (focus (rfl)))) | (with_reducible refine AWo.nil ?_) | ((with_reducible apply AW.seq)) | ((with_reducible apply Then.n)) | ((with_reducible apply AW.regL)) | ((with_reducible apply AW.exit)) | ((with_reducible apply InBlk.hit)) | ((with_reducible apply Then.e)) | ((with_reducible apply AW.condF); exact rfl; (focus (rfl)))))
          exact ⟨_, rfl, rfl, rfl⟩
  · have hk2 : k < 2 := by omega
    have hwk : W k = true := by
      cases e : W k with
      | true => rfl
      | false => exact absurd (.inr e) hx
    have hop : ((2 + k : Nat) : Int) = opI (k == 0) := by
      rcases (show k = 0 ∨ k = 1 by omega) with rfl | rfl <;> rfl
    have hWk := hW k
    rw [hwk, Bool.true_and] at hWk
    rw [hwk]
    have hpd := hpos (k == 0)
    have hld := hle (k == 0)
    have hPd := fun M i => hP M (k == 0) i
    have hlend := fun M => hlen M (k == 0)
    have hlod := fun i => hlo (k == 0) i
    have hhid := fun i => hhi (k == 0) i
    have hstd := fun i => hst (k == 0) i
    have hc0 : cutOk (bw B) (bh B) t r (k == 0) 0 = true := rfl
    rw [← hop] at hPd hlend
    generalize (k == 0) = d at *
    generalize hC : cutOk (bw B) (bh B) t r d = C at *
    (repeat (first | (with_reducible refine AWo.cons ?_) | ((with_reducible refine Step.id ?_); first | ((with_reducible apply Step.gdT); exact rfl; exact rfl; (focus ((simp only [decide_eq_true_eq, decide_eq_false_iff_not, Bool.not_eq_true', Bool.not_eq_false', Bool.not_true, Bool.not_false]; first | assumption | omega)))) | ((with_reducible apply Step.move); exact rfl; exact rfl) | ((with_reducible apply Step.assign); exact rfl; exact rfl) | ((with_reducible apply Step.load); exact rfl; (focus (decide +kernel)); exact rfl; (focus (exact zb _ _))) | ((with_reducible apply Step.leq); exact rfl; exact rfl; exact rfl) | ((with_reducible apply Step.pickT); exact rfl; exact rfl; exact rfl; exact rfl; (focus ((simp only [decide_eq_true_eq, decide_eq_false_iff_not, Bool.not_eq_true', Bool.not_eq_false', Bool.not_true, Bool.not_false]; first | assumption | omega))))) | (with_reducible refine AWo.nil ?_) | ((with_reducible apply AW.seq)) | ((with_reducible apply Then.n)) | ((with_reducible apply AW.regL)) | ((with_reducible apply AW.block)) | ((with_reducible apply AW.skip)) | ((with_reducible apply AW.condT); exact rfl; (focus (rfl)))))
    refine AW.loopW (fun rk t0 M => ∃ i : Nat, rk = r.len d - 1 - i ∧ i + 1 ≤ r.len d ∧ M = MC m q [.bool (C i)] ++ (T ++ [some { cells := rr.cells }]) ∧ t0 = fr [(1, .int .i64 (n : Nat)), (2, .pointer (some ⟨q, 0, none⟩)), (3, .pointer (some ⟨a3, 0, none⟩)), (4, .pointer (some ⟨a4, 0, none⟩)), (5, .pointer (some ⟨bp, 0, none⟩)), (7, .int .i64 (2 + k : Nat)), (8, .int .i64 (i + 1 : Nat))])
      ⟨_, _, (by repeat (first | exact trivial | (refine And.intro rfl ?_))), 0, rfl, by omega, by rw [hc0], rfl⟩ ?_
    rintro rk t0 M ⟨i, rfl, hi1, rfl, rfl⟩
    rcases Nat.lt_or_ge (i + 1) (r.len d) with hlt | hge
    · have o1 := hlod (i + 1) (by omega) (by omega)
      have o2 := hhid (i + 1) (by omega) (by omega)
      have d1 := fun c T' => rd c T' _ (hat _ o1)
      have d2 := fun c T' => rd c T' _ (hat _ o2)
      have y1 := hat _ o1
      have y2 := hat _ o2
      have n1 := fun M => hN M _ o1
      have n2 := fun M => hN M _ o2
      have f1 := hi ((r.lo d (i + 1)).at (bw B) (bh B))
      have f2 := hi ((r.hi d (i + 1)).at (bw B) (bh B))
      have hPi := fun M => hPd M (i + 1) (by omega) (by omega)
      have hsti := hstd i
      have g1c := hg0 (r.lo d (i + 1))
      have g2c := hg0 (r.hi d (i + 1))
      generalize (r.lo d (i + 1)).at (bw B) (bh B) = s1 at *
      generalize (r.hi d (i + 1)).at (bw B) (bh B) = s2 at *
      generalize (r.lo d (i + 1)).rc = g1 at *
      generalize (r.hi d (i + 1)).rc = g2 at *
      have zbx : ∀ X, Rd ((MC m q [.bool (C i)] ++ (T ++ ([some { cells := rr.cells }] : AM))) ++ X) q 0 (.bool (C i)) := fun X => by rw [List.append_assoc]; exact zb _ _
      have z3x : ∀ X, Rd ((MC m q [.bool (C i)] ++ (T ++ ([some { cells := rr.cells }] : AM))) ++ X) a3 0 _ := fun X => by rw [List.append_assoc]; exact z3 _ _
      have z4x : ∀ X, Rd ((MC m q [.bool (C i)] ++ (T ++ ([some { cells := rr.cells }] : AM))) ++ X) a4 0 _ := fun X => by rw [List.append_assoc]; exact z4 _ _
      have rdx : ∀ X, Rd ((MC m q [.bool (C i)] ++ (T ++ ([some { cells := rr.cells }] : AM))) ++ X) A (O + n) _ := fun X => by rw [List.append_assoc]; exact rdn _ _
      have d1x : ∀ X, Rd ((MC m q [.bool (C i)] ++ (T ++ ([some { cells := rr.cells }] : AM))) ++ X) A (O + s1) _ := fun X => by rw [List.append_assoc]; exact d1 _ _
      have d2x : ∀ X, Rd ((MC m q [.bool (C i)] ++ (T ++ ([some { cells := rr.cells }] : AM))) ++ X) A (O + s2) _ := fun X => by rw [List.append_assoc]; exact d2 _ _
      have twx : ∀ X, Rd ((MC m q [.bool (C i)] ++ (T ++ ([some { cells := rr.cells }] : AM))) ++ X) p 2 _ := fun X => by rw [List.append_assoc]; exact tw _ _
      have thx : ∀ X, Rd ((MC m q [.bool (C i)] ++ (T ++ ([some { cells := rr.cells }] : AM))) ++ X) p 3 _ := fun X => by rw [List.append_assoc]; exact th _ _
      have r5x : ∀ X, RdL ((MC m q [.bool (C i)] ++ (T ++ ([some { cells := rr.cells }] : AM))) ++ X) bp 0 rr.cells := fun X => by rw [List.append_assoc, List.append_assoc]; exact r5 _ _
      have zqx : ∀ X, ((MC m q [.bool (C i)] ++ (T ++ ([some { cells := rr.cells }] : AM))) ++ X)[q]? = some (some { cells := [.bool (C i)] }) := fun X => by rw [List.append_assoc]; exact zq _ _
      have stx : ∀ (c2 : Value) X, ((MC m q [.bool (C i)] ++ (T ++ ([some { cells := rr.cells }] : AM))) ++ X).set q (some { cells := [Value.bool (C i)].set 0 c2 }) = (MC m q [c2] ++ (T ++ ([some { cells := rr.cells }] : AM))) ++ X := fun c2 X => by rw [List.append_assoc, hmem, ← List.append_assoc]
      have hlx : ∀ c, (MC m q c ++ (T ++ ([some { cells := rr.cells }] : AM))).length = (MC m q [.bool (C i)] ++ (T ++ ([some { cells := rr.cells }] : AM))).length := fun c => by simp [MC.len]
      have gcx := fun c2 j bb hj => MC.cut (m := m) (c := [.bool (C i)]) (c' := [.bool c2]) hq (fun x hx => by simp at hx; subst hx; rfl) (T ++ ([some { cells := rr.cells }] : AM)) [] hcell0 (MC m q [.bool c2] ++ (T ++ ([some { cells := rr.cells }] : AM))).length j bb hj
      refine AW.rebase ?_
      generalize hMx : MC m q [.bool (C i)] ++ (T ++ [some { cells := rr.cells }]) = Mx at *
      have r9 : ∀ (T' : AM), RdL (Mx ++ (some { cells := g1.cells } :: T')) (Mx.length + 0) 0 g1.cells := fun T' => RdL.new rfl rfl
      have r10 : ∀ b0 (T' : AM), RdL (Mx ++ (b0 :: some { cells := g2.cells } :: T')) (Mx.length + 1) 0 g2.cells := fun b0 T' => RdL.new rfl rfl
      have hb5 : bp < Mx.length := by
        obtain ⟨bb, h1, _⟩ := r5x []
        have := (List.getElem?_eq_some_iff.1 h1).1
        simpa using this
      have hbm : m.length ≤ Mx.length := by rw [← hlx []]; simp [MC.len]
      have w2 : Low Mx.length (.pointer (some ⟨q, 0, none⟩)) := Low.ptr (by omega)
      have w3 : Low Mx.length (.pointer (some ⟨a3, 0, none⟩)) := Low.ptr (by obtain ⟨bb, h1, _⟩ := h3; have := (List.getElem?_eq_some_iff.1 h1).1; omega)
      have w4 : Low Mx.length (.pointer (some ⟨a4, 0, none⟩)) := Low.ptr (by obtain ⟨bb, h1, _⟩ := h4; have := (List.getElem?_eq_some_iff.1 h1).1; omega)
      have w5 : Low Mx.length (.pointer (some ⟨bp, 0, none⟩)) := Low.ptr hb5
      (repeat (first | (with_reducible refine AWo.cons ?_) | ((with_reducible refine Step.id ?_); first | ((with_reducible apply Step.move); exact rfl; exact rfl) | ((with_reducible apply Step.loadL (n := 4)); exact rfl; (focus (decide +kernel)); (focus (decide +kernel)); exact rfl; (focus (exact r5x _)); exact rfl; exact rfl) | ((with_reducible apply Step.lss); exact rfl; exact rfl; exact rfl) | ((with_reducible apply Step.extract); exact rfl; exact rfl; exact rfl) | ((with_reducible apply Step.callR fit); exact rfl; exact Tryd.func53; exact rfl; exact rfl; exact (hlend _)) | ((with_reducible apply Step.callR fit); exact rfl; exact Tryd.func54; exact rfl; exact rfl; exact (hPi _)) | ((with_reducible apply Step.alloc 0); exact rfl; exact ze23; exact rfl; (focus (first | (simp only [List.nil_append, List.cons_append, List.set_cons_zero, List.set_cons_succ, iv_set, bv_set, iv_rep, bv_rep]; done) | (simp only [List.nil_append, List.cons_append, List.set_cons_zero, List.set_cons_succ, iv_set, bv_set, iv_rep, bv_rep]; rfl) | rfl))) | ((with_reducible apply Step.storeA (k := 0) (n := 4)); exact rfl; exact rfl; exact rfl; exact rfl; (focus (decide +kernel)); exact rfl; (focus (kernel_rfl)); exact rfl; (focus (first | (simp only [List.nil_append, List.cons_append, List.set_cons_zero, List.set_cons_succ, iv_set, bv_set, iv_rep, bv_rep]; done) | (simp only [List.nil_append, List.cons_append, List.set_cons_zero, List.set_cons_succ, iv_set, bv_set, iv_rep, bv_rep]; rfl) | rfl))) | ((with_reducible apply Step.alloc 1); exact rfl; exact ze23; exact rfl; (focus (first | (simp only [List.nil_append, List.cons_append, List.set_cons_zero, List.set_cons_succ, iv_set, bv_set, iv_rep, bv_rep]; done) | (simp only [List.nil_append, List.cons_append, List.set_cons_zero, List.set_cons_succ, iv_set, bv_set, iv_rep, bv_rep]; rfl) | rfl))) | ((with_reducible apply Step.storeA (k := 1) (n := 4)); exact rfl; exact rfl; exact rfl; exact rfl; (focus (decide +kernel)); exact rfl; (focus (kernel_rfl)); exact rfl; (focus (first | (simp only [List.nil_append, List.cons_append, List.set_cons_zero, List.set_cons_succ, iv_set, bv_set, iv_rep, bv_rep]; done) | (simp only [List.nil_append, List.cons_append, List.set_cons_zero, List.set_cons_succ, iv_set, bv_set, iv_rep, bv_rep]; rfl) | rfl)))) | (with_reducible refine AWo.nil ?_) | ((with_reducible apply AW.seq)) | ((with_reducible apply Then.n)) | ((fail_if_success (with_reducible refine AW.atL (id := 9) ?_)); ((with_reducible apply AW.regL))) | ((with_reducible apply AW.block)) | ((with_reducible apply AW.skip)) | ((with_reducible apply AW.condT); exact rfl; (focus ((simp only [decide_eq_true_eq, decide_eq_false_iff_not, Bool.not_eq_true', Bool.not_eq_false', Bool.not_true, Bool.not_false]; first | assumption | omega))))))
      refine AW.flatM fit [(1, .int .i64 (n : Nat)), (2, .pointer (some ⟨q, 0, none⟩)), (3, .pointer (some ⟨a3, 0, none⟩)), (4, .pointer (some ⟨a4, 0, none⟩)), (5, .pointer (some ⟨bp, 0, none⟩)), (7, .int .i64 (2 + k : Nat)), (8, .int .i64 (i + 1 : Nat)), (9, .pointer (some ⟨Mx.length + 0, 0, none⟩)), (10, .pointer (some ⟨Mx.length + 1, 0, none⟩))] [1, 2, 3, 4, 5, 7, 8, 9, 10] [[], [0], [0], [1], [1, 0, 2], [0, 3], [4], [5], [0, 6], [0, 7], [0, 8], [9], [0, 10], [0, 11], [0, 12], [13], [5, 1, 0, 14, 14], [10, 0, 15], [0, 16], [13, 0, 17], [18], [19], [0, 20], [0, 21], [0, 22], [23], [0, 24], [0, 25], [0, 26], [27], [5, 1, 0, 13, 28], [10, 0, 29], [0, 30], [13, 0, 31], [32, 0], [0, 4, 34, 33, 32, 31, 30, 29, 28, 27, 26, 25, 24, 23, 22, 21, 20, 19, 18, 17, 16, 15, 14, 13, 12, 11, 10, 9, 8, 7, 6, 5, 4, 3, 2, 1, 0]] (by repeat (first | exact trivial | (refine And.intro rfl ?_))) rfl (by decide +kernel) ?_
      cases hci : C i with
      | false =>
        rw [hci] at zbx
        (repeat (first | ((with_reducible refine Step.id ?_); first | ((with_reducible apply Step.gdF); exact rfl; exact rfl; (focus (rfl))) | ((with_reducible apply Step.move); exact rfl; exact rfl) | ((with_reducible apply Step.load); exact rfl; (focus (decide +kernel)); exact rfl; (focus (exact zbx _))) | ((with_reducible apply Step.pickF); exact rfl; exact rfl; exact rfl; exact rfl; (focus (rfl)))) | (apply AWfL.cons; exact rfl) | ((with_reducible apply AWfL.last)) | exact ⟨put_same _ _ _, rfl⟩))
        have hnew : C (i + 1) = false := by rw [hsti, hci]; rfl
        ((with_reducible apply Step.storeC); exact rfl; exact rfl; exact (zqx _); exact rfl; (focus (decide +kernel)); exact rfl; exact rfl; (focus (simp)))
        rw [stx, show MC m q [Value.bool false] = MC m q [Value.bool (C (i + 1))] from by rw [hnew]]
        have hls := hlx [.bool (C (i + 1))]
        intro t2 ht2
        refine InBlk.n ?_
        refine Then.n ?_
        refine AW.weak ht2 ?_
        refine AW.gc (Gc.cut (l := [(1, .int .i64 (n : Nat)), (2, .pointer (some ⟨q, 0, none⟩)), (3, .pointer (some ⟨a3, 0, none⟩)), (4, .pointer (some ⟨a4, 0, none⟩)), (5, .pointer (some ⟨bp, 0, none⟩)), (7, .int .i64 (2 + k : Nat)), (8, .int .i64 (i + 1 : Nat))]) (by rw [hls]; exact Nat.le_refl _) (fun j bb hj => gcx (C (i + 1)) j bb (by rw [List.append_nil]; exact hj)) (by rw [hls]; exact (by repeat (first | exact trivial | (refine And.intro ⟨rfl, by (first | exact Low.rid (by assumption) (by simp) | exact .int _ _)⟩ ?_))))) ?_
        (repeat (first | (with_reducible refine AWo.cons ?_) | ((with_reducible refine Step.id ?_); first | ((with_reducible apply Step.move); exact rfl; exact rfl) | ((with_reducible apply Step.assign); exact rfl; exact rfl) | ((with_reducible apply Step.add); exact rfl; exact rfl; (focus (omega)); exact rfl)) | (with_reducible refine AWo.nil ?_) | ((with_reducible apply Then.n)) | ((with_reducible apply AW.regL))))
        exact ⟨_, _, by omega, (by repeat (first | exact trivial | (refine And.intro rfl ?_))), i + 1, rfl, by omega, rfl, rfl⟩
      | true =>
        rw [hci] at zbx
        (repeat (first | ((with_reducible refine Step.id ?_); first | ((with_reducible apply Step.gdT); exact rfl; exact rfl; (focus (rfl))) | ((with_reducible apply Step.move); exact rfl; exact rfl) | ((with_reducible apply Step.load); exact rfl; (focus (decide +kernel)); exact rfl; (focus (first | exact zbx _ | exact z3x _ | exact z4x _ | exact rdx _ | exact d1x _ | exact d2x _ | exact twx _ | exact thx _))) | ((with_reducible apply Step.loadL (n := 4)); exact rfl; (focus (decide +kernel)); (focus (decide +kernel)); exact rfl; (focus (exact RdL.new rfl rfl)); exact rfl; exact rfl) | ((with_reducible apply Step.ix1); exact rfl; (focus (assumption)); exact rfl; (focus (decide +kernel)); exact rfl; (focus (omega))) | ((with_reducible apply Step.field (k := 2)); exact rfl; (focus (decide +kernel)); exact rfl) | ((with_reducible apply Step.field (k := 3)); exact rfl; (focus (decide +kernel)); exact rfl) | ((with_reducible apply Step.sub); exact rfl; exact rfl; (focus (omega)); exact rfl) | ((with_reducible apply Step.geq); exact rfl; exact rfl; exact rfl) | ((with_reducible apply Step.nilp); exact rfl; exact rfl) | ((with_reducible apply Step.pickT); exact rfl; exact rfl; exact rfl; exact rfl; (focus (rfl))) | ((with_reducible apply Step.callR fit); exact rfl; exact Tryd.func36; exact rfl; exact rfl; exact (n1 _)) | ((with_reducible apply Step.callR fit); exact rfl; exact Tryd.func36; exact rfl; exact rfl; exact (n2 _))) | (apply AWfL.cons; exact rfl) | ((with_reducible apply AWfL.last)) | exact ⟨put_same _ _ _, rfl⟩))
        have hnew : C (i + 1) = decide (t.getD s2 0 ≤ t.getD n 0 - t.getD s1 0) := by rw [hsti, hci, Bool.true_and]; exact decide_eq_decide.2 ⟨fun h => by omega, fun h => by omega⟩
        ((with_reducible apply Step.storeC); exact rfl; exact rfl; exact (zqx _); exact rfl; (focus (decide +kernel)); exact rfl; exact rfl; (focus (simp)))
        rw [stx, show MC m q [Value.bool (decide (t.getD s2 0 ≤ t.getD n 0 - t.getD s1 0))] = MC m q [Value.bool (C (i + 1))] from by rw [hnew]]
        have hls := hlx [.bool (C (i + 1))]
        intro t2 ht2
        refine InBlk.n ?_
        refine Then.n ?_
        refine AW.weak ht2 ?_
        refine AW.gc (Gc.cut (l := [(1, .int .i64 (n : Nat)), (2, .pointer (some ⟨q, 0, none⟩)), (3, .pointer (some ⟨a3, 0, none⟩)), (4, .pointer (some ⟨a4, 0, none⟩)), (5, .pointer (some ⟨bp, 0, none⟩)), (7, .int .i64 (2 + k : Nat)), (8, .int .i64 (i + 1 : Nat))]) (by rw [hls]; exact Nat.le_refl _) (fun j bb hj => gcx (C (i + 1)) j bb (by rw [List.append_nil]; exact hj)) (by rw [hls]; exact (by repeat (first | exact trivial | (refine And.intro ⟨rfl, by (first | exact Low.rid (by assumption) (by simp) | exact .int _ _)⟩ ?_))))) ?_
        (repeat (first | (with_reducible refine AWo.cons ?_) | ((with_reducible refine Step.id ?_); first | ((with_reducible apply Step.move); exact rfl; exact rfl) | ((with_reducible apply Step.assign); exact rfl; exact rfl) | ((with_reducible apply Step.add); exact rfl; exact rfl; (focus (omega)); exact rfl)) | (with_reducible refine AWo.nil ?_) | ((with_reducible apply Then.n)) | ((with_reducible apply AW.regL))))
        exact ⟨_, _, by omega, (by repeat (first | exact trivial | (refine And.intro rfl ?_))), i + 1, rfl, by omega, rfl, rfl⟩
    · obtain hie : i + 1 = r.len d := by omega
      (repeat (first | (with_reducible refine AWo.cons ?_) | ((with_reducible refine Step.id ?_); first | ((with_reducible apply Step.move); exact rfl; exact rfl) | ((with_reducible apply Step.assign); exact rfl; exact rfl) | ((with_reducible apply Step.loadL (n := 4)); exact rfl; (focus (decide +kernel)); (focus (decide +kernel)); exact rfl; (focus (exact r5 _ [])); exact rfl; exact rfl) | ((with_reducible apply Step.add); exact rfl; exact rfl; (focus (omega)); exact rfl) | ((with_reducible apply Step.lss); exact rfl; exact rfl; exact rfl) | ((with_reducible apply Step.callR fit); exact rfl; exact Tryd.func53; exact rfl; exact rfl; exact (hlend _))) | (with_reducible refine AWo.nil ?_) | ((with_reducible apply AW.seq)) | ((with_reducible apply Then.n)) | ((with_reducible apply AW.regL)) | ((with_reducible apply AW.exit)) | ((with_reducible apply InBlk.n)) | ((with_reducible apply InBlk.hit)) | ((with_reducible apply Then.e)) | ((with_reducible apply AW.condF); exact rfl; (focus ((simp only [decide_eq_true_eq, decide_eq_false_iff_not, Bool.not_eq_true', Bool.not_eq_false', Bool.not_true, Bool.not_false]; first | assumption | omega))))))
      exact ⟨_, _, by omega, (by repeat (first | exact trivial | (refine And.intro rfl ?_))), k + 1, rfl, by omega, by rw [hWk, ← hie]; rfl, rfl⟩
end Go.Proofs.YtedbjmgchfgabaaDoor.Abs
namespace Go.Proofs.YtedbjmgchfgabaaDoor.Abs
set_option linter.unusedSimpArgs false
set_option linter.unusedVariables false
open Go.RowKit
open Go.Proofs.YtedbjmgchfgabaaDoor.Sim
open Go.Proofs
theorem ze100 : zeroB Tryd.prog 78 = some #[.pointer none] := by kernel_rfl
theorem ze4 : zeroB Tryd.prog 4 = some #[.bool false] := by kernel_rfl
/-- What Check answers. -/
def checkM (B : Brd) (K : List Kd) (t : List Int) : Int × Bool × Int :=
  if goodB B K = true then (if t.length = total (bw B) (bh B) then (if boundB (leafM B K) (bw B) (bh B) t = true then (tg (bw B) (bh B) t (wholeR B), true, 0) else (0, false, 0)) else (0, false, 3)) else (0, false, 2)
def chV (x : Int × Bool × Int) : Value := .tuple #[.int .i64 x.1, .bool x.2.1, .int .i64 x.2.2]
theorem Ren.tup3 {ρ : Nat → Nat} {n : Nat} (a : Int) (b : Bool) (c : Int) : Ren ρ n (.tuple #[.int .i64 a, .bool b, .int .i64 c]) (.tuple #[.int .i64 a, .bool b, .int .i64 c]) := .tuple _ _ rfl fun i hi => by
  simp at hi
  rcases (show i = 0 ∨ i = 1 ∨ i = 2 by omega) with rfl | rfl | rfl
  · exact .int _ _
  · exact .bool _
  · exact .int _ _
def I64s (t : List Int) : Prop := ∀ i, -9223372036854775808 ≤ t.getD i 0 ∧ t.getD i 0 ≤ 9223372036854775807
set_option maxHeartbeats 8000000 in
set_option maxRecDepth 100000 in
theorem Check_ok {m : AM} {sv kv tv : Value} {B : Brd} {K : List Kd} {t : List Int} (hs : Strs m sv B) (hk : Kds m kv K) (ht : Ints m tv t) (h64 : I64s t) :
    ACall Tryd.prog 22 #[sv, kv, tv] m (Ret (chV (checkM B K t)) m) := by
  refine ACall.drop (Ren.tup3 _ _ _) ?_
  have htm := ht
  obtain ⟨A, O, sl, la, rd⟩ := ht
  obtain ⟨q1, c1, rfl⟩ := sl.shape
  refine ACall.start Tryd.func22 rfl rfl ?_
  cases hg : goodB B K with
  | false =>
    have e : checkM B K t = (0, false, 2) := by simp [checkM, hg]
    have hN := fun T => newBoard_no (hs.old T) (hk.old T) hg
    (repeat (first | (with_reducible refine AWo.cons ?_) | ((with_reducible refine Step.id ?_); first | ((with_reducible apply Step.move); exact rfl; exact rfl) | ((with_reducible apply Step.assign); exact rfl; exact rfl) | ((with_reducible apply Step.load); exact rfl; (focus (decide +kernel)); exact rfl; (focus (exact Rd.new rfl rfl))) | ((with_reducible apply Step.ptrNil); exact rfl; exact rfl; exact un100; exact rfl) | ((with_reducible apply Step.callR fit); exact rfl; exact Tryd.func34; exact rfl; exact rfl; exact (hN _)) | ((with_reducible apply Step.box 0); exact rfl; exact rfl; (focus (kernel_rfl)); exact rfl; (focus (first | (simp only [List.nil_append, List.cons_append, List.set_cons_zero, List.set_cons_succ, iv_set, bv_set, iv_rep, bv_rep]; done) | (simp only [List.nil_append, List.cons_append, List.set_cons_zero, List.set_cons_succ, iv_set, bv_set, iv_rep, bv_rep]; rfl) | rfl))) | ((with_reducible apply Step.alloc 1); exact rfl; exact ze100; exact rfl; (focus (first | (simp only [List.nil_append, List.cons_append, List.set_cons_zero, List.set_cons_succ, iv_set, bv_set, iv_rep, bv_rep]; done) | (simp only [List.nil_append, List.cons_append, List.set_cons_zero, List.set_cons_succ, iv_set, bv_set, iv_rep, bv_rep]; rfl) | rfl))) | ((with_reducible apply Step.store (k := 1)); exact rfl; exact rfl; exact rfl; exact rfl; (focus (decide +kernel)); exact rfl; exact rfl; (focus (first | omega | (simp [iv, bv]; done) | (simp [iv, bv]; omega))); (focus (first | (simp only [List.nil_append, List.cons_append, List.set_cons_zero, List.set_cons_succ, iv_set, bv_set, iv_rep, bv_rep]; done) | (simp only [List.nil_append, List.cons_append, List.set_cons_zero, List.set_cons_succ, iv_set, bv_set, iv_rep, bv_rep]; rfl) | rfl)))) | (with_reducible refine AWo.nil ?_) | ((with_reducible apply AW.seq)) | ((with_reducible apply Then.n)) | ((with_reducible apply AW.regL)) | ((with_reducible apply AW.condT); exact rfl; (focus (rfl)))))
    (refine AW.ret ?_; (repeat (first | refine Then.r ?_ | refine InBlk.r ?_)))
    exact ⟨_, rfl, by rw [e]; rfl, _, rfl⟩
  | true =>
  have hgb : boardB B = true := by simp only [goodB, Bool.and_eq_true] at hg; exact hg.1
  have hin := good_in hgb
  (repeat (first | (with_reducible refine AWo.cons ?_) | ((with_reducible refine Step.id ?_); first | ((with_reducible apply Step.move); exact rfl; exact rfl) | ((with_reducible apply Step.assign); exact rfl; exact rfl) | ((with_reducible apply Step.box 0); exact rfl; exact rfl; (focus (kernel_rfl)); exact rfl; (focus (first | (simp only [List.nil_append, List.cons_append, List.set_cons_zero, List.set_cons_succ, iv_set, bv_set, iv_rep, bv_rep]; done) | (simp only [List.nil_append, List.cons_append, List.set_cons_zero, List.set_cons_succ, iv_set, bv_set, iv_rep, bv_rep]; rfl) | rfl)))) | (with_reducible refine AWo.nil ?_) | ((with_reducible apply AW.seq)) | ((with_reducible apply Then.n)) | ((with_reducible apply AW.regL))))
  ((with_reducible apply Step.callX fit); exact rfl; exact Tryd.func34; exact rfl; exact rfl; exact (newBoard_ok (hs.old _) (hk.old _) hg))
  rintro v m1 ⟨N1, hN1⟩ ⟨p, hp, rfl, hB⟩
  have htv : Rd m1 (m.length + 0) 0 (.slice q1 t.length c1) := by rw [hN1]; exact Rd.old _ (Rd.new rfl rfl)
  have ht1 : Ints m1 (.slice q1 t.length c1) t := by rw [hN1]; exact (htm.old _).old _
  have rd1 : ∀ k, k < t.length → Rd m1 A (O + k) (.int .i64 (t.getD k 0)) := fun k hk => by rw [hN1]; exact ((rd k hk).old _).old _
  have la1 : A < m1.length := by rw [hN1]; simp <;> omega
  have hm1 : ∃ N, m1 = m ++ N := ⟨_, by rw [hN1, List.append_assoc]⟩
  have hml : m.length + 1 ≤ m1.length := by rw [hN1, List.length_append, List.length_append]; simp
  clear hN1 hp
  have tw := hB.w
  have th := hB.h
  have hR := fun m => Rects_ok (m := m) (bw B : Nat) (bh B : Nat)
  rw [total_rects hg] at hR
  have htl := total_le hin.2.2.2 hin.2.1
  by_cases hl : t.length = total (bw B) (bh B)
  case neg =>
    have e : checkM B K t = (0, false, 3) := by simp [checkM, hg, hl]
    (repeat (first | (with_reducible refine AWo.cons ?_) | ((with_reducible refine Step.id ?_); first | ((with_reducible apply Step.move); exact rfl; exact rfl) | ((with_reducible apply Step.assign); exact rfl; exact rfl) | ((with_reducible apply Step.load); exact rfl; (focus (decide +kernel)); exact rfl; (focus (first | exact Rd.new rfl rfl | exact Rd.old _ (by assumption)))) | ((with_reducible apply Step.field (k := 2)); exact rfl; (focus (decide +kernel)); exact rfl) | ((with_reducible apply Step.field (k := 3)); exact rfl; (focus (decide +kernel)); exact rfl) | ((with_reducible apply Step.ptrNot); exact rfl; exact rfl; exact un100; exact rfl) | ((with_reducible apply Step.neq); exact rfl; exact rfl; exact rfl) | ((with_reducible apply Step.len); exact rfl; (focus (assumption)); (focus (decide +kernel)); exact rfl) | ((with_reducible apply Step.nilp); exact rfl; exact rfl) | ((with_reducible apply Step.extract); exact rfl; exact rfl; exact rfl) | ((with_reducible apply Step.callR fit); exact rfl; exact Tryd.func49; exact rfl; exact rfl; exact (hR _)) | ((with_reducible apply Step.alloc 0); exact rfl; exact ze100; exact rfl; (focus (first | (simp only [List.nil_append, List.cons_append, List.set_cons_zero, List.set_cons_succ, iv_set, bv_set, iv_rep, bv_rep]; done) | (simp only [List.nil_append, List.cons_append, List.set_cons_zero, List.set_cons_succ, iv_set, bv_set, iv_rep, bv_rep]; rfl) | rfl))) | ((with_reducible apply Step.store (k := 0)); exact rfl; exact rfl; exact rfl; exact rfl; (focus (decide +kernel)); exact rfl; exact rfl; (focus (first | omega | (simp [iv, bv]; done) | (simp [iv, bv]; omega))); (focus (first | (simp only [List.nil_append, List.cons_append, List.set_cons_zero, List.set_cons_succ, iv_set, bv_set, iv_rep, bv_rep]; done) | (simp only [List.nil_append, List.cons_append, List.set_cons_zero, List.set_cons_succ, iv_set, bv_set, iv_rep, bv_rep]; rfl) | rfl)))) | (with_reducible refine AWo.nil ?_) | ((with_reducible apply AW.seq)) | ((with_reducible apply Then.n)) | ((with_reducible apply AW.regL)) | ((with_reducible apply AW.drawL fit); (focus (decide +kernel))) | ((with_reducible apply AW.skip)) | ((with_reducible apply AW.condT); exact rfl; (focus ((simp only [decide_eq_true_eq, decide_eq_false_iff_not, Bool.not_eq_true', Bool.not_eq_false', Bool.not_true, Bool.not_false]; first | assumption | omega)))) | ((with_reducible apply AW.condF); exact rfl; (focus (rfl)))))
    (refine AW.ret ?_; (repeat (first | refine Then.r ?_ | refine InBlk.r ?_)))
    obtain ⟨N, hN⟩ := hm1
    exact ⟨_, rfl, by rw [e]; rfl, N ++ _, by rw [hN, List.append_assoc]⟩
  have hat := at_lt hin.2.2.2 hin.2.1 (show (wholeR B).ok (bw B) (bh B) by simp only [R4.ok, wholeR]; omega)
  (repeat (first | (with_reducible refine AWo.cons ?_) | ((with_reducible refine Step.id ?_); first | ((with_reducible apply Step.load); exact rfl; (focus (decide +kernel)); exact rfl; (focus (exact Rd.new rfl rfl))) | ((with_reducible apply Step.ptrNot); exact rfl; exact rfl; exact un100; exact rfl) | ((with_reducible apply Step.alloc 0); exact rfl; exact ze100; exact rfl; (focus (first | (simp only [List.nil_append, List.cons_append, List.set_cons_zero, List.set_cons_succ, iv_set, bv_set, iv_rep, bv_rep]; done) | (simp only [List.nil_append, List.cons_append, List.set_cons_zero, List.set_cons_succ, iv_set, bv_set, iv_rep, bv_rep]; rfl) | rfl))) | ((with_reducible apply Step.store (k := 0)); exact rfl; exact rfl; exact rfl; exact rfl; (focus (decide +kernel)); exact rfl; exact rfl; (focus (first | omega | (simp [iv, bv]; done) | (simp [iv, bv]; omega))); (focus (first | (simp only [List.nil_append, List.cons_append, List.set_cons_zero, List.set_cons_succ, iv_set, bv_set, iv_rep, bv_rep]; done) | (simp only [List.nil_append, List.cons_append, List.set_cons_zero, List.set_cons_succ, iv_set, bv_set, iv_rep, bv_rep]; rfl) | rfl)))) | (with_reducible refine AWo.nil ?_) | ((fail_if_success (with_reducible refine AW.atR (id := 4) ?_)); ((with_reducible apply AW.seq))) | ((with_reducible apply Then.n)) | ((with_reducible apply AW.regL)) | ((with_reducible apply AW.skip)) | ((with_reducible apply AW.condF); exact rfl; (focus (rfl)))))
  have z1 : BoardAt (m1 ++ [some { cells := [.pointer (some ⟨p, 0, none⟩)] }]) p B K := hB.old _
  have z2 : Rd (m1 ++ [some { cells := [.pointer (some ⟨p, 0, none⟩)] }]) (m.length + 0) 0 (.slice q1 t.length c1) := htv.old _
  have z3 : Rd (m1 ++ [some { cells := [.pointer (some ⟨p, 0, none⟩)] }]) (m1.length + 0) 0 (.pointer (some ⟨p, 0, none⟩)) := Rd.new rfl rfl
  have z4 : Ints (m1 ++ [some { cells := [.pointer (some ⟨p, 0, none⟩)] }]) (.slice q1 t.length c1) t := ht1.old _
  have z5 : ∀ k, k < t.length → Rd (m1 ++ [some { cells := [.pointer (some ⟨p, 0, none⟩)] }]) A (O + k) (.int .i64 (t.getD k 0)) := fun k hk => (rd1 k hk).old _
  have z6 : ∃ N, (m1 ++ [some ({ cells := [.pointer (some ⟨p, 0, none⟩)] } : Blk)]) = m ++ N := by
    obtain ⟨N, hN⟩ := hm1
    exact ⟨N ++ _, by rw [hN, List.append_assoc]⟩
  have z7 : m1.length + 1 = (m1 ++ [some ({ cells := [.pointer (some ⟨p, 0, none⟩)] } : Blk)]).length := by simp
  refine AW.rebase ?_
  change AW _ _ (m1 ++ [some { cells := [.pointer (some ⟨p, 0, none⟩)] }]) _ _ ((m1 ++ [some { cells := [.pointer (some ⟨p, 0, none⟩)] }]) ++ []) _
  generalize (m1 ++ [some ({ cells := [.pointer (some ⟨p, 0, none⟩)] } : Blk)]) = Mb at *
  have wl : Low Mb.length (.slice q1 t.length c1) := Low.of_sl sl (by omega)
  have w5 : Low Mb.length (.pointer (some ⟨m.length + 0, 0, none⟩)) := Low.ptr (by omega)
  have w9 : Low Mb.length (.pointer (some ⟨m1.length + 0, 0, none⟩)) := Low.ptr (by omega)
  have a5 : m.length + 0 < Mb.length := by omega
  have a9 : m1.length + 0 < Mb.length := by omega
  generalize m.length + 0 = p5 at *
  generalize m1.length + 0 = p9 at *
  clear hB htv ht1 rd1 hm1 tw th la1
  have tw := z1.w
  have th := z1.h
  (repeat (first | (with_reducible refine AWo.cons ?_) | ((with_reducible refine Step.id ?_); first | ((with_reducible apply Step.move); exact rfl; exact rfl) | ((with_reducible apply Step.assign); exact rfl; exact rfl) | ((with_reducible apply Step.load); exact rfl; (focus (decide +kernel)); exact rfl; (focus (exact Rd.old _ (by assumption)))) | ((with_reducible apply Step.field (k := 2)); exact rfl; (focus (decide +kernel)); exact rfl) | ((with_reducible apply Step.field (k := 3)); exact rfl; (focus (decide +kernel)); exact rfl) | ((with_reducible apply Step.neq); exact rfl; exact rfl; exact rfl) | ((with_reducible apply Step.len); exact rfl; (focus (assumption)); (focus (decide +kernel)); exact rfl) | ((with_reducible apply Step.nilp); exact rfl; exact rfl) | ((with_reducible apply Step.extract); exact rfl; exact rfl; exact rfl) | ((with_reducible apply Step.callR fit); exact rfl; exact Tryd.func49; exact rfl; exact rfl; exact (hR _))) | (with_reducible refine AWo.nil ?_) | ((with_reducible apply AW.seq)) | ((with_reducible apply Then.n)) | ((with_reducible apply AW.regL)) | ((with_reducible apply AW.block)) | ((with_reducible apply AW.drawL fit); (focus (decide +kernel))) | ((with_reducible apply AW.skip)) | ((with_reducible apply AW.condF); exact rfl; (focus ((simp only [decide_eq_true_eq, decide_eq_false_iff_not, Bool.not_eq_true', Bool.not_eq_false', Bool.not_true, Bool.not_false]; first | assumption | omega))))))
  rw [List.append_nil]
  refine AW.rebase ?_
  refine AW.loopT (fun n t' L => ∃ k : Nat, n = t.length - k ∧ k ≤ t.length ∧ L = [] ∧ (∀ j, j < k → 0 ≤ t.getD j 0) ∧
    t' = [(5, .pointer (some ⟨p5, 0, none⟩)), (9, .pointer (some ⟨p9, 0, none⟩)), (36, .slice q1 t.length c1), (37, .int .i64 (t.length : Nat)), (38, .int .i64 (k : Nat))])
    ⟨_, _, _, (Or.inl ⟨rfl, (by repeat (first | exact trivial | (refine And.intro rfl ?_)))⟩), 0, rfl, Nat.zero_le _, rfl, fun j hj => by omega, rfl⟩ ?_
  rintro n t' L ⟨k, rfl, hk2, rfl, hneg, rfl⟩
  rcases Nat.lt_or_ge k t.length with hkl | hkl
  · have hx := z5 k hkl
    by_cases hn : t.getD k 0 < 0
    · have e : checkM B K t = (0, false, 0) := by
        have : boundB (leafM B K) (bw B) (bh B) t = false := by
          rw [Bool.eq_false_iff]
          intro hc
          simp only [boundB, Bool.and_eq_true, List.all_eq_true, decide_eq_true_eq] at hc
          have := hc.1 (t.getD k 0) (by rw [getD_in _ _ hkl]; exact List.getElem_mem hkl)
          omega
        simp [checkM, hg, hl, this]
      (repeat (first | (with_reducible refine AWo.cons ?_) | ((with_reducible refine Step.id ?_); first | ((with_reducible apply Step.move); exact rfl; exact rfl) | ((with_reducible apply Step.assign); exact rfl; exact rfl) | ((with_reducible apply Step.load); exact rfl; (focus (decide +kernel)); exact rfl; (focus (exact Rd.old _ (by assumption)))) | ((with_reducible apply Step.ix1); exact rfl; (focus (assumption)); exact rfl; (focus (decide +kernel)); exact rfl; (focus (omega))) | ((with_reducible apply Step.lss); exact rfl; exact rfl; exact rfl)) | (with_reducible refine AWo.nil ?_) | ((with_reducible apply AW.seq)) | ((with_reducible apply Then.n)) | ((with_reducible apply AW.regL)) | ((with_reducible apply AW.block)) | ((with_reducible apply AW.skip)) | ((with_reducible apply AW.condT); exact rfl; (focus ((simp only [decide_eq_true_eq, decide_eq_false_iff_not, Bool.not_eq_true', Bool.not_eq_false', Bool.not_true, Bool.not_false]; first | assumption | omega))))))
      (refine AW.ret ?_; (repeat (first | refine Then.r ?_ | refine InBlk.r ?_)))
      obtain ⟨N, hN⟩ := z6
      exact ⟨_, rfl, by rw [e]; rfl, N ++ _, by rw [hN, List.append_assoc]⟩
    · (repeat (first | (with_reducible refine AWo.cons ?_) | ((with_reducible refine Step.id ?_); first | ((with_reducible apply Step.move); exact rfl; exact rfl) | ((with_reducible apply Step.assign); exact rfl; exact rfl) | ((with_reducible apply Step.load); exact rfl; (focus (decide +kernel)); exact rfl; (focus (exact Rd.old _ (by assumption)))) | ((with_reducible apply Step.ix1); exact rfl; (focus (assumption)); exact rfl; (focus (decide +kernel)); exact rfl; (focus (omega))) | ((with_reducible apply Step.add); exact rfl; exact rfl; (focus (omega)); exact rfl) | ((with_reducible apply Step.lss); exact rfl; exact rfl; exact rfl)) | (with_reducible refine AWo.nil ?_) | ((with_reducible apply AW.seq)) | ((with_reducible apply Then.n)) | ((with_reducible apply AW.regL)) | ((with_reducible apply AW.block)) | ((with_reducible apply InBlk.n)) | ((with_reducible apply AW.skip)) | ((with_reducible apply AW.condT); exact rfl; (focus ((simp only [decide_eq_true_eq, decide_eq_false_iff_not, Bool.not_eq_true', Bool.not_eq_false', Bool.not_true, Bool.not_false]; first | assumption | omega)))) | ((with_reducible apply AW.condF); exact rfl; (focus ((simp only [decide_eq_true_eq, decide_eq_false_iff_not, Bool.not_eq_true', Bool.not_eq_false', Bool.not_true, Bool.not_false]; first | assumption | omega))))))
      exact ⟨_, _, _, by omega, (Or.inl ⟨rfl, (by repeat (first | exact trivial | (refine And.intro rfl ?_)))⟩), k + 1, rfl, by omega, rfl, fun j hj => by
        rcases Nat.lt_succ_iff_lt_or_eq.1 hj with h | rfl
        · exact hneg j h
        · omega, rfl⟩
  · obtain rfl : k = t.length := by omega
    have hall : ∀ i, 0 ≤ t.getD i 0 ∧ t.getD i 0 ≤ 9223372036854775807 := fun i => by
      rcases Nat.lt_or_ge i t.length with h | h
      · exact ⟨hneg i h, (h64 i).2⟩
      · simp [List.getD_eq_getElem?_getD, h]
    have hneg' : (t.all fun x => decide (0 ≤ x)) = true := by
      rw [List.all_eq_true]
      intro x hx
      obtain ⟨i, hi, rfl⟩ := List.getElem_of_mem hx
      have := hneg i hi
      rw [getD_in _ _ hi] at this
      exact decide_eq_true this
    (repeat (first | (with_reducible refine AWo.cons ?_) | ((with_reducible refine Step.id ?_); first | ((with_reducible apply Step.load); exact rfl; (focus (decide +kernel)); exact rfl; (focus (exact Rd.old _ (by assumption)))) | ((with_reducible apply Step.lss); exact rfl; exact rfl; exact rfl) | ((with_reducible apply Step.fn); exact rfl; exact rfl; exact rfl) | ((with_reducible apply Step.alloc 0); exact rfl; exact ze4; exact rfl; (focus (first | (simp only [List.nil_append, List.cons_append, List.set_cons_zero, List.set_cons_succ, iv_set, bv_set, iv_rep, bv_rep]; done) | (simp only [List.nil_append, List.cons_append, List.set_cons_zero, List.set_cons_succ, iv_set, bv_set, iv_rep, bv_rep]; rfl) | rfl))) | ((with_reducible apply Step.store (k := 0)); exact rfl; exact rfl; exact rfl; exact rfl; (focus (decide +kernel)); exact rfl; exact rfl; (focus (first | omega | (simp [iv, bv]; done) | (simp [iv, bv]; omega))); (focus (first | (simp only [List.nil_append, List.cons_append, List.set_cons_zero, List.set_cons_succ, iv_set, bv_set, iv_rep, bv_rep]; done) | (simp only [List.nil_append, List.cons_append, List.set_cons_zero, List.set_cons_succ, iv_set, bv_set, iv_rep, bv_rep]; rfl) | rfl)))) | (with_reducible refine AWo.nil ?_) | ((with_reducible apply AW.seq)) | ((with_reducible apply Then.n)) | ((with_reducible apply AW.regL)) | ((with_reducible apply AW.exit)) | ((with_reducible apply InBlk.hit)) | ((with_reducible apply Then.e)) | ((with_reducible apply AW.condF); exact rfl; (focus ((simp only [decide_eq_true_eq, decide_eq_false_iff_not, Bool.not_eq_true', Bool.not_eq_false', Bool.not_true, Bool.not_false]; first | assumption | omega))))))
    have hE : ∀ M0 : AM, (∃ N, M0 = Mb ++ N) → M0.length = Mb.length + 1 → Rd M0 p5 0 (.slice q1 t.length c1) → Rd M0 p9 0 (.pointer (some ⟨p, 0, none⟩)) →
        ACall Tryd.prog 50 #[.pointer (some ⟨p, 0, none⟩), .func (.func 51) #[] #[.pointer (some ⟨Mb.length + 0, 0, none⟩), .pointer (some ⟨p5, 0, none⟩), .pointer (some ⟨p9, 0, none⟩)]] (MC M0 (Mb.length + 0) [.bool true]) (Ret (.tuple #[]) (MC M0 (Mb.length + 0) [.bool (fW (fun r b => b && okR (leafM B K) (bw B) (bh B) t r) (bw B) (bh B) (bw B) true)])) := fun M0 hN hlM r1 r2 =>
      each_ok (m0 := M0) (fun b => MC M0 (Mb.length + 0) [.bool b]) (fun r b => b && okR (leafM B K) (bw B) (bh B) t r) (fun _ _ => True) (caps := #[.pointer (some ⟨Mb.length + 0, 0, none⟩), .pointer (some ⟨p5, 0, none⟩), .pointer (some ⟨p9, 0, none⟩)]) Tryd.func51 rfl
      (fun v => by
        obtain ⟨N, rfl⟩ := hN
        obtain ⟨N', hN'⟩ := set_high (m0 := Mb) (N := N) (a := Mb.length + 0) (by omega) (some { cells := [.bool v] })
        unfold MC
        rw [hN']
        exact z1.old _) hg ⟨fun i j y x s _ _ _ _ _ => trivial⟩
      (fun i j y x b T b1 b2 b3 b4 _ => checkc_ok (m := M0) (m1 := Mb) hN z1 hg (by omega) (by omega) r1 r2 (by omega) (by omega) z4 hl hall (step_ok b1 b2 b3 b4) b)
      (fun v => MC.len) (fun v v' j b h => by
        have := MC.cut (m := M0) (c := [.bool v]) (c' := [.bool v']) (q := Mb.length + 0) (by omega) (fun x hx => by simp at hx; subst hx; rfl) [] [] (fun b hb => by simp at hb) M0.length j b (by simpa using h)
        simpa using this) (Low.func (fun v hv => by
        simp only [List.mem_cons, List.not_mem_nil, or_false] at hv
        rcases hv with rfl | rfl | rfl
        · exact Low.ptr (by omega)
        · exact Low.ptr (by omega)
        · exact Low.ptr (by omega))) true trivial
    have hE := hE (Mb ++ [some { cells := [.bool true] }]) ⟨_, rfl⟩ (by simp) (z2.old _) (z3.old _)
    have hMM : ∀ c, MC (Mb ++ [some { cells := [.bool true] }]) (Mb.length + 0) c = Mb ++ [some { cells := c }] := fun c => by
      unfold MC
      rw [List.set_append_right _ _ (by omega), show Mb.length + 0 - Mb.length = 0 by omega]
      rfl
    simp only [hMM] at hE
    rw [okFin] at hE
    ((with_reducible apply Step.callM fit); exact rfl; exact Tryd.func50; exact rfl; exact rfl; exact hE)
    have hbd : boundB (leafM B K) (bw B) (bh B) t = (allR (bw B) (bh B) (bh B)).all fun r => okR (leafM B K) (bw B) (bh B) t r := by unfold boundB; rw [hneg', Bool.true_and]
    cases hfin : (allR (bw B) (bh B) (bh B)).all fun r => okR (leafM B K) (bw B) (bh B) t r with
    | false =>
      have e : checkM B K t = (0, false, 0) := by simp [checkM, hg, hl, hbd, hfin]
      (repeat (first | (with_reducible refine AWo.cons ?_) | ((with_reducible refine Step.id ?_); first | ((with_reducible apply Step.assign); exact rfl; exact rfl) | ((with_reducible apply Step.load); exact rfl; (focus (decide +kernel)); exact rfl; (focus (exact Rd.new rfl rfl))) | ((with_reducible apply Step.not); exact rfl; exact rfl)) | (with_reducible refine AWo.nil ?_) | ((with_reducible apply AW.seq)) | ((with_reducible apply Then.n)) | ((with_reducible apply AW.regL)) | ((with_reducible apply AW.condT); exact rfl; (focus (rfl)))))
      (refine AW.ret ?_; (repeat (first | refine Then.r ?_ | refine InBlk.r ?_)))
      obtain ⟨N, hN⟩ := z6
      exact ⟨_, rfl, by rw [e]; rfl, N ++ _, by rw [hN, List.append_assoc]⟩
    | true =>
      have e : checkM B K t = (tg (bw B) (bh B) t (wholeR B), true, 0) := by simp [checkM, hg, hl, hbd, hfin]
      (repeat (first | (with_reducible refine AWo.cons ?_) | ((with_reducible refine Step.id ?_); first | ((with_reducible apply Step.load); exact rfl; (focus (decide +kernel)); exact rfl; (focus (exact Rd.new rfl rfl))) | ((with_reducible apply Step.not); exact rfl; exact rfl)) | (with_reducible refine AWo.nil ?_) | ((fail_if_success (with_reducible refine AW.atR (id := 17) ?_)); ((with_reducible apply AW.seq))) | ((with_reducible apply Then.n)) | ((with_reducible apply AW.regL)) | ((with_reducible apply AW.skip)) | ((with_reducible apply AW.condF); exact rfl; (focus (rfl)))))
      have w1 := fun T => whole_ok (z1.old T)
      have nn := fun T => num_ok (m := T) hin.2.2.2 hin.2.1 (show (wholeR B).ok (bw B) (bh B) by simp only [R4.ok, wholeR]; omega)
      change ∀ T, ACall Tryd.prog 37 _ _ (Ret (.agg (wholeR B).rc.cells.toArray) _) at w1
      change ∀ T, ACall Tryd.prog 36 #[_, _, .agg (wholeR B).rc.cells.toArray] _ _ at nn
      have x4 := z5 _ (by rw [hl]; exact hat)
      refine AW.seq ?_
      refine AW.flatN fit [(5, .pointer (some ⟨p5, 0, none⟩)), (9, .pointer (some ⟨p9, 0, none⟩))] [(6, .int .i64 (t.getD ((wholeR B).at (bw B) (bh B)) 0)), (7, .bool true), (8, .int .i64 0)] [5, 9] [[], [], [0], [0], [0], [], [0], [0], [0], [], [0], [6, 2, 0, 0], [11, 0], [0], [0, 2, 13, 12, 11, 10, 9, 8, 7, 6, 5, 4, 3, 2, 1, 0], [0, 14, 13, 12, 11, 10, 9, 8, 7, 6, 5, 4, 3, 2, 1, 0], [0, 15, 14, 13, 12, 11, 10, 9, 8, 7, 6, 5, 4, 3, 2, 1, 0]] (by repeat (first | exact trivial | (refine And.intro rfl ?_))) rfl (by decide +kernel) ?_ ?_
      · (repeat (first | ((with_reducible refine Step.id ?_); first | ((with_reducible apply Step.assign); exact rfl; exact rfl) | ((with_reducible apply Step.load); exact rfl; (focus (decide +kernel)); exact rfl; (focus (exact Rd.old _ (by assumption)))) | ((with_reducible apply Step.ix1); exact rfl; (focus (assumption)); exact rfl; (focus (decide +kernel)); exact rfl; (focus (omega))) | ((with_reducible apply Step.field (k := 2)); exact rfl; (focus (decide +kernel)); exact rfl) | ((with_reducible apply Step.field (k := 3)); exact rfl; (focus (decide +kernel)); exact rfl) | ((with_reducible apply Step.nilp); exact rfl; exact rfl) | ((with_reducible apply Step.callR fit); exact rfl; exact Tryd.func37; exact rfl; exact rfl; exact (w1 _)) | ((with_reducible apply Step.callR fit); exact rfl; exact Tryd.func36; exact rfl; exact rfl; exact (nn _))) | (apply AWf.cons; exact rfl) | exact ⟨put_same _ _ _, rfl⟩ | ((with_reducible apply AWf.nil))))
        exact (by repeat (first | exact trivial | (refine And.intro rfl ?_)))
      intro t2 ht2
      refine Then.n ?_
      refine AW.weak ht2 ?_
      (refine AW.ret ?_; (repeat (first | refine Then.r ?_ | refine InBlk.r ?_)))
      obtain ⟨N, hN⟩ := z6
      exact ⟨_, rfl, by rw [e]; rfl, N ++ _, by rw [hN, List.append_assoc]⟩
end Go.Proofs.YtedbjmgchfgabaaDoor.Abs
namespace Go.Proofs.YtedbjmgchfgabaaDoor.Abs
set_option linter.unusedSimpArgs false
set_option linter.unusedVariables false
open Go.RowKit
open Go.Proofs.YtedbjmgchfgabaaDoor.Sim
open Go.Proofs
theorem table_I64 {B : Brd} {K : List Kd} (hg : goodB B K = true) : I64s (boardT B K) := by
  have hgb : boardB B = true := by simp only [goodB, Bool.and_eq_true] at hg; exact hg.1
  have hin := good_in hgb
  intro i
  have := (bestT_ok (leaf := leafM B K) hin.2.2.2 hin.2.1).fair (fun r hd => by have := V_in hg hd; omega) i
  show -9223372036854775808 ≤ (bestT _ _ _).getD i 0 ∧ (bestT _ _ _).getD i 0 ≤ _
  omega
theorem table_bound {B : Brd} {K : List Kd} (hg : goodB B K = true) : checkM B K (boardT B K) = (bestM B K, true, 0) := by
  have hgb : boardB B = true := by simp only [goodB, Bool.and_eq_true] at hg; exact hg.1
  have hin := good_in hgb
  have hT := bestT_ok (leaf := leafM B K) hin.2.2.2 hin.2.1
  have hlen : (boardT B K).length = total (bw B) (bh B) := hT.len
  have hf := hT.fair (fun r hd => by have := V_in hg hd; omega)
  have hb : boundB (leafM B K) (bw B) (bh B) (boardT B K) = true := by
    simp only [boundB, Bool.and_eq_true, List.all_eq_true, decide_eq_true_eq]
    refine ⟨fun x hx => ?_, fun r hr => ?_⟩
    · obtain ⟨i, hi, rfl⟩ := List.getElem_of_mem hx
      have := (hf i).1
      change 0 ≤ (boardT B K).getD i 0 at this
      rwa [getD_in _ _ hi] at this
    · have hok := mem_all.1 hr
      have e : ∀ r' : R4, r'.ok (bw B) (bh B) → tg (bw B) (bh B) (boardT B K) r' = V (leafM B K) r' := hT.dn
      have hcut : ∀ d, cutOk (bw B) (bh B) (boardT B K) r d (r.len d - 1) = true := fun d => by
        refine cutOk_iff.2 fun i h1 h2 => ?_
        have h3 : i + 1 ≤ r.len d := by omega
        rw [e _ (lo_ok hok h1 h3), e _ (hi_ok hok h1 h3), e _ hok]
        exact Int.le_trans (le_mxc (f := fun i => V (leafM B K) (r.lo d i) + V (leafM B K) (r.hi d i)) _ i h1 h2) (cut_le_V hok d)
      unfold okR
      rw [hcut, hcut, e _ hok, decide_eq_true (leaf_le_V hok)]
      rfl
  simp [checkM, hg, hlen, hb, bestM]
set_option maxRecDepth 100000 in
theorem Prove_ok {m : AM} {sv kv : Value} {B : Brd} {K : List Kd} (hs : Strs m sv B) (hk : Kds m kv K) (hg : goodB B K = true) :
    ACall Tryd.prog 21 #[sv, kv] m (More (fun m' v => ∃ q, v = .tuple #[.slice (some ⟨q, 0, none⟩) (total (bw B) (bh B)) (total (bw B) (bh B)), .int .i64 0] ∧ m'[q]? = some (some { cells := iv (boardT B K) })) m) := by
  refine ACall.start Tryd.func21 rfl rfl ?_
  (repeat (first | (with_reducible refine AWo.cons ?_) | ((with_reducible refine Step.id ?_); first | ((with_reducible apply Step.move); exact rfl; exact rfl) | ((with_reducible apply Step.assign); exact rfl; exact rfl)) | (with_reducible refine AWo.nil ?_) | ((with_reducible apply AW.seq)) | ((with_reducible apply Then.n)) | ((with_reducible apply AW.regL))))
  ((with_reducible apply Step.callX fit); exact rfl; exact Tryd.func34; exact rfl; exact rfl; exact (newBoard_ok (hs.old _) (hk.old _) hg))
  rintro v m1 ⟨N1, hN1⟩ ⟨p, hp, rfl, hB⟩
  (repeat (first | (with_reducible refine AWo.cons ?_) | ((with_reducible refine Step.id ?_); first | ((with_reducible apply Step.move); exact rfl; exact rfl) | ((with_reducible apply Step.assign); exact rfl; exact rfl) | ((with_reducible apply Step.ptrNot); exact rfl; exact rfl; exact un100; exact rfl)) | (with_reducible refine AWo.nil ?_) | ((with_reducible apply AW.seq)) | ((with_reducible apply Then.n)) | ((with_reducible apply AW.regL)) | ((with_reducible apply AW.skip)) | ((with_reducible apply AW.condF); exact rfl; (focus (rfl)))))
  ((with_reducible apply Step.callX fit); exact rfl; exact Tryd.func35; exact rfl; exact rfl; exact (best_ok (hB.old _) hg))
  rintro v m2 ⟨N2, hN2⟩ ⟨q, hq, rfl, hqc⟩
  (repeat (first | (with_reducible refine AWo.cons ?_) | ((with_reducible refine Step.id ?_); ((with_reducible apply Step.assign); exact rfl; exact rfl)) | (with_reducible refine AWo.nil ?_) | ((with_reducible apply Then.n))))
  (refine AW.ret ?_; (repeat (first | refine Then.r ?_ | refine InBlk.r ?_)))
  exact ⟨_, rfl, N1 ++ N2, by rw [hN2, hN1]; simp, q, rfl, by rw [List.append_nil]; exact hqc⟩
end Go.Proofs.YtedbjmgchfgabaaDoor.Abs
namespace Go.Proofs.YtedbjmgchfgabaaDoor.Abs
set_option linter.unusedSimpArgs false
set_option linter.unusedVariables false
/-- The sum of f i over i below n. -/
def sm (f : Nat → Int) : Nat → Int
  | 0 => 0
  | n + 1 => sm f n + f n
/-- What lies on bench b of the jobs below n. -/
def ld (p : Nat → Int) (f : Nat → Nat) (n b : Nat) : Int := sm (fun i => if f i = b then p i else 0) n
end Go.Proofs.YtedbjmgchfgabaaDoor.Abs
namespace Go.Proofs.YtedbjmgchfgabaaDoor.Abs
set_option linter.unusedSimpArgs false
set_option linter.unusedVariables false
section
variable {p : Nat → Int} {F G : Nat → Nat} {k m : Nat} {n : Int}
end
section
variable {p : Nat → Int} {F G : Nat → Nat} {k m : Nat} {n : Int}
/-- The longest first, each into the first bar with room. -/
structure FFD (p : Nat → Int) (F : Nat → Nat) (k : Nat) (n : Int) : Prop where
  pos : ∀ i, i < k → 1 ≤ p i ∧ p i ≤ n
  dec : ∀ i j, i ≤ j → j < k → p j ≤ p i
  full : ∀ i, i < k → ∀ b, b < F i → n < ld p F i b + p i
  room : ∀ i, i < k → ld p F i (F i) + p i ≤ n
theorem least_ex {q : Nat → Prop} [DecidablePred q] {i : Nat} (h : q i) : ∃ e, e ≤ i ∧ q e ∧ ∀ j, j < e → ¬ q j := by
  induction i using Nat.strongRecOn with
  | _ i ih =>
    by_cases h1 : ∃ j, j < i ∧ q j
    · obtain ⟨j, hj, hq⟩ := h1
      obtain ⟨e, e1, e2, e3⟩ := ih j hj hq
      exact ⟨e, by omega, e2, e3⟩
    · exact ⟨i, Nat.le_refl _, h, fun j hj hq => h1 ⟨j, hj, hq⟩⟩
/-- Some excess item, the last of them. -/
theorem FFD.last (h : FFD p F k n) {i : Nat} (hi : i < k) (he : m ≤ F i) : ∃ e, e < k ∧ m ≤ F e ∧ ∀ j, j < k → m ≤ F j → p e ≤ p j := by
  obtain ⟨d, d1, d2, d3⟩ := least_ex (q := fun d => m ≤ F (k - 1 - d)) (i := k - 1 - i) (by rw [show k - 1 - (k - 1 - i) = i by omega]; exact he)
  refine ⟨k - 1 - d, by omega, d2, fun j hj hm => ?_⟩
  refine h.dec j (k - 1 - d) ?_ (by omega)
  rcases Nat.lt_or_ge (k - 1 - d) j with q | q
  · exfalso
    refine d3 (k - 1 - j) (by omega) ?_
    rw [show k - 1 - (k - 1 - j) = j by omega]; exact hm
  · exact q
theorem FFD.nn (h : FFD p F k n) : ∀ i, i < k → 0 ≤ p i := fun i hi => by have := h.pos i hi; omega
end
section
variable {p : Nat → Int} {G : Nat → Nat} {k m : Nat} {n t : Int}
end
end Go.Proofs.YtedbjmgchfgabaaDoor.Abs
namespace Go.Proofs.YtedbjmgchfgabaaDoor.Abs
set_option linter.unusedSimpArgs false
set_option linter.unusedVariables false
/-- How many bars, how much of the last one is used, which strip came last. -/
abbrev Ld := Nat × Int × Nat
section
variable {n : Int} {p : Nat → Int} {k : Nat}
def l2 (l : Ld) : Nat × Int := (l.1, l.2.1)
end
section
variable {n : Int} {p : Nat → Int} {k m : Nat} {G : Nat → Nat}
end
end Go.Proofs.YtedbjmgchfgabaaDoor.Abs
namespace Go.Proofs.YtedbjmgchfgabaaDoor.Abs
set_option linter.unusedSimpArgs false
set_option linter.unusedVariables false
def ms (le : Int → Int → Bool) (l : List Int) : List Int := l.mergeSort le
section
variable {le : Int → Int → Bool} {l p A B A1 A2 B1 B2 : List Int}
end
end Go.Proofs.YtedbjmgchfgabaaDoor.Abs
namespace Go.Proofs.YtedbjmgchfgabaaDoor.Abs
set_option linter.unusedSimpArgs false
set_option linter.unusedVariables false
def upI (n : Nat) : List Int := (List.range n).map (Nat.cast : Nat → Int)
def leL (l : List Int) (a b : Int) : Bool := decide (-(l.getD a.toNat 0) < -(l.getD b.toNat 0) ∨ -(l.getD a.toNat 0) = -(l.getD b.toNat 0) ∧ ((0 : Int) < 0 ∨ (0 : Int) = 0 ∧ a ≤ b))
theorem leL_iff {l : List Int} {a b : Int} : leL l a b = true ↔ l.getD b.toNat 0 < l.getD a.toNat 0 ∨ l.getD b.toNat 0 = l.getD a.toNat 0 ∧ a ≤ b := by
  simp only [leL, decide_eq_true_eq, Int.lt_irrefl, false_or, true_and]; omega
def ordL (l : List Int) : List Int := ms (leL l) (upI l.length)
structure Pick (l : List Int) (mt : List Bool) (i : Nat) (x : Int) : Prop where
  none : x < 0 → x = -1 ∧ ∀ j, j < i → mt.getD j false = true
  some : 0 ≤ x → x < i ∧ mt.getD x.toNat false = false ∧ ∀ j : Nat, j < i → mt.getD j false = false → leL l x j = true
theorem Pick.zero (l : List Int) (mt : List Bool) : Pick l mt 0 (-1) := ⟨fun _ => ⟨rfl, fun j hj => by omega⟩, fun h => by omega⟩
theorem Pick.take {l : List Int} {mt : List Bool} {i : Nat} {x : Int} (h : Pick l mt i x) (hm : mt.getD i false = false) (hx : x < 0 ∨ 0 ≤ x ∧ l.getD x.toNat 0 < l.getD i 0) : Pick l mt (i + 1) i :=
  ⟨fun h' => by omega, fun _ => by
    refine ⟨by omega, by rw [Int.toNat_natCast]; exact hm, fun j hj hjm => ?_⟩
    rcases Nat.lt_succ_iff_lt_or_eq.1 hj with h' | h'
    · rcases hx with hx | ⟨hx, hlt⟩
      · rw [(h.none hx).2 j h'] at hjm; cases hjm
      · have h3 := (h.some hx).2.2 j h' hjm
        rw [leL_iff] at h3 ⊢
        simp only [Int.toNat_natCast] at *
        omega
    · subst h'
      rw [leL_iff]; omega⟩
def oi (l : List Int) (k : Nat) : Nat := ((ordL l).getD k 0).toNat
end Go.Proofs.YtedbjmgchfgabaaDoor.Abs
namespace Go.Proofs.YtedbjmgchfgabaaDoor.Abs
set_option linter.unusedSimpArgs false
set_option linter.unusedVariables false
open Go.RowKit
open Go.Proofs.YtedbjmgchfgabaaDoor.Sim
open Go.Proofs
/-- A node: what is done, at what number, turned or not. -/
abbrev Nd := Int × Int × Bool
def ndc1 (n : Nd) : List Value := [.int .i64 n.1, .int .i64 n.2.1, .bool n.2.2]
def ndc (l : List Nd) : List Value := l.flatMap ndc1
theorem ndc_len (l : List Nd) : (ndc l).length = l.length * 3 := by
  induction l with
  | nil => rfl
  | cons k l ih =>
    have : ndc (k :: l) = ndc1 k ++ ndc l := rfl
    rw [this, List.length_append, ih]
    simp [ndc1]
    omega
theorem ndc_get : ∀ (l : List Nd) (i : Nat), i < l.length → ∀ (j : Nat) (v : Value), (ndc1 (l.getD i (0, 0, false)))[j]? = some v → (ndc l)[i * 3 + j]? = some v
  | [], i, hi, _, _, _ => by simp at hi
  | k :: l, 0, _, j, v, hj => by
    have e : ndc (k :: l) = ndc1 k ++ ndc l := rfl
    have hj' : (ndc1 k)[j]? = some v := by simpa using hj
    have hlt := (List.getElem?_eq_some_iff.1 hj').1
    rw [e, Nat.zero_mul, Nat.zero_add, List.getElem?_append_left hlt]
    exact hj'
  | k :: l, i + 1, hi, j, v, hj => by
    have e : ndc (k :: l) = ndc1 k ++ ndc l := rfl
    have e3 : (ndc1 k).length = 3 := rfl
    rw [e, List.getElem?_append_right (by rw [e3]; omega), e3, show (i + 1) * 3 + j - 3 = i * 3 + j by omega]
    exact ndc_get l i (by simpa using hi) j v (by simpa using hj)
theorem ndc_one (l : List Nd) : (ndc l).all (·.oneCell') = true := by
  rw [List.all_eq_true]
  intro v hv
  obtain ⟨x, _, hx⟩ := List.mem_flatMap.1 hv
  simp only [ndc1, List.mem_cons, List.not_mem_nil, or_false] at hx
  rcases hx with rfl | rfl | rfl <;> rfl
/-- The least number below n of which q holds, else n. -/
def lq (q : Nat → Bool) (n : Nat) : Nat := (List.range n).findIdx q
theorem lq_le (q : Nat → Bool) (n : Nat) : lq q n ≤ n := by
  have := List.findIdx_le_length (p := q) (xs := List.range n)
  simpa [lq] using this
theorem lq_before {q : Nat → Bool} {n j : Nat} (h : j < lq q n) : q j = false := by
  have hj : j < (List.range n).length := by have := lq_le q n; simp; omega
  have := List.not_of_lt_findIdx (p := q) (xs := List.range n) h
  simpa using this
theorem lq_at {q : Nat → Bool} {n : Nat} (h : lq q n < n) : q (lq q n) = true := by
  have h' : (List.range n).findIdx q < (List.range n).length := by simpa [lq] using h
  have := List.findIdx_getElem (p := q) (xs := List.range n) (w := h')
  simpa [lq] using this
theorem lq_eq {q : Nat → Bool} {n k : Nat} (hk : k ≤ n) (h1 : ∀ j, j < k → q j = false) (h2 : k < n → q k = true) : lq q n = k := by
  rcases Nat.lt_trichotomy (lq q n) k with h | h | h
  · have a := lq_at (q := q) (n := n) (by omega)
    rw [h1 _ h] at a; cases a
  · exact h
  · have a := lq_before h
    have b := h2 (by have := lq_le q n; omega)
    rw [a] at b; cases b
section
variable {B : Brd} {K : List Kd}
def pkQ (B : Brd) (K : List Kd) (r : R4) (k : Nat) : Bool := okB B (K.getD k default) r && decide ((K.getD k default).worth = V (leafM B K) r)
def ctQ (B : Brd) (K : List Kd) (r : R4) (d : Bool) (i : Nat) : Bool := decide (V (leafM B K) (r.lo d (i + 1)) + V (leafM B K) (r.hi d (i + 1)) = V (leafM B K) r)
/-- The plan of the rule. -/
def plM (B : Brd) (K : List Kd) : Nat → R4 → List Nd
  | 0, _ => []
  | f + 1, r =>
    if V (leafM B K) r = 0 then [(0, 0, false)]
    else if lq (pkQ B K r) K.length < K.length then [(1, (lq (pkQ B K r) K.length : Nat), turnedB (K.getD (lq (pkQ B K r) K.length) default) r)]
    else if lq (ctQ B K r true) (r.len true - 1) < r.len true - 1 then (2, (lq (ctQ B K r true) (r.len true - 1) + 1 : Nat), false) :: (plM B K f (r.lo true (lq (ctQ B K r true) (r.len true - 1) + 1)) ++ plM B K f (r.hi true (lq (ctQ B K r true) (r.len true - 1) + 1)))
    else if lq (ctQ B K r false) (r.len false - 1) < r.len false - 1 then (3, (lq (ctQ B K r false) (r.len false - 1) + 1 : Nat), false) :: (plM B K f (r.lo false (lq (ctQ B K r false) (r.len false - 1) + 1)) ++ plM B K f (r.hi false (lq (ctQ B K r false) (r.len false - 1) + 1)))
    else []
theorem leafN_wit2 (B : Brd) (K : List Kd) (r : R4) : ∀ n, leafN B K r n = 0 ∨ ∃ k, k < n ∧ okB B (K.getD k default) r = true ∧ (K.getD k default).worth = leafN B K r n
  | 0 => .inl rfl
  | n + 1 => by
    simp only [leafN, fitsM_some]
    split
    · rename_i h
      exact .inr ⟨n, by omega, h.1, rfl⟩
    · rcases leafN_wit2 B K r n with h | ⟨k, h1, h2, h3⟩
      · exact .inl h
      · exact .inr ⟨k, by omega, h2, h3⟩
/-- One of the three ways is open. -/
theorem plan_open {w h : Nat} {r : R4} (hr : r.ok w h) (h0 : ¬ V (leafM B K) r = 0) (h1 : ¬ lq (pkQ B K r) K.length < K.length) (h2 : ¬ lq (ctQ B K r true) (r.len true - 1) < r.len true - 1) : lq (ctQ B K r false) (r.len false - 1) < r.len false - 1 := by
  rcases Nat.lt_or_ge (lq (ctQ B K r false) (r.len false - 1)) (r.len false - 1) with h3 | h3
  · exact h3
  · exfalso
    have hc : ∀ d, ¬ lq (ctQ B K r d) (r.len d - 1) < r.len d - 1 → ¬ cutM (V (leafM B K)) r d = V (leafM B K) r := fun d hd e => by
      unfold cutM at e
      rcases mxc_wit (f := fun i => V (leafM B K) (r.lo d i) + V (leafM B K) (r.hi d i)) (r.len d - 1) with q | ⟨i, i1, i2, q⟩
      · omega
      · have hb := lq_before (q := ctQ B K r d) (n := r.len d - 1) (j := i - 1) (by omega)
        unfold ctQ at hb
        rw [show i - 1 + 1 = i by omega, decide_eq_false_iff_not] at hb
        have q' : mxc (fun i => V (leafM B K) (r.lo d i) + V (leafM B K) (r.hi d i)) (r.len d - 1) = V (leafM B K) (r.lo d i) + V (leafM B K) (r.hi d i) := q
        omega
    have hl : ¬ leafM B K r = V (leafM B K) r := fun e => by
      rcases leafN_wit2 B K r K.length with q | ⟨k, k1, k2, k3⟩
      · have : leafM B K r = 0 := q
        omega
      · have hb := lq_before (q := pkQ B K r) (n := K.length) (j := k) (by omega)
        unfold pkQ at hb
        rw [k2, Bool.true_and, decide_eq_false_iff_not] at hb
        have : leafM B K r = leafN B K r K.length := rfl
        omega
    have e := V_eq (leaf := leafM B K) hr
    have a1 := hc true h2
    have a2 := hc false (by omega)
    omega
end
section
variable {P : Program} {nt : Nat} {ops : Array Oper} {t : Fm} {m : AM} {K : Fm → AM → Prop} {d T : Nat} {p : String} {af : Array Edge}
/-- Elements are added to a row of one's own that holds no more than its elements: a new row. -/
theorem Step.appOX {x y : Operand} {X Y e e' : TypeId} {by_ s r n xl sz k q : Nat} {z : Array Value} {c new : List Value} {kd : Kind} {M L L' : AM} (hk : L.length = k) (hx : evo t x = some (.slice (some ⟨M.length + q, 0, none⟩) n n)) (hy : evo t y = some (.slice (some ⟨r, 0, none⟩) xl xl)) (hE : elemB P X = some (e, s, by_, z)) (hY : P.underlying Y = some (.slice e'))
    (hs : Nat.blt 0 s = true) (hxl : 0 < xl) (hq : L[q]? = some (some { cells := c })) (hc : c.length = n * s) (hr : (M ++ L)[r]? = some (some { cells := new, kind := kd, size := sz })) (hn : new.length = xl * s) (hn1 : new.all (·.oneCell') = true) (hb : (n + xl) * by_ ≤ 1099511627776 ∧ n + xl ≤ 1099511627776) (hlt : Nat.blt d nt = true)
    (hL : L ++ [some { cells := c ++ new, kind := .grow, size := s }] = L') (hK : K (put t d (.slice (some ⟨M.length + k, 0, none⟩) (n + xl) (n + xl))) (M ++ L')) :
    Step P nt ops ⟨some d, .call ⟨.builtin .append, #[x, y], #[X, Y]⟩, T, p, af, none⟩ t (M ++ L) K := by
  subst hL
  have hs : 0 < s := Nat.le_of_ble_eq_true hs
  refine .l rfl rfl hlt rfl (by simp [Op.operands, Call.operands, hx, hy]) (loudN hk rfl (v := .slice (some ⟨M.length + k, 0, none⟩) (n + xl) (n + xl)) ?_ hK)
  have hrl : r < (M ++ L).length := (List.getElem?_eq_some_iff.1 hr).1
  have hql : q < L.length := (List.getElem?_eq_some_iff.1 hq).1
  have hcell : acells ((M ++ L) ++ [none]) s xl (.slice (some ⟨r, 0, none⟩) xl xl) = some new := by
    have hg : ((M ++ L) ++ [none])[r]? = some (some { cells := new, kind := kd, size := sz }) := by rw [List.getElem?_append_left hrl, hr]
    simp only [acells, hg]
    rw [if_neg (by omega), if_pos ⟨Nat.le_refl _, by simp [hn]⟩]
    simp [← hn]
  have hg : ((M ++ L) ++ [none])[M.length + q]? = some (some { cells := c }) := by rw [List.append_assoc, get_app, List.getElem?_append_left hql, hq]
  simp only [aloud, evD_of hx, evD_of hy, aappend, hE, hY, aSliceLen, hcell]
  rw [if_neg (by simp [hn1]; omega), if_neg (by omega)]
  simp only [hg]
  rw [if_neg (by omega), if_pos ⟨hb.1, hb.2, Nat.le_refl _⟩, if_pos (by simp [hc])]
  rw [set_new_at M L hk]
  simp [List.take_of_length_le (show c.length ≤ n * s by omega)]
/-- Elements are added to a row that may grow: its block is let go. -/
theorem Step.appGX {x y : Operand} {X Y e e' : TypeId} {by_ s r n xl sz k q : Nat} {z : Array Value} {c new : List Value} {kd : Kind} {M L L' : AM} (hk : L.length = k) (hx : evo t x = some (.slice (some ⟨M.length + q, 0, none⟩) n n)) (hy : evo t y = some (.slice (some ⟨r, 0, none⟩) xl xl)) (hE : elemB P X = some (e, s, by_, z)) (hY : P.underlying Y = some (.slice e'))
    (hs : Nat.blt 0 s = true) (hxl : 0 < xl) (hq : L[q]? = some (some { cells := c, kind := .grow, size := s })) (hc : c.length = n * s) (hr : (M ++ L)[r]? = some (some { cells := new, kind := kd, size := sz })) (hn : new.length = xl * s) (hn1 : new.all (·.oneCell') = true) (hb : (n + xl) * by_ ≤ 1099511627776 ∧ n + xl ≤ 1099511627776) (hlt : Nat.blt d nt = true)
    (hL : L.set q none ++ [some { cells := c ++ new, kind := .grow, size := s }] = L') (hK : K (put t d (.slice (some ⟨M.length + k, 0, none⟩) (n + xl) (n + xl))) (M ++ L')) :
    Step P nt ops ⟨some d, .call ⟨.builtin .append, #[x, y], #[X, Y]⟩, T, p, af, none⟩ t (M ++ L) K := by
  subst hL
  have hs : 0 < s := Nat.le_of_ble_eq_true hs
  refine .l rfl rfl hlt rfl (by simp [Op.operands, Call.operands, hx, hy]) (loudN hk rfl (v := .slice (some ⟨M.length + k, 0, none⟩) (n + xl) (n + xl)) ?_ hK)
  have hrl : r < (M ++ L).length := (List.getElem?_eq_some_iff.1 hr).1
  have hql : q < L.length := (List.getElem?_eq_some_iff.1 hq).1
  have hcell : acells ((M ++ L) ++ [none]) s xl (.slice (some ⟨r, 0, none⟩) xl xl) = some new := by
    have hg : ((M ++ L) ++ [none])[r]? = some (some { cells := new, kind := kd, size := sz }) := by rw [List.getElem?_append_left hrl, hr]
    simp only [acells, hg]
    rw [if_neg (by omega), if_pos ⟨Nat.le_refl _, by simp [hn]⟩]
    simp [← hn]
  have hg : ((M ++ L) ++ [none])[M.length + q]? = some (some { cells := c, kind := .grow, size := s }) := by rw [List.append_assoc, get_app, List.getElem?_append_left hql, hq]
  simp only [aloud, evD_of hx, evD_of hy, aappend, hE, hY, aSliceLen, hcell]
  rw [if_neg (by simp [hn1]; omega), if_neg (by omega)]
  simp only [hg]
  rw [if_neg (by omega), if_pos ⟨hb.1, hb.2, Nat.le_refl _⟩, if_pos ⟨by simp [hc], trivial⟩]
  simp only [List.drop_zero, Option.some.injEq, Prod.mk.injEq, true_and]
  have h1 : ((M ++ L) ++ [none]).set (M.length + q) none = (M ++ L.set q none) ++ [none] := by
    rw [List.append_assoc, set_app, List.set_append_left _ _ hql, List.append_assoc]
  rw [h1, List.take_of_length_le (by omega)]
  exact set_new_at M (L.set q none) (k := k) (by simpa using hk) _ none
end
/-- A plan in memory: a whole row of its own. -/
def PL (b0 : Nat) (l : List Nd) (M : AM) (v : Value) : Prop := ∃ (a : Nat) (kd : Kind) (sz : Nat), b0 ≤ a ∧ v = .slice (some ⟨a, 0, none⟩) l.length l.length ∧ 0 < l.length ∧ M[a]? = some (some { cells := ndc l, kind := kd, size := sz }) ∧ ((kd = .own ∧ sz = 1) ∨ (kd = .grow ∧ sz = 3))
end Go.Proofs.YtedbjmgchfgabaaDoor.Abs
namespace Go.Proofs.YtedbjmgchfgabaaDoor.Abs
set_option linter.unusedSimpArgs false
set_option linter.unusedVariables false
open Go.RowKit
open Go.Proofs.YtedbjmgchfgabaaDoor.Sim
open Go.Proofs
/-- A piece: its kind, where it lies, turned or not. -/
abbrev Plc := Nat × R4 × Bool
def plc1 (x : Plc) : List Value := .int .i64 (x.1 : Nat) :: (x.2.1.rc.cells ++ [.bool x.2.2])
def plc (l : List Plc) : List Value := l.flatMap plc1
theorem plc1_len (x : Plc) : (plc1 x).length = 6 := rfl
theorem plc_len (l : List Plc) : (plc l).length = l.length * 6 := by
  induction l with
  | nil => rfl
  | cons k l ih =>
    have : plc (k :: l) = plc1 k ++ plc l := rfl
    rw [this, List.length_append, ih, plc1_len]
    simp
    omega
theorem plc_get : ∀ (l : List Plc) (i : Nat), i < l.length → ∀ (j : Nat) (v : Value), (plc1 (l.getD i default))[j]? = some v → (plc l)[i * 6 + j]? = some v
  | [], i, hi, _, _, _ => by simp at hi
  | k :: l, 0, _, j, v, hj => by
    have e : plc (k :: l) = plc1 k ++ plc l := rfl
    have hj' : (plc1 k)[j]? = some v := by simpa using hj
    have hlt := (List.getElem?_eq_some_iff.1 hj').1
    rw [e, Nat.zero_mul, Nat.zero_add, List.getElem?_append_left hlt]
    exact hj'
  | k :: l, i + 1, hi, j, v, hj => by
    have e : plc (k :: l) = plc1 k ++ plc l := rfl
    have e3 : (plc1 k).length = 6 := rfl
    rw [e, List.getElem?_append_right (by rw [e3]; omega), e3, show (i + 1) * 6 + j - 6 = i * 6 + j by omega]
    exact plc_get l i (by simpa using hi) j v (by simpa using hj)
/-- The reading of a plan: its pieces, and the nodes behind it. -/
def rdM (B : Brd) (K : List Kd) : Nat → R4 → List Nd → Option (List Plc × List Nd)
  | 0, _, _ => none
  | _ + 1, _, [] => none
  | f + 1, r, n :: p =>
    if n.1 = 0 then (if n.2.1 = 0 ∧ n.2.2 = false then some ([], p) else none)
    else if n.1 = 1 then (if 0 ≤ n.2.1 ∧ n.2.1 < K.length ∧ okB B (K.getD n.2.1.toNat default) r = true ∧ turnedB (K.getD n.2.1.toNat default) r = n.2.2 then some ([(n.2.1.toNat, r, n.2.2)], p) else none)
    else if n.1 = 2 ∨ n.1 = 3 then
      (if n.2.2 = false ∧ 1 ≤ n.2.1 ∧ n.2.1 < r.len (decide (n.1 = 2)) then
        match rdM B K f (r.lo (decide (n.1 = 2)) n.2.1.toNat) p with
        | none => none
        | some (l1, p1) => match rdM B K f (r.hi (decide (n.1 = 2)) n.2.1.toNat) p1 with
          | none => none
          | some (l2, p2) => some (l1 ++ l2, p2)
      else none)
    else none
theorem rd_nil (B : Brd) (K : List Kd) (f : Nat) (r : R4) : rdM B K (f + 1) r [] = none := rfl
theorem rd_waste {B : Brd} {K : List Kd} {f : Nat} {r : R4} {n : Nd} {p : List Nd} (h : n.1 = 0) : rdM B K (f + 1) r (n :: p) = if n.2.1 = 0 ∧ n.2.2 = false then some ([], p) else none := by
  simp only [rdM]
  rw [if_pos h]
theorem rd_piece {B : Brd} {K : List Kd} {f : Nat} {r : R4} {n : Nd} {p : List Nd} (h : n.1 = 1) : rdM B K (f + 1) r (n :: p) = if 0 ≤ n.2.1 ∧ n.2.1 < K.length ∧ okB B (K.getD n.2.1.toNat default) r = true ∧ turnedB (K.getD n.2.1.toNat default) r = n.2.2 then some ([(n.2.1.toNat, r, n.2.2)], p) else none := by
  simp only [rdM]
  rw [if_neg (by omega), if_pos h]
theorem rd_nocut {B : Brd} {K : List Kd} {f : Nat} {r : R4} {n : Nd} {p : List Nd} (d : Bool) (h : n.1 = opI d) (hc : ¬ (n.2.2 = false ∧ 1 ≤ n.2.1 ∧ n.2.1 < r.len d)) : rdM B K (f + 1) r (n :: p) = none := by
  have hd : decide (n.1 = 2) = d := by rw [h]; cases d <;> rfl
  have h3 : n.1 = 2 ∨ n.1 = 3 := by rw [h]; cases d <;> simp [opI]
  simp only [rdM, hd]
  rw [if_neg (by omega), if_neg (by omega), if_pos h3, if_neg hc]
theorem rd_docut {B : Brd} {K : List Kd} {f i : Nat} {r : R4} {p : List Nd} (d : Bool) (h1 : 1 ≤ i) (h2 : i + 1 ≤ r.len d) : rdM B K (f + 1) r ((opI d, (i : Nat), false) :: p) = match rdM B K f (r.lo d i) p with
    | none => none
    | some (l1, p1) => match rdM B K f (r.hi d i) p1 with
      | none => none
      | some (l2, p2) => some (l1 ++ l2, p2) := by
  have hd : decide (opI d = 2) = d := by cases d <;> rfl
  have h3 : opI d = 2 ∨ opI d = 3 := by cases d <;> simp [opI]
  simp only [rdM, hd, Int.toNat_natCast]
  rw [if_neg (by omega), if_neg (by omega), if_pos h3, if_pos ⟨trivial, by omega, by omega⟩]
theorem rd_other {B : Brd} {K : List Kd} {f : Nat} {r : R4} {n : Nd} {p : List Nd} (h0 : ¬ n.1 = 0) (h1 : ¬ n.1 = 1) (h2 : ¬ n.1 = 2) (h3 : ¬ n.1 = 3) : rdM B K (f + 1) r (n :: p) = none := by
  simp only [rdM]
  rw [if_neg h0, if_neg h1, if_neg (by omega)]
def worthL (K : List Kd) : List Plc → Int
  | [] => 0
  | x :: l => (K.getD x.1 default).worth + worthL K l
theorem worthL_app (K : List Kd) (a b : List Plc) : worthL K (a ++ b) = worthL K a + worthL K b := by
  induction a with
  | nil => simp [worthL]
  | cons x a ih => simp only [List.cons_append, worthL, ih]; omega
theorem rdM_cut {B : Brd} {K : List Kd} {f : Nat} {r : R4} {n : Nd} {p p' : List Nd} {l : List Plc} (h : rdM B K (f + 1) r (n :: p) = some (l, p')) :
    (l = [] ∧ p' = p) ∨ (∃ k, k < K.length ∧ okB B (K.getD k default) r = true ∧ turnedB (K.getD k default) r = n.2.2 ∧ l = [(k, r, n.2.2)] ∧ p' = p) ∨
      ∃ d i l1 p1 l2, 1 ≤ i ∧ i + 1 ≤ r.len d ∧ rdM B K f (r.lo d i) p = some (l1, p1) ∧ rdM B K f (r.hi d i) p1 = some (l2, p') ∧ l = l1 ++ l2 := by
  obtain ⟨o, i, t⟩ := n
  simp only [rdM] at h
  split at h
  · split at h
    · injection h with h; injection h with h1 h2
      exact .inl ⟨h1.symm, h2.symm⟩
    · cases h
  · split at h
    · split at h
      · rename_i c
        obtain ⟨c1, c2, c3, c4⟩ := c
        injection h with h; injection h with h1 h2
        exact .inr (.inl ⟨i.toNat, by omega, c3, c4, h1.symm, h2.symm⟩)
      · cases h
    · split at h
      · split at h
        · rename_i c
          obtain ⟨c1, c2, c3⟩ := c
          split at h
          · cases h
          · rename_i l1 p1 e1
            split at h
            · cases h
            · rename_i l2 p2 e2
              injection h with h; injection h with h1 h2
              subst h2
              exact .inr (.inr ⟨_, i.toNat, l1, p1, l2, by omega, by omega, e1, e2, h1.symm⟩)
        · cases h
      · cases h
theorem rdM_len {B : Brd} {K : List Kd} : ∀ (f : Nat) {r : R4} {p p' : List Nd} {l : List Plc}, rdM B K f r p = some (l, p') → l.length + p'.length + 1 ≤ p.length + 1 ∧ p'.length + 1 ≤ p.length
  | 0, _, _, _, _, h => by simp [rdM] at h
  | _ + 1, _, [], _, _, h => by simp [rdM] at h
  | f + 1, r, n :: p, p', l, h => by
    rcases rdM_cut h with ⟨rfl, rfl⟩ | ⟨k, _, _, _, rfl, rfl⟩ | ⟨d, i, l1, p1, l2, _, _, e1, e2, rfl⟩
    · simp
    · simp; omega
    · have a1 := rdM_len f e1
      have a2 := rdM_len f e2
      simp only [List.length_append, List.length_cons]
      omega
theorem rdM_all {B : Brd} {K : List Kd} {w h : Nat} : ∀ (f : Nat) {r : R4} {p p' : List Nd} {l : List Plc}, r.ok w h → rdM B K f r p = some (l, p') → ∀ x ∈ l, x.1 < K.length ∧ x.2.1.ok w h ∧ okB B (K.getD x.1 default) x.2.1 = true ∧ turnedB (K.getD x.1 default) x.2.1 = x.2.2
  | 0, _, _, _, _, _, h => by simp [rdM] at h
  | _ + 1, _, [], _, _, _, h => by simp [rdM] at h
  | f + 1, r, n :: p, p', l, hr, h => by
    rcases rdM_cut h with ⟨rfl, rfl⟩ | ⟨k, k1, k2, k3, rfl, rfl⟩ | ⟨d, i, l1, p1, l2, i1, i2, e1, e2, rfl⟩
    · intro x hx; simp at hx
    · intro x hx
      simp at hx
      subst hx
      exact ⟨k1, hr, k2, k3⟩
    · intro x hx
      rcases List.mem_append.1 hx with hx | hx
      · exact rdM_all f (lo_ok hr i1 i2) e1 x hx
      · exact rdM_all f (hi_ok hr i1 i2) e2 x hx
theorem worthL_in {K : List Kd} (hK : kindsB K = true) : ∀ (l : List Plc), (∀ x ∈ l, x.1 < K.length) → 0 ≤ worthL K l ∧ worthL K l ≤ l.length * 1000000
  | [], _ => by simp [worthL]
  | x :: l, h => by
    have a := worthL_in hK l fun y hy => h y (by simp [hy])
    have b := kdB_in (kinds_get hK (h x (by simp)))
    simp only [worthL, List.length_cons]
    omega
end Go.Proofs.YtedbjmgchfgabaaDoor.Abs
namespace Go.Proofs.YtedbjmgchfgabaaDoor.Abs
set_option linter.unusedSimpArgs false
set_option linter.unusedVariables false
open Go.Proofs
/-- Does a rectangle have a cell? -/
def inR (r : R4) (x y : Nat) : Bool := decide (r.x ≤ x ∧ x < r.x + r.a ∧ r.y ≤ y ∧ y < r.y + r.b)
/-- A byte of a string. -/
def byte8 (s : ByteArray) (i : Nat) : UInt8 := s[i]?.getD 0
theorem byteAt_8 (s : ByteArray) (i : Nat) : byteAt s i = (byte8 s i).toNat := rfl
section
variable {B : Brd} {r : R4}
theorem skinRow (h : skinB B = true) {y : Nat} (hy : y < bh B) : (rowOf B y).size = bw B ∧ ∀ x, x < bw B → 48 ≤ byteAt (rowOf B y) x ∧ byteAt (rowOf B y) x ≤ 57 := by
  simp only [skinB, Bool.and_eq_true, decide_eq_true_eq, List.all_eq_true] at h
  have hm : rowOf B y ∈ B := by
    unfold rowOf
    rw [getD_in _ _ hy]
    exact List.getElem_mem hy
  have := h.2 _ hm
  simp only [rowB, Bool.and_eq_true, decide_eq_true_eq, List.all_eq_true, List.mem_range] at this
  exact ⟨this.1, fun x hx => this.2 x (by rw [this.1]; exact hx)⟩
theorem skin_in (h : skinB B = true) : (1 ≤ bh B ∧ bh B ≤ 48) ∧ 1 ≤ bw B ∧ bw B ≤ 48 := by
  simp only [skinB, Bool.and_eq_true, decide_eq_true_eq] at h
  unfold bh bw
  omega
end
end Go.Proofs.YtedbjmgchfgabaaDoor.Abs
namespace Go.Proofs.YtedbjmgchfgabaaDoor.Abs
set_option linter.unusedSimpArgs false
set_option linter.unusedVariables false
open Go.RowKit
open Go.Proofs.YtedbjmgchfgabaaDoor.Sim
open Go.Proofs
theorem kds_at {m L : AM} {k : Nat} {l : List Kd} (h : L[k]? = some (gb (kvc l) 5)) : Kds (m ++ L) (gv (m.length + k) l.length) l := by
  have hlt : m.length + k < (m ++ L).length := by
    rw [List.length_append]
    have := (List.getElem?_eq_some_iff.1 h).1
    omega
  refine ⟨m.length + k, 0, gv_sl _ _, hlt, fun i hi => ?_⟩
  have hp : 0 < (kvc l).length := by rw [kvc_len]; omega
  rw [gb_pos hp] at h
  refine ⟨_, by rw [get_app]; exact h, fun j v hj => ?_⟩
  rw [Nat.zero_add]
  exact kvc_get l i hi j v hj
end Go.Proofs.YtedbjmgchfgabaaDoor.Abs
namespace Go.Proofs.YtedbjmgchfgabaaDoor.Abs
set_option linter.unusedSimpArgs false
set_option linter.unusedVariables false
open Go.RowKit
open Go.Proofs.YtedbjmgchfgabaaDoor.Sim
open Go.Proofs
section
variable {P : Program} {nt : Nat} {ops : Array Oper} {t : Fm} {m : AM} {K : Fm → AM → Prop} {d T : Nat} {p : String} {af : Array Edge}
theorem Step.appOXg {x y : Operand} {X Y e e' : TypeId} {by_ s a r n xl sz : Nat} {z : Array Value} {c new : List Value} {kd : Kind} (hx : evo t x = some (.slice (some ⟨a, 0, none⟩) n n)) (hy : evo t y = some (.slice (some ⟨r, 0, none⟩) xl xl)) (hE : elemB P X = some (e, s, by_, z)) (hY : P.underlying Y = some (.slice e'))
    (hs : Nat.blt 0 s = true) (hxl : 0 < xl) (hq : m[a]? = some (some { cells := c })) (hc : c.length = n * s) (hr : m[r]? = some (some { cells := new, kind := kd, size := sz })) (hn : new.length = xl * s) (hn1 : new.all (·.oneCell') = true) (hb : (n + xl) * by_ ≤ 1099511627776 ∧ n + xl ≤ 1099511627776) (hlt : Nat.blt d nt = true)
    (hK : K (put t d (.slice (some ⟨m.length, 0, none⟩) (n + xl) (n + xl))) (m ++ [some { cells := c ++ new, kind := .grow, size := s }])) :
    Step P nt ops ⟨some d, .call ⟨.builtin .append, #[x, y], #[X, Y]⟩, T, p, af, none⟩ t m K := by
  have := Step.appOX (P := P) (nt := nt) (ops := ops) (T := T) (p := p) (af := af) (M := []) (L := m) (k := m.length) (q := a) (K := K) rfl (by simpa using hx) hy hE hY hs hxl hq hc (by simpa using hr) hn hn1 hb hlt rfl (by simpa using hK)
  simpa using this
theorem Step.appGXg {x y : Operand} {X Y e e' : TypeId} {by_ s a r n xl sz : Nat} {z : Array Value} {c new : List Value} {kd : Kind} (hx : evo t x = some (.slice (some ⟨a, 0, none⟩) n n)) (hy : evo t y = some (.slice (some ⟨r, 0, none⟩) xl xl)) (hE : elemB P X = some (e, s, by_, z)) (hY : P.underlying Y = some (.slice e'))
    (hs : Nat.blt 0 s = true) (hxl : 0 < xl) (hq : m[a]? = some (some { cells := c, kind := .grow, size := s })) (hc : c.length = n * s) (hr : m[r]? = some (some { cells := new, kind := kd, size := sz })) (hn : new.length = xl * s) (hn1 : new.all (·.oneCell') = true) (hb : (n + xl) * by_ ≤ 1099511627776 ∧ n + xl ≤ 1099511627776) (hlt : Nat.blt d nt = true)
    (hK : K (put t d (.slice (some ⟨m.length, 0, none⟩) (n + xl) (n + xl))) (m.set a none ++ [some { cells := c ++ new, kind := .grow, size := s }])) :
    Step P nt ops ⟨some d, .call ⟨.builtin .append, #[x, y], #[X, Y]⟩, T, p, af, none⟩ t m K := by
  have := Step.appGX (P := P) (nt := nt) (ops := ops) (T := T) (p := p) (af := af) (M := []) (L := m) (k := m.length) (q := a) (K := K) rfl (by simpa using hx) hy hE hY hs hxl hq hc (by simpa using hr) hn hn1 hb hlt rfl (by simpa using hK)
  simpa using this
end
set_option maxHeartbeats 4000000 in
set_option maxRecDepth 100000 in
theorem pw_ok {m : AM} {p q a5 a3 : Nat} {B : Brd} {K : List Kd} (hB : BoardAt m p B K) (hg : goodB B K = true) (h5 : Rd m a5 0 (.slice (some ⟨q, 0, none⟩) (total (bw B) (bh B)) (total (bw B) (bh B)))) (h3 : Rd m a3 0 (.pointer (some ⟨p, 0, none⟩)))
    (hq : m[q]? = some (some { cells := iv (boardT B K) })) {r : R4} (hr : r.ok (bw B) (bh B)) :
    ACall Tryd.prog 77 #[.agg r.rc.cells.toArray, .pointer (some ⟨a5, 0, none⟩), .pointer (some ⟨a3, 0, none⟩)] m (Ret (.int .i64 (V (leafM B K) r)) m) := by
  have hgb : boardB B = true := by simp only [goodB, Bool.and_eq_true] at hg; exact hg.1
  have hin := good_in hgb
  have tw := hB.w
  have th := hB.h
  have hat := at_lt hin.2.2.2 hin.2.1 hr
  have hT := bestT_ok (leaf := leafM B K) hin.2.2.2 hin.2.1
  have hv : (boardT B K).getD (r.at (bw B) (bh B)) 0 = V (leafM B K) r := hT.dn _ hr
  have hlen : (boardT B K).length = total (bw B) (bh B) := hT.len
  have nn := fun T => num_ok (m := T) hin.2.2.2 hin.2.1 hr
  change ∀ T, ACall Tryd.prog 36 #[_, _, .agg r.rc.cells.toArray] _ _ at nn
  have hrd : Rd m q (r.at (bw B) (bh B)) (.int .i64 (V (leafM B K) r)) := by rw [← hv]; exact rd_iv hq rfl (by omega)
  have r0 : ∀ T : AM, RdL (m ++ (some { cells := r.rc.cells } :: T)) (m.length + 0) 0 r.rc.cells := fun T => RdL.new rfl rfl
  have g0 : ∀ v ∈ r.rc.cells, g0 v = true := fun v hv => by
    simp [Rc.cells] at hv
    rcases hv with rfl | rfl | rfl | rfl <;> rfl
  generalize V (leafM B K) r = vv at *
  generalize r.at (bw B) (bh B) = n at *
  refine ACall.start Tryd.func77 rfl rfl ?_
  (repeat (first | (with_reducible refine AWo.cons ?_) | ((with_reducible refine Step.id ?_); first | ((with_reducible apply Step.assign); exact rfl; exact rfl) | ((with_reducible apply Step.box 0); exact rfl; exact rfl; (focus (kernel_rfl)); exact rfl; (focus (first | (simp only [List.nil_append, List.cons_append, List.set_cons_zero, List.set_cons_succ, iv_set, bv_set, iv_rep, bv_rep]; done) | (simp only [List.nil_append, List.cons_append, List.set_cons_zero, List.set_cons_succ, iv_set, bv_set, iv_rep, bv_rep]; rfl) | rfl)))) | (with_reducible refine AWo.nil ?_) | ((fail_if_success (with_reducible refine AW.atR (id := 1) ?_)); ((with_reducible apply AW.seq))) | ((with_reducible apply Then.n)) | ((with_reducible apply AW.regL))))
  change AW _ _ _ _ _ (m ++ [some { cells := r.rc.cells }]) _
  generalize r.rc = rr at *
  (repeat' (first | ((with_reducible refine Step.id ?_); first | ((with_reducible apply Step.assign); exact rfl; exact rfl) | ((with_reducible apply Step.load); exact rfl; (focus (decide +kernel)); exact rfl; (focus (exact Rd.old _ (by assumption)))) | ((with_reducible apply Step.loadL (n := 4)); exact rfl; (focus (decide +kernel)); (focus (decide +kernel)); exact rfl; (focus (exact RdL.new rfl rfl)); exact rfl; exact rfl) | ((with_reducible apply Step.ix1z); exact rfl; (focus (exact Sl.mk (by omega))); exact rfl; (focus (decide +kernel)); exact rfl; (focus (omega))) | ((with_reducible apply Step.field (k := 2)); exact rfl; (focus (decide +kernel)); exact rfl) | ((with_reducible apply Step.field (k := 3)); exact rfl; (focus (decide +kernel)); exact rfl) | ((with_reducible apply Step.nilp); exact rfl; exact rfl) | ((with_reducible apply Step.callR fit); exact rfl; exact Tryd.func36; exact rfl; exact rfl; exact (nn _))) | ((with_reducible apply AW.seq)) | ((with_reducible apply Then.n)) | ((with_reducible apply AW.drawT fit (T := (.step 1 (.step 2 (.step 3 (.step 4 (.step 5 (.step 6 (.step 7 (.step 8 (.step 9 (.both (.step 0 (.step 10 (.step 11 (.step 12 (.step 13 .done))))) (.step 10 (.step 0 (.step 11 (.step 12 (.step 13 .done))))))))))))))))); (focus (decide +kernel))) | ((with_reducible apply AWt.step); exact rfl) | ((with_reducible apply AWt.done)) | refine AWt.both ?_ ?_))
  all_goals
    (refine AW.retD (l := [(4, _)]) (by repeat (first | exact trivial | (refine And.intro ⟨rfl, by (exact .int _ _)⟩ ?_))) ?_; (repeat (first | refine Then.r ?_ | refine InBlk.r ?_)))
    exact ⟨_, rfl, rfl, rfl⟩
theorem bl121z : abuild Tryd.prog 143 [] = some (.agg #[.int .i64 0, .int .i64 0, .bool false]) := by kernel_rfl
theorem bl121 {a b : Int} {c : Bool} : abuild Tryd.prog 143 [(0, .int .i64 a), (1, .int .i64 b), (2, .bool c)] = some (.agg #[.int .i64 a, .int .i64 b, .bool c]) := by kernel_rfl
theorem bs55 {m : AM} {k : Nat} {a b : Int} {c : Bool} : abuildSlice Tryd.prog m k 53 1 [(0, .agg #[.int .i64 a, .int .i64 b, .bool c])] = some (.slice (some ⟨k, 0, none⟩) 1 1, m.set k (some { cells := [.int .i64 a, .int .i64 b, .bool c] })) := by kernel_rfl
theorem el55 : elemB Tryd.prog 53 = some (143, 3, 24, #[.int .i64 0, .int .i64 0, .bool false]) := by kernel_rfl
theorem un55 : Tryd.prog.underlying 53 = some (.slice 143) := by kernel_rfl
section
variable {B : Brd} {K : List Kd} {f : Nat} {r : R4}
theorem plM_zero (h : V (leafM B K) r = 0) : plM B K (f + 1) r = [(0, 0, false)] := by simp only [plM]; rw [if_pos h]
theorem plM_piece {k : Nat} (h : ¬ V (leafM B K) r = 0) (hk : k < K.length) (hb : ∀ j, j < k → pkQ B K r j = false) (ha : pkQ B K r k = true) : plM B K (f + 1) r = ([(1, (k : Nat), turnedB (K.getD k default) r)] : List Nd) := by
  have e : lq (pkQ B K r) K.length = k := lq_eq (by omega) hb fun _ => ha
  simp only [plM]
  rw [if_neg h, e, if_pos hk]
theorem plM_true {i : Nat} (h : ¬ V (leafM B K) r = 0) (hp : ¬ lq (pkQ B K r) K.length < K.length) (hi : i < r.len true - 1) (hb : ∀ j, j < i → ctQ B K r true j = false) (ha : ctQ B K r true i = true) :
    plM B K (f + 1) r = ((2, (i + 1 : Nat), false) : Nd) :: (plM B K f (r.lo true (i + 1)) ++ plM B K f (r.hi true (i + 1))) := by
  have e : lq (ctQ B K r true) (r.len true - 1) = i := lq_eq (by omega) hb fun _ => ha
  simp only [plM]
  rw [if_neg h, if_neg hp, e, if_pos hi]
theorem plM_false {i : Nat} (h : ¬ V (leafM B K) r = 0) (hp : ¬ lq (pkQ B K r) K.length < K.length) (ht : ¬ lq (ctQ B K r true) (r.len true - 1) < r.len true - 1) (hi : i < r.len false - 1) (hb : ∀ j, j < i → ctQ B K r false j = false) (ha : ctQ B K r false i = true) :
    plM B K (f + 1) r = ((3, (i + 1 : Nat), false) : Nd) :: (plM B K f (r.lo false (i + 1)) ++ plM B K f (r.hi false (i + 1))) := by
  have e : lq (ctQ B K r false) (r.len false - 1) = i := lq_eq (by omega) hb fun _ => ha
  simp only [plM]
  rw [if_neg h, if_neg hp, if_neg ht, e, if_pos hi]
theorem no_lq {q : Nat → Bool} {n : Nat} (h : ∀ j, j < n → q j = false) : ¬ lq q n < n := fun a => by
  have := lq_at a
  rw [h _ a] at this; cases this
/-- A plan has fewer nodes than that. -/
theorem plM_len : ∀ (f : Nat) (r : R4), (plM B K f r).length + 1 ≤ 2 ^ f
  | 0, _ => by simp [plM]
  | f + 1, r => by
    have h := fun r' => plM_len f r'
    have hp : 1 ≤ 2 ^ f := Nat.one_le_two_pow
    have h2 : 2 ^ (f + 1) = 2 ^ f + 2 ^ f := by rw [Nat.pow_succ]; omega
    simp only [plM]
    rw [h2]
    split
    · simp; omega
    · split
      · simp; omega
      · split
        · have a := h (r.lo true (lq (ctQ B K r true) (r.len true - 1) + 1))
          have b := h (r.hi true (lq (ctQ B K r true) (r.len true - 1) + 1))
          simp only [List.length_cons, List.length_append]
          omega
        · split
          · have a := h (r.lo false (lq (ctQ B K r false) (r.len false - 1) + 1))
            have b := h (r.hi false (lq (ctQ B K r false) (r.len false - 1) + 1))
            simp only [List.length_cons, List.length_append]
            omega
          · simp; omega
end
theorem PL.cons {b0 : Nat} {x : Nd} {l1 l2 : List Nd} {M : AM} {a : Nat} (h : b0 ≤ a) (hM : M[a]? = some (some { cells := (ndc1 x ++ ndc l1) ++ ndc l2, kind := .grow, size := 3 })) : PL b0 (x :: (l1 ++ l2)) M (.slice (some ⟨a, 0, none⟩) (1 + l1.length + l2.length) (1 + l1.length + l2.length)) :=
  ⟨a, .grow, 3, h, by rw [show (x :: (l1 ++ l2)).length = 1 + l1.length + l2.length by simp; omega], by simp, by rw [hM]; simp [ndc], .inr ⟨rfl, rfl⟩⟩
set_option maxHeartbeats 16000000 in
set_option maxRecDepth 100000 in
theorem planF_ok {B : Brd} {K : List Kd} (hg : goodB B K = true) : ∀ (f : Nat), f ≤ 32 → ∀ {r : R4}, r.ok (bw B) (bh B) → r.size ≤ f → ∀ {m : AM} {p q : Nat}, BoardAt m p B K → m[q]? = some (some { cells := iv (boardT B K) }) →
    ACall Tryd.prog 47 #[.pointer (some ⟨p, 0, none⟩), .agg r.rc.cells.toArray, .slice (some ⟨q, 0, none⟩) (total (bw B) (bh B)) (total (bw B) (bh B))] m (More (PL m.length (plM B K f r)) m) := by
  intro f
  induction f with
  | zero =>
    intro _ r hr hs
    exfalso
    unfold R4.ok at hr
    unfold R4.size at hs
    omega
  | succ f ih =>
    intro hf32 r hr hs m p q hB hq
    have ih := @ih (by omega)
    have hgb : boardB B = true := by simp only [goodB, Bool.and_eq_true] at hg; exact hg.1
    have hin := good_in hgb
    have hp := hB.lt
    have hql := (List.getElem?_eq_some_iff.1 hq).1
    have hkl : K.length ≤ 12 := by simp only [goodB, kindsB, Bool.and_eq_true, decide_eq_true_eq] at hg; exact hg.2.1
    have hV := V_in hg hr
    have h16 : r.x ≤ 16 ∧ r.y ≤ 16 ∧ r.a ≤ 16 ∧ r.b ≤ 16 := by
      have := hin
      unfold R4.ok at hr
      omega
    have hpw : 2 ^ f ≤ 2 ^ 31 := Nat.pow_le_pow_right (by omega) (by omega)
    have hlen : ∀ r', (plM B K f r').length ≤ 2147483648 := fun r' => by
      have := plM_len (B := B) (K := K) f r'
      omega
    obtain ⟨M0, hM0⟩ : ∃ M0, m ++ [some { cells := [.pointer (some ⟨p, 0, none⟩)] }, some { cells := r.rc.cells }, some { cells := [.slice (some ⟨q, 0, none⟩) (total (bw B) (bh B)) (total (bw B) (bh B))] }] = M0 := ⟨_, rfl⟩
    have hM0l : M0.length = m.length + 3 := by rw [← hM0]; simp
    have hcl : ∀ (T : AM) (r' : R4), r'.ok (bw B) (bh B) → ACall Tryd.prog 77 #[.agg r'.rc.cells.toArray, .pointer (some ⟨m.length + 2, 0, none⟩), .pointer (some ⟨m.length + 0, 0, none⟩)] (M0 ++ T) (Ret (.int .i64 (V (leafM B K) r')) (M0 ++ T)) := fun T r' h' => by
      rw [← hM0]
      exact pw_ok ((hB.old _).old _) hg ((Rd.new (k := 2) rfl rfl).old _) ((Rd.new (k := 0) rfl rfl).old _) (get_old _ (get_old _ hq)) h'
    have y3 : ∀ T, Rd (M0 ++ T) (m.length + 0) 0 (.pointer (some ⟨p, 0, none⟩)) := fun T => by rw [← hM0]; exact (Rd.new (k := 0) rfl rfl).old _
    have y5 : ∀ T, Rd (M0 ++ T) (m.length + 2) 0 (.slice (some ⟨q, 0, none⟩) (total (bw B) (bh B)) (total (bw B) (bh B))) := fun T => by rw [← hM0]; exact (Rd.new (k := 2) rfl rfl).old _
    have y4 : ∀ T, RdL (M0 ++ T) (m.length + 1) 0 r.rc.cells := fun T => by rw [← hM0]; exact RdL.old _ (show RdL (m ++ [some { cells := [.pointer (some ⟨p, 0, none⟩)] }, some { cells := r.rc.cells }, some { cells := [.slice (some ⟨q, 0, none⟩) (total (bw B) (bh B)) (total (bw B) (bh B))] }]) (m.length + 1) 0 r.rc.cells from RdL.new rfl rfl)
    have hB0 : ∀ T, BoardAt (M0 ++ T) p B K := fun T => by rw [← hM0]; exact (hB.old _).old _
    have hq0 : ∀ T, (M0 ++ T)[q]? = some (some { cells := iv (boardT B K) }) := fun T => by rw [← hM0]; exact get_old _ (get_old _ hq)
    have hMN : ∃ N, M0 = m ++ N := ⟨_, hM0.symm⟩
    have w3 : Low M0.length (.pointer (some ⟨m.length + 0, 0, none⟩)) := Low.ptr (by omega)
    have w4 : Low M0.length (.pointer (some ⟨m.length + 1, 0, none⟩)) := Low.ptr (by omega)
    have w5 : Low M0.length (.pointer (some ⟨m.length + 2, 0, none⟩)) := Low.ptr (by omega)
    have w7 : Low M0.length (.func (.func 77) #[] #[.pointer (some ⟨m.length + 2, 0, none⟩), .pointer (some ⟨m.length + 0, 0, none⟩)]) := Low.func (fun v hv => by
      simp only [List.mem_cons, List.not_mem_nil, or_false] at hv
      rcases hv with rfl | rfl
      · exact w5
      · exact w3)
    have hclr := fun T => hcl T r hr
    have hf := Tryd.func77
    obtain ⟨bd, hb⟩ : ∃ bd, Tryd.f77.body = some bd := ⟨_, rfl⟩
    have gr : ∀ v ∈ r.rc.cells, g0 v = true := fun v hv => by
      simp [Rc.cells] at hv
      rcases hv with rfl | rfl | rfl | rfl <;> rfl
    obtain ⟨_, ⟨kv, k1, A, O, sl, la, rd⟩, _, _, _⟩ := id (hB0 [])
    rw [List.append_nil] at la
    obtain ⟨q', c', rfl⟩ := sl.shape
    have wl : Low M0.length (.slice q' K.length c') := Low.of_sl sl la
    rw [List.append_nil] at k1 rd
    refine ACall.start Tryd.func47 rfl rfl ?_
    (repeat (first | (with_reducible refine AWo.cons ?_) | ((with_reducible refine Step.id ?_); first | ((with_reducible apply Step.assign); exact rfl; exact rfl) | ((with_reducible apply Step.box 0); exact rfl; exact rfl; (focus (kernel_rfl)); exact rfl; (focus (first | (simp only [List.nil_append, List.cons_append, List.set_cons_zero, List.set_cons_succ, iv_set, bv_set, iv_rep, bv_rep]; done) | (simp only [List.nil_append, List.cons_append, List.set_cons_zero, List.set_cons_succ, iv_set, bv_set, iv_rep, bv_rep]; rfl) | rfl))) | ((with_reducible apply Step.box 1); exact rfl; exact rfl; (focus (kernel_rfl)); exact rfl; (focus (first | (simp only [List.nil_append, List.cons_append, List.set_cons_zero, List.set_cons_succ, iv_set, bv_set, iv_rep, bv_rep]; done) | (simp only [List.nil_append, List.cons_append, List.set_cons_zero, List.set_cons_succ, iv_set, bv_set, iv_rep, bv_rep]; rfl) | rfl))) | ((with_reducible apply Step.box 2); exact rfl; exact rfl; (focus (kernel_rfl)); exact rfl; (focus (first | (simp only [List.nil_append, List.cons_append, List.set_cons_zero, List.set_cons_succ, iv_set, bv_set, iv_rep, bv_rep]; done) | (simp only [List.nil_append, List.cons_append, List.set_cons_zero, List.set_cons_succ, iv_set, bv_set, iv_rep, bv_rep]; rfl) | rfl)))) | (with_reducible refine AWo.nil ?_) | ((fail_if_success (with_reducible refine AW.atR (id := 1) ?_)); ((with_reducible apply AW.seq))) | ((with_reducible apply Then.n)) | ((with_reducible apply AW.regL))))
    change AW _ _ _ _ _ (m ++ [some { cells := [.pointer (some ⟨p, 0, none⟩)] }, some { cells := r.rc.cells }, some { cells := [.slice (some ⟨q, 0, none⟩) (total (bw B) (bh B)) (total (bw B) (bh B))] }]) _
    rw [hM0]
    refine AW.rebase ?_
    (repeat (first | (with_reducible refine AWo.cons ?_) | ((with_reducible refine Step.id ?_); first | ((with_reducible apply Step.assign); exact rfl; exact rfl) | ((with_reducible apply Step.fn); exact rfl; exact rfl; exact rfl)) | (with_reducible refine AWo.nil ?_) | ((fail_if_success (with_reducible refine AW.atR (id := 2) ?_)); ((with_reducible apply AW.seq))) | ((with_reducible apply Then.n)) | ((with_reducible apply AW.regL))))
    by_cases h0 : V (leafM B K) r = 0
    · rw [plM_zero h0]
      rw [h0] at hclr
      (repeat (first | (with_reducible refine AWo.cons ?_) | ((with_reducible refine Step.id ?_); first | ((with_reducible apply Step.move); exact rfl; exact rfl) | ((with_reducible apply Step.assign); exact rfl; exact rfl) | ((with_reducible apply Step.loadL (n := 4)); exact rfl; (focus (decide +kernel)); (focus (decide +kernel)); exact rfl; (focus (exact y4 _)); exact rfl; exact rfl) | ((with_reducible apply Step.eql); exact rfl; exact rfl; exact rfl) | ((with_reducible apply Step.callV fit); exact rfl; exact rfl; exact hf; exact hb; exact rfl; exact (hclr _)) | ((with_reducible apply Step.buildS 0); exact rfl; exact rfl; exact (fun _ _ => bs55); exact rfl; (focus (first | (simp only [List.nil_append, List.cons_append, List.set_cons_zero, List.set_cons_succ, iv_set, bv_set, iv_rep, bv_rep]; done) | (simp only [List.nil_append, List.cons_append, List.set_cons_zero, List.set_cons_succ, iv_set, bv_set, iv_rep, bv_rep]; rfl) | rfl))) | ((with_reducible apply Step.build); exact rfl; exact bl121; exact rfl)) | (with_reducible refine AWo.nil ?_) | ((with_reducible apply AW.seq)) | ((with_reducible apply Then.n)) | ((with_reducible apply AW.regL)) | ((with_reducible apply AW.condT); exact rfl; (focus (rfl)))))
      (refine AW.ret ?_; (repeat (first | refine Then.r ?_ | refine InBlk.r ?_)))
      obtain ⟨N, hN⟩ := hMN
      exact ⟨_, rfl, N ++ [some { cells := [.int .i64 0, .int .i64 0, .bool false] }], by rw [hN, List.append_assoc], M0.length + 0, .own, 1, by omega, rfl, by decide, by rw [get_app]; rfl, .inl ⟨rfl, rfl⟩⟩
    · (repeat (first | (with_reducible refine AWo.cons ?_) | ((with_reducible refine Step.id ?_); first | ((with_reducible apply Step.move); exact rfl; exact rfl) | ((with_reducible apply Step.load); exact rfl; (focus (decide +kernel)); exact rfl; (focus (first | exact y3 _ | exact Rd.old _ (by assumption)))) | ((with_reducible apply Step.loadL (n := 4)); exact rfl; (focus (decide +kernel)); (focus (decide +kernel)); exact rfl; (focus (exact y4 _)); exact rfl; exact rfl) | ((with_reducible apply Step.field (k := 1)); exact rfl; (focus (decide +kernel)); exact rfl) | ((with_reducible apply Step.eql); exact rfl; exact rfl; exact rfl) | ((with_reducible apply Step.len); exact rfl; (focus (assumption)); (focus (decide +kernel)); exact rfl) | ((with_reducible apply Step.nilp); exact rfl; exact rfl) | ((with_reducible apply Step.callV fit); exact rfl; exact rfl; exact hf; exact hb; exact rfl; exact (hclr _))) | (with_reducible refine AWo.nil ?_) | ((with_reducible apply AW.seq)) | ((with_reducible apply Then.n)) | ((with_reducible apply AW.regL)) | ((with_reducible apply AW.block)) | ((with_reducible apply AW.skip)) | ((with_reducible apply AW.condF); exact rfl; (focus ((simp only [decide_eq_true_eq, decide_eq_false_iff_not, Bool.not_eq_true', Bool.not_eq_false', Bool.not_true, Bool.not_false]; first | assumption | omega))))))
      refine AW.loopT (fun n t L => ∃ k : Nat, n = K.length - k ∧ k ≤ K.length ∧ (∀ j, j < k → pkQ B K r j = false) ∧ L = [] ∧ t = [(3, .pointer (some ⟨m.length + 0, 0, none⟩)), (4, .pointer (some ⟨m.length + 1, 0, none⟩)), (5, .pointer (some ⟨m.length + 2, 0, none⟩)), (7, .func (.func 77) #[] #[.pointer (some ⟨m.length + 2, 0, none⟩), .pointer (some ⟨m.length + 0, 0, none⟩)]), (27, .slice q' K.length c'), (28, .int .i64 (K.length : Nat)), (29, .int .i64 (k : Nat))]) ⟨_, _, _, (Or.inl ⟨rfl, (by repeat (first | exact trivial | (refine And.intro rfl ?_)))⟩), 0, rfl, Nat.zero_le _, fun j hj => by omega, rfl, rfl⟩ ?_
      rintro n t L ⟨k, rfl, hk, hall, rfl, rfl⟩
      rcases Nat.lt_or_ge k K.length with hlt | hge
      · have rk := rd k hlt
        have hfi := fun T => fits_ok (hB0 T) hg (k := k) hlt hr
        change ∀ T, ACall Tryd.prog 78 #[_, _, .agg r.rc.cells.toArray] _ _ at hfi
        have hpk : pkQ B K r k = (okB B (K.getD k default) r && decide ((K.getD k default).worth = V (leafM B K) r)) := rfl
        have hpm := fun ha => plM_piece (f := f) h0 hlt hall ha
        generalize K.getD k default = kd at *
        obtain ⟨kw, kh, kg, ko, kt⟩ := kd
        simp only [Kd.cells] at rk
        simp only at hpk
        generalize turnedB ⟨kw, kh, kg, ko, kt⟩ r = tb at *
        generalize hvv : V (leafM B K) r = vv at *
        cases hob : okB B ⟨kw, kh, kg, ko, kt⟩ r with
        | false =>
          rw [hob] at hfi hpk
          (repeat (first | (with_reducible refine AWo.cons ?_) | ((with_reducible refine Step.id ?_); first | ((with_reducible apply Step.move); exact rfl; exact rfl) | ((with_reducible apply Step.assign); exact rfl; exact rfl) | ((with_reducible apply Step.load); exact rfl; (focus (decide +kernel)); exact rfl; (focus (exact y3 _))) | ((with_reducible apply Step.loadL (n := 4)); exact rfl; (focus (decide +kernel)); (focus (decide +kernel)); exact rfl; (focus (exact y4 _)); exact rfl; exact rfl) | ((with_reducible apply Step.loadL (n := 5)); exact rfl; (focus (decide +kernel)); (focus (decide +kernel)); exact rfl; (focus (exact RdL.old _ (by assumption))); exact rfl; exact rfl) | ((with_reducible apply Step.ix (s := 5)); exact rfl; (focus (assumption)); exact rfl; (focus (decide +kernel)); exact rfl; (focus (omega))) | ((with_reducible apply Step.lss); exact rfl; exact rfl; exact rfl) | ((with_reducible apply Step.extract); exact rfl; exact rfl; exact rfl) | ((with_reducible apply Step.callR fit); exact rfl; exact Tryd.func78; exact rfl; exact rfl; exact (hfi _)) | ((with_reducible apply Step.alloc 0); exact rfl; exact ze99; exact rfl; (focus (first | (simp only [List.nil_append, List.cons_append, List.set_cons_zero, List.set_cons_succ, iv_set, bv_set, iv_rep, bv_rep]; done) | (simp only [List.nil_append, List.cons_append, List.set_cons_zero, List.set_cons_succ, iv_set, bv_set, iv_rep, bv_rep]; rfl) | rfl))) | ((with_reducible apply Step.storeA (k := 0) (n := 5)); exact rfl; exact rfl; exact rfl; exact rfl; (focus (decide +kernel)); exact rfl; (focus (kernel_rfl)); exact rfl; (focus (first | (simp only [List.nil_append, List.cons_append, List.set_cons_zero, List.set_cons_succ, iv_set, bv_set, iv_rep, bv_rep]; done) | (simp only [List.nil_append, List.cons_append, List.set_cons_zero, List.set_cons_succ, iv_set, bv_set, iv_rep, bv_rep]; rfl) | rfl)))) | (with_reducible refine AWo.nil ?_) | ((fail_if_success (with_reducible refine AW.atR (id := 8) ?_)); ((with_reducible apply AW.seq))) | ((with_reducible apply Then.n)) | ((with_reducible apply AW.regL)) | ((with_reducible apply AW.block)) | ((with_reducible apply AW.skip)) | ((with_reducible apply AW.condT); exact rfl; (focus ((simp only [decide_eq_true_eq, decide_eq_false_iff_not, Bool.not_eq_true', Bool.not_eq_false', Bool.not_true, Bool.not_false]; first | assumption | omega))))))
          refine AW.seq ?_
          refine AW.flatN fit [(3, .pointer (some ⟨m.length + 0, 0, none⟩)), (4, .pointer (some ⟨m.length + 1, 0, none⟩)), (5, .pointer (some ⟨m.length + 2, 0, none⟩)), (7, .func (.func 77) #[] #[.pointer (some ⟨m.length + 2, 0, none⟩), .pointer (some ⟨m.length + 0, 0, none⟩)]), (9, .pointer (some ⟨M0.length + 0, 0, none⟩)), (11, .bool false), (27, .slice q' K.length c'), (28, .int .i64 (K.length : Nat)), (29, .int .i64 (k : Nat))] [(3, .pointer (some ⟨m.length + 0, 0, none⟩)), (4, .pointer (some ⟨m.length + 1, 0, none⟩)), (5, .pointer (some ⟨m.length + 2, 0, none⟩)), (7, .func (.func 77) #[] #[.pointer (some ⟨m.length + 2, 0, none⟩), .pointer (some ⟨m.length + 0, 0, none⟩)]), (27, .slice q' K.length c'), (28, .int .i64 (K.length : Nat)), (29, .int .i64 (k : Nat)), (49, .bool false)] [3, 4, 5, 7, 9, 11, 27, 28, 29] [[], [0], [0], [0, 1], [2], [3], [1, 0, 4, 4], [3, 0, 5], [6, 0]] (by repeat (first | exact trivial | (refine And.intro rfl ?_))) rfl (by decide +kernel) ?_ ?_
          · (repeat (first | ((with_reducible refine Step.id ?_); first | ((with_reducible apply Step.gdF); exact rfl; exact rfl; (focus (rfl))) | ((with_reducible apply Step.move); exact rfl; exact rfl) | ((with_reducible apply Step.pickF); exact rfl; exact rfl; exact rfl; exact rfl; (focus (rfl)))) | (apply AWf.cons; exact rfl) | exact ⟨put_same _ _ _, rfl⟩ | ((with_reducible apply AWf.nil))))
            exact (by repeat (first | exact trivial | (refine And.intro rfl ?_)))
          intro t2 ht2
          refine Then.n ?_
          refine AW.weak ht2 ?_
          (repeat (first | (with_reducible refine AWo.cons ?_) | ((with_reducible refine Step.id ?_); first | ((with_reducible apply Step.move); exact rfl; exact rfl) | ((with_reducible apply Step.add); exact rfl; exact rfl; (focus (omega)); exact rfl)) | (with_reducible refine AWo.nil ?_) | ((with_reducible apply Then.n)) | ((with_reducible apply AW.regL)) | ((with_reducible apply InBlk.n)) | ((with_reducible apply AW.skip)) | ((with_reducible apply AW.condF); exact rfl; (focus (rfl)))))
          exact ⟨_, [(3, .pointer (some ⟨m.length + 0, 0, none⟩)), (4, .pointer (some ⟨m.length + 1, 0, none⟩)), (5, .pointer (some ⟨m.length + 2, 0, none⟩)), (7, .func (.func 77) #[] #[.pointer (some ⟨m.length + 2, 0, none⟩), .pointer (some ⟨m.length + 0, 0, none⟩)]), (27, .slice q' K.length c'), (28, .int .i64 (K.length : Nat)), (29, .int .i64 (k + 1 : Nat))], [], by omega, (Back.trim rfl rfl (by repeat (exact CellsOk.nil)) (by repeat (first | exact trivial | (refine And.intro ⟨rfl, by (first | exact Low.rid (by assumption) (by simp) | exact .int _ _)⟩ ?_)))), k + 1, rfl, by omega, fun j hj => by
            rcases Nat.lt_succ_iff_lt_or_eq.1 hj with h' | h'
            · exact hall j h'
            · rw [h', hpk]; rfl, rfl, rfl⟩
        | true =>
          rw [hob, Bool.true_and] at hpk
          rw [hob] at hfi
          (repeat (first | (with_reducible refine AWo.cons ?_) | ((with_reducible refine Step.id ?_); first | ((with_reducible apply Step.move); exact rfl; exact rfl) | ((with_reducible apply Step.assign); exact rfl; exact rfl) | ((with_reducible apply Step.load); exact rfl; (focus (decide +kernel)); exact rfl; (focus (exact y3 _))) | ((with_reducible apply Step.loadL (n := 4)); exact rfl; (focus (decide +kernel)); (focus (decide +kernel)); exact rfl; (focus (exact y4 _)); exact rfl; exact rfl) | ((with_reducible apply Step.loadL (n := 5)); exact rfl; (focus (decide +kernel)); (focus (decide +kernel)); exact rfl; (focus (exact RdL.old _ (by assumption))); exact rfl; exact rfl) | ((with_reducible apply Step.ix (s := 5)); exact rfl; (focus (assumption)); exact rfl; (focus (decide +kernel)); exact rfl; (focus (omega))) | ((with_reducible apply Step.lss); exact rfl; exact rfl; exact rfl) | ((with_reducible apply Step.extract); exact rfl; exact rfl; exact rfl) | ((with_reducible apply Step.callR fit); exact rfl; exact Tryd.func78; exact rfl; exact rfl; exact (hfi _)) | ((with_reducible apply Step.alloc 0); exact rfl; exact ze99; exact rfl; (focus (first | (simp only [List.nil_append, List.cons_append, List.set_cons_zero, List.set_cons_succ, iv_set, bv_set, iv_rep, bv_rep]; done) | (simp only [List.nil_append, List.cons_append, List.set_cons_zero, List.set_cons_succ, iv_set, bv_set, iv_rep, bv_rep]; rfl) | rfl))) | ((with_reducible apply Step.storeA (k := 0) (n := 5)); exact rfl; exact rfl; exact rfl; exact rfl; (focus (decide +kernel)); exact rfl; (focus (kernel_rfl)); exact rfl; (focus (first | (simp only [List.nil_append, List.cons_append, List.set_cons_zero, List.set_cons_succ, iv_set, bv_set, iv_rep, bv_rep]; done) | (simp only [List.nil_append, List.cons_append, List.set_cons_zero, List.set_cons_succ, iv_set, bv_set, iv_rep, bv_rep]; rfl) | rfl)))) | (with_reducible refine AWo.nil ?_) | ((fail_if_success (with_reducible refine AW.atR (id := 8) ?_)); ((with_reducible apply AW.seq))) | ((with_reducible apply Then.n)) | ((with_reducible apply AW.regL)) | ((with_reducible apply AW.block)) | ((with_reducible apply AW.skip)) | ((with_reducible apply AW.condT); exact rfl; (focus ((simp only [decide_eq_true_eq, decide_eq_false_iff_not, Bool.not_eq_true', Bool.not_eq_false', Bool.not_true, Bool.not_false]; first | assumption | omega))))))
          refine AW.seq ?_
          have z9 : Rd (M0 ++ [some { cells := [.int .i64 kw, .int .i64 kh, .int .i64 kg, .int .i64 ko, .bool kt] }]) (M0.length + 0) 3 (.int .i64 ko) := Rd.new rfl rfl
          refine AW.flatN fit [(3, .pointer (some ⟨m.length + 0, 0, none⟩)), (4, .pointer (some ⟨m.length + 1, 0, none⟩)), (5, .pointer (some ⟨m.length + 2, 0, none⟩)), (7, .func (.func 77) #[] #[.pointer (some ⟨m.length + 2, 0, none⟩), .pointer (some ⟨m.length + 0, 0, none⟩)]), (8, .int .i64 (k : Nat)), (9, .pointer (some ⟨M0.length + 0, 0, none⟩)), (10, .bool tb), (11, .bool true), (27, .slice q' K.length c'), (28, .int .i64 (K.length : Nat)), (29, .int .i64 (k : Nat))] [(3, .pointer (some ⟨m.length + 0, 0, none⟩)), (4, .pointer (some ⟨m.length + 1, 0, none⟩)), (5, .pointer (some ⟨m.length + 2, 0, none⟩)), (7, .func (.func 77) #[] #[.pointer (some ⟨m.length + 2, 0, none⟩), .pointer (some ⟨m.length + 0, 0, none⟩)]), (8, .int .i64 (k : Nat)), (10, .bool tb), (27, .slice q' K.length c'), (28, .int .i64 (K.length : Nat)), (29, .int .i64 (k : Nat)), (49, .bool (decide (ko = vv)))] [3, 4, 5, 7, 8, 9, 10, 11, 27, 28, 29] [[], [0], [0], [0, 1], [2], [3], [1, 0, 4, 4], [3, 0, 5], [6, 0]] (by repeat (first | exact trivial | (refine And.intro rfl ?_))) rfl (by decide +kernel) ?_ ?_
          · (repeat (first | ((with_reducible refine Step.id ?_); first | ((with_reducible apply Step.gdT); exact rfl; exact rfl; (focus (rfl))) | ((with_reducible apply Step.move); exact rfl; exact rfl) | ((with_reducible apply Step.load); exact rfl; (focus (decide +kernel)); exact rfl; (focus (assumption))) | ((with_reducible apply Step.loadL (n := 4)); exact rfl; (focus (decide +kernel)); (focus (decide +kernel)); exact rfl; (focus (exact y4 _)); exact rfl; exact rfl) | ((with_reducible apply Step.field (k := 3)); exact rfl; (focus (decide +kernel)); exact rfl) | ((with_reducible apply Step.eql); exact rfl; exact rfl; exact rfl) | ((with_reducible apply Step.pickT); exact rfl; exact rfl; exact rfl; exact rfl; (focus (rfl))) | ((with_reducible apply Step.callV fit); exact rfl; exact rfl; exact hf; exact hb; exact rfl; exact (hclr _))) | (apply AWf.cons; exact rfl) | exact ⟨put_same _ _ _, rfl⟩ | ((with_reducible apply AWf.nil))))
            exact (by repeat (first | exact trivial | (refine And.intro rfl ?_)))
          intro t2 ht2
          refine Then.n ?_
          refine AW.weak ht2 ?_
          by_cases hko : ko = vv
          · rw [decide_eq_true hko] at hpk ⊢
            rw [hpm hpk]
            (repeat (first | (with_reducible refine AWo.cons ?_) | ((with_reducible refine Step.id ?_); first | ((with_reducible apply Step.move); exact rfl; exact rfl) | ((with_reducible apply Step.assign); exact rfl; exact rfl) | ((with_reducible apply Step.buildS 1); exact rfl; exact rfl; exact (fun _ _ => bs55); exact rfl; (focus (first | (simp only [List.nil_append, List.cons_append, List.set_cons_zero, List.set_cons_succ, iv_set, bv_set, iv_rep, bv_rep]; done) | (simp only [List.nil_append, List.cons_append, List.set_cons_zero, List.set_cons_succ, iv_set, bv_set, iv_rep, bv_rep]; rfl) | rfl))) | ((with_reducible apply Step.build); exact rfl; exact bl121; exact rfl)) | (with_reducible refine AWo.nil ?_) | ((with_reducible apply AW.seq)) | ((with_reducible apply Then.n)) | ((with_reducible apply AW.regL)) | ((with_reducible apply AW.condT); exact rfl; (focus (rfl)))))
            (refine AW.ret ?_; (repeat (first | refine Then.r ?_ | refine InBlk.r ?_)))
            obtain ⟨N, hN⟩ := hMN
            exact ⟨_, rfl, N ++ [_, some { cells := [.int .i64 1, .int .i64 (k : Nat), .bool tb] }], by rw [hN, List.append_assoc], M0.length + 1, .own, 1, by omega, rfl, by simp, by rw [get_app]; rfl, .inl ⟨rfl, rfl⟩⟩
          · rw [decide_eq_false hko] at hpk ⊢
            (repeat (first | (with_reducible refine AWo.cons ?_) | ((with_reducible refine Step.id ?_); first | ((with_reducible apply Step.move); exact rfl; exact rfl) | ((with_reducible apply Step.add); exact rfl; exact rfl; (focus (omega)); exact rfl)) | (with_reducible refine AWo.nil ?_) | ((with_reducible apply Then.n)) | ((with_reducible apply AW.regL)) | ((with_reducible apply InBlk.n)) | ((with_reducible apply AW.skip)) | ((with_reducible apply AW.condF); exact rfl; (focus (rfl)))))
            exact ⟨_, [(3, .pointer (some ⟨m.length + 0, 0, none⟩)), (4, .pointer (some ⟨m.length + 1, 0, none⟩)), (5, .pointer (some ⟨m.length + 2, 0, none⟩)), (7, .func (.func 77) #[] #[.pointer (some ⟨m.length + 2, 0, none⟩), .pointer (some ⟨m.length + 0, 0, none⟩)]), (27, .slice q' K.length c'), (28, .int .i64 (K.length : Nat)), (29, .int .i64 (k + 1 : Nat))], [], by omega, (Back.trim rfl rfl (by repeat (exact CellsOk.nil)) (by repeat (first | exact trivial | (refine And.intro ⟨rfl, by (first | exact Low.rid (by assumption) (by simp) | exact .int _ _)⟩ ?_)))), k + 1, rfl, by omega, fun j hj => by
              rcases Nat.lt_succ_iff_lt_or_eq.1 hj with h' | h'
              · exact hall j h'
              · rw [h', hpk], rfl, rfl⟩
      · obtain rfl : k = K.length := by omega
        have hnp := no_lq hall
        clear rd k1 hall
        (repeat (first | (with_reducible refine AWo.cons ?_) | ((with_reducible refine Step.id ?_); first | ((with_reducible apply Step.assign); exact rfl; exact rfl) | ((with_reducible apply Step.lss); exact rfl; exact rfl; exact rfl)) | (with_reducible refine AWo.nil ?_) | ((with_reducible apply AW.seq)) | ((with_reducible apply Then.n)) | ((with_reducible apply AW.regL)) | ((with_reducible apply AW.block)) | ((with_reducible apply AW.exit)) | ((with_reducible apply InBlk.hit)) | ((with_reducible apply Then.e)) | ((with_reducible apply AW.condF); exact rfl; (focus ((simp only [decide_eq_true_eq, decide_eq_false_iff_not, Bool.not_eq_true', Bool.not_eq_false', Bool.not_true, Bool.not_false]; first | assumption | omega))))))
        refine AW.loopT (fun n t L => ∃ kk : Nat, n = 2 - kk ∧ kk ≤ 2 ∧ (1 ≤ kk → ¬ lq (ctQ B K r true) (r.len true - 1) < r.len true - 1) ∧ (2 ≤ kk → ¬ lq (ctQ B K r false) (r.len false - 1) < r.len false - 1) ∧ L = [] ∧ t = [(3, .pointer (some ⟨m.length + 0, 0, none⟩)), (4, .pointer (some ⟨m.length + 1, 0, none⟩)), (5, .pointer (some ⟨m.length + 2, 0, none⟩)), (7, .func (.func 77) #[] #[.pointer (some ⟨m.length + 2, 0, none⟩), .pointer (some ⟨m.length + 0, 0, none⟩)]), (12, .int .i64 (2 + kk : Nat))]) ⟨_, [(3, .pointer (some ⟨m.length + 0, 0, none⟩)), (4, .pointer (some ⟨m.length + 1, 0, none⟩)), (5, .pointer (some ⟨m.length + 2, 0, none⟩)), (7, .func (.func 77) #[] #[.pointer (some ⟨m.length + 2, 0, none⟩), .pointer (some ⟨m.length + 0, 0, none⟩)]), (12, .int .i64 2)], _, (Or.inl ⟨rfl, (by repeat (first | exact trivial | (refine And.intro rfl ?_)))⟩), 0, rfl, by omega, fun h => by omega, fun h => by omega, rfl, rfl⟩ ?_
        rintro n t L ⟨kk, rfl, hkk, hn1, hn2, rfl, rfl⟩
        rcases Nat.lt_or_ge kk 2 with hk2 | hk2
        · obtain ⟨d, hd⟩ : ∃ d, d = (kk == 0) := ⟨_, rfl⟩
          have hop : opI d = ((2 + kk : Nat) : Int) := by
            rcases (show kk = 0 ∨ kk = 1 by omega) with rfl | rfl <;> (rw [hd]; rfl)
          have hL := fun M => length_ok (m := M) r d
          rw [hop] at hL
          change ∀ M, ACall Tryd.prog 53 #[.agg r.rc.cells.toArray, _] _ _ at hL
          have hlp := len_pos d hr
          have hl16 := len_le d hin.2.2.2 hin.2.1 hr
          have hplM : ∀ i, i < r.len d - 1 → (∀ j, j < i → ctQ B K r d j = false) → ctQ B K r d i = true → plM B K (f + 1) r = ((((2 + kk : Nat) : Int), (i + 1 : Nat), false) : Nd) :: (plM B K f (r.lo d (i + 1)) ++ plM B K f (r.hi d (i + 1))) := fun i hi hb ha => by
            rcases (show kk = 0 ∨ kk = 1 by omega) with rfl | rfl
            · have hd : d = true := hd
              subst hd
              exact plM_true h0 hnp hi hb ha
            · have hd : d = false := hd
              subst hd
              exact plM_false h0 hnp (hn1 (Nat.le_refl _)) hi hb ha
          (repeat (first | (with_reducible refine AWo.cons ?_) | ((with_reducible refine Step.id ?_); first | ((with_reducible apply Step.move); exact rfl; exact rfl) | ((with_reducible apply Step.assign); exact rfl; exact rfl) | ((with_reducible apply Step.leq); exact rfl; exact rfl; exact rfl)) | (with_reducible refine AWo.nil ?_) | ((with_reducible apply AW.seq)) | ((with_reducible apply Then.n)) | ((with_reducible apply AW.regL)) | ((with_reducible apply AW.block)) | ((with_reducible apply AW.skip)) | ((with_reducible apply AW.condT); exact rfl; (focus ((simp only [decide_eq_true_eq, decide_eq_false_iff_not, Bool.not_eq_true', Bool.not_eq_false', Bool.not_true, Bool.not_false]; first | assumption | omega))))))
          refine AW.loopT (fun n t L => ∃ i : Nat, n = r.len d - i ∧ i + 1 ≤ r.len d ∧ (∀ j, j < i → ctQ B K r d j = false) ∧ L = [] ∧ t = [(3, .pointer (some ⟨m.length + 0, 0, none⟩)), (4, .pointer (some ⟨m.length + 1, 0, none⟩)), (5, .pointer (some ⟨m.length + 2, 0, none⟩)), (7, .func (.func 77) #[] #[.pointer (some ⟨m.length + 2, 0, none⟩), .pointer (some ⟨m.length + 0, 0, none⟩)]), (12, .int .i64 (2 + kk : Nat)), (13, .int .i64 (i + 1 : Nat))]) ⟨_, [(3, .pointer (some ⟨m.length + 0, 0, none⟩)), (4, .pointer (some ⟨m.length + 1, 0, none⟩)), (5, .pointer (some ⟨m.length + 2, 0, none⟩)), (7, .func (.func 77) #[] #[.pointer (some ⟨m.length + 2, 0, none⟩), .pointer (some ⟨m.length + 0, 0, none⟩)]), (12, .int .i64 (2 + kk : Nat)), (13, .int .i64 1)], _, (Or.inl ⟨rfl, (by repeat (first | exact trivial | (refine And.intro rfl ?_)))⟩), 0, rfl, by omega, fun j hj => by omega, rfl, rfl⟩ ?_
          rintro n t L ⟨i, rfl, hi, hall, rfl, rfl⟩
          rcases Nat.lt_or_ge (i + 1) (r.len d) with hil | hil
          · have o1 := lo_ok hr (d := d) (i := i + 1) (by omega) (by omega)
            have o2 := hi_ok hr (d := d) (i := i + 1) (by omega) (by omega)
            have s1 := lo_size hr (d := d) (i := i + 1) (by omega) (by omega)
            have s2 := hi_size hr (d := d) (i := i + 1) (by omega) (by omega)
            have hP := fun M => part_ok (m := M) r d (i := i + 1) (by omega) (by omega) h16
            rw [hop] at hP
            change ∀ M, ACall Tryd.prog 54 #[.agg r.rc.cells.toArray, _, _] _ (Ret (.tuple #[.agg (r.lo d (i + 1)).rc.cells.toArray, .agg (r.hi d (i + 1)).rc.cells.toArray]) _) at hP
            have hc1 := fun T => hcl T _ o1
            have hc2 := fun T => hcl T _ o2
            have V1 := V_in hg o1
            have V2 := V_in hg o2
            have i1 := @ih _ o1 (by omega)
            have i2 := @ih _ o2 (by omega)
            have hct : ctQ B K r d i = decide (V (leafM B K) (r.lo d (i + 1)) + V (leafM B K) (r.hi d (i + 1)) = V (leafM B K) r) := rfl
            have hpl := hplM i (by omega) hall
            have ll1 := hlen (r.lo d (i + 1))
            have ll2 := hlen (r.hi d (i + 1))
            have e1 : (r.lo d (i + 1)).rc.cells.toArray = (r.lo d (i + 1)).rc.cells.toArray := rfl
            generalize plM B K f (r.lo d (i + 1)) = p1 at *
            generalize plM B K f (r.hi d (i + 1)) = p2 at *
            generalize V (leafM B K) (r.lo d (i + 1)) = va at *
            generalize V (leafM B K) (r.hi d (i + 1)) = vb at *
            generalize V (leafM B K) r = vv at *
            generalize (r.lo d (i + 1)).rc = g1 at *
            generalize (r.hi d (i + 1)).rc = g2 at *
            clear e1 hplM hcl
            (repeat (first | (with_reducible refine AWo.cons ?_) | ((with_reducible refine Step.id ?_); first | ((with_reducible apply Step.move); exact rfl; exact rfl) | ((with_reducible apply Step.loadL (n := 4)); exact rfl; (focus (decide +kernel)); (focus (decide +kernel)); exact rfl; (focus (exact y4 _)); exact rfl; exact rfl) | ((with_reducible apply Step.lss); exact rfl; exact rfl; exact rfl) | ((with_reducible apply Step.extract); exact rfl; exact rfl; exact rfl) | ((with_reducible apply Step.callR fit); exact rfl; exact Tryd.func53; exact rfl; exact rfl; exact (hL _)) | ((with_reducible apply Step.callR fit); exact rfl; exact Tryd.func54; exact rfl; exact rfl; exact (hP _)) | ((with_reducible apply Step.alloc 0); exact rfl; exact ze23; exact rfl; (focus (first | (simp only [List.nil_append, List.cons_append, List.set_cons_zero, List.set_cons_succ, iv_set, bv_set, iv_rep, bv_rep]; done) | (simp only [List.nil_append, List.cons_append, List.set_cons_zero, List.set_cons_succ, iv_set, bv_set, iv_rep, bv_rep]; rfl) | rfl))) | ((with_reducible apply Step.storeA (k := 0) (n := 4)); exact rfl; exact rfl; exact rfl; exact rfl; (focus (decide +kernel)); exact rfl; (focus (kernel_rfl)); exact rfl; (focus (first | (simp only [List.nil_append, List.cons_append, List.set_cons_zero, List.set_cons_succ, iv_set, bv_set, iv_rep, bv_rep]; done) | (simp only [List.nil_append, List.cons_append, List.set_cons_zero, List.set_cons_succ, iv_set, bv_set, iv_rep, bv_rep]; rfl) | rfl))) | ((with_reducible apply Step.alloc 1); exact rfl; exact ze23; exact rfl; (focus (first | (simp only [List.nil_append, List.cons_append, List.set_cons_zero, List.set_cons_succ, iv_set, bv_set, iv_rep, bv_rep]; done) | (simp only [List.nil_append, List.cons_append, List.set_cons_zero, List.set_cons_succ, iv_set, bv_set, iv_rep, bv_rep]; rfl) | rfl))) | ((with_reducible apply Step.storeA (k := 1) (n := 4)); exact rfl; exact rfl; exact rfl; exact rfl; (focus (decide +kernel)); exact rfl; (focus (kernel_rfl)); exact rfl; (focus (first | (simp only [List.nil_append, List.cons_append, List.set_cons_zero, List.set_cons_succ, iv_set, bv_set, iv_rep, bv_rep]; done) | (simp only [List.nil_append, List.cons_append, List.set_cons_zero, List.set_cons_succ, iv_set, bv_set, iv_rep, bv_rep]; rfl) | rfl)))) | (with_reducible refine AWo.nil ?_) | ((fail_if_success (with_reducible refine AW.atR (id := 18) ?_)); ((with_reducible apply AW.seq))) | ((with_reducible apply Then.n)) | ((with_reducible apply AW.regL)) | ((with_reducible apply AW.block)) | ((with_reducible apply AW.skip)) | ((with_reducible apply AW.condT); exact rfl; (focus ((simp only [decide_eq_true_eq, decide_eq_false_iff_not, Bool.not_eq_true', Bool.not_eq_false', Bool.not_true, Bool.not_false]; first | assumption | omega))))))
            change AW _ _ _ _ _ (M0 ++ [some { cells := g1.cells }, some { cells := g2.cells }]) _
            have rl : ∀ T, RdL (M0 ++ (some { cells := g1.cells } :: some { cells := g2.cells } :: T)) (M0.length + 0) 0 g1.cells := fun T => RdL.new rfl rfl
            have rh : ∀ T, RdL (M0 ++ (some { cells := g1.cells } :: some { cells := g2.cells } :: T)) (M0.length + 1) 0 g2.cells := fun T => RdL.new rfl rfl
            refine AW.seq ?_
            refine AW.flatN fit [(3, .pointer (some ⟨m.length + 0, 0, none⟩)), (4, .pointer (some ⟨m.length + 1, 0, none⟩)), (5, .pointer (some ⟨m.length + 2, 0, none⟩)), (7, .func (.func 77) #[] #[.pointer (some ⟨m.length + 2, 0, none⟩), .pointer (some ⟨m.length + 0, 0, none⟩)]), (12, .int .i64 (2 + kk : Nat)), (13, .int .i64 (i + 1 : Nat)), (14, .pointer (some ⟨M0.length + 0, 0, none⟩)), (15, .pointer (some ⟨M0.length + 1, 0, none⟩))] [(3, .pointer (some ⟨m.length + 0, 0, none⟩)), (4, .pointer (some ⟨m.length + 1, 0, none⟩)), (5, .pointer (some ⟨m.length + 2, 0, none⟩)), (7, .func (.func 77) #[] #[.pointer (some ⟨m.length + 2, 0, none⟩), .pointer (some ⟨m.length + 0, 0, none⟩)]), (12, .int .i64 (2 + kk : Nat)), (13, .int .i64 (i + 1 : Nat)), (14, .pointer (some ⟨M0.length + 0, 0, none⟩)), (15, .pointer (some ⟨M0.length + 1, 0, none⟩)), (83, .bool (decide (va + vb = vv)))] [3, 4, 5, 7, 12, 13, 14, 15] [[], [], [1, 0], [], [], [1, 0, 2], [3, 0], [], [], [1, 0, 3], [3, 0]] (by repeat (first | exact trivial | (refine And.intro rfl ?_))) rfl (by decide +kernel) ?_ ?_
            · (repeat (first | ((with_reducible refine Step.id ?_); first | ((with_reducible apply Step.move); exact rfl; exact rfl) | ((with_reducible apply Step.loadL (n := 4)); exact rfl; (focus (decide +kernel)); (focus (decide +kernel)); exact rfl; (focus (first | exact RdL.new rfl rfl | exact y4 _)); exact rfl; exact rfl) | ((with_reducible apply Step.add); exact rfl; exact rfl; (focus (omega)); exact rfl) | ((with_reducible apply Step.eql); exact rfl; exact rfl; exact rfl) | ((with_reducible apply Step.callV fit); exact rfl; exact rfl; exact hf; exact hb; exact rfl; exact (hc1 _)) | ((with_reducible apply Step.callV fit); exact rfl; exact rfl; exact hf; exact hb; exact rfl; exact (hc2 _)) | ((with_reducible apply Step.callV fit); exact rfl; exact rfl; exact hf; exact hb; exact rfl; exact (hclr _))) | (apply AWf.cons; exact rfl) | exact ⟨put_same _ _ _, rfl⟩ | ((with_reducible apply AWf.nil))))
              exact (by repeat (first | exact trivial | (refine And.intro rfl ?_)))
            intro t2 ht2
            refine Then.n ?_
            refine AW.weak ht2 ?_
            by_cases hc : va + vb = vv
            · rw [decide_eq_true hc] at hct ⊢
              rw [hpl hct]
              clear hct hpl hc1 hc2 hclr hP hL hV V1 V2 hall hn1 hn2 hnp ht2
              (repeat (first | (with_reducible refine AWo.cons ?_) | ((with_reducible refine Step.id ?_); first | ((with_reducible apply Step.move); exact rfl; exact rfl) | ((with_reducible apply Step.load); exact rfl; (focus (decide +kernel)); exact rfl; (focus (first | exact y3 _ | exact y5 _))) | ((with_reducible apply Step.loadL (n := 4)); exact rfl; (focus (decide +kernel)); (focus (decide +kernel)); exact rfl; (focus (exact RdL.new rfl rfl)); exact rfl; exact rfl) | ((with_reducible apply Step.buildS 2); exact rfl; exact rfl; exact (fun _ _ => bs55); exact rfl; (focus (first | (simp only [List.nil_append, List.cons_append, List.set_cons_zero, List.set_cons_succ, iv_set, bv_set, iv_rep, bv_rep]; done) | (simp only [List.nil_append, List.cons_append, List.set_cons_zero, List.set_cons_succ, iv_set, bv_set, iv_rep, bv_rep]; rfl) | rfl))) | ((with_reducible apply Step.build); exact rfl; exact bl121; exact rfl)) | ((with_reducible apply AW.seq)) | ((with_reducible apply AW.regL)) | ((with_reducible apply AW.condT); exact rfl; (focus (rfl)))))
              ((with_reducible apply Step.callX fit); exact rfl; exact Tryd.func47; exact rfl; exact rfl; exact (i1 (hB0 _) (hq0 _)))
              rintro _ m1 ⟨N1, hN1⟩ ⟨a1, kd1, sz1, q1, rfl, q2, q3, q4⟩
              have x1 : BoardAt m1 p B K := by rw [hN1]; exact (hB0 _).old _
              have x2 : m1[q]? = some (some { cells := iv (boardT B K) }) := by rw [hN1]; exact get_old _ (hq0 _)
              have u3 : ∀ T, Rd (m1 ++ T) (m.length + 0) 0 (.pointer (some ⟨p, 0, none⟩)) := fun T => by rw [hN1]; exact ((y3 _).old _).old _
              have u5 : ∀ T, Rd (m1 ++ T) (m.length + 2) 0 (.slice (some ⟨q, 0, none⟩) (total (bw B) (bh B)) (total (bw B) (bh B))) := fun T => by rw [hN1]; exact ((y5 _).old _).old _
              have u4 : ∀ T, RdL (m1 ++ T) (M0.length + 1) 0 g2.cells := fun T => by rw [hN1]; exact ((rh _).old _).old _
              have lit : (m1 ++ [])[M0.length + 2]? = some (some { cells := ndc1 (((2 + kk : Nat) : Int), ((i + 1 : Nat) : Int), false) }) := by rw [List.append_nil, hN1]; exact get_old _ (by rw [get_app]; rfl)
              have q3' : (m1 ++ [])[a1]? = some (some { cells := ndc p1, kind := kd1, size := sz1 }) := by rw [List.append_nil]; exact q3
              (repeat ((with_reducible refine AWo.cons ?_)))
              ((with_reducible apply Step.appOXg); exact rfl; exact rfl; exact el55; exact un55; exact rfl; exact q2; exact lit; exact rfl; exact q3'; exact (ndc_len _); exact (ndc_one _); (focus (omega)); exact rfl)
              (repeat (first | (with_reducible refine AWo.cons ?_) | ((with_reducible refine Step.id ?_); first | ((with_reducible apply Step.move); exact rfl; exact rfl) | ((with_reducible apply Step.assign); exact rfl; exact rfl) | ((with_reducible apply Step.load); exact rfl; (focus (decide +kernel)); exact rfl; (focus (first | exact Rd.old _ (u3 _) | exact Rd.old _ (u5 _)))) | ((with_reducible apply Step.loadL (n := 4)); exact rfl; (focus (decide +kernel)); (focus (decide +kernel)); exact rfl; (focus (exact RdL.old _ (u4 _))); exact rfl; exact rfl)) | (with_reducible refine AWo.nil ?_) | ((with_reducible apply AW.seq)) | ((with_reducible apply Then.n)) | ((with_reducible apply AW.regL))))
              ((with_reducible apply Step.callX fit); exact rfl; exact Tryd.func47; exact rfl; exact rfl; exact (i2 ((x1.old _).old _) (get_old _ (get_old _ x2))))
              rintro _ m2 ⟨N2, hN2⟩ ⟨a2, kd2, sz2, p1', rfl, p2', p3, p4⟩
              have g1' : (m2 ++ [])[(m1 ++ []).length]? = some (some { cells := ndc1 (((2 + kk : Nat) : Int), ((i + 1 : Nat) : Int), false) ++ ndc p1, kind := .grow, size := 3 }) := by rw [List.append_nil, hN2]; exact get_old _ (by simp)
              have hg1l : (ndc1 (((2 + kk : Nat) : Int), ((i + 1 : Nat) : Int), false) ++ ndc p1).length = (1 + p1.length) * 3 := by rw [List.length_append, ndc_len]; simp [ndc1]; omega
              have p3' : (m2 ++ [])[a2]? = some (some { cells := ndc p2, kind := kd2, size := sz2 }) := by rw [List.append_nil]; exact p3
              (repeat ((with_reducible refine AWo.cons ?_)))
              ((with_reducible apply Step.appGXg); exact rfl; exact rfl; exact el55; exact un55; exact rfl; exact p2'; exact g1'; exact hg1l; exact p3'; exact (ndc_len _); exact (ndc_one _); (focus (omega)); exact rfl)
              (repeat (first | (with_reducible refine AWo.cons ?_) | ((with_reducible refine Step.id ?_); ((with_reducible apply Step.assign); exact rfl; exact rfl)) | (with_reducible refine AWo.nil ?_) | ((with_reducible apply Then.n))))
              (refine AW.ret ?_; (repeat (first | refine Then.r ?_ | refine InBlk.r ?_)))
              obtain ⟨N, hN⟩ := hMN
              obtain ⟨N3, hN3⟩ : ∃ N3, m2 ++ [] = m ++ N3 := ⟨_, by rw [hN2, hN1, hN]; simp only [List.append_nil, List.append_assoc]; rfl⟩
              have hm1l : m.length ≤ (m1 ++ []).length := by rw [hN1, hN]; simp only [List.length_append]; omega
              obtain ⟨N4, hN4⟩ := set_high (m0 := m) (N := N3) (a := (m1 ++ []).length) hm1l none
              refine ⟨_, rfl, N4 ++ [_], by rw [hN3, hN4, List.append_assoc], PL.cons (a := (m2 ++ []).length) ?_ ?_⟩
              · rw [hN3, List.length_append]; omega
              · rw [List.getElem?_append_right (by simp)]; simp
            · rw [decide_eq_false hc] at hct ⊢
              (repeat (first | (with_reducible refine AWo.cons ?_) | ((with_reducible refine Step.id ?_); first | ((with_reducible apply Step.move); exact rfl; exact rfl) | ((with_reducible apply Step.assign); exact rfl; exact rfl) | ((with_reducible apply Step.add); exact rfl; exact rfl; (focus (omega)); exact rfl)) | (with_reducible refine AWo.nil ?_) | ((with_reducible apply Then.n)) | ((with_reducible apply AW.regL)) | ((with_reducible apply InBlk.n)) | ((with_reducible apply AW.skip)) | ((with_reducible apply AW.condF); exact rfl; (focus (rfl)))))
              exact ⟨_, [(3, .pointer (some ⟨m.length + 0, 0, none⟩)), (4, .pointer (some ⟨m.length + 1, 0, none⟩)), (5, .pointer (some ⟨m.length + 2, 0, none⟩)), (7, .func (.func 77) #[] #[.pointer (some ⟨m.length + 2, 0, none⟩), .pointer (some ⟨m.length + 0, 0, none⟩)]), (12, .int .i64 (2 + kk : Nat)), (13, .int .i64 (i + 1 + 1 : Nat))], [], by omega, (Back.trim rfl rfl (by repeat (exact CellsOk.nil)) (by repeat (first | exact trivial | (refine And.intro ⟨rfl, by (first | exact Low.rid (by assumption) (by simp) | exact .int _ _)⟩ ?_)))), i + 1, rfl, by omega, fun j hj => by
                rcases Nat.lt_succ_iff_lt_or_eq.1 hj with h' | h'
                · exact hall j h'
                · rw [h', hct], rfl, rfl⟩
          · have hnl := no_lq (q := ctQ B K r d) (n := r.len d - 1) fun j hj => hall j (by omega)
            (repeat (first | (with_reducible refine AWo.cons ?_) | ((with_reducible refine Step.id ?_); first | ((with_reducible apply Step.move); exact rfl; exact rfl) | ((with_reducible apply Step.assign); exact rfl; exact rfl) | ((with_reducible apply Step.loadL (n := 4)); exact rfl; (focus (decide +kernel)); (focus (decide +kernel)); exact rfl; (focus (exact y4 _)); exact rfl; exact rfl) | ((with_reducible apply Step.add); exact rfl; exact rfl; (focus (omega)); exact rfl) | ((with_reducible apply Step.lss); exact rfl; exact rfl; exact rfl) | ((with_reducible apply Step.callR fit); exact rfl; exact Tryd.func53; exact rfl; exact rfl; exact (hL _))) | (with_reducible refine AWo.nil ?_) | ((with_reducible apply AW.seq)) | ((with_reducible apply Then.n)) | ((with_reducible apply AW.regL)) | ((with_reducible apply AW.exit)) | ((with_reducible apply InBlk.n)) | ((with_reducible apply InBlk.hit)) | ((with_reducible apply Then.e)) | ((with_reducible apply AW.condF); exact rfl; (focus ((simp only [decide_eq_true_eq, decide_eq_false_iff_not, Bool.not_eq_true', Bool.not_eq_false', Bool.not_true, Bool.not_false]; first | assumption | omega))))))
            refine ⟨_, [(3, .pointer (some ⟨m.length + 0, 0, none⟩)), (4, .pointer (some ⟨m.length + 1, 0, none⟩)), (5, .pointer (some ⟨m.length + 2, 0, none⟩)), (7, .func (.func 77) #[] #[.pointer (some ⟨m.length + 2, 0, none⟩), .pointer (some ⟨m.length + 0, 0, none⟩)]), (12, .int .i64 (2 + (kk + 1) : Nat))], [], by omega, (Or.inl ⟨rfl, (by repeat (first | exact trivial | (refine And.intro rfl ?_)))⟩), kk + 1, rfl, by omega, fun _ => ?_, fun h => ?_, rfl, rfl⟩
            · rcases (show kk = 0 ∨ kk = 1 by omega) with rfl | rfl
              · have hd : d = true := hd
                subst hd
                exact hnl
              · exact hn1 (Nat.le_refl _)
            · obtain rfl : kk = 1 := by omega
              have hd : d = false := hd
              subst hd
              exact hnl
        · exfalso
          exact hn2 hk2 (plan_open hr h0 hnp (hn1 (by omega)))
end Go.Proofs.YtedbjmgchfgabaaDoor.Abs
namespace Go.Proofs.YtedbjmgchfgabaaDoor.Abs
set_option linter.unusedSimpArgs false
set_option linter.unusedVariables false
open Go.RowKit
open Go.Proofs.YtedbjmgchfgabaaDoor.Sim
open Go.Proofs
/-- The plan of a board. -/
def planM (B : Brd) (K : List Kd) : List Nd := plM B K 32 (wholeR B)
set_option maxHeartbeats 8000000 in
set_option maxRecDepth 100000 in
theorem Plan_ok {m : AM} {sv kv : Value} {B : Brd} {K : List Kd} (hs : Strs m sv B) (hk : Kds m kv K) (hg : goodB B K = true) :
    ACall Tryd.prog 19 #[sv, kv] m (More (fun M v => ∃ w, v = .tuple #[w, .int .i64 0] ∧ PL m.length (planM B K) M w) m) := by
  have hgb : boardB B = true := by simp only [goodB, Bool.and_eq_true] at hg; exact hg.1
  have hin := good_in hgb
  have hok : (wholeR B).ok (bw B) (bh B) := by
    simp only [R4.ok, wholeR]
    omega
  have hsz : (wholeR B).size ≤ 32 := by
    simp only [R4.size, wholeR]
    omega
  refine ACall.start Tryd.func19 rfl rfl ?_
  (repeat (first | (with_reducible refine AWo.cons ?_) | ((with_reducible refine Step.id ?_); first | ((with_reducible apply Step.move); exact rfl; exact rfl) | ((with_reducible apply Step.assign); exact rfl; exact rfl)) | (with_reducible refine AWo.nil ?_) | ((with_reducible apply AW.seq)) | ((with_reducible apply Then.n)) | ((with_reducible apply AW.regL))))
  ((with_reducible apply Step.callX fit); exact rfl; exact Tryd.func34; exact rfl; exact rfl; exact (newBoard_ok (hs.old _) (hk.old _) hg))
  rintro v m1 ⟨N1, hN1⟩ ⟨p, hp, rfl, hB⟩
  have w1 := fun T => whole_ok (hB.old T)
  have hb2 : ∀ T, ACall Tryd.prog 35 #[.pointer (some ⟨p, 0, none⟩)] (m1 ++ T) _ := fun T => best_ok (hB.old T) hg
  change ∀ T, ACall Tryd.prog 37 _ _ (Ret (.agg (wholeR B).rc.cells.toArray) _) at w1
  have hP := fun {M : AM} {q : Nat} (h1 : BoardAt M p B K) (h2 : M[q]? = some (some { cells := iv (boardT B K) })) => planF_ok hg 32 (Nat.le_refl _) hok hsz h1 h2
  generalize (wholeR B).rc = rr at *
  (repeat (first | (with_reducible refine AWo.cons ?_) | ((with_reducible refine Step.id ?_); first | ((with_reducible apply Step.move); exact rfl; exact rfl) | ((with_reducible apply Step.assign); exact rfl; exact rfl) | ((with_reducible apply Step.ptrNot); exact rfl; exact rfl; exact un100; exact rfl) | ((with_reducible apply Step.callR fit); exact rfl; exact Tryd.func37; exact rfl; exact rfl; exact (w1 _))) | (with_reducible refine AWo.nil ?_) | ((with_reducible apply AW.seq)) | ((with_reducible apply Then.n)) | ((with_reducible apply AW.regL)) | ((with_reducible apply AW.skip)) | ((with_reducible apply AW.condF); exact rfl; (focus (rfl)))))
  ((with_reducible apply Step.callX fit); exact rfl; exact Tryd.func35; exact rfl; exact rfl; exact (hb2 _))
  rintro v m2 ⟨N2, hN2⟩ ⟨q, hq, rfl, hqc⟩
  have x1 : BoardAt m2 p B K := by rw [hN2]; exact (hB.old _).old _
  (repeat ((with_reducible refine AWo.cons ?_)))
  ((with_reducible apply Step.callX fit); exact rfl; exact Tryd.func47; exact rfl; exact rfl; exact (hP (x1.old _) (get_old _ hqc)))
  rintro v m3 ⟨N3, hN3⟩ ⟨a, kd, sz, q1, rfl, q2, q3, q4⟩
  have hm3 : ∃ N, m3 = m ++ N := ⟨N1 ++ (N2 ++ N3), by rw [hN3, hN2, hN1]; simp⟩
  have hma : m.length ≤ a := by
    rw [hN2, hN1] at q1
    simp only [List.length_append] at q1
    omega
  clear hN1 hN2 hN3
  (repeat (first | (with_reducible refine AWo.cons ?_) | ((with_reducible refine Step.id ?_); ((with_reducible apply Step.assign); exact rfl; exact rfl)) | (with_reducible refine AWo.nil ?_) | ((with_reducible apply Then.n))))
  (refine AW.ret ?_; (repeat (first | refine Then.r ?_ | refine InBlk.r ?_)))
  obtain ⟨N, hN⟩ := hm3
  exact ⟨_, rfl, N ++ [], by rw [hN, List.append_assoc], _, rfl, a, kd, sz, hma, rfl, q2, by rw [List.append_nil]; exact q3, q4⟩
/-- A row of nodes in memory. -/
def Nds (m : AM) (v : Value) (l : List Nd) : Prop := ∃ a o, Sl v a o l.length ∧ a < m.length ∧ ∀ i, i < l.length → RdL m a (o + i * 3) (ndc1 (l.getD i (0, 0, false)))
theorem Nds.old {m : AM} {v : Value} {l : List Nd} (h : Nds m v l) (L : AM) : Nds (m ++ L) v l := by
  obtain ⟨a, o, h1, h2, h3⟩ := h
  exact ⟨a, o, h1, by rw [List.length_append]; omega, fun i hi => (h3 i hi).old L⟩
theorem Nds.of_pl {m : AM} {v : Value} {l : List Nd} {b0 : Nat} (h : PL b0 l m v) : Nds m v l := by
  obtain ⟨a, kd, sz, _, rfl, h2, h3, _⟩ := h
  exact ⟨a, 0, Sl.mk (Nat.le_refl _), (List.getElem?_eq_some_iff.1 h3).1, fun i hi => ⟨_, h3, fun j v hj => by rw [Nat.zero_add]; exact ndc_get l i hi j v hj⟩⟩
theorem Nds.nil {m : AM} (hM : 0 < m.length) : Nds m (.slice none 0 0) [] := ⟨0, 0, .inl ⟨rfl, rfl⟩, hM, fun i hi => by simp at hi⟩
theorem ze121 : zeroB Tryd.prog 143 = some #[.int .i64 0, .int .i64 0, .bool false] := by kernel_rfl
end Go.Proofs.YtedbjmgchfgabaaDoor.Abs
namespace Go.Proofs.YtedbjmgchfgabaaDoor.Abs
set_option linter.unusedSimpArgs false
set_option linter.unusedVariables false
open Go.RowKit
open Go.Proofs.YtedbjmgchfgabaaDoor.Sim
open Go.Proofs
/-- What holds whatever of the region was done: L tells which operations were; s is the slot of the first one, pv the values of those that only reckon. -/
structure RI (m0 : AM) (base : List (Nat × Value)) (s : Nat) (pv : Nat → Option Value) (x : Nd) (l1 l2 : List Nd) (L : Nat → Bool) (t : Fm) (M : AM) : Prop where
  mem : ∃ N, M = m0 ++ N
  old : ∀ e ∈ base, t e.1 = some e.2
  pure : ∀ j v, pv j = some v → L j = true → t (s + j) = some v
  lit : L 2 = true → ∃ a, t (s + 2) = some (.slice (some ⟨a, 0, none⟩) 1 1) ∧ m0.length ≤ a ∧ (L 10 = false → M[a]? = some (some { cells := ndc1 x }))
  one : L 9 = true → ∃ (a : Nat) (kd : Kind) (sz : Nat), t (s + 9) = some (.slice (some ⟨a, 0, none⟩) l1.length l1.length) ∧ 0 < l1.length ∧ (L 10 = false → M[a]? = some (some { cells := ndc l1, kind := kd, size := sz }))
  app : L 10 = true → ∃ a, t (s + 10) = some (.slice (some ⟨a, 0, none⟩) (1 + l1.length) (1 + l1.length)) ∧ m0.length ≤ a ∧ (L 18 = false → M[a]? = some (some { cells := ndc1 x ++ ndc l1, kind := .grow, size := 3 }))
  two : L 17 = true → ∃ (a : Nat) (kd : Kind) (sz : Nat), t (s + 17) = some (.slice (some ⟨a, 0, none⟩) l2.length l2.length) ∧ 0 < l2.length ∧ (L 18 = false → M[a]? = some (some { cells := ndc l2, kind := kd, size := sz }))
  all : L 18 = true → ∃ a, t (s + 18) = some (.slice (some ⟨a, 0, none⟩) (1 + l1.length + l2.length) (1 + l1.length + l2.length)) ∧ m0.length ≤ a ∧ M[a]? = some (some { cells := (ndc1 x ++ ndc l1) ++ ndc l2, kind := .grow, size := 3 })
  res : L 19 = true → L 18 = true ∧ ∃ a, t 8 = some (.slice (some ⟨a, 0, none⟩) (1 + l1.length + l2.length) (1 + l1.length + l2.length)) ∧ m0.length ≤ a ∧ M[a]? = some (some { cells := (ndc1 x ++ ndc l1) ++ ndc l2, kind := .grow, size := 3 })
section
variable {m0 : AM} {base : List (Nat × Value)} {s : Nat} {pv : Nat → Option Value} {x : Nd} {l1 l2 : List Nd} {L : Nat → Bool} {t : Fm} {M : AM}
theorem RI.start (h : ∀ e ∈ base, t e.1 = some e.2) : RI m0 base s pv x l1 l2 (fun _ => false) t m0 :=
  ⟨⟨[], by simp⟩, h, fun _ _ _ q => (by cases q), fun q => (by cases q), fun q => (by cases q), fun q => (by cases q), fun q => (by cases q), fun q => (by cases q), fun q => (by cases q)⟩
/-- More memory behind. -/
theorem RI.ext (h : RI m0 base s pv x l1 l2 L t M) (T : AM) : RI m0 base s pv x l1 l2 L t (M ++ T) where
  mem := by obtain ⟨N, e⟩ := h.mem; exact ⟨N ++ T, by rw [e, List.append_assoc]⟩
  old := h.old
  pure := h.pure
  lit := fun q => by obtain ⟨a, a1, a2, a3⟩ := h.lit q; exact ⟨a, a1, a2, fun r => get_old _ (a3 r)⟩
  one := fun q => by obtain ⟨a, kd, sz, a1, a2, a3⟩ := h.one q; exact ⟨a, kd, sz, a1, a2, fun r => get_old _ (a3 r)⟩
  app := fun q => by obtain ⟨a, a1, a2, a3⟩ := h.app q; exact ⟨a, a1, a2, fun r => get_old _ (a3 r)⟩
  two := fun q => by obtain ⟨a, kd, sz, a1, a2, a3⟩ := h.two q; exact ⟨a, kd, sz, a1, a2, fun r => get_old _ (a3 r)⟩
  all := fun q => by obtain ⟨a, a1, a2, a3⟩ := h.all q; exact ⟨a, a1, a2, get_old _ a3⟩
  res := fun q => by obtain ⟨r, a, a1, a2, a3⟩ := h.res q; exact ⟨r, a, a1, a2, get_old _ a3⟩
theorem upL_no {i j : Nat} (h : upL L i j = false) : L j = false := by
  by_cases e : j = i
  · subst e; rw [upL_same] at h; cases h
  · rwa [upL_ne L e] at h
/-- An operation that only reckons. -/
theorem RI.put (h : RI m0 base s pv x l1 l2 L t M) (hb : ∀ e ∈ base, e.1 < s) (hs : 8 < s) {j : Nat} {v : Value} (hv : pv j = some v) (hj : j ≠ 2 ∧ j ≠ 9 ∧ j ≠ 10 ∧ j ≠ 17 ∧ j ≠ 18 ∧ j ≠ 19) : RI m0 base s pv x l1 l2 (upL L j) (Abs.put t (s + j) v) M where
  mem := h.mem
  old := fun e he => by rw [put_ne t v (by have := hb e he; omega)]; exact h.old e he
  pure := fun k w hw hk => by
    by_cases e : k = j
    · subst e
      rw [hv] at hw
      injection hw with hw
      rw [put_same, hw]
    · rw [upL_ne L e] at hk
      rw [put_ne t v (by omega)]
      exact h.pure k w hw hk
  lit := fun q => by
    rw [upL_ne L (by omega)] at q
    obtain ⟨a, a1, a2, a3⟩ := h.lit q
    exact ⟨a, by rw [put_ne t v (by omega)]; exact a1, a2, fun r => a3 (upL_no r)⟩
  one := fun q => by
    rw [upL_ne L (by omega)] at q
    obtain ⟨a, kd, sz, a1, a2, a3⟩ := h.one q
    exact ⟨a, kd, sz, by rw [put_ne t v (by omega)]; exact a1, a2, fun r => a3 (upL_no r)⟩
  app := fun q => by
    rw [upL_ne L (by omega)] at q
    obtain ⟨a, a1, a2, a3⟩ := h.app q
    exact ⟨a, by rw [put_ne t v (by omega)]; exact a1, a2, fun r => a3 (upL_no r)⟩
  two := fun q => by
    rw [upL_ne L (by omega)] at q
    obtain ⟨a, kd, sz, a1, a2, a3⟩ := h.two q
    exact ⟨a, kd, sz, by rw [put_ne t v (by omega)]; exact a1, a2, fun r => a3 (upL_no r)⟩
  all := fun q => by
    rw [upL_ne L (by omega)] at q
    obtain ⟨a, a1, a2, a3⟩ := h.all q
    exact ⟨a, by rw [put_ne t v (by omega)]; exact a1, a2, a3⟩
  res := fun q => by
    rw [upL_ne L (by omega)] at q
    obtain ⟨r, a, a1, a2, a3⟩ := h.res q
    exact ⟨by rw [upL_ne L (by omega)]; exact r, a, by rw [put_ne t v (by omega)]; exact a1, a2, a3⟩
end
end Go.Proofs.YtedbjmgchfgabaaDoor.Abs
namespace Go.Proofs.YtedbjmgchfgabaaDoor.Abs
set_option linter.unusedSimpArgs false
set_option linter.unusedVariables false
open Go.RowKit
open Go.Proofs.YtedbjmgchfgabaaDoor.Sim
open Go.Proofs
def stripB (n x : Int) : Bool := decide (1 ≤ x ∧ x ≤ n)
def stripsB (n : Int) (l : List Int) : Bool := decide (1 ≤ n) && decide (n ≤ 2000) && decide (l.length ≤ 14) && l.all (stripB n)
structure SpOk (n : Int) (l : List Int) : Prop where
  n1 : 1 ≤ n
  n2 : n ≤ 2000
  len : l.length ≤ 14
  at_ : ∀ i, i < l.length → 1 ≤ l.getD i 0 ∧ l.getD i 0 ≤ n
theorem SpOk.of {n : Int} {l : List Int} (h : stripsB n l = true) : SpOk n l := by
  simp only [stripsB, Bool.and_eq_true, decide_eq_true_eq, List.all_eq_true] at h
  obtain ⟨⟨⟨h1, h2⟩, h3⟩, h4⟩ := h
  refine ⟨h1, h2, h3, fun i hi => ?_⟩
  have := h4 (l.getD i 0) (by simp [hi])
  simpa [stripB] using this
end Go.Proofs.YtedbjmgchfgabaaDoor.Abs
namespace Go.Proofs.YtedbjmgchfgabaaDoor.Abs
set_option linter.unusedSimpArgs false
set_option linter.unusedVariables false
open Go.RowKit
open Go.Proofs.YtedbjmgchfgabaaDoor.Sim
open Go.Proofs
section
variable {P : Program} {nt : Nat} {ops : Array Oper} {t : Fm} {m : AM} {K : Fm → AM → Prop} {d T : Nat} {p : String} {af : Array Edge}
theorem still_eqI {X : TypeId} (hX : P.underlying X = some (.int .i64)) (n : Nat) (a b : Int) : Sim.still P (Op.equalIn (n + 1) X (.int .i64 a) (.int .i64 b)) = some (a == b) := by
  rw [Op.equalIn]
  show Sim.still P (Sem.bind (underlying X) _) = _
  rw [still_bind, still_und hX]
  rfl
/-- The fields of a node. -/
def ndF : Array Field := #[⟨"Op", 3, 0, false, "", "", 0⟩, ⟨"Arg", 3, 1, false, "", "", 8⟩, ⟨"Turned", 4, 2, false, "", "", 16⟩]
theorem un121s : Tryd.prog.underlying 143 = some (.struct ndF) := by kernel_rfl
theorem forIn3 {α σ : Type} (x y z : α) (s : σ) (f : α → σ → Sem (ForInStep σ)) : (forIn #[x, y, z] s f : Sem σ) = (do match ← f x s with | .done b => pure b | .yield b => match ← f y b with | .done b => pure b | .yield b => match ← f z b with | .done b => pure b | .yield b => pure b) := by
  simp [List.forIn_cons, List.forIn_nil]
  exact congrArg (fun g => f x s >>= g) (funext fun u => by
    cases u with
    | done b => rfl
    | yield b => exact congrArg (fun g => f y b >>= g) (funext fun v => by
        cases v with
        | done b => rfl
        | yield b => exact congrArg (fun g => f z b >>= g) (funext fun w => by cases w <;> rfl)))
theorem part_ndI {a b x : Int} {c : Bool} {k : Nat} (hk : (#[Value.int .i64 a, .int .i64 b, .bool c] : Array Value)[k]? = some (.int .i64 x)) : Sim.still Tryd.prog (part 3 #[.int .i64 a, .int .i64 b, .bool c] k) = some (.int .i64 x) := by
  unfold part
  have ha : Sim.still Tryd.prog (isAgg 3) = some false := by kernel_rfl
  show Sim.still Tryd.prog (Sem.bind (isAgg 3) _) = _
  rw [still_bind, ha]
  simp only [hk]
  rfl
theorem part_ndB {a b : Int} {c x : Bool} {k : Nat} (hk : (#[Value.int .i64 a, .int .i64 b, .bool c] : Array Value)[k]? = some (.bool x)) : Sim.still Tryd.prog (part 4 #[.int .i64 a, .int .i64 b, .bool c] k) = some (.bool x) := by
  unfold part
  have ha : Sim.still Tryd.prog (isAgg 4) = some false := by kernel_rfl
  show Sim.still Tryd.prog (Sem.bind (isAgg 4) _) = _
  rw [still_bind, ha]
  simp only [hk]
  rfl
set_option maxRecDepth 100000 in
theorem still_eqN {X : TypeId} (hX : Tryd.prog.underlying X = some (.struct ndF)) (hs : Tryd.prog.stoodInHeld X = false) (n : Nat) (a b a' b' : Int) (c c' : Bool) :
    Sim.still Tryd.prog (Op.equalIn (n + 1 + 1) X (.agg #[.int .i64 a, .int .i64 b, .bool c]) (.agg #[.int .i64 a', .int .i64 b', .bool c'])) = some (a == a' && b == b' && c == c') := by
  have h3 := fun (x y : Int) => still_eqI (P := Tryd.prog) un3 n x y
  have h4 := still_eqB (P := Tryd.prog) un4 n c c'
  have p0 := part_ndI (a := a) (b := b) (c := c) (k := 0) rfl
  have p1 := part_ndI (a := a) (b := b) (c := c) (k := 1) rfl
  have p2 := part_ndB (a := a) (b := b) (c := c) (k := 2) rfl
  have q0 := part_ndI (a := a') (b := b') (c := c') (k := 0) rfl
  have q1 := part_ndI (a := a') (b := b') (c := c') (k := 1) rfl
  have q2 := part_ndB (a := a') (b := b') (c := c') (k := 2) rfl
  rw [Op.equalIn]
  show Sim.still Tryd.prog (Sem.bind (underlying X) _) = _
  rw [still_bind, still_und hX]
  show Sim.still Tryd.prog (Sem.bind program _) = _
  have hp : Sim.still Tryd.prog program = some Tryd.prog := rfl
  rw [still_bind, hp]
  simp only [hs]
  unfold ndF
  simp only [forIn3]
  by_cases e1 : a = a'
  · subst e1
    by_cases e2 : b = b'
    · subst e2
      simp [bind, still_bind, p0, q0, p1, q1, p2, q2, h3, h4, pure, Sim.still]
      cases c <;> cases c' <;> rfl
    · have e2' : (b == b') = false := by simp [e2]
      simp [bind, still_bind, p0, q0, p1, q1, h3, pure, Sim.still, e2']
  · have e1' : (a == a') = false := by simp [e1]
    simp [bind, still_bind, p0, q0, h3, pure, Sim.still, e1']
end
section
variable {nt : Nat} {ops : Array Oper} {t : Fm} {m : AM} {K : Fm → AM → Prop} {d T : Nat} {p : String} {af : Array Edge}
set_option maxRecDepth 100000 in
theorem Step.eqlN {x y : Operand} {Y : TypeId} {a b a' b' : Int} {c c' : Bool} (hx : evo t x = some (.agg #[.int .i64 a, .int .i64 b, .bool c])) (hy : evo t y = some (.agg #[.int .i64 a', .int .i64 b', .bool c'])) (hlt : Nat.blt d nt = true) (hK : K (put t d (.bool (a == a' && b == b' && c == c'))) m) : Step Tryd.prog nt ops ⟨some d, .binOp .eql 143 x y Y, T, p, af, none⟩ t m K := by
  refine .ground rfl rfl hlt (by simp [Op.operands, hx, hy, g1, g0]) (fun h => by simp only [aquiet, evD_of hx, evD_of hy, aint, anil, un121s]; simpa [evD_of hx, evD_of hy] using h) ?_ (by simp [g1, g0]) hK
  have he : Sim.still Tryd.prog (Op.equal 143 (.agg #[.int .i64 a, .int .i64 b, .bool c]) (.agg #[.int .i64 a', .int .i64 b', .bool c'])) = some (a == a' && b == b' && c == c') := still_eqN un121s (by kernel_rfl) 9998 a b a' b' c c'
  have hgt : Tryd.prog.eqGuardType Tryd.prog.depth 143 = false := by kernel_rfl
  have hp : Sim.still Tryd.prog program = some Tryd.prog := rfl
  simp only [execOp, eqGuard, binOp, evD_of hx, evD_of hy, bind, Sem.bind, pure]
  simp [still_bind, hp, hgt, he, Sim.still]
end
end Go.Proofs.YtedbjmgchfgabaaDoor.Abs
namespace Go.Proofs.YtedbjmgchfgabaaDoor.Abs
set_option linter.unusedSimpArgs false
set_option linter.unusedVariables false
open Go.RowKit
open Go.Proofs.YtedbjmgchfgabaaDoor.Sim
open Go.Proofs
/-- A place is named, nothing lies in it. -/
theorem Post.none_put {base : Nat} {R : Pl} {m : AM} {w : World} (h : MRep base R m w) (q : Sim.Place) : Post base m (m ++ [none]) R (R.put m.length q) w w := by
  have hle := Pl.le_put R m.length q (h.none_ _ (Nat.le_refl _))
  have old : ∀ (i : Nat) (b : Blk), (m ++ [none])[i]? = some (some b) → m[i]? = some (some b) := by
    intro i b hi
    rcases Nat.lt_or_ge i m.length with hl | hl
    · rwa [List.getElem?_append_left hl] at hi
    · rw [List.getElem?_append_right hl] at hi
      rcases Nat.eq_zero_or_pos (i - m.length) with e | e
      · rw [e] at hi; simp at hi
      · rw [List.getElem?_eq_none (by simp; omega)] at hi; cases hi
  have ne : ∀ (i : Nat) (b : Blk), m[i]? = some (some b) → i ≠ m.length := fun i b hi => by
    have := (List.getElem?_eq_some_iff.1 hi).1
    omega
  refine ⟨hle, ⟨fun j hj => ?_, fun j d hj => ?_, fun i j b c p r hi hj hb hc hij hp hr => ?_⟩, rfl, rfl, rfl, Nat.le_refl _, fun _ _ _ => rfl, fun k ho => .inr ?_⟩
  · simp at hj
    rw [Pl.put_other _ _ (by omega)]
    exact h.none_ j (by omega)
  · obtain ⟨r, h1, h2⟩ := h.rep j d (old j d hj)
    exact ⟨r, hle _ _ h1, h2.mono hle⟩
  · rw [Pl.put_other _ _ (ne i b (old i b hi))] at hp
    rw [Pl.put_other _ _ (ne j c (old j c hj))] at hr
    exact h.apart i j b c p r (old i b hi) (old j c hj) hb hc hij hp hr
  · obtain ⟨i, b, p, h1, h2, h3, h4⟩ := ho
    rw [Pl.put_other _ _ (ne i b (old i b h1))] at h3
    exact ⟨i, b, p, old i b h1, h2, h3, h4⟩
/-- What is left of a row of n + 1 behind its first element; k is a new name. -/
def rsV (a o s n c k : Nat) : Value := if c = 0 then .slice (some ⟨k, 0, none⟩) 0 0 else .slice (some ⟨a, o + s, none⟩) n c
section
variable {P : Program} {nt : Nat} {ops : Array Oper} {t : Fm} {m : AM} {K : Fm → AM → Prop} {d T : Nat} {p : String} {af : Array Edge}
theorem Step.rest {x y : Operand} {X e s a o n c : Nat} {kk : IntKind} (hx : evo t x = some (.slice (some ⟨a, o, none⟩) (n + 1) (c + 1))) (hy : evo t y = some (.int kk 1)) (hn : n ≤ c) (hX : P.underlying X = some (.slice e)) (hsz : szB P e = some s)
    (hlt : Nat.blt d nt = true) (hK : K (put t d (rsV a o s n c m.length)) (m ++ [none])) : Step P nt ops ⟨some d, .slice X x (some y) none none, T, p, af, none⟩ t m K := by
  refine .l rfl rfl hlt (by simp [stillB, hX]) (by simp [Op.operands, hx, hy]) ?_
  intro base R w b Q next hb hm hev hn'
  have h1 := hev x (by simp [Op.operands])
  have h2 := hev y (by simp [Op.operands])
  rw [evD_of hx] at h1
  rw [evD_of hy] at h2
  obtain ⟨q, hq, ex⟩ : ∃ q, R a = some q ∧ b.eval x = .slice (some ⟨q.block, q.off + o, none⟩) (n + 1) (c + 1 + q.extra) := by
    generalize b.eval x = x' at h1
    cases h1 with
    | slice _ _ _ _ q hq hle => exact ⟨q, hq, rfl⟩
  have ey : b.eval y = .int kk 1 := by
    generalize b.eval y = y' at h2
    cases h2
    rfl
  have b1 : bnd 0 (some (.int kk 1)) = some 1 := by simp [bnd]
  have b2 : bnd (n + 1) none = some (n + 1) := by simp [bnd]
  obtain ⟨u, hu⟩ : ∃ u, u = (if c + 1 + q.extra = 1 then (⟨q.block, q.off + o, none⟩ : Addr) else (⟨q.block, q.off + o, none⟩ : Addr).add (1 * s)) := ⟨_, rfl⟩
  have hr : (Instr.sliceAt X (b.eval x) (some (b.eval y)) none none).run P w = .ok (.slice (some u) n (c + q.extra)) w := by
    rw [ex, ey, hu]
    simp [Instr.sliceAt, Instr.slice, run_underlying hX, run_bounds (P := P) b1 b2 (show 1 ≤ n + 1 by omega) (show n + 1 ≤ c + 1 + q.extra by omega), run_sizeOf' hsz]
    split <;> rfl
  have hx' : (execOp b.eval ⟨some d, .slice X x (some y) none none, T, p, af, none⟩).run P w = .ok (.value (.slice (some u) n (c + q.extra))) w := by simp [execOp, hr]
  by_cases hc : c = 0
  · obtain rfl : n = 0 := by omega
    subst hc
    have hrel : ∃ z : Sim.Place, u = ⟨z.block, z.off, none⟩ ∧ z.extra = q.extra := by
      by_cases hz : 0 + 1 + q.extra = 1
      · rw [if_pos hz] at hu
        exact ⟨⟨q.block, q.off + o, q.extra⟩, hu, rfl⟩
      · rw [if_neg hz, Addr.add_lit] at hu
        exact ⟨⟨q.block, q.off + o + 1 * s, q.extra⟩, hu, rfl⟩
    obtain ⟨z, hz, hze⟩ := hrel
    refine wp_of_does rfl (.inl hx') (hn' (R.put m.length z) (rsV a o s 0 0 m.length) _ _ w ?_ (Post.none_put hm z) hK)
    have := Rel.slice (R := R.put m.length z) m.length 0 0 0 z (Pl.put_same _ _ _) (Nat.le_refl _)
    rw [hze] at this
    rw [hz]
    simpa [rsV] using this
  · refine wp_of_does rfl (.inl hx') (hn' (R.put m.length q) (rsV a o s n c m.length) _ _ w ?_ (Post.none_put hm q) hK)
    have hle := Pl.le_put R m.length q (hm.none_ _ (Nat.le_refl _))
    have := Rel.slice (R := R.put m.length q) a (o + s) n c q (hle _ _ hq) hn
    rw [if_neg (by omega), Addr.add_lit] at hu
    rw [hu]
    simpa [rsV, hc, Nat.add_assoc] using this
/-- One element (of any size) is added to nil. -/
theorem Step.appNs {x y : Operand} {X Y e e' : TypeId} {by_ s r sz : Nat} {z : Array Value} {new : List Value} {kd : Kind} (hx : evo t x = some (.slice none 0 0)) (hy : evo t y = some (.slice (some ⟨r, 0, none⟩) 1 1)) (hE : elemB P X = some (e, s, by_, z)) (hY : P.underlying Y = some (.slice e'))
    (hr : m[r]? = some (some { cells := new, kind := kd, size := sz })) (hn : new.length = s) (hn1 : new.all (·.oneCell') = true) (hs : 0 < s) (hb : Nat.ble by_ 1099511627776 = true) (hlt : Nat.blt d nt = true)
    (hK : K (put t d (.slice (some ⟨m.length, 0, none⟩) 1 1)) (m ++ [some { cells := new, kind := .grow, size := s }])) :
    Step P nt ops ⟨some d, .call ⟨.builtin .append, #[x, y], #[X, Y]⟩, T, p, af, none⟩ t m K := by
  have hb' := Nat.le_of_ble_eq_true hb
  have h1 : K (put t d (.slice (some ⟨m.length + 0, 0, none⟩) 1 1)) (m ++ ([] ++ [some { cells := new, kind := .grow, size := s }])) := by simpa using hK
  rw [← List.append_nil m] at hr ⊢
  refine .l rfl rfl hlt rfl (by simp [Op.operands, Call.operands, hx, hy]) (loudN (L := []) rfl rfl (v := .slice (some ⟨m.length + 0, 0, none⟩) 1 1) ?_ h1)
  have hcell : acells ((m ++ []) ++ [none]) s 1 (.slice (some ⟨r, 0, none⟩) 1 1) = some new := by
    have hg : ((m ++ []) ++ [none])[r]? = some (some { cells := new, kind := kd, size := sz }) := get_old _ hr
    simp only [acells, hg]
    rw [if_neg (by omega), if_pos ⟨Nat.le_refl _, by simp [hn]⟩]
    simp [← hn]
  simp only [aloud, evD_of hx, evD_of hy, aappend, hE, hY, aSliceLen, hcell]
  rw [if_neg (by simp [hn1]; omega), if_neg (by omega), if_pos ⟨by omega, by omega⟩, set_new_at m [] rfl]
  simp
/-- One element (of any size) is added to a row that may grow, wherever it lies. -/
theorem Step.appBs {x y : Operand} {X Y e e' : TypeId} {by_ s q r n sz : Nat} {z : Array Value} {c new : List Value} {kd : Kind} (hx : evo t x = some (.slice (some ⟨q, 0, none⟩) n n)) (hy : evo t y = some (.slice (some ⟨r, 0, none⟩) 1 1)) (hE : elemB P X = some (e, s, by_, z)) (hY : P.underlying Y = some (.slice e'))
    (hq : m[q]? = some (some { cells := c, kind := .grow, size := s })) (hc : c.length = n * s) (hr : m[r]? = some (some { cells := new, kind := kd, size := sz })) (hn : new.length = s) (hn1 : new.all (·.oneCell') = true) (hs : 0 < s) (hb : (n + 1) * by_ ≤ 1099511627776 ∧ n + 1 ≤ 1099511627776) (hlt : Nat.blt d nt = true)
    (hK : K (put t d (.slice (some ⟨m.length, 0, none⟩) (n + 1) (n + 1))) ((m.set q none) ++ [some { cells := c ++ new, kind := .grow, size := s }])) :
    Step P nt ops ⟨some d, .call ⟨.builtin .append, #[x, y], #[X, Y]⟩, T, p, af, none⟩ t m K := by
  refine .l rfl rfl hlt rfl (by simp [Op.operands, Call.operands, hx, hy]) (loud_of_aloud (v := .slice (some ⟨m.length, 0, none⟩) (n + 1) (n + 1)) (m' := (m.set q none) ++ [some { cells := c ++ new, kind := .grow, size := s }]) rfl ?_ hK)
  have hsl : q < m.length := (List.getElem?_eq_some_iff.1 hq).1
  have hcell : acells (m ++ [none]) s 1 (.slice (some ⟨r, 0, none⟩) 1 1) = some new := by
    have hg : (m ++ [none])[r]? = some (some { cells := new, kind := kd, size := sz }) := get_old _ hr
    simp only [acells, hg]
    rw [if_neg (by omega), if_pos ⟨Nat.le_refl _, by simp [hn]⟩]
    simp [← hn]
  have hg : (m ++ [none])[q]? = some (some { cells := c, kind := .grow, size := s }) := get_old _ hq
  simp only [aloud, evD_of hx, evD_of hy, aappend, hE, hY, aSliceLen, hcell]
  rw [if_neg (by simp [hn1]; omega), if_neg (by omega)]
  simp only [hg]
  rw [if_neg (by omega), if_pos ⟨hb.1, hb.2, Nat.le_refl _⟩, if_pos ⟨by simp [hc], trivial⟩]
  simp only [List.drop_zero, Option.some.injEq, Prod.mk.injEq, true_and]
  rw [List.set_append_left _ _ hsl, List.set_append_right _ _ (by simp)]
  simp [List.take_of_length_le (show c.length ≤ n * s by omega)]
end
end Go.Proofs.YtedbjmgchfgabaaDoor.Abs
namespace Go.Proofs.YtedbjmgchfgabaaDoor.Abs
set_option linter.unusedSimpArgs false
set_option linter.unusedVariables false
open Go.RowKit
open Go.Proofs.YtedbjmgchfgabaaDoor.Sim
open Go.Proofs
section
variable {P : Program} {nt : Nat} {ops : Array Oper} {t : Fm} {m : AM} {K : Fm → AM → Prop} {d T : Nat} {p : String} {af : Array Edge}
theorem Step.restO {M L L' : AM} {x y : Operand} {X e s a o n c k : Nat} {kk : IntKind} (hk : L.length = k) (hx : evo t x = some (.slice (some ⟨a, o, none⟩) (n + 1) (c + 1))) (hy : evo t y = some (.int kk 1)) (hn : n ≤ c) (hX : P.underlying X = some (.slice e)) (hsz : szB P e = some s)
    (hlt : Nat.blt d nt = true) (hL : L ++ [none] = L') (hK : K (put t d (rsV a o s n c (M.length + k))) (M ++ L')) : Step P nt ops ⟨some d, .slice X x (some y) none none, T, p, af, none⟩ t (M ++ L) K := by
  subst hL hk
  exact Step.rest hx hy hn hX hsz hlt (by rw [List.length_append, List.append_assoc]; exact hK)
/-- A call that may turn anything that its contract says. -/
theorem Step.callZ {args : Array Operand} {tys : Array TypeId} {g : FuncId} {vs : List Value} {fn : Func} {b : Code} {S : Value → AM → Prop} (hP : Fit P) (ha : evL t args.toList = some vs) (hf : P.funcs[g]? = some fn) (hb : fn.body = some b)
    (hlt : Nat.blt d nt = true) (h : ACall P g vs.toArray m S) (hK : ∀ (v : Value) (M : AM), S v M → K (put t d v) (M ++ [])) : Step P nt ops ⟨some d, .call ⟨.value (.func g), args, tys⟩, T, p, af, none⟩ t m K :=
  .callF hP ha hf hb hlt h (by
    intro v m' hS
    have := hK v m' hS
    rwa [List.append_nil] at this)
end
/-- What is left of a row of nodes that lies in the memory m0. -/
def PN (m0 : AM) (v : Value) (l : List Nd) : Prop := ∃ a o, Sl v a o l.length ∧ ∀ i, i < l.length → RdL m0 a (o + i * 3) (ndc1 (l.getD i (0, 0, false)))
theorem PN.old {m : AM} {v : Value} {l : List Nd} (h : PN m v l) (T : AM) : PN (m ++ T) v l := by
  obtain ⟨a, o, h1, h2⟩ := h
  exact ⟨a, o, h1, fun i hi => (h2 i hi).old T⟩
theorem PN.of_nds {m : AM} {v : Value} {l : List Nd} (h : Nds m v l) : PN m v l := by
  obtain ⟨a, o, sl, _, rd⟩ := h
  exact ⟨a, o, sl, rd⟩
theorem PN.cons {m : AM} {v : Value} {n : Nd} {l : List Nd} (h : PN m v (n :: l)) : ∃ a o c, l.length ≤ c ∧ v = .slice (some ⟨a, o, none⟩) (l.length + 1) (c + 1) ∧ ∀ i, i < (n :: l).length → RdL m a (o + i * 3) (ndc1 ((n :: l).getD i (0, 0, false))) := by
  obtain ⟨a, o, sl, rd⟩ := h
  rcases sl with ⟨e, h0⟩ | ⟨c, hc, e⟩ | ⟨h0, o', k, e⟩
  · simp at h0
  · simp at hc
    exact ⟨a, o, c - 1, by omega, by rw [e, show c - 1 + 1 = c by omega]; rfl, rd⟩
  · simp at h0
/-- Behind the first node. -/
theorem PN.tail {m0 : AM} {a o c k : Nat} {n : Nd} {l : List Nd} (hc : l.length ≤ c) (h : ∀ i, i < (n :: l).length → RdL m0 a (o + i * 3) (ndc1 ((n :: l).getD i (0, 0, false)))) : PN m0 (rsV a o 3 l.length c k) l := by
  by_cases h0 : c = 0
  · have hl : l.length = 0 := by omega
    obtain rfl : l = [] := List.length_eq_zero_iff.1 hl
    subst h0
    exact ⟨k, 0, .inr (.inl ⟨0, Nat.le_refl _, rfl⟩), fun i hi => by simp at hi⟩
  · refine ⟨a, o + 3, .inr (.inl ⟨c, hc, by simp [rsV, h0]⟩), fun i hi => ?_⟩
    have := h (i + 1) (by simpa using hi)
    rw [show o + (i + 1) * 3 = o + 3 + i * 3 by omega] at this
    simpa using this
/-- The found pieces: variable F names a row of them, in block A. -/
def FD (b0 : Nat) (m : AM) (F A : Nat) (l : List Plc) : Prop := b0 ≤ F ∧ ∃ v, m[F]? = some (some { cells := [v] }) ∧ (l = [] ∧ v = .slice none 0 0 ∨ v = .slice (some ⟨A, 0, none⟩) l.length l.length ∧ 0 < l.length ∧ b0 ≤ A ∧ A ≠ F ∧ m[A]? = some (some { cells := plc l, kind := .grow, size := 6 }))
theorem FD.old {b0 : Nat} {m : AM} {F A : Nat} {l : List Plc} (h : FD b0 m F A l) (T : AM) : FD b0 (m ++ T) F A l := by
  obtain ⟨h1, v, h2, h3⟩ := h
  refine ⟨h1, v, get_old _ h2, ?_⟩
  rcases h3 with h3 | ⟨h3, h4, h5, h6, h7⟩
  · exact .inl h3
  · exact .inr ⟨h3, h4, h5, h6, get_old _ h7⟩
/-- All but these two blocks is as it was. -/
def Kp (m M : AM) (F A : Nat) : Prop := m.length ≤ M.length ∧ ∀ (j : Nat) (b : Option Blk), j ≠ F → j ≠ A → m[j]? = some b → M[j]? = some b
theorem Kp.refl (m : AM) (F A : Nat) : Kp m m F A := ⟨Nat.le_refl _, fun _ _ _ _ h => h⟩
theorem Kp.old {m M : AM} {F A : Nat} (h : Kp m M F A) (T : AM) : Kp m (M ++ T) F A := ⟨by rw [List.length_append]; have := h.1; omega, fun j b h1 h2 h3 => get_old _ (h.2 j b h1 h2 h3)⟩
theorem Kp.of_old {m M T : AM} {F A : Nat} (h : Kp (m ++ T) M F A) : Kp m M F A := ⟨by have := h.1; rw [List.length_append] at this; omega, fun j b h1 h2 h3 => h.2 j b h1 h2 (get_old _ h3)⟩
theorem Kp.trans {m m1 M : AM} {F A A1 : Nat} (h : Kp m m1 F A) (hA : A1 = A ∨ m.length ≤ A1) (k : Kp m1 M F A1) : Kp m M F A := by
  refine ⟨Nat.le_trans h.1 k.1, fun j b h1 h2 h3 => k.2 j b h1 (fun e => ?_) (h.2 j b h1 h2 h3)⟩
  have := (List.getElem?_eq_some_iff.1 h3).1
  rcases hA with hA | hA
  · exact h2 (by rw [e, hA])
  · omega
theorem Kp.setF {m M : AM} {F A : Nat} (h : Kp m M F A) (b : Option Blk) : Kp m (M.set F b) F A := ⟨by have := h.1; rw [List.length_set]; omega, fun j c h1 h2 h3 => by rw [List.getElem?_set_ne (fun e => h1 e.symm)]; exact h.2 j c h1 h2 h3⟩
theorem Kp.setA {m M : AM} {F A : Nat} (h : Kp m M F A) (b : Option Blk) : Kp m (M.set A b) F A := ⟨by have := h.1; rw [List.length_set]; omega, fun j c h1 h2 h3 => by rw [List.getElem?_set_ne (fun e => h2 e.symm)]; exact h.2 j c h1 h2 h3⟩
theorem Kp.rd {m M : AM} {F A a o : Nat} {v : Value} (h : Kp m M F A) (h1 : a ≠ F) (h2 : a ≠ A) (hr : Rd m a o v) : Rd M a o v := by
  obtain ⟨b, k1, k2⟩ := hr
  exact ⟨b, h.2 a _ h1 h2 k1, k2⟩
theorem Kp.rdL {m M : AM} {F A a o : Nat} {c : List Value} (h : Kp m M F A) (h1 : a ≠ F) (h2 : a ≠ A) (hr : RdL m a o c) : RdL M a o c := by
  obtain ⟨b, k1, k2⟩ := hr
  exact ⟨b, h.2 a _ h1 h2 k1, k2⟩
/-- What a reading leaves. -/
def RdP (m0 m : AM) (F A : Nat) (l : List Plc) : Option (List Plc × List Nd) → Value → AM → Prop
  | none => fun w M => (∃ N, M = m0 ++ N) ∧ ∃ u, w = .tuple #[u, .bool false]
  | some (l2, ps) => fun w M => (∃ N, M = m0 ++ N) ∧ ∃ u A', w = .tuple #[u, .bool true] ∧ PN m0 u ps ∧ FD m0.length M F A' (l ++ l2) ∧ A' < M.length ∧ (A' = A ∨ m.length ≤ A') ∧ Kp m M F A
theorem sz121 : szB Tryd.prog 143 = some 3 := by kernel_rfl
theorem sz69 : szB Tryd.prog 56 = some 1 := by kernel_rfl
theorem set_pre {m0 m : AM} {F : Nat} {b : Option Blk} (h : ∃ N, m = m0 ++ N) (hF : m0.length ≤ F) : ∃ N, m.set F b = m0 ++ N := by
  obtain ⟨N, rfl⟩ := h
  exact set_high hF b
theorem pre_app {m0 m : AM} (h : ∃ N, m = m0 ++ N) (T : AM) : ∃ N, m ++ T = m0 ++ N := by
  obtain ⟨N, rfl⟩ := h
  exact ⟨N ++ T, List.append_assoc _ _ _⟩
/-- The first piece is found. -/
theorem FD.one {b0 : Nat} {M : AM} {F A : Nat} {x : Plc} {g : Option Blk} (h : FD b0 M F A []) (h0 : b0 ≤ M.length) : FD b0 (((M ++ [g]) ++ [some ({ cells := plc1 x, kind := .grow, size := 6 } : Blk)]).set F (some ({ cells := [.slice (some ⟨(M ++ [g]).length, 0, none⟩) 1 1] } : Blk))) F (M ++ [g]).length [x] := by
  obtain ⟨h1, v, h2, _⟩ := h
  have hl := (List.getElem?_eq_some_iff.1 h2).1
  have hml : (M ++ [g]).length = M.length + 1 := by simp
  refine ⟨h1, .slice (some ⟨(M ++ [g]).length, 0, none⟩) 1 1, ?_, .inr ⟨rfl, by simp, by omega, by omega, ?_⟩⟩
  · rw [List.getElem?_set_self (by simp; omega)]
  · rw [List.getElem?_set_ne (by omega), List.getElem?_append_right (Nat.le_refl _)]
    simp [plc]
theorem FD.more {b0 : Nat} {M : AM} {F A : Nat} {x : Plc} {l : List Plc} {g : Option Blk} (h : FD b0 M F A l) (h0 : b0 ≤ M.length) : FD b0 ((((M ++ [g]).set A none) ++ [some ({ cells := plc l ++ plc1 x, kind := .grow, size := 6 } : Blk)]).set F (some ({ cells := [.slice (some ⟨(M ++ [g]).length, 0, none⟩) (l.length + 1) (l.length + 1)] } : Blk))) F (M ++ [g]).length (l ++ [x]) := by
  obtain ⟨h1, v, h2, _⟩ := h
  have hl := (List.getElem?_eq_some_iff.1 h2).1
  have hml : (M ++ [g]).length = M.length + 1 := by simp
  refine ⟨h1, .slice (some ⟨(M ++ [g]).length, 0, none⟩) (l.length + 1) (l.length + 1), ?_, .inr ⟨by simp, by simp, by omega, by omega, ?_⟩⟩
  · rw [List.getElem?_set_self (by simp; omega)]
  · rw [List.getElem?_set_ne (by omega), List.getElem?_append_right (by simp)]
    simp [plc]
theorem el69 : elemB Tryd.prog 56 = some (106, 6, 48, #[.int .i64 0, .int .i64 0, .int .i64 0, .int .i64 0, .int .i64 0, .bool false]) := by kernel_rfl
theorem un69 : Tryd.prog.underlying 56 = some (.slice 106) := by kernel_rfl
theorem bl81 {a x y z u : Int} {c : Bool} : abuild Tryd.prog 106 [(0, .int .i64 a), (1, .agg #[.int .i64 x, .int .i64 y, .int .i64 z, .int .i64 u]), (2, .bool c)] = some (.agg #[.int .i64 a, .int .i64 x, .int .i64 y, .int .i64 z, .int .i64 u, .bool c]) := by kernel_rfl
theorem bs69 {m : AM} {k : Nat} {a x y z u : Int} {c : Bool} : abuildSlice Tryd.prog m k 56 1 [(0, .agg #[.int .i64 a, .int .i64 x, .int .i64 y, .int .i64 z, .int .i64 u, .bool c])] = some (.slice (some ⟨k, 0, none⟩) 1 1, m.set k (some { cells := [.int .i64 a, .int .i64 x, .int .i64 y, .int .i64 z, .int .i64 u, .bool c] })) := by kernel_rfl
end Go.Proofs.YtedbjmgchfgabaaDoor.Abs
