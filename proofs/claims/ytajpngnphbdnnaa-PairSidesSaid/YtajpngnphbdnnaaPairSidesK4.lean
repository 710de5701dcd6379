/- Proved here: what the proof of PairSides rests on, part 4 of 5. Conditions: those that each theorem names. -/
import Derived.Test.YtajpngnphbdnnaaPairSidesK3
namespace Go.Proofs.Ytajpngnphbdnnaa.Abs
set_option linter.unusedSimpArgs false
set_option linter.unusedVariables false
open Go.RowKit
open Go.Proofs.Ytajpngnphbdnnaa.Sim
open Go.Proofs
open Hung
theorem un77 : Try.prog.underlying 77 = some (.pointer 82) := by kernel_rfl
theorem bs27x {m : AM} {k : Nat} {x : Int} : abuildSlice Try.prog m k 27 1 [(0, .int .i64 x)] = some (.slice (some ⟨k, 0, none⟩) 1 1, m.set k (some { cells := [.int .i64 x] })) := by kernel_rfl
set_option maxRecDepth 100000 in
theorem Cheapest_no {m : AM} {lv rv : Value} {u : Ru} {L R : List Gl} (hl : Gls m lv L) (hr : Gls m rv R) (h1 : L.length ≤ 100000) (h2 : R.length ≤ 100000) (hn : (sB L && sB R && uB u) = false) : ACall Try.prog 20 #[lv, rv, u.v] m (Ret (.tuple #[.slice none 0 0, .int .i64 2]) m) := by
  have r0 : ∀ T : AM, RdL (m ++ (some { cells := u.cells } :: T)) (m.length + 0) 0 u.cells := fun T => RdL.new rfl rfl
  have hc := fun T => costs_no (hl.old T) (hr.old T) h1 h2 hn
  refine ACall.start Try.func20 rfl rfl ?_
  (repeat (first | (with_reducible refine AWo.cons ?_) | ((with_reducible refine Step.id ?_); first | ((with_reducible apply Step.move); exact rfl; exact rfl) | ((with_reducible apply Step.assign); exact rfl; exact rfl) | ((with_reducible apply Step.loadL (n := 8)); exact rfl; (focus (decide +kernel)); (focus (decide +kernel)); exact rfl; (focus (exact RdL.new rfl rfl)); exact rfl; exact rfl) | ((with_reducible apply Step.ptrNil); exact rfl; exact rfl; exact un77; exact rfl) | ((with_reducible apply Step.callR fit); exact rfl; exact Try.func54; exact rfl; exact rfl; exact (hc _)) | ((with_reducible apply Step.box 0); exact rfl; exact rfl; (focus (kernel_rfl)); exact rfl; (focus (first | (simp only [List.nil_append, List.cons_append, List.set_cons_zero, List.set_cons_succ, iv_set, bv_set, iv_rep, bv_rep]; done) | (simp only [List.nil_append, List.cons_append, List.set_cons_zero, List.set_cons_succ, iv_set, bv_set, iv_rep, bv_rep]; rfl) | rfl)))) | (with_reducible refine AWo.nil ?_) | ((with_reducible apply AW.seq)) | ((with_reducible apply Then.n)) | ((with_reducible apply AW.regL)) | ((with_reducible apply AW.condT); exact rfl; (focus (rfl)))))
  (refine AW.retD (l := [(6, _), (7, _)]) (by repeat (first | exact trivial | (refine And.intro ⟨rfl, by (first | exact .int _ _ | exact Ren.of_g0 rfl)⟩ ?_))) ?_; (repeat (first | refine Then.r ?_ | refine InBlk.r ?_)))
  exact ⟨_, rfl, rfl, rfl⟩
theorem mx_le {w : Nat → Nat → Int} {B : Int} (hB : 0 ≤ B) (hw : ∀ x y, w x y ≤ B) : ∀ (L R : List Nat), mx w L R ≤ B * L.length
  | [], _ => by simp [mx]
  | x :: L, R => by
    rcases mx_cases w x L R with h | ⟨y, _, h⟩
    · have := mx_le hB hw L R
      rw [h, List.length_cons, Int.natCast_add, Int.mul_add]; omega
    · have := mx_le hB hw L (R.erase y)
      have := hw x y
      rw [h, List.length_cons, Int.natCast_add, Int.mul_add]; omega
theorem left_bd {c : Nat → Nat → Int} (hc : Cs c) {L R : List Nat} (h : L.length ≤ 32) : 0 ≤ mx (wo c) L R ∧ mx (wo c) L R ≤ 32000000000 := by
  have h1 := mx_nonneg (wo c) L R
  have h2 := mx_le (w := wo c) (B := 1000000000) (by omega) (fun x y => (wo_bd hc x y).2) L R
  omega
theorem Rd.set_ne {M : AM} {a i o : Nat} {v : Value} {x : Option Blk} (h : Rd M i o v) (hn : i ≠ a) : Rd (M.set a x) i o v := by
  obtain ⟨b, h1, h2⟩ := h
  exact ⟨b, by rw [List.getElem?_set_ne (Ne.symm hn)]; exact h1, h2⟩
theorem get_app' {M L : AM} {k : Nat} : (M ++ L)[M.length + k]? = L[k]? := get_app M L k
theorem Spn.app {M : AM} {n0 : Nat} {cv : Value} {ws : List Value} (h : Spn M n0 cv ws) (h0 : n0 ≤ M.length) (x : Value) :
    (ws = [] → Spn (M ++ [some { cells := [x], kind := .grow, size := 1 }]) n0 (.slice (some ⟨M.length, 0, none⟩) 1 1) [x]) ∧
    (∀ s, cv = .slice (some ⟨s, 0, none⟩) ws.length ws.length → Spn (M.set s none ++ [some { cells := ws ++ [x], kind := .grow, size := 1 }]) n0 (.slice (some ⟨M.length, 0, none⟩) (ws.length + 1) (ws.length + 1)) (ws ++ [x])) :=
  ⟨fun _ => .inr ⟨by simp, M.length, h0, rfl, by simp⟩, fun s _ => .inr ⟨by simp, M.length, h0, by simp, by rw [List.getElem?_append_right (by simp)]; simp⟩⟩
def mI : Option Nat → Int
  | some y => (y : Nat)
  | none => -1
/-- What is left of the gloves from i on. -/
abbrev fromI (i l : Nat) : List Nat := List.range' i (l - i)
set_option maxHeartbeats 4000000 in
set_option maxRecDepth 100000 in
theorem Cheapest_ok {m : AM} {lv rv : Value} {u : Ru} {L R : List Gl} (hl : Gls m lv L) (hr : Gls m rv R) (hL : sB L = true) (hR : sB R = true) (hu : uB u = true) :
    ACall Try.prog 20 #[lv, rv, u.v] m (More (fun M v => ∃ w, v = .tuple #[w, .int .i64 0] ∧ Ints M w (chp (cT u L R) (List.range L.length) (List.range R.length))) m) := by
  have h1 : L.length ≤ 32 ∧ L.all gB = true := by simpa [sB] using hL
  have h2 : R.length ≤ 32 ∧ R.all gB = true := by simpa [sB] using hR
  have r0 : ∀ T : AM, RdL (m ++ (some { cells := u.cells } :: T)) (m.length + 0) 0 u.cells := fun T => RdL.new rfl rfl
  have hcs := cT_cs hu hL hR
  refine ACall.start Try.func20 rfl rfl ?_
  (repeat (first | (with_reducible refine AWo.cons ?_) | ((with_reducible refine Step.id ?_); first | ((with_reducible apply Step.move); exact rfl; exact rfl) | ((with_reducible apply Step.assign); exact rfl; exact rfl) | ((with_reducible apply Step.loadL (n := 8)); exact rfl; (focus (decide +kernel)); (focus (decide +kernel)); exact rfl; (focus (exact RdL.new rfl rfl)); exact rfl; exact rfl) | ((with_reducible apply Step.box 0); exact rfl; exact rfl; (focus (kernel_rfl)); exact rfl; (focus (first | (simp only [List.nil_append, List.cons_append, List.set_cons_zero, List.set_cons_succ, iv_set, bv_set, iv_rep, bv_rep]; done) | (simp only [List.nil_append, List.cons_append, List.set_cons_zero, List.set_cons_succ, iv_set, bv_set, iv_rep, bv_rep]; rfl) | rfl)))) | (with_reducible refine AWo.nil ?_) | ((with_reducible apply AW.seq)) | ((with_reducible apply Then.n)) | ((with_reducible apply AW.regL))))
  ((with_reducible apply Step.callX fit); exact rfl; exact Try.func54; exact rfl; exact rfl; exact (costs_ok (hl.old _) (hr.old _) hL hR hu))
  intro tv M hM hT
  obtain ⟨N0, hN0⟩ := hM
  have hMN : ∃ N, M = m ++ N := ⟨_, by rw [hN0, List.append_assoc]⟩
  clear r0 hN0
  generalize cT u L R = c at *
  obtain ⟨a, cv, b, o, htv, t1, t2, t3, t4, t5, t6, t7⟩ := id hT
  generalize hl' : L.length = l at *
  generalize hr' : R.length = r at *
  subst htv
  (repeat (first | (with_reducible refine AWo.cons ?_) | ((with_reducible refine Step.id ?_); first | ((with_reducible apply Step.move); exact rfl; exact rfl) | ((with_reducible apply Step.assign); exact rfl; exact rfl) | ((with_reducible apply Step.ptrNot); exact rfl; exact rfl; exact un77; exact rfl)) | (with_reducible refine AWo.nil ?_) | ((fail_if_success (with_reducible refine AW.atR (id := 4) ?_)); ((with_reducible apply AW.seq))) | ((with_reducible apply Then.n)) | ((with_reducible apply AW.regL)) | ((with_reducible apply AW.skip)) | ((with_reducible apply AW.condF); exact rfl; (focus (rfl)))))
  rw [List.append_nil]
  refine AW.rebase ?_
  have wt : Low M.length (.pointer (some ⟨a, 0, none⟩)) := .ptr t1
  refine AW.joinG (fr [(8, .pointer (some ⟨a, 0, none⟩)), (9, .slice (some ⟨M.length + 0, 0, none⟩) l l), (10, .slice (some ⟨M.length + 1, 0, none⟩) r r)]) (M ++ [some { cells := iv (nats (List.range l)) }, some { cells := iv (nats (List.range r)) }]) ?_ ?_
  · (repeat' (first | ((with_reducible refine Step.id ?_); first | ((with_reducible apply Step.move); exact rfl; exact rfl) | ((with_reducible apply Step.assign); exact rfl; exact rfl) | ((with_reducible apply Step.load); exact rfl; (focus (decide +kernel)); exact rfl; (focus (first | exact t3.old _ | exact t4.old _))) | ((with_reducible apply Step.field (k := 1)); exact rfl; (focus (decide +kernel)); exact rfl) | ((with_reducible apply Step.field (k := 2)); exact rfl; (focus (decide +kernel)); exact rfl) | ((with_reducible apply Step.nilp); exact rfl; exact rfl) | ((with_reducible apply Step.callN fit (k := 0)); exact rfl; exact rfl; exact Try.func55; exact rfl; exact rfl; exact (upTo_ok l (by omega)); (focus (first | (simp only [List.nil_append, List.cons_append, List.set_cons_zero, List.set_cons_succ, iv_set, bv_set, iv_rep, bv_rep]; done) | (simp only [List.nil_append, List.cons_append, List.set_cons_zero, List.set_cons_succ, iv_set, bv_set, iv_rep, bv_rep]; rfl) | rfl))) | ((with_reducible apply Step.callN fit (k := 1)); exact rfl; exact rfl; exact Try.func55; exact rfl; exact rfl; exact (upTo_ok r (by omega)); (focus (first | (simp only [List.nil_append, List.cons_append, List.set_cons_zero, List.set_cons_succ, iv_set, bv_set, iv_rep, bv_rep]; done) | (simp only [List.nil_append, List.cons_append, List.set_cons_zero, List.set_cons_succ, iv_set, bv_set, iv_rep, bv_rep]; rfl) | rfl)))) | ((with_reducible apply Then.n)) | ((with_reducible apply AW.drawT fit (T := (.step 0 (.step 1 (.step 2 (.step 3 (.step 5 (.step 6 (.step 7 (.both (.step 4 (.step 8 (.step 9 (.step 10 (.step 11 .done))))) (.step 8 (.step 4 (.step 9 (.step 10 (.step 11 .done))))))))))))))); (focus (decide +kernel))) | ((with_reducible apply AWt.step); exact rfl) | ((with_reducible apply AWt.done)) | refine AWt.both ?_ ?_))
    all_goals first | (refine Gc.perm [0,1] rfl (by decide) ?_ (CellsOk.ren ?_) ?_; (focus (intro p hp; rcases p with _ | _ | p <;> first | rfl | exact absurd hp (lenB (n := 2) rfl))); (focus (repeat (first | exact CellsOk.nil | refine CellsOk.cons (by exact g0_iv _) ?_))); (focus ((repeat (first | exact trivial | (refine And.intro ⟨_, rfl, ?_⟩ ?_; (focus (first | exact Low.sg (by assumption) (by simp) | (refine Ren.slice_sg ?_; (focus (first | (simp; done) | omega | (simp; omega))))))))); done))) | (refine Gc.perm [1,0] rfl (by decide) ?_ (CellsOk.ren ?_) ?_; (focus (intro p hp; rcases p with _ | _ | p <;> first | rfl | exact absurd hp (lenB (n := 2) rfl))); (focus (repeat (exact CellsOk.nil))); (focus ((repeat (first | exact trivial | (refine And.intro ⟨_, rfl, ?_⟩ ?_; (focus (exact Low.sg (by assumption) (by simp)))))); done)))
  have il : Ints (M ++ [some { cells := iv (nats (List.range l)) }, some { cells := iv (nats (List.range r)) }]) (.slice (some ⟨M.length + 0, 0, none⟩) l l) (nats (List.range l)) := ints_new rfl rfl _ (by simp)
  have ir : Ints (M ++ [some { cells := iv (nats (List.range l)) }, some { cells := iv (nats (List.range r)) }]) (.slice (some ⟨M.length + 1, 0, none⟩) r r) (nats (List.range r)) := ints_new rfl rfl _ (by simp)
  (repeat (first | (with_reducible refine AWo.cons ?_) | ((with_reducible refine Step.id ?_); ((with_reducible apply Step.move); exact rfl; exact rfl)) | ((with_reducible apply AW.seq)) | ((with_reducible apply AW.regL))))
  ((with_reducible apply Step.callX fit); exact rfl; exact Try.func56; exact rfl; exact rfl; exact (assign_ok (hT.old _) hcs (by omega) (by omega) il ir (by simp; omega) (by simp; omega) (fun x hx => List.mem_range.1 hx) (fun x hx => List.mem_range.1 hx)))
  rintro v M1 hM1 ⟨va, vb, pa, pb, best, rfl, hbest, _, _⟩
  have hb := hbest.mx List.nodup_range List.nodup_range
  clear hbest il
  obtain ⟨N1, hN1⟩ := hM1
  have hla : M1[M.length + 0]? = some (some { cells := iv (nats (List.range l)) }) := by rw [hN1, List.append_assoc, get_app]; rfl
  obtain ⟨rq, ro, s1, s2, s3⟩ := ir
  have hM1 : ∃ N, M1 = M ++ N := ⟨_, by rw [hN1, List.append_assoc]⟩
  have hs1 : Sl (.slice (some ⟨M.length + 1, 0, none⟩) r r) (M.length + 1) 0 (nats (List.range r)).length := by simp; exact Sl.mk (Nat.le_refl _)
  have hs3 : ∀ k, k < (nats (List.range r)).length → Rd M1 (M.length + 1) (0 + k) (.int .i64 ((nats (List.range r)).getD k 0)) := fun k hk => by
    rw [hN1]
    refine Rd.old _ (Rd.new rfl ?_)
    rw [Nat.zero_add]; exact iv_get hk
  have hs2 : M.length + 1 < M1.length := by rw [hN1]; simp
  clear s1 s2 s3 hN1 ro
  clear rq
  generalize M.length + 0 = la at *
  generalize hq0 : M.length + 1 = q0 at *
  obtain ⟨N1, rfl⟩ := hM1
  have hr0 : nats (List.range r) = nats (List.range r) := rfl
  (repeat (first | (with_reducible refine AWo.cons ?_) | ((with_reducible refine Step.id ?_); first | ((with_reducible apply Step.move); exact rfl; exact rfl) | ((with_reducible apply Step.assign); exact rfl; exact rfl) | ((with_reducible apply Step.load); exact rfl; (focus (decide +kernel)); exact rfl; (focus (exact (t3.old _).old _))) | ((with_reducible apply Step.field (k := 1)); exact rfl; (focus (decide +kernel)); exact rfl) | ((with_reducible apply Step.nilp); exact rfl; exact rfl) | ((with_reducible apply Step.extract); exact rfl; exact rfl; exact rfl)) | (with_reducible refine AWo.nil ?_) | ((with_reducible apply AW.seq)) | ((with_reducible apply Then.n)) | ((with_reducible apply AW.regL)) | ((with_reducible apply AW.block))))
  refine AW.loopW (fun rk t M' => ∃ (i q o' : Nat) (Rs : List Nat) (left : Int) (out : List Int) (v9 v10 v14 : Value) (N : AM), rk = l - i ∧ i ≤ l ∧ M' = M ++ N ∧ M'[la]? = some (some { cells := iv (nats (List.range l)) }) ∧ (i < l → v9 = .slice (some ⟨la, i, none⟩) (l - i) (l - i)) ∧
    (Sl v10 q o' Rs.length ∧ q < M'.length ∧ ∀ k, k < Rs.length → Rd M' q (o' + k) (.int .i64 ((Rs.getD k 0 : Nat) : Int))) ∧ Rs.Nodup ∧ (∀ y ∈ Rs, y < r) ∧ left = mx (wo c) (fromI i l) Rs ∧ (0 ≤ left ∧ left ≤ 32000000000) ∧
    Spn M' M.length v14 (iv out) ∧ (∀ s, v14 = .slice (some ⟨s, 0, none⟩) (iv out).length (iv out).length → s ≠ q) ∧ out.length = i ∧ chp c (List.range l) (List.range r) = out ++ chp c (fromI i l) Rs ∧
    t = fr [(8, .pointer (some ⟨a, 0, none⟩)), (9, v9), (10, v10), (11, .int .i64 left), (14, v14), (49, .int .i64 (l : Nat)), (50, .int .i64 (i : Nat))])
    ⟨_, [(8, .pointer (some ⟨a, 0, none⟩)), (9, .slice (some ⟨la, 0, none⟩) l l), (10, .slice (some ⟨q0, 0, none⟩) r r), (11, .int .i64 best), (14, .slice none 0 0), (49, .int .i64 (l : Nat)), (50, .int .i64 ((0 : Nat) : Int))], (by repeat (first | exact trivial | (refine And.intro rfl ?_))), 0, q0, 0, List.range r, best, [], _, _, _, N1, rfl, Nat.zero_le _, by rw [List.append_nil], by rw [List.append_nil]; exact hla, fun _ => rfl, ⟨by simpa using hs1, by rw [List.append_nil]; exact hs2, fun k hk => ?_⟩, List.nodup_range, fun y hy => List.mem_range.1 hy, ?_, ?_, .inl ⟨rfl, rfl⟩, fun s hs => by (cases hs), rfl, ?_, rfl⟩ ?_
  · rw [List.append_nil]
    have := hs3 k (by simpa using hk)
    rwa [nats_get] at this
  · rw [hb, List.range_eq_range']; rfl
  · rw [hb]; exact left_bd hcs (by simp; omega)
  · rw [List.nil_append, List.range_eq_range']; rfl
  clear hla hs1 hs2 hs3 hb hq0
  rintro rk t M' ⟨i, q, o', Rs, left, out, v9, v10, v14, N, rfl, hi, rfl, hla, h9, ⟨g1, g2, g3⟩, hnd, hRs, hleft, hlb, hsp, hsq, hol, hch, rfl⟩
  have hRl : Rs.length ≤ 32 := by
    have := nodup_le hnd (k := List.range r) fun x hx => List.mem_range.2 (hRs x hx)
    simp at this; omega
  rcases Nat.lt_or_ge i l with hlt | hge
  · obtain ⟨n, hn⟩ : ∃ n, l - i = n + 1 := ⟨l - i - 1, by omega⟩
    have hfrom : fromI i l = i :: fromI (i + 1) l := by
      unfold fromI
      rw [hn, show l - (i + 1) = n by omega]; rfl
    rw [h9 hlt, hn]
    refine AW.rebase ?_
    have hown : OwnAt (M ++ N) la [] := ⟨_, get_old _ hla, rfl⟩
    (repeat (first | (with_reducible refine AWo.cons ?_) | ((with_reducible refine Step.id ?_); first | ((with_reducible apply Step.move); exact rfl; exact rfl) | ((with_reducible apply Step.assign); exact rfl; exact rfl) | ((with_reducible apply Step.tail); exact rfl; exact rfl; (focus (first | assumption | exact OwnAt.new rfl rfl)); exact un27; exact sz3; exact rfl; (focus (first | (simp only [List.nil_append, List.cons_append, List.set_cons_zero, List.set_cons_succ, iv_set, bv_set, iv_rep, bv_rep]; done) | (simp only [List.nil_append, List.cons_append, List.set_cons_zero, List.set_cons_succ, iv_set, bv_set, iv_rep, bv_rep]; rfl) | rfl))) | ((with_reducible apply Step.lss); exact rfl; exact rfl; exact rfl)) | (with_reducible refine AWo.nil ?_) | ((fail_if_success (with_reducible refine AW.atR (id := 12) ?_)); ((with_reducible apply AW.seq))) | ((with_reducible apply Then.n)) | ((with_reducible apply AW.regL)) | ((with_reducible apply AW.block)) | ((with_reducible apply AW.skip)) | ((with_reducible apply AW.condT); exact rfl; (focus ((simp only [decide_eq_true_eq, decide_eq_false_iff_not, Bool.not_eq_true', Bool.not_eq_false', Bool.not_true, Bool.not_false]; first | assumption | omega))))))
    have i9 : Ints (M ++ N) (tailV la i n n) (nats (fromI (i + 1) l)) := by
      have hfl : (fromI (i + 1) l).length = n := by unfold fromI; rw [List.length_range']; omega
      unfold tailV
      by_cases h0 : n = 0
      · subst h0; rw [if_pos rfl]
        exact ⟨la, i, by rw [nats_len, hfl]; exact Sl.mk (Nat.le_refl _), (List.getElem?_eq_some_iff.1 hla).1, fun k hk => by rw [nats_len, hfl] at hk; omega⟩
      · rw [if_neg h0]
        refine ⟨la, i + 1, by rw [nats_len, hfl]; exact Sl.mk (Nat.le_refl _), (List.getElem?_eq_some_iff.1 hla).1, fun k hk => ⟨_, hla, ?_⟩⟩
        rw [nats_len, hfl] at hk
        rw [nats_get]
        have := iv_get (l := nats (List.range l)) (k := i + 1 + k) (by simp; omega)
        rw [this, nats_get]
        simp [fromI, show i + 1 + k < l by omega, show k < l - (i + 1) by omega]
    have hfl : (fromI (i + 1) l).length ≤ 32 := by unfold fromI; rw [List.length_range']; omega
    have hfm : ∀ x ∈ fromI (i + 1) l, x < l := fun x hx => by
      have := List.mem_range'_1.1 hx; omega
    have hfn : (fromI (i + 1) l).Nodup := List.nodup_range'
    obtain ⟨Lr, hLr⟩ : ∃ Lr, fromI (i + 1) l = Lr := ⟨_, rfl⟩
    rw [hLr] at hfrom i9 hfl hfm hfn
    generalize hv9 : tailV la i n n = v9' at *
    have i10 : Ints (M ++ N) v10 (nats Rs) := ⟨q, o', by rw [nats_len]; exact g1, g2, fun k hk => by rw [nats_len] at hk; rw [nats_get]; exact g3 k hk⟩
    obtain ⟨pk, hpk⟩ : ∃ pk, pick c i Lr Rs left Rs = pk := ⟨_, rfl⟩
    refine AW.join (fun t M2 => ∃ N2, M2 = (M ++ N) ++ N2 ∧ All (fun i v => t i = some v) [(8, .pointer (some ⟨a, 0, none⟩)), (9, v9'), (10, v10), (11, .int .i64 left), (14, v14), (15, .int .i64 (i : Nat)), (16, .int .i64 (mI pk)), (49, .int .i64 (l : Nat)), (50, .int .i64 (i : Nat))]) ?_ ?_
    · (repeat (first | (with_reducible refine AWo.cons ?_) | ((with_reducible refine Step.id ?_); first | ((with_reducible apply Step.move); exact rfl; exact rfl) | ((with_reducible apply Step.len); exact rfl; (focus (assumption)); (focus (decide +kernel)); exact rfl)) | (with_reducible refine AWo.nil ?_) | ((with_reducible apply AW.seq)) | ((with_reducible apply Then.n)) | ((with_reducible apply AW.regL)) | ((with_reducible apply AW.block))))
      refine AW.loopW (fun rk t M2 => ∃ (j : Nat) (N2 : AM), rk = Rs.length - j ∧ j ≤ Rs.length ∧ M2 = (M ++ N) ++ N2 ∧ pick c i Lr Rs left (Rs.drop j) = pk ∧
        t = fr [(8, .pointer (some ⟨a, 0, none⟩)), (9, v9'), (10, v10), (11, .int .i64 left), (14, v14), (15, .int .i64 (i : Nat)), (16, .int .i64 (-1)), (49, .int .i64 (l : Nat)), (50, .int .i64 (i : Nat)), (55, v10), (56, .int .i64 (Rs.length : Nat)), (57, .int .i64 (j : Nat))]) ⟨_, _, (by repeat (first | exact trivial | (refine And.intro rfl ?_))), 0, _, rfl, Nat.zero_le _, rfl, by simpa using hpk, rfl⟩ ?_
      rintro rk t M2 ⟨j, N2, rfl, hj, rfl, hp, rfl⟩
      rcases Nat.lt_or_ge j Rs.length with hjl | hjg
      · obtain ⟨y, hy⟩ : ∃ y, y = Rs.getD j 0 := ⟨_, rfl⟩
        have hym : y ∈ Rs := by rw [hy]; exact Hung.getD_mem' hjl
        have hyr := hRs y hym
        have hdrop : Rs.drop j = y :: Rs.drop (j + 1) := by rw [List.drop_eq_getElem_cons hjl, hy]; simp [hjl]
        have gy := g3 j hjl
        rw [← hy] at gy
        rw [hdrop] at hp
        simp only [pick] at hp
        obtain ⟨w, k1, b', o2, k2, k3, k4⟩ := t7 i hlt
        rw [tab_len] at k2 k4
        have k5 := k4 y hyr
        rw [tab_get (c i) hyr] at k5
        have hcb := hcs i y
        by_cases hn : c i y < 0
        · rw [if_pos hn] at hp
          (repeat (first | (with_reducible refine AWo.cons ?_) | ((with_reducible refine Step.id ?_); first | ((with_reducible apply Step.move); exact rfl; exact rfl) | ((with_reducible apply Step.assign); exact rfl; exact rfl) | ((with_reducible apply Step.load); exact rfl; (focus (decide +kernel)); exact rfl; (focus (first | exact gy.old _ | exact (t2.old _).old _ | exact (k1.old _).old _ | exact (k5.old _).old _))) | ((with_reducible apply Step.ix1); exact rfl; (focus (assumption)); exact rfl; (focus (decide +kernel)); exact rfl; (focus (omega))) | ((with_reducible apply Step.field0); exact rfl; (focus (decide +kernel)); exact rfl) | ((with_reducible apply Step.add); exact rfl; exact rfl; (focus (omega)); exact rfl) | ((with_reducible apply Step.lss); exact rfl; exact rfl; exact rfl) | ((with_reducible apply Step.nilp); exact rfl; exact rfl)) | (with_reducible refine AWo.nil ?_) | ((with_reducible apply AW.seq)) | ((with_reducible apply Then.n)) | ((with_reducible apply AW.regL)) | ((with_reducible apply AW.block)) | ((with_reducible apply AW.exit)) | ((with_reducible apply InBlk.hit)) | ((with_reducible apply Then.e)) | ((with_reducible apply AW.skip)) | ((with_reducible apply AW.condT); exact rfl; (focus ((simp only [decide_eq_true_eq, decide_eq_false_iff_not, Bool.not_eq_true', Bool.not_eq_false', Bool.not_true, Bool.not_false]; first | assumption | omega))))))
          exact ⟨_, [(8, .pointer (some ⟨a, 0, none⟩)), (9, v9'), (10, v10), (11, .int .i64 left), (14, v14), (15, .int .i64 (i : Nat)), (16, .int .i64 (-1)), (49, .int .i64 (l : Nat)), (50, .int .i64 (i : Nat)), (55, v10), (56, .int .i64 (Rs.length : Nat)), (57, .int .i64 ((j + 1 : Nat) : Int))], by omega, (by repeat (first | exact trivial | (refine And.intro rfl ?_))), j + 1, N2, rfl, by omega, rfl, hp, rfl⟩
        · rw [if_neg hn] at hp
          have hwo : wv c l r i y = wo c i y := if_pos ⟨hlt, hyr⟩
          have hwb := wo_bd hcs i y
          (repeat (first | (with_reducible refine AWo.cons ?_) | ((with_reducible refine Step.id ?_); first | ((with_reducible apply Step.move); exact rfl; exact rfl) | ((with_reducible apply Step.assign); exact rfl; exact rfl) | ((with_reducible apply Step.load); exact rfl; (focus (decide +kernel)); exact rfl; (focus (first | exact gy.old _ | exact (t2.old _).old _ | exact (k1.old _).old _ | exact (k5.old _).old _))) | ((with_reducible apply Step.ix1); exact rfl; (focus (assumption)); exact rfl; (focus (decide +kernel)); exact rfl; (focus (omega))) | ((with_reducible apply Step.field0); exact rfl; (focus (decide +kernel)); exact rfl) | ((with_reducible apply Step.lss); exact rfl; exact rfl; exact rfl) | ((with_reducible apply Step.nilp); exact rfl; exact rfl)) | (with_reducible refine AWo.nil ?_) | ((with_reducible apply AW.seq)) | ((with_reducible apply Then.n)) | ((with_reducible apply AW.regL)) | ((with_reducible apply AW.block)) | ((with_reducible apply AW.skip)) | ((with_reducible apply AW.condT); exact rfl; (focus ((simp only [decide_eq_true_eq, decide_eq_false_iff_not, Bool.not_eq_true', Bool.not_eq_false', Bool.not_true, Bool.not_false]; first | assumption | omega)))) | ((with_reducible apply AW.condF); exact rfl; (focus ((simp only [decide_eq_true_eq, decide_eq_false_iff_not, Bool.not_eq_true', Bool.not_eq_false', Bool.not_true, Bool.not_false]; first | assumption | omega))))))
          ((with_reducible apply Step.callX fit); exact rfl; exact Try.func57; exact rfl; exact rfl; exact (without_ok (i10.old N2) (by omega) hym hnd))
          rintro w2 M3 ⟨N3, rfl⟩ hF
          have i10' := hF.ints
          clear hF
          (repeat ((with_reducible refine AWo.cons ?_)))
          ((with_reducible apply Step.callX fit); exact rfl; exact Try.func56; exact rfl; exact rfl; exact (assign_ok ((((hT.old N).old N2).old N3).old []) hcs (by omega) (by omega) (((i9.old N2).old N3).old []) (i10'.old []) (by omega) (Nat.le_trans List.length_erase_le hRl) hfm (fun x hx => hRs x (List.mem_of_mem_erase hx))))
          rintro v M4 ⟨N4, rfl⟩ ⟨va, vb, pa, pb, b2, rfl, hb2, _, _⟩
          have hb3 := hb2.mx hfn (hnd.erase y)
          have hb4 := left_bd hcs (L := Lr) (R := Rs.erase y) hfl
          rw [← hb3] at hb4 hp
          clear hb2 hb3
          have hM5 : M ++ N ++ N2 ++ N3 ++ [] ++ N4 ++ [] = (M ++ N) ++ (N2 ++ (N3 ++ N4)) := by simp
          by_cases hd : b2 + wo c i y = left
          · rw [if_pos hd] at hp
            (repeat (first | (with_reducible refine AWo.cons ?_) | ((with_reducible refine Step.id ?_); first | ((with_reducible apply Step.move); exact rfl; exact rfl) | ((with_reducible apply Step.assign); exact rfl; exact rfl) | ((with_reducible apply Step.add); exact rfl; exact rfl; (focus (omega)); exact rfl) | ((with_reducible apply Step.eql); exact rfl; exact rfl; exact rfl) | ((with_reducible apply Step.extract); exact rfl; exact rfl; exact rfl) | ((with_reducible apply Step.callR fit); exact rfl; exact Try.func58; exact rfl; exact rfl; exact (worth_ok ((((((hT.old N).old N2).old N3).old []).old N4).old []) hcs i y hwo))) | (with_reducible refine AWo.nil ?_) | ((with_reducible apply AW.seq)) | ((with_reducible apply Then.n)) | ((with_reducible apply AW.regL)) | ((with_reducible apply AW.exit)) | ((with_reducible apply InBlk.hit)) | ((with_reducible apply InBlk.miss); exact rfl) | ((with_reducible apply Then.e)) | ((with_reducible apply AW.condT); exact rfl; (focus ((simp only [decide_eq_true_eq, decide_eq_false_iff_not, Bool.not_eq_true', Bool.not_eq_false', Bool.not_true, Bool.not_false]; first | assumption | omega))))))
            exact ⟨_, hM5, by rw [← hp]; exact (by repeat (first | exact trivial | (refine And.intro rfl ?_)))⟩
          · rw [if_neg hd] at hp
            (repeat (first | (with_reducible refine AWo.cons ?_) | ((with_reducible refine Step.id ?_); first | ((with_reducible apply Step.move); exact rfl; exact rfl) | ((with_reducible apply Step.assign); exact rfl; exact rfl) | ((with_reducible apply Step.add); exact rfl; exact rfl; (focus (omega)); exact rfl) | ((with_reducible apply Step.eql); exact rfl; exact rfl; exact rfl) | ((with_reducible apply Step.extract); exact rfl; exact rfl; exact rfl) | ((with_reducible apply Step.callR fit); exact rfl; exact Try.func58; exact rfl; exact rfl; exact (worth_ok ((((((hT.old N).old N2).old N3).old []).old N4).old []) hcs i y hwo))) | (with_reducible refine AWo.nil ?_) | ((with_reducible apply AW.seq)) | ((with_reducible apply Then.n)) | ((with_reducible apply AW.regL)) | ((with_reducible apply InBlk.n)) | ((with_reducible apply AW.skip)) | ((with_reducible apply AW.condF); exact rfl; (focus ((simp only [decide_eq_true_eq, decide_eq_false_iff_not, Bool.not_eq_true', Bool.not_eq_false', Bool.not_true, Bool.not_false]; first | assumption | omega))))))
            exact ⟨_, [(8, .pointer (some ⟨a, 0, none⟩)), (9, v9'), (10, v10), (11, .int .i64 left), (14, v14), (15, .int .i64 (i : Nat)), (16, .int .i64 (-1)), (49, .int .i64 (l : Nat)), (50, .int .i64 (i : Nat)), (55, v10), (56, .int .i64 (Rs.length : Nat)), (57, .int .i64 ((j + 1 : Nat) : Int))], by omega, (by repeat (first | exact trivial | (refine And.intro rfl ?_))), j + 1, _, rfl, by omega, hM5, hp, rfl⟩
      · have hp' : pk = none := by rw [← hp, List.drop_eq_nil_of_le hjg]; rfl
        (repeat (first | (with_reducible refine AWo.cons ?_) | ((with_reducible refine Step.id ?_); ((with_reducible apply Step.lss); exact rfl; exact rfl; exact rfl)) | (with_reducible refine AWo.nil ?_) | ((with_reducible apply AW.seq)) | ((with_reducible apply Then.n)) | ((with_reducible apply AW.regL)) | ((with_reducible apply AW.exit)) | ((with_reducible apply InBlk.hit)) | ((with_reducible apply Then.e)) | ((with_reducible apply AW.condF); exact rfl; (focus ((simp only [decide_eq_true_eq, decide_eq_false_iff_not, Bool.not_eq_true', Bool.not_eq_false', Bool.not_true, Bool.not_false]; first | assumption | omega))))))
        exact ⟨N2, rfl, by rw [hp']; exact (by repeat (first | exact trivial | (refine And.intro rfl ?_)))⟩
    · rintro t _ ⟨N2, rfl, hall⟩
      refine AW.weak (fr_all hall) ?_
      clear hall
      rw [hfrom] at hleft hch
      have hcle : ∀ x y, c x y ≤ 1000000000 := fun x y => by have := (hcs x y).2; omega
      refine AW.seq ?_
      refine AW.join (fun t M2 => ∃ (N3 : AM) (v10' : Value) (q' o2 : Nat) (Rs' : List Nat) (left' : Int), M2 = (M ++ N) ++ N3 ∧ (Sl v10' q' o2 Rs'.length ∧ q' < M2.length ∧ ∀ k, k < Rs'.length → Rd M2 q' (o2 + k) (.int .i64 ((Rs'.getD k 0 : Nat) : Int))) ∧ Rs'.Nodup ∧ (∀ y ∈ Rs', y < r) ∧ left' = mx (wo c) Lr Rs' ∧
        (∀ s, v14 = .slice (some ⟨s, 0, none⟩) (iv out).length (iv out).length → s < (M ++ N).length → s ≠ q') ∧ chp c (i :: Lr) Rs = mI pk :: chp c Lr Rs' ∧
        All (fun i v => t i = some v) [(8, .pointer (some ⟨a, 0, none⟩)), (9, v9'), (10, v10'), (11, .int .i64 left'), (14, v14), (16, .int .i64 (mI pk)), (49, .int .i64 (l : Nat)), (50, .int .i64 (i : Nat))]) ?_ ?_
      · cases pk with
        | none =>
          have hsk := chp_skip hcle (x := i) (L := Lr) (R := Rs) (by rw [← hleft]; exact hpk)
          simp only [mI]
          (repeat (first | (with_reducible refine AWo.cons ?_) | ((with_reducible refine Step.id ?_); first | ((with_reducible apply Step.move); exact rfl; exact rfl) | ((with_reducible apply Step.geq); exact rfl; exact rfl; exact rfl)) | (with_reducible refine AWo.nil ?_) | ((with_reducible apply AW.seq)) | ((with_reducible apply Then.n)) | ((with_reducible apply AW.regL)) | ((with_reducible apply AW.skip)) | ((with_reducible apply AW.condF); exact rfl; (focus (rfl)))))
          refine ⟨N2, v10, q, o', Rs, left, rfl, ⟨g1, by have := g2; simp only [List.length_append] at this ⊢; omega, fun k hk => (g3 k hk).old N2⟩, hnd, hRs, by rw [hleft, hsk], fun s hs _ => hsq s hs, ?_, (by repeat (first | exact trivial | (refine And.intro rfl ?_)))⟩
          show (match pick c i Lr Rs (mx (wo c) (i :: Lr) Rs) Rs with | some y => ((y : Nat) : Int) :: chp c Lr (Rs.erase y) | none => -1 :: chp c Lr Rs) = _
          rw [← hleft, hpk]
        | some y =>
          obtain ⟨hym, hcy, hyl⟩ := pick_some hpk
          have hyr := hRs y hym
          have hwo : wv c l r i y = wo c i y := if_pos ⟨hlt, hyr⟩
          have hwb := wo_bd hcs i y
          simp only [mI]
          (repeat (first | (with_reducible refine AWo.cons ?_) | ((with_reducible refine Step.id ?_); first | ((with_reducible apply Step.move); exact rfl; exact rfl) | ((with_reducible apply Step.assign); exact rfl; exact rfl) | ((with_reducible apply Step.sub); exact rfl; exact rfl; (focus (omega)); exact rfl) | ((with_reducible apply Step.geq); exact rfl; exact rfl; exact rfl) | ((with_reducible apply Step.callR fit); exact rfl; exact Try.func58; exact rfl; exact rfl; exact (worth_ok ((hT.old N).old N2) hcs i y hwo))) | (with_reducible refine AWo.nil ?_) | ((with_reducible apply AW.seq)) | ((with_reducible apply Then.n)) | ((with_reducible apply AW.regL)) | ((with_reducible apply AW.condT); exact rfl; (focus (rfl)))))
          ((with_reducible apply Step.callX fit); exact rfl; exact Try.func57; exact rfl; exact rfl; exact (without_ok (i10.old N2) (by omega) hym hnd))
          rintro w2 M3 ⟨N3, rfl⟩ ⟨q', o2, f0, f1, f2, f3⟩
          rw [nats_len] at f1 f3
          (repeat (first | (with_reducible refine AWo.cons ?_) | ((with_reducible refine Step.id ?_); ((with_reducible apply Step.assign); exact rfl; exact rfl)) | (with_reducible refine AWo.nil ?_) | ((with_reducible apply Then.n))))
          refine ⟨N2 ++ N3, w2, q', o2, Rs.erase y, left - wo c i y, by simp, ⟨f1, by simpa using f2, fun k hk => ?_⟩, hnd.erase y, fun x hx => hRs x (List.mem_of_mem_erase hx), by omega, fun s hs hlt' => ?_, ?_, (by repeat (first | exact trivial | (refine And.intro rfl ?_)))⟩
          · have := f3 k hk
            rw [nats_get] at this
            exact this.old _
          · simp only [List.length_append] at f0 hlt'; omega
          · show (match pick c i Lr Rs (mx (wo c) (i :: Lr) Rs) Rs with | some y => ((y : Nat) : Int) :: chp c Lr (Rs.erase y) | none => -1 :: chp c Lr Rs) = _
            rw [← hleft, hpk]
      · rintro t M2 ⟨N3, v10', q', o2, Rs', left', rfl, ⟨x1, x2, x3⟩, hnd', hRs', hleft', hsq', hch', hall⟩
        refine AW.weak (fr_all hall) ?_
        clear hall
        obtain ⟨MM, hMM⟩ : ∃ MM, M ++ N ++ N3 = MM := ⟨_, rfl⟩
        have hlaM : MM[la]? = some (some { cells := iv (nats (List.range l)) }) := by rw [← hMM]; exact get_old _ hla
        have hspM : Spn (MM ++ [some { cells := [.int .i64 (mI pk)] }]) M.length v14 (iv out) := by rw [← hMM]; exact (hsp.old _).old _
        have hMlen : M.length ≤ MM.length := by rw [← hMM]; simp only [List.length_append]; omega
        have hap := hspM.app (by simp only [List.length_append]; omega) (.int .i64 (mI pk))
        rw [hMM] at x2 x3 ⊢
        refine AW.rebase ?_
        (repeat (first | (with_reducible refine AWo.cons ?_) | ((with_reducible refine Step.id ?_); first | ((with_reducible apply Step.move); exact rfl; exact rfl) | ((with_reducible apply Step.buildS 0); exact rfl; exact rfl; exact (fun _ _ => bs27x); exact rfl; (focus (first | (simp only [List.nil_append, List.cons_append, List.set_cons_zero, List.set_cons_succ, iv_set, bv_set, iv_rep, bv_rep]; done) | (simp only [List.nil_append, List.cons_append, List.set_cons_zero, List.set_cons_succ, iv_set, bv_set, iv_rep, bv_rep]; rfl) | rfl)))) | ((with_reducible apply AW.regL))))
        rcases hsp with ⟨hz1, hz2⟩ | ⟨hz1, sp, hz2, hz3, hz4⟩
        · have ho : iv (out ++ [mI pk]) = [.int .i64 (mI pk)] := by
            have : out = [] := by cases out with | nil => rfl | cons x t => simp [iv] at hz1
            rw [this]; rfl
          subst hz2
          ((with_reducible apply Step.appN); exact rfl; exact rfl; exact el27; exact un27; (focus (rw [get_app' (k := 0)]; rfl)); exact rfl; (focus (decide +kernel)); exact rfl)
          (repeat (first | (with_reducible refine AWo.cons ?_) | ((with_reducible refine Step.id ?_); first | ((with_reducible apply Step.move); exact rfl; exact rfl) | ((with_reducible apply Step.assign); exact rfl; exact rfl) | ((with_reducible apply Step.add); exact rfl; exact rfl; (focus (omega)); exact rfl)) | (with_reducible refine AWo.nil ?_) | ((with_reducible apply Then.n)) | ((with_reducible apply AW.regL)) | ((with_reducible apply InBlk.n))))
          refine ⟨_, [(8, .pointer (some ⟨a, 0, none⟩)), (9, v9'), (10, v10'), (11, .int .i64 left'), (14, .slice (some ⟨(MM ++ [some ({ cells := [.int .i64 (mI pk)] } : Blk)]).length, 0, none⟩) 1 1), (49, .int .i64 (l : Nat)), (50, .int .i64 ((i + 1 : Nat) : Int))], ?_, (by repeat (first | exact trivial | (refine And.intro rfl ?_))), i + 1, q', o2, Rs', left', out ++ [mI pk], v9', v10', _, (N ++ N3 ++ [some { cells := [.int .i64 (mI pk)] }] ++ [some { cells := [.int .i64 (mI pk)], kind := .grow, size := 1 }]), rfl, by omega, by rw [← hMM]; simp only [List.append_assoc], ?_, fun hil => ?_, ⟨x1, ?_, fun k hk => ?_⟩, hnd', hRs', by rw [hLr]; exact hleft', by rw [hleft']; exact left_bd hcs hfl, by rw [ho]; exact (hap.1 hz1), fun s' hs' => ?_, by simp; omega, ?_, rfl⟩
          · omega
          · exact get_old _ (get_old _ hlaM)
          · rw [← hv9, tailV, if_neg (by omega), show l - (i + 1) = n by omega]
          · simp only [List.length_append, List.length_set] at x2 ⊢; omega
          · exact ((x3 k hk).old _).old _
          · injection hs' with hs'
            injection hs' with hs'
            injection hs' with hs'
            simp only [List.length_append] at x2 hs'
            omega
          · rw [hch, hch', List.append_assoc]; rw [hLr]; rfl
        · subst hz3
          have hspl : sp < (M ++ N).length := (List.getElem?_eq_some_iff.1 hz4).1
          have hspq := hsq' sp rfl hspl
          have hspg : (MM ++ [some { cells := [.int .i64 (mI pk)] }])[sp]? = some (some { cells := iv out, kind := .grow, size := 1 }) := by rw [← hMM]; exact get_old _ (get_old _ hz4)
          have hspla : sp ≠ la := fun e => by
            rw [e] at hz4
            rw [hla] at hz4
            injection hz4 with h; injection h with h; injection h with _ h; cases h
          obtain ⟨N5, hN5⟩ := pre_set (m := M) (N := N ++ N3 ++ [some { cells := [.int .i64 (mI pk)] }]) (p := sp) (x := none) hz2
          ((with_reducible apply Step.appB); exact rfl; exact rfl; exact el27; exact un27; exact hspg; exact rfl; (focus (rw [get_app' (k := 0)]; rfl)); exact rfl; (focus (simp [iv]; omega)); exact rfl)
          (repeat (first | (with_reducible refine AWo.cons ?_) | ((with_reducible refine Step.id ?_); first | ((with_reducible apply Step.move); exact rfl; exact rfl) | ((with_reducible apply Step.assign); exact rfl; exact rfl) | ((with_reducible apply Step.add); exact rfl; exact rfl; (focus (omega)); exact rfl)) | (with_reducible refine AWo.nil ?_) | ((with_reducible apply Then.n)) | ((with_reducible apply AW.regL)) | ((with_reducible apply InBlk.n))))
          refine ⟨_, [(8, .pointer (some ⟨a, 0, none⟩)), (9, v9'), (10, v10'), (11, .int .i64 left'), (14, .slice (some ⟨(MM ++ [some ({ cells := [.int .i64 (mI pk)] } : Blk)]).length, 0, none⟩) ((iv out).length + 1) ((iv out).length + 1)), (49, .int .i64 (l : Nat)), (50, .int .i64 ((i + 1 : Nat) : Int))], ?_, (by repeat (first | exact trivial | (refine And.intro rfl ?_))), i + 1, q', o2, Rs', left', out ++ [mI pk], v9', v10', _, (N5 ++ [some { cells := iv out ++ [.int .i64 (mI pk)], kind := .grow, size := 1 }]), rfl, by omega, by rw [← List.append_assoc, ← hN5, ← hMM]; simp only [List.append_assoc], ?_, fun hil => ?_, ⟨x1, ?_, fun k hk => ?_⟩, hnd', hRs', by rw [hLr]; exact hleft', by rw [hleft']; exact left_bd hcs hfl, by rw [show iv (out ++ [mI pk]) = iv out ++ [.int .i64 (mI pk)] by simp [iv]]; exact hap.2 sp rfl, fun s' hs' => ?_, by simp; omega, ?_, rfl⟩
          · omega
          · exact get_old _ (by rw [List.getElem?_set_ne hspla]; exact get_old _ hlaM)
          · rw [← hv9, tailV, if_neg (by omega), show l - (i + 1) = n by omega]
          · simp only [List.length_append, List.length_set] at x2 ⊢; omega
          · exact Rd.old _ (Rd.set_ne ((x3 k hk).old _) (Ne.symm hspq))
          · injection hs' with hs'
            injection hs' with hs'
            injection hs' with hs'
            simp only [List.length_append] at x2 hs'
            omega
          · rw [hch, hch', List.append_assoc]; rw [hLr]; rfl
  · have hil : i = l := by omega
    subst hil
    (repeat (first | (with_reducible refine AWo.cons ?_) | ((with_reducible refine Step.id ?_); first | ((with_reducible apply Step.move); exact rfl; exact rfl) | ((with_reducible apply Step.assign); exact rfl; exact rfl) | ((with_reducible apply Step.lss); exact rfl; exact rfl; exact rfl)) | (with_reducible refine AWo.nil ?_) | ((with_reducible apply AW.seq)) | ((with_reducible apply Then.n)) | ((with_reducible apply AW.regL)) | ((with_reducible apply AW.exit)) | ((with_reducible apply InBlk.hit)) | ((with_reducible apply Then.e)) | ((with_reducible apply AW.condF); exact rfl; (focus ((simp only [decide_eq_true_eq, decide_eq_false_iff_not, Bool.not_eq_true', Bool.not_eq_false', Bool.not_true, Bool.not_false]; first | assumption | omega))))))
    (refine AW.ret ?_; (repeat (first | refine Then.r ?_ | refine InBlk.r ?_)))
    obtain ⟨N0, hN0⟩ := hMN
    have hfe : fromI i i = [] := by unfold fromI; rw [Nat.sub_self]; rfl
    rw [hfe] at hch
    simp only [chp, List.append_nil] at hch
    refine ⟨_, rfl, N0 ++ N, by rw [hN0, List.append_assoc], _, rfl, ?_⟩
    rw [hch]
    rcases hsp with ⟨hz1, hz2⟩ | ⟨hz1, sp, hz2, hz3, hz4⟩
    · have ho : out = [] := by cases out with | nil => rfl | cons x t => simp [iv] at hz1
      rw [hz2, ho]
      exact ints_nil (by simp only [List.length_append]; omega)
    · rw [hz3]
      exact ints_at hz4 rfl _ (by simp [iv])
end Go.Proofs.Ytajpngnphbdnnaa.Abs
namespace Go.Proofs.Ytajpngnphbdnnaa.Abs
set_option linter.unusedSimpArgs false
set_option linter.unusedVariables false
open Go.RowKit
open Go.Proofs.Ytajpngnphbdnnaa.Sim
open Go.Proofs
open Hung
theorem bl33a {a : Int} : abuild Try.prog 33 [(0, .int .i64 a)] = some (.agg #[.int .i64 a, .int .i64 0, .int .i64 0, .int .i64 0]) := by kernel_rfl
theorem bl33n : abuild Try.prog 33 [] = some (.agg #[.int .i64 0, .int .i64 0, .int .i64 0, .int .i64 0]) := by kernel_rfl
theorem bl35 {a b c d e f g h : Int} : abuild Try.prog 35 [(0, .agg #[.int .i64 a, .int .i64 b, .int .i64 c, .int .i64 d]), (1, .agg #[.int .i64 e, .int .i64 f, .int .i64 g, .int .i64 h])] = some (.agg #[.int .i64 a, .int .i64 b, .int .i64 c, .int .i64 d, .int .i64 e, .int .i64 f, .int .i64 g, .int .i64 h]) := by kernel_rfl
theorem bs31b {m : AM} {k : Nat} {a b c d e f g h : Int} : abuildSlice Try.prog m k 31 2 [(0, .agg #[.int .i64 a, .int .i64 b, .int .i64 c, .int .i64 d]), (1, .agg #[.int .i64 e, .int .i64 f, .int .i64 g, .int .i64 h])] = some (.slice (some ⟨k, 0, none⟩) 2 2, m.set k (some { cells := [.int .i64 a, .int .i64 b, .int .i64 c, .int .i64 d, .int .i64 e, .int .i64 f, .int .i64 g, .int .i64 h] })) := by kernel_rfl
theorem bs27y {m : AM} {k : Nat} {x y : Int} : abuildSlice Try.prog m k 27 2 [(0, .int .i64 x), (1, .int .i64 y)] = some (.slice (some ⟨k, 0, none⟩) 2 2, m.set k (some { cells := [.int .i64 x, .int .i64 y] })) := by kernel_rfl
theorem ze35 : zeroB Try.prog 35 = some #[.int .i64 0, .int .i64 0, .int .i64 0, .int .i64 0, .int .i64 0, .int .i64 0, .int .i64 0, .int .i64 0] := by kernel_rfl
def uA : Ru := ⟨⟨1, 0, 0, 0⟩, ⟨10, 0, 0, 0⟩⟩
def lA : List Gl := [⟨0, 0, 0, 0⟩, ⟨10, 0, 0, 0⟩]
def rA : List Gl := [⟨10, 0, 0, 0⟩, ⟨0, 0, 0, 0⟩]
theorem chpA : chp (cT uA lA rA) (List.range 2) (List.range 2) = [1, 0] := by decide +kernel
set_option maxHeartbeats 1000000 in
set_option maxRecDepth 100000 in
theorem awake_ok {m : AM} : ACall Try.prog 25 #[] m (Ret (.bool true) m) := by
  have g1 : ∀ (b0 : Option Blk) (T : AM), Gls (m ++ (b0 :: some { cells := [.int .i64 0, .int .i64 0, .int .i64 0, .int .i64 0, .int .i64 10, .int .i64 0, .int .i64 0, .int .i64 0] } :: T)) (.slice (some ⟨m.length + 1, 0, none⟩) 2 2) lA := fun b0 T => ⟨m.length + 1, 0, Sl.mk (Nat.le_refl _), by simp, fun k hk => by
    have hk : k < 2 := hk
    rcases k with _ | _ | k
    · exact ⟨_, by rw [get_app]; rfl, fun j v hj => by rcases j with _ | _ | _ | _ | j <;> first | exact hj | (simp [Gl.cells, lA] at hj)⟩
    · exact ⟨_, by rw [get_app]; rfl, fun j v hj => by rcases j with _ | _ | _ | _ | j <;> first | exact hj | (simp [Gl.cells, lA] at hj)⟩
    · omega⟩
  have g2 : ∀ (b0 b1 : Option Blk) (T : AM), Gls (m ++ (b0 :: b1 :: some { cells := [.int .i64 10, .int .i64 0, .int .i64 0, .int .i64 0, .int .i64 0, .int .i64 0, .int .i64 0, .int .i64 0] } :: T)) (.slice (some ⟨m.length + 2, 0, none⟩) 2 2) rA := fun b0 b1 T => ⟨m.length + 2, 0, Sl.mk (Nat.le_refl _), by simp, fun k hk => by
    have hk : k < 2 := hk
    rcases k with _ | _ | k
    · exact ⟨_, by rw [get_app]; rfl, fun j v hj => by rcases j with _ | _ | _ | _ | j <;> first | exact hj | (simp [Gl.cells, rA] at hj)⟩
    · exact ⟨_, by rw [get_app]; rfl, fun j v hj => by rcases j with _ | _ | _ | _ | j <;> first | exact hj | (simp [Gl.cells, rA] at hj)⟩
    · omega⟩
  refine ACall.drop (Ren.of_g0 rfl) ?_
  refine ACall.start Try.func25 rfl rfl ?_
  (repeat (first | (with_reducible refine AWo.cons ?_) | ((with_reducible refine Step.id ?_); first | ((with_reducible apply Step.assign); exact rfl; exact rfl) | ((with_reducible apply Step.loadL (n := 8)); exact rfl; (focus (decide +kernel)); (focus (decide +kernel)); exact rfl; (focus (exact RdL.new rfl rfl)); exact rfl; exact rfl) | ((with_reducible apply Step.alloc 0); exact rfl; exact ze35; exact rfl; (focus (first | (simp only [List.nil_append, List.cons_append, List.set_cons_zero, List.set_cons_succ, iv_set, bv_set, iv_rep, bv_rep]; done) | (simp only [List.nil_append, List.cons_append, List.set_cons_zero, List.set_cons_succ, iv_set, bv_set, iv_rep, bv_rep]; rfl) | rfl))) | ((with_reducible apply Step.storeA (k := 0) (n := 8)); exact rfl; exact rfl; exact rfl; exact rfl; (focus (decide +kernel)); exact rfl; (focus (kernel_rfl)); exact rfl; (focus (first | (simp only [List.nil_append, List.cons_append, List.set_cons_zero, List.set_cons_succ, iv_set, bv_set, iv_rep, bv_rep]; done) | (simp only [List.nil_append, List.cons_append, List.set_cons_zero, List.set_cons_succ, iv_set, bv_set, iv_rep, bv_rep]; rfl) | rfl))) | ((with_reducible apply Step.buildS 1); exact rfl; exact rfl; exact (fun _ _ => bs31b); exact rfl; (focus (first | (simp only [List.nil_append, List.cons_append, List.set_cons_zero, List.set_cons_succ, iv_set, bv_set, iv_rep, bv_rep]; done) | (simp only [List.nil_append, List.cons_append, List.set_cons_zero, List.set_cons_succ, iv_set, bv_set, iv_rep, bv_rep]; rfl) | rfl))) | ((with_reducible apply Step.buildS 2); exact rfl; exact rfl; exact (fun _ _ => bs31b); exact rfl; (focus (first | (simp only [List.nil_append, List.cons_append, List.set_cons_zero, List.set_cons_succ, iv_set, bv_set, iv_rep, bv_rep]; done) | (simp only [List.nil_append, List.cons_append, List.set_cons_zero, List.set_cons_succ, iv_set, bv_set, iv_rep, bv_rep]; rfl) | rfl))) | ((with_reducible apply Step.build); exact rfl; exact bl33n; exact rfl) | ((with_reducible apply Step.build); exact rfl; exact bl33a; exact rfl) | ((with_reducible apply Step.build); exact rfl; exact bl35; exact rfl)) | (with_reducible refine AWo.nil ?_) | ((with_reducible apply AW.seq)) | ((with_reducible apply Then.n)) | ((with_reducible apply AW.regL))))
  ((with_reducible apply Step.callX fit); exact rfl; exact Try.func20; exact rfl; exact rfl; exact (Cheapest_ok (u := uA) (g1 _ _) (g2 _ _ _) rfl rfl rfl))
  rintro v MM ⟨N, hN⟩ ⟨w, rfl, hw⟩
  rw [show chp (cT uA lA rA) (List.range lA.length) (List.range rA.length) = [1, 0] from chpA] at hw
  have hpre : ∃ N', MM = m ++ N' := ⟨_, by rw [hN, List.append_assoc]⟩
  clear hN g1 g2
  have he : ACall Try.prog 24 #[w, .slice (some ⟨MM.length + 0, 0, none⟩) 2 2] (MM ++ [some { cells := [.int .i64 1, .int .i64 0] }]) (Ret (.bool true) (MM ++ [some { cells := [.int .i64 1, .int .i64 0] }])) := equal_ok (hw.old _) (ints_new (l := [1, 0]) rfl rfl _ rfl) (by decide) rfl
  (repeat (first | (with_reducible refine AWo.cons ?_) | ((with_reducible refine Step.id ?_); first | ((with_reducible apply Step.gdT); exact rfl; exact rfl; (focus (rfl))) | ((with_reducible apply Step.move); exact rfl; exact rfl) | ((with_reducible apply Step.assign); exact rfl; exact rfl) | ((with_reducible apply Step.eql); exact rfl; exact rfl; exact rfl) | ((with_reducible apply Step.extract); exact rfl; exact rfl; exact rfl) | ((with_reducible apply Step.pickT); exact rfl; exact rfl; exact rfl; exact rfl; (focus (rfl))) | ((with_reducible apply Step.callR fit); exact rfl; exact Try.func24; exact rfl; exact rfl; exact (he)) | ((with_reducible apply Step.buildS 0); exact rfl; exact rfl; exact (fun _ _ => bs27y); exact rfl; (focus (first | (simp only [List.nil_append, List.cons_append, List.set_cons_zero, List.set_cons_succ, iv_set, bv_set, iv_rep, bv_rep]; done) | (simp only [List.nil_append, List.cons_append, List.set_cons_zero, List.set_cons_succ, iv_set, bv_set, iv_rep, bv_rep]; rfl) | rfl)))) | (with_reducible refine AWo.nil ?_) | ((with_reducible apply AW.seq)) | ((with_reducible apply Then.n)) | ((with_reducible apply AW.regL))))
  (refine AW.ret ?_; (repeat (first | refine Then.r ?_ | refine InBlk.r ?_)))
  obtain ⟨N', rfl⟩ := hpre
  exact ⟨_, rfl, rfl, _, by rw [List.append_assoc]⟩
end Go.Proofs.Ytajpngnphbdnnaa.Abs
namespace Go.Proofs.Ytajpngnphbdnnaa.Abs
set_option linter.unusedSimpArgs false
set_option linter.unusedVariables false
open Go.RowKit
open Go.Proofs.Ytajpngnphbdnnaa.Sim
open Go.Proofs
def c4 (x y : Gl) (u : Ru) : Nat → List Value
  | 0 => x.cells
  | 1 => y.cells
  | 2 => u.w.cells
  | _ => u.l.cells
end Go.Proofs.Ytajpngnphbdnnaa.Abs
namespace Go.Proofs.Ytajpngnphbdnnaa.Abs
set_option linter.unusedSimpArgs false
set_option linter.unusedVariables false
open Go.RowKit
open Go.Proofs.Ytajpngnphbdnnaa.Sim
open Go.Proofs
set_option maxRecDepth 100000 in
theorem glove_ok {m : AM} (x : Gl) : ACall Try.prog 29 #[x.v] m (Ret x.v m) := by
  refine ACall.drop (Ren.aggI [x.a, x.b, x.c, x.d]) ?_
  unfold Gl.v
  refine ACall.start Try.func29 rfl rfl ?_
  (repeat (first | (with_reducible refine AWo.cons ?_) | ((with_reducible refine Step.id ?_); first | ((with_reducible apply Step.load); exact rfl; (focus (decide +kernel)); exact rfl; (focus (exact Rd.new rfl rfl))) | ((with_reducible apply Step.field0); exact rfl; (focus (decide +kernel)); exact rfl) | ((with_reducible apply Step.field (k := 1)); exact rfl; (focus (decide +kernel)); exact rfl) | ((with_reducible apply Step.field (k := 2)); exact rfl; (focus (decide +kernel)); exact rfl) | ((with_reducible apply Step.field (k := 3)); exact rfl; (focus (decide +kernel)); exact rfl) | ((with_reducible apply Step.box 0); exact rfl; exact rfl; (focus (kernel_rfl)); exact rfl; (focus (first | (simp only [List.nil_append, List.cons_append, List.set_cons_zero, List.set_cons_succ, iv_set, bv_set, iv_rep, bv_rep]; done) | (simp only [List.nil_append, List.cons_append, List.set_cons_zero, List.set_cons_succ, iv_set, bv_set, iv_rep, bv_rep]; rfl) | rfl))) | ((with_reducible apply Step.alloc 1); exact rfl; exact ze33; exact rfl; (focus (first | (simp only [List.nil_append, List.cons_append, List.set_cons_zero, List.set_cons_succ, iv_set, bv_set, iv_rep, bv_rep]; done) | (simp only [List.nil_append, List.cons_append, List.set_cons_zero, List.set_cons_succ, iv_set, bv_set, iv_rep, bv_rep]; rfl) | rfl))) | ((with_reducible apply Step.storeA (k := 1) (n := 4)); exact rfl; exact rfl; exact rfl; exact rfl; (focus (decide +kernel)); exact rfl; (focus (kernel_rfl)); exact rfl; (focus (first | (simp only [List.nil_append, List.cons_append, List.set_cons_zero, List.set_cons_succ, iv_set, bv_set, iv_rep, bv_rep]; done) | (simp only [List.nil_append, List.cons_append, List.set_cons_zero, List.set_cons_succ, iv_set, bv_set, iv_rep, bv_rep]; rfl) | rfl))) | ((with_reducible apply Step.build); exact rfl; exact bl33; exact rfl)) | (with_reducible refine AWo.nil ?_) | ((with_reducible apply AW.seq)) | ((with_reducible apply Then.n)) | ((with_reducible apply AW.regL))))
  (refine AW.ret ?_; (repeat (first | refine Then.r ?_ | refine InBlk.r ?_)))
  exact ⟨_, ares_cell rfl rfl (by decide +kernel) (n := 4) (by decide +kernel) (RdL.new rfl rfl) rfl rfl, rfl, _, rfl⟩
set_option maxRecDepth 100000 in
theorem rule_ok {m : AM} (u : Ru) : ACall Try.prog 22 #[u.v] m (Ret u.v m) := by
  have hw := fun L => glove_ok (m := m ++ L) u.w
  have hl := fun L => glove_ok (m := m ++ L) u.l
  have r0 : ∀ T : AM, RdL (m ++ (some { cells := u.cells } :: T)) (m.length + 0) 0 u.w.cells := fun T => ⟨_, by rw [get_app]; rfl, fun j v hj => by
    rcases j with _ | _ | _ | _ | j <;> first | exact hj | (simp [Gl.cells] at hj)⟩
  have r4 : ∀ T : AM, RdL (m ++ (some { cells := u.cells } :: T)) (m.length + 0) (0 + 4) u.l.cells := fun T => ⟨_, by rw [get_app]; rfl, fun j v hj => by
    rcases j with _ | _ | _ | _ | j <;> first | exact hj | (simp [Gl.cells] at hj)⟩
  refine ACall.drop (Ren.aggI [u.w.a, u.w.b, u.w.c, u.w.d, u.l.a, u.l.b, u.l.c, u.l.d]) ?_
  refine ACall.start Try.func22 rfl rfl ?_
  (repeat' (first | (with_reducible refine AWo.cons ?_) | ((with_reducible refine Step.id ?_); first | ((with_reducible apply Step.field0); exact rfl; (focus (decide +kernel)); exact rfl) | ((with_reducible apply Step.box 0); exact rfl; exact rfl; (focus (kernel_rfl)); exact rfl; (focus (first | (simp only [List.nil_append, List.cons_append, List.set_cons_zero, List.set_cons_succ, iv_set, bv_set, iv_rep, bv_rep]; done) | (simp only [List.nil_append, List.cons_append, List.set_cons_zero, List.set_cons_succ, iv_set, bv_set, iv_rep, bv_rep]; rfl) | rfl))) | ((with_reducible apply Step.alloc 1); exact rfl; exact ze35; exact rfl; (focus (first | (simp only [List.nil_append, List.cons_append, List.set_cons_zero, List.set_cons_succ, iv_set, bv_set, iv_rep, bv_rep]; done) | (simp only [List.nil_append, List.cons_append, List.set_cons_zero, List.set_cons_succ, iv_set, bv_set, iv_rep, bv_rep]; rfl) | rfl)))) | (with_reducible refine AWo.nil ?_) | ((with_reducible apply AW.seq)) | ((with_reducible apply Then.n)) | ((with_reducible apply AW.regL)) | ((with_reducible apply AW.drawT fit (T := (.step 0 (.step 1 (.step 3 (.both (.step 2 (.step 4 (.step 5 (.step 6 (.step 7 .done))))) (.step 4 (.step 2 (.step 5 (.step 6 (.step 7 .done))))))))))); (focus (decide +kernel))) | ((with_reducible apply AWt.step); exact rfl)))
  ((with_reducible apply Step.loadL (n := 4)); exact rfl; (focus (decide +kernel)); (focus (decide +kernel)); exact rfl; exact (r0 _); exact rfl; exact rfl)
  (repeat' (first | ((with_reducible refine Step.id ?_); first | ((with_reducible apply Step.loadL (n := 4)); exact rfl; (focus (decide +kernel)); (focus (decide +kernel)); exact rfl; (focus (exact r4 _)); exact rfl; exact rfl) | ((with_reducible apply Step.field (k := 4)); exact rfl; (focus (decide +kernel)); exact rfl) | ((with_reducible apply Step.callR fit); exact rfl; exact Try.func29; exact rfl; exact rfl; exact (hw _)) | ((with_reducible apply Step.callR fit); exact rfl; exact Try.func29; exact rfl; exact rfl; exact (hl _)) | ((with_reducible apply Step.storeA (k := 1) (n := 8)); exact rfl; exact rfl; exact rfl; exact rfl; (focus (decide +kernel)); exact rfl; (focus (kernel_rfl)); exact rfl; (focus (first | (simp only [List.nil_append, List.cons_append, List.set_cons_zero, List.set_cons_succ, iv_set, bv_set, iv_rep, bv_rep]; done) | (simp only [List.nil_append, List.cons_append, List.set_cons_zero, List.set_cons_succ, iv_set, bv_set, iv_rep, bv_rep]; rfl) | rfl))) | ((with_reducible apply Step.build); exact rfl; exact bl35; exact rfl)) | ((with_reducible apply Then.n)) | ((with_reducible apply AWt.step); exact rfl) | ((with_reducible apply AWt.done)) | refine AWt.both ?_ ?_))
  all_goals (refine AW.ret ?_; (repeat (first | refine Then.r ?_ | refine InBlk.r ?_)))
  all_goals exact ⟨_, ares_cell rfl rfl (by decide +kernel) (n := 8) (by decide +kernel) (RdL.new rfl rfl) rfl rfl, rfl, _, rfl⟩
end Go.Proofs.Ytajpngnphbdnnaa.Abs
namespace Go.Proofs.Ytajpngnphbdnnaa.Abs
set_option linter.unusedSimpArgs false
set_option linter.unusedVariables false
open Go.RowKit
open Go.Proofs.Ytajpngnphbdnnaa.Sim
open Go.ChangeShapes Go.WideShapes Go.Deep
def Okarg2 (W : World) (a : AR) : Prop := Okarg W a ∨ ∃ l : List Int, a.1 = .agg (iv l).toArray
theorem rel_aggI (R : Pl) (l : List Int) : Rel R (.agg (iv l).toArray) (.agg (iv l).toArray) := .agg _ _ rfl fun i hi => by
  have hi' : i < l.length := by simpa [iv] using hi
  have : (iv l).toArray.getD i undef = .int .i64 l[i] := by simp [iv, hi']
  rw [this]; exact .int _ _
theorem top_call2 {P : Program} {f : FuncId} {W : World} (ars : List AR) (h : ∀ a ∈ ars, Okarg2 W a) (hc : ACall P f (mkVs 0 ars).toArray (ars.map mkB) (Ret (.bool true) (ars.map mkB))) :
    Calls P f (ars.map (·.1)).toArray W fun e w' => e = .returned (.bool true) ∧ Below W.heap.size W w' := by
  let R : Pl := fun i => (ars[i]?).bind mkP
  have hm : MRep W.heap.size R (ars.map mkB) W := by
    refine ⟨fun i hi => ?_, fun i b hi => ?_, fun i j b c p q hi hj hb _ _ _ _ => ?_⟩
    · simp only [List.length_map] at hi
      simp [R, List.getElem?_eq_none hi]
    · rw [List.getElem?_map] at hi
      cases ha : ars[i]? with
      | none => rw [ha] at hi; cases hi
      | some a =>
        rw [ha] at hi
        simp only [Option.map_some, Option.some.injEq] at hi
        obtain ⟨v, c⟩ := a
        rcases h _ (List.mem_of_getElem? ha) with (h1 | ⟨bb, o, n, cap, h1, h2, h3, h4, h5⟩) | ⟨l, h1⟩
        · simp only at h1
          cases v with
          | slice x n cap => cases x with
            | none => simp [mkB] at hi
            | some x => simp [g0] at h1
          | _ => simp [mkB] at hi
        · simp only at h1
          subst h1
          simp only [mkB, Option.some.injEq] at hi
          subst hi
          refine ⟨⟨bb, o, cap - n⟩, by simp [R, ha, mkP], h3, ?_⟩
          refine ⟨fun e => by simp at e, fun j x hj => ⟨x, h4 j x hj, g0_rel (h5 x (List.mem_of_getElem? hj))⟩⟩
        · simp only at h1
          subst h1
          simp [mkB] at hi
    · rw [List.getElem?_map] at hi
      cases ha : ars[i]? with
      | none => rw [ha] at hi; cases hi
      | some a =>
        rw [ha] at hi
        simp only [Option.map_some, Option.some.injEq] at hi
        obtain ⟨v, c'⟩ := a
        cases v with
        | slice x n cap => cases x with
          | none => simp [mkB] at hi
          | some x => simp only [mkB, Option.some.injEq] at hi; subst hi; cases hb
        | _ => simp [mkB] at hi
  have hargs : Rels R (mkVs 0 ars).toArray (ars.map (·.1)).toArray := by
    refine ⟨by simp [mkVs_len], fun i hi => ?_⟩
    simp only [List.size_toArray, mkVs_len] at hi
    have ha : ars[i]? = some ars[i] := List.getElem?_eq_getElem hi
    have e1 : (mkVs 0 ars).toArray.getD i undef = mkV i ars[i].1 := by
      simp [mkVs_get, ha]
    have e2 : (ars.map (·.1)).toArray.getD i undef = ars[i].1 := by simp [hi]
    rw [e1, e2]
    generalize ars[i] = a at ha
    obtain ⟨v, c⟩ := a
    rcases h _ (List.mem_of_getElem? ha) with (h1 | ⟨bb, o, n, cap, h1, h2, h3, h4, h5⟩) | ⟨l, h1⟩
    · simp only at h1 ⊢
      cases v with
      | slice x n cap => cases x with
        | none => exact g0_rel h1
        | some x => simp [g0] at h1
      | _ => exact g0_rel h1
    · simp only at h1 ⊢
      subst h1
      have := Rel.slice (R := R) i 0 n n ⟨bb, o, cap - n⟩ (by simp [R, ha, mkP]) (Nat.le_refl _)
      rw [show n + (cap - n) = cap by omega] at this
      simpa [mkV] using this
    · simp only at h1 ⊢
      subst h1
      exact rel_aggI R l
  refine (hc W.heap.size R W _ (Nat.le_refl _) hm hargs).mono ?_
  rintro e w' ⟨v, v', R', m', rfl, k1, k2, rfl, rfl⟩
  cases k1
  exact ⟨rfl, k2.below hm (Nat.le_refl _)⟩
section
variable {H : Type} {enc : TypeId × Value → H} {P : Program} {w : World} {base : Nat} {spare : Nat → Bool} {held : Bool}
theorem struct_ints {T : TypeId} {fs : Array Field} {fuel : Nat} {cs : List Value} {x : DataW H × List MemPlace} (ht : P.underlying T = some (.struct fs)) (hone : oneCellFields P fs = true) (hC : P.cellsOf T = fs.size)
    (hi : fs.all (fun f => match P.underlying f.type with | some (.int .i64) => true | _ => false) = true) (h : DataW.trod enc P w base spare held fuel T cs = some x) : ∃ l : List Int, l.length = fs.size ∧ cs = iv l := by
  obtain ⟨xs, n, _, _, hlen, hxl, hf⟩ := DataW.trod_struct ht h
  rw [hC] at hlen
  have key : ∀ j : Nat, ∃ z : Int, j < fs.size → cs[j]? = some (.int .i64 z) := fun j => by
    by_cases hj : j < fs.size
    · obtain ⟨ho, hk⟩ := hone_of hone j fs[j] (Array.getElem?_eq_getElem hj)
      have h1 := hf j fs[j] (Array.getElem?_eq_getElem hj)
      rw [ho, hk, List.drop_eq_getElem_cons (by omega), List.take_succ_cons, List.take_zero] at h1
      have hys : xs[j]? = some (xs[j]'(by omega)) := List.getElem?_eq_getElem (by omega)
      rw [hys] at h1
      obtain ⟨z, hz, _⟩ := DataW.trod_int (fields_int hi (Array.getElem?_eq_getElem hj)) h1
      injection hz with hz _
      exact ⟨z, fun _ => by rw [List.getElem?_eq_getElem (by omega), hz]⟩
    · exact ⟨0, fun h => absurd h hj⟩
  obtain ⟨g, hg⟩ := Classical.axiomOfChoice key
  refine ⟨(List.range fs.size).map g, by simp, ?_⟩
  apply List.ext_getElem?
  intro j
  by_cases hj : j < fs.size
  · rw [hg j hj]; simp [iv, hj]
  · rw [List.getElem?_eq_none (by omega), List.getElem?_eq_none (by simp [iv]; omega)]
/-- A struct of two structs of ints. -/
theorem arg_struct2 {r : Reach} {b0 : Nat} {T E : TypeId} {f0 f1 : Field} {fs : Array Field} {n : Nat} {v : Value} {d : DataW H} {p : List MemPlace} (hT : P.underlying T = some (.struct #[f0, f1])) (h0 : f0.type = E ∧ f0.offset = 0) (h1 : f1.type = E ∧ f1.offset = n) (hn : P.cellsOf T = n + n)
    (ht : P.underlying E = some (.struct fs)) (hone : oneCellFields P fs = true) (hC : P.cellsOf E = fs.size) (hfn : fs.size = n)
    (hi : fs.all (fun f => match P.underlying f.type with | some (.int .i64) => true | _ => false) = true) (hok : Value.okWide P w r b0 T v) (h : DataW.Trod enc P w base spare held T v d p) : ∃ l k : List Int, l.length = n ∧ k.length = n ∧ v = .agg (iv (l ++ k)).toArray := by
  obtain ⟨cs, rfl, _⟩ := okWide_struct hT hok
  obtain ⟨fuel, h⟩ := h
  obtain ⟨xs, m, _, _, hlen, hxl, hf⟩ := DataW.trod_struct hT h
  simp only [Value.cells] at hlen hf
  rw [hn] at hlen
  have q0 := hf 0 f0 rfl
  have q1 := hf 1 f1 rfl
  have hxl2 : xs.length = 2 := by simpa using hxl
  rw [h0.1, h0.2, hC, hfn, List.getElem?_eq_getElem (by omega)] at q0
  rw [h1.1, h1.2, hC, hfn, List.getElem?_eq_getElem (by omega)] at q1
  obtain ⟨l, l1, l2⟩ := struct_ints ht hone hC hi q0
  obtain ⟨k, k1, k2⟩ := struct_ints ht hone hC hi q1
  refine ⟨l, k, by omega, by omega, ?_⟩
  have e : cs.toList = iv (l ++ k) := by
    rw [show iv (l ++ k) = iv l ++ iv k by simp [iv], ← l2, ← k2, List.drop_zero, List.take_of_length_le (l := List.drop n _) (by simp at hlen ⊢; omega), List.take_append_drop]
  rw [← e]
end
end Go.Proofs.Ytajpngnphbdnnaa.Abs
namespace Go.Proofs.Ytajpngnphbdnnaa.Abs
set_option linter.unusedSimpArgs false
set_option linter.unusedVariables false
open Go.RowKit
open Go.Proofs.Ytajpngnphbdnnaa.Sim
open Go.ChangeShapes Go.WideShapes Go.Deep
section
variable {H : Type} {enc : TypeId × Value → H} {P : Program} {w : World} {base : Nat} {spare : Nat → Bool} {held : Bool}
theorem gl_of {l : List Int} (h : l.length = 4) : ∃ x : Gl, l = [x.a, x.b, x.c, x.d] := by
  match l, h with
  | [a, b, c, d], _ => exact ⟨⟨a, b, c, d⟩, rfl⟩
theorem arg_rule {r : Reach} {b0 : Nat} {T E : TypeId} {f0 f1 : Field} {fs : Array Field} {v : Value} {d : DataW H} {p : List MemPlace} (hT : P.underlying T = some (.struct #[f0, f1])) (h0 : f0.type = E ∧ f0.offset = 0) (h1 : f1.type = E ∧ f1.offset = 4) (hn : P.cellsOf T = 4 + 4)
    (ht : P.underlying E = some (.struct fs)) (hone : oneCellFields P fs = true) (hC : P.cellsOf E = fs.size) (hfn : fs.size = 4)
    (hi : fs.all (fun f => match P.underlying f.type with | some (.int .i64) => true | _ => false) = true) (hok : Value.okWide P w r b0 T v) (h : DataW.Trod enc P w base spare held T v d p) : ∃ u : Ru, v = u.v := by
  obtain ⟨l, k, l1, k1, rfl⟩ := arg_struct2 hT h0 h1 hn ht hone hC hfn hi hok h
  obtain ⟨x, rfl⟩ := gl_of l1
  obtain ⟨y, rfl⟩ := gl_of k1
  exact ⟨⟨x, y⟩, rfl⟩
end
end Go.Proofs.Ytajpngnphbdnnaa.Abs
namespace Go.Proofs.Ytajpngnphbdnnaa.Abs
set_option linter.unusedSimpArgs false
set_option linter.unusedVariables false
open Go.RowKit
open Go.Proofs.Ytajpngnphbdnnaa.Sim
open Go.Proofs
theorem ze24 : zeroB Try.prog 24 = some #[.int .i64 0, .int .i64 0, .int .i64 0, .int .i64 0] := by kernel_rfl
theorem el31 : elemB Try.prog 31 = some (33, 4, 32, #[.int .i64 0, .int .i64 0, .int .i64 0, .int .i64 0]) := by kernel_rfl
theorem un31 : Try.prog.underlying 31 = some (.slice 33) := by kernel_rfl
theorem bs31 {m : AM} {n : Nat} {x : Gl} : abuildSlice Try.prog m n 31 1 [(0, x.v)] = some (.slice (some ⟨n, 0, none⟩) 1 1, m.set n (some { cells := x.cells })) := by cases x; kernel_rfl
def glC (j : List Gl) : List Value := j.flatMap Gl.cells
theorem glC_len (j : List Gl) : (glC j).length = j.length * 4 := by
  induction j with
  | nil => rfl
  | cons x j ih => simp only [glC, List.flatMap_cons, List.length_append] at ih ⊢; rw [ih]; simp [Gl.cells]; omega
theorem g0_glC (j : List Gl) : ∀ v ∈ glC j, g0 v = true := fun v hv => by
  obtain ⟨x, _, hx⟩ := List.mem_flatMap.1 hv
  simp [Gl.cells] at hx
  rcases hx with rfl | rfl | rfl | rfl <;> rfl
theorem glC_snoc (j : List Gl) (k : Nat) (h : k < j.length) : glC (j.take (k + 1)) = glC (j.take k) ++ (j.getD k default).cells := by
  rw [take_snoc j k default h]; simp [glC]
theorem glC_get (j : List Gl) : ∀ (k : Nat), k < j.length → ∀ (i : Nat) (v : Value), (j.getD k default).cells[i]? = some v → (glC j)[k * 4 + i]? = some v := by
  induction j with
  | nil => intro k h; simp at h
  | cons x j ih =>
    intro k h i v hi
    have hc : x.cells.length = 4 := rfl
    simp only [glC, List.flatMap_cons]
    cases k with
    | zero =>
      have : i < 4 := by
        have := (List.getElem?_eq_some_iff.1 hi).1
        simpa [Gl.cells] using this
      rw [List.getElem?_append_left (by omega)]
      simpa using hi
    | succ k =>
      rw [List.getElem?_append_right (by omega), hc, show (k + 1) * 4 + i - 4 = k * 4 + i by omega]
      exact ih k (by simpa using h) i v (by simpa using hi)
theorem gls_new {M L : AM} {k : Nat} {j : List Gl} (hk : k < L.length) (h : L[k]? = some (gb (glC j) 4)) : Gls (M ++ L) (gv (M.length + k) j.length) j := by
  refine ⟨M.length + k, 0, gv_sl _ _, by simp; omega, fun i hi => ?_⟩
  have hp : 0 < (glC j).length := by rw [glC_len]; omega
  rw [gb_pos hp] at h
  refine ⟨_, by rw [get_app]; exact h, fun q v hq => ?_⟩
  rw [Nat.zero_add]; exact glC_get j i hi q v hq
set_option maxRecDepth 100000 in
theorem lside_ok {m : AM} {v : Value} {j : List Gl} (hj : Gls m v j) (hlen : j.length ≤ 9223372036854775807) : ACall Try.prog 21 #[v] m (NewG (glC (j.take 34)) 4 (j.take 34).length m) := by
  obtain ⟨a, o, h1, h2, h3⟩ := hj
  refine ACall.start Try.func21 rfl rfl ?_
  (repeat (first | (with_reducible refine AWo.cons ?_) | ((with_reducible refine Step.id ?_); first | ((with_reducible apply Step.move); exact rfl; exact rfl) | ((with_reducible apply Step.assign); exact rfl; exact rfl) | ((with_reducible apply Step.len); exact rfl; (focus (assumption)); (focus (decide +kernel)); exact rfl)) | (with_reducible refine AWo.nil ?_) | ((with_reducible apply AW.seq)) | ((with_reducible apply Then.n)) | ((with_reducible apply AW.regL)) | ((with_reducible apply AW.block))))
  refine AW.loopT (fun n t L => ∃ k : Nat, n = j.length - k ∧ k ≤ j.length ∧ k ≤ 34 ∧ L = [gb (glC (j.take k)) 4] ∧
    t = [(3, gv (m.length + 0) k), (6, v), (7, .int .i64 (j.length : Nat)), (8, .int .i64 (k : Nat))]) ⟨_, _, _, Back.pad (by repeat (first | exact trivial | (refine And.intro ⟨rfl, by (first | exact .int _ _ | exact Ren.of_gv (by first | (simp; done) | omega | (simp; omega)) | exact Ren.of_sl (by assumption) (by first | omega | (simp; omega)))⟩ ?_))) CellsOk.nil, 0, rfl, Nat.zero_le _, Nat.zero_le _, rfl, rfl⟩ ?_
  rintro n t L ⟨k, rfl, hk, hk2, rfl, rfl⟩
  have fin : ∀ i, i = k → (k = j.length ∨ k = 34) → (gv (m.length + 0) k = gv (m.length + 0) (j.take 34).length ∧ glC (j.take k) = glC (j.take 34)) := fun i _ h => by
    rcases h with h | h
    · subst h
      rw [List.take_of_length_le (show j.length ≤ 34 by omega), List.take_of_length_le (Nat.le_refl _)]; exact ⟨rfl, rfl⟩
    · subst h
      exact ⟨by rw [List.length_take, Nat.min_eq_left hk], rfl⟩
  have g0c := g0_glC (j.take k)
  rcases Nat.lt_or_ge k j.length with hlt | hge
  · by_cases hk3 : (33 : Int) < (k : Int)
    · (repeat (first | (with_reducible refine AWo.cons ?_) | ((with_reducible refine Step.id ?_); first | ((with_reducible apply Step.move); exact rfl; exact rfl) | ((with_reducible apply Step.assign); exact rfl; exact rfl) | ((with_reducible apply Step.loadL (n := 4)); exact rfl; (focus (decide +kernel)); (focus (decide +kernel)); exact rfl; (focus (exact RdL.old _ (h3 _ hlt))); exact rfl; exact rfl) | ((with_reducible apply Step.ix (s := 4)); exact rfl; (focus (assumption)); exact rfl; (focus (decide +kernel)); exact rfl; (focus (omega))) | ((with_reducible apply Step.lss); exact rfl; exact rfl; exact rfl) | ((with_reducible apply Step.gtr); exact rfl; exact rfl; exact rfl) | ((with_reducible apply Step.alloc 1); exact rfl; exact ze24; exact rfl; (focus (first | (simp only [List.nil_append, List.cons_append, List.set_cons_zero, List.set_cons_succ, iv_set, bv_set, iv_rep, bv_rep]; done) | (simp only [List.nil_append, List.cons_append, List.set_cons_zero, List.set_cons_succ, iv_set, bv_set, iv_rep, bv_rep]; rfl) | rfl))) | ((with_reducible apply Step.storeA (k := 1) (n := 4)); exact rfl; exact rfl; exact rfl; exact rfl; (focus (decide +kernel)); exact rfl; (focus (kernel_rfl)); exact rfl; (focus (first | (simp only [List.nil_append, List.cons_append, List.set_cons_zero, List.set_cons_succ, iv_set, bv_set, iv_rep, bv_rep]; done) | (simp only [List.nil_append, List.cons_append, List.set_cons_zero, List.set_cons_succ, iv_set, bv_set, iv_rep, bv_rep]; rfl) | rfl)))) | (with_reducible refine AWo.nil ?_) | ((with_reducible apply AW.seq)) | ((with_reducible apply Then.n)) | ((with_reducible apply AW.regL)) | ((with_reducible apply AW.block)) | ((with_reducible apply AW.exit)) | ((with_reducible apply InBlk.hit)) | ((with_reducible apply InBlk.miss); exact rfl) | ((with_reducible apply Then.e)) | ((with_reducible apply AW.skip)) | ((with_reducible apply AW.condT); exact rfl; (focus ((simp only [decide_eq_true_eq, decide_eq_false_iff_not, Bool.not_eq_true', Bool.not_eq_false', Bool.not_true, Bool.not_false]; first | assumption | omega))))))
      refine AW.retB (l := [(2, _)]) (L1 := [gb (glC (j.take k)) 4]) (Back.trim rfl rfl (by repeat (first | exact CellsOk.nil | refine CellsOk.gb (by assumption) ?_)) (by repeat (first | exact trivial | (refine And.intro ⟨rfl, by (exact Ren.of_gv (by first | (simp; done) | omega | (simp; omega)))⟩ ?_)))) ?_
      obtain ⟨e1, e2⟩ := fin k rfl (.inr (by omega))
      exact ⟨_, rfl, by rw [e1], by rw [e2]⟩
    · have hl := glC_len (j.take k)
      have hlk : (j.take k).length = k := by simp; omega
      rw [hlk] at hl
      have ts := glC_snoc j k hlt
      have g0n := g0_glC (j.take (k + 1))
      (repeat (first | (with_reducible refine AWo.cons ?_) | ((with_reducible refine Step.id ?_); first | ((with_reducible apply Step.move); exact rfl; exact rfl) | ((with_reducible apply Step.assign); exact rfl; exact rfl) | ((with_reducible apply Step.loadL (n := 4)); exact rfl; (focus (decide +kernel)); (focus (decide +kernel)); exact rfl; (focus (first | exact RdL.new rfl rfl | exact RdL.old _ (h3 _ hlt))); exact rfl; exact rfl) | ((with_reducible apply Step.ix (s := 4)); exact rfl; (focus (assumption)); exact rfl; (focus (decide +kernel)); exact rfl; (focus (omega))) | ((with_reducible apply Step.lss); exact rfl; exact rfl; exact rfl) | ((with_reducible apply Step.gtr); exact rfl; exact rfl; exact rfl) | ((with_reducible apply Step.callR fit); exact rfl; exact Try.func29; exact rfl; exact rfl; exact (glove_ok _)) | ((with_reducible apply Step.alloc 1); exact rfl; exact ze24; exact rfl; (focus (first | (simp only [List.nil_append, List.cons_append, List.set_cons_zero, List.set_cons_succ, iv_set, bv_set, iv_rep, bv_rep]; done) | (simp only [List.nil_append, List.cons_append, List.set_cons_zero, List.set_cons_succ, iv_set, bv_set, iv_rep, bv_rep]; rfl) | rfl))) | ((with_reducible apply Step.storeA (k := 1) (n := 4)); exact rfl; exact rfl; exact rfl; exact rfl; (focus (decide +kernel)); exact rfl; (focus (kernel_rfl)); exact rfl; (focus (first | (simp only [List.nil_append, List.cons_append, List.set_cons_zero, List.set_cons_succ, iv_set, bv_set, iv_rep, bv_rep]; done) | (simp only [List.nil_append, List.cons_append, List.set_cons_zero, List.set_cons_succ, iv_set, bv_set, iv_rep, bv_rep]; rfl) | rfl))) | ((with_reducible apply Step.buildS 2); exact rfl; exact rfl; exact (fun _ _ => bs31); exact rfl; (focus (first | (simp only [List.nil_append, List.cons_append, List.set_cons_zero, List.set_cons_succ, iv_set, bv_set, iv_rep, bv_rep]; done) | (simp only [List.nil_append, List.cons_append, List.set_cons_zero, List.set_cons_succ, iv_set, bv_set, iv_rep, bv_rep]; rfl) | rfl)))) | (with_reducible refine AWo.nil ?_) | ((with_reducible apply AW.seq)) | ((with_reducible apply Then.n)) | ((with_reducible apply AW.regL)) | ((with_reducible apply AW.block)) | ((with_reducible apply AW.skip)) | ((with_reducible apply AW.condT); exact rfl; (focus ((simp only [decide_eq_true_eq, decide_eq_false_iff_not, Bool.not_eq_true', Bool.not_eq_false', Bool.not_true, Bool.not_false]; first | assumption | omega)))) | ((with_reducible apply AW.condF); exact rfl; (focus ((simp only [decide_eq_true_eq, decide_eq_false_iff_not, Bool.not_eq_true', Bool.not_eq_false', Bool.not_true, Bool.not_false]; first | assumption | omega))))))
      ((with_reducible apply Step.appG (k := 3)); exact rfl; exact rfl; exact rfl; exact el31; exact un31; exact rfl; exact rfl; exact rfl; exact hl; exact rfl; exact rfl; exact rfl; (focus (omega)); exact rfl; (focus (first | (simp only [List.nil_append, List.cons_append, List.set_cons_zero, List.set_cons_succ, iv_set, bv_set, iv_rep, bv_rep]; done) | (simp only [List.nil_append, List.cons_append, List.set_cons_zero, List.set_cons_succ, iv_set, bv_set, iv_rep, bv_rep]; rfl) | rfl)))
      (repeat (first | (with_reducible refine AWo.cons ?_) | ((with_reducible refine Step.id ?_); first | ((with_reducible apply Step.move); exact rfl; exact rfl) | ((with_reducible apply Step.assign); exact rfl; exact rfl) | ((with_reducible apply Step.add); exact rfl; exact rfl; (focus (omega)); exact rfl)) | (with_reducible refine AWo.nil ?_) | ((with_reducible apply Then.n)) | ((with_reducible apply AW.regL)) | ((with_reducible apply InBlk.n))))
      rw [ts] at g0n
      refine ⟨_, [(3, .slice (some ⟨m.length + 0, 0, none⟩) (k + 1) (k + 1)), (6, v), (7, .int .i64 (j.length : Nat)), (8, .int .i64 (k + 1 : Nat))], [some { cells := glC (j.take k) ++ (j.getD k default).cells, kind := .grow, size := 4 }], by omega, (Back.mv 0 3 rfl rfl rfl rfl (by intro j b hj h; rcases j with _ | _ | _ | _ | _ | _ | j <;> simp_all) (by repeat (first | exact CellsOk.nil | refine CellsOk.cons (by assumption) ?_)) (by repeat (first | exact trivial | (refine And.intro ⟨_, rfl, by (first | exact .int _ _ | exact Ren.slice_mv (by first | (simp; done) | omega | (simp; omega)) | exact Ren.of_sl_ne (by assumption) (by first | omega | (simp; omega)) (by first | omega | (simp; omega)))⟩ ?_)))), k + 1, rfl, by omega, by omega, ?_, ?_⟩
      · rw [ts, gb_pos (by simp [Gl.cells])]
      · rw [gv_pos (by omega)]
  · (repeat (first | (with_reducible refine AWo.cons ?_) | ((with_reducible refine Step.id ?_); first | ((with_reducible apply Step.move); exact rfl; exact rfl) | ((with_reducible apply Step.assign); exact rfl; exact rfl) | ((with_reducible apply Step.lss); exact rfl; exact rfl; exact rfl)) | (with_reducible refine AWo.nil ?_) | ((with_reducible apply AW.seq)) | ((with_reducible apply Then.n)) | ((with_reducible apply AW.regL)) | ((with_reducible apply AW.exit)) | ((with_reducible apply InBlk.hit)) | ((with_reducible apply Then.e)) | ((with_reducible apply AW.condF); exact rfl; (focus ((simp only [decide_eq_true_eq, decide_eq_false_iff_not, Bool.not_eq_true', Bool.not_eq_false', Bool.not_true, Bool.not_false]; first | assumption | omega))))))
    refine AW.retB (l := [(2, _)]) (L1 := [gb (glC (j.take k)) 4]) (Back.trim rfl rfl (by repeat (first | exact CellsOk.nil | refine CellsOk.gb (by assumption) ?_)) (by repeat (first | exact trivial | (refine And.intro ⟨rfl, by (exact Ren.of_gv (by first | (simp; done) | omega | (simp; omega)))⟩ ?_)))) ?_
    obtain ⟨e1, e2⟩ := fin k rfl (.inl (by omega))
    exact ⟨_, rfl, by rw [e1], by rw [e2]⟩
/-- A side that the law hands on. -/
theorem take34 (l : List Gl) : sB (l.take 34) = sB l ∧ (sB l = true → l.take 34 = l) := by
  by_cases h : l.length ≤ 34
  · rw [List.take_of_length_le h]; exact ⟨rfl, fun _ => rfl⟩
  · have h1 : sB (l.take 34) = false := by simp [sB]; omega
    have h2 : sB l = false := by simp [sB]; omega
    rw [h1, h2]; exact ⟨rfl, fun h => by cases h⟩
end Go.Proofs.Ytajpngnphbdnnaa.Abs
namespace Go.Proofs.Ytajpngnphbdnnaa.Abs
set_option linter.unusedSimpArgs false
set_option linter.unusedVariables false
open Go.RowKit
open Go.Proofs.Ytajpngnphbdnnaa.Sim
open Go.Proofs
theorem Ren.tupG {ρ : Nat → Nat} {n : Nat} (l : List Value) (h : l.all g0 = true) : Ren ρ n (.tuple l.toArray) (.tuple l.toArray) :=
  .tuple _ _ rfl fun i hi => by
    have hi' : i < l.length := by simpa using hi
    have : l.toArray.getD i undef = l[i] := by simp [hi']
    rw [this]; exact .of_g0 (List.all_eq_true.1 h _ (List.getElem_mem hi'))
/-- What the first k of a pairing come to: which right gloves are taken, how many pairs, their cost. -/
def wgS (c : Nat → Nat → Int) (r : Nat) (M : List Int) : Nat → Option ((Nat → Bool) × Int × Int)
  | 0 => some (fun _ => false, 0, 0)
  | k + 1 => match wgS c r M k with
    | none => none
    | some (tk, s, q) => if M.getD k 0 = -1 then some (tk, s, q) else
      if M.getD k 0 < 0 ∨ (r : Int) ≤ M.getD k 0 ∨ tk (M.getD k 0).toNat = true ∨ c k (M.getD k 0).toNat < 0 then none
      else some (Hung.up tk (M.getD k 0).toNat true, s + 1, q + c k (M.getD k 0).toNat)
theorem wgS_bd {c : Nat → Nat → Int} (hc : Cs c) {r : Nat} {M : List Int} : ∀ {k : Nat} {x : (Nat → Bool) × Int × Int}, wgS c r M k = some x → 0 ≤ x.2.1 ∧ x.2.1 ≤ k ∧ 0 ≤ x.2.2 ∧ x.2.2 ≤ 4000000 * k
  | 0, x, h => by simp only [wgS] at h; injection h with h; subst h; simp
  | k + 1, x, h => by
    simp only [wgS] at h
    cases hk : wgS c r M k with
    | none => rw [hk] at h; cases h
    | some y =>
      obtain ⟨tk, s, q⟩ := y
      have ih := wgS_bd hc hk
      simp only at ih
      rw [hk] at h
      simp only at h
      have := hc k (M.getD k 0).toNat
      split at h
      · injection h with h; subst h; simp only; omega
      · split at h
        · cases h
        · injection h with h; subst h; simp only; omega
theorem wgS_none {c : Nat → Nat → Int} {r : Nat} {M : List Int} {k : Nat} (h : wgS c r M k = none) : ∀ n, wgS c r M (k + n) = none
  | 0 => h
  | n + 1 => by show wgS c r M (k + n + 1) = none; simp only [wgS]; rw [wgS_none h n]
/-- Size, cost and error of a pairing. -/
def wgh (c : Nat → Nat → Int) (l r : Nat) (M : List Int) : Int × Int × Int := if M.length ≠ l then (0, 0, 3) else match wgS c r M l with
  | some (_, s, q) => (s, q, 0)
  | none => (0, 0, 6)
set_option maxHeartbeats 4000000 in
set_option maxRecDepth 100000 in
theorem pairing_ok {m : AM} {tv mv : Value} {c : Nat → Nat → Int} {l r : Nat} {M : List Int} (ht : Tab m tv c l r) (hc : Cs c) (hl : l ≤ 32) (hr : r ≤ 32) (hM : Ints m mv M) (hMl : M.length ≤ 9223372036854775807) {s q e : Int} (hw : wgh c l r M = (s, q, e)) :
    ACall Try.prog 68 #[tv, mv] m (Ret (.tuple #[.int .i64 s, .int .i64 q, .int .i64 e]) m) := by
  obtain ⟨a, cv, b, o, rfl, t1, t2, t3, t4, t5, t6, t7⟩ := id ht
  obtain ⟨ma, mo, m1, m2, m3⟩ := id hM
  refine ACall.start Try.func68 rfl rfl ?_
  unfold wgh at hw
  by_cases hlen : M.length = l
  · rw [if_neg (by omega)] at hw
    subst hlen
    (repeat (first | (with_reducible refine AWo.cons ?_) | ((with_reducible refine Step.id ?_); first | ((with_reducible apply Step.move); exact rfl; exact rfl) | ((with_reducible apply Step.assign); exact rfl; exact rfl) | ((with_reducible apply Step.load); exact rfl; (focus (decide +kernel)); exact rfl; (focus (first | exact t3.old _ | exact t4.old _))) | ((with_reducible apply Step.field (k := 1)); exact rfl; (focus (decide +kernel)); exact rfl) | ((with_reducible apply Step.field (k := 2)); exact rfl; (focus (decide +kernel)); exact rfl) | ((with_reducible apply Step.neq); exact rfl; exact rfl; exact rfl) | ((with_reducible apply Step.len); exact rfl; (focus (assumption)); (focus (decide +kernel)); exact rfl) | ((with_reducible apply Step.nilp); exact rfl; exact rfl) | ((with_reducible apply Step.make1 0); exact rfl; exact rfl; exact rfl; exact el88; (focus (omega)); exact rfl; (focus (first | (simp only [List.nil_append, List.cons_append, List.set_cons_zero, List.set_cons_succ, iv_set, bv_set, iv_rep, bv_rep]; done) | (simp only [List.nil_append, List.cons_append, List.set_cons_zero, List.set_cons_succ, iv_set, bv_set, iv_rep, bv_rep]; rfl) | rfl)))) | (with_reducible refine AWo.nil ?_) | ((with_reducible apply AW.seq)) | ((with_reducible apply Then.n)) | ((with_reducible apply AW.regL)) | ((with_reducible apply AW.block)) | ((with_reducible apply AW.skip)) | ((with_reducible apply AW.condF); exact rfl; (focus ((simp; done))))))
    refine AW.loopT (fun rk t L => ∃ (k : Nat) (tk : Nat → Bool) (s q : Int), rk = M.length - k ∧ k ≤ M.length ∧ wgS c r M k = some (tk, s, q) ∧ L = [some { cells := bv (tabB tk r) }] ∧
      t = [(0, .pointer (some ⟨a, 0, none⟩)), (4, .int .i64 s), (5, .int .i64 q), (7, .slice (some ⟨m.length + 0, 0, none⟩) r r), (22, mv), (23, .int .i64 (M.length : Nat)), (24, .int .i64 (k : Nat))]) ⟨_, _, _, (Or.inl ⟨rfl, (by repeat (first | exact trivial | (refine And.intro rfl ?_)))⟩), 0, fun _ => false, 0, 0, rfl, Nat.zero_le _, rfl, by simp only [tabB_rep], rfl⟩ ?_
    rintro rk t L ⟨k, tk, s0, q0, rfl, hk, hs, rfl, rfl⟩
    rcases Nat.lt_or_ge k M.length with hlt | hge
    · have hrm := m3 k hlt
      have hb := wgS_bd hc hs
      simp only at hb
      have hnx : wgS c r M (k + 1) = if M.getD k 0 = -1 then some (tk, s0, q0) else
          if M.getD k 0 < 0 ∨ (r : Int) ≤ M.getD k 0 ∨ tk (M.getD k 0).toNat = true ∨ c k (M.getD k 0).toNat < 0 then none
          else some (Hung.up tk (M.getD k 0).toNat true, s0 + 1, q0 + c k (M.getD k 0).toNat) := by simp only [wgS, hs]
      have hend : wgS c r M (k + 1) = none → (s, q, e) = (0, 0, 6) := fun h => by
        have := wgS_none h (M.length - (k + 1))
        rw [show k + 1 + (M.length - (k + 1)) = M.length by omega] at this
        rw [this] at hw
        exact hw.symm
      generalize M.getD k 0 = j at *
      by_cases hj1 : j = -1
      · rw [if_pos hj1] at hnx
        (repeat (first | (with_reducible refine AWo.cons ?_) | ((with_reducible refine Step.id ?_); first | ((with_reducible apply Step.move); exact rfl; exact rfl) | ((with_reducible apply Step.assign); exact rfl; exact rfl) | ((with_reducible apply Step.load); exact rfl; (focus (decide +kernel)); exact rfl; (focus (exact hrm.old _))) | ((with_reducible apply Step.ix1); exact rfl; (focus (assumption)); exact rfl; (focus (decide +kernel)); exact rfl; (focus (omega))) | ((with_reducible apply Step.add); exact rfl; exact rfl; (focus (omega)); exact rfl) | ((with_reducible apply Step.lss); exact rfl; exact rfl; exact rfl) | ((with_reducible apply Step.eql); exact rfl; exact rfl; exact rfl)) | (with_reducible refine AWo.nil ?_) | ((with_reducible apply AW.seq)) | ((with_reducible apply Then.n)) | ((with_reducible apply AW.regL)) | ((with_reducible apply AW.block)) | ((with_reducible apply AW.exit)) | ((with_reducible apply InBlk.hit)) | ((with_reducible apply Then.e)) | ((with_reducible apply AW.skip)) | ((with_reducible apply AW.condT); exact rfl; (focus ((simp only [decide_eq_true_eq, decide_eq_false_iff_not, Bool.not_eq_true', Bool.not_eq_false', Bool.not_true, Bool.not_false]; first | assumption | omega))))))
        exact ⟨_, _, _, by omega, (Or.inl ⟨rfl, (by repeat (first | exact trivial | (refine And.intro rfl ?_)))⟩), k + 1, tk, s0, q0, rfl, by omega, hnx, rfl, rfl⟩
      · rw [if_neg hj1] at hnx
        by_cases hj2 : j < 0
        · rw [if_pos (.inl hj2)] at hnx
          have he := hend hnx
          injection he with he1 he2
          injection he2 with he2 he3
          subst he1 he2 he3
          (repeat (first | (with_reducible refine AWo.cons ?_) | ((with_reducible refine Step.id ?_); first | ((with_reducible apply Step.gdF); exact rfl; exact rfl; (focus (first | rfl | (simp only [decide_eq_true_eq, decide_eq_false_iff_not, Bool.not_eq_true', Bool.not_eq_false', Bool.not_true, Bool.not_false]; first | assumption | omega)))) | ((with_reducible apply Step.move); exact rfl; exact rfl) | ((with_reducible apply Step.assign); exact rfl; exact rfl) | ((with_reducible apply Step.load); exact rfl; (focus (decide +kernel)); exact rfl; (focus (exact hrm.old _))) | ((with_reducible apply Step.ix1); exact rfl; (focus (assumption)); exact rfl; (focus (decide +kernel)); exact rfl; (focus (omega))) | ((with_reducible apply Step.lss); exact rfl; exact rfl; exact rfl) | ((with_reducible apply Step.eql); exact rfl; exact rfl; exact rfl) | ((with_reducible apply Step.pickT); exact rfl; exact rfl; exact rfl; exact rfl; (focus (first | rfl | (simp only [decide_eq_true_eq, decide_eq_false_iff_not, Bool.not_eq_true', Bool.not_eq_false', Bool.not_true, Bool.not_false]; first | assumption | omega))))) | (with_reducible refine AWo.nil ?_) | ((with_reducible apply AW.seq)) | ((with_reducible apply Then.n)) | ((with_reducible apply AW.regL)) | ((with_reducible apply AW.block)) | ((with_reducible apply AW.skip)) | ((with_reducible apply AW.condT); exact rfl; (focus (first | rfl | (simp only [decide_eq_true_eq, decide_eq_false_iff_not, Bool.not_eq_true', Bool.not_eq_false', Bool.not_true, Bool.not_false]; first | assumption | omega)))) | ((with_reducible apply AW.condF); exact rfl; (focus ((simp only [decide_eq_true_eq, decide_eq_false_iff_not, Bool.not_eq_true', Bool.not_eq_false', Bool.not_true, Bool.not_false]; first | assumption | omega))))))
          (refine AW.retD (l := [(4, _), (5, _), (6, _)]) (by repeat (first | exact trivial | (refine And.intro ⟨rfl, by (exact .int _ _)⟩ ?_))) ?_; (repeat (first | refine Then.r ?_ | refine InBlk.r ?_)))
          exact ⟨_, rfl, rfl, rfl⟩
        · by_cases hj3 : (r : Int) ≤ j
          · rw [if_pos (.inr (.inl hj3))] at hnx
            have he := hend hnx
            injection he with he1 he2
            injection he2 with he2 he3
            subst he1 he2 he3
            (repeat (first | (with_reducible refine AWo.cons ?_) | ((with_reducible refine Step.id ?_); first | ((with_reducible apply Step.gdT); exact rfl; exact rfl; (focus ((simp only [decide_eq_true_eq, decide_eq_false_iff_not, Bool.not_eq_true', Bool.not_eq_false', Bool.not_true, Bool.not_false]; first | assumption | omega)))) | ((with_reducible apply Step.gdF); exact rfl; exact rfl; (focus (first | rfl | (simp only [decide_eq_true_eq, decide_eq_false_iff_not, Bool.not_eq_true', Bool.not_eq_false', Bool.not_true, Bool.not_false]; first | assumption | omega)))) | ((with_reducible apply Step.move); exact rfl; exact rfl) | ((with_reducible apply Step.assign); exact rfl; exact rfl) | ((with_reducible apply Step.load); exact rfl; (focus (decide +kernel)); exact rfl; (focus (first | exact hrm.old _ | exact t4.old _))) | ((with_reducible apply Step.ix1); exact rfl; (focus (assumption)); exact rfl; (focus (decide +kernel)); exact rfl; (focus (omega))) | ((with_reducible apply Step.field (k := 2)); exact rfl; (focus (decide +kernel)); exact rfl) | ((with_reducible apply Step.lss); exact rfl; exact rfl; exact rfl) | ((with_reducible apply Step.geq); exact rfl; exact rfl; exact rfl) | ((with_reducible apply Step.eql); exact rfl; exact rfl; exact rfl) | ((with_reducible apply Step.nilp); exact rfl; exact rfl) | ((with_reducible apply Step.pickT); exact rfl; exact rfl; exact rfl; exact rfl; (focus (first | rfl | (simp only [decide_eq_true_eq, decide_eq_false_iff_not, Bool.not_eq_true', Bool.not_eq_false', Bool.not_true, Bool.not_false]; first | assumption | omega)))) | ((with_reducible apply Step.pickF); exact rfl; exact rfl; exact rfl; exact rfl; (focus ((simp only [decide_eq_true_eq, decide_eq_false_iff_not, Bool.not_eq_true', Bool.not_eq_false', Bool.not_true, Bool.not_false]; first | assumption | omega))))) | (with_reducible refine AWo.nil ?_) | ((with_reducible apply AW.seq)) | ((with_reducible apply Then.n)) | ((with_reducible apply AW.regL)) | ((with_reducible apply AW.block)) | ((with_reducible apply AW.skip)) | ((with_reducible apply AW.condT); exact rfl; (focus (first | rfl | (simp only [decide_eq_true_eq, decide_eq_false_iff_not, Bool.not_eq_true', Bool.not_eq_false', Bool.not_true, Bool.not_false]; first | assumption | omega)))) | ((with_reducible apply AW.condF); exact rfl; (focus ((simp only [decide_eq_true_eq, decide_eq_false_iff_not, Bool.not_eq_true', Bool.not_eq_false', Bool.not_true, Bool.not_false]; first | assumption | omega))))))
            (refine AW.retD (l := [(4, _), (5, _), (6, _)]) (by repeat (first | exact trivial | (refine And.intro ⟨rfl, by (exact .int _ _)⟩ ?_))) ?_; (repeat (first | refine Then.r ?_ | refine InBlk.r ?_)))
            exact ⟨_, rfl, rfl, rfl⟩
          · obtain ⟨j, rfl⟩ := Int.eq_ofNat_of_zero_le (show 0 ≤ j by omega)
            have hjr : j < r := by omega
            simp only [Int.toNat_natCast] at hnx
            obtain ⟨w, k1, b', o', k2, k3, k4⟩ := t7 k hlt
            rw [tab_len] at k2 k4
            have k5 := k4 j hjr
            rw [tab_get (c k) hjr] at k5
            have hcb := hc k j
            cases htk : tk j with
            | true =>
              rw [if_pos (.inr (.inr (.inl htk)))] at hnx
              have he := hend hnx
              injection he with he1 he2
              injection he2 with he2 he3
              subst he1 he2 he3
              have hrt : ∀ T : AM, Rd (m ++ (some { cells := bv (tabB tk r) } :: T)) (m.length + 0) j (.bool true) := fun T => by rw [← htk, ← tabB_get tk hjr]; exact Rd.new rfl (bv_get (by simp; omega))
              (repeat (first | (with_reducible refine AWo.cons ?_) | ((with_reducible refine Step.id ?_); first | ((with_reducible apply Step.gdT); exact rfl; exact rfl; (focus (first | rfl | (simp only [decide_eq_true_eq, decide_eq_false_iff_not, Bool.not_eq_true', Bool.not_eq_false', Bool.not_true, Bool.not_false]; first | assumption | omega)))) | ((with_reducible apply Step.gdF); exact rfl; exact rfl; (focus (rfl))) | ((with_reducible apply Step.move); exact rfl; exact rfl) | ((with_reducible apply Step.assign); exact rfl; exact rfl) | ((with_reducible apply Step.load); exact rfl; (focus (decide +kernel)); exact rfl; (focus (first | exact hrt _ | exact hrm.old _ | exact t4.old _))) | ((with_reducible apply Step.ix1z); exact rfl; (focus (exact Sl.mk (by omega))); exact rfl; (focus (decide +kernel)); exact rfl; (focus (omega))) | ((with_reducible apply Step.ix1); exact rfl; (focus (assumption)); exact rfl; (focus (decide +kernel)); exact rfl; (focus (omega))) | ((with_reducible apply Step.field (k := 2)); exact rfl; (focus (decide +kernel)); exact rfl) | ((with_reducible apply Step.lss); exact rfl; exact rfl; exact rfl) | ((with_reducible apply Step.geq); exact rfl; exact rfl; exact rfl) | ((with_reducible apply Step.eql); exact rfl; exact rfl; exact rfl) | ((with_reducible apply Step.nilp); exact rfl; exact rfl) | ((with_reducible apply Step.pickT); exact rfl; exact rfl; exact rfl; exact rfl; (focus (rfl))) | ((with_reducible apply Step.pickF); exact rfl; exact rfl; exact rfl; exact rfl; (focus (first | rfl | (simp only [decide_eq_true_eq, decide_eq_false_iff_not, Bool.not_eq_true', Bool.not_eq_false', Bool.not_true, Bool.not_false]; first | assumption | omega))))) | (with_reducible refine AWo.nil ?_) | ((with_reducible apply AW.seq)) | ((with_reducible apply Then.n)) | ((with_reducible apply AW.regL)) | ((with_reducible apply AW.block)) | ((with_reducible apply AW.skip)) | ((with_reducible apply AW.condT); exact rfl; (focus (first | rfl | (simp only [decide_eq_true_eq, decide_eq_false_iff_not, Bool.not_eq_true', Bool.not_eq_false', Bool.not_true, Bool.not_false]; first | assumption | omega)))) | ((with_reducible apply AW.condF); exact rfl; (focus (rfl)))))
              (refine AW.retD (l := [(4, _), (5, _), (6, _)]) (by repeat (first | exact trivial | (refine And.intro ⟨rfl, by (exact .int _ _)⟩ ?_))) ?_; (repeat (first | refine Then.r ?_ | refine InBlk.r ?_)))
              exact ⟨_, rfl, rfl, rfl⟩
            | false =>
              have hrt : ∀ T : AM, Rd (m ++ (some { cells := bv (tabB tk r) } :: T)) (m.length + 0) j (.bool false) := fun T => by rw [← htk, ← tabB_get tk hjr]; exact Rd.new rfl (bv_get (by simp; omega))
              by_cases hcn : c k j < 0
              · rw [if_pos (.inr (.inr (.inr hcn)))] at hnx
                have he := hend hnx
                injection he with he1 he2
                injection he2 with he2 he3
                subst he1 he2 he3
                (repeat (first | (with_reducible refine AWo.cons ?_) | ((with_reducible refine Step.id ?_); first | ((with_reducible apply Step.gdT); exact rfl; exact rfl; (focus (first | rfl | (simp only [decide_eq_true_eq, decide_eq_false_iff_not, Bool.not_eq_true', Bool.not_eq_false', Bool.not_true, Bool.not_false]; first | assumption | omega)))) | ((with_reducible apply Step.move); exact rfl; exact rfl) | ((with_reducible apply Step.assign); exact rfl; exact rfl) | ((with_reducible apply Step.load); exact rfl; (focus (decide +kernel)); exact rfl; (focus (first | exact hrt _ | exact hrm.old _ | exact t4.old _ | exact t2.old _ | exact k1.old _ | exact k5.old _))) | ((with_reducible apply Step.ix1z); exact rfl; (focus (exact Sl.mk (by omega))); exact rfl; (focus (decide +kernel)); exact rfl; (focus (omega))) | ((with_reducible apply Step.ix1); exact rfl; (focus (assumption)); exact rfl; (focus (decide +kernel)); exact rfl; (focus (omega))) | ((with_reducible apply Step.field0); exact rfl; (focus (decide +kernel)); exact rfl) | ((with_reducible apply Step.field (k := 2)); exact rfl; (focus (decide +kernel)); exact rfl) | ((with_reducible apply Step.lss); exact rfl; exact rfl; exact rfl) | ((with_reducible apply Step.geq); exact rfl; exact rfl; exact rfl) | ((with_reducible apply Step.eql); exact rfl; exact rfl; exact rfl) | ((with_reducible apply Step.nilp); exact rfl; exact rfl) | ((with_reducible apply Step.pickF); exact rfl; exact rfl; exact rfl; exact rfl; (focus (first | rfl | (simp only [decide_eq_true_eq, decide_eq_false_iff_not, Bool.not_eq_true', Bool.not_eq_false', Bool.not_true, Bool.not_false]; first | assumption | omega))))) | (with_reducible refine AWo.nil ?_) | ((with_reducible apply AW.seq)) | ((with_reducible apply Then.n)) | ((with_reducible apply AW.regL)) | ((with_reducible apply AW.block)) | ((with_reducible apply AW.skip)) | ((with_reducible apply AW.condT); exact rfl; (focus ((simp only [decide_eq_true_eq, decide_eq_false_iff_not, Bool.not_eq_true', Bool.not_eq_false', Bool.not_true, Bool.not_false]; first | assumption | omega)))) | ((with_reducible apply AW.condF); exact rfl; (focus (rfl)))))
                (refine AW.retD (l := [(4, _), (5, _), (6, _)]) (by repeat (first | exact trivial | (refine And.intro ⟨rfl, by (exact .int _ _)⟩ ?_))) ?_; (repeat (first | refine Then.r ?_ | refine InBlk.r ?_)))
                exact ⟨_, rfl, rfl, rfl⟩
              · rw [if_neg (by rw [htk]; simp; omega)] at hnx
                (repeat (first | (with_reducible refine AWo.cons ?_) | ((with_reducible refine Step.id ?_); first | ((with_reducible apply Step.gdT); exact rfl; exact rfl; (focus (first | rfl | (simp only [decide_eq_true_eq, decide_eq_false_iff_not, Bool.not_eq_true', Bool.not_eq_false', Bool.not_true, Bool.not_false]; first | assumption | omega)))) | ((with_reducible apply Step.move); exact rfl; exact rfl) | ((with_reducible apply Step.assign); exact rfl; exact rfl) | ((with_reducible apply Step.load); exact rfl; (focus (decide +kernel)); exact rfl; (focus (first | exact hrt _ | exact hrm.old _ | exact t4.old _ | exact t2.old _ | exact k1.old _ | exact k5.old _))) | ((with_reducible apply Step.ix1z); exact rfl; (focus (exact Sl.mk (by omega))); exact rfl; (focus (decide +kernel)); exact rfl; (focus (omega))) | ((with_reducible apply Step.ix1); exact rfl; (focus (assumption)); exact rfl; (focus (decide +kernel)); exact rfl; (focus (omega))) | ((with_reducible apply Step.field0); exact rfl; (focus (decide +kernel)); exact rfl) | ((with_reducible apply Step.field (k := 2)); exact rfl; (focus (decide +kernel)); exact rfl) | ((with_reducible apply Step.add); exact rfl; exact rfl; (focus (omega)); exact rfl) | ((with_reducible apply Step.lss); exact rfl; exact rfl; exact rfl) | ((with_reducible apply Step.geq); exact rfl; exact rfl; exact rfl) | ((with_reducible apply Step.eql); exact rfl; exact rfl; exact rfl) | ((with_reducible apply Step.nilp); exact rfl; exact rfl) | ((with_reducible apply Step.pickF); exact rfl; exact rfl; exact rfl; exact rfl; (focus (first | rfl | (simp only [decide_eq_true_eq, decide_eq_false_iff_not, Bool.not_eq_true', Bool.not_eq_false', Bool.not_true, Bool.not_false]; first | assumption | omega)))) | ((with_reducible apply Step.store (k := 0)); exact rfl; exact rfl; exact rfl; exact rfl; (focus (decide +kernel)); exact rfl; exact rfl; (focus (first | omega | (simp [iv, bv]; done) | (simp [iv, bv]; omega))); (focus (first | (simp only [List.nil_append, List.cons_append, List.set_cons_zero, List.set_cons_succ, iv_set, bv_set, iv_rep, bv_rep]; done) | (simp only [List.nil_append, List.cons_append, List.set_cons_zero, List.set_cons_succ, iv_set, bv_set, iv_rep, bv_rep]; rfl) | rfl)))) | (with_reducible refine AWo.nil ?_) | ((with_reducible apply AW.seq)) | ((with_reducible apply Then.n)) | ((with_reducible apply AW.regL)) | ((with_reducible apply AW.block)) | ((with_reducible apply AW.drawL fit); (focus (decide +kernel))) | ((with_reducible apply InBlk.n)) | ((with_reducible apply AW.skip)) | ((with_reducible apply AW.condT); exact rfl; (focus ((simp only [decide_eq_true_eq, decide_eq_false_iff_not, Bool.not_eq_true', Bool.not_eq_false', Bool.not_true, Bool.not_false]; first | assumption | omega)))) | ((with_reducible apply AW.condF); exact rfl; (focus (first | rfl | (simp only [decide_eq_true_eq, decide_eq_false_iff_not, Bool.not_eq_true', Bool.not_eq_false', Bool.not_true, Bool.not_false]; first | assumption | omega))))))
                refine ⟨_, _, _, ?_, (Or.inl ⟨rfl, (by repeat (first | exact trivial | (refine And.intro rfl ?_)))⟩), k + 1, _, s0 + 1, q0 + c k j, rfl, by omega, hnx, by rw [tabB_set], rfl⟩
                omega
    · obtain rfl : k = M.length := by omega
      rw [hs] at hw
      injection hw with he1 he2
      injection he2 with he2 he3
      subst he1 he2 he3
      (repeat (first | (with_reducible refine AWo.cons ?_) | ((with_reducible refine Step.id ?_); first | ((with_reducible apply Step.move); exact rfl; exact rfl) | ((with_reducible apply Step.assign); exact rfl; exact rfl) | ((with_reducible apply Step.lss); exact rfl; exact rfl; exact rfl)) | (with_reducible refine AWo.nil ?_) | ((with_reducible apply AW.seq)) | ((with_reducible apply Then.n)) | ((with_reducible apply AW.regL)) | ((with_reducible apply AW.exit)) | ((with_reducible apply InBlk.hit)) | ((with_reducible apply Then.e)) | ((with_reducible apply AW.condF); exact rfl; (focus ((simp only [decide_eq_true_eq, decide_eq_false_iff_not, Bool.not_eq_true', Bool.not_eq_false', Bool.not_true, Bool.not_false]; first | assumption | omega))))))
      (refine AW.retD (l := [(4, _), (5, _), (6, _)]) (by repeat (first | exact trivial | (refine And.intro ⟨rfl, by (exact .int _ _)⟩ ?_))) ?_; (repeat (first | refine Then.r ?_ | refine InBlk.r ?_)))
      exact ⟨_, rfl, rfl, rfl⟩
  · rw [if_pos hlen] at hw
    injection hw with he1 he2
    injection he2 with he2 he3
    subst he1 he2 he3
    (repeat (first | (with_reducible refine AWo.cons ?_) | ((with_reducible refine Step.id ?_); first | ((with_reducible apply Step.move); exact rfl; exact rfl) | ((with_reducible apply Step.assign); exact rfl; exact rfl) | ((with_reducible apply Step.load); exact rfl; (focus (decide +kernel)); exact rfl; (focus (exact t3.old _))) | ((with_reducible apply Step.field (k := 1)); exact rfl; (focus (decide +kernel)); exact rfl) | ((with_reducible apply Step.neq); exact rfl; exact rfl; exact rfl) | ((with_reducible apply Step.len); exact rfl; (focus (assumption)); (focus (decide +kernel)); exact rfl) | ((with_reducible apply Step.nilp); exact rfl; exact rfl)) | (with_reducible refine AWo.nil ?_) | ((with_reducible apply AW.seq)) | ((with_reducible apply Then.n)) | ((with_reducible apply AW.regL)) | ((with_reducible apply AW.condT); exact rfl; (focus ((simp only [decide_eq_true_eq, decide_eq_false_iff_not, Bool.not_eq_true', Bool.not_eq_false', Bool.not_true, Bool.not_false]; first | assumption | omega))))))
    (refine AW.retD (l := [(4, _), (5, _), (6, _)]) (by repeat (first | exact trivial | (refine And.intro ⟨rfl, by (exact .int _ _)⟩ ?_))) ?_; (repeat (first | refine Then.r ?_ | refine InBlk.r ?_)))
    exact ⟨_, rfl, rfl, rfl⟩
end Go.Proofs.Ytajpngnphbdnnaa.Abs
namespace Go.Proofs.Ytajpngnphbdnnaa.Abs
set_option linter.unusedSimpArgs false
set_option linter.unusedVariables false
open Go.RowKit
open Go.Proofs.Ytajpngnphbdnnaa.Sim
open Go.Proofs
/-- The table as a slice of rows. -/
def RT (m : AM) (v : Value) (c : Nat → Nat → Int) (l r : Nat) : Prop := ∃ b o, Sl v b o l ∧ b < m.length ∧ ∀ i, i < l → ∃ w, Rd m b (o + i) w ∧ Ints m w (tab (c i) r)
theorem RT.old {m : AM} {v : Value} {c : Nat → Nat → Int} {l r : Nat} (L : AM) (h : RT m v c l r) : RT (m ++ L) v c l r := by
  obtain ⟨b, o, h5, h6, h7⟩ := h
  exact ⟨b, o, h5, by simp; omega, fun i hi => by
    obtain ⟨w, k1, k2⟩ := h7 i hi
    exact ⟨w, k1.old L, k2.old L⟩⟩
end Go.Proofs.Ytajpngnphbdnnaa.Abs
namespace Go.Proofs.Ytajpngnphbdnnaa.Abs
set_option linter.unusedSimpArgs false
set_option linter.unusedVariables false
open Go.RowKit
open Go.Proofs.Ytajpngnphbdnnaa.Sim
open Go.Proofs
/-- Two valid sides and a valid rule. -/
def okB (L R : List Gl) (u : Ru) : Bool := sB L && sB R && uB u
theorem okB_iff {L R : List Gl} {u : Ru} (h : okB L R u = true) : sB L = true ∧ sB R = true ∧ uB u = true := by
  simp only [okB, Bool.and_eq_true] at h; exact ⟨h.1.1, h.1.2, h.2⟩
theorem okB_len {L R : List Gl} {u : Ru} (h : okB L R u = true) : L.length ≤ 32 ∧ R.length ≤ 32 := by
  obtain ⟨h1, h2, _⟩ := okB_iff h
  simp only [sB, Bool.and_eq_true, decide_eq_true_eq] at h1 h2
  exact ⟨h1.1, h2.1⟩
def wghR (L R : List Gl) (u : Ru) (M : List Int) : Int × Int × Int := if okB L R u = true then wgh (cT u L R) L.length R.length M else (0, 0, 2)
set_option maxRecDepth 100000 in
theorem Weigh_ok {m : AM} {lv rv mv : Value} {L R : List Gl} {u : Ru} {M : List Int} (hl : Gls m lv L) (hr : Gls m rv R) (h1 : L.length ≤ 100000) (h2 : R.length ≤ 100000) (hM : Ints m mv M) (hMl : M.length ≤ 9223372036854775807) {s q e : Int} (hw : wghR L R u M = (s, q, e)) :
    ACall Try.prog 31 #[lv, rv, u.v, mv] m (Ret (.tuple #[.int .i64 s, .int .i64 q, .int .i64 e]) m) := by
  have r0 : ∀ T : AM, RdL (m ++ (some { cells := u.cells } :: T)) (m.length + 0) 0 u.cells := fun T => RdL.new rfl rfl
  unfold wghR at hw
  cases hok : okB L R u with
  | false =>
    rw [hok, if_neg (by simp)] at hw
    injection hw with he1 he2
    injection he2 with he2 he3
    subst he1 he2 he3
    have hc := fun T => costs_no (hl.old T) (hr.old T) h1 h2 hok
    refine ACall.start Try.func31 rfl rfl ?_
    (repeat (first | (with_reducible refine AWo.cons ?_) | ((with_reducible refine Step.id ?_); first | ((with_reducible apply Step.move); exact rfl; exact rfl) | ((with_reducible apply Step.assign); exact rfl; exact rfl) | ((with_reducible apply Step.loadL (n := 8)); exact rfl; (focus (decide +kernel)); (focus (decide +kernel)); exact rfl; (focus (exact RdL.new rfl rfl)); exact rfl; exact rfl) | ((with_reducible apply Step.ptrNil); exact rfl; exact rfl; exact un77; exact rfl) | ((with_reducible apply Step.callR fit); exact rfl; exact Try.func54; exact rfl; exact rfl; exact (hc _)) | ((with_reducible apply Step.box 0); exact rfl; exact rfl; (focus (kernel_rfl)); exact rfl; (focus (first | (simp only [List.nil_append, List.cons_append, List.set_cons_zero, List.set_cons_succ, iv_set, bv_set, iv_rep, bv_rep]; done) | (simp only [List.nil_append, List.cons_append, List.set_cons_zero, List.set_cons_succ, iv_set, bv_set, iv_rep, bv_rep]; rfl) | rfl)))) | (with_reducible refine AWo.nil ?_) | ((with_reducible apply AW.seq)) | ((with_reducible apply Then.n)) | ((with_reducible apply AW.regL)) | ((with_reducible apply AW.condT); exact rfl; (focus (rfl)))))
    (refine AW.retD (l := [(8, _), (9, _), (10, _)]) (by repeat (first | exact trivial | (refine And.intro ⟨rfl, by (exact .int _ _)⟩ ?_))) ?_; (repeat (first | refine Then.r ?_ | refine InBlk.r ?_)))
    exact ⟨_, rfl, rfl, rfl⟩
  | true =>
    rw [hok, if_pos rfl] at hw
    obtain ⟨k1, k2, k3⟩ := okB_iff hok
    obtain ⟨k4, k5⟩ := okB_len hok
    have hcs := cT_cs k3 k1 k2
    refine ACall.drop (Ren.tupG [_, _, _] rfl) ?_
    refine ACall.start Try.func31 rfl rfl ?_
    (repeat (first | (with_reducible refine AWo.cons ?_) | ((with_reducible refine Step.id ?_); first | ((with_reducible apply Step.move); exact rfl; exact rfl) | ((with_reducible apply Step.assign); exact rfl; exact rfl) | ((with_reducible apply Step.loadL (n := 8)); exact rfl; (focus (decide +kernel)); (focus (decide +kernel)); exact rfl; (focus (exact RdL.new rfl rfl)); exact rfl; exact rfl) | ((with_reducible apply Step.box 0); exact rfl; exact rfl; (focus (kernel_rfl)); exact rfl; (focus (first | (simp only [List.nil_append, List.cons_append, List.set_cons_zero, List.set_cons_succ, iv_set, bv_set, iv_rep, bv_rep]; done) | (simp only [List.nil_append, List.cons_append, List.set_cons_zero, List.set_cons_succ, iv_set, bv_set, iv_rep, bv_rep]; rfl) | rfl)))) | (with_reducible refine AWo.nil ?_) | ((with_reducible apply AW.seq)) | ((with_reducible apply Then.n)) | ((with_reducible apply AW.regL))))
    ((with_reducible apply Step.callX fit); exact rfl; exact Try.func54; exact rfl; exact rfl; exact (costs_ok (hl.old _) (hr.old _) k1 k2 k3))
    rintro tv M1 ⟨N, hN⟩ hT
    have hM1 : Ints M1 mv M := by rw [hN]; exact (hM.old _).old _
    have hpre : ∃ N', M1 = m ++ N' := ⟨_, by rw [hN, List.append_assoc]⟩
    clear hN
    have hp := fun T => pairing_ok (hT.old T) hcs k4 k5 (hM1.old T) hMl hw
    obtain ⟨a, cv, b, o, rfl, _⟩ := id hT
    (repeat (first | (with_reducible refine AWo.cons ?_) | ((with_reducible refine Step.id ?_); first | ((with_reducible apply Step.move); exact rfl; exact rfl) | ((with_reducible apply Step.assign); exact rfl; exact rfl) | ((with_reducible apply Step.ptrNot); exact rfl; exact rfl; exact un77; exact rfl) | ((with_reducible apply Step.extract); exact rfl; exact rfl; exact rfl) | ((with_reducible apply Step.callR fit); exact rfl; exact Try.func68; exact rfl; exact rfl; exact (hp _))) | (with_reducible refine AWo.nil ?_) | ((with_reducible apply AW.seq)) | ((with_reducible apply Then.n)) | ((with_reducible apply AW.regL)) | ((with_reducible apply AW.skip)) | ((with_reducible apply AW.condF); exact rfl; (focus (rfl)))))
    (refine AW.ret ?_; (repeat (first | refine Then.r ?_ | refine InBlk.r ?_)))
    obtain ⟨N', rfl⟩ := hpre
    exact ⟨_, rfl, rfl, _, by rw [List.append_assoc]⟩
theorem okB34 (L R : List Gl) (u : Ru) : okB (L.take 34) (R.take 34) u = okB L R u := by
  unfold okB; rw [(take34 L).1, (take34 R).1]
theorem cT34 {L R : List Gl} {u : Ru} (h : okB L R u = true) : L.take 34 = L ∧ R.take 34 = R := by
  obtain ⟨k1, k2, _⟩ := okB_iff h
  exact ⟨(take34 L).2 k1, (take34 R).2 k2⟩
end Go.Proofs.Ytajpngnphbdnnaa.Abs
namespace Go.Proofs.Ytajpngnphbdnnaa.Abs
set_option linter.unusedSimpArgs false
set_option linter.unusedVariables false
open Go.RowKit
open Go.Proofs.Ytajpngnphbdnnaa.Sim
open Go.Proofs
open Hung
/-- What a pairing of the gloves L with those of R is worth; none: it is no pairing. -/
def vps (c : Nat → Nat → Int) : List Nat → List Nat → List Int → Option Int
  | [], _, _ => some 0
  | _ :: _, _, [] => none
  | x :: L, R, j :: M => if j = -1 then vps c L R M else
    if 0 ≤ j ∧ j.toNat ∈ R ∧ 0 ≤ c x j.toNat then (vps c L (R.erase j.toNat) M).map (wo c x j.toNat + ·) else none
theorem filt_erase (r : Nat) (tk : Nat → Bool) (y : Nat) : ((List.range r).filter fun x => !tk x).erase y = (List.range r).filter fun x => !up tk y true x := by
  rw [List.Nodup.erase_eq_filter (List.Pairwise.filter _ List.nodup_range), List.filter_filter]
  refine List.filter_congr fun x _ => ?_
  by_cases e : x = y
  · subst e; simp [up_same]
  · rw [up_ne _ _ e]; simp [e]
theorem wgS_vps {c : Nat → Nat → Int} {r : Nat} {M : List Int} : ∀ (n k : Nat) (tk : Nat → Bool) (s q : Int), k + n = M.length → wgS c r M k = some (tk, s, q) →
    match vps c (List.range' k n) ((List.range r).filter fun x => !tk x) (M.drop k) with
    | none => wgS c r M M.length = none
    | some t => ∃ tk' s' q', wgS c r M M.length = some (tk', s', q') ∧ 1000000000 * (s' - s) - (q' - q) = t
  | 0, k, tk, s, q, hk, h => by
    obtain rfl : k = M.length := by omega
    exact ⟨tk, s, q, h, by omega⟩
  | n + 1, k, tk, s, q, hk, h => by
    have hlt : k < M.length := by omega
    have hd : M.drop k = M.getD k 0 :: M.drop (k + 1) := by rw [List.drop_eq_getElem_cons hlt]; simp [hlt]
    have hnx : wgS c r M (k + 1) = if M.getD k 0 = -1 then some (tk, s, q) else
        if M.getD k 0 < 0 ∨ (r : Int) ≤ M.getD k 0 ∨ tk (M.getD k 0).toNat = true ∨ c k (M.getD k 0).toNat < 0 then none
        else some (up tk (M.getD k 0).toNat true, s + 1, q + c k (M.getD k 0).toNat) := by simp only [wgS, h]
    rw [hd, List.range'_succ]
    simp only [vps]
    generalize M.getD k 0 = j at *
    by_cases h1 : j = -1
    · rw [if_pos h1] at hnx
      rw [if_pos h1]
      exact wgS_vps n (k + 1) tk s q (by omega) hnx
    · rw [if_neg h1] at hnx
      rw [if_neg h1]
      by_cases h2 : 0 ≤ j ∧ j.toNat ∈ (List.range r).filter (fun x => !tk x) ∧ 0 ≤ c k j.toNat
      · obtain ⟨a1, a2, a3⟩ := h2
        obtain ⟨b1, b2⟩ := List.mem_filter.1 a2
        have b1' := List.mem_range.1 b1
        have b2' : tk j.toNat = false := by simpa using b2
        rw [if_neg (by rw [b2']; simp; omega)] at hnx
        rw [if_pos ⟨a1, a2, a3⟩, filt_erase]
        have ih := wgS_vps n (k + 1) _ _ _ (by omega) hnx
        cases hv : vps c (List.range' (k + 1) n) ((List.range r).filter fun x => !up tk j.toNat true x) (M.drop (k + 1)) with
        | none => rw [hv] at ih; exact ih
        | some t =>
          rw [hv] at ih
          obtain ⟨tk', s', q', e1, e2⟩ := ih
          refine ⟨tk', s', q', e1, ?_⟩
          have : wo c k j.toNat = 1000000000 - c k j.toNat := if_neg (by omega)
          show _ = wo c k j.toNat + t
          rw [this]; omega
      · rw [if_pos (by
          apply Classical.byContradiction
          intro hn
          apply h2
          have hr : j < r := by
            rcases Int.lt_or_le j r with h | h
            · exact h
            · exact absurd (.inr (.inl h)) hn
          have h0 : 0 ≤ j := by
            rcases Int.lt_or_le j 0 with h | h
            · exact absurd (.inl h) hn
            · exact h
          refine ⟨h0, List.mem_filter.2 ⟨List.mem_range.2 (by omega), ?_⟩, ?_⟩
          · cases ht : tk j.toNat with
            | false => rfl
            | true => exact absurd (.inr (.inr (.inl ht))) hn
          · rcases Int.lt_or_le (c k j.toNat) 0 with h | h
            · exact absurd (.inr (.inr (.inr h))) hn
            · exact h)] at hnx
        rw [if_neg h2]
        have := wgS_none hnx (M.length - (k + 1))
        rwa [show k + 1 + (M.length - (k + 1)) = M.length by omega] at this
/-- The worth of a pairing is its size and its cost. -/
theorem wgS_total {c : Nat → Nat → Int} {r : Nat} {M : List Int} : match vps c (List.range M.length) (List.range r) M with
    | none => wgS c r M M.length = none
    | some t => ∃ tk' s' q', wgS c r M M.length = some (tk', s', q') ∧ 1000000000 * s' - q' = t := by
  have := wgS_vps (c := c) (r := r) (M := M) M.length 0 (fun _ => false) 0 0 (by omega) rfl
  rw [show ((List.range r).filter fun x => !(fun _ => false : Nat → Bool) x) = List.range r from List.filter_eq_self.2 fun _ _ => rfl, List.drop_zero, ← List.range_eq_range'] at this
  simpa using this
theorem vps_chp {c : Nat → Nat → Int} (hc : ∀ x y, c x y ≤ 1000000000) : ∀ (L R : List Nat), vps c L R (chp c L R) = some (mx (wo c) L R)
  | [], R => rfl
  | x :: L, R => by
    simp only [chp]
    cases hp : pick c x L R (mx (wo c) (x :: L) R) R with
    | none =>
      simp only [vps, if_true]
      rw [vps_chp hc L R, chp_skip hc hp]
    | some y =>
      obtain ⟨h1, h2, h3⟩ := pick_some hp
      simp only [vps]
      rw [if_neg (by omega), if_pos ⟨by omega, by rw [Int.toNat_natCast]; exact h1, by rw [Int.toNat_natCast]; exact h2⟩, Int.toNat_natCast, vps_chp hc L (R.erase y)]
      simp only [Option.map_some, Option.some.injEq]
      omega
theorem chp_len (c : Nat → Nat → Int) : ∀ (L R : List Nat), (chp c L R).length = L.length
  | [], _ => rfl
  | x :: L, R => by
    simp only [chp]
    split <;> simp [chp_len c L]
end Go.Proofs.Ytajpngnphbdnnaa.Abs
namespace Go.Proofs.Ytajpngnphbdnnaa.Hung
set_option linter.unusedSimpArgs false
set_option linter.unusedVariables false
def Ed (c : Nat → Nat → Int) (l r : Nat) (gl gr : Nat → Bool) (i j : Nat) : Prop := i < l ∧ j < r ∧ gl i = false ∧ gr j = false ∧ 0 ≤ c i j
def Wt (c : Nat → Nat → Int) (i j : Nat) : Int := 1000000000 - c i j
/-- What a way gains up to a left glove. -/
def stI (c : Nat → Nat → Int) (gain to : Nat → Int) (i : Nat) : Int := if 0 ≤ to i then gain (to i).toNat - Wt c i (to i).toNat else 0
structure Mt (c : Nat → Nat → Int) (l r : Nat) (gl gr : Nat → Bool) (of to : Nat → Int) : Prop where
  t1 : ∀ i, i < l → to i = -1 ∨ ∃ j : Nat, to i = j ∧ Ed c l r gl gr i j ∧ of j = i
  o1 : ∀ j, j < r → of j = -1 ∨ ∃ i : Nat, of j = i ∧ Ed c l r gl gr i j ∧ to i = j
structure Pc (c : Nat → Nat → Int) (l r : Nat) (gl gr : Nat → Bool) (of to a b : Nat → Int) (A : Int) : Prop where
  A0 : 0 ≤ A
  aA : ∀ i, i < l → gl i = false → A ≤ a i ∧ (to i = -1 → a i = A)
  b0 : ∀ j, j < r → gr j = false → 0 ≤ b j ∧ (of j = -1 → b j = 0)
  fe : ∀ i j, Ed c l r gl gr i j → Wt c i j ≤ a i + b j
  ti : ∀ (i j : Nat), i < l → to i = j → a i + b j = Wt c i j
  bA : A ≤ 1000000000
section
variable {c : Nat → Nat → Int} {l r : Nat} {gl gr : Nat → Bool} {of to a b gain : Nat → Int} {fm tau : Nat → Nat} {rl : List Nat} {T : Nat} {A : Int}
/-- How much less than the prices allow the way to a right glove gains. -/
def xs (A : Int) (b gain : Nat → Int) (j : Nat) : Int := A + b j - gain j
/-- The ways found so far: rl are the right gloves that are reached. -/
structure Wy (c : Nat → Nat → Int) (l r : Nat) (gl gr : Nat → Bool) (to b : Nat → Int) (A : Int) (gain : Nat → Int) (fm : Nat → Nat) (rl : List Nat) (tau : Nat → Nat) (T : Nat) : Prop where
  nd : rl.Nodup
  rr : ∀ j ∈ rl, j < r
  un : ∀ j, j < r → j ∉ rl → gain j = -1152921504606846976
  lo : ∀ j ∈ rl, -1000000000 * (rl.length : Int) ≤ gain j
  hi : ∀ j ∈ rl, gain j ≤ A + b j
  ed : ∀ j ∈ rl, Ed c l r gl gr (fm j) j ∧ to (fm j) ≠ j
  ub : ∀ j ∈ rl, gain j ≤ stI c gain to (fm j) + Wt c (fm j) j
  pa : ∀ j ∈ rl, to (fm j) = -1 ∨ ∃ p : Nat, to (fm j) = p ∧ p ∈ rl ∧ (xs A b gain p < xs A b gain j ∨ (xs A b gain p = xs A b gain j ∧ tau p < tau j))
  ta : ∀ j, tau j < T
theorem Wy.start (to b : Nat → Int) (A : Int) (fm : Nat → Nat) : Wy c l r gl gr to b A (fun _ => -1152921504606846976) fm [] (fun _ => 0) 1 :=
  ⟨List.nodup_nil, fun _ h => (by cases h), fun _ _ _ => rfl, fun _ h => (by cases h), fun _ h => (by cases h), fun _ h => (by cases h), fun _ h => (by cases h), fun _ h => (by cases h), fun _ => by omega⟩
theorem Wy.len (h : Wy c l r gl gr to b A gain fm rl tau T) : rl.length ≤ r := by
  have := nodup_le h.nd (k := List.range r) fun x hx => List.mem_range.2 (h.rr x hx)
  simpa using this
/-- A left glove from which a way may go on. -/
def Rd (to : Nat → Int) (rl : List Nat) (i : Nat) : Prop := to i = -1 ∨ ∃ p : Nat, to i = p ∧ p ∈ rl
theorem st_free {i : Nat} (h : to i = -1) : stI c gain to i = 0 := if_neg (by omega)
theorem st_at {i p : Nat} (h : to i = p) : stI c gain to i = gain p - Wt c i p := by
  unfold stI
  rw [h, if_pos (by omega), Int.toNat_natCast]
theorem st_le (hP : Pc c l r gl gr of to a b A) (hW : Wy c l r gl gr to b A gain fm rl tau T) {i : Nat} (hi : i < l) (hg : gl i = false) (hR : Rd to rl i) : stI c gain to i ≤ A - a i := by
  rcases hR with h | ⟨p, h, hp⟩
  · rw [st_free h, (hP.aA i hi hg).2 h]; omega
  · rw [st_at h]
    have := hP.ti i p hi h
    have := hW.hi p hp
    omega
theorem Wy.step (hW : Wy c l r gl gr to b A gain fm rl tau T) (hP : Pc c l r gl gr of to a b A) (hinj : ∀ (i i' j : Nat), i < l → i' < l → to i = j → to i' = j → i = i') {i j : Nat} (he : Ed c l r gl gr i j) (hne : to i ≠ j) (hR : Rd to rl i) (hlt : gain j < stI c gain to i + Wt c i j)
    (hlb : -1000000000 * (rl.length : Int) ≤ stI c gain to i + 1000000000) (hw : 0 ≤ Wt c i j) :
    Wy c l r gl gr to b A (up gain j (stI c gain to i + Wt c i j)) (up fm j i) (if j ∈ rl then rl else j :: rl) (up tau j T) (T + 1) := by
  have hst := st_le hP hW he.1 he.2.2.1 hR
  have hfe := hP.fe i j he
  generalize hs : stI c gain to i = s at *
  have hmem : ∀ q, q ∈ (if j ∈ rl then rl else j :: rl) ↔ q = j ∨ q ∈ rl := fun q => by
    split
    · rename_i h
      exact ⟨.inr, fun h' => h'.elim (fun e => e ▸ h) id⟩
    · simp
  have hlen : (rl.length : Int) ≤ ((if j ∈ rl then rl else j :: rl).length : Nat) := by
    split
    · omega
    · simp only [List.length_cons]; omega
  have gup : ∀ q, q ≠ j → up gain j (s + Wt c i j) q = gain q := fun q h => up_ne _ _ h
  have fup : ∀ q, q ≠ j → up fm j i q = fm q := fun q h => up_ne _ _ h
  have xne : ∀ q, q ≠ j → xs A b (up gain j (s + Wt c i j)) q = xs A b gain q := fun q h => by unfold xs; rw [gup q h]
  have xj : xs A b (up gain j (s + Wt c i j)) j < xs A b gain j := by unfold xs; rw [up_same]; omega
  have stm : ∀ q, stI c gain to q ≤ stI c (up gain j (s + Wt c i j)) to q := fun q => by
    unfold stI
    split
    · by_cases e : (to q).toNat = j
      · rw [e, up_same]; omega
      · rw [gup _ e]; exact Int.le_refl _
    · exact Int.le_refl _
  have stj : stI c (up gain j (s + Wt c i j)) to i = s := by
    rw [← hs]
    rcases hR with h | ⟨p, h, _⟩
    · rw [st_free h, st_free h]
    · have : p ≠ j := fun e => hne (by rw [h, e])
      rw [st_at h, st_at h, up_ne _ _ this]
  refine ⟨?_, fun q hq => ?_, fun q hq hn => ?_, fun q hq => ?_, fun q hq => ?_, fun q hq => ?_, fun q hq => ?_, fun q hq => ?_, fun q => ?_⟩
  · split
    · exact hW.nd
    · rename_i h; exact List.nodup_cons.2 ⟨h, hW.nd⟩
  · rcases (hmem q).1 hq with e | h
    · rw [e]; exact he.2.1
    · exact hW.rr q h
  · have h1 : q ≠ j := fun e => hn ((hmem q).2 (.inl e))
    have h2 : q ∉ rl := fun h => hn ((hmem q).2 (.inr h))
    rw [gup q h1]; exact hW.un q hq h2
  · by_cases e : q = j
    · rw [e, up_same]
      by_cases hj : j ∈ rl
      · have := hW.lo j hj
        simp only [if_pos hj]; omega
      · simp only [if_neg hj, List.length_cons]; omega
    · rw [gup q e]
      have h := ((hmem q).1 hq).resolve_left e
      have := hW.lo q h
      omega
  · by_cases e : q = j
    · rw [e, up_same]; omega
    · rw [gup q e]; exact hW.hi q (((hmem q).1 hq).resolve_left e)
  · by_cases e : q = j
    · rw [e, up_same]; exact ⟨he, hne⟩
    · rw [fup q e]; exact hW.ed q (((hmem q).1 hq).resolve_left e)
  · by_cases e : q = j
    · rw [e, up_same, up_same, stj]; exact Int.le_refl _
    · rw [gup q e, fup q e]
      have := hW.ub q (((hmem q).1 hq).resolve_left e)
      have := stm (fm q)
      omega
  · by_cases e : q = j
    · subst e
      rw [up_same, up_same]
      rcases hR with h | ⟨p, h, hp⟩
      · exact .inl h
      · have hpj : p ≠ q := fun e => hne (by rw [h, e])
        refine .inr ⟨p, h, (hmem p).2 (.inr hp), ?_⟩
        rw [xne p hpj, up_ne _ _ hpj]
        have ht := hP.ti i p he.1 h
        have hs2 := st_at (c := c) (gain := gain) h
        have := hW.ta p
        unfold xs
        rw [up_same]
        omega
    · rw [fup q e, up_ne _ _ e]
      rcases hW.pa q (((hmem q).1 hq).resolve_left e) with h | ⟨p, h, hp, ho⟩
      · exact .inl h
      · refine .inr ⟨p, h, (hmem p).2 (.inr hp), ?_⟩
        rw [xne q e]
        by_cases ep : p = j
        · subst ep
          left; omega
        · rw [xne p ep, up_ne _ _ ep]; exact ho
  · by_cases e : q = j
    · rw [e, up_same]; omega
    · rw [up_ne _ _ e]; have := hW.ta q; omega
/-- Nothing gains any more. -/
def Fx (c : Nat → Nat → Int) (l r : Nat) (gl gr : Nat → Bool) (to gain : Nat → Int) (rl : List Nat) : Prop := ∀ i j, Ed c l r gl gr i j → to i ≠ j → Rd to rl i → stI c gain to i + Wt c i j ≤ gain j
end
end Go.Proofs.Ytajpngnphbdnnaa.Hung
namespace Go.Proofs.Ytajpngnphbdnnaa.Hung
set_option linter.unusedSimpArgs false
set_option linter.unusedVariables false
section
variable {c : Nat → Nat → Int} {l r : Nat} {gl gr : Nat → Bool} {of to a b gain : Nat → Int} {fm tau : Nat → Nat} {rl : List Nat} {T : Nat} {A D : Int}
/-- How far a left glove is. -/
def ys (A : Int) (b gain to : Nat → Int) (i : Nat) : Int := if 0 ≤ to i then xs A b gain (to i).toNat else 0
theorem ys_free {i : Nat} (h : to i = -1) : ys A b gain to i = 0 := if_neg (by omega)
theorem ys_at {i p : Nat} (h : to i = p) : ys A b gain to i = xs A b gain p := by
  unfold ys; rw [h, if_pos (by omega), Int.toNat_natCast]
theorem xs_nonneg (hP : Pc c l r gl gr of to a b A) (hW : Wy c l r gl gr to b A gain fm rl tau T) {j : Nat} (hj : j < r) (hg : gr j = false) : 0 ≤ xs A b gain j := by
  by_cases h : j ∈ rl
  · have := hW.hi j h; unfold xs; omega
  · have := hW.un j hj h
    have := (hP.b0 j hj hg).1
    have := hP.A0
    unfold xs; omega
theorem ys_nonneg (hM : Mt c l r gl gr of to) (hP : Pc c l r gl gr of to a b A) (hW : Wy c l r gl gr to b A gain fm rl tau T) {i : Nat} (hi : i < l) : 0 ≤ ys A b gain to i := by
  rcases hM.t1 i hi with h | ⟨j, h, he, _⟩
  · rw [ys_free h]; exact Int.le_refl _
  · rw [ys_at h]; exact xs_nonneg hP hW he.2.1 he.2.2.2.1
/-- The prices moved by D, by how far each glove is. -/
def na (A D : Int) (a b gain to : Nat → Int) (i : Nat) : Int := a i - D + min (ys A b gain to i) D
def nb (A D : Int) (b gain : Nat → Int) (j : Nat) : Int := b j + D - min (xs A b gain j) D
theorem Pc.move (hM : Mt c l r gl gr of to) (hP : Pc c l r gl gr of to a b A) (hW : Wy c l r gl gr to b A gain fm rl tau T) (hF : Fx c l r gl gr to gain rl) (h0 : 0 ≤ D) (hDA : D ≤ A) (hfree : ∀ j, j < r → gr j = false → of j = -1 → D ≤ xs A b gain j) :
    Pc c l r gl gr of to (na A D a b gain to) (nb A D b gain) (A - D) := by
  have hbA := hP.bA
  refine ⟨by omega, fun i hi hg => ?_, fun j hj hg => ?_, fun i j he => ?_, fun i j hi h => ?_, by omega⟩
  · have h1 := (hP.aA i hi hg).1
    have h2 := ys_nonneg hM hP hW hi
    refine ⟨by unfold na; omega, fun h => ?_⟩
    have := (hP.aA i hi hg).2 h
    unfold na; rw [ys_free h]; omega
  · have h1 := (hP.b0 j hj hg).1
    refine ⟨by unfold nb; omega, fun h => ?_⟩
    have h2 := (hP.b0 j hj hg).2 h
    have h3 := hfree j hj hg h
    unfold nb; omega
  · have hfe := hP.fe i j he
    have key : min (xs A b gain j) D ≤ min (ys A b gain to i) D + (a i + b j - Wt c i j) := by
      by_cases hij : to i = j
      · rw [ys_at hij]; omega
      · rcases hM.t1 i he.1 with h | ⟨p, h, hep, _⟩
        · have h1 := hF i j he hij (.inl h)
          rw [st_free h] at h1
          rw [ys_free h]
          have := (hP.aA i he.1 he.2.2.1).2 h
          unfold xs; omega
        · by_cases hp : p ∈ rl
          · have h1 := hF i j he hij (.inr ⟨p, h, hp⟩)
            rw [st_at h] at h1
            rw [ys_at h]
            have := hP.ti i p he.1 h
            unfold xs; omega
          · rw [ys_at h]
            have h1 := hW.un p hep.2.1 hp
            have h2 := (hP.b0 p hep.2.1 hep.2.2.2.1).1
            unfold xs; omega
    unfold na nb; omega
  · rcases hM.t1 i hi with h' | ⟨p, h', hep, _⟩
    · rw [h] at h'; omega
    · have := hP.ti i j hi h
      unfold na nb; rw [ys_at h]; omega
/-- Prices are no greater than what a pair is worth. -/
theorem Pc.b_le (hM : Mt c l r gl gr of to) (hP : Pc c l r gl gr of to a b A) {j : Nat} (hj : j < r) (hg : gr j = false) : b j ≤ 1000000000 := by
  rcases hM.o1 j hj with h | ⟨i, h, he, ht⟩
  · rw [(hP.b0 j hj hg).2 h]; omega
  · have h1 := hP.ti i j he.1 ht
    have h2 := (hP.aA i he.1 he.2.2.1).1
    have h3 := hP.A0
    have h4 := he.2.2.2.2
    unfold Wt at h1; omega
theorem Pc.start (c : Nat → Nat → Int) (l r : Nat) (gl gr : Nat → Bool) : Pc c l r gl gr (fun _ => -1) (fun _ => -1) (fun _ => 1000000000) (fun _ => 0) 1000000000 :=
  ⟨by omega, fun _ _ _ => ⟨Int.le_refl _, fun _ => rfl⟩, fun _ _ _ => ⟨Int.le_refl _, fun _ => rfl⟩, fun i j he => by have := he.2.2.2.2; unfold Wt; omega, fun i j _ h => by omega, Int.le_refl _⟩
theorem Mt.start (c : Nat → Nat → Int) (l r : Nat) (gl gr : Nat → Bool) : Mt c l r gl gr (fun _ => -1) (fun _ => -1) := ⟨fun _ _ => .inl rfl, fun _ _ => .inl rfl⟩
/-- What the pairs are worth. -/
def valT (c : Nat → Nat → Int) (to : Nat → Int) (l : Nat) : Int := sN (fun i => if 0 ≤ to i then Wt c i (to i).toNat else 0) l
/-- Along a way: the right glove j has lost its partner. -/
structure Pg (c : Nat → Nat → Int) (l r : Nat) (gl gr : Nat → Bool) (of0 to0 : Nat → Int) (a b gain : Nat → Int) (rl : List Nat) (rk : Nat → Nat) (A D V : Int) (of to : Nat → Int) (j : Nat) : Prop where
  jr : j ∈ rl
  jD : xs A b gain j ≤ D
  t1 : ∀ i, i < l → to i = -1 ∨ ∃ q : Nat, to i = q ∧ Ed c l r gl gr i q ∧ of q = i ∧ q ≠ j
  o1 : ∀ q, q < r → q ≠ j → of q = -1 ∨ ∃ i : Nat, of q = i ∧ Ed c l r gl gr i q ∧ to i = q
  kp : ∀ i, i < l → to i = to0 i ∨ ∃ k : Nat, to0 i = k ∧ rk j ≤ rk k ∧ k ∈ rl
  vi : ∀ i, i < l → to i = -1 → to0 i = -1
  fo : ∀ q, q < r → q ≠ j → of q = -1 → of0 q = -1
  ti : ∀ (i q : Nat), i < l → to i = q → na A D a b gain to0 i + nb A D b gain q = Wt c i q
  su : valT c to l + gain j = V
theorem Pg.start (hM : Mt c l r gl gr of to) (hP : Pc c l r gl gr of to a b A) (hP' : Pc c l r gl gr of to (na A D a b gain to) (nb A D b gain) (A - D)) (rk : Nat → Nat) {j : Nat} (hj : j ∈ rl) (hjr : j < r) (hx : xs A b gain j ≤ D) (hf : of j = -1) :
    Pg c l r gl gr of to a b gain rl rk A D (valT c to l + gain j) of to j := by
  refine ⟨hj, hx, fun i hi => ?_, fun q hq _ => hM.o1 q hq, fun _ _ => .inl rfl, fun _ _ h => h, fun _ _ _ h => h, fun i q hi h => hP'.ti i q hi h, rfl⟩
  rcases hM.t1 i hi with h | ⟨q, h1, h2, h3⟩
  · exact .inl h
  · exact .inr ⟨q, h1, h2, h3, fun e => by rw [e] at h3; omega⟩
theorem valT_up (c : Nat → Nat → Int) (to : Nat → Int) {l i : Nat} (j : Nat) (hi : i < l) : valT c (up to i (j : Int)) l = valT c to l + (Wt c i j - (if 0 ≤ to i then Wt c i (to i).toNat else 0)) := by
  unfold valT
  have : (fun k => if 0 ≤ up to i (j : Int) k then Wt c k (up to i (j : Int) k).toNat else 0) = up (fun k => if 0 ≤ to k then Wt c k (to k).toNat else 0) i (Wt c i j) := by
    funext k
    by_cases e : k = i
    · subst e; rw [up_same, up_same, if_pos (by omega), Int.toNat_natCast]
    · rw [up_ne _ _ e, up_ne _ _ e]
  rw [this, sN_up, if_pos hi]
theorem Pg.step (hP : Pc c l r gl gr of to a b A) (hW : Wy c l r gl gr to b A gain fm rl tau T) (hF : Fx c l r gl gr to gain rl) {rk : Nat → Nat} (hrk : ∀ j ∈ rl, to (fm j) = -1 ∨ ∃ p : Nat, to (fm j) = p ∧ p ∈ rl ∧ rk p < rk j) {V : Int} {of' to' : Nat → Int} {j : Nat}
    (h : Pg c l r gl gr of to a b gain rl rk A D V of' to' j) :
    to' (fm j) = to (fm j) ∧ fm j < l ∧
    (to (fm j) = -1 → Mt c l r gl gr (up of' j (fm j : Int)) (up to' (fm j) (j : Int)) ∧ (∀ i, i < l → up to' (fm j) (j : Int) i = -1 → to i = -1) ∧ (∀ q, q < r → up of' j (fm j : Int) q = -1 → of q = -1) ∧
      (∀ (i q : Nat), i < l → up to' (fm j) (j : Int) i = q → na A D a b gain to i + nb A D b gain q = Wt c i q) ∧ valT c (up to' (fm j) (j : Int)) l = V) ∧
    (∀ p : Nat, to (fm j) = p → p < r ∧ rk p < rk j ∧ Pg c l r gl gr of to a b gain rl rk A D V (up of' j (fm j : Int)) (up to' (fm j) (j : Int)) p) := by
  obtain ⟨he, hne⟩ := hW.ed j h.jr
  have hil := he.1
  have hpar := hrk j h.jr
  -- the glove before was not met yet
  have hto : to' (fm j) = to (fm j) := by
    rcases h.kp (fm j) hil with e | ⟨k, e, h1, _⟩
    · exact e
    · rcases hpar with e2 | ⟨p, e2, _, h2⟩
      · rw [e] at e2; omega
      · rw [e] at e2
        have : k = p := by omega
        subst this; omega
  have hRd : Hung.Rd to rl (fm j) := by
    rcases hpar with e | ⟨p, e, hp, _⟩
    · exact .inl e
    · exact .inr ⟨p, e, hp⟩
  have heq : gain j = stI c gain to (fm j) + Wt c (fm j) j := by
    have := hW.ub j h.jr
    have := hF (fm j) j he hne hRd
    omega
  -- the pair that is added is tight
  have htj : na A D a b gain to (fm j) + nb A D b gain j = Wt c (fm j) j := by
    have hjD := h.jD
    have hxj : xs A b gain j = ys A b gain to (fm j) + (a (fm j) + b j - Wt c (fm j) j) := by
      rcases hpar with e | ⟨p, e, hp, _⟩
      · rw [ys_free e]
        rw [st_free e] at heq
        have := (hP.aA (fm j) hil he.2.2.1).2 e
        unfold xs; omega
      · rw [ys_at e]
        rw [st_at e] at heq
        have := hP.ti (fm j) p hil e
        unfold xs; omega
    have hfe := hP.fe (fm j) j he
    unfold na nb; omega
  have htiN : ∀ (i q : Nat), i < l → up to' (fm j) (j : Int) i = q → na A D a b gain to i + nb A D b gain q = Wt c i q := fun i q hi hq => by
    by_cases e : i = fm j
    · subst e
      rw [up_same] at hq
      have : j = q := by omega
      subst this; exact htj
    · rw [up_ne _ _ e] at hq; exact h.ti i q hi hq
  refine ⟨hto, hil, fun hfree => ?_, fun p hp => ?_⟩
  · refine ⟨⟨fun i hi => ?_, fun q hq => ?_⟩, fun i hi hi1 => ?_, fun q hq hq1 => ?_, htiN, ?_⟩
    · by_cases e : i = fm j
      · subst e
        exact .inr ⟨j, up_same .., he, up_same ..⟩
      · rw [up_ne _ _ e]
        rcases h.t1 i hi with h1 | ⟨q, h1, h2, h3, h4⟩
        · exact .inl h1
        · exact .inr ⟨q, h1, h2, by rw [up_ne _ _ h4]; exact h3⟩
    · by_cases e : q = j
      · subst e
        exact .inr ⟨fm q, up_same .., he, up_same ..⟩
      · rw [up_ne _ _ e]
        rcases h.o1 q hq e with h1 | ⟨i, h1, h2, h3⟩
        · exact .inl h1
        · refine .inr ⟨i, h1, h2, ?_⟩
          rw [up_ne _ _ fun e2 => by rw [e2, hto, hfree] at h3; omega]
          exact h3
    · by_cases e : i = fm j
      · rw [e]; exact hfree
      · rw [up_ne _ _ e] at hi1
        exact h.vi i hi hi1
    · by_cases e : q = j
      · subst e; rw [up_same] at hq1; omega
      · rw [up_ne _ _ e] at hq1; exact h.fo q hq e hq1
    · rw [valT_up c to' j hil, hto, hfree, if_neg (by omega)]
      have := h.su
      rw [st_free hfree] at heq
      omega
  · rcases hpar with e0 | ⟨p', e0, hpr, hrkp⟩
    · rw [hp] at e0; omega
    have : p' = p := by omega
    subst this
    have hpn : p' ≠ j := fun e => hne (by rw [hp, e])
    have hpr' := hW.rr p' hpr
    have hofp : of' p' = (fm j : Int) ∧ ∀ i, i < l → to' i = p' → i = fm j := by
      have key : ∀ i, i < l → to' i = p' → of' p' = i := fun i hi h1 => by
        rcases h.t1 i hi with h2 | ⟨q, h2, _, h4, _⟩
        · omega
        · have : q = p' := by omega
          subst this; exact h4
      have h1 := key (fm j) hil (by rw [hto, hp])
      exact ⟨h1, fun i hi h2 => by have := key i hi h2; omega⟩
    refine ⟨hpr', hrkp, ⟨hpr, ?_, fun i hi => ?_, fun q hq hqp => ?_, fun i hi => ?_, fun i hi hi1 => ?_, fun q hq hqp hq1 => ?_, htiN, ?_⟩⟩
    · have hjD := h.jD
      have hfe := hP.fe (fm j) j he
      have ht := hP.ti (fm j) p' hil hp
      rw [st_at hp] at heq
      unfold xs at *; omega
    · by_cases e : i = fm j
      · subst e
        exact .inr ⟨j, up_same .., he, up_same .., Ne.symm hpn⟩
      · rw [up_ne _ _ e]
        rcases h.t1 i hi with h1 | ⟨q, h1, h2, h3, h4⟩
        · exact .inl h1
        · exact .inr ⟨q, h1, h2, by rw [up_ne _ _ h4]; exact h3, fun e2 => e (hofp.2 i hi (by rw [h1, e2]))⟩
    · by_cases e : q = j
      · subst e
        exact .inr ⟨fm q, up_same .., he, up_same ..⟩
      · rw [up_ne _ _ e]
        rcases h.o1 q hq e with h1 | ⟨i, h1, h2, h3⟩
        · exact .inl h1
        · refine .inr ⟨i, h1, h2, ?_⟩
          rw [up_ne _ _ fun e2 => hqp (by rw [e2, hto, hp] at h3; omega)]
          exact h3
    · by_cases e : i = fm j
      · subst e
        exact .inr ⟨p', hp, Nat.le_refl _, hpr⟩
      · rw [up_ne _ _ e]
        rcases h.kp i hi with h1 | ⟨k, h1, h2, h3⟩
        · exact .inl h1
        · exact .inr ⟨k, h1, by omega, h3⟩
    · by_cases e : i = fm j
      · subst e; rw [up_same] at hi1; omega
      · rw [up_ne _ _ e] at hi1; exact h.vi i hi hi1
    · by_cases e : q = j
      · subst e; rw [up_same] at hq1; omega
      · rw [up_ne _ _ e] at hq1; exact h.fo q hq e hq1
    · rw [valT_up c to' j hil, hto, hp, if_pos (by omega), Int.toNat_natCast]
      have := h.su
      rw [st_at hp] at heq
      omega
end
end Go.Proofs.Ytajpngnphbdnnaa.Hung
namespace Go.Proofs.Ytajpngnphbdnnaa.Hung
set_option linter.unusedSimpArgs false
set_option linter.unusedVariables false
section
variable {c : Nat → Nat → Int} {l r : Nat} {gl gr : Nat → Bool} {of to a b gain g0 : Nat → Int} {fm tau : Nat → Nat} {rl rl0 : List Nat} {T : Nat} {A : Int}
theorem Mt.inj (hM : Mt c l r gl gr of to) : ∀ (i i' j : Nat), i < l → i' < l → to i = j → to i' = j → i = i' := fun i i' j hi hi' h h' => by
  rcases hM.t1 i hi with e | ⟨q, e, _, f⟩
  · omega
  · rcases hM.t1 i' hi' with e' | ⟨q', e', _, f'⟩
    · omega
    · have h1 : q = j := by omega
      have h2 : q' = j := by omega
      subst h1 h2; omega
theorem Rd.mono {i : Nat} {k : List Nat} (h : Rd to rl i) (hs : ∀ q ∈ rl, q ∈ k) : Rd to k i := by
  rcases h with h | ⟨p, h, hp⟩
  · exact .inl h
  · exact .inr ⟨p, h, hs p hp⟩
theorem Wy.le (hM : Mt c l r gl gr of to) (hP : Pc c l r gl gr of to a b A) (hW : Wy c l r gl gr to b A gain fm rl tau T) {j : Nat} (hj : j < r) : gain j ≤ 2000000000 := by
  by_cases h : j ∈ rl
  · have := hW.hi j h
    have := hP.b_le hM hj (hW.ed j h).1.2.2.2.1
    have := hP.bA
    omega
  · have := hW.un j hj h; omega
/-- A left glove is reached just if the way up to it gains more than nothing known. -/
theorem Wy.rd (hM : Mt c l r gl gr of to) (hP : Pc c l r gl gr of to a b A) (hW : Wy c l r gl gr to b A gain fm rl tau T) (hc : ∀ i j, c i j ≤ 1000000000) (hr : r ≤ 32) {i : Nat} (hi : i < l) :
    (Rd to rl i ∧ -1000000000 * (rl.length : Int) ≤ stI c gain to i + 1000000000 ∧ -1125899906842624 ≤ stI c gain to i ∧ stI c gain to i ≤ 4000000000) ∨ (¬ Rd to rl i ∧ stI c gain to i < -1125899906842624) := by
  have hn := Int.natCast_nonneg rl.length
  have hl := hW.len
  rcases hM.t1 i hi with h | ⟨p, h, he, _⟩
  · refine .inl ⟨.inl h, ?_⟩
    rw [st_free h]
    omega
  · rw [st_at h]
    have h4 := he.2.2.2.2
    have h5 := hc i p
    have h3 : Wt c i p = 1000000000 - c i p := rfl
    rw [h3]
    by_cases hp : p ∈ rl
    · have h6 := hW.lo p hp
      have h7 := hW.le hM hP he.2.1
      exact .inl ⟨.inr ⟨p, h, hp⟩, by omega, by omega, by omega⟩
    · have := hW.un p he.2.1 hp
      refine .inr ⟨fun hR => ?_, by omega⟩
      rcases hR with e | ⟨q, e, hq⟩
      · omega
      · have : p = q := by omega
        subst this; exact hp hq
def pot (gain : Nat → Int) (r : Nat) : Nat := (sN (fun j => 4000000000 - gain j) r).toNat
theorem pot_up {j : Nat} {x : Int} (hj : j < r) (hle : ∀ q, q < r → gain q ≤ 4000000000) (hx : x ≤ 4000000000) (hlt : gain j < x) : pot (up gain j x) r < pot gain r := by
  have e : (fun q => 4000000000 - up gain j x q) = up (fun q => 4000000000 - gain q) j (4000000000 - x) := by
    funext q
    by_cases e : q = j
    · subst e; rw [up_same, up_same]
    · rw [up_ne _ _ e, up_ne _ _ e]
  unfold pot
  rw [e, sN_up, if_pos hj]
  have h0 : 0 ≤ sN (fun q => 4000000000 - up gain j x q) r := sN_nonneg fun q hq => by
    by_cases e : q = j
    · subst e; rw [up_same]; omega
    · rw [up_ne _ _ e]; have := hle q hq; omega
  rw [e, sN_up, if_pos hj] at h0
  omega
/-- How far one round has come: nothing was bettered and nothing before gains, or something was. -/
def Swp (c : Nat → Nat → Int) (l r : Nat) (gl gr : Nat → Bool) (to g0 : Nat → Int) (rl0 : List Nat) (gain : Nat → Int) (rl : List Nat) (i q : Nat) (ag : Bool) : Prop :=
  (ag = false ∧ gain = g0 ∧ rl = rl0 ∧ ∀ i' j', Ed c l r gl gr i' j' → to i' ≠ j' → Rd to rl i' → (i' < i ∨ i' = i ∧ j' < q) → stI c gain to i' + Wt c i' j' ≤ gain j') ∨ (ag = true ∧ pot gain r < pot g0 r)
theorem Swp.start (g0 : Nat → Int) (rl0 : List Nat) : Swp c l r gl gr to g0 rl0 g0 rl0 0 0 false := .inl ⟨rfl, rfl, rfl, fun _ _ _ _ _ h => by omega⟩
theorem Swp.row {i : Nat} {ag : Bool} (h : Swp c l r gl gr to g0 rl0 gain rl i r ag) : Swp c l r gl gr to g0 rl0 gain rl (i + 1) 0 ag := by
  rcases h with ⟨h1, h2, h3, h4⟩ | h
  · refine .inl ⟨h1, h2, h3, fun i' j' he hne hR ho => h4 i' j' he hne hR ?_⟩
    have := he.2.1
    omega
  · exact .inr h
theorem Swp.skip {i q : Nat} {ag : Bool} (h : Swp c l r gl gr to g0 rl0 gain rl i q ag) (hg : Ed c l r gl gr i q → to i ≠ q → stI c gain to i + Wt c i q ≤ gain q) : Swp c l r gl gr to g0 rl0 gain rl i (q + 1) ag := by
  rcases h with ⟨h1, h2, h3, h4⟩ | h
  · refine .inl ⟨h1, h2, h3, fun i' j' he hne hR ho => ?_⟩
    by_cases e : i' = i ∧ j' = q
    · obtain ⟨rfl, rfl⟩ := e; exact hg he hne
    · exact h4 i' j' he hne hR (by omega)
  · exact .inr h
theorem Swp.take {i q : Nat} {ag : Bool} {x : Int} {k : List Nat} (h : Swp c l r gl gr to g0 rl0 gain rl i q ag) (hq : q < r) (hle : ∀ q, q < r → gain q ≤ 4000000000) (hx : x ≤ 4000000000) (hlt : gain q < x) : Swp c l r gl gr to g0 rl0 (up gain q x) k i (q + 1) true := by
  have := pot_up hq hle hx hlt
  rcases h with ⟨h1, h2, h3, h4⟩ | h
  · subst h2; exact .inr ⟨rfl, this⟩
  · exact .inr ⟨rfl, by omega⟩
end
end Go.Proofs.Ytajpngnphbdnnaa.Hung
namespace Go.Proofs.Ytajpngnphbdnnaa.Abs
set_option linter.unusedSimpArgs false
set_option linter.unusedVariables false
open Go.RowKit
open Go.Proofs.Ytajpngnphbdnnaa.Sim
open Go.Proofs
/-- A row of truths. -/
def BRow (m : AM) (v : Value) (g : Nat → Bool) (n : Nat) : Prop := ∃ a o, Sl v a o n ∧ a < m.length ∧ ∀ k, k < n → Rd m a (o + k) (.bool (g k))
theorem BRow.old {m : AM} {v : Value} {g : Nat → Bool} {n : Nat} (L : AM) (h : BRow m v g n) : BRow (m ++ L) v g n := by
  obtain ⟨a, o, h1, h2, h3⟩ := h
  exact ⟨a, o, h1, by simp; omega, fun k hk => (h3 k hk).old L⟩
theorem fill_step (z y : Int) (k n : Nat) : tab (Hung.up (fun x => if x < k then z else y) k z) n = tab (fun x => if x < k + 1 then z else y) n := tab_congr fun x hx => by
  simp only [Hung.up]
  by_cases e : x = k
  · subst e; rw [if_pos rfl, if_pos (by omega)]
  · rw [if_neg e]
    by_cases c : x < k
    · rw [if_pos c, if_pos (by omega)]
    · rw [if_neg c, if_neg (by omega)]
theorem fill_all (z y : Int) (n : Nat) : tab (fun x => if x < n then z else y) n = tab (fun _ => z) n := tab_congr fun x hx => if_pos hx
end Go.Proofs.Ytajpngnphbdnnaa.Abs
namespace Go.Proofs.Ytajpngnphbdnnaa.Hung
set_option linter.unusedSimpArgs false
set_option linter.unusedVariables false
section
variable {c : Nat → Nat → Int} {l r : Nat} {gl gr : Nat → Bool} {of to a b gain : Nat → Int} {fm tau rk : Nat → Nat} {rl : List Nat} {T : Nat} {A D V : Int} {of' to' : Nat → Int}
/-- The best end of a way among the first k. -/
def Bst (gr : Nat → Bool) (of gain : Nat → Int) (k : Nat) (best : Int) : Prop :=
  (best = -1 ∧ ∀ j, j < k → gr j = false → of j = -1 → gain j ≤ 0) ∨ (∃ q : Nat, best = q ∧ q < k ∧ gr q = false ∧ of q = -1 ∧ 0 < gain q ∧ ∀ j, j < k → gr j = false → of j = -1 → gain j ≤ gain q)
theorem Bst.start (gr : Nat → Bool) (of gain : Nat → Int) : Bst gr of gain 0 (-1) := .inl ⟨rfl, fun _ h => by omega⟩
theorem Bst.skip {k : Nat} {best : Int} (h : Bst gr of gain k best) (hg : gr k = false → of k = -1 → 0 < gain k → 0 ≤ best ∧ gain k ≤ gain best.toNat) : Bst gr of gain (k + 1) best := by
  rcases h with ⟨h1, h2⟩ | ⟨q, h1, h2, h3, h4, h5, h6⟩
  · refine .inl ⟨h1, fun j hj g f => ?_⟩
    rcases Nat.lt_or_ge j k with e | e
    · exact h2 j e g f
    · have : j = k := by omega
      subst this
      rcases Int.lt_or_le 0 (gain j) with h | h
      · have := hg g f h; omega
      · exact h
  · refine .inr ⟨q, h1, by omega, h3, h4, h5, fun j hj g f => ?_⟩
    rcases Nat.lt_or_ge j k with e | e
    · exact h6 j e g f
    · have : j = k := by omega
      subst this
      rcases Int.lt_or_le 0 (gain j) with h | h
      · have := (hg g f h).2
        rw [h1, Int.toNat_natCast] at this; exact this
      · omega
theorem Bst.take {k : Nat} {best : Int} (h : Bst gr of gain k best) (hg : gr k = false) (hf : of k = -1) (hp : 0 < gain k) (hb : best < 0 ∨ gain best.toNat < gain k) : Bst gr of gain (k + 1) (k : Int) := by
  refine .inr ⟨k, rfl, by omega, hg, hf, hp, fun j hj g f => ?_⟩
  rcases Nat.lt_or_ge j k with e | e
  · rcases h with ⟨h1, h2⟩ | ⟨q, h1, h2, h3, h4, h5, h6⟩
    · have := h2 j e g f; omega
    · have := h6 j e g f
      rcases hb with hb | hb
      · omega
      · rw [h1, Int.toNat_natCast] at hb; omega
  · have : j = k := by omega
    subst this; exact Int.le_refl _
/-- Handing on along the way. -/
def Wk (c : Nat → Nat → Int) (l r : Nat) (gl gr : Nat → Bool) (of to a b gain : Nat → Int) (rl : List Nat) (rk : Nat → Nat) (A D V : Int) (of' to' : Nat → Int) (j : Int) : Prop :=
  (∃ q : Nat, j = q ∧ Pg c l r gl gr of to a b gain rl rk A D V of' to' q) ∨ (j = -1 ∧ Mt c l r gl gr of' to' ∧ Pc c l r gl gr of' to' (na A D a b gain to) (nb A D b gain) (A - D) ∧ valT c to' l = V)
theorem Wk.start (hM : Mt c l r gl gr of to) (hP : Pc c l r gl gr of to a b A) (hW : Wy c l r gl gr to b A gain fm rl tau T) (hF : Fx c l r gl gr to gain rl) (rk : Nat → Nat) {q : Nat} (hq : q < r) (hg : gr q = false) (hf : of q = -1) (hp : 0 < gain q) (hmx : ∀ j, j < r → gr j = false → of j = -1 → gain j ≤ gain q) :
    Pc c l r gl gr of to (na A (A - gain q) a b gain to) (nb A (A - gain q) b gain) (A - (A - gain q)) ∧ Wk c l r gl gr of to a b gain rl rk A (A - gain q) (valT c to l + gain q) of to (q : Int) := by
  have hq2 : q ∈ rl := by
    by_cases h : q ∈ rl
    · exact h
    · have := hW.un q hq h; omega
  have hb := (hP.b0 q hq hg).2 hf
  have hhi := hW.hi q hq2
  have hP' := hP.move (D := A - gain q) hM hW hF (by omega) (by omega) fun j hj g f => by
    have h1 := hmx j hj g f
    have h2 := (hP.b0 j hj g).2 f
    unfold xs; omega
  exact ⟨hP', .inl ⟨q, rfl, Pg.start hM hP hP' rk hq2 hq (by unfold xs; omega) hf⟩⟩
theorem Wk.step (hP : Pc c l r gl gr of to a b A) (hW : Wy c l r gl gr to b A gain fm rl tau T) (hF : Fx c l r gl gr to gain rl) (hrk : ∀ j ∈ rl, to (fm j) = -1 ∨ ∃ p : Nat, to (fm j) = p ∧ p ∈ rl ∧ rk p < rk j)
    (hP' : Pc c l r gl gr of to (na A D a b gain to) (nb A D b gain) (A - D)) {q : Nat} (h : Pg c l r gl gr of to a b gain rl rk A D V of' to' q) :
    q < r ∧ fm q < l ∧ to' (fm q) = to (fm q) ∧ Wk c l r gl gr of to a b gain rl rk A D V (up of' q (fm q : Int)) (up to' (fm q) (q : Int)) (to (fm q)) ∧ (to (fm q) = -1 ∨ ∃ p : Nat, to (fm q) = p ∧ rk p < rk q) := by
  obtain ⟨h1, h2, h3, h4⟩ := Pg.step hP hW hF hrk h
  refine ⟨hW.rr q h.jr, h2, h1, ?_⟩
  rcases hrk q h.jr with e | ⟨p, e, _⟩
  · obtain ⟨k1, k2, k3, k4, k5⟩ := h3 e
    refine ⟨.inr ⟨e, k1, ⟨hP'.A0, fun i hi g => ⟨(hP'.aA i hi g).1, fun f => (hP'.aA i hi g).2 (k2 i hi f)⟩, fun j hj g => ⟨(hP'.b0 j hj g).1, fun f => (hP'.b0 j hj g).2 (k3 j hj f)⟩, hP'.fe, k4, hP'.bA⟩, k5⟩, .inl e⟩
  · obtain ⟨k1, k2, k3⟩ := h4 p e
    exact ⟨.inl ⟨p, e, k3⟩, .inr ⟨p, e, k2⟩⟩
end
end Go.Proofs.Ytajpngnphbdnnaa.Hung
namespace Go.Proofs.Ytajpngnphbdnnaa.Hung
set_option linter.unusedSimpArgs false
set_option linter.unusedVariables false
/-- How many of the first n. -/
def cN (p : Nat → Bool) : Nat → Nat
  | 0 => 0
  | n + 1 => cN p n + if p n = true then 1 else 0
theorem cN_filter (p : Nat → Bool) : ∀ n, cN p n = ((List.range n).filter p).length
  | 0 => rfl
  | n + 1 => by
    rw [List.range_succ, List.filter_append, List.length_append, ← cN_filter p n, cN]
    cases h : p n <;> simp [h]
theorem cN_mono {p q : Nat → Bool} : ∀ {n : Nat}, (∀ j, j < n → p j = true → q j = true) → cN p n ≤ cN q n
  | 0, _ => Nat.le_refl _
  | n + 1, h => by
    have := cN_mono (n := n) fun j hj => h j (by omega)
    have := h n (by omega)
    simp only [cN]
    cases hp : p n <;> cases hq : q n <;> simp_all <;> omega
theorem cN_congr {p q : Nat → Bool} {n : Nat} (h : ∀ j, j < n → p j = q j) : cN p n = cN q n :=
  Nat.le_antisymm (cN_mono fun j hj hp => by rw [← h j hj]; exact hp) (cN_mono fun j hj hp => by rw [h j hj]; exact hp)
theorem cN_one {p q : Nat → Bool} {j0 : Nat} (hp : p j0 = false) (hq : q j0 = true) (h : ∀ j, j ≠ j0 → q j = p j) : ∀ {n : Nat}, j0 < n → cN q n = cN p n + 1
  | 0, h0 => by omega
  | n + 1, h0 => by
    simp only [cN]
    by_cases e : j0 = n
    · subst e
      rw [hp, hq, cN_congr (p := q) (q := p) fun j hj => h j (by omega)]; simp
    · rw [cN_one hp hq h (n := n) (by omega), h n (by omega)]; omega
theorem cN_le {p : Nat → Bool} : ∀ n, cN p n ≤ n
  | 0 => Nat.le_refl _
  | n + 1 => by have := cN_le (p := p) n; simp only [cN]; split <;> omega
theorem cN_inj {p q : Nat → Bool} {n m : Nat} (φ : Nat → Nat) (h1 : ∀ j, j < n → p j = true → φ j < m ∧ q (φ j) = true) (h2 : ∀ j j', j < n → j' < n → p j = true → p j' = true → φ j = φ j' → j = j') : cN p n ≤ cN q m := by
  rw [cN_filter, cN_filter]
  have hn : (((List.range n).filter p).map φ).Nodup := by
    unfold List.Nodup
    rw [List.pairwise_map]
    refine List.Pairwise.imp_of_mem ?_ (List.nodup_range.filter p : ((List.range n).filter p).Nodup)
    intro a b ha hb hab e
    rw [List.mem_filter, List.mem_range] at ha hb
    exact hab (h2 a b ha.1 hb.1 ha.2 hb.2 e)
  have := nodup_le hn (k := (List.range m).filter q) fun x hx => by
    rw [List.mem_map] at hx
    obtain ⟨j, hj, rfl⟩ := hx
    rw [List.mem_filter, List.mem_range] at hj ⊢
    exact h1 j hj.1 hj.2
  rwa [List.length_map] at this
abbrev KS := (Nat → Bool) × (Nat → Int)
/-- One left glove looks for a right one. -/
def kL (ok : Nat → Nat → Bool) (rec : Nat → KS → Bool × KS) (i : Nat) : List Nat → KS → Bool × KS
  | [], s => (false, s)
  | j :: js, s => if ok i j = false ∨ s.1 j = true then kL ok rec i js s
    else if s.2 j < 0 then (true, up s.1 j true, up s.2 j (i : Int))
    else match rec (s.2 j).toNat (up s.1 j true, s.2) with
      | (true, s') => (true, s'.1, up s'.2 j (i : Int))
      | (false, s') => kL ok rec i js s'
def kF (ok : Nat → Nat → Bool) (r : Nat) : Nat → Nat → KS → Bool × KS
  | 0, _, s => (false, s)
  | f + 1, i, s => kL ok (kF ok r f) i (List.range r) s
/-- How many are not seen yet. -/
abbrev unN (s : Nat → Bool) (r : Nat) : Nat := cN (fun j => !s j) r
theorem unN_up {s : Nat → Bool} {j r : Nat} (hj : j < r) (h : s j = false) : unN s r = unN (up s j true) r + 1 :=
  cN_one (j0 := j) (by simp [up_same]) (by simp [h]) (fun k hk => by simp [up_ne _ _ hk]) hj
theorem unN_mono {s s' : Nat → Bool} {r : Nat} (h : ∀ j, s j = true → s' j = true) : unN s' r ≤ unN s r :=
  cN_mono fun j _ hp => by
    cases e : s j with
    | false => rfl
    | true => rw [h j e] at hp; cases hp
def KFail (ok : Nat → Nat → Bool) (r i : Nat) (js : List Nat) (s s' : KS) : Prop :=
  s'.2 = s.2 ∧ (∀ j, s.1 j = true → s'.1 j = true) ∧ (∀ j, j ∈ js → ok i j = true → s'.1 j = true) ∧
  ∀ j, s'.1 j = true → s.1 j = false → j < r ∧ 0 ≤ s.2 j ∧ ∀ j', j' < r → ok (s.2 j).toNat j' = true → s'.1 j' = true
theorem kL_fail {ok : Nat → Nat → Bool} {r f i : Nat} (hrec : ∀ i s s', unN s.1 r < f → kF ok r f i s = (false, s') → KFail ok r i (List.range r) s s') :
    ∀ (js : List Nat) (s s' : KS), (∀ j ∈ js, j < r) → unN s.1 r < f + 1 → kL ok (kF ok r f) i js s = (false, s') → KFail ok r i js s s'
  | [], s, s', _, _, h => by
    simp only [kL] at h
    injection h with _ h
    subst h
    exact ⟨rfl, fun _ h => h, fun _ h => by simp at h, fun j h1 h2 => by rw [h1] at h2; cases h2⟩
  | j :: js, s, s', hjs, hf, h => by
    have hj : j < r := hjs j (by simp)
    simp only [kL] at h
    split at h
    · rename_i hc
      obtain ⟨a1, a2, a3, a4⟩ := kL_fail hrec js s s' (fun x hx => hjs x (by simp [hx])) hf h
      refine ⟨a1, a2, fun x hx hok => ?_, a4⟩
      rcases List.mem_cons.1 hx with rfl | hx
      · rcases hc with hc | hc
        · rw [hok] at hc; cases hc
        · exact a2 _ hc
      · exact a3 x hx hok
    · rename_i hc
      have hs : s.1 j = false := by cases e : s.1 j with | false => rfl | true => exact absurd (.inr e) hc
      split at h
      · cases h
      · rename_i hm
        cases hr : kF ok r f (s.2 j).toNat (up s.1 j true, s.2) with
        | mk b s2 =>
          rw [hr] at h
          cases b with
          | true => simp only at h; cases h
          | false =>
            simp only at h
            have hu := unN_up hj hs
            obtain ⟨b1, b2, b3, b4⟩ := hrec _ (up s.1 j true, s.2) s2 (by simp only; omega) hr
            simp only at b1 b2 b3 b4
            have hmono : ∀ x, s.1 x = true → s2.1 x = true := fun x hx => b2 x (by unfold up; split <;> first | rfl | exact hx)
            obtain ⟨a1, a2, a3, a4⟩ := kL_fail hrec js s2 s' (fun x hx => hjs x (by simp [hx])) (by have := unN_mono (r := r) hmono; omega) h
            refine ⟨by rw [a1, b1], fun x hx => a2 x (hmono x hx), fun x hx hok => ?_, fun x h1 h2 => ?_⟩
            · rcases List.mem_cons.1 hx with rfl | hx
              · exact a2 _ (b2 _ (up_same _ _ _))
              · exact a3 x hx hok
            · cases e : s2.1 x with
              | false =>
                have := a4 x h1 e
                rw [b1] at this
                exact this
              | true =>
                by_cases hxj : x = j
                · subst hxj
                  exact ⟨hj, by omega, fun j' hj' hok => a2 _ (b3 j' (List.mem_range.2 hj') hok)⟩
                · obtain ⟨c1, c2, c3⟩ := b4 x e (by rw [up_ne _ _ hxj]; exact h2)
                  exact ⟨c1, c2, fun j' hj' hok => a2 _ (c3 j' hj' hok)⟩
theorem kF_fail {ok : Nat → Nat → Bool} {r : Nat} : ∀ {f i : Nat} {s s' : KS}, unN s.1 r < f → kF ok r f i s = (false, s') → KFail ok r i (List.range r) s s'
  | 0, _, _, _, hf, _ => by omega
  | f + 1, i, s, s', hf, h => kL_fail (fun _ _ _ => kF_fail) (List.range r) s s' (fun _ h => List.mem_range.1 h) hf h
/-- A way from a left glove to a right one without a partner, and the pairing after it. -/
inductive Pth (ok : Nat → Nat → Bool) (r : Nat) : Nat → (Nat → Bool) → (Nat → Int) → (Nat → Int) → Prop
  | one {i j : Nat} {sn : Nat → Bool} {m : Nat → Int} : j < r → sn j = false → ok i j = true → m j < 0 → Pth ok r i sn m (up m j (i : Int))
  | more {i i2 j : Nat} {sn : Nat → Bool} {m m1 : Nat → Int} : j < r → sn j = false → ok i j = true → m j = (i2 : Nat) → Pth ok r i2 (up sn j true) m m1 → Pth ok r i sn m (up m1 j (i : Int))
theorem Pth.wide {ok : Nat → Nat → Bool} {r i : Nat} {sn : Nat → Bool} {m m' : Nat → Int} (h : Pth ok r i sn m m') : ∀ {sn' : Nat → Bool}, (∀ j, sn' j = true → sn j = true) → Pth ok r i sn' m m' := by
  have hf : ∀ {sn sn' : Nat → Bool} {j : Nat}, (∀ j, sn' j = true → sn j = true) → sn j = false → sn' j = false := fun {sn sn' j} hw h0 => by
    cases e : sn' j with
    | false => rfl
    | true => rw [hw j e] at h0; cases h0
  induction h with
  | one h1 h2 h3 h4 => exact fun hw => .one h1 (hf hw h2) h3 h4
  | more h1 h2 h3 h4 _ ih =>
    intro sn' hw
    refine .more h1 (hf hw h2) h3 h4 (ih fun x hx => ?_)
    unfold up at hx ⊢
    split at hx
    · rename_i e; rw [if_pos e]
    · rename_i e; rw [if_neg e]; exact hw x hx
theorem kL_pth {ok : Nat → Nat → Bool} {r f i : Nat} (hrec : ∀ i s s', unN s.1 r < f → kF ok r f i s = (true, s') → Pth ok r i s.1 s.2 s'.2) :
    ∀ (js : List Nat) (s s' : KS), (∀ j ∈ js, j < r) → unN s.1 r < f + 1 → kL ok (kF ok r f) i js s = (true, s') → Pth ok r i s.1 s.2 s'.2
  | [], s, s', _, _, h => by simp only [kL] at h; cases h
  | j :: js, s, s', hjs, hf, h => by
    have hj : j < r := hjs j (by simp)
    simp only [kL] at h
    split at h
    · exact kL_pth hrec js s s' (fun x hx => hjs x (by simp [hx])) hf h
    · rename_i hc
      have hs : s.1 j = false := by cases e : s.1 j with | false => rfl | true => exact absurd (.inr e) hc
      have hok : ok i j = true := by cases e : ok i j with | true => rfl | false => exact absurd (.inl e) hc
      split at h
      · rename_i hm
        injection h with _ h
        subst h
        exact .one hj hs hok hm
      · rename_i hm
        cases hr : kF ok r f (s.2 j).toNat (up s.1 j true, s.2) with
        | mk b s2 =>
          rw [hr] at h
          have hu := unN_up hj hs
          cases b with
          | true =>
            simp only at h
            injection h with _ h
            subst h
            exact .more hj hs hok (i2 := (s.2 j).toNat) (by omega) (hrec _ (up s.1 j true, s.2) s2 (by simp only; omega) hr)
          | false =>
            simp only at h
            obtain ⟨b1, b2, _, _⟩ := kF_fail (s := (up s.1 j true, s.2)) (by simp only; omega) hr
            simp only at b1 b2
            have hmono : ∀ x, s.1 x = true → s2.1 x = true := fun x hx => b2 x (by unfold up; split <;> first | rfl | exact hx)
            have := kL_pth hrec js s2 s' (fun x hx => hjs x (by simp [hx])) (by have := unN_mono (r := r) hmono; omega) h
            rw [b1] at this
            exact this.wide hmono
theorem kF_pth {ok : Nat → Nat → Bool} {r : Nat} : ∀ {f i : Nat} {s s' : KS}, unN s.1 r < f → kF ok r f i s = (true, s') → Pth ok r i s.1 s.2 s'.2
  | 0, _, _, _, hf, _ => by omega
  | f + 1, i, s, s', hf, h => kL_pth (fun _ _ _ => kF_pth) (List.range r) s s' (fun _ h => List.mem_range.1 h) hf h
def InjU (r : Nat) (sn : Nat → Bool) (m : Nat → Int) : Prop := ∀ j j', j < r → j' < r → sn j = false → sn j' = false → 0 ≤ m j → m j = m j' → j = j'
def NinU (r : Nat) (sn : Nat → Bool) (m : Nat → Int) (i : Nat) : Prop := ∀ j, j < r → sn j = false → m j ≠ (i : Nat)
structure PthOk (ok : Nat → Nat → Bool) (r i : Nat) (sn : Nat → Bool) (m m' : Nat → Int) : Prop where
  p1 : ∀ j, sn j = true ∨ r ≤ j → m' j = m j
  p2 : ∀ i' : Nat, (∃ j, j < r ∧ sn j = false ∧ m' j = (i' : Nat)) ↔ (i' = i ∨ ∃ j, j < r ∧ sn j = false ∧ m j = (i' : Nat))
  p3 : InjU r sn m'
  p4 : (∀ j, j < r → sn j = false → 0 ≤ m j → ok (m j).toNat j = true) → ∀ j, j < r → sn j = false → 0 ≤ m' j → ok (m' j).toNat j = true
  p5 : ∃ j0, j0 < r ∧ sn j0 = false ∧ m j0 < 0 ∧ 0 ≤ m' j0 ∧ ∀ j, j ≠ j0 → (0 ≤ m' j ↔ 0 ≤ m j)
  p6 : ∀ j, m' j = m j ∨ 0 ≤ m' j
theorem Pth.good {ok : Nat → Nat → Bool} {r i : Nat} {sn : Nat → Bool} {m m' : Nat → Int} (h : Pth ok r i sn m m') : InjU r sn m → NinU r sn m i → PthOk ok r i sn m m' := by
  induction h with
  | @one i j sn m h1 h2 h3 h4 =>
    intro hi hn
    refine ⟨fun x hx => up_ne _ _ ?_, fun i' => ⟨?_, ?_⟩, ?_, ?_, ⟨j, h1, h2, h4, by rw [up_same]; omega, fun x hx => by rw [up_ne _ _ hx]⟩, fun x => ?_⟩
    · rintro rfl
      rcases hx with hx | hx
      · rw [h2] at hx; cases hx
      · omega
    · rintro ⟨x, x1, x2, x3⟩
      by_cases e : x = j
      · subst e; rw [up_same] at x3; exact .inl (by omega)
      · rw [up_ne _ _ e] at x3; exact .inr ⟨x, x1, x2, x3⟩
    · rintro (rfl | ⟨x, x1, x2, x3⟩)
      · exact ⟨j, h1, h2, up_same _ _ _⟩
      · exact ⟨x, x1, x2, by rw [up_ne _ _ (by rintro rfl; omega)]; exact x3⟩
    · intro x y hx hy sx sy h0 he
      by_cases ex : x = j
      · by_cases ey : y = j
        · omega
        · subst ex; rw [up_same, up_ne _ _ ey] at he
          exact absurd he.symm (hn y hy sy)
      · by_cases ey : y = j
        · subst ey; rw [up_same, up_ne _ _ ex] at he
          exact absurd he (hn x hx sx)
        · rw [up_ne _ _ ex, up_ne _ _ ey] at he
          rw [up_ne _ _ ex] at h0
          exact hi x y hx hy sx sy h0 he
    · intro hk x hx sx h0
      by_cases e : x = j
      · subst e; rw [up_same]; simpa using h3
      · rw [up_ne _ _ e] at h0 ⊢; exact hk x hx sx h0
    · by_cases e : x = j
      · subst e; rw [up_same]; exact .inr (by omega)
      · rw [up_ne _ _ e]; exact .inl rfl
  | @more i i2 j sn m m1 h1 h2 h3 h4 _ ih =>
    intro hi hn
    have hsn : ∀ {x}, x ≠ j → sn x = false → up sn j true x = false := fun hx h0 => by rw [up_ne _ _ hx]; exact h0
    have hsn' : ∀ {x}, up sn j true x = false → x ≠ j ∧ sn x = false := fun {x} h0 => by
      by_cases e : x = j
      · subst e; rw [up_same] at h0; cases h0
      · rw [up_ne _ _ e] at h0; exact ⟨e, h0⟩
    obtain ⟨q1, q2, q3, q4, ⟨j0, z1, z2, z3, z4, z5⟩, q6⟩ := ih (fun x y hx hy sx sy h0 he => hi x y hx hy (hsn' sx).2 (hsn' sy).2 h0 he)
      (fun x hx sx he => (hsn' sx).1 (hi x j hx h1 (hsn' sx).2 h2 (by omega) (by rw [he, h4])))
    have hmj : m1 j = (i2 : Nat) := by rw [q1 j (.inl (up_same _ _ _)), h4]
    have hni : ∀ x, x < r → sn x = false → x ≠ j → m1 x ≠ (i : Nat) := fun x hx sx hxj he => by
      rcases (q2 i).1 ⟨x, hx, hsn hxj sx, he⟩ with e | ⟨y, y1, y2, y3⟩
      · exact hn j h1 h2 (by rw [h4, e])
      · exact hn y y1 (hsn' y2).2 y3
    refine ⟨fun x hx => ?_, fun i' => ⟨?_, ?_⟩, ?_, ?_, ⟨j0, z1, (hsn' z2).2, z3, by rw [up_ne _ _ (hsn' z2).1]; exact z4, fun x hx => ?_⟩, fun x => ?_⟩
    · have hxj : x ≠ j := by
        rintro rfl
        rcases hx with hx | hx
        · rw [h2] at hx; cases hx
        · omega
      rw [up_ne _ _ hxj]
      exact q1 x (by rw [up_ne _ _ hxj]; exact hx)
    · rintro ⟨x, x1, x2, x3⟩
      by_cases e : x = j
      · subst e; rw [up_same] at x3; exact .inl (by omega)
      · rw [up_ne _ _ e] at x3
        rcases (q2 i').1 ⟨x, x1, hsn e x2, x3⟩ with rfl | ⟨y, y1, y2, y3⟩
        · exact .inr ⟨j, h1, h2, h4⟩
        · exact .inr ⟨y, y1, (hsn' y2).2, y3⟩
    · rintro (rfl | ⟨x, x1, x2, x3⟩)
      · exact ⟨j, h1, h2, up_same _ _ _⟩
      · by_cases e : x = j
        · subst e
          obtain ⟨y, y1, y2, y3⟩ := (q2 i').2 (.inl (by omega))
          exact ⟨y, y1, (hsn' y2).2, by rw [up_ne _ _ (hsn' y2).1]; exact y3⟩
        · obtain ⟨y, y1, y2, y3⟩ := (q2 i').2 (.inr ⟨x, x1, hsn e x2, x3⟩)
          exact ⟨y, y1, (hsn' y2).2, by rw [up_ne _ _ (hsn' y2).1]; exact y3⟩
    · intro x y hx hy sx sy h0 he
      by_cases ex : x = j
      · by_cases ey : y = j
        · omega
        · subst ex; rw [up_same, up_ne _ _ ey] at he
          exact absurd he.symm (hni y hy sy ey)
      · by_cases ey : y = j
        · subst ey; rw [up_same, up_ne _ _ ex] at he
          exact absurd he (hni x hx sx ex)
        · rw [up_ne _ _ ex, up_ne _ _ ey] at he
          rw [up_ne _ _ ex] at h0
          exact q3 x y hx hy (hsn ex sx) (hsn ey sy) h0 he
    · intro hk x hx sx h0
      by_cases e : x = j
      · subst e; rw [up_same]; simpa using h3
      · rw [up_ne _ _ e] at h0 ⊢
        exact q4 (fun y hy sy => hk y hy (hsn' sy).2) x hx (hsn e sx) h0
    · by_cases e : x = j
      · subst e; rw [up_same, h4]; simp
      · rw [up_ne _ _ e]; exact z5 x hx
    · by_cases e : x = j
      · subst e; rw [up_same]; exact .inr (by omega)
      · rw [up_ne _ _ e]; exact q6 x
/-- A set of right gloves whose partners know none outside it. -/
def Clo (ok : Nat → Nat → Bool) (r : Nat) (m : Nat → Int) (C : Nat → Bool) : Prop := ∀ j, C j = true → j < r ∧ 0 ≤ m j ∧ ∀ j', j' < r → ok (m j).toNat j' = true → C j' = true
theorem Pth.clo {ok : Nat → Nat → Bool} {r i : Nat} {sn : Nat → Bool} {m m' : Nat → Int} {C : Nat → Bool} (h : Pth ok r i sn m m') : Clo ok r m C → (∀ j, C j = true → m' j = m j) ∧ ∃ j, j < r ∧ ok i j = true ∧ C j = false := by
  induction h with
  | @one i j sn m h1 h2 h3 h4 =>
    intro hC
    have hj : C j = false := by
      cases e : C j with
      | false => rfl
      | true => have := (hC j e).2.1; omega
    exact ⟨fun x hx => up_ne _ _ (by rintro rfl; rw [hj] at hx; cases hx), j, h1, h3, hj⟩
  | @more i i2 j sn m m1 h1 h2 h3 h4 _ ih =>
    intro hC
    obtain ⟨a1, j2, a2, a3, a4⟩ := ih hC
    have hj : C j = false := by
      cases e : C j with
      | false => rfl
      | true =>
        have := (hC j e).2.2 j2 a2 (by rw [h4]; simpa using a3)
        rw [a4] at this; cases this
    exact ⟨fun x hx => by rw [up_ne _ _ (by rintro rfl; rw [hj] at hx; cases hx)]; exact a1 x hx, j, h1, h3, hj⟩
/-- The pairing after the first k left gloves, and its size. -/
def kM (ok : Nat → Nat → Bool) (r : Nat) : Nat → (Nat → Int) × Nat
  | 0 => (fun _ => -1, 0)
  | k + 1 => ((kF ok r (r + 1) k (fun _ => false, (kM ok r k).1)).2.2, (kM ok r k).2 + if (kF ok r (r + 1) k (fun _ => false, (kM ok r k).1)).1 = true then 1 else 0)
structure KInv (ok : Nat → Nat → Bool) (r k : Nat) (m : Nat → Int) (n : Nat) : Prop where
  v : ∀ j, m j = -1 ∨ ∃ i : Nat, m j = (i : Nat) ∧ i < k ∧ j < r ∧ ok i j = true
  inj : ∀ j j', 0 ≤ m j → m j = m j' → j = j'
  cnt : n = cN (fun j => decide (0 ≤ m j)) r
  clo : ∃ C : Nat → Bool, Clo ok r m C ∧ ∀ i, i < k → (∃ j, m j = (i : Nat)) ∨ ∀ j, j < r → ok i j = true → C j = true
theorem kM_inv (ok : Nat → Nat → Bool) (r : Nat) : ∀ k, KInv ok r k (kM ok r k).1 (kM ok r k).2
  | 0 => ⟨fun _ => .inl rfl, fun _ _ h => by simp [kM] at h, by
      have : ∀ n, cN (fun j => decide (0 ≤ (kM ok r 0).1 j)) n = 0 := fun n => by
        induction n with
        | zero => rfl
        | succ n ih => simp only [cN]; rw [ih]; simp [kM]
      rw [this]; rfl, ⟨fun _ => false, fun _ h => (by cases h), fun _ h => absurd h (Nat.not_lt_zero _)⟩⟩
  | k + 1 => by
    obtain ⟨v, inj, cnt, C, hC, hfr⟩ := kM_inv ok r k
    simp only [kM]
    generalize hm : (kM ok r k).1 = m at *
    generalize hn : (kM ok r k).2 = n at *
    cases hk : kF ok r (r + 1) k (fun _ => false, m) with
    | mk b s =>
      have hlt : unN (fun _ => false) r < r + 1 := by have : unN (fun _ => false) r ≤ r := cN_le _; omega
      have hvr : ∀ j, 0 ≤ m j → j < r := fun j h => by
        rcases v j with h1 | ⟨i, _, _, h2, _⟩
        · omega
        · exact h2
      cases b with
      | false =>
        obtain ⟨a1, a2, a3, a4⟩ := kF_fail (s := (fun _ => false, m)) hlt hk
        simp only at a1 a2 a3 a4 ⊢
        rw [a1]
        refine ⟨fun j => ?_, inj, by simpa using cnt, fun j => C j || s.1 j, fun j hj => ?_, fun i hi => ?_⟩
        · rcases v j with h | ⟨i, h1, h2, h3⟩
          · exact .inl h
          · exact .inr ⟨i, h1, by omega, h3⟩
        · simp only [Bool.or_eq_true] at hj ⊢
          cases e : C j with
          | true =>
            obtain ⟨c1, c2, c3⟩ := hC j e
            exact ⟨c1, c2, fun j' h1 h2 => .inl (c3 j' h1 h2)⟩
          | false =>
            rw [e] at hj
            obtain ⟨c1, c2, c3⟩ := a4 j (by simpa using hj) trivial
            exact ⟨c1, c2, fun j' h1 h2 => .inr (c3 j' h1 h2)⟩
        · simp only [Bool.or_eq_true]
          by_cases e : i = k
          · subst e
            exact .inr fun j hj hok => .inr (a3 j (List.mem_range.2 hj) hok)
          · rcases hfr i (by omega) with h | h
            · exact .inl h
            · exact .inr fun j hj hok => .inl (h j hj hok)
      | true =>
        have hp := kF_pth (s := (fun _ => false, m)) hlt hk
        simp only at hp ⊢
        have hg := hp.good (fun x y _ _ _ _ h0 he => inj x y h0 he) (fun x _ _ he => by
          rcases v x with h | ⟨i, h1, h2, _⟩
          · omega
          · omega)
        obtain ⟨g1, j0, _⟩ := hp.clo hC
        obtain ⟨q1, q2, q3, q4, ⟨j0, z1, z2, z3, z4, z5⟩, q6⟩ := hg
        have hvr' : ∀ j, 0 ≤ s.2 j → j < r := fun j h => by
          rcases Nat.lt_or_ge j r with h1 | h1
          · exact h1
          · have := q1 j (.inr h1)
            exact hvr j (by omega)
        refine ⟨fun j => ?_, fun x y h0 he => q3 x y (hvr' x h0) (hvr' y (by omega)) rfl rfl h0 he, ?_, C, fun j hj => ?_, fun i hi => ?_⟩
        · rcases Nat.lt_or_ge j r with hj | hj
          · by_cases h0 : 0 ≤ s.2 j
            · refine .inr ⟨(s.2 j).toNat, by omega, ?_, hj, q4 (fun x hx _ h => ?_) j hj rfl h0⟩
              · rcases (q2 (s.2 j).toNat).1 ⟨j, hj, rfl, by omega⟩ with e | ⟨x, _, _, e⟩
                · omega
                · rcases v x with h | ⟨i, h1, h2, _⟩
                  · omega
                  · omega
              · rcases v x with h1 | ⟨i, h1, _, _, h2⟩
                · omega
                · rw [h1]; simpa using h2
            · rcases q6 j with h | h
              · rcases v j with h1 | ⟨i, h1, _⟩
                · exact .inl (by omega)
                · omega
              · omega
          · have := q1 j (.inr hj)
            rcases v j with h1 | ⟨i, h1, _, h2, _⟩
            · exact .inl (by omega)
            · omega
        · rw [cN_one (p := fun j => decide (0 ≤ m j)) (j0 := j0) (by simpa using z3) (by simpa using z4) (fun j hj => by simp [z5 j hj]) z1, ← cnt]; simp
        · obtain ⟨c1, c2, c3⟩ := hC j hj
          rw [g1 j hj]
          exact ⟨c1, c2, c3⟩
        · by_cases e : i = k
          · subst e
            obtain ⟨x, _, _, hx⟩ := (q2 i).2 (.inl rfl)
            exact .inl ⟨x, hx⟩
          · rcases hfr i (by omega) with ⟨x, hx⟩ | h
            · obtain ⟨y, _, _, hy⟩ := (q2 i).2 (.inr ⟨x, hvr x (by omega), rfl, hx⟩)
              exact .inl ⟨y, hy⟩
            · exact .inr h
/-- A pairing, by right gloves. -/
def Mch (ok : Nat → Nat → Bool) (l r : Nat) (m : Nat → Int) : Prop := (∀ j, j < r → 0 ≤ m j → m j < (l : Nat) ∧ ok (m j).toNat j = true) ∧ ∀ j j', j < r → j' < r → 0 ≤ m j → m j = m j' → j = j'
/-- No pairing is greater. -/
theorem KInv.max {ok : Nat → Nat → Bool} {r l n : Nat} {m μ : Nat → Int} (h : KInv ok r l m n) (hμ : Mch ok l r μ) : cN (fun j => decide (0 ≤ μ j)) r ≤ n := by
  obtain ⟨v, inj, cnt, C, hC, hfr⟩ := h
  rw [cnt]
  have hvr : ∀ j, 0 ≤ m j → j < r := fun j h => by
    rcases v j with h1 | ⟨i, _, _, h2, _⟩
    · omega
    · exact h2
  have key : ∀ j, j < r → 0 ≤ μ j → ∃ x, x < r ∧ 0 ≤ m x ∧ (C j = true → x = j) ∧ (C j = false → C x = false ∧ m x = μ j) := fun j hj h0 => by
    obtain ⟨k1, k2⟩ := hμ.1 j hj h0
    cases e : C j with
    | true =>
      obtain ⟨_, c2, _⟩ := hC j e
      exact ⟨j, hj, c2, fun _ => rfl, fun h => by cases h⟩
    | false =>
      rcases hfr (μ j).toNat (by omega) with ⟨x, hx⟩ | hx
      · refine ⟨x, hvr x (by omega), by omega, fun h => (by cases h), fun _ => ⟨?_, by omega⟩⟩
        cases ex : C x with
        | false => rfl
        | true =>
          have := (hC x ex).2.2 j hj (by rw [hx, Int.toNat_natCast]; exact k2)
          rw [e] at this; cases this
      · have := hx j hj k2
        rw [e] at this; cases this
  refine cN_inj (fun j => if h : j < r ∧ 0 ≤ μ j then (key j h.1 h.2).choose else 0) (fun j hj hp => ?_) (fun j j' hj hj' hp hp' he => ?_)
  · have h0 : 0 ≤ μ j := by simpa using hp
    rw [dif_pos ⟨hj, h0⟩]
    have := (key j hj h0).choose_spec
    exact ⟨this.1, by simpa using this.2.1⟩
  · have h0 : 0 ≤ μ j := by simpa using hp
    have h0' : 0 ≤ μ j' := by simpa using hp'
    rw [dif_pos ⟨hj, h0⟩, dif_pos ⟨hj', h0'⟩] at he
    obtain ⟨_, _, a1, a2⟩ := (key j hj h0).choose_spec
    obtain ⟨_, _, b1, b2⟩ := (key j' hj' h0').choose_spec
    rw [he] at a1 a2
    cases e : C j with
    | true =>
      cases e' : C j' with
      | true => rw [← a1 e, b1 e']
      | false =>
        have := (b2 e').1
        rw [a1 e, e] at this; cases this
    | false =>
      cases e' : C j' with
      | true =>
        have := (a2 e).1
        rw [b1 e', e'] at this; cases this
      | false => exact hμ.2 j j' hj hj' h0 (by rw [← (a2 e).2, (b2 e').2])
theorem KInv.mch {ok : Nat → Nat → Bool} {r l n : Nat} {m : Nat → Int} (h : KInv ok r l m n) : Mch ok l r m := by
  refine ⟨fun j _ h0 => ?_, fun j j' _ _ h0 he => h.inj j j' h0 he⟩
  rcases h.v j with h1 | ⟨i, h1, h2, _, h3⟩
  · omega
  · rw [h1]; exact ⟨by omega, by simpa using h3⟩
end Go.Proofs.Ytajpngnphbdnnaa.Hung
namespace Go.Proofs.Ytajpngnphbdnnaa.Abs
set_option linter.unusedSimpArgs false
set_option linter.unusedVariables false
open Go.RowKit
open Go.Proofs.Ytajpngnphbdnnaa.Sim
open Go.Proofs
open Hung
/-- The memory in which block p holds what is seen and block q who is paired. -/
def KM (m : AM) (p q r : Nat) (s : KS) : AM := (m.set p (some { cells := bv (tabB s.1 r) })).set q (some { cells := iv (tab s.2 r) })
section
variable {m : AM} {p q r : Nat} {s : KS}
theorem KM.len : (KM m p q r s).length = m.length := by simp [KM]
theorem KM.getp (hp : p < m.length) (hpq : p ≠ q) : (KM m p q r s)[p]? = some (some { cells := bv (tabB s.1 r) }) := by
  unfold KM; rw [List.getElem?_set_ne (Ne.symm hpq)]; simp [hp]
theorem KM.getq (hq : q < m.length) : (KM m p q r s)[q]? = some (some { cells := iv (tab s.2 r) }) := by
  unfold KM; simp [hq]
theorem KM.seen {j : Nat} {b : Bool} (hp : p < m.length) (hpq : p ≠ q) (hj : j < r) (hb : s.1 j = b) : Rd (KM m p q r s) p j (.bool b) :=
  ⟨_, KM.getp hp hpq, by subst hb; have := bv_get (l := tabB s.1 r) (k := j) (by simpa using hj); rwa [tabB_get s.1 hj] at this⟩
theorem KM.mate {j : Nat} {x : Int} (hq : q < m.length) (hj : j < r) (hx : s.2 j = x) : Rd (KM m p q r s) q j (.int .i64 x) :=
  ⟨_, KM.getq hq, by subst hx; have := iv_get (l := tab s.2 r) (k := j) (by simpa using hj); rwa [tab_get s.2 hj] at this⟩
theorem KM.set1 {j : Nat} (hpq : p ≠ q) : (KM m p q r s).set p (some { cells := (bv (tabB s.1 r)).set j (.bool true) }) = KM m p q r (up s.1 j true, s.2) := by
  unfold KM
  rw [List.set_comm _ _ hpq, bv_set, tabB_set, List.set_set, List.set_comm _ _ hpq]
theorem KM.set2 {j : Nat} {x : Int} : (KM m p q r s).set q (some { cells := (iv (tab s.2 r)).set j (.int .i64 x) }) = KM m p q r (s.1, up s.2 j x) := by
  unfold KM
  rw [iv_set, tab_set, List.set_set]
end
section
variable {P : Program} {nt : Nat} {ops : Array Oper} {t : Fm} {m : AM} {K : Fm → AM → Prop} {T : Nat} {pp : String} {af : Array Edge}
theorem Step.kmSeen {x y : Operand} {ty : TypeId} {p q r j : Nat} {s : KS} (hx : evo t x = some (.pointer (some ⟨p, j, none⟩))) (hy : evo t y = some (.bool true)) (hz : szB P ty = some 1) (hp : p < m.length) (hpq : p ≠ q) (hj : j < r) (hK : K t (KM m p q r (up s.1 j true, s.2))) :
    Step P nt ops ⟨none, .store ty x y, T, pp, af, none⟩ t (KM m p q r s) K :=
  Step.storeC hx hy (KM.getp hp hpq) rfl hz rfl rfl (by rw [bv_len, tabB_len]; exact hj) (by rw [← KM.set1 (j := j) hpq] at hK; exact hK)
theorem Step.kmMate {x y : Operand} {ty : TypeId} {p q r j : Nat} {v : Int} {s : KS} (hx : evo t x = some (.pointer (some ⟨q, j, none⟩))) (hy : evo t y = some (.int .i64 v)) (hz : szB P ty = some 1) (hq : q < m.length) (hj : j < r) (hK : K t (KM m p q r (s.1, up s.2 j v))) :
    Step P nt ops ⟨none, .store ty x y, T, pp, af, none⟩ t (KM m p q r s) K :=
  Step.storeC hx hy (KM.getq hq) rfl hz rfl rfl (by rw [iv_len, tab_len]; exact hj) (by rw [← KM.set2 (j := j) (x := v)] at hK; exact hK)
end
/-- Which pairs are looked at. -/
def okc (c : Nat → Nat → Int) (mo : Int) (i j : Nat) : Bool := decide (0 ≤ c i j) && decide (c i j ≤ mo)
theorem okc_no1 {c : Nat → Nat → Int} {mo : Int} {i j : Nat} (h : c i j < 0) : okc c mo i j = false := by
  unfold okc; rw [decide_eq_false (by omega)]; rfl
theorem okc_no2 {c : Nat → Nat → Int} {mo : Int} {i j : Nat} (h : mo < c i j) : okc c mo i j = false := by
  unfold okc; rw [decide_eq_false (p := c i j ≤ mo) (by omega)]; simp
theorem okc_yes {c : Nat → Nat → Int} {mo : Int} {i j : Nat} (h1 : ¬ c i j < 0) (h2 : ¬ mo < c i j) : okc c mo i j = true := by
  unfold okc; rw [decide_eq_true (by omega), decide_eq_true (by omega)]; rfl
def KBd (l : Nat) (m : Nat → Int) : Prop := ∀ j, -1 ≤ m j ∧ m j < (l : Nat)
theorem fromI_cons {k r : Nat} (h : k < r) : fromI k r = k :: fromI (k + 1) r := by
  unfold fromI
  rw [show r - k = r - (k + 1) + 1 by omega]; rfl
theorem fromI_nil {r : Nat} : fromI r r = [] := by unfold fromI; rw [Nat.sub_self]; rfl
theorem fromI_zero (r : Nat) : fromI 0 r = List.range r := by unfold fromI; rw [List.range_eq_range']; rfl
theorem unN_next {s s2 : KS} {ok : Nat → Nat → Bool} {r f i : Nat} (hu : unN s.1 r < f) (h : kF ok r f i s = (false, s2)) : unN s2.1 r ≤ unN s.1 r ∧ s2.2 = s.2 := by
  obtain ⟨h1, h2, _⟩ := kF_fail hu h
  exact ⟨unN_mono h2, h1⟩
theorem KM.app {m : AM} {r : Nat} {x y : Option Blk} {s : KS} : KM (m ++ [x, y]) (m.length + 1) (m.length + 0) r s = m ++ [some { cells := iv (tab s.2 r) }, some { cells := bv (tabB s.1 r) }] := by
  unfold KM
  rw [List.set_append_right _ _ (by omega), List.set_append_right _ _ (by omega)]
  simp
theorem kinv_bd {ok : Nat → Nat → Bool} {r k l n : Nat} {m : Nat → Int} (h : KInv ok r k m n) (hk : k ≤ l) : KBd l m := fun j => by
  rcases h.v j with h1 | ⟨i, h1, h2, _⟩ <;> omega
end Go.Proofs.Ytajpngnphbdnnaa.Abs
namespace Go.Proofs.Ytajpngnphbdnnaa.Abs
set_option linter.unusedSimpArgs false
set_option linter.unusedVariables false
open Go.RowKit
open Go.Proofs.Ytajpngnphbdnnaa.Sim
open Go.Proofs
open Hung
theorem ze27 : zeroB Try.prog 27 = some #[.slice none 0 0] := by kernel_rfl
theorem ze112 : zeroB Try.prog 112 = some #[.nilFunc] := by kernel_rfl
section
variable {m : AM} {p q r : Nat} {s : KS}
theorem KM.self (h1 : m[p]? = some (some { cells := bv (tabB s.1 r) })) (h2 : m[q]? = some (some { cells := iv (tab s.2 r) })) : KM m p q r s = m := by
  have e : ∀ {a : Nat} {x : Option Blk}, m[a]? = some x → m.set a x = m := fun {a x} h => by
    apply List.ext_getElem?
    intro i
    by_cases e : i = a
    · subst e; rw [List.getElem?_set_self (List.getElem?_eq_some_iff.1 h).1, h]
    · rw [List.getElem?_set_ne (Ne.symm e)]
  unfold KM
  rw [e h1, e h2]
theorem KM.ne {a : Nat} (h1 : a ≠ p) (h2 : a ≠ q) : (KM m p q r s)[a]? = m[a]? := by
  unfold KM
  rw [List.getElem?_set_ne (Ne.symm h2), List.getElem?_set_ne (Ne.symm h1)]
theorem KM.pre {N : AM} (h1 : m.length ≤ p) (h2 : m.length ≤ q) : ∃ N', KM (m ++ N) p q r s = m ++ N' := by
  unfold KM
  obtain ⟨N1, e1⟩ := pre_set (m := m) (N := N) (p := p) (x := some { cells := bv (tabB s.1 r) }) h1
  rw [e1]
  exact pre_set h2
end
section
variable {P : Program} {nt : Nat} {ops : Array Oper} {t : Fm} {m : AM} {K : Fm → AM → Prop} {T : Nat} {pp : String} {af : Array Edge}
/-- A variable of one cell is set. -/
theorem Step.storeV {x y : Operand} {ty : TypeId} {a : Nat} {v0 v : Value} {M2 : AM} (hx : evo t x = some (.pointer (some ⟨a, 0, none⟩))) (hy : evo t y = some v) (hb : m[a]? = some (some { cells := [v0] })) (hz : szB P ty = some 1) (hc : v.cells = #[v]) (h1 : v.oneCell' = true) (hM : m.set a (some { cells := [v] }) = M2) (hK : K t M2) :
    Step P nt ops ⟨none, .store ty x y, T, pp, af, none⟩ t m K :=
  Step.storeC hx hy hb rfl hz hc h1 (by simp) (by subst hM; exact hK)
end
theorem rd_at {m : AM} {a o : Nat} {v : Value} {b : Blk} (h : m[a]? = some (some b)) (hv : b.cells[o]? = some v) : Rd m a o v := ⟨b, h, hv⟩
set_option maxHeartbeats 4000000 in
set_option maxRecDepth 100000 in
theorem find_ok {m0 m : AM} {tv : Value} {c : Nat → Nat → Int} {l r p q a1 a2 a3 a4 a5 : Nat} {mo : Int} (hp : p < m.length) (hq : q < m.length) (hpq : p ≠ q) (hl32 : l ≤ 32) (hr32 : r ≤ 32) (hm : ∀ s, ∃ N, KM m p q r s = m0 ++ N) (hT : Tab m0 tv c l r)
    (h1 : ∀ s, Rd (KM m p q r s) a1 0 tv) (h2 : ∀ s, Rd (KM m p q r s) a2 0 (.int .i64 mo)) (h3 : ∀ s, Rd (KM m p q r s) a3 0 (.slice (some ⟨p, 0, none⟩) r r)) (h4 : ∀ s, Rd (KM m p q r s) a4 0 (.slice (some ⟨q, 0, none⟩) r r))
    (h5 : ∀ s, Rd (KM m p q r s) a5 0 (.func (.func 97) #[] #[.pointer (some ⟨a1, 0, none⟩), .pointer (some ⟨a2, 0, none⟩), .pointer (some ⟨a3, 0, none⟩), .pointer (some ⟨a4, 0, none⟩), .pointer (some ⟨a5, 0, none⟩)])) :
    ∀ (f i : Nat) (s : KS), i < l → unN s.1 r < f → KBd l s.2 → ACall Try.prog 97 #[.int .i64 (i : Nat), .pointer (some ⟨a1, 0, none⟩), .pointer (some ⟨a2, 0, none⟩), .pointer (some ⟨a3, 0, none⟩), .pointer (some ⟨a4, 0, none⟩), .pointer (some ⟨a5, 0, none⟩)] (KM m p q r s) (Ret (.bool (kF (okc c mo) r f i s).1) (KM m p q r (kF (okc c mo) r f i s).2))
  | 0, _, _, _, h, _ => by omega
  | f + 1, i, s, hi, hu, hb => by
    have IH := find_ok (mo := mo) hp hq hpq hl32 hr32 hm hT h1 h2 h3 h4 h5 f
    obtain ⟨a, cv, b, o, rfl, t1, t2, t3, t4, t5, t6, t7⟩ := id hT
    obtain ⟨w, q1, rb, ro, w1, w2, w3⟩ := t7 i hi
    rw [tab_len] at w1 w3
    have g1 : ∀ s, Rd (KM m p q r s) a 0 cv := fun s => by obtain ⟨N, hN⟩ := hm s; rw [hN]; exact t2.old N
    have g2 : ∀ s, Rd (KM m p q r s) b (o + i) w := fun s => by obtain ⟨N, hN⟩ := hm s; rw [hN]; exact q1.old N
    have g3 : ∀ s j, j < r → Rd (KM m p q r s) rb (ro + j) (.int .i64 (c i j)) := fun s j hj => by
      obtain ⟨N, hN⟩ := hm s; rw [hN]
      have := w3 j hj
      rw [tab_get (c i) hj] at this
      exact this.old N
    obtain ⟨b', e, hres⟩ : ∃ b' e, kF (okc c mo) r (f + 1) i s = (b', e) := ⟨_, _, rfl⟩
    rw [hres]
    have h0 : kL (okc c mo) (kF (okc c mo) r f) i (fromI 0 r) s = (b', e) := by rw [fromI_zero]; exact hres
    clear hres
    refine ACall.intro Try.func97 rfl (Nat.le_of_ble_eq_true rfl) ?_
    (repeat (first | (with_reducible refine AWo.cons ?_) | ((with_reducible refine Step.id ?_); first | ((with_reducible apply Step.move); exact rfl; exact rfl) | ((with_reducible apply Step.assign); exact rfl; exact rfl) | ((with_reducible apply Step.load); exact rfl; (focus (decide +kernel)); exact rfl; (focus (first | exact h1 _ | exact g1 _ | exact g2 _))) | ((with_reducible apply Step.ix1); exact rfl; (focus (assumption)); exact rfl; (focus (decide +kernel)); exact rfl; (focus (omega))) | ((with_reducible apply Step.field0); exact rfl; (focus (decide +kernel)); exact rfl) | ((with_reducible apply Step.len); exact rfl; (focus (assumption)); (focus (decide +kernel)); exact rfl) | ((with_reducible apply Step.nilp); exact rfl; exact rfl)) | (with_reducible refine AWo.nil ?_) | ((with_reducible apply AW.seq)) | ((with_reducible apply Then.n)) | ((with_reducible apply AW.regL)) | ((with_reducible apply AW.block))))
    refine AW.loopW (fun u t M => ∃ (k : Nat) (s' : KS), u = r - k ∧ k ≤ r ∧ kL (okc c mo) (kF (okc c mo) r f) i (fromI k r) s' = (b', e) ∧ unN s'.1 r < f + 1 ∧ KBd l s'.2 ∧ M = KM m p q r s' ∧
      t = fr [(0, .int .i64 (i : Nat)), (1, .pointer (some ⟨a1, 0, none⟩)), (2, .pointer (some ⟨a2, 0, none⟩)), (3, .pointer (some ⟨a3, 0, none⟩)), (4, .pointer (some ⟨a4, 0, none⟩)), (5, .pointer (some ⟨a5, 0, none⟩)), (16, w), (17, .int .i64 (r : Nat)), (18, .int .i64 (k : Nat))])
      ⟨_, _, (by repeat (first | exact trivial | (refine And.intro rfl ?_))), 0, s, rfl, Nat.zero_le _, h0, hu, hb, rfl, rfl⟩ ?_
    clear h0 hu hb
    rintro u t M ⟨k, s', rfl, hk, hL, hu, hb, rfl, rfl⟩
    rcases Nat.lt_or_ge k r with hkr | hkr
    · rw [fromI_cons hkr] at hL
      simp only [kL] at hL
      have q5 := g3 s' k hkr
      by_cases hcn : c i k < 0
      · rw [if_pos (.inl (okc_no1 hcn))] at hL
        (repeat (first | (with_reducible refine AWo.cons ?_) | ((with_reducible refine Step.id ?_); first | ((with_reducible apply Step.gdF); exact rfl; exact rfl; (focus (first | rfl | (simp only [decide_eq_true_eq, decide_eq_false_iff_not, Bool.not_eq_true', Bool.not_eq_false', Bool.not_true, Bool.not_false]; first | assumption | omega)))) | ((with_reducible apply Step.move); exact rfl; exact rfl) | ((with_reducible apply Step.assign); exact rfl; exact rfl) | ((with_reducible apply Step.load); exact rfl; (focus (decide +kernel)); exact rfl; (focus (assumption))) | ((with_reducible apply Step.ix1); exact rfl; (focus (assumption)); exact rfl; (focus (decide +kernel)); exact rfl; (focus (omega))) | ((with_reducible apply Step.add); exact rfl; exact rfl; (focus (omega)); exact rfl) | ((with_reducible apply Step.lss); exact rfl; exact rfl; exact rfl) | ((with_reducible apply Step.pickT); exact rfl; exact rfl; exact rfl; exact rfl; (focus (first | rfl | (simp only [decide_eq_true_eq, decide_eq_false_iff_not, Bool.not_eq_true', Bool.not_eq_false', Bool.not_true, Bool.not_false]; first | assumption | omega))))) | (with_reducible refine AWo.nil ?_) | ((with_reducible apply AW.seq)) | ((with_reducible apply Then.n)) | ((with_reducible apply AW.regL)) | ((with_reducible apply AW.block)) | ((with_reducible apply AW.exit)) | ((with_reducible apply InBlk.hit)) | ((with_reducible apply Then.e)) | ((with_reducible apply AW.skip)) | ((with_reducible apply AW.condT); exact rfl; (focus (first | rfl | (simp only [decide_eq_true_eq, decide_eq_false_iff_not, Bool.not_eq_true', Bool.not_eq_false', Bool.not_true, Bool.not_false]; first | assumption | omega))))))
        exact ⟨_, _, by omega, (by repeat (first | exact trivial | (refine And.intro rfl ?_))), k + 1, s', rfl, by omega, hL, hu, hb, rfl, rfl⟩
      by_cases hcm : mo < c i k
      · rw [if_pos (.inl (okc_no2 hcm))] at hL
        (repeat (first | (with_reducible refine AWo.cons ?_) | ((with_reducible refine Step.id ?_); first | ((with_reducible apply Step.gdT); exact rfl; exact rfl; (focus ((simp only [decide_eq_true_eq, decide_eq_false_iff_not, Bool.not_eq_true', Bool.not_eq_false', Bool.not_true, Bool.not_false]; first | assumption | omega)))) | ((with_reducible apply Step.gdF); exact rfl; exact rfl; (focus ((simp only [decide_eq_true_eq, decide_eq_false_iff_not, Bool.not_eq_true', Bool.not_eq_false', Bool.not_true, Bool.not_false]; first | assumption | omega)))) | ((with_reducible apply Step.move); exact rfl; exact rfl) | ((with_reducible apply Step.assign); exact rfl; exact rfl) | ((with_reducible apply Step.load); exact rfl; (focus (decide +kernel)); exact rfl; (focus (first | assumption | exact h2 _))) | ((with_reducible apply Step.ix1); exact rfl; (focus (assumption)); exact rfl; (focus (decide +kernel)); exact rfl; (focus (omega))) | ((with_reducible apply Step.add); exact rfl; exact rfl; (focus (omega)); exact rfl) | ((with_reducible apply Step.lss); exact rfl; exact rfl; exact rfl) | ((with_reducible apply Step.gtr); exact rfl; exact rfl; exact rfl) | ((with_reducible apply Step.pickT); exact rfl; exact rfl; exact rfl; exact rfl; (focus ((simp only [decide_eq_true_eq, decide_eq_false_iff_not, Bool.not_eq_true', Bool.not_eq_false', Bool.not_true, Bool.not_false]; first | assumption | omega)))) | ((with_reducible apply Step.pickF); exact rfl; exact rfl; exact rfl; exact rfl; (focus ((simp only [decide_eq_true_eq, decide_eq_false_iff_not, Bool.not_eq_true', Bool.not_eq_false', Bool.not_true, Bool.not_false]; first | assumption | omega))))) | (with_reducible refine AWo.nil ?_) | ((with_reducible apply AW.seq)) | ((with_reducible apply Then.n)) | ((with_reducible apply AW.regL)) | ((with_reducible apply AW.block)) | ((with_reducible apply AW.exit)) | ((with_reducible apply InBlk.hit)) | ((with_reducible apply Then.e)) | ((with_reducible apply AW.skip)) | ((with_reducible apply AW.condT); exact rfl; (focus (first | rfl | (simp only [decide_eq_true_eq, decide_eq_false_iff_not, Bool.not_eq_true', Bool.not_eq_false', Bool.not_true, Bool.not_false]; first | assumption | omega))))))
        exact ⟨_, _, by omega, (by repeat (first | exact trivial | (refine And.intro rfl ?_))), k + 1, s', rfl, by omega, hL, hu, hb, rfl, rfl⟩
      cases hs : s'.1 k with
      | true =>
        rw [if_pos (.inr hs)] at hL
        have r1 := KM.seen (r := r) hp hpq hkr hs
        (repeat (first | (with_reducible refine AWo.cons ?_) | ((with_reducible refine Step.id ?_); first | ((with_reducible apply Step.gdT); exact rfl; exact rfl; (focus ((simp only [decide_eq_true_eq, decide_eq_false_iff_not, Bool.not_eq_true', Bool.not_eq_false', Bool.not_true, Bool.not_false]; first | assumption | omega)))) | ((with_reducible apply Step.move); exact rfl; exact rfl) | ((with_reducible apply Step.assign); exact rfl; exact rfl) | ((with_reducible apply Step.load); exact rfl; (focus (decide +kernel)); exact rfl; (focus (first | assumption | exact h2 _ | exact h3 _))) | ((with_reducible apply Step.ix1z); exact rfl; (focus (exact Sl.mk (by omega))); exact rfl; (focus (decide +kernel)); exact rfl; (focus (omega))) | ((with_reducible apply Step.ix1); exact rfl; (focus (assumption)); exact rfl; (focus (decide +kernel)); exact rfl; (focus (omega))) | ((with_reducible apply Step.add); exact rfl; exact rfl; (focus (omega)); exact rfl) | ((with_reducible apply Step.lss); exact rfl; exact rfl; exact rfl) | ((with_reducible apply Step.gtr); exact rfl; exact rfl; exact rfl) | ((with_reducible apply Step.pickF); exact rfl; exact rfl; exact rfl; exact rfl; (focus ((simp only [decide_eq_true_eq, decide_eq_false_iff_not, Bool.not_eq_true', Bool.not_eq_false', Bool.not_true, Bool.not_false]; first | assumption | omega))))) | (with_reducible refine AWo.nil ?_) | ((with_reducible apply AW.seq)) | ((with_reducible apply Then.n)) | ((with_reducible apply AW.regL)) | ((with_reducible apply AW.block)) | ((with_reducible apply AW.exit)) | ((with_reducible apply InBlk.hit)) | ((with_reducible apply Then.e)) | ((with_reducible apply AW.skip)) | ((with_reducible apply AW.condT); exact rfl; (focus (first | rfl | (simp only [decide_eq_true_eq, decide_eq_false_iff_not, Bool.not_eq_true', Bool.not_eq_false', Bool.not_true, Bool.not_false]; first | assumption | omega))))))
        exact ⟨_, _, by omega, (by repeat (first | exact trivial | (refine And.intro rfl ?_))), k + 1, s', rfl, by omega, hL, hu, hb, rfl, rfl⟩
      | false =>
        rw [if_neg (by rw [okc_yes hcn hcm, hs]; simp)] at hL
        have r1 := KM.seen (r := r) hp hpq hkr hs
        have hun := unN_up hkr hs
        (repeat (first | (with_reducible refine AWo.cons ?_) | ((with_reducible refine Step.id ?_); first | ((with_reducible apply Step.gdT); exact rfl; exact rfl; (focus ((simp only [decide_eq_true_eq, decide_eq_false_iff_not, Bool.not_eq_true', Bool.not_eq_false', Bool.not_true, Bool.not_false]; first | assumption | omega)))) | ((with_reducible apply Step.move); exact rfl; exact rfl) | ((with_reducible apply Step.assign); exact rfl; exact rfl) | ((with_reducible apply Step.load); exact rfl; (focus (decide +kernel)); exact rfl; (focus (first | assumption | exact h2 _ | exact h3 _))) | ((with_reducible apply Step.ix1z); exact rfl; (focus (exact Sl.mk (by omega))); exact rfl; (focus (decide +kernel)); exact rfl; (focus (omega))) | ((with_reducible apply Step.ix1); exact rfl; (focus (assumption)); exact rfl; (focus (decide +kernel)); exact rfl; (focus (omega))) | ((with_reducible apply Step.lss); exact rfl; exact rfl; exact rfl) | ((with_reducible apply Step.gtr); exact rfl; exact rfl; exact rfl) | ((with_reducible apply Step.pickF); exact rfl; exact rfl; exact rfl; exact rfl; (focus ((simp only [decide_eq_true_eq, decide_eq_false_iff_not, Bool.not_eq_true', Bool.not_eq_false', Bool.not_true, Bool.not_false]; first | assumption | omega))))) | (with_reducible refine AWo.nil ?_) | ((with_reducible apply AW.seq)) | ((with_reducible apply Then.n)) | ((with_reducible apply AW.regL)) | ((with_reducible apply AW.block)) | ((with_reducible apply AW.skip)) | ((with_reducible apply AW.condT); exact rfl; (focus ((simp only [decide_eq_true_eq, decide_eq_false_iff_not, Bool.not_eq_true', Bool.not_eq_false', Bool.not_true, Bool.not_false]; first | assumption | omega)))) | ((with_reducible apply AW.condF); exact rfl; (focus (rfl)))))
        ((with_reducible apply Step.kmSeen); exact rfl; exact rfl; (focus (decide +kernel)); exact hp; exact hpq; exact hkr)
        have r2 : Rd (KM m p q r (up s'.1 k true, s'.2)) q k (.int .i64 (s'.2 k)) := KM.mate hq hkr rfl
        have hbk := hb k
        by_cases hm' : s'.2 k < 0
        · rw [if_pos hm'] at hL
          injection hL with e1 e2
          subst e1 e2
          (repeat (first | (with_reducible refine AWo.cons ?_) | ((with_reducible refine Step.id ?_); first | ((with_reducible apply Step.gdF); exact rfl; exact rfl; (focus ((simp only [decide_eq_true_eq, decide_eq_false_iff_not, Bool.not_eq_true', Bool.not_eq_false', Bool.not_true, Bool.not_false]; first | assumption | omega)))) | ((with_reducible apply Step.move); exact rfl; exact rfl) | ((with_reducible apply Step.load); exact rfl; (focus (decide +kernel)); exact rfl; (focus (first | assumption | exact h4 _))) | ((with_reducible apply Step.ix1z); exact rfl; (focus (exact Sl.mk (by omega))); exact rfl; (focus (decide +kernel)); exact rfl; (focus (omega))) | ((with_reducible apply Step.lss); exact rfl; exact rfl; exact rfl) | ((with_reducible apply Step.pickT); exact rfl; exact rfl; exact rfl; exact rfl; (focus ((simp only [decide_eq_true_eq, decide_eq_false_iff_not, Bool.not_eq_true', Bool.not_eq_false', Bool.not_true, Bool.not_false]; first | assumption | omega))))) | (with_reducible refine AWo.nil ?_) | ((with_reducible apply AW.seq)) | ((with_reducible apply Then.n)) | ((with_reducible apply AW.regL)) | ((with_reducible apply AW.drawL fit); (focus (decide +kernel))) | ((with_reducible apply AW.condT); exact rfl; (focus (rfl)))))
          ((with_reducible apply Step.kmMate); exact rfl; exact rfl; (focus (decide +kernel)); exact hq; exact hkr)
          (repeat (first | (with_reducible refine AWo.cons ?_) | ((with_reducible refine Step.id ?_); ((with_reducible apply Step.assign); exact rfl; exact rfl)) | (with_reducible refine AWo.nil ?_) | ((with_reducible apply AW.seq)) | ((with_reducible apply Then.n)) | ((with_reducible apply AW.regL))))
          (refine AW.ret ?_; (repeat (first | refine Then.r ?_ | refine InBlk.r ?_)))
          exact ⟨_, rfl, rfl, rfl⟩
        · rw [if_neg hm'] at hL
          obtain ⟨i2, hi2⟩ : ∃ i2 : Nat, s'.2 k = (i2 : Nat) := ⟨(s'.2 k).toNat, by omega⟩
          rw [hi2] at hL r2 hbk hm'
          simp only [Int.toNat_natCast] at hL
          have hc := IH i2 (up s'.1 k true, s'.2) (by omega) (by simp only; omega) hb
          cases hr : kF (okc c mo) r f i2 (up s'.1 k true, s'.2) with
          | mk b2 s2 =>
            rw [hr] at hL hc
            cases b2 with
            | true =>
              simp only at hL hc
              injection hL with e1 e2
              subst e1 e2
              (repeat (first | (with_reducible refine AWo.cons ?_) | ((with_reducible refine Step.id ?_); first | ((with_reducible apply Step.gdT); exact rfl; exact rfl; (focus (rfl))) | ((with_reducible apply Step.move); exact rfl; exact rfl) | ((with_reducible apply Step.load); exact rfl; (focus (decide +kernel)); exact rfl; (focus (first | assumption | exact h4 _ | exact h5 _))) | ((with_reducible apply Step.ix1z); exact rfl; (focus (exact Sl.mk (by omega))); exact rfl; (focus (decide +kernel)); exact rfl; (focus (omega))) | ((with_reducible apply Step.lss); exact rfl; exact rfl; exact rfl)) | (with_reducible refine AWo.nil ?_) | ((with_reducible apply AW.seq)) | ((with_reducible apply Then.n)) | ((with_reducible apply AW.drawL fit); (focus (decide +kernel)))))
              ((with_reducible apply Step.call fit); exact rfl; exact rfl; exact Try.func97; exact rfl; exact rfl; exact hc)
              rintro _ _ ⟨rfl, rfl⟩
              (repeat (first | (with_reducible refine AWo.cons ?_) | ((with_reducible refine Step.id ?_); first | ((with_reducible apply Step.move); exact rfl; exact rfl) | ((with_reducible apply Step.load); exact rfl; (focus (decide +kernel)); exact rfl; (focus (exact h4 _))) | ((with_reducible apply Step.ix1z); exact rfl; (focus (exact Sl.mk (by omega))); exact rfl; (focus (decide +kernel)); exact rfl; (focus (omega))) | ((with_reducible apply Step.pickF); exact rfl; exact rfl; exact rfl; exact rfl; (focus (rfl)))) | (with_reducible refine AWo.nil ?_) | ((with_reducible apply AW.seq)) | ((with_reducible apply Then.n)) | ((with_reducible apply AW.regL)) | ((with_reducible apply AW.condT); exact rfl; (focus (rfl)))))
              ((with_reducible apply Step.kmMate); exact rfl; exact rfl; (focus (decide +kernel)); exact hq; exact hkr)
              (repeat (first | (with_reducible refine AWo.cons ?_) | ((with_reducible refine Step.id ?_); ((with_reducible apply Step.assign); exact rfl; exact rfl)) | (with_reducible refine AWo.nil ?_) | ((with_reducible apply AW.seq)) | ((with_reducible apply Then.n)) | ((with_reducible apply AW.regL))))
              (refine AW.ret ?_; (repeat (first | refine Then.r ?_ | refine InBlk.r ?_)))
              exact ⟨_, rfl, rfl, rfl⟩
            | false =>
              simp only at hL hc
              obtain ⟨n1, n2⟩ := unN_next (s := (up s'.1 k true, s'.2)) (by simp only; omega) hr
              simp only at n1 n2
              (repeat (first | (with_reducible refine AWo.cons ?_) | ((with_reducible refine Step.id ?_); first | ((with_reducible apply Step.gdT); exact rfl; exact rfl; (focus (rfl))) | ((with_reducible apply Step.move); exact rfl; exact rfl) | ((with_reducible apply Step.load); exact rfl; (focus (decide +kernel)); exact rfl; (focus (first | assumption | exact h4 _ | exact h5 _))) | ((with_reducible apply Step.ix1z); exact rfl; (focus (exact Sl.mk (by omega))); exact rfl; (focus (decide +kernel)); exact rfl; (focus (omega))) | ((with_reducible apply Step.lss); exact rfl; exact rfl; exact rfl)) | (with_reducible refine AWo.nil ?_) | ((with_reducible apply AW.seq)) | ((with_reducible apply Then.n)) | ((with_reducible apply AW.drawL fit); (focus (decide +kernel)))))
              ((with_reducible apply Step.call fit); exact rfl; exact rfl; exact Try.func97; exact rfl; exact rfl; exact hc)
              rintro _ _ ⟨rfl, rfl⟩
              (repeat (first | (with_reducible refine AWo.cons ?_) | ((with_reducible refine Step.id ?_); first | ((with_reducible apply Step.move); exact rfl; exact rfl) | ((with_reducible apply Step.add); exact rfl; exact rfl; (focus (omega)); exact rfl) | ((with_reducible apply Step.pickF); exact rfl; exact rfl; exact rfl; exact rfl; (focus (rfl)))) | (with_reducible refine AWo.nil ?_) | ((with_reducible apply Then.n)) | ((with_reducible apply AW.regL)) | ((with_reducible apply InBlk.n)) | ((with_reducible apply AW.skip)) | ((with_reducible apply AW.condF); exact rfl; (focus (rfl)))))
              exact ⟨_, _, by omega, (by repeat (first | exact trivial | (refine And.intro rfl ?_))), k + 1, s2, rfl, by omega, hL, by omega, by rw [n2]; exact hb, rfl, rfl⟩
    · obtain rfl : k = r := by omega
      rw [fromI_nil] at hL
      simp only [kL] at hL
      injection hL with e1 e2
      subst e1 e2
      (repeat (first | (with_reducible refine AWo.cons ?_) | ((with_reducible refine Step.id ?_); first | ((with_reducible apply Step.assign); exact rfl; exact rfl) | ((with_reducible apply Step.lss); exact rfl; exact rfl; exact rfl)) | (with_reducible refine AWo.nil ?_) | ((with_reducible apply AW.seq)) | ((with_reducible apply Then.n)) | ((with_reducible apply AW.regL)) | ((with_reducible apply AW.exit)) | ((with_reducible apply InBlk.hit)) | ((with_reducible apply Then.e)) | ((with_reducible apply AW.condF); exact rfl; (focus ((simp only [decide_eq_true_eq, decide_eq_false_iff_not, Bool.not_eq_true', Bool.not_eq_false', Bool.not_true, Bool.not_false]; first | assumption | omega))))))
      (refine AW.ret ?_; (repeat (first | refine Then.r ?_ | refine InBlk.r ?_)))
      exact ⟨_, rfl, rfl, rfl⟩
set_option maxRecDepth 100000 in
theorem size_ok {m : AM} {v : Value} {mt : Nat → Int} {n : Nat} (h : Ints m v (tab mt n)) (hn : n ≤ 100000) : ACall Try.prog 69 #[v] m (Ret (.int .i64 (cN (fun j => decide (0 ≤ mt j)) n : Nat)) m) := by
  obtain ⟨a, o, h1, h2, h3⟩ := id h
  rw [tab_len] at h1 h3
  refine ACall.start Try.func69 rfl rfl ?_
  (repeat (first | (with_reducible refine AWo.cons ?_) | ((with_reducible refine Step.id ?_); first | ((with_reducible apply Step.move); exact rfl; exact rfl) | ((with_reducible apply Step.assign); exact rfl; exact rfl) | ((with_reducible apply Step.len); exact rfl; (focus (assumption)); (focus (decide +kernel)); exact rfl)) | (with_reducible refine AWo.nil ?_) | ((with_reducible apply AW.seq)) | ((with_reducible apply Then.n)) | ((with_reducible apply AW.regL)) | ((with_reducible apply AW.block))))
  refine AW.loopT (fun rk t L => ∃ k : Nat, rk = n - k ∧ k ≤ n ∧ L = [] ∧ t = [(3, .int .i64 (cN (fun j => decide (0 ≤ mt j)) k : Nat)), (6, v), (7, .int .i64 (n : Nat)), (8, .int .i64 (k : Nat))]) ⟨_, _, _, (Or.inl ⟨rfl, (by repeat (first | exact trivial | (refine And.intro rfl ?_)))⟩), 0, rfl, Nat.zero_le _, rfl, rfl⟩ ?_
  rintro rk t L ⟨k, rfl, hk, rfl, rfl⟩
  have hc : cN (fun j => decide (0 ≤ mt j)) k ≤ k := cN_le _
  rcases Nat.lt_or_ge k n with hlt | hge
  · have r1 := h3 k hlt
    rw [tab_get mt hlt] at r1
    have e : cN (fun j => decide (0 ≤ mt j)) (k + 1) = cN (fun j => decide (0 ≤ mt j)) k + if decide (0 ≤ mt k) = true then 1 else 0 := rfl
    by_cases h0 : 0 ≤ mt k
    · rw [if_pos (by simpa using h0)] at e
      (repeat (first | (with_reducible refine AWo.cons ?_) | ((with_reducible refine Step.id ?_); first | ((with_reducible apply Step.move); exact rfl; exact rfl) | ((with_reducible apply Step.assign); exact rfl; exact rfl) | ((with_reducible apply Step.load); exact rfl; (focus (decide +kernel)); exact rfl; (focus (exact r1.old _))) | ((with_reducible apply Step.ix1); exact rfl; (focus (assumption)); exact rfl; (focus (decide +kernel)); exact rfl; (focus (omega))) | ((with_reducible apply Step.add); exact rfl; exact rfl; (focus (omega)); exact rfl) | ((with_reducible apply Step.lss); exact rfl; exact rfl; exact rfl) | ((with_reducible apply Step.geq); exact rfl; exact rfl; exact rfl)) | (with_reducible refine AWo.nil ?_) | ((with_reducible apply AW.seq)) | ((with_reducible apply Then.n)) | ((with_reducible apply AW.regL)) | ((with_reducible apply AW.block)) | ((with_reducible apply InBlk.n)) | ((with_reducible apply AW.skip)) | ((with_reducible apply AW.condT); exact rfl; (focus ((simp only [decide_eq_true_eq, decide_eq_false_iff_not, Bool.not_eq_true', Bool.not_eq_false', Bool.not_true, Bool.not_false]; first | assumption | omega))))))
      exact ⟨_, [(3, .int .i64 ((cN (fun j => decide (0 ≤ mt j)) k : Nat) + 1)), (6, v), (7, .int .i64 (n : Nat)), (8, .int .i64 ((k + 1 : Nat) : Int))], _, by omega, (Or.inl ⟨rfl, (by repeat (first | exact trivial | (refine And.intro rfl ?_)))⟩), k + 1, rfl, by omega, rfl, by rw [e, Int.natCast_add]; rfl⟩
    · rw [if_neg (by simpa using h0)] at e
      (repeat (first | (with_reducible refine AWo.cons ?_) | ((with_reducible refine Step.id ?_); first | ((with_reducible apply Step.move); exact rfl; exact rfl) | ((with_reducible apply Step.assign); exact rfl; exact rfl) | ((with_reducible apply Step.load); exact rfl; (focus (decide +kernel)); exact rfl; (focus (exact r1.old _))) | ((with_reducible apply Step.ix1); exact rfl; (focus (assumption)); exact rfl; (focus (decide +kernel)); exact rfl; (focus (omega))) | ((with_reducible apply Step.add); exact rfl; exact rfl; (focus (omega)); exact rfl) | ((with_reducible apply Step.lss); exact rfl; exact rfl; exact rfl) | ((with_reducible apply Step.geq); exact rfl; exact rfl; exact rfl)) | (with_reducible refine AWo.nil ?_) | ((with_reducible apply AW.seq)) | ((with_reducible apply Then.n)) | ((with_reducible apply AW.regL)) | ((with_reducible apply AW.block)) | ((with_reducible apply InBlk.n)) | ((with_reducible apply AW.skip)) | ((with_reducible apply AW.condT); exact rfl; (focus ((simp only [decide_eq_true_eq, decide_eq_false_iff_not, Bool.not_eq_true', Bool.not_eq_false', Bool.not_true, Bool.not_false]; first | assumption | omega)))) | ((with_reducible apply AW.condF); exact rfl; (focus ((simp only [decide_eq_true_eq, decide_eq_false_iff_not, Bool.not_eq_true', Bool.not_eq_false', Bool.not_true, Bool.not_false]; first | assumption | omega))))))
      exact ⟨_, [(3, .int .i64 (cN (fun j => decide (0 ≤ mt j)) k : Nat)), (6, v), (7, .int .i64 (n : Nat)), (8, .int .i64 ((k + 1 : Nat) : Int))], _, by omega, (Or.inl ⟨rfl, (by repeat (first | exact trivial | (refine And.intro rfl ?_)))⟩), k + 1, rfl, by omega, rfl, by rw [e]; rfl⟩
  · obtain rfl : k = n := by omega
    (repeat (first | (with_reducible refine AWo.cons ?_) | ((with_reducible refine Step.id ?_); first | ((with_reducible apply Step.move); exact rfl; exact rfl) | ((with_reducible apply Step.assign); exact rfl; exact rfl) | ((with_reducible apply Step.lss); exact rfl; exact rfl; exact rfl)) | (with_reducible refine AWo.nil ?_) | ((with_reducible apply AW.seq)) | ((with_reducible apply Then.n)) | ((with_reducible apply AW.regL)) | ((with_reducible apply AW.exit)) | ((with_reducible apply InBlk.hit)) | ((with_reducible apply Then.e)) | ((with_reducible apply AW.condF); exact rfl; (focus ((simp only [decide_eq_true_eq, decide_eq_false_iff_not, Bool.not_eq_true', Bool.not_eq_false', Bool.not_true, Bool.not_false]; first | assumption | omega))))))
    (refine AW.retD (l := [(2, _)]) (by repeat (first | exact trivial | (refine And.intro ⟨rfl, by (exact .int _ _)⟩ ?_))) ?_; (repeat (first | refine Then.r ?_ | refine InBlk.r ?_)))
    exact ⟨_, rfl, rfl, rfl⟩
set_option maxHeartbeats 4000000 in
set_option maxRecDepth 100000 in
theorem matched_ok {m : AM} {tv : Value} {c : Nat → Nat → Int} {l r : Nat} {mo : Int} (hT : Tab m tv c l r) (hl32 : l ≤ 32) (hr32 : r ≤ 32) :
    ACall Try.prog 70 #[tv, .int .i64 mo] m (More (fun M v => Ints M v (tab (kM (okc c mo) r l).1 r)) m) := by
  obtain ⟨a, cv, b, o, rfl, t1, t2, t3, t4, t5, t6, t7⟩ := id hT
  have wt : Low m.length (.pointer (some ⟨a, 0, none⟩)) := .ptr t1
  refine ACall.start Try.func70 rfl rfl ?_
  (repeat (first | (with_reducible refine AWo.cons ?_) | ((with_reducible refine Step.id ?_); first | ((with_reducible apply Step.move); exact rfl; exact rfl) | ((with_reducible apply Step.assign); exact rfl; exact rfl) | ((with_reducible apply Step.load); exact rfl; (focus (decide +kernel)); exact rfl; (focus (first | exact t4.old _ | exact Rd.new rfl rfl))) | ((with_reducible apply Step.field (k := 2)); exact rfl; (focus (decide +kernel)); exact rfl) | ((with_reducible apply Step.len); exact rfl; (focus (exact Sl.mk (by omega))); (focus (decide +kernel)); exact rfl) | ((with_reducible apply Step.nilp); exact rfl; exact rfl) | ((with_reducible apply Step.box 0); exact rfl; exact rfl; (focus (kernel_rfl)); exact rfl; (focus (first | (simp only [List.nil_append, List.cons_append, List.set_cons_zero, List.set_cons_succ, iv_set, bv_set, iv_rep, bv_rep]; done) | (simp only [List.nil_append, List.cons_append, List.set_cons_zero, List.set_cons_succ, iv_set, bv_set, iv_rep, bv_rep]; rfl) | rfl))) | ((with_reducible apply Step.box 1); exact rfl; exact rfl; (focus (kernel_rfl)); exact rfl; (focus (first | (simp only [List.nil_append, List.cons_append, List.set_cons_zero, List.set_cons_succ, iv_set, bv_set, iv_rep, bv_rep]; done) | (simp only [List.nil_append, List.cons_append, List.set_cons_zero, List.set_cons_succ, iv_set, bv_set, iv_rep, bv_rep]; rfl) | rfl))) | ((with_reducible apply Step.make1 2); exact rfl; exact rfl; exact rfl; exact el27; (focus (omega)); exact rfl; (focus (first | (simp only [List.nil_append, List.cons_append, List.set_cons_zero, List.set_cons_succ, iv_set, bv_set, iv_rep, bv_rep]; done) | (simp only [List.nil_append, List.cons_append, List.set_cons_zero, List.set_cons_succ, iv_set, bv_set, iv_rep, bv_rep]; rfl) | rfl))) | ((with_reducible apply Step.alloc 3); exact rfl; exact ze27; exact rfl; (focus (first | (simp only [List.nil_append, List.cons_append, List.set_cons_zero, List.set_cons_succ, iv_set, bv_set, iv_rep, bv_rep]; done) | (simp only [List.nil_append, List.cons_append, List.set_cons_zero, List.set_cons_succ, iv_set, bv_set, iv_rep, bv_rep]; rfl) | rfl))) | ((with_reducible apply Step.store (k := 3)); exact rfl; exact rfl; exact rfl; exact rfl; (focus (decide +kernel)); exact rfl; exact rfl; (focus (first | omega | (simp [iv, bv]; done) | (simp [iv, bv]; omega))); (focus (first | (simp only [List.nil_append, List.cons_append, List.set_cons_zero, List.set_cons_succ, iv_set, bv_set, iv_rep, bv_rep]; done) | (simp only [List.nil_append, List.cons_append, List.set_cons_zero, List.set_cons_succ, iv_set, bv_set, iv_rep, bv_rep]; rfl) | rfl)))) | (with_reducible refine AWo.nil ?_) | ((with_reducible apply AW.seq)) | ((with_reducible apply Then.n)) | ((with_reducible apply AW.regL)) | ((with_reducible apply AW.block))))
  refine AW.loopT (fun rk t L => ∃ k : Nat, rk = r - k ∧ k ≤ r ∧ L = [some { cells := [.pointer (some ⟨a, 0, none⟩)] }, some { cells := [.int .i64 mo] }, some { cells := iv (tab (fun x => if x < k then -1 else 0) r) }, some { cells := [.slice (some ⟨m.length + 2, 0, none⟩) r r] }] ∧
      t = [(2, .pointer (some ⟨m.length + 0, 0, none⟩)), (3, .pointer (some ⟨m.length + 1, 0, none⟩)), (5, .pointer (some ⟨m.length + 3, 0, none⟩)), (16, .int .i64 (r : Nat)), (17, .int .i64 (k : Nat))])
    ⟨_, _, [some { cells := [.pointer (some ⟨a, 0, none⟩)] }, some { cells := [.int .i64 mo] }, some { cells := iv (List.replicate r 0) }, some { cells := [.slice (some ⟨m.length + 2, 0, none⟩) r r] }], (Or.inl ⟨rfl, (by repeat (first | exact trivial | (refine And.intro rfl ?_)))⟩), 0, rfl, Nat.zero_le _, by simp only [tab_rep]; simp, rfl⟩ ?_
  rintro rk t L ⟨k, rfl, hk, rfl, rfl⟩
  rcases Nat.lt_or_ge k r with hkl | hkg
  · (repeat (first | (with_reducible refine AWo.cons ?_) | ((with_reducible refine Step.id ?_); first | ((with_reducible apply Step.move); exact rfl; exact rfl) | ((with_reducible apply Step.assign); exact rfl; exact rfl) | ((with_reducible apply Step.load); exact rfl; (focus (decide +kernel)); exact rfl; (focus (exact Rd.new rfl rfl))) | ((with_reducible apply Step.ix1z); exact rfl; (focus (exact Sl.mk (by omega))); exact rfl; (focus (decide +kernel)); exact rfl; (focus (omega))) | ((with_reducible apply Step.add); exact rfl; exact rfl; (focus (omega)); exact rfl) | ((with_reducible apply Step.lss); exact rfl; exact rfl; exact rfl) | ((with_reducible apply Step.store (k := 2)); exact rfl; exact rfl; exact rfl; exact rfl; (focus (decide +kernel)); exact rfl; exact rfl; (focus (first | omega | (simp [iv, bv]; done) | (simp [iv, bv]; omega))); (focus (first | (simp only [List.nil_append, List.cons_append, List.set_cons_zero, List.set_cons_succ, iv_set, bv_set, iv_rep, bv_rep]; done) | (simp only [List.nil_append, List.cons_append, List.set_cons_zero, List.set_cons_succ, iv_set, bv_set, iv_rep, bv_rep]; rfl) | rfl)))) | (with_reducible refine AWo.nil ?_) | ((with_reducible apply AW.seq)) | ((with_reducible apply Then.n)) | ((with_reducible apply AW.regL)) | ((with_reducible apply AW.block)) | ((with_reducible apply InBlk.n)) | ((with_reducible apply AW.skip)) | ((with_reducible apply AW.condT); exact rfl; (focus ((simp only [decide_eq_true_eq, decide_eq_false_iff_not, Bool.not_eq_true', Bool.not_eq_false', Bool.not_true, Bool.not_false]; first | assumption | omega))))))
    exact ⟨_, _, [some { cells := [.pointer (some ⟨a, 0, none⟩)] }, some { cells := [.int .i64 mo] }, some { cells := iv (tab (fun x => if x < k + 1 then -1 else 0) r) }, some { cells := [.slice (some ⟨m.length + 2, 0, none⟩) r r] }], by omega, by rw [tab_set, fill_step]; exact (Or.inl ⟨rfl, (by repeat (first | exact trivial | (refine And.intro rfl ?_)))⟩), k + 1, rfl, by omega, rfl, rfl⟩
  obtain rfl : k = r := by omega
  rw [fill_all]
  (repeat (first | (with_reducible refine AWo.cons ?_) | ((with_reducible refine Step.id ?_); first | ((with_reducible apply Step.move); exact rfl; exact rfl) | ((with_reducible apply Step.load); exact rfl; (focus (decide +kernel)); exact rfl; (focus (first | exact t3.old _ | exact Rd.new rfl rfl))) | ((with_reducible apply Step.field (k := 1)); exact rfl; (focus (decide +kernel)); exact rfl) | ((with_reducible apply Step.lss); exact rfl; exact rfl; exact rfl) | ((with_reducible apply Step.nilp); exact rfl; exact rfl) | ((with_reducible apply Step.fn); exact rfl; exact rfl; exact rfl) | ((with_reducible apply Step.alloc 4); exact rfl; exact ze27; exact rfl; (focus (first | (simp only [List.nil_append, List.cons_append, List.set_cons_zero, List.set_cons_succ, iv_set, bv_set, iv_rep, bv_rep]; done) | (simp only [List.nil_append, List.cons_append, List.set_cons_zero, List.set_cons_succ, iv_set, bv_set, iv_rep, bv_rep]; rfl) | rfl))) | ((with_reducible apply Step.alloc 5); exact rfl; exact ze112; exact rfl; (focus (first | (simp only [List.nil_append, List.cons_append, List.set_cons_zero, List.set_cons_succ, iv_set, bv_set, iv_rep, bv_rep]; done) | (simp only [List.nil_append, List.cons_append, List.set_cons_zero, List.set_cons_succ, iv_set, bv_set, iv_rep, bv_rep]; rfl) | rfl))) | ((with_reducible apply Step.store (k := 5)); exact rfl; exact rfl; exact rfl; exact rfl; (focus (decide +kernel)); exact rfl; exact rfl; (focus (first | omega | (simp [iv, bv]; done) | (simp [iv, bv]; omega))); (focus (first | (simp only [List.nil_append, List.cons_append, List.set_cons_zero, List.set_cons_succ, iv_set, bv_set, iv_rep, bv_rep]; done) | (simp only [List.nil_append, List.cons_append, List.set_cons_zero, List.set_cons_succ, iv_set, bv_set, iv_rep, bv_rep]; rfl) | rfl)))) | (with_reducible refine AWo.nil ?_) | ((with_reducible apply AW.seq)) | ((with_reducible apply Then.n)) | ((with_reducible apply AW.regL)) | ((with_reducible apply AW.block)) | ((with_reducible apply AW.exit)) | ((with_reducible apply InBlk.hit)) | ((with_reducible apply Then.e)) | ((with_reducible apply AW.condF); exact rfl; (focus ((simp only [decide_eq_true_eq, decide_eq_false_iff_not, Bool.not_eq_true', Bool.not_eq_false', Bool.not_true, Bool.not_false]; first | assumption | omega))))))
  refine AW.loopW (fun rk t M => ∃ (i : Nat) (N : AM) (v4 : Value), rk = l - i ∧ i ≤ l ∧ M = m ++ N ∧ (m ++ N)[m.length + 0]? = some (some { cells := [.pointer (some ⟨a, 0, none⟩)] }) ∧ (m ++ N)[m.length + 1]? = some (some { cells := [.int .i64 mo] }) ∧ (m ++ N)[m.length + 2]? = some (some { cells := iv (tab (kM (okc c mo) k i).1 k) }) ∧
      (m ++ N)[m.length + 3]? = some (some { cells := [.slice (some ⟨m.length + 2, 0, none⟩) k k] }) ∧ (m ++ N)[m.length + 4]? = some (some { cells := [v4] }) ∧
      (m ++ N)[m.length + 5]? = some (some { cells := [.func (.func 97) #[] #[.pointer (some ⟨m.length + 0, 0, none⟩), .pointer (some ⟨m.length + 1, 0, none⟩), .pointer (some ⟨m.length + 4, 0, none⟩), .pointer (some ⟨m.length + 3, 0, none⟩), .pointer (some ⟨m.length + 5, 0, none⟩)]] }) ∧
      t = fr [(2, .pointer (some ⟨m.length + 0, 0, none⟩)), (5, .pointer (some ⟨m.length + 3, 0, none⟩)), (7, .pointer (some ⟨m.length + 4, 0, none⟩)), (8, .pointer (some ⟨m.length + 5, 0, none⟩)), (28, .int .i64 (l : Nat)), (29, .int .i64 (i : Nat))])
    ⟨_, _, (by repeat (first | exact trivial | (refine And.intro rfl ?_))), 0, _, _, rfl, Nat.zero_le _, rfl, by rw [get_app]; rfl, by rw [get_app]; rfl, by rw [get_app]; rfl, by rw [get_app]; rfl, by rw [get_app]; rfl, by rw [get_app]; rfl, rfl⟩ ?_
  rintro rk t M ⟨i, N, v4, rfl, hi, rfl, n0, n1, n2, n3, n4, n5, rfl⟩
  have hinv := kM_inv (okc c mo) k i
  have hbd := kinv_bd hinv hi
  have hlen : m.length + 5 < (m ++ N).length := (List.getElem?_eq_some_iff.1 n5).1
  have rt : ∀ {N : AM} {o : Nat} {v : Value}, Rd m a o v → Rd (m ++ N) a o v := fun h => h.old _
  rcases Nat.lt_or_ge i l with hil | hig
  · (repeat (first | (with_reducible refine AWo.cons ?_) | ((with_reducible refine Step.id ?_); first | ((with_reducible apply Step.move); exact rfl; exact rfl) | ((with_reducible apply Step.assign); exact rfl; exact rfl) | ((with_reducible apply Step.load); exact rfl; (focus (decide +kernel)); exact rfl; (focus (first | exact rd_at n0 rfl | exact t4.old _))) | ((with_reducible apply Step.field (k := 2)); exact rfl; (focus (decide +kernel)); exact rfl) | ((with_reducible apply Step.lss); exact rfl; exact rfl; exact rfl) | ((with_reducible apply Step.nilp); exact rfl; exact rfl)) | (with_reducible refine AWo.nil ?_) | ((with_reducible apply AW.seq)) | ((with_reducible apply Then.n)) | ((with_reducible apply AW.regL)) | ((with_reducible apply AW.block)) | ((with_reducible apply AW.skip)) | ((with_reducible apply AW.condT); exact rfl; (focus ((simp only [decide_eq_true_eq, decide_eq_false_iff_not, Bool.not_eq_true', Bool.not_eq_false', Bool.not_true, Bool.not_false]; first | assumption | omega))))))
    ((with_reducible apply Step.makeG); exact rfl; exact rfl; exact el88; (focus (omega)); exact rfl)
    (repeat ((with_reducible refine AWo.cons ?_)))
    have n4' : ((m ++ N) ++ [some { cells := List.replicate k (.bool false) }])[m.length + 4]? = some (some { cells := [v4] }) := get_old _ n4
    obtain ⟨M2, hM2⟩ : ∃ M2, ((m ++ N) ++ [some ({ cells := List.replicate k (.bool false) } : Blk)]).set (m.length + 4) (some { cells := [.slice (some ⟨(m ++ N).length, 0, none⟩) k k] }) = M2 := ⟨_, rfl⟩
    ((with_reducible apply Step.storeV); exact rfl; exact rfl; exact n4'; (focus (decide +kernel)); exact rfl; exact rfl; exact hM2)
    have hpre : ∃ N2, M2 = m ++ N2 := by
      rw [← hM2, List.append_assoc]
      exact pre_set (by omega)
    have hl2 : M2.length = (m ++ N).length + 1 := by rw [← hM2]; simp; omega
    have hne : ∀ x, x ≠ m.length + 4 → x < (m ++ N).length → M2[x]? = (m ++ N)[x]? := fun x h1 h2 => by
      rw [← hM2, List.getElem?_set_ne (Ne.symm h1), List.getElem?_append_left h2]
    have k4 : M2[m.length + 4]? = some (some { cells := [.slice (some ⟨(m ++ N).length, 0, none⟩) k k] }) := by
      rw [← hM2, List.getElem?_set_self (by simp only [List.length_append] at hlen ⊢; omega)]
    have kp : M2[(m ++ N).length]? = some (some { cells := bv (tabB (fun _ => false) k) }) := by
      rw [← hM2, List.getElem?_set_ne (by omega), List.getElem?_append_right (Nat.le_refl _), Nat.sub_self, ← tabB_rep, ← bv_rep]; rfl
    have k0 := (hne (m.length + 0) (by omega) (by omega)).trans n0
    have k1 := (hne (m.length + 1) (by omega) (by omega)).trans n1
    have k2 := (hne (m.length + 2) (by omega) (by omega)).trans n2
    have k3 := (hne (m.length + 3) (by omega) (by omega)).trans n3
    have k5 := (hne (m.length + 5) (by omega) (by omega)).trans n5
    have hself := KM.self (r := k) (s := (fun _ => false, (kM (okc c mo) k i).1)) kp k2
    clear n0 n1 n2 n3 n4 n4' n5 hM2
    generalize hpp : (m ++ N).length = pp at *
    have hm : ∀ s, ∃ N', KM M2 pp (m.length + 2) k s = m ++ N' := fun s => by
      obtain ⟨N2, rfl⟩ := hpre
      exact KM.pre (by omega) (by omega)
    have hx : ∀ (s : KS) {x : Nat} {b : Blk}, x ≠ pp → x ≠ m.length + 2 → M2[x]? = some (some b) → (KM M2 pp (m.length + 2) k s)[x]? = some (some b) := fun s x b h1 h2 h => by rw [KM.ne h1 h2]; exact h
    have hc := find_ok (m0 := m) (m := M2) (p := pp) (q := m.length + 2) (a1 := m.length + 0) (a2 := m.length + 1) (a3 := m.length + 4) (a4 := m.length + 3) (a5 := m.length + 5) (mo := mo) (by omega) (by omega) (by omega) hl32 hr32 hm hT
      (fun s => rd_at (hx s (by omega) (by omega) k0) rfl) (fun s => rd_at (hx s (by omega) (by omega) k1) rfl) (fun s => rd_at (hx s (by omega) (by omega) k4) rfl) (fun s => rd_at (hx s (by omega) (by omega) k3) rfl) (fun s => rd_at (hx s (by omega) (by omega) k5) rfl)
      (k + 1) i (fun _ => false, (kM (okc c mo) k i).1) hil (by have : unN (fun _ => false) k ≤ k := cN_le _; simp only; omega) hbd
    rw [hself] at hc
    have e1 : (kM (okc c mo) k (i + 1)).1 = (kF (okc c mo) k (k + 1) i (fun _ => false, (kM (okc c mo) k i).1)).2.2 := rfl
    generalize kF (okc c mo) k (k + 1) i (fun _ => false, (kM (okc c mo) k i).1) = res at *
    obtain ⟨b', s2⟩ := res
    simp only at hc e1
    (repeat (first | (with_reducible refine AWo.cons ?_) | ((with_reducible refine Step.id ?_); first | ((with_reducible apply Step.move); exact rfl; exact rfl) | ((with_reducible apply Step.load); exact rfl; (focus (decide +kernel)); exact rfl; (focus (exact rd_at k5 rfl)))) | (with_reducible refine AWo.nil ?_) | ((with_reducible apply Then.n)) | ((with_reducible apply AW.regL))))
    ((with_reducible apply Step.call fit); exact rfl; exact rfl; exact Try.func97; exact rfl; exact rfl; exact hc)
    rintro _ _ ⟨rfl, rfl⟩
    (repeat (first | (with_reducible refine AWo.cons ?_) | ((with_reducible refine Step.id ?_); first | ((with_reducible apply Step.move); exact rfl; exact rfl) | ((with_reducible apply Step.add); exact rfl; exact rfl; (focus (omega)); exact rfl)) | (with_reducible refine AWo.nil ?_) | ((with_reducible apply Then.n)) | ((with_reducible apply AW.regL)) | ((with_reducible apply InBlk.n))))
    obtain ⟨N', hN'⟩ := hm s2
    refine ⟨_, _, ?_, (by repeat (first | exact trivial | (refine And.intro rfl ?_))), i + 1, N', .slice (some ⟨pp, 0, none⟩) k k, rfl, by omega, hN', ?_, ?_, ?_, ?_, ?_, ?_, rfl⟩
    · omega
    · rw [← hN']; exact hx s2 (by omega) (by omega) k0
    · rw [← hN']; exact hx s2 (by omega) (by omega) k1
    · rw [← hN', e1]; exact KM.getq (by omega)
    · rw [← hN']; exact hx s2 (by omega) (by omega) k3
    · rw [← hN']; exact hx s2 (by omega) (by omega) k4
    · rw [← hN']; exact hx s2 (by omega) (by omega) k5
  · obtain rfl : i = l := by omega
    (repeat (first | (with_reducible refine AWo.cons ?_) | ((with_reducible refine Step.id ?_); first | ((with_reducible apply Step.assign); exact rfl; exact rfl) | ((with_reducible apply Step.load); exact rfl; (focus (decide +kernel)); exact rfl; (focus (exact rd_at n3 rfl))) | ((with_reducible apply Step.lss); exact rfl; exact rfl; exact rfl)) | (with_reducible refine AWo.nil ?_) | ((with_reducible apply AW.seq)) | ((with_reducible apply Then.n)) | ((with_reducible apply AW.regL)) | ((with_reducible apply AW.exit)) | ((with_reducible apply InBlk.hit)) | ((with_reducible apply Then.e)) | ((with_reducible apply AW.condF); exact rfl; (focus ((simp only [decide_eq_true_eq, decide_eq_false_iff_not, Bool.not_eq_true', Bool.not_eq_false', Bool.not_true, Bool.not_false]; first | assumption | omega))))))
    (refine AW.ret ?_; (repeat (first | refine Then.r ?_ | refine InBlk.r ?_)))
    exact ⟨_, rfl, _, rfl, ints_at n2 rfl _ (by simp)⟩
end Go.Proofs.Ytajpngnphbdnnaa.Abs
namespace Go.Proofs.Ytajpngnphbdnnaa.Abs
set_option linter.unusedSimpArgs false
set_option linter.unusedVariables false
open Go.RowKit
open Go.Proofs.Ytajpngnphbdnnaa.Sim
open Go.Proofs
open Hung
/-- The greatest size of a pairing. -/
def mst (u : Ru) (L R : List Gl) : Nat := (kM (okc (cT u L R) 1000000000) R.length L.length).2
set_option maxRecDepth 100000 in
theorem Most_no {m : AM} {lv rv : Value} {u : Ru} {L R : List Gl} (hl : Gls m lv L) (hr : Gls m rv R) (h1 : L.length ≤ 100000) (h2 : R.length ≤ 100000) (hn : (sB L && sB R && uB u) = false) : ACall Try.prog 32 #[lv, rv, u.v] m (Ret (.tuple #[.int .i64 0, .int .i64 2]) m) := by
  have r0 : ∀ T : AM, RdL (m ++ (some { cells := u.cells } :: T)) (m.length + 0) 0 u.cells := fun T => RdL.new rfl rfl
  have hc := fun T => costs_no (hl.old T) (hr.old T) h1 h2 hn
  refine ACall.start Try.func32 rfl rfl ?_
  (repeat (first | (with_reducible refine AWo.cons ?_) | ((with_reducible refine Step.id ?_); first | ((with_reducible apply Step.move); exact rfl; exact rfl) | ((with_reducible apply Step.assign); exact rfl; exact rfl) | ((with_reducible apply Step.loadL (n := 8)); exact rfl; (focus (decide +kernel)); (focus (decide +kernel)); exact rfl; (focus (exact RdL.new rfl rfl)); exact rfl; exact rfl) | ((with_reducible apply Step.ptrNil); exact rfl; exact rfl; exact un77; exact rfl) | ((with_reducible apply Step.callR fit); exact rfl; exact Try.func54; exact rfl; exact rfl; exact (hc _)) | ((with_reducible apply Step.box 0); exact rfl; exact rfl; (focus (kernel_rfl)); exact rfl; (focus (first | (simp only [List.nil_append, List.cons_append, List.set_cons_zero, List.set_cons_succ, iv_set, bv_set, iv_rep, bv_rep]; done) | (simp only [List.nil_append, List.cons_append, List.set_cons_zero, List.set_cons_succ, iv_set, bv_set, iv_rep, bv_rep]; rfl) | rfl)))) | (with_reducible refine AWo.nil ?_) | ((with_reducible apply AW.seq)) | ((with_reducible apply Then.n)) | ((with_reducible apply AW.regL)) | ((with_reducible apply AW.condT); exact rfl; (focus (rfl)))))
  (refine AW.retD (l := [(6, _), (7, _)]) (by repeat (first | exact trivial | (refine And.intro ⟨rfl, by (exact .int _ _)⟩ ?_))) ?_; (repeat (first | refine Then.r ?_ | refine InBlk.r ?_)))
  exact ⟨_, rfl, rfl, rfl⟩
set_option maxHeartbeats 4000000 in
set_option maxRecDepth 100000 in
theorem Most_ok {m : AM} {lv rv : Value} {u : Ru} {L R : List Gl} (hl : Gls m lv L) (hr : Gls m rv R) (hL : sB L = true) (hR : sB R = true) (hu : uB u = true) : ACall Try.prog 32 #[lv, rv, u.v] m (Ret (.tuple #[.int .i64 (mst u L R : Nat), .int .i64 0]) m) := by
  have h1 : L.length ≤ 32 ∧ L.all gB = true := by simpa [sB] using hL
  have h2 : R.length ≤ 32 ∧ R.all gB = true := by simpa [sB] using hR
  have r0 : ∀ T : AM, RdL (m ++ (some { cells := u.cells } :: T)) (m.length + 0) 0 u.cells := fun T => RdL.new rfl rfl
  have hcnt := (kM_inv (okc (cT u L R) 1000000000) R.length L.length).cnt
  refine ACall.drop (Ren.tupG [.int .i64 _, .int .i64 0] rfl) ?_
  refine ACall.start Try.func32 rfl rfl ?_
  (repeat (first | (with_reducible refine AWo.cons ?_) | ((with_reducible refine Step.id ?_); first | ((with_reducible apply Step.move); exact rfl; exact rfl) | ((with_reducible apply Step.assign); exact rfl; exact rfl) | ((with_reducible apply Step.loadL (n := 8)); exact rfl; (focus (decide +kernel)); (focus (decide +kernel)); exact rfl; (focus (exact RdL.new rfl rfl)); exact rfl; exact rfl) | ((with_reducible apply Step.box 0); exact rfl; exact rfl; (focus (kernel_rfl)); exact rfl; (focus (first | (simp only [List.nil_append, List.cons_append, List.set_cons_zero, List.set_cons_succ, iv_set, bv_set, iv_rep, bv_rep]; done) | (simp only [List.nil_append, List.cons_append, List.set_cons_zero, List.set_cons_succ, iv_set, bv_set, iv_rep, bv_rep]; rfl) | rfl)))) | (with_reducible refine AWo.nil ?_) | ((with_reducible apply AW.seq)) | ((with_reducible apply Then.n)) | ((with_reducible apply AW.regL))))
  ((with_reducible apply Step.callX fit); exact rfl; exact Try.func54; exact rfl; exact rfl; exact (costs_ok (hl.old _) (hr.old _) hL hR hu))
  rintro tv M ⟨N0, hN0⟩ hT
  obtain ⟨a, cv, b, o, htv, _⟩ := id hT
  subst htv
  (repeat (first | (with_reducible refine AWo.cons ?_) | ((with_reducible refine Step.id ?_); first | ((with_reducible apply Step.move); exact rfl; exact rfl) | ((with_reducible apply Step.assign); exact rfl; exact rfl) | ((with_reducible apply Step.ptrNot); exact rfl; exact rfl; exact un77; exact rfl)) | (with_reducible refine AWo.nil ?_) | ((with_reducible apply AW.seq)) | ((with_reducible apply Then.n)) | ((with_reducible apply AW.regL)) | ((with_reducible apply AW.skip)) | ((with_reducible apply AW.condF); exact rfl; (focus (rfl)))))
  ((with_reducible apply Step.callX fit); exact rfl; exact Try.func70; exact rfl; exact rfl; exact (matched_ok (hT.old _) (by omega) (by omega)))
  rintro v M1 ⟨N1, hN1⟩ hI
  (repeat (first | (with_reducible refine AWo.cons ?_) | ((with_reducible refine Step.id ?_); first | ((with_reducible apply Step.assign); exact rfl; exact rfl) | ((with_reducible apply Step.callR fit); exact rfl; exact Try.func69; exact rfl; exact rfl; exact (size_ok (hI.old _) (by omega)))) | (with_reducible refine AWo.nil ?_) | ((with_reducible apply Then.n))))
  (refine AW.ret ?_; (repeat (first | refine Then.r ?_ | refine InBlk.r ?_)))
  refine ⟨_, rfl, ?_, [some { cells := u.v.cells.toList }] ++ (N0 ++ N1), ?_⟩
  · unfold mst; rw [← hcnt]
  · rw [hN1, hN0]; simp only [List.append_nil, List.append_assoc]
end Go.Proofs.Ytajpngnphbdnnaa.Abs
namespace Go.Proofs.Ytajpngnphbdnnaa.Hung
set_option linter.unusedSimpArgs false
set_option linter.unusedVariables false
abbrev RS := (Nat → Bool) × (Nat → Bool)
end Go.Proofs.Ytajpngnphbdnnaa.Hung
namespace Go.Proofs.Ytajpngnphbdnnaa.Abs
set_option linter.unusedSimpArgs false
set_option linter.unusedVariables false
open Go.RowKit
open Go.Proofs.Ytajpngnphbdnnaa.Sim
open Go.Proofs
open Hung
/-- The memory in which blocks p and q hold which gloves are reached. -/
def RM (m : AM) (p q l r : Nat) (s : RS) : AM := (m.set p (some { cells := bv (tabB s.1 l) })).set q (some { cells := bv (tabB s.2 r) })
section
variable {m : AM} {p q l r : Nat} {s : RS}
theorem RM.len : (RM m p q l r s).length = m.length := by simp [RM]
theorem RM.getp (hp : p < m.length) (hpq : p ≠ q) : (RM m p q l r s)[p]? = some (some { cells := bv (tabB s.1 l) }) := by
  unfold RM; rw [List.getElem?_set_ne (Ne.symm hpq)]; simp [hp]
theorem RM.getq (hq : q < m.length) : (RM m p q l r s)[q]? = some (some { cells := bv (tabB s.2 r) }) := by
  unfold RM; simp [hq]
theorem RM.seen {j : Nat} {b : Bool} (hq : q < m.length) (hj : j < r) (hb : s.2 j = b) : Rd (RM m p q l r s) q j (.bool b) :=
  ⟨_, RM.getq hq, by subst hb; have := bv_get (l := tabB s.2 r) (k := j) (by simpa using hj); rwa [tabB_get s.2 hj] at this⟩
theorem RM.set1 {j : Nat} (hpq : p ≠ q) : (RM m p q l r s).set p (some { cells := (bv (tabB s.1 l)).set j (.bool true) }) = RM m p q l r (up s.1 j true, s.2) := by
  unfold RM
  rw [List.set_comm _ _ hpq, bv_set, tabB_set, List.set_set, List.set_comm _ _ hpq]
theorem RM.set2 {j : Nat} : (RM m p q l r s).set q (some { cells := (bv (tabB s.2 r)).set j (.bool true) }) = RM m p q l r (s.1, up s.2 j true) := by
  unfold RM
  rw [bv_set, tabB_set, List.set_set]
theorem RM.self (h1 : m[p]? = some (some { cells := bv (tabB s.1 l) })) (h2 : m[q]? = some (some { cells := bv (tabB s.2 r) })) : RM m p q l r s = m := by
  have e : ∀ {a : Nat} {x : Option Blk}, m[a]? = some x → m.set a x = m := fun {a x} h => by
    apply List.ext_getElem?
    intro i
    by_cases e : i = a
    · subst e; rw [List.getElem?_set_self (List.getElem?_eq_some_iff.1 h).1, h]
    · rw [List.getElem?_set_ne (Ne.symm e)]
  unfold RM
  rw [e h1, e h2]
theorem RM.ne {a : Nat} (h1 : a ≠ p) (h2 : a ≠ q) : (RM m p q l r s)[a]? = m[a]? := by
  unfold RM
  rw [List.getElem?_set_ne (Ne.symm h2), List.getElem?_set_ne (Ne.symm h1)]
theorem RM.pre {N : AM} (h1 : m.length ≤ p) (h2 : m.length ≤ q) : ∃ N', RM (m ++ N) p q l r s = m ++ N' := by
  unfold RM
  obtain ⟨N1, e1⟩ := pre_set (m := m) (N := N) (p := p) (x := some { cells := bv (tabB s.1 l) }) h1
  rw [e1]
  exact pre_set h2
end
section
variable {P : Program} {nt : Nat} {ops : Array Oper} {t : Fm} {m : AM} {K : Fm → AM → Prop} {T : Nat} {pp : String} {af : Array Edge}
end
end Go.Proofs.Ytajpngnphbdnnaa.Abs
namespace Go.Proofs.Ytajpngnphbdnnaa.Abs
set_option linter.unusedSimpArgs false
set_option linter.unusedVariables false
open Go.RowKit
open Go.Proofs.Ytajpngnphbdnnaa.Sim
section
variable {P : Program} {nt : Nat} {ops : Array Oper} {t : Fm} {m : AM} {K : Fm → AM → Prop} {d T : Nat} {p : String} {af : Array Edge}
theorem rel_nil {R : Pl} {v : Value} (h : Rel R (.slice none 0 0) v) : v = .slice none 0 0 := by cases h; rfl
theorem rel_int {R : Pl} {v : Value} {k : IntKind} {n : Int} (h : Rel R (.int k n) v) : v = .int k n := by cases h; rfl
theorem Step.capNil {x : Operand} {X e : TypeId} (hx : evo t x = some (.slice none 0 0)) (hX : P.underlying X = some (.slice e)) (hlt : Nat.blt d nt = true) (hK : K (put t d (.int .i64 0)) m) :
    Step P nt ops ⟨some d, .call ⟨.builtin .cap, #[x], #[X]⟩, T, p, af, none⟩ t m K := by
  refine .l rfl rfl hlt rfl (by simp [Op.operands, Call.operands, hx]) ?_
  intro base R w a Q next hb hm hev hn
  have hr : Rel R (evD t x) (a.eval x) := hev x (by simp [Op.operands, Call.operands])
  rw [evD_of hx] at hr
  have he : a.eval x = .slice none 0 0 := rel_nil hr
  exact wp_of_does rfl (.inl (by simp [execOp, resolve, invoke, builtin, he, Builtin.cap_, run_underlying hX]; rfl)) (hn R (.int .i64 0) _ m w (.int ..) (.refl hm) hK)
theorem zeros_cells {v : Value} (n : Nat) : (Builtin.zeroCells #[v] n).toList = List.replicate n v := by
  unfold Builtin.zeroCells
  apply List.ext_getElem?
  intro j
  by_cases h : j < n
  · simp [h, Nat.mod_one]
  · simp [h]
theorem Step.zeros {x y : Operand} {X Y e by_ n : Nat} {z : Value} {k kn : IntKind} (hx : evo t x = some (.slice none 0 0)) (hy : evo t y = some (.int k ((n : Nat) : Int))) (hE : elemB P X = some (e, 1, by_, #[z])) (hY : P.underlying Y = some (.int kn)) (h0 : 0 < n) (hb : n * by_ ≤ 281474976710656) (h63 : n ≤ 9223372036854775807)
    (hg : g0 z = true) (hlt : Nat.blt d nt = true) (hK : K (put t d (.slice (some ⟨m.length, 0, none⟩) n n)) (m ++ [some { cells := List.replicate n z, kind := .grow, size := 1 }])) :
    Step P nt ops ⟨some d, .call ⟨.builtin .append, #[x, y], #[X, Y]⟩, T, p, af, none⟩ t m K := by
  refine .l rfl rfl hlt rfl (by simp [Op.operands, Call.operands, hx, hy]) ?_
  intro base R w a Q next hbs hm hev hn
  have hr : Rel R (evD t x) (a.eval x) := hev x (by simp [Op.operands, Call.operands])
  rw [evD_of hx] at hr
  have he : a.eval x = .slice none 0 0 := rel_nil hr
  have hr2 : Rel R (evD t y) (a.eval y) := hev y (by simp [Op.operands, Call.operands])
  rw [evD_of hy] at hr2
  have he2 : a.eval y = .int k ((n : Nat) : Int) := rel_int hr2
  obtain ⟨hu, i, zz, h1, h2, h3, h4, h5, h6, h7⟩ := elemB_spec hE
  have hrun := Go.Lib.run_append_nil_zeros (P := P) w X Y T e i zz k kn hu hY h1 h4 n h0 (by omega) (by omega) (by rw [h3]; exact hb)
  have hp := hm.pad 1
  have hge : n ≤ grownCap w n 0 e := by
    have := grownCap_ge w n 0 e
    omega
  have hfree : (m ++ [none])[m.length]? = some none := pad_one
  have hone : ∀ j v, (List.replicate n z)[j]? = some v → v = z := fun j v h => by
    rw [List.getElem?_replicate] at h
    split at h
    · injection h with h; exact h.symm
    · cases h
  have hzz : (Builtin.zeroCells zz.cells n).toList = List.replicate n z := by rw [h5, zeros_cells]
  have hgrow := grown_ok (n := m.length) hp hbs (.inl rfl) hfree (hm.none_ _ (Nat.le_refl _)) { cells := List.replicate n z, kind := .grow, size := 1 } rfl (grownCap w n 0 e - n) (Builtin.zeroCells zz.cells n ++ Builtin.zeroCells zz.cells (grownCap w n 0 e - n)) e
    (by simp only [List.length_replicate, Array.size_append, size_zeroCells, h5]; simp <;> omega) (fun j v hj => by
      refine ⟨v, ?_, ?_, ?_⟩
      · have hjn : j < n := by have := (List.getElem?_eq_some_iff.1 hj).1; simpa using this
        rw [← hzz] at hj
        rw [Array.getElem?_append_left (by rw [← Array.length_toList, hzz]; simpa using hjn)]
        simpa using hj
      · rw [hone j v hj]; exact g0_rel hg
      · rw [hone j v hj]; exact (g0one_rel (R := R) h7).2 z (by simp))
  have hset : (m ++ List.replicate 1 none).set m.length (some { cells := List.replicate n z, kind := .grow, size := 1 }) = m ++ [some { cells := List.replicate n z, kind := .grow, size := 1 }] := by
    rw [List.set_append_right _ _ (Nat.le_refl _)]; simp
  rw [hset] at hgrow
  exact wp_of_does rfl (.inl (by simp [execOp, resolve, invoke, builtin, he, he2, hrun])) (hn _ _ _ _ _ (slice_put (n := m.length) (l := n) (c := grownCap w n 0 e) (x := grownCap w n 0 e - n) (by omega)) ⟨hgrow.le, hgrow.rep, hgrow.os, hgrow.tape, hgrow.output, hgrow.size, fun k hk ho => hgrow.keep k hk fun ho' => ho ho'.pad, fun k ho => (hgrow.sub k ho).imp (fun h => h) Owned.pad⟩ hK)
theorem acells_ints {m : AM} {v : Value} {B : List Int} (h : Ints m v B) : aSliceLen v = some B.length ∧ acells m 1 B.length v = some (iv B) := by
  obtain ⟨a, o, h1, h2, h3⟩ := h
  rcases h1 with ⟨rfl, hn⟩ | ⟨c, hc, rfl⟩ | ⟨hn, o', k, rfl⟩
  · have : B = [] := List.eq_nil_of_length_eq_zero hn
    subst this; exact ⟨rfl, rfl⟩
  · refine ⟨rfl, ?_⟩
    simp only [acells]
    by_cases h0 : B.length = 0
    · have : B = [] := List.eq_nil_of_length_eq_zero h0
      subst this; rfl
    · rw [if_neg h0]
      obtain ⟨b, hb, _⟩ := h3 0 (by omega)
      rw [hb]
      have hget : ∀ k, k < B.length → b.cells[o + k]? = some (.int .i64 (B.getD k 0)) := fun k hk => by
        obtain ⟨b', hb', hv⟩ := h3 k hk
        rw [hb] at hb'
        injection hb' with hb'
        injection hb' with hb'
        subst hb'; exact hv
      have hlast := (List.getElem?_eq_some_iff.1 (hget (B.length - 1) (by omega))).1
      simp only
      rw [if_pos ⟨Nat.le_refl _, by omega⟩]
      congr 1
      apply List.ext_getElem?
      intro k
      rw [Nat.mul_one]
      by_cases hk : k < B.length
      · rw [List.getElem?_take_of_lt hk, List.getElem?_drop, hget k hk, iv_get hk]
      · rw [List.getElem?_eq_none (by simp; omega), List.getElem?_eq_none (by simp [iv]; omega)]
  · have : B = [] := List.eq_nil_of_length_eq_zero hn
    subst this; exact ⟨rfl, rfl⟩
theorem Step.appW {x y : Operand} {X Y e e' : TypeId} {by_ : Nat} {z : Array Value} {k q n cp : Nat} {c old Z : List Value} {B : List Int} {yv : Value} {b : Blk} {M L L' : AM} (hk : L.length = k) (hx : evo t x = some (.slice (some ⟨M.length + q, 0, none⟩) n cp)) (hy : evo t y = some yv) (hI : Ints (M ++ L) yv B) (hE : elemB P X = some (e, 1, by_, z)) (hY : P.underlying Y = some (.slice e'))
    (hq : L[q]? = some (some b)) (hbs : b.kind.solid = true) (hbc : b.cells = c ++ (old ++ Z)) (hc : c.length = n) (ho : old.length = B.length) (hcp : n + B.length ≤ cp) (hlt : Nat.blt d nt = true)
    (hL : L.set q (some { b with cells := c ++ (iv B ++ Z) }) ++ [none] = L') (hK : K (put t d (.slice (some ⟨M.length + q, 0, none⟩) (n + B.length) cp)) (M ++ L')) :
    Step P nt ops ⟨some d, .call ⟨.builtin .append, #[x, y], #[X, Y]⟩, T, p, af, none⟩ t (M ++ L) K := by
  subst hL
  refine .l rfl rfl hlt rfl (by simp [Op.operands, Call.operands, hx, hy]) (loudN hk rfl (v := .slice (some ⟨M.length + q, 0, none⟩) (n + B.length) cp) ?_ hK)
  obtain ⟨h1, h2⟩ := acells_ints (hI.old [none])
  have hql : q < L.length := (List.getElem?_eq_some_iff.1 hq).1
  have hg : ((M ++ L) ++ [none])[M.length + q]? = some (some b) := by rw [List.append_assoc, get_app, List.getElem?_append_left hql, hq]
  simp only [aloud, evD_of hx, evD_of hy, aappend, hE, hY, h1, h2]
  rw [if_neg (by simp [iv, Value.oneCell'])]
  by_cases h0 : B.length = 0
  · have hB : B = [] := List.eq_nil_of_length_eq_zero h0
    subst hB
    have hold : old = [] := List.eq_nil_of_length_eq_zero ho
    subst hold
    rw [if_pos (show ([] : List Int).length = 0 from rfl)]
    have e1 : ({ b with cells := c ++ (iv [] ++ Z) } : Blk) = b := by
      have : c ++ (iv [] ++ Z) = b.cells := by rw [hbc]; rfl
      rw [this]
    have e2 : L.set q (some b) = L := by
      apply List.ext_getElem?
      intro j
      by_cases hj : q = j
      · subst hj; rw [List.getElem?_set_self hql, hq]
      · rw [List.getElem?_set_ne hj]
    rw [e1, e2, List.append_assoc]; rfl
  · rw [if_neg h0]
    simp only [hg]
    have hbl : b.cells.length = n + B.length + Z.length := by rw [hbc]; simp [hc, ho]; omega
    rw [if_pos hcp, if_pos (by simp [hbs, hbl, iv])]
    have hsp : splice b.cells (0 + n * 1) (iv B) = c ++ (iv B ++ Z) := by
      unfold splice
      rw [hbc, Nat.zero_add, Nat.mul_one, ← hc]
      have : (iv B).length = old.length := by rw [ho]; simp [iv]
      rw [this]
      simp
    rw [hsp]
    simp only [Option.some.injEq, Prod.mk.injEq, true_and]
    rw [List.append_assoc, set_app, List.set_append_left _ _ hql]
theorem Step.app00 {x y : Operand} {X Y e e' : TypeId} {s by_ : Nat} {z : Array Value} {k : Nat} {yv : Value} {M L L' : AM} (hk : L.length = k) (hx : evo t x = some (.slice none 0 0)) (hy : evo t y = some yv) (hI : Ints (M ++ L) yv []) (hE : elemB P X = some (e, s, by_, z)) (hY : P.underlying Y = some (.slice e')) (hs : Nat.blt 0 s = true)
    (hlt : Nat.blt d nt = true) (hL : L ++ [none] = L') (hK : K (put t d (.slice none 0 0)) (M ++ L')) :
    Step P nt ops ⟨some d, .call ⟨.builtin .append, #[x, y], #[X, Y]⟩, T, p, af, none⟩ t (M ++ L) K := by
  subst hL
  simp at hs
  refine .l rfl rfl hlt rfl (by simp [Op.operands, Call.operands, hx, hy]) (loudN hk rfl (v := .slice none 0 0) ?_ hK)
  obtain ⟨h1, h2⟩ := acells_ints (hI.old [none])
  have h1 : aSliceLen yv = some 0 := h1
  have h3 : acells (M ++ L ++ [none]) s 0 yv = some [] := by
    obtain ⟨a, o, g, _⟩ := hI
    rcases g with ⟨rfl, _⟩ | ⟨c, _, rfl⟩ | ⟨_, o', k', rfl⟩ <;> rfl
  simp only [aloud, evD_of hx, evD_of hy, aappend, hE, hY, h1, h3]
  rw [if_neg (by simp; omega), if_pos trivial, List.append_assoc]
end
end Go.Proofs.Ytajpngnphbdnnaa.Abs
namespace Go.Proofs.Ytajpngnphbdnnaa.Abs
set_option linter.unusedSimpArgs false
set_option linter.unusedVariables false
open Go.RowKit
open Go.Proofs.Ytajpngnphbdnnaa.Sim
open Go.Proofs
set_option maxHeartbeats 4000000 in
set_option maxRecDepth 100000 in
theorem grow0_ok {m : AM} : ACall Try.prog 98 #[.slice none 0 0, .int .i64 0] m (Ret (.slice none 0 0) m) := by
  refine ACall.start Try.func98 rfl rfl ?_
  (repeat (first | (with_reducible refine AWo.cons ?_) | ((with_reducible refine Step.id ?_); first | ((with_reducible apply Step.move); exact rfl; exact rfl) | ((with_reducible apply Step.assign); exact rfl; exact rfl) | ((with_reducible apply Step.lss); exact rfl; exact rfl; exact rfl)) | (with_reducible refine AWo.nil ?_) | ((with_reducible apply AW.seq)) | ((with_reducible apply Then.n)) | ((with_reducible apply AW.regL)) | ((with_reducible apply AW.skip)) | ((with_reducible apply AW.condF); exact rfl; (focus (rfl)))))
  ((with_reducible apply Step.capNil); exact rfl; exact un27; exact rfl)
  (repeat (first | (with_reducible refine AWo.cons ?_) | ((with_reducible refine Step.id ?_); first | ((with_reducible apply Step.move); exact rfl; exact rfl) | ((with_reducible apply Step.assign); exact rfl; exact rfl) | ((with_reducible apply Step.sub); exact rfl; exact rfl; (focus (omega)); exact rfl) | ((with_reducible apply Step.gtr); exact rfl; exact rfl; exact rfl) | ((with_reducible apply Step.len); exact rfl; (focus (exact Sl.nil 0 0)); (focus (decide +kernel)); exact rfl)) | (with_reducible refine AWo.nil ?_) | ((with_reducible apply AW.seq)) | ((with_reducible apply Then.n)) | ((with_reducible apply AW.regL)) | ((with_reducible apply AW.skip)) | ((with_reducible apply AW.condF); exact rfl; (focus (rfl)))))
  (refine AW.retD (l := [(4, _)]) (by repeat (first | exact trivial | (refine And.intro ⟨rfl, by (exact Ren.of_g0 rfl)⟩ ?_))) ?_; (repeat (first | refine Then.r ?_ | refine InBlk.r ?_)))
  exact ⟨_, rfl, rfl, rfl⟩
end Go.Proofs.Ytajpngnphbdnnaa.Abs
namespace Go.Proofs.Ytajpngnphbdnnaa.Abs
set_option linter.unusedSimpArgs false
set_option linter.unusedVariables false
open Go.RowKit
open Go.Proofs.Ytajpngnphbdnnaa.Sim
open Go.Proofs
open Hung
/-- The numbers below n of which g says yes. -/
def selL (g : Nat → Bool) (n : Nat) : List Int := nats ((List.range n).filter g)
theorem selL_no {g : Nat → Bool} {n : Nat} (h : g n = false) : selL g (n + 1) = selL g n := by
  unfold selL nats; rw [List.range_succ, List.filter_append]; simp [h]
/-- Blocks that lie somewhere, apart from each other. -/
structure Mz (n : Nat) (B : AM) (A : Nat → Bool) (ct : Nat → List Value) (p : Nat → Nat) (m : AM) : Prop where
  pre : ∃ N, m = B ++ N
  ar : ∀ k, k < n → A k = true → B.length ≤ p k ∧ m[p k]? = some (some { cells := ct k })
  dj : ∀ j k, j < n → k < n → A j = true → A k = true → p j = p k → j = k
section
variable {n : Nat} {B : AM} {A A' : Nat → Bool} {ct ct' : Nat → List Value} {p p' : Nat → Nat} {m : AM}
theorem Mz.congr (h : Mz n B A ct p m) (hA : ∀ k, k < n → A' k = A k) (hc : ∀ k, k < n → A k = true → ct' k = ct k) : Mz n B A' ct' p m :=
  ⟨h.pre, fun k hk ha => by rw [hA k hk] at ha; rw [hc k hk ha]; exact h.ar k hk ha, fun j k hj hk h1 h2 => h.dj j k hj hk (by rw [← hA j hj]; exact h1) (by rw [← hA k hk]; exact h2)⟩
theorem Mz.new (h : Mz n B A ct p m) {k : Nat} (z : List Value) (ha : A k = false) : Mz n B (upL A k) (up ct k z) (up p k m.length) (m ++ [some { cells := z }]) := by
  have hlt : ∀ j, j < n → A j = true → p j < m.length := fun j hj h1 => (List.getElem?_eq_some_iff.1 (h.ar j hj h1).2).1
  obtain ⟨N, hN⟩ := h.pre
  refine ⟨⟨N ++ [some { cells := z }], by rw [hN, List.append_assoc]⟩, fun j hj haj => ?_, fun i j hi hj hai haj e => ?_⟩
  · by_cases e : j = k
    · subst e
      rw [up_same, up_same]
      exact ⟨by rw [hN]; simp, by simp⟩
    · rw [upL_ne A e] at haj
      rw [up_ne _ _ e, up_ne _ _ e]
      exact ⟨(h.ar j hj haj).1, get_old _ (h.ar j hj haj).2⟩
  · by_cases e1 : i = k
    · by_cases e2 : j = k
      · rw [e1, e2]
      · rw [upL_ne A e2] at haj
        rw [e1, up_same, up_ne _ _ e2] at e
        have := hlt j hj haj; omega
    · rw [upL_ne A e1] at hai
      by_cases e2 : j = k
      · rw [e2, up_same, up_ne _ _ e1] at e
        have := hlt i hi hai; omega
      · rw [upL_ne A e2] at haj
        rw [up_ne _ _ e1, up_ne _ _ e2] at e
        exact h.dj i j hi hj hai haj e
theorem Mz.store (h : Mz n B A ct p m) {k : Nat} (c : List Value) (hk : k < n) (ha : A k = true) : Mz n B A (up ct k c) p (m.set (p k) (some { cells := c })) := by
  have hlt := (List.getElem?_eq_some_iff.1 (h.ar k hk ha).2).1
  have hge := (h.ar k hk ha).1
  obtain ⟨N, hN⟩ := h.pre
  refine ⟨⟨N.set (p k - B.length) (some { cells := c }), by rw [hN, List.set_append_right _ _ hge]⟩, fun j hj haj => ⟨(h.ar j hj haj).1, ?_⟩, h.dj⟩
  by_cases e : j = k
  · subst e
    rw [up_same, List.getElem?_set_self hlt]
  · rw [up_ne _ _ e, List.getElem?_set_ne fun q => e (h.dj j k hj hk haj ha q.symm)]
    exact (h.ar j hj haj).2
end
end Go.Proofs.Ytajpngnphbdnnaa.Abs
namespace Go.Proofs.Ytajpngnphbdnnaa.Abs
set_option linter.unusedSimpArgs false
set_option linter.unusedVariables false
open Go.RowKit
open Go.Proofs.Ytajpngnphbdnnaa.Sim
open Go.Proofs
open Hung
set_option maxHeartbeats 4000000 in
set_option maxRecDepth 100000 in
theorem growN_ok {m : AM} {n : Nat} (h0 : 0 < n) (hn : n ≤ 2000) : ACall Try.prog 98 #[.slice none 0 0, .int .i64 (n : Nat)] m (More (fun M v => v = .slice (some ⟨m.length + 0, 0, none⟩) 0 n ∧ M = m ++ [some { cells := List.replicate n (.int .i64 0), kind := .grow, size := 1 }]) m) := by
  refine ACall.start Try.func98 rfl rfl ?_
  (repeat (first | (with_reducible refine AWo.cons ?_) | ((with_reducible refine Step.id ?_); first | ((with_reducible apply Step.move); exact rfl; exact rfl) | ((with_reducible apply Step.assign); exact rfl; exact rfl) | ((with_reducible apply Step.lss); exact rfl; exact rfl; exact rfl)) | (with_reducible refine AWo.nil ?_) | ((with_reducible apply AW.seq)) | ((with_reducible apply Then.n)) | ((with_reducible apply AW.regL)) | ((with_reducible apply AW.skip)) | ((with_reducible apply AW.condF); exact rfl; (focus (rfl)))))
  ((with_reducible apply Step.capNil); exact rfl; exact un27; exact rfl)
  (repeat (first | (with_reducible refine AWo.cons ?_) | ((with_reducible refine Step.id ?_); first | ((with_reducible apply Step.move); exact rfl; exact rfl) | ((with_reducible apply Step.assign); exact rfl; exact rfl) | ((with_reducible apply Step.sub); exact rfl; exact rfl; (focus (omega)); exact rfl) | ((with_reducible apply Step.gtr); exact rfl; exact rfl; exact rfl) | ((with_reducible apply Step.len); exact rfl; (focus (exact Sl.nil 0 0)); (focus (decide +kernel)); exact rfl)) | (with_reducible refine AWo.nil ?_) | ((with_reducible apply AW.seq)) | ((with_reducible apply Then.n)) | ((with_reducible apply AW.regL)) | ((with_reducible apply AW.condT); exact rfl; (focus ((simp only [decide_eq_true_eq, decide_eq_false_iff_not, Bool.not_eq_true', Bool.not_eq_false', Bool.not_true, Bool.not_false]; first | assumption | omega))))))
  ((with_reducible apply Step.capNil); exact rfl; exact un27; exact rfl)
  (repeat ((with_reducible refine AWo.cons ?_)))
  ((with_reducible apply Step.slToNil); exact rfl; exact rfl; exact rfl; exact un27; exact sz3; exact rfl)
  (repeat (first | (with_reducible refine AWo.cons ?_) | ((with_reducible refine Step.id ?_); ((with_reducible apply Step.move); exact rfl; exact rfl))))
  ((with_reducible apply Step.zeros (n := n)); exact rfl; exact rfl; exact el27; exact Try.underlying3; exact h0; (focus (omega)); (focus (omega)); exact rfl; exact rfl)
  (repeat (first | (with_reducible refine AWo.cons ?_) | ((with_reducible refine Step.id ?_); first | ((with_reducible apply Step.move); exact rfl; exact rfl) | ((with_reducible apply Step.len); exact rfl; (focus (exact Sl.nil 0 0)); (focus (decide +kernel)); exact rfl))))
  ((with_reducible apply Step.slTo (h := 0)); exact rfl; exact rfl; exact rfl; exact (Nat.zero_le _); exact un27; exact sz3; exact rfl)
  (repeat (first | (with_reducible refine AWo.cons ?_) | ((with_reducible refine Step.id ?_); first | ((with_reducible apply Step.move); exact rfl; exact rfl) | ((with_reducible apply Step.assign); exact rfl; exact rfl)) | (with_reducible refine AWo.nil ?_) | ((with_reducible apply AW.seq)) | ((with_reducible apply Then.n)) | ((with_reducible apply AW.regL))))
  (refine AW.ret ?_; (repeat (first | refine Then.r ?_ | refine InBlk.r ?_)))
  refine ⟨_, rfl, [some { cells := List.replicate n (.int .i64 0), kind := .grow, size := 1 }], by rw [List.append_nil], ?_, by rw [List.append_nil]⟩
  rw [List.append_nil]; rfl
/-- The first k rows of a table. -/
def allR (c : Nat → Nat → Int) (r : Nat) : Nat → List Int
  | 0 => []
  | k + 1 => allR c r k ++ tab (c k) r
theorem allR_len (c : Nat → Nat → Int) (r : Nat) : ∀ k, (allR c r k).length = k * r
  | 0 => by simp [allR]
  | k + 1 => by rw [allR, List.length_append, allR_len c r k, tab_len, Nat.add_mul, Nat.one_mul]
theorem allR_mem {c : Nat → Nat → Int} {r : Nat} {x : Int} : ∀ {k : Nat}, x ∈ allR c r k ↔ ∃ i j, i < k ∧ j < r ∧ c i j = x
  | 0 => by simp [allR]
  | k + 1 => by
    rw [allR, List.mem_append, allR_mem]
    simp only [tab, List.mem_map, List.mem_range]
    constructor
    · rintro (⟨i, j, h1, h2, h3⟩ | ⟨j, h1, h2⟩)
      · exact ⟨i, j, by omega, h2, h3⟩
      · exact ⟨k, j, by omega, h1, h2⟩
    · rintro ⟨i, j, h1, h2, h3⟩
      by_cases e : i = k
      · subst e; exact .inr ⟨j, h2, h3⟩
      · exact .inl ⟨i, j, by omega, h2, h3⟩
set_option maxHeartbeats 8000000 in
set_option maxRecDepth 100000 in
theorem concatN_ok {m : AM} {cv : Value} {c : Nat → Nat → Int} {l r : Nat} (hT : RT m cv c l r) (hl : l ≤ 32) (hr : r ≤ 32) :
    ACall Try.prog 76 #[cv] m (More (fun M v => (l * r = 0 ∧ v = .slice none 0 0) ∨ (0 < l * r ∧ ∃ N, v = .slice (some ⟨m.length + 0, 0, none⟩) (l * r) (l * r) ∧ M = m ++ (some { cells := iv (allR c r l), kind := .grow, size := 1 } :: N))) m) := by
  obtain ⟨cb, co, c1, c2, c3⟩ := id hT
  have hlr : l * r ≤ 1024 := Nat.mul_le_mul hl hr
  have hkr : ∀ k, k ≤ l → k * r ≤ l * r := fun k hk => Nat.mul_le_mul_right r hk
  have wc : Low m.length cv := Low.of_sl c1 c2
  refine ACall.start Try.func76 rfl rfl ?_
  (repeat (first | (with_reducible refine AWo.cons ?_) | ((with_reducible refine Step.id ?_); first | ((with_reducible apply Step.move); exact rfl; exact rfl) | ((with_reducible apply Step.assign); exact rfl; exact rfl) | ((with_reducible apply Step.len); exact rfl; (focus (assumption)); (focus (decide +kernel)); exact rfl)) | (with_reducible refine AWo.nil ?_) | ((with_reducible apply AW.seq)) | ((with_reducible apply Then.n)) | ((with_reducible apply AW.regL)) | ((with_reducible apply AW.block))))
  refine AW.loopT (fun rk t L => ∃ k : Nat, rk = l - k ∧ k ≤ l ∧ L = [] ∧ t = [(0, cv), (3, .int .i64 (k * r : Nat)), (9, cv), (10, .int .i64 (l : Nat)), (11, .int .i64 (k : Nat))])
    ⟨_, [(0, cv), (3, .int .i64 0), (9, cv), (10, .int .i64 (l : Nat)), (11, .int .i64 0)], _, (Or.inl ⟨rfl, (by repeat (first | exact trivial | (refine And.intro rfl ?_)))⟩), 0, rfl, Nat.zero_le _, rfl, by rw [Nat.zero_mul]; rfl⟩ ?_
  rintro rk t L ⟨k, rfl, hk, rfl, rfl⟩
  have hk1 := hkr k hk
  rcases Nat.lt_or_ge k l with hlt | hge
  · obtain ⟨w, q1, rb, ro, w1, w2, w3⟩ := c3 k hlt
    rw [tab_len] at w1
    have e5 : (((k + 1) * r : Nat) : Int) = ((k * r : Nat) : Int) + (r : Nat) := by rw [Nat.add_mul, Nat.one_mul]; omega
    generalize k * r = kr at *
    (repeat (first | (with_reducible refine AWo.cons ?_) | ((with_reducible refine Step.id ?_); first | ((with_reducible apply Step.move); exact rfl; exact rfl) | ((with_reducible apply Step.assign); exact rfl; exact rfl) | ((with_reducible apply Step.load); exact rfl; (focus (decide +kernel)); exact rfl; (focus (exact q1.old _))) | ((with_reducible apply Step.ix1); exact rfl; (focus (assumption)); exact rfl; (focus (decide +kernel)); exact rfl; (focus (omega))) | ((with_reducible apply Step.add); exact rfl; exact rfl; (focus (omega)); exact rfl) | ((with_reducible apply Step.lss); exact rfl; exact rfl; exact rfl) | ((with_reducible apply Step.len); exact rfl; (focus (assumption)); (focus (decide +kernel)); exact rfl)) | (with_reducible refine AWo.nil ?_) | ((with_reducible apply AW.seq)) | ((with_reducible apply Then.n)) | ((with_reducible apply AW.regL)) | ((with_reducible apply AW.block)) | ((with_reducible apply InBlk.n)) | ((with_reducible apply AW.skip)) | ((with_reducible apply AW.condT); exact rfl; (focus ((simp only [decide_eq_true_eq, decide_eq_false_iff_not, Bool.not_eq_true', Bool.not_eq_false', Bool.not_true, Bool.not_false]; first | assumption | omega)))) | ((with_reducible apply AW.condF); exact rfl; (focus (rfl)))))
    refine ⟨_, [(0, cv), (3, .int .i64 ((kr : Nat) + (r : Nat))), (9, cv), (10, .int .i64 (l : Nat)), (11, .int .i64 ((k + 1 : Nat) : Int))], _, by omega, (Or.inl ⟨rfl, (by repeat (first | exact trivial | (refine And.intro rfl ?_)))⟩), k + 1, rfl, by omega, rfl, ?_⟩
    rw [e5]
  obtain rfl : k = l := by omega
  obtain ⟨n, hnn⟩ : ∃ n, k * r = n := ⟨_, rfl⟩
  rw [hnn] at hlr ⊢
  have hmono : ∀ j, j ≤ k → j * r ≤ n := fun j hj => by rw [← hnn]; exact Nat.mul_le_mul_right r hj
  by_cases h0 : n = 0
  · subst h0
    (repeat (first | (with_reducible refine AWo.cons ?_) | ((with_reducible refine Step.id ?_); first | ((with_reducible apply Step.move); exact rfl; exact rfl) | ((with_reducible apply Step.lss); exact rfl; exact rfl; exact rfl)) | (with_reducible refine AWo.nil ?_) | ((with_reducible apply AW.seq)) | ((with_reducible apply Then.n)) | ((with_reducible apply AW.regL)) | ((with_reducible apply AW.exit)) | ((with_reducible apply InBlk.hit)) | ((with_reducible apply Then.e)) | ((with_reducible apply AW.condF); exact rfl; (focus ((simp only [decide_eq_true_eq, decide_eq_false_iff_not, Bool.not_eq_true', Bool.not_eq_false', Bool.not_true, Bool.not_false]; first | assumption | omega))))))
    ((with_reducible apply Step.callX fit); exact rfl; exact Try.func98; exact rfl; exact rfl; exact ((show ACall Try.prog 98 #[.slice none 0 0, .int .i64 ((0 : Nat) : Int)] (m ++ []) (More (fun M v => v = .slice none 0 0) (m ++ [])) from (grow0_ok (m := m ++ [])).mono fun v M ⟨h1, h2⟩ => ⟨[], by rw [h2, List.append_nil], h1.symm⟩)))
    rintro v M' ⟨N, rfl⟩ rfl
    rw [List.append_nil, List.append_nil]
    (repeat (first | (with_reducible refine AWo.cons ?_) | ((with_reducible refine Step.id ?_); first | ((with_reducible apply Step.move); exact rfl; exact rfl) | ((with_reducible apply Step.assign); exact rfl; exact rfl) | ((with_reducible apply Step.len); exact rfl; (focus (assumption)); (focus (decide +kernel)); exact rfl)) | (with_reducible refine AWo.nil ?_) | ((with_reducible apply AW.seq)) | ((with_reducible apply Then.n)) | ((with_reducible apply AW.regL)) | ((with_reducible apply AW.block))))
    refine AW.loopT (fun rk t L => ∃ j : Nat, rk = k - j ∧ j ≤ k ∧ L = [] ∧ t = [(6, .slice none 0 0), (25, cv), (26, .int .i64 (k : Nat)), (27, .int .i64 (j : Nat))])
      ⟨_, _, _, (Back.trim rfl rfl (by repeat (exact CellsOk.nil)) (by repeat (first | exact trivial | (refine And.intro ⟨rfl, by (first | exact Low.rid (by assumption) (by simp) | exact .int _ _ | exact Ren.of_g0 rfl)⟩ ?_)))), 0, rfl, Nat.zero_le _, rfl, rfl⟩ ?_
    rintro rk t L ⟨j, rfl, hj, rfl, rfl⟩
    rcases Nat.lt_or_ge j k with hlt | hge
    · obtain ⟨w, q1, hX⟩ := c3 j hlt
      have hX0 : tab (c j) r = [] := by
        have := hmono 1 (by omega)
        have : r = 0 := by omega
        subst this; rfl
      rw [hX0] at hX
      (repeat (first | (with_reducible refine AWo.cons ?_) | ((with_reducible refine Step.id ?_); first | ((with_reducible apply Step.move); exact rfl; exact rfl) | ((with_reducible apply Step.assign); exact rfl; exact rfl) | ((with_reducible apply Step.load); exact rfl; (focus (decide +kernel)); exact rfl; (focus (exact q1.old _))) | ((with_reducible apply Step.ix1); exact rfl; (focus (assumption)); exact rfl; (focus (decide +kernel)); exact rfl; (focus (omega))) | ((with_reducible apply Step.lss); exact rfl; exact rfl; exact rfl)) | (with_reducible refine AWo.nil ?_) | ((with_reducible apply AW.seq)) | ((with_reducible apply Then.n)) | ((with_reducible apply AW.regL)) | ((with_reducible apply AW.block)) | ((with_reducible apply AW.skip)) | ((with_reducible apply AW.condT); exact rfl; (focus ((simp only [decide_eq_true_eq, decide_eq_false_iff_not, Bool.not_eq_true', Bool.not_eq_false', Bool.not_true, Bool.not_false]; first | assumption | omega))))))
      ((with_reducible apply Step.app00); exact rfl; exact rfl; exact rfl; exact (hX.old _); exact el27; exact un27; exact rfl; exact rfl; (focus (first | (simp only [List.nil_append, List.cons_append, List.set_cons_zero, List.set_cons_succ, iv_set, bv_set, iv_rep, bv_rep]; done) | (simp only [List.nil_append, List.cons_append, List.set_cons_zero, List.set_cons_succ, iv_set, bv_set, iv_rep, bv_rep]; rfl) | rfl)))
      (repeat (first | (with_reducible refine AWo.cons ?_) | ((with_reducible refine Step.id ?_); first | ((with_reducible apply Step.move); exact rfl; exact rfl) | ((with_reducible apply Step.assign); exact rfl; exact rfl) | ((with_reducible apply Step.add); exact rfl; exact rfl; (focus (omega)); exact rfl)) | (with_reducible refine AWo.nil ?_) | ((with_reducible apply Then.n)) | ((with_reducible apply AW.regL)) | ((with_reducible apply InBlk.n))))
      exact ⟨_, _, _, by omega, (Back.trim rfl rfl (by repeat (exact CellsOk.nil)) (by repeat (first | exact trivial | (refine And.intro ⟨rfl, by (first | exact Low.rid (by assumption) (by simp) | exact .int _ _ | exact Ren.of_g0 rfl)⟩ ?_)))), j + 1, rfl, by omega, rfl, rfl⟩
    · (repeat (first | (with_reducible refine AWo.cons ?_) | ((with_reducible refine Step.id ?_); first | ((with_reducible apply Step.move); exact rfl; exact rfl) | ((with_reducible apply Step.assign); exact rfl; exact rfl) | ((with_reducible apply Step.lss); exact rfl; exact rfl; exact rfl)) | (with_reducible refine AWo.nil ?_) | ((with_reducible apply AW.seq)) | ((with_reducible apply Then.n)) | ((with_reducible apply AW.regL)) | ((with_reducible apply AW.exit)) | ((with_reducible apply InBlk.hit)) | ((with_reducible apply Then.e)) | ((with_reducible apply AW.condF); exact rfl; (focus ((simp only [decide_eq_true_eq, decide_eq_false_iff_not, Bool.not_eq_true', Bool.not_eq_false', Bool.not_true, Bool.not_false]; first | assumption | omega))))))
      (refine AW.ret ?_; (repeat (first | refine Then.r ?_ | refine InBlk.r ?_)))
      exact ⟨_, rfl, _, rfl, .inl ⟨rfl, rfl⟩⟩
  · (repeat (first | (with_reducible refine AWo.cons ?_) | ((with_reducible refine Step.id ?_); first | ((with_reducible apply Step.move); exact rfl; exact rfl) | ((with_reducible apply Step.lss); exact rfl; exact rfl; exact rfl)) | (with_reducible refine AWo.nil ?_) | ((with_reducible apply AW.seq)) | ((with_reducible apply Then.n)) | ((with_reducible apply AW.regL)) | ((with_reducible apply AW.exit)) | ((with_reducible apply InBlk.hit)) | ((with_reducible apply Then.e)) | ((with_reducible apply AW.condF); exact rfl; (focus ((simp only [decide_eq_true_eq, decide_eq_false_iff_not, Bool.not_eq_true', Bool.not_eq_false', Bool.not_true, Bool.not_false]; first | assumption | omega))))))
    ((with_reducible apply Step.callX fit); exact rfl; exact Try.func98; exact rfl; exact rfl; exact (growN_ok (m := m ++ []) (show 0 < n by omega) (by omega)))
    rintro v M' _ ⟨rfl, rfl⟩
    rw [List.append_nil, List.append_nil]
    (repeat (first | (with_reducible refine AWo.cons ?_) | ((with_reducible refine Step.id ?_); first | ((with_reducible apply Step.move); exact rfl; exact rfl) | ((with_reducible apply Step.assign); exact rfl; exact rfl) | ((with_reducible apply Step.len); exact rfl; (focus (assumption)); (focus (decide +kernel)); exact rfl)) | (with_reducible refine AWo.nil ?_) | ((with_reducible apply AW.seq)) | ((with_reducible apply Then.n)) | ((with_reducible apply AW.regL)) | ((with_reducible apply AW.block))))
    refine AW.loopT (fun rk t L => ∃ j : Nat, rk = k - j ∧ j ≤ k ∧ L = [some { cells := iv (allR c r j) ++ iv (List.replicate (n - j * r) 0), kind := .grow, size := 1 }] ∧ t = [(6, .slice (some ⟨m.length + 0, 0, none⟩) (j * r) n), (25, cv), (26, .int .i64 (k : Nat)), (27, .int .i64 (j : Nat))])
      ⟨_, [(6, .slice (some ⟨m.length + 0, 0, none⟩) 0 n), (25, cv), (26, .int .i64 (k : Nat)), (27, .int .i64 0)], [some { cells := List.replicate n (.int .i64 0), kind := .grow, size := 1 }], (Or.inl ⟨rfl, (by repeat (first | exact trivial | (refine And.intro rfl ?_)))⟩), 0, rfl, Nat.zero_le _, by simp [iv, allR], by rw [Nat.zero_mul]; rfl⟩ ?_
    rintro rk t L ⟨j, rfl, hj, rfl, rfl⟩
    rcases Nat.lt_or_ge j k with hlt | hge
    · obtain ⟨w, q1, hX⟩ := c3 j hlt
      obtain ⟨rb, ro, w1, w2, w3⟩ := id hX
      have hF : allR c r (j + 1) = allR c r j ++ tab (c j) r := rfl
      have hFl := allR_len c r j
      have hj1 := hmono (j + 1) (by omega)
      have e2 : j * r + r = (j + 1) * r := by rw [Nat.add_mul, Nat.one_mul]
      have e1 : iv (allR c r j) ++ (iv (tab (c j) r) ++ iv (List.replicate (n - (j + 1) * r) 0)) = iv (allR c r (j + 1)) ++ iv (List.replicate (n - (j + 1) * r) 0) := by rw [hF]; simp [iv]
      have e3 : iv (allR c r j) ++ iv (List.replicate (n - j * r) 0) = iv (allR c r j) ++ (iv (List.replicate r 0) ++ iv (List.replicate (n - (j + 1) * r) 0)) := by
        have : List.replicate (n - j * r) (0 : Int) = List.replicate r 0 ++ List.replicate (n - (j + 1) * r) 0 := by
          rw [List.replicate_append_replicate, show r + (n - (j + 1) * r) = n - j * r by omega]
        rw [this]; simp [iv]
      have e4 : (tab (c j) r).length = r := tab_len _ _
      have g0f : ∀ v ∈ iv (allR c r (j + 1)) ++ iv (List.replicate (n - (j + 1) * r) 0), g0 v = true := fun v hv => (List.mem_append.1 hv).elim (g0_iv _ v) (g0_iv _ v)
      rw [e4] at w1
      generalize hX' : tab (c j) r = X at *
      generalize j * r = jr at *
      generalize hjr1 : (j + 1) * r = jr1 at *
      (repeat (first | (with_reducible refine AWo.cons ?_) | ((with_reducible refine Step.id ?_); first | ((with_reducible apply Step.move); exact rfl; exact rfl) | ((with_reducible apply Step.assign); exact rfl; exact rfl) | ((with_reducible apply Step.load); exact rfl; (focus (decide +kernel)); exact rfl; (focus (exact q1.old _))) | ((with_reducible apply Step.ix1); exact rfl; (focus (assumption)); exact rfl; (focus (decide +kernel)); exact rfl; (focus (omega))) | ((with_reducible apply Step.lss); exact rfl; exact rfl; exact rfl)) | (with_reducible refine AWo.nil ?_) | ((with_reducible apply AW.seq)) | ((with_reducible apply Then.n)) | ((with_reducible apply AW.regL)) | ((with_reducible apply AW.block)) | ((with_reducible apply AW.skip)) | ((with_reducible apply AW.condT); exact rfl; (focus ((simp only [decide_eq_true_eq, decide_eq_false_iff_not, Bool.not_eq_true', Bool.not_eq_false', Bool.not_true, Bool.not_false]; first | assumption | omega))))))
      ((with_reducible apply Step.appW (q := 0) (c := iv (allR c r j)) (old := iv (List.replicate r 0)) (Z := iv (List.replicate (n - jr1) 0))); exact rfl; exact rfl; exact rfl; exact (hX.old _); exact el27; exact un27; exact rfl; exact rfl; exact e3; (focus (rw [iv_len, hFl])); (focus (simp [iv, e4])); (focus (omega)); exact rfl; (focus (first | (simp only [List.nil_append, List.cons_append, List.set_cons_zero, List.set_cons_succ, iv_set, bv_set, iv_rep, bv_rep]; done) | (simp only [List.nil_append, List.cons_append, List.set_cons_zero, List.set_cons_succ, iv_set, bv_set, iv_rep, bv_rep]; rfl) | rfl)))
      rw [e1, e4, e2]
      (repeat (first | (with_reducible refine AWo.cons ?_) | ((with_reducible refine Step.id ?_); first | ((with_reducible apply Step.move); exact rfl; exact rfl) | ((with_reducible apply Step.assign); exact rfl; exact rfl) | ((with_reducible apply Step.add); exact rfl; exact rfl; (focus (omega)); exact rfl)) | (with_reducible refine AWo.nil ?_) | ((with_reducible apply Then.n)) | ((with_reducible apply AW.regL)) | ((with_reducible apply InBlk.n))))
      exact ⟨_, [(6, .slice (some ⟨m.length + 0, 0, none⟩) jr1 n), (25, cv), (26, .int .i64 (k : Nat)), (27, .int .i64 ((j + 1 : Nat) : Int))], [some { cells := iv (allR c r (j + 1)) ++ iv (List.replicate (n - jr1) 0), kind := .grow, size := 1 }], by omega, (Back.trim rfl rfl (by repeat (first | exact CellsOk.nil | refine CellsOk.cons (by assumption) ?_)) (by repeat (first | exact trivial | (refine And.intro ⟨rfl, by (first | exact Low.rid (by assumption) (by simp) | exact .int _ _ | exact .slice _ _ _ _ (by first | (simp; done) | omega | (simp; omega)))⟩ ?_)))), j + 1, rfl, by omega, by rw [hjr1], by rw [hjr1]⟩
    · obtain rfl : j = k := by omega
      rw [hnn]
      (repeat (first | (with_reducible refine AWo.cons ?_) | ((with_reducible refine Step.id ?_); first | ((with_reducible apply Step.move); exact rfl; exact rfl) | ((with_reducible apply Step.assign); exact rfl; exact rfl) | ((with_reducible apply Step.lss); exact rfl; exact rfl; exact rfl)) | (with_reducible refine AWo.nil ?_) | ((with_reducible apply AW.seq)) | ((with_reducible apply Then.n)) | ((with_reducible apply AW.regL)) | ((with_reducible apply AW.exit)) | ((with_reducible apply InBlk.hit)) | ((with_reducible apply Then.e)) | ((with_reducible apply AW.condF); exact rfl; (focus ((simp only [decide_eq_true_eq, decide_eq_false_iff_not, Bool.not_eq_true', Bool.not_eq_false', Bool.not_true, Bool.not_false]; first | assumption | omega))))))
      (refine AW.ret ?_; (repeat (first | refine Then.r ?_ | refine InBlk.r ?_)))
      exact ⟨_, rfl, _, rfl, .inr ⟨by omega, [], rfl, by rw [Nat.sub_self]; simp [iv]⟩⟩
set_option maxRecDepth 100000 in
theorem neg_ok {m : AM} {x : Int} : ACall Try.prog 85 #[.int .i64 x] m (Ret (.bool (decide (x < 0))) m) := by
  refine ACall.start Try.func85 rfl rfl ?_
  (repeat (first | (with_reducible refine AWo.cons ?_) | ((with_reducible refine Step.id ?_); first | ((with_reducible apply Step.move); exact rfl; exact rfl) | ((with_reducible apply Step.assign); exact rfl; exact rfl) | ((with_reducible apply Step.lss); exact rfl; exact rfl; exact rfl)) | (with_reducible refine AWo.nil ?_) | ((with_reducible apply AW.seq)) | ((with_reducible apply Then.n)) | ((with_reducible apply AW.regL))))
  (refine AW.retD (l := [(2, _)]) (by repeat (first | exact trivial | (refine And.intro ⟨rfl, by (exact .bool _)⟩ ?_))) ?_; (repeat (first | refine Then.r ?_ | refine InBlk.r ?_)))
  exact ⟨_, rfl, rfl, rfl⟩
def srt (l : List Int) : List Int := l.mergeSort (fun x y => decide (x ≤ y))
theorem srt_len (l : List Int) : (srt l).length = l.length := by simp [srt]
theorem srt_mem {l : List Int} {x : Int} : x ∈ srt l ↔ x ∈ l := by unfold srt; exact (List.mergeSort_perm l _).mem_iff
theorem srt_pw (l : List Int) : (srt l).Pairwise (· ≤ ·) := by
  have := List.pairwise_mergeSort (le := fun x y : Int => decide (x ≤ y)) (fun a b c h1 h2 => by simp at h1 h2 ⊢; omega) (fun a b => by simp; omega) l
  exact this.imp (fun h => by simpa using h)
end Go.Proofs.Ytajpngnphbdnnaa.Abs
