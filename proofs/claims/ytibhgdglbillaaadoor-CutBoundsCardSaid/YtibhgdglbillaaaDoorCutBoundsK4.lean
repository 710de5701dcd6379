/- Proved here: what the proof of CutBounds rests on, part 4 of 4. Conditions: those that each theorem names. -/
import Derived.Test.YtibhgdglbillaaaDoorCutBoundsK3
namespace Go.Proofs.YtibhgdglbillaaaDoor.Abs
set_option linter.unusedSimpArgs false
set_option linter.unusedVariables false
open Go.RowKit
open Go.Proofs.YtibhgdglbillaaaDoor.Sim
open Go.Proofs
set_option maxHeartbeats 8000000 in
set_option maxRecDepth 100000 in
theorem checkc_ok {m1 m T : AM} {p q a3 a4 : Nat} {tv : Value} {t : List Int} {B : Brd} {K : List Kd} (hm : ∃ N, m = m1 ++ N) (hB : BoardAt m1 p B K) (hg : goodB B K = true) (hq1 : m1.length ≤ q) (hq : q < m.length)
    (h3 : Rd m a3 0 tv) (h4 : Rd m a4 0 (.pointer (some ⟨p, 0, none⟩))) (n3 : a3 ≠ q) (n4 : a4 ≠ q) (ht : Ints m1 tv t) (hl : t.length = total (bw B) (bh B)) (hi : ∀ i, 0 ≤ t.getD i 0 ∧ t.getD i 0 ≤ 9223372036854775807)
    {r : R4} (hr : r.ok (bw B) (bh B)) (b : Bool) :
    ACall Tryd.prog 79 #[r.rc.v, .int .i64 (r.at (bw B) (bh B) : Nat), .pointer (some ⟨q, 0, none⟩), .pointer (some ⟨a3, 0, none⟩), .pointer (some ⟨a4, 0, none⟩)] (MC m q [.bool b] ++ T)
      (Ret (.tuple #[]) (MC m q [.bool (b && okR (leafM B K) (bw B) (bh B) t r)] ++ T)) := by
  have hgb : boardB B = true := by simp only [goodB, Bool.and_eq_true] at hg; exact hg.1
  have hin := good_in hgb
  have hrl := hr
  simp only [R4.ok] at hrl
  have hat := fun (r' : R4) (h : r'.ok (bw B) (bh B)) => at_lt hin.2.2.2 hin.2.1 h
  rw [← hl] at hat
  have hBv : ∀ c T', BoardAt (MC m q c ++ T') p B K := fun u T' => by
    obtain ⟨N, rfl⟩ := hm
    obtain ⟨N', hN'⟩ := set_high (N := N) hq1 (some { cells := u })
    unfold MC
    rw [hN', List.append_assoc]
    exact hB.old _
  have hIv : ∀ c T', Ints (MC m q c ++ T') tv t := fun c T' => by
    obtain ⟨N, hN⟩ := hm
    exact (MC.ints hN hq1 ht).old T'
  obtain ⟨A, O, sl, la, _⟩ := id ht
  obtain ⟨q', c', rfl⟩ := sl.shape
  have rd : ∀ c T' k, k < t.length → Rd (MC m q c ++ T') A (O + k) (.int .i64 (t.getD k 0)) := fun c T' k hk => by
    obtain ⟨N, rfl⟩ := hm
    obtain ⟨N', hN'⟩ := set_high (N := N) hq1 (some { cells := c })
    obtain ⟨A2, O2, sl2, la2, rd2⟩ := ht
    unfold MC
    rw [hN', List.append_assoc]
    rcases sl with ⟨_, h⟩ | ⟨c1, _, e1⟩ | ⟨h, _⟩
    · omega
    · rcases sl2 with ⟨_, h⟩ | ⟨c2, _, e2⟩ | ⟨h, _⟩
      · omega
      · rw [e1] at e2
        injection e2 with e2
        injection e2 with e2
        injection e2 with e3 e4
        subst e3 e4
        exact (rd2 k hk).old _
      · omega
    · omega
  have hlm : ∀ c, (MC m q c ++ T).length = (MC m q [.bool b] ++ T).length := fun c => by simp [MC.len]
  have z3 : ∀ c T', Rd (MC m q c ++ T') a3 0 (.slice q' t.length c') := fun u T' => (MC.rd n3 h3).old T'
  have z4 : ∀ c T', Rd (MC m q c ++ T') a4 0 (.pointer (some ⟨p, 0, none⟩)) := fun u T' => (MC.rd n4 h4).old T'
  have zq : ∀ c T', (MC m q [c] ++ T')[q]? = some (some { cells := [c] }) := fun u T' => get_old _ (MC.at hq)
  have zb : ∀ c T', Rd (MC m q [c] ++ T') q 0 c := fun c T' => ⟨_, zq c T', rfl⟩
  have tw := fun c T' => (hBv c T').w
  have th := fun c T' => (hBv c T').h
  have hL := fun c T' => leaf_ok (hBv c T') hg hr
  have hlen := fun M d => length_ok (m := M) r d
  have hP := fun M d i h1 h2 => part_ok (m := M) r d (i := i) h1 h2 (by omega)
  have hN := fun M (r' : R4) (h : r'.ok (bw B) (bh B)) => num_ok (m := M) hin.2.2.2 hin.2.1 h
  have hlf := leafM_in hg r
  have hpos := fun d => len_pos d hr
  have hle := fun d => len_le d hin.2.2.2 hin.2.1 hr
  have hlo := fun d i h1 h2 => lo_ok (d := d) (i := i) hr h1 h2
  have hhi := fun d i h1 h2 => hi_ok (d := d) (i := i) hr h1 h2
  have hmem : ∀ (c c2 : Value) (T' : AM), (MC m q [c] ++ T').set q (some { cells := [c].set 0 c2 }) = MC m q [c2] ++ T' := fun c c2 T' => MC.set hq T'
  have hok : okR (leafM B K) (bw B) (bh B) t r = (decide (leafM B K r ≤ t.getD (r.at (bw B) (bh B)) 0) && cutOk (bw B) (bh B) t r true (r.len true - 1) && cutOk (bw B) (bh B) t r false (r.len false - 1)) := rfl
  have hst : ∀ d k, cutOk (bw B) (bh B) t r d (k + 1) = (cutOk (bw B) (bh B) t r d k && decide (t.getD ((r.lo d (k + 1)).at (bw B) (bh B)) 0 + t.getD ((r.hi d (k + 1)).at (bw B) (bh B)) 0 ≤ t.getD (r.at (bw B) (bh B)) 0)) := fun d k => rfl
  change ∀ c T', ACall Tryd.prog 71 #[_, .agg r.rc.cells.toArray] _ _ at hL
  change ∀ M d, ACall Tryd.prog 80 #[.agg r.rc.cells.toArray, _] _ _ at hlen
  change ∀ M d i, _ → _ → ACall Tryd.prog 81 #[.agg r.rc.cells.toArray, _, _] _ (Ret (.tuple #[.agg (r.lo d i).rc.cells.toArray, .agg (r.hi d i).rc.cells.toArray]) _) at hP
  change ∀ M (r' : R4), _ → ACall Tryd.prog 63 #[_, _, .agg r'.rc.cells.toArray] _ _ at hN
  change ACall Tryd.prog 79 #[.agg r.rc.cells.toArray, _, _, _, _] _ _
  have hrat := hat r hr
  rw [hok]
  have hg0 : ∀ (r : R4), ∀ v ∈ r.rc.cells, g0 v = true := fun r v hv => by
    simp [Rc.cells] at hv
    rcases hv with rfl | rfl | rfl | rfl <;> rfl
  have hr0 := hg0 r
  generalize hrr : r.rc = rr at *
  generalize hnn : r.at (bw B) (bh B) = n at *
  have x1 := hi n
  have rdn : ∀ c T', Rd (MC m q c ++ T') A (O + n) (.int .i64 (t.getD n 0)) := fun c T' => rd c T' n hrat
  refine ACall.start Tryd.func79 rfl rfl ?_
  (repeat (first | (with_reducible refine AWo.cons ?_) | ((with_reducible refine Step.id ?_); ((with_reducible apply Step.box 0); exact rfl; exact rfl; (focus (kernel_rfl)); exact rfl; (focus (first | (simp only [List.nil_append, List.cons_append, List.set_cons_zero, List.set_cons_succ, iv_set, bv_set, iv_rep, bv_rep]; done) | (simp only [List.nil_append, List.cons_append, List.set_cons_zero, List.set_cons_succ, iv_set, bv_set, iv_rep, bv_rep]; rfl) | rfl)))) | (with_reducible refine AWo.nil ?_) | ((fail_if_success (with_reducible refine AW.atR (id := 1) ?_)); ((with_reducible apply AW.seq))) | ((with_reducible apply Then.n)) | ((with_reducible apply AW.regL))))
  rw [List.append_assoc]
  change AW _ _ _ _ _ (MC m q [.bool b] ++ (T ++ [some { cells := rr.cells }])) _
  have r5 : ∀ c X, RdL (MC m q c ++ (T ++ (some { cells := rr.cells } :: X))) ((MC m q [.bool b] ++ T).length + 0) 0 rr.cells := fun u X => by
    rw [← List.append_assoc, ← hlm u]; exact RdL.new rfl rfl
  generalize hbp : (MC m q [.bool b] ++ T).length + 0 = bp at *
  refine AW.joinS [(1, .int .i64 (n : Nat)), (2, .pointer (some ⟨q, 0, none⟩)), (3, .pointer (some ⟨a3, 0, none⟩)), (4, .pointer (some ⟨a4, 0, none⟩)), (5, .pointer (some ⟨bp, 0, none⟩))] (MC m q [.bool (b && decide (leafM B K r ≤ t.getD n 0))] ++ (T ++ [some { cells := rr.cells }])) ?_ ?_
  · refine AW.flatM fit [(1, .int .i64 (n : Nat)), (2, .pointer (some ⟨q, 0, none⟩)), (3, .pointer (some ⟨a3, 0, none⟩)), (4, .pointer (some ⟨a4, 0, none⟩)), (5, .pointer (some ⟨bp, 0, none⟩))] [1, 2, 3, 4, 5] [[], [0], [0], [1], [1, 0, 2], [0, 3], [4], [5], [1, 0, 6, 6], [3, 0, 7], [8, 0], [0, 2, 10, 9, 8, 7, 6, 5, 4, 3, 2, 1, 0]] (by repeat (first | exact trivial | (refine And.intro rfl ?_))) rfl (by decide +kernel) ?_
    cases b with
    | false =>
      (repeat (first | ((with_reducible refine Step.id ?_); first | ((with_reducible apply Step.gdF); exact rfl; exact rfl; (focus (rfl))) | ((with_reducible apply Step.move); exact rfl; exact rfl) | ((with_reducible apply Step.load); exact rfl; (focus (decide +kernel)); exact rfl; (focus (exact zb _ _))) | ((with_reducible apply Step.pickF); exact rfl; exact rfl; exact rfl; exact rfl; (focus (rfl)))) | (apply AWfL.cons; exact rfl) | ((with_reducible apply AWfL.last)) | exact ⟨put_same _ _ _, rfl⟩))
      ((with_reducible apply Step.storeC); exact rfl; exact rfl; exact (zq _ _); exact rfl; (focus (decide +kernel)); exact rfl; exact rfl; (focus (simp)))
      rw [hmem]
      intro t2 ht2
      exact ⟨rfl, by repeat (first | exact trivial | refine And.intro (ht2 _ _ rfl) ?_)⟩
    | true =>
      (repeat (first | ((with_reducible refine Step.id ?_); first | ((with_reducible apply Step.gdT); exact rfl; exact rfl; (focus (rfl))) | ((with_reducible apply Step.move); exact rfl; exact rfl) | ((with_reducible apply Step.load); exact rfl; (focus (decide +kernel)); exact rfl; (focus (first | exact zb _ _ | exact z3 _ _ | exact z4 _ _ | exact rdn _ _))) | ((with_reducible apply Step.loadL (n := 4)); exact rfl; (focus (decide +kernel)); (focus (decide +kernel)); exact rfl; (focus (exact r5 _ _)); exact rfl; exact rfl) | ((with_reducible apply Step.ix1); exact rfl; (focus (assumption)); exact rfl; (focus (decide +kernel)); exact rfl; (focus (omega))) | ((with_reducible apply Step.geq); exact rfl; exact rfl; exact rfl) | ((with_reducible apply Step.pickT); exact rfl; exact rfl; exact rfl; exact rfl; (focus (rfl))) | ((with_reducible apply Step.callR fit); exact rfl; exact Tryd.func71; exact rfl; exact rfl; exact (hL _ _))) | (apply AWfL.cons; exact rfl) | ((with_reducible apply AWfL.last)) | exact ⟨put_same _ _ _, rfl⟩))
      ((with_reducible apply Step.storeC); exact rfl; exact rfl; exact (zq _ _); exact rfl; (focus (decide +kernel)); exact rfl; exact rfl; (focus (simp)))
      rw [hmem]
      intro t2 ht2
      exact ⟨by rw [Bool.true_and], by repeat (first | exact trivial | refine And.intro (ht2 _ _ rfl) ?_)⟩
  have hfin : (b && (decide (leafM B K r ≤ t.getD n 0) && cutOk (bw B) (bh B) t r true (r.len true - 1) && cutOk (bw B) (bh B) t r false (r.len false - 1))) = okW (bw B) (bh B) t r (b && decide (leafM B K r ≤ t.getD n 0)) 2 := by
    simp only [okW, Bool.and_assoc]; rfl
  rw [hfin]
  generalize (b && decide (leafM B K r ≤ t.getD n 0)) = w0
  have hW : ∀ k, okW (bw B) (bh B) t r w0 (k + 1) = (okW (bw B) (bh B) t r w0 k && cutOk (bw B) (bh B) t r (k == 0) (r.len (k == 0) - 1)) := fun k => rfl
  have hW0 : okW (bw B) (bh B) t r w0 0 = w0 := rfl
  generalize okW (bw B) (bh B) t r w0 = W at *
  clear hok hfin
  (repeat (first | (with_reducible refine AWo.cons ?_) | ((with_reducible refine Step.id ?_); ((with_reducible apply Step.assign); exact rfl; exact rfl)) | (with_reducible refine AWo.nil ?_) | ((with_reducible apply AW.seq)) | ((with_reducible apply Then.n)) | ((with_reducible apply AW.regL)) | ((with_reducible apply AW.block))))
  refine AW.loopW (fun rk t M => ∃ k : Nat, rk = 2 - k ∧ k ≤ 2 ∧ M = MC m q [.bool (W k)] ++ (T ++ [some { cells := rr.cells }]) ∧ t = fr [(1, .int .i64 (n : Nat)), (2, .pointer (some ⟨q, 0, none⟩)), (3, .pointer (some ⟨a3, 0, none⟩)), (4, .pointer (some ⟨a4, 0, none⟩)), (5, .pointer (some ⟨bp, 0, none⟩)), (7, .int .i64 (2 + k : Nat))])
    ⟨_, _, (by repeat (first | exact trivial | (refine And.intro rfl ?_))), 0, rfl, Nat.zero_le _, by rw [hW0], rfl⟩ ?_
  rintro rk t0 M ⟨k, rfl, hk, rfl, rfl⟩
  have hgo : ∀ k, k ≤ 2 → (k = 2 ∨ W k = false) → W k = W 2 := fun k hk h => by
    rcases h with rfl | h
    · rfl
    · rcases (show k = 0 ∨ k = 1 ∨ k = 2 by omega) with rfl | rfl | rfl
      · rw [h, hW 1, hW 0, h]; rfl
      · rw [h, hW 1, h]; rfl
      · rfl
  have hcell0 : ∀ b, some b ∈ ([] : AM) → isMapK b.kind = false ∧ ∀ x ∈ b.cells, g0 x = true := fun b hb => by simp at hb
  by_cases hx : k = 2 ∨ W k = false
  · have hwk := hgo k hk hx
    rw [← List.append_assoc]
    refine AW.gc (Gc.cut (l := [(2, .pointer (some ⟨q, 0, none⟩)), (7, .int .i64 (2 + k : Nat))]) (by rw [hlm [.bool (W k)]]; exact Nat.le_refl _) (fun j bb hj => ?_) ?_) ?_
    · have := MC.cut (m := m) (c := [.bool b]) (c' := [.bool (W k)]) hq (fun x hx => by simp at hx; subst hx; rfl) T [] hcell0 (MC m q [.bool (W k)] ++ T).length j bb (by rw [List.append_nil]; exact hj)
      exact this
    · have wq : Low (MC m q [.bool (W k)] ++ T).length (.pointer (some ⟨q, 0, none⟩)) := Low.ptr (by rw [List.length_append, MC.len]; omega)
      exact (by repeat (first | exact trivial | (refine And.intro ⟨rfl, by (first | exact Low.rid (by assumption) (by simp) | exact .int _ _)⟩ ?_)))
    · rcases hx with rfl | hx
      · (repeat (first | (with_reducible refine AWo.cons ?_) | ((with_reducible refine Step.id ?_); first | ((with_reducible apply Step.gdF); exact rfl; exact rfl; (focus (rfl))) | ((with_reducible apply Step.move); exact rfl; exact rfl) | ((with_reducible apply Step.leq); exact rfl; exact rfl; exact rfl) | ((with_reducible apply Step.pickF); exact rfl; exact rfl; exact rfl; exact rfl; (focus (rfl)))) | (with_reducible refine AWo.nil ?_) | ((with_reducible apply AW.seq)) | ((with_reducible apply Then.n)) | ((with_reducible apply AW.regL)) | ((with_reducible apply AW.exit)) | ((with_reducible apply InBlk.hit)) | ((with_reducible apply Then.e)) | ((with_reducible apply AW.condF); exact rfl; (focus (rfl)))))
        exact ⟨_, rfl, rfl, by rw [hwk]⟩
      · rcases Nat.lt_or_ge k 2 with hk2 | hk2
        · have zf : ∀ T', Rd (MC m q [.bool (W k)] ++ T') q 0 (.bool false) := fun T' => by
            have := zb (.bool (W k)) T'
            rw [hx] at this ⊢
            exact this
          (repeat (first | (with_reducible refine AWo.cons ?_) | ((with_reducible refine Step.id ?_); first | ((with_reducible apply Step.gdT); exact rfl; exact rfl; (focus ((simp only [decide_eq_true_eq, decide_eq_false_iff_not, Bool.not_eq_true', Bool.not_eq_false', Bool.not_true, Bool.not_false]; first | assumption | omega)))) | ((with_reducible apply Step.move); exact rfl; exact rfl) | ((with_reducible apply Step.load); exact rfl; (focus (decide +kernel)); exact rfl; (focus (exact zf _))) | ((with_reducible apply Step.leq); exact rfl; exact rfl; exact rfl) | ((with_reducible apply Step.pickT); exact rfl; exact rfl; exact rfl; exact rfl; (focus ((simp only [decide_eq_true_eq, decide_eq_false_iff_not, Bool.not_eq_true', Bool.not_eq_false', Bool.not_true, Bool.not_false]; first | assumption | omega))))) | (with_reducible refine AWo.nil ?_) | ((with_reducible apply AW.seq)) | ((with_reducible apply Then.n)) | ((with_reducible apply AW.regL)) | ((with_reducible apply AW.exit)) | ((with_reducible apply InBlk.hit)) | ((with_reducible apply Then.e)) | ((with_reducible apply AW.condF); exact rfl; (focus (rfl)))))
          exact ⟨_, rfl, rfl, by rw [hwk]⟩
        · obtain rfl : k = 2 := by omega
          (repeat (first | (with_reducible refine AWo.cons ?_) | ((with_reducible refine Step.id ?_); first | ((with_reducible apply Step.gdF); exact rfl; exact rfl; (focus (rfl))) | ((with_reducible apply Step.move); exact rfl; exact rfl) | ((with_reducible apply Step.leq); exact rfl; exact rfl; exact rfl) | ((with_reducible apply Step.pickF); exact rfl; exact rfl; exact rfl; exact rfl; (focus (rfl)))) | (with_reducible refine AWo.nil ?_) | ((with_reducible apply AW.seq)) | ((with_reducible apply Then.n)) | ((with_reducible apply AW.regL)) | ((with_reducible apply AW.exit)) | ((with_reducible apply InBlk.hit)) | ((with_reducible apply Then.e)) | ((with_reducible apply AW.condF); exact rfl; (focus (rfl)))))
          exact ⟨_, rfl, rfl, rfl⟩
  · have hk2 : k < 2 := by omega
    have hwk : W k = true := by
      cases e : W k with
      | true => rfl
      | false => exact absurd (.inr e) hx
    have hop : ((2 + k : Nat) : Int) = opI (k == 0) := by
      rcases (show k = 0 ∨ k = 1 by omega) with rfl | rfl <;> rfl
    have hWk := hW k
    rw [hwk, Bool.true_and] at hWk
    rw [hwk]
    have hpd := hpos (k == 0)
    have hld := hle (k == 0)
    have hPd := fun M i => hP M (k == 0) i
    have hlend := fun M => hlen M (k == 0)
    have hlod := fun i => hlo (k == 0) i
    have hhid := fun i => hhi (k == 0) i
    have hstd := fun i => hst (k == 0) i
    have hc0 : cutOk (bw B) (bh B) t r (k == 0) 0 = true := rfl
    rw [← hop] at hPd hlend
    generalize (k == 0) = d at *
    generalize hC : cutOk (bw B) (bh B) t r d = C at *
    (repeat (first | (with_reducible refine AWo.cons ?_) | ((with_reducible refine Step.id ?_); first | ((with_reducible apply Step.gdT); exact rfl; exact rfl; (focus ((simp only [decide_eq_true_eq, decide_eq_false_iff_not, Bool.not_eq_true', Bool.not_eq_false', Bool.not_true, Bool.not_false]; first | assumption | omega)))) | ((with_reducible apply Step.move); exact rfl; exact rfl) | ((with_reducible apply Step.assign); exact rfl; exact rfl) | ((with_reducible apply Step.load); exact rfl; (focus (decide +kernel)); exact rfl; (focus (exact zb _ _))) | ((with_reducible apply Step.leq); exact rfl; exact rfl; exact rfl) | ((with_reducible apply Step.pickT); exact rfl; exact rfl; exact rfl; exact rfl; (focus ((simp only [decide_eq_true_eq, decide_eq_false_iff_not, Bool.not_eq_true', Bool.not_eq_false', Bool.not_true, Bool.not_false]; first | assumption | omega))))) | (with_reducible refine AWo.nil ?_) | ((with_reducible apply AW.seq)) | ((with_reducible apply Then.n)) | ((with_reducible apply AW.regL)) | ((with_reducible apply AW.block)) | ((with_reducible apply AW.skip)) | ((with_reducible apply AW.condT); exact rfl; (focus (rfl)))))
    refine AW.loopW (fun rk t0 M => ∃ i : Nat, rk = r.len d - 1 - i ∧ i + 1 ≤ r.len d ∧ M = MC m q [.bool (C i)] ++ (T ++ [some { cells := rr.cells }]) ∧ t0 = fr [(1, .int .i64 (n : Nat)), (2, .pointer (some ⟨q, 0, none⟩)), (3, .pointer (some ⟨a3, 0, none⟩)), (4, .pointer (some ⟨a4, 0, none⟩)), (5, .pointer (some ⟨bp, 0, none⟩)), (7, .int .i64 (2 + k : Nat)), (8, .int .i64 (i + 1 : Nat))])
      ⟨_, _, (by repeat (first | exact trivial | (refine And.intro rfl ?_))), 0, rfl, by omega, by rw [hc0], rfl⟩ ?_
    rintro rk t0 M ⟨i, rfl, hi1, rfl, rfl⟩
    rcases Nat.lt_or_ge (i + 1) (r.len d) with hlt | hge
    · have o1 := hlod (i + 1) (by omega) (by omega)
      have o2 := hhid (i + 1) (by omega) (by omega)
      have d1 := fun c T' => rd c T' _ (hat _ o1)
      have d2 := fun c T' => rd c T' _ (hat _ o2)
      have y1 := hat _ o1
      have y2 := hat _ o2
      have n1 := fun M => hN M _ o1
      have n2 := fun M => hN M _ o2
      have f1 := hi ((r.lo d (i + 1)).at (bw B) (bh B))
      have f2 := hi ((r.hi d (i + 1)).at (bw B) (bh B))
      have hPi := fun M => hPd M (i + 1) (by omega) (by omega)
      have hsti := hstd i
      have g1c := hg0 (r.lo d (i + 1))
      have g2c := hg0 (r.hi d (i + 1))
      generalize (r.lo d (i + 1)).at (bw B) (bh B) = s1 at *
      generalize (r.hi d (i + 1)).at (bw B) (bh B) = s2 at *
      generalize (r.lo d (i + 1)).rc = g1 at *
      generalize (r.hi d (i + 1)).rc = g2 at *
      have zbx : ∀ X, Rd ((MC m q [.bool (C i)] ++ (T ++ ([some { cells := rr.cells }] : AM))) ++ X) q 0 (.bool (C i)) := fun X => by rw [List.append_assoc]; exact zb _ _
      have z3x : ∀ X, Rd ((MC m q [.bool (C i)] ++ (T ++ ([some { cells := rr.cells }] : AM))) ++ X) a3 0 _ := fun X => by rw [List.append_assoc]; exact z3 _ _
      have z4x : ∀ X, Rd ((MC m q [.bool (C i)] ++ (T ++ ([some { cells := rr.cells }] : AM))) ++ X) a4 0 _ := fun X => by rw [List.append_assoc]; exact z4 _ _
      have rdx : ∀ X, Rd ((MC m q [.bool (C i)] ++ (T ++ ([some { cells := rr.cells }] : AM))) ++ X) A (O + n) _ := fun X => by rw [List.append_assoc]; exact rdn _ _
      have d1x : ∀ X, Rd ((MC m q [.bool (C i)] ++ (T ++ ([some { cells := rr.cells }] : AM))) ++ X) A (O + s1) _ := fun X => by rw [List.append_assoc]; exact d1 _ _
      have d2x : ∀ X, Rd ((MC m q [.bool (C i)] ++ (T ++ ([some { cells := rr.cells }] : AM))) ++ X) A (O + s2) _ := fun X => by rw [List.append_assoc]; exact d2 _ _
      have twx : ∀ X, Rd ((MC m q [.bool (C i)] ++ (T ++ ([some { cells := rr.cells }] : AM))) ++ X) p 2 _ := fun X => by rw [List.append_assoc]; exact tw _ _
      have thx : ∀ X, Rd ((MC m q [.bool (C i)] ++ (T ++ ([some { cells := rr.cells }] : AM))) ++ X) p 3 _ := fun X => by rw [List.append_assoc]; exact th _ _
      have r5x : ∀ X, RdL ((MC m q [.bool (C i)] ++ (T ++ ([some { cells := rr.cells }] : AM))) ++ X) bp 0 rr.cells := fun X => by rw [List.append_assoc, List.append_assoc]; exact r5 _ _
      have zqx : ∀ X, ((MC m q [.bool (C i)] ++ (T ++ ([some { cells := rr.cells }] : AM))) ++ X)[q]? = some (some { cells := [.bool (C i)] }) := fun X => by rw [List.append_assoc]; exact zq _ _
      have stx : ∀ (c2 : Value) X, ((MC m q [.bool (C i)] ++ (T ++ ([some { cells := rr.cells }] : AM))) ++ X).set q (some { cells := [Value.bool (C i)].set 0 c2 }) = (MC m q [c2] ++ (T ++ ([some { cells := rr.cells }] : AM))) ++ X := fun c2 X => by rw [List.append_assoc, hmem, ← List.append_assoc]
      have hlx : ∀ c, (MC m q c ++ (T ++ ([some { cells := rr.cells }] : AM))).length = (MC m q [.bool (C i)] ++ (T ++ ([some { cells := rr.cells }] : AM))).length := fun c => by simp [MC.len]
      have gcx := fun c2 j bb hj => MC.cut (m := m) (c := [.bool (C i)]) (c' := [.bool c2]) hq (fun x hx => by simp at hx; subst hx; rfl) (T ++ ([some { cells := rr.cells }] : AM)) [] hcell0 (MC m q [.bool c2] ++ (T ++ ([some { cells := rr.cells }] : AM))).length j bb hj
      refine AW.rebase ?_
      generalize hMx : MC m q [.bool (C i)] ++ (T ++ [some { cells := rr.cells }]) = Mx at *
      have r9 : ∀ (T' : AM), RdL (Mx ++ (some { cells := g1.cells } :: T')) (Mx.length + 0) 0 g1.cells := fun T' => RdL.new rfl rfl
      have r10 : ∀ b0 (T' : AM), RdL (Mx ++ (b0 :: some { cells := g2.cells } :: T')) (Mx.length + 1) 0 g2.cells := fun b0 T' => RdL.new rfl rfl
      have hb5 : bp < Mx.length := by
        obtain ⟨bb, h1, _⟩ := r5x []
        have := (List.getElem?_eq_some_iff.1 h1).1
        simpa using this
      have hbm : m.length ≤ Mx.length := by rw [← hlx []]; simp [MC.len]
      have w2 : Low Mx.length (.pointer (some ⟨q, 0, none⟩)) := Low.ptr (by omega)
      have w3 : Low Mx.length (.pointer (some ⟨a3, 0, none⟩)) := Low.ptr (by obtain ⟨bb, h1, _⟩ := h3; have := (List.getElem?_eq_some_iff.1 h1).1; omega)
      have w4 : Low Mx.length (.pointer (some ⟨a4, 0, none⟩)) := Low.ptr (by obtain ⟨bb, h1, _⟩ := h4; have := (List.getElem?_eq_some_iff.1 h1).1; omega)
      have w5 : Low Mx.length (.pointer (some ⟨bp, 0, none⟩)) := Low.ptr hb5
      (repeat (first | (with_reducible refine AWo.cons ?_) | ((with_reducible refine Step.id ?_); first | ((with_reducible apply Step.move); exact rfl; exact rfl) | ((with_reducible apply Step.loadL (n := 4)); exact rfl; (focus (decide +kernel)); (focus (decide +kernel)); exact rfl; (focus (exact r5x _)); exact rfl; exact rfl) | ((with_reducible apply Step.lss); exact rfl; exact rfl; exact rfl) | ((with_reducible apply Step.extract); exact rfl; exact rfl; exact rfl) | ((with_reducible apply Step.callR fit); exact rfl; exact Tryd.func80; exact rfl; exact rfl; exact (hlend _)) | ((with_reducible apply Step.callR fit); exact rfl; exact Tryd.func81; exact rfl; exact rfl; exact (hPi _)) | ((with_reducible apply Step.alloc 0); exact rfl; exact ze23; exact rfl; (focus (first | (simp only [List.nil_append, List.cons_append, List.set_cons_zero, List.set_cons_succ, iv_set, bv_set, iv_rep, bv_rep]; done) | (simp only [List.nil_append, List.cons_append, List.set_cons_zero, List.set_cons_succ, iv_set, bv_set, iv_rep, bv_rep]; rfl) | rfl))) | ((with_reducible apply Step.storeA (k := 0) (n := 4)); exact rfl; exact rfl; exact rfl; exact rfl; (focus (decide +kernel)); exact rfl; (focus (kernel_rfl)); exact rfl; (focus (first | (simp only [List.nil_append, List.cons_append, List.set_cons_zero, List.set_cons_succ, iv_set, bv_set, iv_rep, bv_rep]; done) | (simp only [List.nil_append, List.cons_append, List.set_cons_zero, List.set_cons_succ, iv_set, bv_set, iv_rep, bv_rep]; rfl) | rfl))) | ((with_reducible apply Step.alloc 1); exact rfl; exact ze23; exact rfl; (focus (first | (simp only [List.nil_append, List.cons_append, List.set_cons_zero, List.set_cons_succ, iv_set, bv_set, iv_rep, bv_rep]; done) | (simp only [List.nil_append, List.cons_append, List.set_cons_zero, List.set_cons_succ, iv_set, bv_set, iv_rep, bv_rep]; rfl) | rfl))) | ((with_reducible apply Step.storeA (k := 1) (n := 4)); exact rfl; exact rfl; exact rfl; exact rfl; (focus (decide +kernel)); exact rfl; (focus (kernel_rfl)); exact rfl; (focus (first | (simp only [List.nil_append, List.cons_append, List.set_cons_zero, List.set_cons_succ, iv_set, bv_set, iv_rep, bv_rep]; done) | (simp only [List.nil_append, List.cons_append, List.set_cons_zero, List.set_cons_succ, iv_set, bv_set, iv_rep, bv_rep]; rfl) | rfl)))) | (with_reducible refine AWo.nil ?_) | ((with_reducible apply AW.seq)) | ((with_reducible apply Then.n)) | ((fail_if_success (with_reducible refine AW.atL (id := 9) ?_)); ((with_reducible apply AW.regL))) | ((with_reducible apply AW.block)) | ((with_reducible apply AW.skip)) | ((with_reducible apply AW.condT); exact rfl; (focus ((simp only [decide_eq_true_eq, decide_eq_false_iff_not, Bool.not_eq_true', Bool.not_eq_false', Bool.not_true, Bool.not_false]; first | assumption | omega))))))
      refine AW.flatM fit [(1, .int .i64 (n : Nat)), (2, .pointer (some ⟨q, 0, none⟩)), (3, .pointer (some ⟨a3, 0, none⟩)), (4, .pointer (some ⟨a4, 0, none⟩)), (5, .pointer (some ⟨bp, 0, none⟩)), (7, .int .i64 (2 + k : Nat)), (8, .int .i64 (i + 1 : Nat)), (9, .pointer (some ⟨Mx.length + 0, 0, none⟩)), (10, .pointer (some ⟨Mx.length + 1, 0, none⟩))] [1, 2, 3, 4, 5, 7, 8, 9, 10] [[], [0], [0], [1], [1, 0, 2], [0, 3], [4], [5], [0, 6], [0, 7], [0, 8], [9], [0, 10], [0, 11], [0, 12], [13], [5, 1, 0, 14, 14], [10, 0, 15], [0, 16], [13, 0, 17], [18], [19], [0, 20], [0, 21], [0, 22], [23], [0, 24], [0, 25], [0, 26], [27], [5, 1, 0, 13, 28], [10, 0, 29], [0, 30], [13, 0, 31], [32, 0], [0, 4, 34, 33, 32, 31, 30, 29, 28, 27, 26, 25, 24, 23, 22, 21, 20, 19, 18, 17, 16, 15, 14, 13, 12, 11, 10, 9, 8, 7, 6, 5, 4, 3, 2, 1, 0]] (by repeat (first | exact trivial | (refine And.intro rfl ?_))) rfl (by decide +kernel) ?_
      cases hci : C i with
      | false =>
        rw [hci] at zbx
        (repeat (first | ((with_reducible refine Step.id ?_); first | ((with_reducible apply Step.gdF); exact rfl; exact rfl; (focus (rfl))) | ((with_reducible apply Step.move); exact rfl; exact rfl) | ((with_reducible apply Step.load); exact rfl; (focus (decide +kernel)); exact rfl; (focus (exact zbx _))) | ((with_reducible apply Step.pickF); exact rfl; exact rfl; exact rfl; exact rfl; (focus (rfl)))) | (apply AWfL.cons; exact rfl) | ((with_reducible apply AWfL.last)) | exact ⟨put_same _ _ _, rfl⟩))
        have hnew : C (i + 1) = false := by rw [hsti, hci]; rfl
        ((with_reducible apply Step.storeC); exact rfl; exact rfl; exact (zqx _); exact rfl; (focus (decide +kernel)); exact rfl; exact rfl; (focus (simp)))
        rw [stx, show MC m q [Value.bool false] = MC m q [Value.bool (C (i + 1))] from by rw [hnew]]
        have hls := hlx [.bool (C (i + 1))]
        intro t2 ht2
        refine InBlk.n ?_
        refine Then.n ?_
        refine AW.weak ht2 ?_
        refine AW.gc (Gc.cut (l := [(1, .int .i64 (n : Nat)), (2, .pointer (some ⟨q, 0, none⟩)), (3, .pointer (some ⟨a3, 0, none⟩)), (4, .pointer (some ⟨a4, 0, none⟩)), (5, .pointer (some ⟨bp, 0, none⟩)), (7, .int .i64 (2 + k : Nat)), (8, .int .i64 (i + 1 : Nat))]) (by rw [hls]; exact Nat.le_refl _) (fun j bb hj => gcx (C (i + 1)) j bb (by rw [List.append_nil]; exact hj)) (by rw [hls]; exact (by repeat (first | exact trivial | (refine And.intro ⟨rfl, by (first | exact Low.rid (by assumption) (by simp) | exact .int _ _)⟩ ?_))))) ?_
        (repeat (first | (with_reducible refine AWo.cons ?_) | ((with_reducible refine Step.id ?_); first | ((with_reducible apply Step.move); exact rfl; exact rfl) | ((with_reducible apply Step.assign); exact rfl; exact rfl) | ((with_reducible apply Step.add); exact rfl; exact rfl; (focus (omega)); exact rfl)) | (with_reducible refine AWo.nil ?_) | ((with_reducible apply Then.n)) | ((with_reducible apply AW.regL))))
        exact ⟨_, _, by omega, (by repeat (first | exact trivial | (refine And.intro rfl ?_))), i + 1, rfl, by omega, rfl, rfl⟩
      | true =>
        rw [hci] at zbx
        (repeat (first | ((with_reducible refine Step.id ?_); first | ((with_reducible apply Step.gdT); exact rfl; exact rfl; (focus (rfl))) | ((with_reducible apply Step.move); exact rfl; exact rfl) | ((with_reducible apply Step.load); exact rfl; (focus (decide +kernel)); exact rfl; (focus (first | exact zbx _ | exact z3x _ | exact z4x _ | exact rdx _ | exact d1x _ | exact d2x _ | exact twx _ | exact thx _))) | ((with_reducible apply Step.loadL (n := 4)); exact rfl; (focus (decide +kernel)); (focus (decide +kernel)); exact rfl; (focus (exact RdL.new rfl rfl)); exact rfl; exact rfl) | ((with_reducible apply Step.ix1); exact rfl; (focus (assumption)); exact rfl; (focus (decide +kernel)); exact rfl; (focus (omega))) | ((with_reducible apply Step.field (k := 2)); exact rfl; (focus (decide +kernel)); exact rfl) | ((with_reducible apply Step.field (k := 3)); exact rfl; (focus (decide +kernel)); exact rfl) | ((with_reducible apply Step.sub); exact rfl; exact rfl; (focus (omega)); exact rfl) | ((with_reducible apply Step.geq); exact rfl; exact rfl; exact rfl) | ((with_reducible apply Step.nilp); exact rfl; exact rfl) | ((with_reducible apply Step.pickT); exact rfl; exact rfl; exact rfl; exact rfl; (focus (rfl))) | ((with_reducible apply Step.callR fit); exact rfl; exact Tryd.func63; exact rfl; exact rfl; exact (n1 _)) | ((with_reducible apply Step.callR fit); exact rfl; exact Tryd.func63; exact rfl; exact rfl; exact (n2 _))) | (apply AWfL.cons; exact rfl) | ((with_reducible apply AWfL.last)) | exact ⟨put_same _ _ _, rfl⟩))
        have hnew : C (i + 1) = decide (t.getD s2 0 ≤ t.getD n 0 - t.getD s1 0) := by rw [hsti, hci, Bool.true_and]; exact decide_eq_decide.2 ⟨fun h => by omega, fun h => by omega⟩
        ((with_reducible apply Step.storeC); exact rfl; exact rfl; exact (zqx _); exact rfl; (focus (decide +kernel)); exact rfl; exact rfl; (focus (simp)))
        rw [stx, show MC m q [Value.bool (decide (t.getD s2 0 ≤ t.getD n 0 - t.getD s1 0))] = MC m q [Value.bool (C (i + 1))] from by rw [hnew]]
        have hls := hlx [.bool (C (i + 1))]
        intro t2 ht2
        refine InBlk.n ?_
        refine Then.n ?_
        refine AW.weak ht2 ?_
        refine AW.gc (Gc.cut (l := [(1, .int .i64 (n : Nat)), (2, .pointer (some ⟨q, 0, none⟩)), (3, .pointer (some ⟨a3, 0, none⟩)), (4, .pointer (some ⟨a4, 0, none⟩)), (5, .pointer (some ⟨bp, 0, none⟩)), (7, .int .i64 (2 + k : Nat)), (8, .int .i64 (i + 1 : Nat))]) (by rw [hls]; exact Nat.le_refl _) (fun j bb hj => gcx (C (i + 1)) j bb (by rw [List.append_nil]; exact hj)) (by rw [hls]; exact (by repeat (first | exact trivial | (refine And.intro ⟨rfl, by (first | exact Low.rid (by assumption) (by simp) | exact .int _ _)⟩ ?_))))) ?_
        (repeat (first | (with_reducible refine AWo.cons ?_) | ((with_reducible refine Step.id ?_); first | ((with_reducible apply Step.move); exact rfl; exact rfl) | ((with_reducible apply Step.assign); exact rfl; exact rfl) | ((with_reducible apply Step.add); exact rfl; exact rfl; (focus (omega)); exact rfl)) | (with_reducible refine AWo.nil ?_) | ((with_reducible apply Then.n)) | ((with_reducible apply AW.regL))))
        exact ⟨_, _, by omega, (by repeat (first | exact trivial | (refine And.intro rfl ?_))), i + 1, rfl, by omega, rfl, rfl⟩
    · obtain hie : i + 1 = r.len d := by omega
      (repeat (first | (with_reducible refine AWo.cons ?_) | ((with_reducible refine Step.id ?_); first | ((with_reducible apply Step.move); exact rfl; exact rfl) | ((with_reducible apply Step.assign); exact rfl; exact rfl) | ((with_reducible apply Step.loadL (n := 4)); exact rfl; (focus (decide +kernel)); (focus (decide +kernel)); exact rfl; (focus (exact r5 _ [])); exact rfl; exact rfl) | ((with_reducible apply Step.add); exact rfl; exact rfl; (focus (omega)); exact rfl) | ((with_reducible apply Step.lss); exact rfl; exact rfl; exact rfl) | ((with_reducible apply Step.callR fit); exact rfl; exact Tryd.func80; exact rfl; exact rfl; exact (hlend _))) | (with_reducible refine AWo.nil ?_) | ((with_reducible apply AW.seq)) | ((with_reducible apply Then.n)) | ((with_reducible apply AW.regL)) | ((with_reducible apply AW.exit)) | ((with_reducible apply InBlk.n)) | ((with_reducible apply InBlk.hit)) | ((with_reducible apply Then.e)) | ((with_reducible apply AW.condF); exact rfl; (focus ((simp only [decide_eq_true_eq, decide_eq_false_iff_not, Bool.not_eq_true', Bool.not_eq_false', Bool.not_true, Bool.not_false]; first | assumption | omega))))))
      exact ⟨_, _, by omega, (by repeat (first | exact trivial | (refine And.intro rfl ?_))), k + 1, rfl, by omega, by rw [hWk, ← hie]; rfl, rfl⟩
end Go.Proofs.YtibhgdglbillaaaDoor.Abs
namespace Go.Proofs.YtibhgdglbillaaaDoor.Abs
set_option linter.unusedSimpArgs false
set_option linter.unusedVariables false
open Go.RowKit
open Go.Proofs.YtibhgdglbillaaaDoor.Sim
open Go.Proofs
theorem ze100 : zeroB Tryd.prog 100 = some #[.pointer none] := by kernel_rfl
theorem ze4 : zeroB Tryd.prog 4 = some #[.bool false] := by kernel_rfl
/-- What Check answers. -/
def checkM (B : Brd) (K : List Kd) (t : List Int) : Int × Bool × Int :=
  if goodB B K = true then (if t.length = total (bw B) (bh B) then (if boundB (leafM B K) (bw B) (bh B) t = true then (tg (bw B) (bh B) t (wholeR B), true, 0) else (0, false, 0)) else (0, false, 3)) else (0, false, 2)
def chV (x : Int × Bool × Int) : Value := .tuple #[.int .i64 x.1, .bool x.2.1, .int .i64 x.2.2]
theorem Ren.tup3 {ρ : Nat → Nat} {n : Nat} (a : Int) (b : Bool) (c : Int) : Ren ρ n (.tuple #[.int .i64 a, .bool b, .int .i64 c]) (.tuple #[.int .i64 a, .bool b, .int .i64 c]) := .tuple _ _ rfl fun i hi => by
  simp at hi
  rcases (show i = 0 ∨ i = 1 ∨ i = 2 by omega) with rfl | rfl | rfl
  · exact .int _ _
  · exact .bool _
  · exact .int _ _
def I64s (t : List Int) : Prop := ∀ i, -9223372036854775808 ≤ t.getD i 0 ∧ t.getD i 0 ≤ 9223372036854775807
set_option maxHeartbeats 8000000 in
set_option maxRecDepth 100000 in
theorem Check_ok {m : AM} {sv kv tv : Value} {B : Brd} {K : List Kd} {t : List Int} (hs : Strs m sv B) (hk : Kds m kv K) (ht : Ints m tv t) (h64 : I64s t) :
    ACall Tryd.prog 30 #[sv, kv, tv] m (Ret (chV (checkM B K t)) m) := by
  refine ACall.drop (Ren.tup3 _ _ _) ?_
  have htm := ht
  obtain ⟨A, O, sl, la, rd⟩ := ht
  obtain ⟨q1, c1, rfl⟩ := sl.shape
  refine ACall.start Tryd.func30 rfl rfl ?_
  cases hg : goodB B K with
  | false =>
    have e : checkM B K t = (0, false, 2) := by simp [checkM, hg]
    have hN := fun T => newBoard_no (hs.old T) (hk.old T) hg
    (repeat (first | (with_reducible refine AWo.cons ?_) | ((with_reducible refine Step.id ?_); first | ((with_reducible apply Step.move); exact rfl; exact rfl) | ((with_reducible apply Step.assign); exact rfl; exact rfl) | ((with_reducible apply Step.load); exact rfl; (focus (decide +kernel)); exact rfl; (focus (exact Rd.new rfl rfl))) | ((with_reducible apply Step.ptrNil); exact rfl; exact rfl; exact un100; exact rfl) | ((with_reducible apply Step.callR fit); exact rfl; exact Tryd.func65; exact rfl; exact rfl; exact (hN _)) | ((with_reducible apply Step.box 0); exact rfl; exact rfl; (focus (kernel_rfl)); exact rfl; (focus (first | (simp only [List.nil_append, List.cons_append, List.set_cons_zero, List.set_cons_succ, iv_set, bv_set, iv_rep, bv_rep]; done) | (simp only [List.nil_append, List.cons_append, List.set_cons_zero, List.set_cons_succ, iv_set, bv_set, iv_rep, bv_rep]; rfl) | rfl))) | ((with_reducible apply Step.alloc 1); exact rfl; exact ze100; exact rfl; (focus (first | (simp only [List.nil_append, List.cons_append, List.set_cons_zero, List.set_cons_succ, iv_set, bv_set, iv_rep, bv_rep]; done) | (simp only [List.nil_append, List.cons_append, List.set_cons_zero, List.set_cons_succ, iv_set, bv_set, iv_rep, bv_rep]; rfl) | rfl))) | ((with_reducible apply Step.store (k := 1)); exact rfl; exact rfl; exact rfl; exact rfl; (focus (decide +kernel)); exact rfl; exact rfl; (focus (first | omega | (simp [iv, bv]; done) | (simp [iv, bv]; omega))); (focus (first | (simp only [List.nil_append, List.cons_append, List.set_cons_zero, List.set_cons_succ, iv_set, bv_set, iv_rep, bv_rep]; done) | (simp only [List.nil_append, List.cons_append, List.set_cons_zero, List.set_cons_succ, iv_set, bv_set, iv_rep, bv_rep]; rfl) | rfl)))) | (with_reducible refine AWo.nil ?_) | ((with_reducible apply AW.seq)) | ((with_reducible apply Then.n)) | ((with_reducible apply AW.regL)) | ((with_reducible apply AW.condT); exact rfl; (focus (rfl)))))
    (refine AW.ret ?_; (repeat (first | refine Then.r ?_ | refine InBlk.r ?_)))
    exact ⟨_, rfl, by rw [e]; rfl, _, rfl⟩
  | true =>
  have hgb : boardB B = true := by simp only [goodB, Bool.and_eq_true] at hg; exact hg.1
  have hin := good_in hgb
  (repeat (first | (with_reducible refine AWo.cons ?_) | ((with_reducible refine Step.id ?_); first | ((with_reducible apply Step.move); exact rfl; exact rfl) | ((with_reducible apply Step.assign); exact rfl; exact rfl) | ((with_reducible apply Step.box 0); exact rfl; exact rfl; (focus (kernel_rfl)); exact rfl; (focus (first | (simp only [List.nil_append, List.cons_append, List.set_cons_zero, List.set_cons_succ, iv_set, bv_set, iv_rep, bv_rep]; done) | (simp only [List.nil_append, List.cons_append, List.set_cons_zero, List.set_cons_succ, iv_set, bv_set, iv_rep, bv_rep]; rfl) | rfl)))) | (with_reducible refine AWo.nil ?_) | ((with_reducible apply AW.seq)) | ((with_reducible apply Then.n)) | ((with_reducible apply AW.regL))))
  ((with_reducible apply Step.callX fit); exact rfl; exact Tryd.func65; exact rfl; exact rfl; exact (newBoard_ok (hs.old _) (hk.old _) hg))
  rintro v m1 ⟨N1, hN1⟩ ⟨p, hp, rfl, hB⟩
  have htv : Rd m1 (m.length + 0) 0 (.slice q1 t.length c1) := by rw [hN1]; exact Rd.old _ (Rd.new rfl rfl)
  have ht1 : Ints m1 (.slice q1 t.length c1) t := by rw [hN1]; exact (htm.old _).old _
  have rd1 : ∀ k, k < t.length → Rd m1 A (O + k) (.int .i64 (t.getD k 0)) := fun k hk => by rw [hN1]; exact ((rd k hk).old _).old _
  have la1 : A < m1.length := by rw [hN1]; simp <;> omega
  have hm1 : ∃ N, m1 = m ++ N := ⟨_, by rw [hN1, List.append_assoc]⟩
  have hml : m.length + 1 ≤ m1.length := by rw [hN1, List.length_append, List.length_append]; simp
  clear hN1 hp
  have tw := hB.w
  have th := hB.h
  have hR := fun m => Rects_ok (m := m) (bw B : Nat) (bh B : Nat)
  rw [total_rects hg] at hR
  have htl := total_le hin.2.2.2 hin.2.1
  by_cases hl : t.length = total (bw B) (bh B)
  case neg =>
    have e : checkM B K t = (0, false, 3) := by simp [checkM, hg, hl]
    (repeat (first | (with_reducible refine AWo.cons ?_) | ((with_reducible refine Step.id ?_); first | ((with_reducible apply Step.move); exact rfl; exact rfl) | ((with_reducible apply Step.assign); exact rfl; exact rfl) | ((with_reducible apply Step.load); exact rfl; (focus (decide +kernel)); exact rfl; (focus (first | exact Rd.new rfl rfl | exact Rd.old _ (by assumption)))) | ((with_reducible apply Step.field (k := 2)); exact rfl; (focus (decide +kernel)); exact rfl) | ((with_reducible apply Step.field (k := 3)); exact rfl; (focus (decide +kernel)); exact rfl) | ((with_reducible apply Step.ptrNot); exact rfl; exact rfl; exact un100; exact rfl) | ((with_reducible apply Step.neq); exact rfl; exact rfl; exact rfl) | ((with_reducible apply Step.len); exact rfl; (focus (assumption)); (focus (decide +kernel)); exact rfl) | ((with_reducible apply Step.nilp); exact rfl; exact rfl) | ((with_reducible apply Step.extract); exact rfl; exact rfl; exact rfl) | ((with_reducible apply Step.callR fit); exact rfl; exact Tryd.func17; exact rfl; exact rfl; exact (hR _)) | ((with_reducible apply Step.alloc 0); exact rfl; exact ze100; exact rfl; (focus (first | (simp only [List.nil_append, List.cons_append, List.set_cons_zero, List.set_cons_succ, iv_set, bv_set, iv_rep, bv_rep]; done) | (simp only [List.nil_append, List.cons_append, List.set_cons_zero, List.set_cons_succ, iv_set, bv_set, iv_rep, bv_rep]; rfl) | rfl))) | ((with_reducible apply Step.store (k := 0)); exact rfl; exact rfl; exact rfl; exact rfl; (focus (decide +kernel)); exact rfl; exact rfl; (focus (first | omega | (simp [iv, bv]; done) | (simp [iv, bv]; omega))); (focus (first | (simp only [List.nil_append, List.cons_append, List.set_cons_zero, List.set_cons_succ, iv_set, bv_set, iv_rep, bv_rep]; done) | (simp only [List.nil_append, List.cons_append, List.set_cons_zero, List.set_cons_succ, iv_set, bv_set, iv_rep, bv_rep]; rfl) | rfl)))) | (with_reducible refine AWo.nil ?_) | ((with_reducible apply AW.seq)) | ((with_reducible apply Then.n)) | ((with_reducible apply AW.regL)) | ((with_reducible apply AW.drawL fit); (focus (decide +kernel))) | ((with_reducible apply AW.skip)) | ((with_reducible apply AW.condT); exact rfl; (focus ((simp only [decide_eq_true_eq, decide_eq_false_iff_not, Bool.not_eq_true', Bool.not_eq_false', Bool.not_true, Bool.not_false]; first | assumption | omega)))) | ((with_reducible apply AW.condF); exact rfl; (focus (rfl)))))
    (refine AW.ret ?_; (repeat (first | refine Then.r ?_ | refine InBlk.r ?_)))
    obtain ⟨N, hN⟩ := hm1
    exact ⟨_, rfl, by rw [e]; rfl, N ++ _, by rw [hN, List.append_assoc]⟩
  have hat := at_lt hin.2.2.2 hin.2.1 (show (wholeR B).ok (bw B) (bh B) by simp only [R4.ok, wholeR]; omega)
  (repeat (first | (with_reducible refine AWo.cons ?_) | ((with_reducible refine Step.id ?_); first | ((with_reducible apply Step.load); exact rfl; (focus (decide +kernel)); exact rfl; (focus (exact Rd.new rfl rfl))) | ((with_reducible apply Step.ptrNot); exact rfl; exact rfl; exact un100; exact rfl) | ((with_reducible apply Step.alloc 0); exact rfl; exact ze100; exact rfl; (focus (first | (simp only [List.nil_append, List.cons_append, List.set_cons_zero, List.set_cons_succ, iv_set, bv_set, iv_rep, bv_rep]; done) | (simp only [List.nil_append, List.cons_append, List.set_cons_zero, List.set_cons_succ, iv_set, bv_set, iv_rep, bv_rep]; rfl) | rfl))) | ((with_reducible apply Step.store (k := 0)); exact rfl; exact rfl; exact rfl; exact rfl; (focus (decide +kernel)); exact rfl; exact rfl; (focus (first | omega | (simp [iv, bv]; done) | (simp [iv, bv]; omega))); (focus (first | (simp only [List.nil_append, List.cons_append, List.set_cons_zero, List.set_cons_succ, iv_set, bv_set, iv_rep, bv_rep]; done) | (simp only [List.nil_append, List.cons_append, List.set_cons_zero, List.set_cons_succ, iv_set, bv_set, iv_rep, bv_rep]; rfl) | rfl)))) | (with_reducible refine AWo.nil ?_) | ((fail_if_success (with_reducible refine AW.atR (id := 4) ?_)); ((with_reducible apply AW.seq))) | ((with_reducible apply Then.n)) | ((with_reducible apply AW.regL)) | ((with_reducible apply AW.skip)) | ((with_reducible apply AW.condF); exact rfl; (focus (rfl)))))
  have z1 : BoardAt (m1 ++ [some { cells := [.pointer (some ⟨p, 0, none⟩)] }]) p B K := hB.old _
  have z2 : Rd (m1 ++ [some { cells := [.pointer (some ⟨p, 0, none⟩)] }]) (m.length + 0) 0 (.slice q1 t.length c1) := htv.old _
  have z3 : Rd (m1 ++ [some { cells := [.pointer (some ⟨p, 0, none⟩)] }]) (m1.length + 0) 0 (.pointer (some ⟨p, 0, none⟩)) := Rd.new rfl rfl
  have z4 : Ints (m1 ++ [some { cells := [.pointer (some ⟨p, 0, none⟩)] }]) (.slice q1 t.length c1) t := ht1.old _
  have z5 : ∀ k, k < t.length → Rd (m1 ++ [some { cells := [.pointer (some ⟨p, 0, none⟩)] }]) A (O + k) (.int .i64 (t.getD k 0)) := fun k hk => (rd1 k hk).old _
  have z6 : ∃ N, (m1 ++ [some ({ cells := [.pointer (some ⟨p, 0, none⟩)] } : Blk)]) = m ++ N := by
    obtain ⟨N, hN⟩ := hm1
    exact ⟨N ++ _, by rw [hN, List.append_assoc]⟩
  have z7 : m1.length + 1 = (m1 ++ [some ({ cells := [.pointer (some ⟨p, 0, none⟩)] } : Blk)]).length := by simp
  refine AW.rebase ?_
  change AW _ _ (m1 ++ [some { cells := [.pointer (some ⟨p, 0, none⟩)] }]) _ _ ((m1 ++ [some { cells := [.pointer (some ⟨p, 0, none⟩)] }]) ++ []) _
  generalize (m1 ++ [some ({ cells := [.pointer (some ⟨p, 0, none⟩)] } : Blk)]) = Mb at *
  have wl : Low Mb.length (.slice q1 t.length c1) := Low.of_sl sl (by omega)
  have w5 : Low Mb.length (.pointer (some ⟨m.length + 0, 0, none⟩)) := Low.ptr (by omega)
  have w9 : Low Mb.length (.pointer (some ⟨m1.length + 0, 0, none⟩)) := Low.ptr (by omega)
  have a5 : m.length + 0 < Mb.length := by omega
  have a9 : m1.length + 0 < Mb.length := by omega
  generalize m.length + 0 = p5 at *
  generalize m1.length + 0 = p9 at *
  clear hB htv ht1 rd1 hm1 tw th la1
  have tw := z1.w
  have th := z1.h
  (repeat (first | (with_reducible refine AWo.cons ?_) | ((with_reducible refine Step.id ?_); first | ((with_reducible apply Step.move); exact rfl; exact rfl) | ((with_reducible apply Step.assign); exact rfl; exact rfl) | ((with_reducible apply Step.load); exact rfl; (focus (decide +kernel)); exact rfl; (focus (exact Rd.old _ (by assumption)))) | ((with_reducible apply Step.field (k := 2)); exact rfl; (focus (decide +kernel)); exact rfl) | ((with_reducible apply Step.field (k := 3)); exact rfl; (focus (decide +kernel)); exact rfl) | ((with_reducible apply Step.neq); exact rfl; exact rfl; exact rfl) | ((with_reducible apply Step.len); exact rfl; (focus (assumption)); (focus (decide +kernel)); exact rfl) | ((with_reducible apply Step.nilp); exact rfl; exact rfl) | ((with_reducible apply Step.extract); exact rfl; exact rfl; exact rfl) | ((with_reducible apply Step.callR fit); exact rfl; exact Tryd.func17; exact rfl; exact rfl; exact (hR _))) | (with_reducible refine AWo.nil ?_) | ((with_reducible apply AW.seq)) | ((with_reducible apply Then.n)) | ((with_reducible apply AW.regL)) | ((with_reducible apply AW.block)) | ((with_reducible apply AW.drawL fit); (focus (decide +kernel))) | ((with_reducible apply AW.skip)) | ((with_reducible apply AW.condF); exact rfl; (focus ((simp only [decide_eq_true_eq, decide_eq_false_iff_not, Bool.not_eq_true', Bool.not_eq_false', Bool.not_true, Bool.not_false]; first | assumption | omega))))))
  rw [List.append_nil]
  refine AW.rebase ?_
  refine AW.loopT (fun n t' L => ∃ k : Nat, n = t.length - k ∧ k ≤ t.length ∧ L = [] ∧ (∀ j, j < k → 0 ≤ t.getD j 0) ∧
    t' = [(5, .pointer (some ⟨p5, 0, none⟩)), (9, .pointer (some ⟨p9, 0, none⟩)), (36, .slice q1 t.length c1), (37, .int .i64 (t.length : Nat)), (38, .int .i64 (k : Nat))])
    ⟨_, _, _, (Or.inl ⟨rfl, (by repeat (first | exact trivial | (refine And.intro rfl ?_)))⟩), 0, rfl, Nat.zero_le _, rfl, fun j hj => by omega, rfl⟩ ?_
  rintro n t' L ⟨k, rfl, hk2, rfl, hneg, rfl⟩
  rcases Nat.lt_or_ge k t.length with hkl | hkl
  · have hx := z5 k hkl
    by_cases hn : t.getD k 0 < 0
    · have e : checkM B K t = (0, false, 0) := by
        have : boundB (leafM B K) (bw B) (bh B) t = false := by
          rw [Bool.eq_false_iff]
          intro hc
          simp only [boundB, Bool.and_eq_true, List.all_eq_true, decide_eq_true_eq] at hc
          have := hc.1 (t.getD k 0) (by rw [getD_in _ _ hkl]; exact List.getElem_mem hkl)
          omega
        simp [checkM, hg, hl, this]
      (repeat (first | (with_reducible refine AWo.cons ?_) | ((with_reducible refine Step.id ?_); first | ((with_reducible apply Step.move); exact rfl; exact rfl) | ((with_reducible apply Step.assign); exact rfl; exact rfl) | ((with_reducible apply Step.load); exact rfl; (focus (decide +kernel)); exact rfl; (focus (exact Rd.old _ (by assumption)))) | ((with_reducible apply Step.ix1); exact rfl; (focus (assumption)); exact rfl; (focus (decide +kernel)); exact rfl; (focus (omega))) | ((with_reducible apply Step.lss); exact rfl; exact rfl; exact rfl)) | (with_reducible refine AWo.nil ?_) | ((with_reducible apply AW.seq)) | ((with_reducible apply Then.n)) | ((with_reducible apply AW.regL)) | ((with_reducible apply AW.block)) | ((with_reducible apply AW.skip)) | ((with_reducible apply AW.condT); exact rfl; (focus ((simp only [decide_eq_true_eq, decide_eq_false_iff_not, Bool.not_eq_true', Bool.not_eq_false', Bool.not_true, Bool.not_false]; first | assumption | omega))))))
      (refine AW.ret ?_; (repeat (first | refine Then.r ?_ | refine InBlk.r ?_)))
      obtain ⟨N, hN⟩ := z6
      exact ⟨_, rfl, by rw [e]; rfl, N ++ _, by rw [hN, List.append_assoc]⟩
    · (repeat (first | (with_reducible refine AWo.cons ?_) | ((with_reducible refine Step.id ?_); first | ((with_reducible apply Step.move); exact rfl; exact rfl) | ((with_reducible apply Step.assign); exact rfl; exact rfl) | ((with_reducible apply Step.load); exact rfl; (focus (decide +kernel)); exact rfl; (focus (exact Rd.old _ (by assumption)))) | ((with_reducible apply Step.ix1); exact rfl; (focus (assumption)); exact rfl; (focus (decide +kernel)); exact rfl; (focus (omega))) | ((with_reducible apply Step.add); exact rfl; exact rfl; (focus (omega)); exact rfl) | ((with_reducible apply Step.lss); exact rfl; exact rfl; exact rfl)) | (with_reducible refine AWo.nil ?_) | ((with_reducible apply AW.seq)) | ((with_reducible apply Then.n)) | ((with_reducible apply AW.regL)) | ((with_reducible apply AW.block)) | ((with_reducible apply InBlk.n)) | ((with_reducible apply AW.skip)) | ((with_reducible apply AW.condT); exact rfl; (focus ((simp only [decide_eq_true_eq, decide_eq_false_iff_not, Bool.not_eq_true', Bool.not_eq_false', Bool.not_true, Bool.not_false]; first | assumption | omega)))) | ((with_reducible apply AW.condF); exact rfl; (focus ((simp only [decide_eq_true_eq, decide_eq_false_iff_not, Bool.not_eq_true', Bool.not_eq_false', Bool.not_true, Bool.not_false]; first | assumption | omega))))))
      exact ⟨_, _, _, by omega, (Or.inl ⟨rfl, (by repeat (first | exact trivial | (refine And.intro rfl ?_)))⟩), k + 1, rfl, by omega, rfl, fun j hj => by
        rcases Nat.lt_succ_iff_lt_or_eq.1 hj with h | rfl
        · exact hneg j h
        · omega, rfl⟩
  · obtain rfl : k = t.length := by omega
    have hall : ∀ i, 0 ≤ t.getD i 0 ∧ t.getD i 0 ≤ 9223372036854775807 := fun i => by
      rcases Nat.lt_or_ge i t.length with h | h
      · exact ⟨hneg i h, (h64 i).2⟩
      · simp [List.getD_eq_getElem?_getD, h]
    have hneg' : (t.all fun x => decide (0 ≤ x)) = true := by
      rw [List.all_eq_true]
      intro x hx
      obtain ⟨i, hi, rfl⟩ := List.getElem_of_mem hx
      have := hneg i hi
      rw [getD_in _ _ hi] at this
      exact decide_eq_true this
    (repeat (first | (with_reducible refine AWo.cons ?_) | ((with_reducible refine Step.id ?_); first | ((with_reducible apply Step.load); exact rfl; (focus (decide +kernel)); exact rfl; (focus (exact Rd.old _ (by assumption)))) | ((with_reducible apply Step.lss); exact rfl; exact rfl; exact rfl) | ((with_reducible apply Step.fn); exact rfl; exact rfl; exact rfl) | ((with_reducible apply Step.alloc 0); exact rfl; exact ze4; exact rfl; (focus (first | (simp only [List.nil_append, List.cons_append, List.set_cons_zero, List.set_cons_succ, iv_set, bv_set, iv_rep, bv_rep]; done) | (simp only [List.nil_append, List.cons_append, List.set_cons_zero, List.set_cons_succ, iv_set, bv_set, iv_rep, bv_rep]; rfl) | rfl))) | ((with_reducible apply Step.store (k := 0)); exact rfl; exact rfl; exact rfl; exact rfl; (focus (decide +kernel)); exact rfl; exact rfl; (focus (first | omega | (simp [iv, bv]; done) | (simp [iv, bv]; omega))); (focus (first | (simp only [List.nil_append, List.cons_append, List.set_cons_zero, List.set_cons_succ, iv_set, bv_set, iv_rep, bv_rep]; done) | (simp only [List.nil_append, List.cons_append, List.set_cons_zero, List.set_cons_succ, iv_set, bv_set, iv_rep, bv_rep]; rfl) | rfl)))) | (with_reducible refine AWo.nil ?_) | ((with_reducible apply AW.seq)) | ((with_reducible apply Then.n)) | ((with_reducible apply AW.regL)) | ((with_reducible apply AW.exit)) | ((with_reducible apply InBlk.hit)) | ((with_reducible apply Then.e)) | ((with_reducible apply AW.condF); exact rfl; (focus ((simp only [decide_eq_true_eq, decide_eq_false_iff_not, Bool.not_eq_true', Bool.not_eq_false', Bool.not_true, Bool.not_false]; first | assumption | omega))))))
    have hE : ∀ M0 : AM, (∃ N, M0 = Mb ++ N) → M0.length = Mb.length + 1 → Rd M0 p5 0 (.slice q1 t.length c1) → Rd M0 p9 0 (.pointer (some ⟨p, 0, none⟩)) →
        ACall Tryd.prog 69 #[.pointer (some ⟨p, 0, none⟩), .func (.func 79) #[] #[.pointer (some ⟨Mb.length + 0, 0, none⟩), .pointer (some ⟨p5, 0, none⟩), .pointer (some ⟨p9, 0, none⟩)]] (MC M0 (Mb.length + 0) [.bool true]) (Ret (.tuple #[]) (MC M0 (Mb.length + 0) [.bool (fW (fun r b => b && okR (leafM B K) (bw B) (bh B) t r) (bw B) (bh B) (bw B) true)])) := fun M0 hN hlM r1 r2 =>
      each_ok (m0 := M0) (fun b => MC M0 (Mb.length + 0) [.bool b]) (fun r b => b && okR (leafM B K) (bw B) (bh B) t r) (fun _ _ => True) (caps := #[.pointer (some ⟨Mb.length + 0, 0, none⟩), .pointer (some ⟨p5, 0, none⟩), .pointer (some ⟨p9, 0, none⟩)]) Tryd.func79 rfl
      (fun v => by
        obtain ⟨N, rfl⟩ := hN
        obtain ⟨N', hN'⟩ := set_high (m0 := Mb) (N := N) (a := Mb.length + 0) (by omega) (some { cells := [.bool v] })
        unfold MC
        rw [hN']
        exact z1.old _) hg ⟨fun i j y x s _ _ _ _ _ => trivial⟩
      (fun i j y x b T b1 b2 b3 b4 _ => checkc_ok (m := M0) (m1 := Mb) hN z1 hg (by omega) (by omega) r1 r2 (by omega) (by omega) z4 hl hall (step_ok b1 b2 b3 b4) b)
      (fun v => MC.len) (fun v v' j b h => by
        have := MC.cut (m := M0) (c := [.bool v]) (c' := [.bool v']) (q := Mb.length + 0) (by omega) (fun x hx => by simp at hx; subst hx; rfl) [] [] (fun b hb => by simp at hb) M0.length j b (by simpa using h)
        simpa using this) (Low.func (fun v hv => by
        simp only [List.mem_cons, List.not_mem_nil, or_false] at hv
        rcases hv with rfl | rfl | rfl
        · exact Low.ptr (by omega)
        · exact Low.ptr (by omega)
        · exact Low.ptr (by omega))) true trivial
    have hE := hE (Mb ++ [some { cells := [.bool true] }]) ⟨_, rfl⟩ (by simp) (z2.old _) (z3.old _)
    have hMM : ∀ c, MC (Mb ++ [some { cells := [.bool true] }]) (Mb.length + 0) c = Mb ++ [some { cells := c }] := fun c => by
      unfold MC
      rw [List.set_append_right _ _ (by omega), show Mb.length + 0 - Mb.length = 0 by omega]
      rfl
    simp only [hMM] at hE
    rw [okFin] at hE
    ((with_reducible apply Step.callM fit); exact rfl; exact Tryd.func69; exact rfl; exact rfl; exact hE)
    have hbd : boundB (leafM B K) (bw B) (bh B) t = (allR (bw B) (bh B) (bh B)).all fun r => okR (leafM B K) (bw B) (bh B) t r := by unfold boundB; rw [hneg', Bool.true_and]
    cases hfin : (allR (bw B) (bh B) (bh B)).all fun r => okR (leafM B K) (bw B) (bh B) t r with
    | false =>
      have e : checkM B K t = (0, false, 0) := by simp [checkM, hg, hl, hbd, hfin]
      (repeat (first | (with_reducible refine AWo.cons ?_) | ((with_reducible refine Step.id ?_); first | ((with_reducible apply Step.assign); exact rfl; exact rfl) | ((with_reducible apply Step.load); exact rfl; (focus (decide +kernel)); exact rfl; (focus (exact Rd.new rfl rfl))) | ((with_reducible apply Step.not); exact rfl; exact rfl)) | (with_reducible refine AWo.nil ?_) | ((with_reducible apply AW.seq)) | ((with_reducible apply Then.n)) | ((with_reducible apply AW.regL)) | ((with_reducible apply AW.condT); exact rfl; (focus (rfl)))))
      (refine AW.ret ?_; (repeat (first | refine Then.r ?_ | refine InBlk.r ?_)))
      obtain ⟨N, hN⟩ := z6
      exact ⟨_, rfl, by rw [e]; rfl, N ++ _, by rw [hN, List.append_assoc]⟩
    | true =>
      have e : checkM B K t = (tg (bw B) (bh B) t (wholeR B), true, 0) := by simp [checkM, hg, hl, hbd, hfin]
      (repeat (first | (with_reducible refine AWo.cons ?_) | ((with_reducible refine Step.id ?_); first | ((with_reducible apply Step.load); exact rfl; (focus (decide +kernel)); exact rfl; (focus (exact Rd.new rfl rfl))) | ((with_reducible apply Step.not); exact rfl; exact rfl)) | (with_reducible refine AWo.nil ?_) | ((fail_if_success (with_reducible refine AW.atR (id := 17) ?_)); ((with_reducible apply AW.seq))) | ((with_reducible apply Then.n)) | ((with_reducible apply AW.regL)) | ((with_reducible apply AW.skip)) | ((with_reducible apply AW.condF); exact rfl; (focus (rfl)))))
      have w1 := fun T => whole_ok (z1.old T)
      have nn := fun T => num_ok (m := T) hin.2.2.2 hin.2.1 (show (wholeR B).ok (bw B) (bh B) by simp only [R4.ok, wholeR]; omega)
      change ∀ T, ACall Tryd.prog 67 _ _ (Ret (.agg (wholeR B).rc.cells.toArray) _) at w1
      change ∀ T, ACall Tryd.prog 63 #[_, _, .agg (wholeR B).rc.cells.toArray] _ _ at nn
      have x4 := z5 _ (by rw [hl]; exact hat)
      refine AW.seq ?_
      refine AW.flatN fit [(5, .pointer (some ⟨p5, 0, none⟩)), (9, .pointer (some ⟨p9, 0, none⟩))] [(6, .int .i64 (t.getD ((wholeR B).at (bw B) (bh B)) 0)), (7, .bool true), (8, .int .i64 0)] [5, 9] [[], [], [0], [0], [0], [], [0], [0], [0], [], [0], [6, 2, 0, 0], [11, 0], [0], [0, 2, 13, 12, 11, 10, 9, 8, 7, 6, 5, 4, 3, 2, 1, 0], [0, 14, 13, 12, 11, 10, 9, 8, 7, 6, 5, 4, 3, 2, 1, 0], [0, 15, 14, 13, 12, 11, 10, 9, 8, 7, 6, 5, 4, 3, 2, 1, 0]] (by repeat (first | exact trivial | (refine And.intro rfl ?_))) rfl (by decide +kernel) ?_ ?_
      · (repeat (first | ((with_reducible refine Step.id ?_); first | ((with_reducible apply Step.assign); exact rfl; exact rfl) | ((with_reducible apply Step.load); exact rfl; (focus (decide +kernel)); exact rfl; (focus (exact Rd.old _ (by assumption)))) | ((with_reducible apply Step.ix1); exact rfl; (focus (assumption)); exact rfl; (focus (decide +kernel)); exact rfl; (focus (omega))) | ((with_reducible apply Step.field (k := 2)); exact rfl; (focus (decide +kernel)); exact rfl) | ((with_reducible apply Step.field (k := 3)); exact rfl; (focus (decide +kernel)); exact rfl) | ((with_reducible apply Step.nilp); exact rfl; exact rfl) | ((with_reducible apply Step.callR fit); exact rfl; exact Tryd.func67; exact rfl; exact rfl; exact (w1 _)) | ((with_reducible apply Step.callR fit); exact rfl; exact Tryd.func63; exact rfl; exact rfl; exact (nn _))) | (apply AWf.cons; exact rfl) | exact ⟨put_same _ _ _, rfl⟩ | ((with_reducible apply AWf.nil))))
        exact (by repeat (first | exact trivial | (refine And.intro rfl ?_)))
      intro t2 ht2
      refine Then.n ?_
      refine AW.weak ht2 ?_
      (refine AW.ret ?_; (repeat (first | refine Then.r ?_ | refine InBlk.r ?_)))
      obtain ⟨N, hN⟩ := z6
      exact ⟨_, rfl, by rw [e]; rfl, N ++ _, by rw [hN, List.append_assoc]⟩
end Go.Proofs.YtibhgdglbillaaaDoor.Abs
namespace Go.Proofs.YtibhgdglbillaaaDoor.Abs
set_option linter.unusedSimpArgs false
set_option linter.unusedVariables false
/-- The sum of f i over i below n. -/
def sm (f : Nat → Int) : Nat → Int
  | 0 => 0
  | n + 1 => sm f n + f n
/-- What lies on bench b of the jobs below n. -/
def ld (p : Nat → Int) (f : Nat → Nat) (n b : Nat) : Int := sm (fun i => if f i = b then p i else 0) n
end Go.Proofs.YtibhgdglbillaaaDoor.Abs
namespace Go.Proofs.YtibhgdglbillaaaDoor.Abs
set_option linter.unusedSimpArgs false
set_option linter.unusedVariables false
section
variable {p : Nat → Int} {F G : Nat → Nat} {k m : Nat} {n : Int}
end
section
variable {p : Nat → Int} {F G : Nat → Nat} {k m : Nat} {n : Int}
/-- The longest first, each into the first bar with room. -/
structure FFD (p : Nat → Int) (F : Nat → Nat) (k : Nat) (n : Int) : Prop where
  pos : ∀ i, i < k → 1 ≤ p i ∧ p i ≤ n
  dec : ∀ i j, i ≤ j → j < k → p j ≤ p i
  full : ∀ i, i < k → ∀ b, b < F i → n < ld p F i b + p i
  room : ∀ i, i < k → ld p F i (F i) + p i ≤ n
theorem least_ex {q : Nat → Prop} [DecidablePred q] {i : Nat} (h : q i) : ∃ e, e ≤ i ∧ q e ∧ ∀ j, j < e → ¬ q j := by
  induction i using Nat.strongRecOn with
  | _ i ih =>
    by_cases h1 : ∃ j, j < i ∧ q j
    · obtain ⟨j, hj, hq⟩ := h1
      obtain ⟨e, e1, e2, e3⟩ := ih j hj hq
      exact ⟨e, by omega, e2, e3⟩
    · exact ⟨i, Nat.le_refl _, h, fun j hj hq => h1 ⟨j, hj, hq⟩⟩
/-- Some excess item, the last of them. -/
theorem FFD.last (h : FFD p F k n) {i : Nat} (hi : i < k) (he : m ≤ F i) : ∃ e, e < k ∧ m ≤ F e ∧ ∀ j, j < k → m ≤ F j → p e ≤ p j := by
  obtain ⟨d, d1, d2, d3⟩ := least_ex (q := fun d => m ≤ F (k - 1 - d)) (i := k - 1 - i) (by rw [show k - 1 - (k - 1 - i) = i by omega]; exact he)
  refine ⟨k - 1 - d, by omega, d2, fun j hj hm => ?_⟩
  refine h.dec j (k - 1 - d) ?_ (by omega)
  rcases Nat.lt_or_ge (k - 1 - d) j with q | q
  · exfalso
    refine d3 (k - 1 - j) (by omega) ?_
    rw [show k - 1 - (k - 1 - j) = j by omega]; exact hm
  · exact q
theorem FFD.nn (h : FFD p F k n) : ∀ i, i < k → 0 ≤ p i := fun i hi => by have := h.pos i hi; omega
end
section
variable {p : Nat → Int} {G : Nat → Nat} {k m : Nat} {n t : Int}
end
end Go.Proofs.YtibhgdglbillaaaDoor.Abs
namespace Go.Proofs.YtibhgdglbillaaaDoor.Abs
set_option linter.unusedSimpArgs false
set_option linter.unusedVariables false
/-- How many bars, how much of the last one is used, which strip came last. -/
abbrev Ld := Nat × Int × Nat
section
variable {n : Int} {p : Nat → Int} {k : Nat}
def l2 (l : Ld) : Nat × Int := (l.1, l.2.1)
end
section
variable {n : Int} {p : Nat → Int} {k m : Nat} {G : Nat → Nat}
end
end Go.Proofs.YtibhgdglbillaaaDoor.Abs
namespace Go.Proofs.YtibhgdglbillaaaDoor.Abs
set_option linter.unusedSimpArgs false
set_option linter.unusedVariables false
def ms (le : Int → Int → Bool) (l : List Int) : List Int := l.mergeSort le
section
variable {le : Int → Int → Bool} {l p A B A1 A2 B1 B2 : List Int}
end
end Go.Proofs.YtibhgdglbillaaaDoor.Abs
namespace Go.Proofs.YtibhgdglbillaaaDoor.Abs
set_option linter.unusedSimpArgs false
set_option linter.unusedVariables false
def upI (n : Nat) : List Int := (List.range n).map (Nat.cast : Nat → Int)
def leL (l : List Int) (a b : Int) : Bool := decide (-(l.getD a.toNat 0) < -(l.getD b.toNat 0) ∨ -(l.getD a.toNat 0) = -(l.getD b.toNat 0) ∧ ((0 : Int) < 0 ∨ (0 : Int) = 0 ∧ a ≤ b))
theorem leL_iff {l : List Int} {a b : Int} : leL l a b = true ↔ l.getD b.toNat 0 < l.getD a.toNat 0 ∨ l.getD b.toNat 0 = l.getD a.toNat 0 ∧ a ≤ b := by
  simp only [leL, decide_eq_true_eq, Int.lt_irrefl, false_or, true_and]; omega
def ordL (l : List Int) : List Int := ms (leL l) (upI l.length)
structure Pick (l : List Int) (mt : List Bool) (i : Nat) (x : Int) : Prop where
  none : x < 0 → x = -1 ∧ ∀ j, j < i → mt.getD j false = true
  some : 0 ≤ x → x < i ∧ mt.getD x.toNat false = false ∧ ∀ j : Nat, j < i → mt.getD j false = false → leL l x j = true
theorem Pick.zero (l : List Int) (mt : List Bool) : Pick l mt 0 (-1) := ⟨fun _ => ⟨rfl, fun j hj => by omega⟩, fun h => by omega⟩
theorem Pick.take {l : List Int} {mt : List Bool} {i : Nat} {x : Int} (h : Pick l mt i x) (hm : mt.getD i false = false) (hx : x < 0 ∨ 0 ≤ x ∧ l.getD x.toNat 0 < l.getD i 0) : Pick l mt (i + 1) i :=
  ⟨fun h' => by omega, fun _ => by
    refine ⟨by omega, by rw [Int.toNat_natCast]; exact hm, fun j hj hjm => ?_⟩
    rcases Nat.lt_succ_iff_lt_or_eq.1 hj with h' | h'
    · rcases hx with hx | ⟨hx, hlt⟩
      · rw [(h.none hx).2 j h'] at hjm; cases hjm
      · have h3 := (h.some hx).2.2 j h' hjm
        rw [leL_iff] at h3 ⊢
        simp only [Int.toNat_natCast] at *
        omega
    · subst h'
      rw [leL_iff]; omega⟩
def oi (l : List Int) (k : Nat) : Nat := ((ordL l).getD k 0).toNat
end Go.Proofs.YtibhgdglbillaaaDoor.Abs
namespace Go.Proofs.YtibhgdglbillaaaDoor.Abs
set_option linter.unusedSimpArgs false
set_option linter.unusedVariables false
open Go.RowKit
open Go.Proofs.YtibhgdglbillaaaDoor.Sim
open Go.Proofs
/-- A node: what is done, at what number, turned or not. -/
abbrev Nd := Int × Int × Bool
def ndc1 (n : Nd) : List Value := [.int .i64 n.1, .int .i64 n.2.1, .bool n.2.2]
def ndc (l : List Nd) : List Value := l.flatMap ndc1
theorem ndc_len (l : List Nd) : (ndc l).length = l.length * 3 := by
  induction l with
  | nil => rfl
  | cons k l ih =>
    have : ndc (k :: l) = ndc1 k ++ ndc l := rfl
    rw [this, List.length_append, ih]
    simp [ndc1]
    omega
theorem ndc_app (a b : List Nd) : ndc (a ++ b) = ndc a ++ ndc b := by simp [ndc]
theorem ndc_get : ∀ (l : List Nd) (i : Nat), i < l.length → ∀ (j : Nat) (v : Value), (ndc1 (l.getD i (0, 0, false)))[j]? = some v → (ndc l)[i * 3 + j]? = some v
  | [], i, hi, _, _, _ => by simp at hi
  | k :: l, 0, _, j, v, hj => by
    have e : ndc (k :: l) = ndc1 k ++ ndc l := rfl
    have hj' : (ndc1 k)[j]? = some v := by simpa using hj
    have hlt := (List.getElem?_eq_some_iff.1 hj').1
    rw [e, Nat.zero_mul, Nat.zero_add, List.getElem?_append_left hlt]
    exact hj'
  | k :: l, i + 1, hi, j, v, hj => by
    have e : ndc (k :: l) = ndc1 k ++ ndc l := rfl
    have e3 : (ndc1 k).length = 3 := rfl
    rw [e, List.getElem?_append_right (by rw [e3]; omega), e3, show (i + 1) * 3 + j - 3 = i * 3 + j by omega]
    exact ndc_get l i (by simpa using hi) j v (by simpa using hj)
theorem g0_ndc (l : List Nd) : ∀ v ∈ ndc l, g0 v = true := fun v hv => by
  obtain ⟨x, _, hx⟩ := List.mem_flatMap.1 hv
  simp only [ndc1, List.mem_cons, List.not_mem_nil, or_false] at hx
  rcases hx with rfl | rfl | rfl <;> rfl
section
variable {B : Brd} {K : List Kd}
theorem leafN_ge2 (B : Brd) (K : List Kd) (r : R4) : ∀ n k, k < n → okB B (K.getD k default) r = true → (K.getD k default).worth ≤ leafN B K r n
  | 0, k, h, _ => by omega
  | n + 1, k, h, hok => by
    simp only [leafN, fitsM_some]
    rcases Nat.lt_succ_iff_lt_or_eq.1 h with h' | h'
    · have := leafN_ge2 B K r n k h' hok
      split
      · rename_i q; omega
      · exact this
    · subst h'
      split
      · omega
      · rename_i q
        have : ¬ leafN B K r k < (K.getD k default).worth := fun q' => q ⟨hok, q'⟩
        omega
end
section
variable {P : Program} {nt : Nat} {ops : Array Oper} {t : Fm} {m : AM} {K : Fm → AM → Prop} {d T : Nat} {p : String} {af : Array Edge}
end
/-- A plan in memory: a whole row of its own. -/
def PL (b0 : Nat) (l : List Nd) (M : AM) (v : Value) : Prop := ∃ (a : Nat) (kd : Kind) (sz : Nat), b0 ≤ a ∧ v = .slice (some ⟨a, 0, none⟩) l.length l.length ∧ 0 < l.length ∧ M[a]? = some (some { cells := ndc l, kind := kd, size := sz }) ∧ ((kd = .own ∧ sz = 1) ∨ (kd = .grow ∧ sz = 3))
end Go.Proofs.YtibhgdglbillaaaDoor.Abs
namespace Go.Proofs.YtibhgdglbillaaaDoor.Abs
set_option linter.unusedSimpArgs false
set_option linter.unusedVariables false
open Go.RowKit
open Go.Proofs.YtibhgdglbillaaaDoor.Sim
open Go.Proofs
section
variable {P : Program} {nt : Nat} {ops : Array Oper} {t : Fm} {m : AM} {K : Fm → AM → Prop} {d T : Nat} {p : String} {af : Array Edge}
end
theorem bl121z : abuild Tryd.prog 121 [] = some (.agg #[.int .i64 0, .int .i64 0, .bool false]) := by kernel_rfl
theorem bl121 {a b : Int} {c : Bool} : abuild Tryd.prog 121 [(0, .int .i64 a), (1, .int .i64 b), (2, .bool c)] = some (.agg #[.int .i64 a, .int .i64 b, .bool c]) := by kernel_rfl
theorem bs55 {m : AM} {k : Nat} {a b : Int} {c : Bool} : abuildSlice Tryd.prog m k 55 1 [(0, .agg #[.int .i64 a, .int .i64 b, .bool c])] = some (.slice (some ⟨k, 0, none⟩) 1 1, m.set k (some { cells := [.int .i64 a, .int .i64 b, .bool c] })) := by kernel_rfl
theorem el55 : elemB Tryd.prog 55 = some (121, 3, 24, #[.int .i64 0, .int .i64 0, .bool false]) := by kernel_rfl
theorem un55 : Tryd.prog.underlying 55 = some (.slice 121) := by kernel_rfl
section
variable {B : Brd} {K : List Kd} {f : Nat} {r : R4}
end
theorem PL.cons {b0 : Nat} {x : Nd} {l1 l2 : List Nd} {M : AM} {a : Nat} (h : b0 ≤ a) (hM : M[a]? = some (some { cells := (ndc1 x ++ ndc l1) ++ ndc l2, kind := .grow, size := 3 })) : PL b0 (x :: (l1 ++ l2)) M (.slice (some ⟨a, 0, none⟩) (1 + l1.length + l2.length) (1 + l1.length + l2.length)) :=
  ⟨a, .grow, 3, h, by rw [show (x :: (l1 ++ l2)).length = 1 + l1.length + l2.length by simp; omega], by simp, by rw [hM]; simp [ndc], .inr ⟨rfl, rfl⟩⟩
end Go.Proofs.YtibhgdglbillaaaDoor.Abs
namespace Go.Proofs.YtibhgdglbillaaaDoor.Abs
set_option linter.unusedSimpArgs false
set_option linter.unusedVariables false
open Go.RowKit
open Go.Proofs.YtibhgdglbillaaaDoor.Sim
open Go.Proofs
/-- A row of nodes in memory. -/
def Nds (m : AM) (v : Value) (l : List Nd) : Prop := ∃ a o, Sl v a o l.length ∧ a < m.length ∧ ∀ i, i < l.length → RdL m a (o + i * 3) (ndc1 (l.getD i (0, 0, false)))
theorem Nds.old {m : AM} {v : Value} {l : List Nd} (h : Nds m v l) (L : AM) : Nds (m ++ L) v l := by
  obtain ⟨a, o, h1, h2, h3⟩ := h
  exact ⟨a, o, h1, by rw [List.length_append]; omega, fun i hi => (h3 i hi).old L⟩
theorem Nds.nil {m : AM} (hM : 0 < m.length) : Nds m (.slice none 0 0) [] := ⟨0, 0, .inl ⟨rfl, rfl⟩, hM, fun i hi => by simp at hi⟩
theorem nds_gv {m L : AM} {k : Nat} {l : List Nd} (h : L[k]? = some (gb (ndc l) 3)) : Nds (m ++ L) (gv (m.length + k) l.length) l := by
  have hlt : m.length + k < (m ++ L).length := by
    rw [List.length_append]
    have := (List.getElem?_eq_some_iff.1 h).1
    omega
  refine ⟨m.length + k, 0, gv_sl _ _, hlt, fun i hi => ?_⟩
  have hp : 0 < (ndc l).length := by rw [ndc_len]; omega
  rw [gb_pos hp] at h
  exact ⟨_, by rw [get_app]; exact h, fun j v hj => by rw [Nat.zero_add]; exact ndc_get l i hi j v hj⟩
theorem ze121 : zeroB Tryd.prog 121 = some #[.int .i64 0, .int .i64 0, .bool false] := by kernel_rfl
end Go.Proofs.YtibhgdglbillaaaDoor.Abs
namespace Go.Proofs.YtibhgdglbillaaaDoor.Abs
set_option linter.unusedSimpArgs false
set_option linter.unusedVariables false
open Go.RowKit
open Go.Proofs.YtibhgdglbillaaaDoor.Sim
open Go.Proofs
/-- What holds whatever of the region was done: L tells which operations were; s is the slot of the first one, pv the values of those that only reckon. -/
structure RI (m0 : AM) (base : List (Nat × Value)) (s : Nat) (pv : Nat → Option Value) (x : Nd) (l1 l2 : List Nd) (L : Nat → Bool) (t : Fm) (M : AM) : Prop where
  mem : ∃ N, M = m0 ++ N
  old : ∀ e ∈ base, t e.1 = some e.2
  pure : ∀ j v, pv j = some v → L j = true → t (s + j) = some v
  lit : L 2 = true → ∃ a, t (s + 2) = some (.slice (some ⟨a, 0, none⟩) 1 1) ∧ m0.length ≤ a ∧ (L 10 = false → M[a]? = some (some { cells := ndc1 x }))
  one : L 9 = true → ∃ (a : Nat) (kd : Kind) (sz : Nat), t (s + 9) = some (.slice (some ⟨a, 0, none⟩) l1.length l1.length) ∧ 0 < l1.length ∧ (L 10 = false → M[a]? = some (some { cells := ndc l1, kind := kd, size := sz }))
  app : L 10 = true → ∃ a, t (s + 10) = some (.slice (some ⟨a, 0, none⟩) (1 + l1.length) (1 + l1.length)) ∧ m0.length ≤ a ∧ (L 18 = false → M[a]? = some (some { cells := ndc1 x ++ ndc l1, kind := .grow, size := 3 }))
  two : L 17 = true → ∃ (a : Nat) (kd : Kind) (sz : Nat), t (s + 17) = some (.slice (some ⟨a, 0, none⟩) l2.length l2.length) ∧ 0 < l2.length ∧ (L 18 = false → M[a]? = some (some { cells := ndc l2, kind := kd, size := sz }))
  all : L 18 = true → ∃ a, t (s + 18) = some (.slice (some ⟨a, 0, none⟩) (1 + l1.length + l2.length) (1 + l1.length + l2.length)) ∧ m0.length ≤ a ∧ M[a]? = some (some { cells := (ndc1 x ++ ndc l1) ++ ndc l2, kind := .grow, size := 3 })
  res : L 19 = true → L 18 = true ∧ ∃ a, t 8 = some (.slice (some ⟨a, 0, none⟩) (1 + l1.length + l2.length) (1 + l1.length + l2.length)) ∧ m0.length ≤ a ∧ M[a]? = some (some { cells := (ndc1 x ++ ndc l1) ++ ndc l2, kind := .grow, size := 3 })
section
variable {m0 : AM} {base : List (Nat × Value)} {s : Nat} {pv : Nat → Option Value} {x : Nd} {l1 l2 : List Nd} {L : Nat → Bool} {t : Fm} {M : AM}
theorem RI.start (h : ∀ e ∈ base, t e.1 = some e.2) : RI m0 base s pv x l1 l2 (fun _ => false) t m0 :=
  ⟨⟨[], by simp⟩, h, fun _ _ _ q => (by cases q), fun q => (by cases q), fun q => (by cases q), fun q => (by cases q), fun q => (by cases q), fun q => (by cases q), fun q => (by cases q)⟩
/-- More memory behind. -/
theorem RI.ext (h : RI m0 base s pv x l1 l2 L t M) (T : AM) : RI m0 base s pv x l1 l2 L t (M ++ T) where
  mem := by obtain ⟨N, e⟩ := h.mem; exact ⟨N ++ T, by rw [e, List.append_assoc]⟩
  old := h.old
  pure := h.pure
  lit := fun q => by obtain ⟨a, a1, a2, a3⟩ := h.lit q; exact ⟨a, a1, a2, fun r => get_old _ (a3 r)⟩
  one := fun q => by obtain ⟨a, kd, sz, a1, a2, a3⟩ := h.one q; exact ⟨a, kd, sz, a1, a2, fun r => get_old _ (a3 r)⟩
  app := fun q => by obtain ⟨a, a1, a2, a3⟩ := h.app q; exact ⟨a, a1, a2, fun r => get_old _ (a3 r)⟩
  two := fun q => by obtain ⟨a, kd, sz, a1, a2, a3⟩ := h.two q; exact ⟨a, kd, sz, a1, a2, fun r => get_old _ (a3 r)⟩
  all := fun q => by obtain ⟨a, a1, a2, a3⟩ := h.all q; exact ⟨a, a1, a2, get_old _ a3⟩
  res := fun q => by obtain ⟨r, a, a1, a2, a3⟩ := h.res q; exact ⟨r, a, a1, a2, get_old _ a3⟩
theorem upL_no {i j : Nat} (h : upL L i j = false) : L j = false := by
  by_cases e : j = i
  · subst e; rw [upL_same] at h; cases h
  · rwa [upL_ne L e] at h
/-- An operation that only reckons. -/
theorem RI.put (h : RI m0 base s pv x l1 l2 L t M) (hb : ∀ e ∈ base, e.1 < s) (hs : 8 < s) {j : Nat} {v : Value} (hv : pv j = some v) (hj : j ≠ 2 ∧ j ≠ 9 ∧ j ≠ 10 ∧ j ≠ 17 ∧ j ≠ 18 ∧ j ≠ 19) : RI m0 base s pv x l1 l2 (upL L j) (Abs.put t (s + j) v) M where
  mem := h.mem
  old := fun e he => by rw [put_ne t v (by have := hb e he; omega)]; exact h.old e he
  pure := fun k w hw hk => by
    by_cases e : k = j
    · subst e
      rw [hv] at hw
      injection hw with hw
      rw [put_same, hw]
    · rw [upL_ne L e] at hk
      rw [put_ne t v (by omega)]
      exact h.pure k w hw hk
  lit := fun q => by
    rw [upL_ne L (by omega)] at q
    obtain ⟨a, a1, a2, a3⟩ := h.lit q
    exact ⟨a, by rw [put_ne t v (by omega)]; exact a1, a2, fun r => a3 (upL_no r)⟩
  one := fun q => by
    rw [upL_ne L (by omega)] at q
    obtain ⟨a, kd, sz, a1, a2, a3⟩ := h.one q
    exact ⟨a, kd, sz, by rw [put_ne t v (by omega)]; exact a1, a2, fun r => a3 (upL_no r)⟩
  app := fun q => by
    rw [upL_ne L (by omega)] at q
    obtain ⟨a, a1, a2, a3⟩ := h.app q
    exact ⟨a, by rw [put_ne t v (by omega)]; exact a1, a2, fun r => a3 (upL_no r)⟩
  two := fun q => by
    rw [upL_ne L (by omega)] at q
    obtain ⟨a, kd, sz, a1, a2, a3⟩ := h.two q
    exact ⟨a, kd, sz, by rw [put_ne t v (by omega)]; exact a1, a2, fun r => a3 (upL_no r)⟩
  all := fun q => by
    rw [upL_ne L (by omega)] at q
    obtain ⟨a, a1, a2, a3⟩ := h.all q
    exact ⟨a, by rw [put_ne t v (by omega)]; exact a1, a2, a3⟩
  res := fun q => by
    rw [upL_ne L (by omega)] at q
    obtain ⟨r, a, a1, a2, a3⟩ := h.res q
    exact ⟨by rw [upL_ne L (by omega)]; exact r, a, by rw [put_ne t v (by omega)]; exact a1, a2, a3⟩
end
end Go.Proofs.YtibhgdglbillaaaDoor.Abs
namespace Go.Proofs.YtibhgdglbillaaaDoor.Abs
set_option linter.unusedSimpArgs false
set_option linter.unusedVariables false
open Go.RowKit
open Go.Proofs.YtibhgdglbillaaaDoor.Sim
open Go.Proofs
def stripB (n x : Int) : Bool := decide (1 ≤ x ∧ x ≤ n)
def stripsB (n : Int) (l : List Int) : Bool := decide (1 ≤ n) && decide (n ≤ 2000) && decide (l.length ≤ 14) && l.all (stripB n)
structure SpOk (n : Int) (l : List Int) : Prop where
  n1 : 1 ≤ n
  n2 : n ≤ 2000
  len : l.length ≤ 14
  at_ : ∀ i, i < l.length → 1 ≤ l.getD i 0 ∧ l.getD i 0 ≤ n
theorem SpOk.of {n : Int} {l : List Int} (h : stripsB n l = true) : SpOk n l := by
  simp only [stripsB, Bool.and_eq_true, decide_eq_true_eq, List.all_eq_true] at h
  obtain ⟨⟨⟨h1, h2⟩, h3⟩, h4⟩ := h
  refine ⟨h1, h2, h3, fun i hi => ?_⟩
  have := h4 (l.getD i 0) (by simp [hi])
  simpa [stripB] using this
end Go.Proofs.YtibhgdglbillaaaDoor.Abs
namespace Go.Proofs.YtibhgdglbillaaaDoor.Abs
set_option linter.unusedSimpArgs false
set_option linter.unusedVariables false
open Go.RowKit
open Go.Proofs.YtibhgdglbillaaaDoor.Sim
open Go.Proofs
section
variable {P : Program} {nt : Nat} {ops : Array Oper} {t : Fm} {m : AM} {K : Fm → AM → Prop} {d T : Nat} {p : String} {af : Array Edge}
theorem still_eqI {X : TypeId} (hX : P.underlying X = some (.int .i64)) (n : Nat) (a b : Int) : Sim.still P (Op.equalIn (n + 1) X (.int .i64 a) (.int .i64 b)) = some (a == b) := by
  rw [Op.equalIn]
  show Sim.still P (Sem.bind (underlying X) _) = _
  rw [still_bind, still_und hX]
  rfl
/-- The fields of a node. -/
def ndF : Array Field := #[⟨"Op", 3, 0, false, "", "", 0⟩, ⟨"Arg", 3, 1, false, "", "", 8⟩, ⟨"Turned", 4, 2, false, "", "", 16⟩]
theorem un121s : Tryd.prog.underlying 121 = some (.struct ndF) := by kernel_rfl
theorem forIn3 {α σ : Type} (x y z : α) (s : σ) (f : α → σ → Sem (ForInStep σ)) : (forIn #[x, y, z] s f : Sem σ) = (do match ← f x s with | .done b => pure b | .yield b => match ← f y b with | .done b => pure b | .yield b => match ← f z b with | .done b => pure b | .yield b => pure b) := by
  simp [List.forIn_cons, List.forIn_nil]
  exact congrArg (fun g => f x s >>= g) (funext fun u => by
    cases u with
    | done b => rfl
    | yield b => exact congrArg (fun g => f y b >>= g) (funext fun v => by
        cases v with
        | done b => rfl
        | yield b => exact congrArg (fun g => f z b >>= g) (funext fun w => by cases w <;> rfl)))
theorem part_ndI {a b x : Int} {c : Bool} {k : Nat} (hk : (#[Value.int .i64 a, .int .i64 b, .bool c] : Array Value)[k]? = some (.int .i64 x)) : Sim.still Tryd.prog (part 3 #[.int .i64 a, .int .i64 b, .bool c] k) = some (.int .i64 x) := by
  unfold part
  have ha : Sim.still Tryd.prog (isAgg 3) = some false := by kernel_rfl
  show Sim.still Tryd.prog (Sem.bind (isAgg 3) _) = _
  rw [still_bind, ha]
  simp only [hk]
  rfl
theorem part_ndB {a b : Int} {c x : Bool} {k : Nat} (hk : (#[Value.int .i64 a, .int .i64 b, .bool c] : Array Value)[k]? = some (.bool x)) : Sim.still Tryd.prog (part 4 #[.int .i64 a, .int .i64 b, .bool c] k) = some (.bool x) := by
  unfold part
  have ha : Sim.still Tryd.prog (isAgg 4) = some false := by kernel_rfl
  show Sim.still Tryd.prog (Sem.bind (isAgg 4) _) = _
  rw [still_bind, ha]
  simp only [hk]
  rfl
set_option maxRecDepth 100000 in
theorem still_eqN {X : TypeId} (hX : Tryd.prog.underlying X = some (.struct ndF)) (hs : Tryd.prog.stoodInHeld X = false) (n : Nat) (a b a' b' : Int) (c c' : Bool) :
    Sim.still Tryd.prog (Op.equalIn (n + 1 + 1) X (.agg #[.int .i64 a, .int .i64 b, .bool c]) (.agg #[.int .i64 a', .int .i64 b', .bool c'])) = some (a == a' && b == b' && c == c') := by
  have h3 := fun (x y : Int) => still_eqI (P := Tryd.prog) un3 n x y
  have h4 := still_eqB (P := Tryd.prog) un4 n c c'
  have p0 := part_ndI (a := a) (b := b) (c := c) (k := 0) rfl
  have p1 := part_ndI (a := a) (b := b) (c := c) (k := 1) rfl
  have p2 := part_ndB (a := a) (b := b) (c := c) (k := 2) rfl
  have q0 := part_ndI (a := a') (b := b') (c := c') (k := 0) rfl
  have q1 := part_ndI (a := a') (b := b') (c := c') (k := 1) rfl
  have q2 := part_ndB (a := a') (b := b') (c := c') (k := 2) rfl
  rw [Op.equalIn]
  show Sim.still Tryd.prog (Sem.bind (underlying X) _) = _
  rw [still_bind, still_und hX]
  show Sim.still Tryd.prog (Sem.bind program _) = _
  have hp : Sim.still Tryd.prog program = some Tryd.prog := rfl
  rw [still_bind, hp]
  simp only [hs]
  unfold ndF
  simp only [forIn3]
  by_cases e1 : a = a'
  · subst e1
    by_cases e2 : b = b'
    · subst e2
      simp [bind, still_bind, p0, q0, p1, q1, p2, q2, h3, h4, pure, Sim.still]
      cases c <;> cases c' <;> rfl
    · have e2' : (b == b') = false := by simp [e2]
      simp [bind, still_bind, p0, q0, p1, q1, h3, pure, Sim.still, e2']
  · have e1' : (a == a') = false := by simp [e1]
    simp [bind, still_bind, p0, q0, h3, pure, Sim.still, e1']
end
section
variable {nt : Nat} {ops : Array Oper} {t : Fm} {m : AM} {K : Fm → AM → Prop} {d T : Nat} {p : String} {af : Array Edge}
set_option maxRecDepth 100000 in
theorem Step.eqlN {x y : Operand} {Y : TypeId} {a b a' b' : Int} {c c' : Bool} (hx : evo t x = some (.agg #[.int .i64 a, .int .i64 b, .bool c])) (hy : evo t y = some (.agg #[.int .i64 a', .int .i64 b', .bool c'])) (hlt : Nat.blt d nt = true) (hK : K (put t d (.bool (a == a' && b == b' && c == c'))) m) : Step Tryd.prog nt ops ⟨some d, .binOp .eql 121 x y Y, T, p, af, none⟩ t m K := by
  refine .ground rfl rfl hlt (by simp [Op.operands, hx, hy, g1, g0]) (fun h => by simp only [aquiet, evD_of hx, evD_of hy, aint, anil, un121s]; simpa [evD_of hx, evD_of hy] using h) ?_ (by simp [g1, g0]) hK
  have he : Sim.still Tryd.prog (Op.equal 121 (.agg #[.int .i64 a, .int .i64 b, .bool c]) (.agg #[.int .i64 a', .int .i64 b', .bool c'])) = some (a == a' && b == b' && c == c') := still_eqN un121s (by kernel_rfl) 9998 a b a' b' c c'
  have hgt : Tryd.prog.eqGuardType Tryd.prog.depth 121 = false := by kernel_rfl
  have hp : Sim.still Tryd.prog program = some Tryd.prog := rfl
  simp only [execOp, eqGuard, binOp, evD_of hx, evD_of hy, bind, Sem.bind, pure]
  simp [still_bind, hp, hgt, he, Sim.still]
end
end Go.Proofs.YtibhgdglbillaaaDoor.Abs
namespace Go.Proofs.YtibhgdglbillaaaDoor.Abs
set_option linter.unusedSimpArgs false
set_option linter.unusedVariables false
open Go.RowKit
open Go.Proofs.YtibhgdglbillaaaDoor.Sim
open Go.Proofs
/-- A place is named, nothing lies in it. -/
theorem Post.none_put {base : Nat} {R : Pl} {m : AM} {w : World} (h : MRep base R m w) (q : Sim.Place) : Post base m (m ++ [none]) R (R.put m.length q) w w := by
  have hle := Pl.le_put R m.length q (h.none_ _ (Nat.le_refl _))
  have old : ∀ (i : Nat) (b : Blk), (m ++ [none])[i]? = some (some b) → m[i]? = some (some b) := by
    intro i b hi
    rcases Nat.lt_or_ge i m.length with hl | hl
    · rwa [List.getElem?_append_left hl] at hi
    · rw [List.getElem?_append_right hl] at hi
      rcases Nat.eq_zero_or_pos (i - m.length) with e | e
      · rw [e] at hi; simp at hi
      · rw [List.getElem?_eq_none (by simp; omega)] at hi; cases hi
  have ne : ∀ (i : Nat) (b : Blk), m[i]? = some (some b) → i ≠ m.length := fun i b hi => by
    have := (List.getElem?_eq_some_iff.1 hi).1
    omega
  refine ⟨hle, ⟨fun j hj => ?_, fun j d hj => ?_, fun i j b c p r hi hj hb hc hij hp hr => ?_⟩, rfl, rfl, rfl, Nat.le_refl _, fun _ _ _ => rfl, fun k ho => .inr ?_⟩
  · simp at hj
    rw [Pl.put_other _ _ (by omega)]
    exact h.none_ j (by omega)
  · obtain ⟨r, h1, h2⟩ := h.rep j d (old j d hj)
    exact ⟨r, hle _ _ h1, h2.mono hle⟩
  · rw [Pl.put_other _ _ (ne i b (old i b hi))] at hp
    rw [Pl.put_other _ _ (ne j c (old j c hj))] at hr
    exact h.apart i j b c p r (old i b hi) (old j c hj) hb hc hij hp hr
  · obtain ⟨i, b, p, h1, h2, h3, h4⟩ := ho
    rw [Pl.put_other _ _ (ne i b (old i b h1))] at h3
    exact ⟨i, b, p, old i b h1, h2, h3, h4⟩
/-- What is left of a row of n + 1 behind its first element; k is a new name. -/
def rsV (a o s n c k : Nat) : Value := if c = 0 then .slice (some ⟨k, 0, none⟩) 0 0 else .slice (some ⟨a, o + s, none⟩) n c
section
variable {P : Program} {nt : Nat} {ops : Array Oper} {t : Fm} {m : AM} {K : Fm → AM → Prop} {d T : Nat} {p : String} {af : Array Edge}
theorem Step.rest {x y : Operand} {X e s a o n c : Nat} {kk : IntKind} (hx : evo t x = some (.slice (some ⟨a, o, none⟩) (n + 1) (c + 1))) (hy : evo t y = some (.int kk 1)) (hn : n ≤ c) (hX : P.underlying X = some (.slice e)) (hsz : szB P e = some s)
    (hlt : Nat.blt d nt = true) (hK : K (put t d (rsV a o s n c m.length)) (m ++ [none])) : Step P nt ops ⟨some d, .slice X x (some y) none none, T, p, af, none⟩ t m K := by
  refine .l rfl rfl hlt (by simp [stillB, hX]) (by simp [Op.operands, hx, hy]) ?_
  intro base R w b Q next hb hm hev hn'
  have h1 := hev x (by simp [Op.operands])
  have h2 := hev y (by simp [Op.operands])
  rw [evD_of hx] at h1
  rw [evD_of hy] at h2
  obtain ⟨q, hq, ex⟩ : ∃ q, R a = some q ∧ b.eval x = .slice (some ⟨q.block, q.off + o, none⟩) (n + 1) (c + 1 + q.extra) := by
    generalize b.eval x = x' at h1
    cases h1 with
    | slice _ _ _ _ q hq hle => exact ⟨q, hq, rfl⟩
  have ey : b.eval y = .int kk 1 := by
    generalize b.eval y = y' at h2
    cases h2
    rfl
  have b1 : bnd 0 (some (.int kk 1)) = some 1 := by simp [bnd]
  have b2 : bnd (n + 1) none = some (n + 1) := by simp [bnd]
  obtain ⟨u, hu⟩ : ∃ u, u = (if c + 1 + q.extra = 1 then (⟨q.block, q.off + o, none⟩ : Addr) else (⟨q.block, q.off + o, none⟩ : Addr).add (1 * s)) := ⟨_, rfl⟩
  have hr : (Instr.sliceAt X (b.eval x) (some (b.eval y)) none none).run P w = .ok (.slice (some u) n (c + q.extra)) w := by
    rw [ex, ey, hu]
    simp [Instr.sliceAt, Instr.slice, run_underlying hX, run_bounds (P := P) b1 b2 (show 1 ≤ n + 1 by omega) (show n + 1 ≤ c + 1 + q.extra by omega), run_sizeOf' hsz]
    split <;> rfl
  have hx' : (execOp b.eval ⟨some d, .slice X x (some y) none none, T, p, af, none⟩).run P w = .ok (.value (.slice (some u) n (c + q.extra))) w := by simp [execOp, hr]
  by_cases hc : c = 0
  · obtain rfl : n = 0 := by omega
    subst hc
    have hrel : ∃ z : Sim.Place, u = ⟨z.block, z.off, none⟩ ∧ z.extra = q.extra := by
      by_cases hz : 0 + 1 + q.extra = 1
      · rw [if_pos hz] at hu
        exact ⟨⟨q.block, q.off + o, q.extra⟩, hu, rfl⟩
      · rw [if_neg hz, Addr.add_lit] at hu
        exact ⟨⟨q.block, q.off + o + 1 * s, q.extra⟩, hu, rfl⟩
    obtain ⟨z, hz, hze⟩ := hrel
    refine wp_of_does rfl (.inl hx') (hn' (R.put m.length z) (rsV a o s 0 0 m.length) _ _ w ?_ (Post.none_put hm z) hK)
    have := Rel.slice (R := R.put m.length z) m.length 0 0 0 z (Pl.put_same _ _ _) (Nat.le_refl _)
    rw [hze] at this
    rw [hz]
    simpa [rsV] using this
  · refine wp_of_does rfl (.inl hx') (hn' (R.put m.length q) (rsV a o s n c m.length) _ _ w ?_ (Post.none_put hm q) hK)
    have hle := Pl.le_put R m.length q (hm.none_ _ (Nat.le_refl _))
    have := Rel.slice (R := R.put m.length q) a (o + s) n c q (hle _ _ hq) hn
    rw [if_neg (by omega), Addr.add_lit] at hu
    rw [hu]
    simpa [rsV, hc, Nat.add_assoc] using this
/-- One element (of any size) is added to nil. -/
theorem Step.appNs {x y : Operand} {X Y e e' : TypeId} {by_ s r sz : Nat} {z : Array Value} {new : List Value} {kd : Kind} (hx : evo t x = some (.slice none 0 0)) (hy : evo t y = some (.slice (some ⟨r, 0, none⟩) 1 1)) (hE : elemB P X = some (e, s, by_, z)) (hY : P.underlying Y = some (.slice e'))
    (hr : m[r]? = some (some { cells := new, kind := kd, size := sz })) (hn : new.length = s) (hn1 : new.all (·.oneCell') = true) (hs : 0 < s) (hb : Nat.ble by_ 1099511627776 = true) (hlt : Nat.blt d nt = true)
    (hK : K (put t d (.slice (some ⟨m.length, 0, none⟩) 1 1)) (m ++ [some { cells := new, kind := .grow, size := s }])) :
    Step P nt ops ⟨some d, .call ⟨.builtin .append, #[x, y], #[X, Y]⟩, T, p, af, none⟩ t m K := by
  have hb' := Nat.le_of_ble_eq_true hb
  have h1 : K (put t d (.slice (some ⟨m.length + 0, 0, none⟩) 1 1)) (m ++ ([] ++ [some { cells := new, kind := .grow, size := s }])) := by simpa using hK
  rw [← List.append_nil m] at hr ⊢
  refine .l rfl rfl hlt rfl (by simp [Op.operands, Call.operands, hx, hy]) (loudN (L := []) rfl rfl (v := .slice (some ⟨m.length + 0, 0, none⟩) 1 1) ?_ h1)
  have hcell : acells ((m ++ []) ++ [none]) s 1 (.slice (some ⟨r, 0, none⟩) 1 1) = some new := by
    have hg : ((m ++ []) ++ [none])[r]? = some (some { cells := new, kind := kd, size := sz }) := get_old _ hr
    simp only [acells, hg]
    rw [if_neg (by omega), if_pos ⟨Nat.le_refl _, by simp [hn]⟩]
    simp [← hn]
  simp only [aloud, evD_of hx, evD_of hy, aappend, hE, hY, aSliceLen, hcell]
  rw [if_neg (by simp [hn1]; omega), if_neg (by omega), if_pos ⟨by omega, by omega⟩, set_new_at m [] rfl]
  simp
/-- One element (of any size) is added to a row that may grow, wherever it lies. -/
theorem Step.appBs {x y : Operand} {X Y e e' : TypeId} {by_ s q r n sz : Nat} {z : Array Value} {c new : List Value} {kd : Kind} (hx : evo t x = some (.slice (some ⟨q, 0, none⟩) n n)) (hy : evo t y = some (.slice (some ⟨r, 0, none⟩) 1 1)) (hE : elemB P X = some (e, s, by_, z)) (hY : P.underlying Y = some (.slice e'))
    (hq : m[q]? = some (some { cells := c, kind := .grow, size := s })) (hc : c.length = n * s) (hr : m[r]? = some (some { cells := new, kind := kd, size := sz })) (hn : new.length = s) (hn1 : new.all (·.oneCell') = true) (hs : 0 < s) (hb : (n + 1) * by_ ≤ 1099511627776 ∧ n + 1 ≤ 1099511627776) (hlt : Nat.blt d nt = true)
    (hK : K (put t d (.slice (some ⟨m.length, 0, none⟩) (n + 1) (n + 1))) ((m.set q none) ++ [some { cells := c ++ new, kind := .grow, size := s }])) :
    Step P nt ops ⟨some d, .call ⟨.builtin .append, #[x, y], #[X, Y]⟩, T, p, af, none⟩ t m K := by
  refine .l rfl rfl hlt rfl (by simp [Op.operands, Call.operands, hx, hy]) (loud_of_aloud (v := .slice (some ⟨m.length, 0, none⟩) (n + 1) (n + 1)) (m' := (m.set q none) ++ [some { cells := c ++ new, kind := .grow, size := s }]) rfl ?_ hK)
  have hsl : q < m.length := (List.getElem?_eq_some_iff.1 hq).1
  have hcell : acells (m ++ [none]) s 1 (.slice (some ⟨r, 0, none⟩) 1 1) = some new := by
    have hg : (m ++ [none])[r]? = some (some { cells := new, kind := kd, size := sz }) := get_old _ hr
    simp only [acells, hg]
    rw [if_neg (by omega), if_pos ⟨Nat.le_refl _, by simp [hn]⟩]
    simp [← hn]
  have hg : (m ++ [none])[q]? = some (some { cells := c, kind := .grow, size := s }) := get_old _ hq
  simp only [aloud, evD_of hx, evD_of hy, aappend, hE, hY, aSliceLen, hcell]
  rw [if_neg (by simp [hn1]; omega), if_neg (by omega)]
  simp only [hg]
  rw [if_neg (by omega), if_pos ⟨hb.1, hb.2, Nat.le_refl _⟩, if_pos ⟨by simp [hc], trivial⟩]
  simp only [List.drop_zero, Option.some.injEq, Prod.mk.injEq, true_and]
  rw [List.set_append_left _ _ hsl, List.set_append_right _ _ (by simp)]
  simp [List.take_of_length_le (show c.length ≤ n * s by omega)]
end
end Go.Proofs.YtibhgdglbillaaaDoor.Abs
namespace Go.Proofs.YtibhgdglbillaaaDoor.Abs
set_option linter.unusedSimpArgs false
set_option linter.unusedVariables false
open Go.RowKit
open Go.Proofs.YtibhgdglbillaaaDoor.Sim
open Go.Proofs
/-- A piece: its kind, where it lies, turned or not. -/
abbrev Plc := Nat × R4 × Bool
def plc1 (x : Plc) : List Value := .int .i64 (x.1 : Nat) :: (x.2.1.rc.cells ++ [.bool x.2.2])
def plc (l : List Plc) : List Value := l.flatMap plc1
theorem plc1_len (x : Plc) : (plc1 x).length = 6 := rfl
theorem plc_len (l : List Plc) : (plc l).length = l.length * 6 := by
  induction l with
  | nil => rfl
  | cons k l ih =>
    have : plc (k :: l) = plc1 k ++ plc l := rfl
    rw [this, List.length_append, ih, plc1_len]
    simp
    omega
theorem plc_get : ∀ (l : List Plc) (i : Nat), i < l.length → ∀ (j : Nat) (v : Value), (plc1 (l.getD i default))[j]? = some v → (plc l)[i * 6 + j]? = some v
  | [], i, hi, _, _, _ => by simp at hi
  | k :: l, 0, _, j, v, hj => by
    have e : plc (k :: l) = plc1 k ++ plc l := rfl
    have hj' : (plc1 k)[j]? = some v := by simpa using hj
    have hlt := (List.getElem?_eq_some_iff.1 hj').1
    rw [e, Nat.zero_mul, Nat.zero_add, List.getElem?_append_left hlt]
    exact hj'
  | k :: l, i + 1, hi, j, v, hj => by
    have e : plc (k :: l) = plc1 k ++ plc l := rfl
    have e3 : (plc1 k).length = 6 := rfl
    rw [e, List.getElem?_append_right (by rw [e3]; omega), e3, show (i + 1) * 6 + j - 6 = i * 6 + j by omega]
    exact plc_get l i (by simpa using hi) j v (by simpa using hj)
/-- The reading of a plan: its pieces, and the nodes behind it. -/
def rdM (B : Brd) (K : List Kd) : Nat → R4 → List Nd → Option (List Plc × List Nd)
  | 0, _, _ => none
  | _ + 1, _, [] => none
  | f + 1, r, n :: p =>
    if n.1 = 0 then (if n.2.1 = 0 ∧ n.2.2 = false then some ([], p) else none)
    else if n.1 = 1 then (if 0 ≤ n.2.1 ∧ n.2.1 < K.length ∧ okB B (K.getD n.2.1.toNat default) r = true ∧ turnedB (K.getD n.2.1.toNat default) r = n.2.2 then some ([(n.2.1.toNat, r, n.2.2)], p) else none)
    else if n.1 = 2 ∨ n.1 = 3 then
      (if n.2.2 = false ∧ 1 ≤ n.2.1 ∧ n.2.1 < r.len (decide (n.1 = 2)) then
        match rdM B K f (r.lo (decide (n.1 = 2)) n.2.1.toNat) p with
        | none => none
        | some (l1, p1) => match rdM B K f (r.hi (decide (n.1 = 2)) n.2.1.toNat) p1 with
          | none => none
          | some (l2, p2) => some (l1 ++ l2, p2)
      else none)
    else none
theorem rd_nil (B : Brd) (K : List Kd) (f : Nat) (r : R4) : rdM B K (f + 1) r [] = none := rfl
theorem rd_waste {B : Brd} {K : List Kd} {f : Nat} {r : R4} {n : Nd} {p : List Nd} (h : n.1 = 0) : rdM B K (f + 1) r (n :: p) = if n.2.1 = 0 ∧ n.2.2 = false then some ([], p) else none := by
  simp only [rdM]
  rw [if_pos h]
theorem rd_piece {B : Brd} {K : List Kd} {f : Nat} {r : R4} {n : Nd} {p : List Nd} (h : n.1 = 1) : rdM B K (f + 1) r (n :: p) = if 0 ≤ n.2.1 ∧ n.2.1 < K.length ∧ okB B (K.getD n.2.1.toNat default) r = true ∧ turnedB (K.getD n.2.1.toNat default) r = n.2.2 then some ([(n.2.1.toNat, r, n.2.2)], p) else none := by
  simp only [rdM]
  rw [if_neg (by omega), if_pos h]
theorem rd_nocut {B : Brd} {K : List Kd} {f : Nat} {r : R4} {n : Nd} {p : List Nd} (d : Bool) (h : n.1 = opI d) (hc : ¬ (n.2.2 = false ∧ 1 ≤ n.2.1 ∧ n.2.1 < r.len d)) : rdM B K (f + 1) r (n :: p) = none := by
  have hd : decide (n.1 = 2) = d := by rw [h]; cases d <;> rfl
  have h3 : n.1 = 2 ∨ n.1 = 3 := by rw [h]; cases d <;> simp [opI]
  simp only [rdM, hd]
  rw [if_neg (by omega), if_neg (by omega), if_pos h3, if_neg hc]
theorem rd_docut {B : Brd} {K : List Kd} {f i : Nat} {r : R4} {p : List Nd} (d : Bool) (h1 : 1 ≤ i) (h2 : i + 1 ≤ r.len d) : rdM B K (f + 1) r ((opI d, (i : Nat), false) :: p) = match rdM B K f (r.lo d i) p with
    | none => none
    | some (l1, p1) => match rdM B K f (r.hi d i) p1 with
      | none => none
      | some (l2, p2) => some (l1 ++ l2, p2) := by
  have hd : decide (opI d = 2) = d := by cases d <;> rfl
  have h3 : opI d = 2 ∨ opI d = 3 := by cases d <;> simp [opI]
  simp only [rdM, hd, Int.toNat_natCast]
  rw [if_neg (by omega), if_neg (by omega), if_pos h3, if_pos ⟨trivial, by omega, by omega⟩]
theorem rd_other {B : Brd} {K : List Kd} {f : Nat} {r : R4} {n : Nd} {p : List Nd} (h0 : ¬ n.1 = 0) (h1 : ¬ n.1 = 1) (h2 : ¬ n.1 = 2) (h3 : ¬ n.1 = 3) : rdM B K (f + 1) r (n :: p) = none := by
  simp only [rdM]
  rw [if_neg h0, if_neg h1, if_neg (by omega)]
def worthL (K : List Kd) : List Plc → Int
  | [] => 0
  | x :: l => (K.getD x.1 default).worth + worthL K l
theorem worthL_app (K : List Kd) (a b : List Plc) : worthL K (a ++ b) = worthL K a + worthL K b := by
  induction a with
  | nil => simp [worthL]
  | cons x a ih => simp only [List.cons_append, worthL, ih]; omega
theorem rdM_cut {B : Brd} {K : List Kd} {f : Nat} {r : R4} {n : Nd} {p p' : List Nd} {l : List Plc} (h : rdM B K (f + 1) r (n :: p) = some (l, p')) :
    (l = [] ∧ p' = p) ∨ (∃ k, k < K.length ∧ okB B (K.getD k default) r = true ∧ turnedB (K.getD k default) r = n.2.2 ∧ l = [(k, r, n.2.2)] ∧ p' = p) ∨
      ∃ d i l1 p1 l2, 1 ≤ i ∧ i + 1 ≤ r.len d ∧ rdM B K f (r.lo d i) p = some (l1, p1) ∧ rdM B K f (r.hi d i) p1 = some (l2, p') ∧ l = l1 ++ l2 := by
  obtain ⟨o, i, t⟩ := n
  simp only [rdM] at h
  split at h
  · split at h
    · injection h with h; injection h with h1 h2
      exact .inl ⟨h1.symm, h2.symm⟩
    · cases h
  · split at h
    · split at h
      · rename_i c
        obtain ⟨c1, c2, c3, c4⟩ := c
        injection h with h; injection h with h1 h2
        exact .inr (.inl ⟨i.toNat, by omega, c3, c4, h1.symm, h2.symm⟩)
      · cases h
    · split at h
      · split at h
        · rename_i c
          obtain ⟨c1, c2, c3⟩ := c
          split at h
          · cases h
          · rename_i l1 p1 e1
            split at h
            · cases h
            · rename_i l2 p2 e2
              injection h with h; injection h with h1 h2
              subst h2
              exact .inr (.inr ⟨_, i.toNat, l1, p1, l2, by omega, by omega, e1, e2, h1.symm⟩)
        · cases h
      · cases h
theorem rdM_len {B : Brd} {K : List Kd} : ∀ (f : Nat) {r : R4} {p p' : List Nd} {l : List Plc}, rdM B K f r p = some (l, p') → l.length + p'.length + 1 ≤ p.length + 1 ∧ p'.length + 1 ≤ p.length
  | 0, _, _, _, _, h => by simp [rdM] at h
  | _ + 1, _, [], _, _, h => by simp [rdM] at h
  | f + 1, r, n :: p, p', l, h => by
    rcases rdM_cut h with ⟨rfl, rfl⟩ | ⟨k, _, _, _, rfl, rfl⟩ | ⟨d, i, l1, p1, l2, _, _, e1, e2, rfl⟩
    · simp
    · simp; omega
    · have a1 := rdM_len f e1
      have a2 := rdM_len f e2
      simp only [List.length_append, List.length_cons]
      omega
theorem rdM_all {B : Brd} {K : List Kd} {w h : Nat} : ∀ (f : Nat) {r : R4} {p p' : List Nd} {l : List Plc}, r.ok w h → rdM B K f r p = some (l, p') → ∀ x ∈ l, x.1 < K.length ∧ x.2.1.ok w h ∧ okB B (K.getD x.1 default) x.2.1 = true ∧ turnedB (K.getD x.1 default) x.2.1 = x.2.2
  | 0, _, _, _, _, _, h => by simp [rdM] at h
  | _ + 1, _, [], _, _, _, h => by simp [rdM] at h
  | f + 1, r, n :: p, p', l, hr, h => by
    rcases rdM_cut h with ⟨rfl, rfl⟩ | ⟨k, k1, k2, k3, rfl, rfl⟩ | ⟨d, i, l1, p1, l2, i1, i2, e1, e2, rfl⟩
    · intro x hx; simp at hx
    · intro x hx
      simp at hx
      subst hx
      exact ⟨k1, hr, k2, k3⟩
    · intro x hx
      rcases List.mem_append.1 hx with hx | hx
      · exact rdM_all f (lo_ok hr i1 i2) e1 x hx
      · exact rdM_all f (hi_ok hr i1 i2) e2 x hx
/-- No plan is worth more than the greatest worth. -/
theorem rdM_worth {B : Brd} {K : List Kd} (hg : goodB B K = true) : ∀ (f : Nat) {r : R4} {p p' : List Nd} {l : List Plc}, r.ok (bw B) (bh B) → rdM B K f r p = some (l, p') → worthL K l ≤ V (leafM B K) r
  | 0, _, _, _, _, _, h => by simp [rdM] at h
  | _ + 1, _, [], _, _, _, h => by simp [rdM] at h
  | f + 1, r, n :: p, p', l, hr, h => by
    rcases rdM_cut h with ⟨rfl, rfl⟩ | ⟨k, k1, k2, k3, rfl, rfl⟩ | ⟨d, i, l1, p1, l2, i1, i2, e1, e2, rfl⟩
    · exact (V_in hg hr).1
    · have h1 := leafN_ge2 B K r K.length k k1 k2
      have h2 := leaf_le_V (leaf := leafM B K) hr
      have h3 : leafM B K r = leafN B K r K.length := rfl
      simp only [worthL]
      omega
    · have a1 := rdM_worth hg f (lo_ok hr i1 i2) e1
      have a2 := rdM_worth hg f (hi_ok hr i1 i2) e2
      have h1 := cut_le_V (leaf := leafM B K) hr d
      have h2 := le_mxc (f := fun i => V (leafM B K) (r.lo d i) + V (leafM B K) (r.hi d i)) (r.len d - 1) i i1 (by omega)
      have h3 : cutM (V (leafM B K)) r d = mxc (fun i => V (leafM B K) (r.lo d i) + V (leafM B K) (r.hi d i)) (r.len d - 1) := rfl
      rw [worthL_app]
      omega
theorem worthL_in {K : List Kd} (hK : kindsB K = true) : ∀ (l : List Plc), (∀ x ∈ l, x.1 < K.length) → 0 ≤ worthL K l ∧ worthL K l ≤ l.length * 1000000
  | [], _ => by simp [worthL]
  | x :: l, h => by
    have a := worthL_in hK l fun y hy => h y (by simp [hy])
    have b := kdB_in (kinds_get hK (h x (by simp)))
    simp only [worthL, List.length_cons]
    omega
/-- A bound bounds the greatest worth. -/
theorem bound_V {B : Brd} {K : List Kd} {t : List Int} (h : boundB (leafM B K) (bw B) (bh B) t = true) : ∀ r : R4, r.ok (bw B) (bh B) → V (leafM B K) r ≤ tg (bw B) (bh B) t r := by
  simp only [boundB, Bool.and_eq_true, List.all_eq_true, decide_eq_true_eq] at h
  obtain ⟨h0, h1⟩ := h
  have key : ∀ r : R4, r.ok (bw B) (bh B) → okR (leafM B K) (bw B) (bh B) t r = true := fun r hr => h1 r (mem_all.2 hr)
  refine V_bound (fun r hr => ?_) (fun r hr => ?_) (fun r d i hr i1 i2 => ?_)
  · unfold tg
    rw [List.getD_eq_getElem?_getD]
    cases e : t[r.at (bw B) (bh B)]? with
    | none => simp
    | some x => exact h0 x (List.mem_of_getElem? e)
  · have := key r hr
    simp only [okR, Bool.and_eq_true, decide_eq_true_eq] at this
    exact this.1.1
  · have := key r hr
    simp only [okR, Bool.and_eq_true, decide_eq_true_eq] at this
    cases d with
    | true => exact cutOk_iff.1 this.1.2 i i1 (by omega)
    | false => exact cutOk_iff.1 this.2 i i1 (by omega)
end Go.Proofs.YtibhgdglbillaaaDoor.Abs
namespace Go.Proofs.YtibhgdglbillaaaDoor.Abs
set_option linter.unusedSimpArgs false
set_option linter.unusedVariables false
open Go.RowKit
open Go.Proofs.YtibhgdglbillaaaDoor.Sim
open Go.Proofs
section
variable {P : Program} {nt : Nat} {ops : Array Oper} {t : Fm} {m : AM} {K : Fm → AM → Prop} {d T : Nat} {p : String} {af : Array Edge}
theorem Step.restO {M L L' : AM} {x y : Operand} {X e s a o n c k : Nat} {kk : IntKind} (hk : L.length = k) (hx : evo t x = some (.slice (some ⟨a, o, none⟩) (n + 1) (c + 1))) (hy : evo t y = some (.int kk 1)) (hn : n ≤ c) (hX : P.underlying X = some (.slice e)) (hsz : szB P e = some s)
    (hlt : Nat.blt d nt = true) (hL : L ++ [none] = L') (hK : K (put t d (rsV a o s n c (M.length + k))) (M ++ L')) : Step P nt ops ⟨some d, .slice X x (some y) none none, T, p, af, none⟩ t (M ++ L) K := by
  subst hL hk
  exact Step.rest hx hy hn hX hsz hlt (by rw [List.length_append, List.append_assoc]; exact hK)
/-- A call that may turn anything that its contract says. -/
theorem Step.callZ {args : Array Operand} {tys : Array TypeId} {g : FuncId} {vs : List Value} {fn : Func} {b : Code} {S : Value → AM → Prop} (hP : Fit P) (ha : evL t args.toList = some vs) (hf : P.funcs[g]? = some fn) (hb : fn.body = some b)
    (hlt : Nat.blt d nt = true) (h : ACall P g vs.toArray m S) (hK : ∀ (v : Value) (M : AM), S v M → K (put t d v) (M ++ [])) : Step P nt ops ⟨some d, .call ⟨.value (.func g), args, tys⟩, T, p, af, none⟩ t m K :=
  .callF hP ha hf hb hlt h (by
    intro v m' hS
    have := hK v m' hS
    rwa [List.append_nil] at this)
end
/-- What is left of a row of nodes that lies in the memory m0. -/
def PN (m0 : AM) (v : Value) (l : List Nd) : Prop := ∃ a o, Sl v a o l.length ∧ ∀ i, i < l.length → RdL m0 a (o + i * 3) (ndc1 (l.getD i (0, 0, false)))
theorem PN.old {m : AM} {v : Value} {l : List Nd} (h : PN m v l) (T : AM) : PN (m ++ T) v l := by
  obtain ⟨a, o, h1, h2⟩ := h
  exact ⟨a, o, h1, fun i hi => (h2 i hi).old T⟩
theorem PN.of_nds {m : AM} {v : Value} {l : List Nd} (h : Nds m v l) : PN m v l := by
  obtain ⟨a, o, sl, _, rd⟩ := h
  exact ⟨a, o, sl, rd⟩
theorem PN.cons {m : AM} {v : Value} {n : Nd} {l : List Nd} (h : PN m v (n :: l)) : ∃ a o c, l.length ≤ c ∧ v = .slice (some ⟨a, o, none⟩) (l.length + 1) (c + 1) ∧ ∀ i, i < (n :: l).length → RdL m a (o + i * 3) (ndc1 ((n :: l).getD i (0, 0, false))) := by
  obtain ⟨a, o, sl, rd⟩ := h
  rcases sl with ⟨e, h0⟩ | ⟨c, hc, e⟩ | ⟨h0, o', k, e⟩
  · simp at h0
  · simp at hc
    exact ⟨a, o, c - 1, by omega, by rw [e, show c - 1 + 1 = c by omega]; rfl, rd⟩
  · simp at h0
/-- Behind the first node. -/
theorem PN.tail {m0 : AM} {a o c k : Nat} {n : Nd} {l : List Nd} (hc : l.length ≤ c) (h : ∀ i, i < (n :: l).length → RdL m0 a (o + i * 3) (ndc1 ((n :: l).getD i (0, 0, false)))) : PN m0 (rsV a o 3 l.length c k) l := by
  by_cases h0 : c = 0
  · have hl : l.length = 0 := by omega
    obtain rfl : l = [] := List.length_eq_zero_iff.1 hl
    subst h0
    exact ⟨k, 0, .inr (.inl ⟨0, Nat.le_refl _, rfl⟩), fun i hi => by simp at hi⟩
  · refine ⟨a, o + 3, .inr (.inl ⟨c, hc, by simp [rsV, h0]⟩), fun i hi => ?_⟩
    have := h (i + 1) (by simpa using hi)
    rw [show o + (i + 1) * 3 = o + 3 + i * 3 by omega] at this
    simpa using this
/-- The found pieces: variable F names a row of them, in block A. -/
def FD (b0 : Nat) (m : AM) (F A : Nat) (l : List Plc) : Prop := b0 ≤ F ∧ ∃ v, m[F]? = some (some { cells := [v] }) ∧ (l = [] ∧ v = .slice none 0 0 ∨ v = .slice (some ⟨A, 0, none⟩) l.length l.length ∧ 0 < l.length ∧ b0 ≤ A ∧ A ≠ F ∧ m[A]? = some (some { cells := plc l, kind := .grow, size := 6 }))
theorem FD.old {b0 : Nat} {m : AM} {F A : Nat} {l : List Plc} (h : FD b0 m F A l) (T : AM) : FD b0 (m ++ T) F A l := by
  obtain ⟨h1, v, h2, h3⟩ := h
  refine ⟨h1, v, get_old _ h2, ?_⟩
  rcases h3 with h3 | ⟨h3, h4, h5, h6, h7⟩
  · exact .inl h3
  · exact .inr ⟨h3, h4, h5, h6, get_old _ h7⟩
/-- All but these two blocks is as it was. -/
def Kp (m M : AM) (F A : Nat) : Prop := m.length ≤ M.length ∧ ∀ (j : Nat) (b : Option Blk), j ≠ F → j ≠ A → m[j]? = some b → M[j]? = some b
theorem Kp.refl (m : AM) (F A : Nat) : Kp m m F A := ⟨Nat.le_refl _, fun _ _ _ _ h => h⟩
theorem Kp.old {m M : AM} {F A : Nat} (h : Kp m M F A) (T : AM) : Kp m (M ++ T) F A := ⟨by rw [List.length_append]; have := h.1; omega, fun j b h1 h2 h3 => get_old _ (h.2 j b h1 h2 h3)⟩
theorem Kp.of_old {m M T : AM} {F A : Nat} (h : Kp (m ++ T) M F A) : Kp m M F A := ⟨by have := h.1; rw [List.length_append] at this; omega, fun j b h1 h2 h3 => h.2 j b h1 h2 (get_old _ h3)⟩
theorem Kp.trans {m m1 M : AM} {F A A1 : Nat} (h : Kp m m1 F A) (hA : A1 = A ∨ m.length ≤ A1) (k : Kp m1 M F A1) : Kp m M F A := by
  refine ⟨Nat.le_trans h.1 k.1, fun j b h1 h2 h3 => k.2 j b h1 (fun e => ?_) (h.2 j b h1 h2 h3)⟩
  have := (List.getElem?_eq_some_iff.1 h3).1
  rcases hA with hA | hA
  · exact h2 (by rw [e, hA])
  · omega
theorem Kp.setF {m M : AM} {F A : Nat} (h : Kp m M F A) (b : Option Blk) : Kp m (M.set F b) F A := ⟨by have := h.1; rw [List.length_set]; omega, fun j c h1 h2 h3 => by rw [List.getElem?_set_ne (fun e => h1 e.symm)]; exact h.2 j c h1 h2 h3⟩
theorem Kp.setA {m M : AM} {F A : Nat} (h : Kp m M F A) (b : Option Blk) : Kp m (M.set A b) F A := ⟨by have := h.1; rw [List.length_set]; omega, fun j c h1 h2 h3 => by rw [List.getElem?_set_ne (fun e => h2 e.symm)]; exact h.2 j c h1 h2 h3⟩
theorem Kp.rd {m M : AM} {F A a o : Nat} {v : Value} (h : Kp m M F A) (h1 : a ≠ F) (h2 : a ≠ A) (hr : Rd m a o v) : Rd M a o v := by
  obtain ⟨b, k1, k2⟩ := hr
  exact ⟨b, h.2 a _ h1 h2 k1, k2⟩
theorem Kp.rdL {m M : AM} {F A a o : Nat} {c : List Value} (h : Kp m M F A) (h1 : a ≠ F) (h2 : a ≠ A) (hr : RdL m a o c) : RdL M a o c := by
  obtain ⟨b, k1, k2⟩ := hr
  exact ⟨b, h.2 a _ h1 h2 k1, k2⟩
/-- What a reading leaves. -/
def RdP (m0 m : AM) (F A : Nat) (l : List Plc) : Option (List Plc × List Nd) → Value → AM → Prop
  | none => fun w M => (∃ N, M = m0 ++ N) ∧ ∃ u, w = .tuple #[u, .bool false]
  | some (l2, ps) => fun w M => (∃ N, M = m0 ++ N) ∧ ∃ u A', w = .tuple #[u, .bool true] ∧ PN m0 u ps ∧ FD m0.length M F A' (l ++ l2) ∧ A' < M.length ∧ (A' = A ∨ m.length ≤ A') ∧ Kp m M F A
theorem sz121 : szB Tryd.prog 121 = some 3 := by kernel_rfl
theorem sz69 : szB Tryd.prog 69 = some 1 := by kernel_rfl
theorem set_pre {m0 m : AM} {F : Nat} {b : Option Blk} (h : ∃ N, m = m0 ++ N) (hF : m0.length ≤ F) : ∃ N, m.set F b = m0 ++ N := by
  obtain ⟨N, rfl⟩ := h
  exact set_high hF b
theorem pre_app {m0 m : AM} (h : ∃ N, m = m0 ++ N) (T : AM) : ∃ N, m ++ T = m0 ++ N := by
  obtain ⟨N, rfl⟩ := h
  exact ⟨N ++ T, List.append_assoc _ _ _⟩
/-- The first piece is found. -/
theorem FD.one {b0 : Nat} {M : AM} {F A : Nat} {x : Plc} {g : Option Blk} (h : FD b0 M F A []) (h0 : b0 ≤ M.length) : FD b0 (((M ++ [g]) ++ [some ({ cells := plc1 x, kind := .grow, size := 6 } : Blk)]).set F (some ({ cells := [.slice (some ⟨(M ++ [g]).length, 0, none⟩) 1 1] } : Blk))) F (M ++ [g]).length [x] := by
  obtain ⟨h1, v, h2, _⟩ := h
  have hl := (List.getElem?_eq_some_iff.1 h2).1
  have hml : (M ++ [g]).length = M.length + 1 := by simp
  refine ⟨h1, .slice (some ⟨(M ++ [g]).length, 0, none⟩) 1 1, ?_, .inr ⟨rfl, by simp, by omega, by omega, ?_⟩⟩
  · rw [List.getElem?_set_self (by simp; omega)]
  · rw [List.getElem?_set_ne (by omega), List.getElem?_append_right (Nat.le_refl _)]
    simp [plc]
theorem FD.more {b0 : Nat} {M : AM} {F A : Nat} {x : Plc} {l : List Plc} {g : Option Blk} (h : FD b0 M F A l) (h0 : b0 ≤ M.length) : FD b0 ((((M ++ [g]).set A none) ++ [some ({ cells := plc l ++ plc1 x, kind := .grow, size := 6 } : Blk)]).set F (some ({ cells := [.slice (some ⟨(M ++ [g]).length, 0, none⟩) (l.length + 1) (l.length + 1)] } : Blk))) F (M ++ [g]).length (l ++ [x]) := by
  obtain ⟨h1, v, h2, _⟩ := h
  have hl := (List.getElem?_eq_some_iff.1 h2).1
  have hml : (M ++ [g]).length = M.length + 1 := by simp
  refine ⟨h1, .slice (some ⟨(M ++ [g]).length, 0, none⟩) (l.length + 1) (l.length + 1), ?_, .inr ⟨by simp, by simp, by omega, by omega, ?_⟩⟩
  · rw [List.getElem?_set_self (by simp; omega)]
  · rw [List.getElem?_set_ne (by omega), List.getElem?_append_right (by simp)]
    simp [plc]
theorem el69 : elemB Tryd.prog 69 = some (81, 6, 48, #[.int .i64 0, .int .i64 0, .int .i64 0, .int .i64 0, .int .i64 0, .bool false]) := by kernel_rfl
theorem un69 : Tryd.prog.underlying 69 = some (.slice 81) := by kernel_rfl
theorem bl81 {a x y z u : Int} {c : Bool} : abuild Tryd.prog 81 [(0, .int .i64 a), (1, .agg #[.int .i64 x, .int .i64 y, .int .i64 z, .int .i64 u]), (2, .bool c)] = some (.agg #[.int .i64 a, .int .i64 x, .int .i64 y, .int .i64 z, .int .i64 u, .bool c]) := by kernel_rfl
theorem bs69 {m : AM} {k : Nat} {a x y z u : Int} {c : Bool} : abuildSlice Tryd.prog m k 69 1 [(0, .agg #[.int .i64 a, .int .i64 x, .int .i64 y, .int .i64 z, .int .i64 u, .bool c])] = some (.slice (some ⟨k, 0, none⟩) 1 1, m.set k (some { cells := [.int .i64 a, .int .i64 x, .int .i64 y, .int .i64 z, .int .i64 u, .bool c] })) := by kernel_rfl
end Go.Proofs.YtibhgdglbillaaaDoor.Abs
namespace Go.Proofs.YtibhgdglbillaaaDoor.Abs
set_option linter.unusedSimpArgs false
set_option linter.unusedVariables false
open Go.RowKit
open Go.Proofs.YtibhgdglbillaaaDoor.Sim
open Go.Proofs
set_option maxHeartbeats 16000000 in
set_option maxRecDepth 100000 in
theorem read_ok {B : Brd} {K : List Kd} (hg : goodB B K = true) {m0 : AM} {p : Nat} (hB : BoardAt m0 p B K) : ∀ (f : Nat), f ≤ 32 → ∀ {r : R4}, r.ok (bw B) (bh B) → r.size ≤ f → ∀ {m : AM} {F A : Nat} {l : List Plc} {v : Value} {ps : List Nd},
    (∃ N, m = m0 ++ N) → FD m0.length m F A l → PN m0 v ps → l.length + ps.length ≤ 1000000 → A < m.length →
    ACall Tryd.prog 106 #[.pointer (some ⟨p, 0, none⟩), .agg r.rc.cells.toArray, v, .pointer (some ⟨F, 0, none⟩)] m (RdP m0 m F A l (rdM B K f r ps)) := by
  intro f
  induction f with
  | zero =>
    intro _ r hr hs
    exfalso
    unfold R4.ok at hr
    unfold R4.size at hs
    omega
  | succ f ih =>
    intro hf32 r hr hs m F A l v ps hmN hF hP hlen hAl
    have ih := @ih (by omega)
    have hgb : boardB B = true := by simp only [goodB, Bool.and_eq_true] at hg; exact hg.1
    have hin := good_in hgb
    have h16 : r.x ≤ 16 ∧ r.y ≤ 16 ∧ r.a ≤ 16 ∧ r.b ≤ 16 := by
      have := hin
      unfold R4.ok at hr
      omega
    have hkl : K.length ≤ 12 := by simp only [goodB, kindsB, Bool.and_eq_true, decide_eq_true_eq] at hg; exact hg.2.1
    have hFl : F < m.length := by obtain ⟨_, v, h, _⟩ := hF; exact (List.getElem?_eq_some_iff.1 h).1
    obtain ⟨M0, hM0⟩ : ∃ M0, m ++ [some { cells := r.rc.cells }] = M0 := ⟨_, rfl⟩
    have hM0l : M0.length = m.length + 1 := by rw [← hM0]; simp
    have hMN : ∃ N, M0 = m0 ++ N := by obtain ⟨N, hN⟩ := hmN; exact ⟨_, by rw [← hM0, hN, List.append_assoc]⟩
    have y5 : ∀ T, RdL (M0 ++ T) (m.length + 0) 0 r.rc.cells := fun T => by rw [← hM0]; exact RdL.old _ (show RdL (m ++ [some { cells := r.rc.cells }]) (m.length + 0) 0 r.rc.cells from RdL.new rfl rfl)
    cases ps with
    | nil =>
      rw [rd_nil]
      obtain ⟨a, o, sl, _⟩ := hP
      change Sl v a o 0 at sl
      refine ACall.start Tryd.func106 rfl rfl ?_
      (repeat (first | (with_reducible refine AWo.cons ?_) | ((with_reducible refine Step.id ?_); first | ((with_reducible apply Step.assign); exact rfl; exact rfl) | ((with_reducible apply Step.box 0); exact rfl; exact rfl; (focus (kernel_rfl)); exact rfl; (focus (first | (simp only [List.nil_append, List.cons_append, List.set_cons_zero, List.set_cons_succ, iv_set, bv_set, iv_rep, bv_rep]; done) | (simp only [List.nil_append, List.cons_append, List.set_cons_zero, List.set_cons_succ, iv_set, bv_set, iv_rep, bv_rep]; rfl) | rfl)))) | (with_reducible refine AWo.nil ?_) | ((fail_if_success (with_reducible refine AW.atR (id := 1) ?_)); ((with_reducible apply AW.seq))) | ((with_reducible apply Then.n)) | ((with_reducible apply AW.regL))))
      change AW _ _ _ _ _ (m ++ [some { cells := r.rc.cells }]) _
      rw [hM0]
      refine AW.rebase ?_
      (repeat (first | (with_reducible refine AWo.cons ?_) | ((with_reducible refine Step.id ?_); first | ((with_reducible apply Step.move); exact rfl; exact rfl) | ((with_reducible apply Step.assign); exact rfl; exact rfl) | ((with_reducible apply Step.eql); exact rfl; exact rfl; exact rfl) | ((with_reducible apply Step.len); exact rfl; (focus (assumption)); (focus (decide +kernel)); exact rfl)) | (with_reducible refine AWo.nil ?_) | ((with_reducible apply AW.seq)) | ((with_reducible apply Then.n)) | ((with_reducible apply AW.regL)) | ((with_reducible apply AW.condT); exact rfl; (focus (rfl)))))
      (refine AW.ret ?_; (repeat (first | refine Then.r ?_ | refine InBlk.r ?_)))
      obtain ⟨N, hN⟩ := hMN
      exact ⟨_, rfl, ⟨N, by rw [List.append_nil]; exact hN⟩, _, rfl⟩
    | cons n ps =>
      obtain ⟨a, o, c, hpsc, rfl, hrd⟩ := hP.cons
      have hPt := fun k => PN.tail (k := k) hpsc hrd
      have sl : Sl (.slice (some ⟨a, o, none⟩) (ps.length + 1) (c + 1)) a o (ps.length + 1) := .inr (.inl ⟨c + 1, by omega, rfl⟩)
      have hn := hrd 0 (by simp)
      have hnM : ∀ T, RdL (M0 ++ T) a o (ndc1 n) := fun T => by
        obtain ⟨N, e⟩ := hMN
        rw [e, List.append_assoc]
        simpa using RdL.old _ hn
      have hFM : FD m0.length M0 F A l := by rw [← hM0]; exact hF.old _
      have hBM : ∀ T, BoardAt (M0 ++ T) p B K := fun T => by
        obtain ⟨N, e⟩ := hMN
        rw [e, List.append_assoc]
        exact hB.old _
      have hKp : Kp m M0 F A := by rw [← hM0]; exact (Kp.refl m F A).old _
      clear hn hrd
      obtain ⟨nop, narg, nt⟩ := n
      simp only [ndc1] at hnM
      refine ACall.start Tryd.func106 rfl rfl ?_
      (repeat (first | (with_reducible refine AWo.cons ?_) | ((with_reducible refine Step.id ?_); first | ((with_reducible apply Step.assign); exact rfl; exact rfl) | ((with_reducible apply Step.box 0); exact rfl; exact rfl; (focus (kernel_rfl)); exact rfl; (focus (first | (simp only [List.nil_append, List.cons_append, List.set_cons_zero, List.set_cons_succ, iv_set, bv_set, iv_rep, bv_rep]; done) | (simp only [List.nil_append, List.cons_append, List.set_cons_zero, List.set_cons_succ, iv_set, bv_set, iv_rep, bv_rep]; rfl) | rfl)))) | (with_reducible refine AWo.nil ?_) | ((fail_if_success (with_reducible refine AW.atR (id := 1) ?_)); ((with_reducible apply AW.seq))) | ((with_reducible apply Then.n)) | ((with_reducible apply AW.regL))))
      change AW _ _ _ _ _ (m ++ [some { cells := r.rc.cells }]) _
      rw [hM0]
      refine AW.rebase ?_
      (repeat (first | (with_reducible refine AWo.cons ?_) | ((with_reducible refine Step.id ?_); first | ((with_reducible apply Step.move); exact rfl; exact rfl) | ((with_reducible apply Step.eql); exact rfl; exact rfl; exact rfl) | ((with_reducible apply Step.len); exact rfl; (focus (assumption)); (focus (decide +kernel)); exact rfl)) | (with_reducible refine AWo.nil ?_) | ((with_reducible apply AW.seq)) | ((with_reducible apply Then.n)) | ((fail_if_success (with_reducible refine AW.atL (id := 3) ?_)); ((with_reducible apply AW.regL))) | ((with_reducible apply AW.skip)) | ((with_reducible apply AW.condF); exact rfl; (focus (rfl)))))
      refine AW.join (fun t' m' => ∃ L a10 tl, m' = M0 ++ L ∧ M0.length ≤ a10 ∧ RdL m' a10 0 [.int .i64 nop, .int .i64 narg, .bool nt] ∧ PN m0 tl ps ∧
        All (fun i v => t' i = some v) [(0, .pointer (some ⟨p, 0, none⟩)), (3, .pointer (some ⟨F, 0, none⟩)), (5, .pointer (some ⟨m.length + 0, 0, none⟩)), (8, tl), (10, .pointer (some ⟨a10, 0, none⟩))]) ?_ ?_
      · clear hP hF hB hFM hBM hKp ih hmN hMN y5
        (repeat' (first | ((with_reducible refine Step.id ?_); first | ((with_reducible apply Step.move); exact rfl; exact rfl) | ((with_reducible apply Step.loadL (n := 3)); exact rfl; (focus (decide +kernel)); (focus (decide +kernel)); exact rfl; (focus (exact hnM _)); exact rfl; exact rfl) | ((with_reducible apply Step.ix (s := 3) (k := 0)); exact rfl; (focus (assumption)); exact rfl; (focus (decide +kernel)); exact rfl; (focus (omega))) | ((with_reducible apply Step.alloc 0); exact rfl; exact ze121; exact rfl; (focus (first | (simp only [List.nil_append, List.cons_append, List.set_cons_zero, List.set_cons_succ, iv_set, bv_set, iv_rep, bv_rep]; done) | (simp only [List.nil_append, List.cons_append, List.set_cons_zero, List.set_cons_succ, iv_set, bv_set, iv_rep, bv_rep]; rfl) | rfl))) | ((with_reducible apply Step.storeA (k := 0) (n := 3)); exact rfl; exact rfl; exact rfl; exact rfl; (focus (decide +kernel)); exact rfl; (focus (kernel_rfl)); exact rfl; (focus (first | (simp only [List.nil_append, List.cons_append, List.set_cons_zero, List.set_cons_succ, iv_set, bv_set, iv_rep, bv_rep]; done) | (simp only [List.nil_append, List.cons_append, List.set_cons_zero, List.set_cons_succ, iv_set, bv_set, iv_rep, bv_rep]; rfl) | rfl)))) | ((with_reducible apply AW.drawT fit (T := (.step 0 (.step 1 (.step 3 (.both (.step 2 (.both (.step 4 (.step 5 (.step 6 (.step 7 .done)))) (.step 5 (.both (.step 4 (.step 6 (.step 7 .done))) (.step 6 (.step 4 (.step 7 .done))))))) (.both (.step 4 (.both (.step 2 (.step 5 (.step 6 (.step 7 .done)))) (.step 5 (.step 2 (.step 6 (.step 7 .done)))))) (.step 5 (.both (.step 2 (.both (.step 4 (.step 6 (.step 7 .done))) (.step 6 (.step 4 (.step 7 .done))))) (.step 4 (.step 2 (.step 6 (.step 7 .done))))))))))))); (focus (decide +kernel))) | ((with_reducible apply AWt.step); exact rfl) | refine AWt.both ?_ ?_))
        all_goals ((with_reducible apply Step.restO); exact rfl; exact rfl; exact rfl; exact hpsc; exact un55; exact sz121; exact rfl; exact rfl)
        all_goals (repeat' (first | ((with_reducible refine Step.id ?_); first | ((with_reducible apply Step.assign); exact rfl; exact rfl) | ((with_reducible apply Step.loadL (n := 3)); exact rfl; (focus (decide +kernel)); (focus (decide +kernel)); exact rfl; (focus (exact hnM _)); exact rfl; exact rfl) | ((with_reducible apply Step.storeA (k := 0) (n := 3)); exact rfl; exact rfl; exact rfl; exact rfl; (focus (decide +kernel)); exact rfl; (focus (kernel_rfl)); exact rfl; (focus (first | (simp only [List.nil_append, List.cons_append, List.set_cons_zero, List.set_cons_succ, iv_set, bv_set, iv_rep, bv_rep]; done) | (simp only [List.nil_append, List.cons_append, List.set_cons_zero, List.set_cons_succ, iv_set, bv_set, iv_rep, bv_rep]; rfl) | rfl))) | ((with_reducible apply Step.alloc 1); exact rfl; exact ze121; exact rfl; (focus (first | (simp only [List.nil_append, List.cons_append, List.set_cons_zero, List.set_cons_succ, iv_set, bv_set, iv_rep, bv_rep]; done) | (simp only [List.nil_append, List.cons_append, List.set_cons_zero, List.set_cons_succ, iv_set, bv_set, iv_rep, bv_rep]; rfl) | rfl))) | ((with_reducible apply Step.storeA (k := 1) (n := 3)); exact rfl; exact rfl; exact rfl; exact rfl; (focus (decide +kernel)); exact rfl; (focus (kernel_rfl)); exact rfl; (focus (first | (simp only [List.nil_append, List.cons_append, List.set_cons_zero, List.set_cons_succ, iv_set, bv_set, iv_rep, bv_rep]; done) | (simp only [List.nil_append, List.cons_append, List.set_cons_zero, List.set_cons_succ, iv_set, bv_set, iv_rep, bv_rep]; rfl) | rfl)))) | ((with_reducible apply Then.n)) | ((with_reducible apply AWt.step); exact rfl) | ((with_reducible apply AWt.done)) | refine AWt.both ?_ ?_))
        all_goals (refine ⟨_, _, _, rfl, ?_, ?_, ?_, (by repeat (first | exact trivial | (refine And.intro rfl ?_)))⟩)
        all_goals first | exact hPt _ | exact RdL.new rfl rfl | omega
      rintro t' M ⟨L, a10, tl, hm', ha10, hr10, htl, hsl⟩
      refine AW.weak (fr_all hsl) ?_
      have y5' : ∀ T, RdL (M ++ T) (m.length + 0) 0 r.rc.cells := fun T => by rw [hm']; exact (y5 _).old _
      have y10 : ∀ T, RdL (M ++ T) a10 0 [.int .i64 nop, .int .i64 narg, .bool nt] := fun T => hr10.old T
      have hF1 : FD m0.length M F A l := by rw [hm']; exact hFM.old _
      have hB1 : ∀ T, BoardAt (M ++ T) p B K := fun T => by rw [hm']; exact (hBM _).old _
      have hN1 : ∃ N, M = m0 ++ N := by obtain ⟨N, hN⟩ := hMN; exact ⟨_, by rw [hm', hN, List.append_assoc]⟩
      have hK1 : Kp m M F A := by rw [hm']; exact hKp.old _
      have ha : m.length + 1 ≤ a10 := by omega
      have hml := hK1.1
      have hMl : a10 < M.length := by obtain ⟨b, h1, _⟩ := hr10; exact (List.getElem?_eq_some_iff.1 h1).1
      have hlen : l.length + ps.length + 1 ≤ 1000000 := by simp only [List.length_cons] at hlen; omega
      have z0 : ∀ T, Rd (M ++ T) a10 (0 + 0) (.int .i64 nop) := fun T => (y10 T).at_ 0 rfl
      have z1 : ∀ T, Rd (M ++ T) a10 (0 + 1) (.int .i64 narg) := fun T => (y10 T).at_ 1 rfl
      have z2 : ∀ T, Rd (M ++ T) a10 (0 + 2) (.bool nt) := fun T => (y10 T).at_ 2 rfl
      clear hsl hPt hM0 hnM hFM hBM hMN hKp y5 sl hpsc hr10 hm' hM0l ha10 hP hB hmN hF
      clear M0 L
      refine AW.rebase ?_
      by_cases o0 : nop = 0
      · subst o0
        rw [rd_waste rfl]
        (repeat (first | (with_reducible refine AWo.cons ?_) | ((with_reducible refine Step.id ?_); first | ((with_reducible apply Step.move); exact rfl; exact rfl) | ((with_reducible apply Step.assign); exact rfl; exact rfl) | ((with_reducible apply Step.load); exact rfl; (focus (decide +kernel)); exact rfl; (focus (exact z0 _))) | ((with_reducible apply Step.loadL (n := 3)); exact rfl; (focus (decide +kernel)); (focus (decide +kernel)); exact rfl; (focus (exact y10 _)); exact rfl; exact rfl) | ((with_reducible apply Step.field0); exact rfl; (focus (decide +kernel)); exact rfl) | ((with_reducible apply Step.eql); exact rfl; exact rfl; exact rfl) | ((with_reducible apply Step.build); exact rfl; exact bl121z; exact rfl)) | (with_reducible refine AWo.nil ?_) | ((with_reducible apply AW.seq)) | ((with_reducible apply Then.n)) | ((with_reducible apply AW.regL)) | ((with_reducible apply AW.block)) | ((with_reducible apply AW.drawL fit); (focus (decide +kernel))) | ((with_reducible apply AW.condT); exact rfl; (focus (rfl)))))
        ((with_reducible apply Step.eqlN); exact rfl; exact rfl; exact rfl)
        (repeat (first | (with_reducible refine AWo.cons ?_) | ((with_reducible refine Step.id ?_); ((with_reducible apply Step.assign); exact rfl; exact rfl)) | (with_reducible refine AWo.nil ?_) | ((with_reducible apply Then.n))))
        (refine AW.ret ?_; (repeat (first | refine Then.r ?_ | refine InBlk.r ?_)))
        obtain ⟨N, hN⟩ := hN1
        by_cases hz : narg = 0 ∧ nt = false
        · rw [if_pos hz]
          obtain ⟨rfl, rfl⟩ := hz
          exact ⟨_, rfl, ⟨N, by rw [List.append_nil]; exact hN⟩, _, A, rfl, htl, by rw [List.append_nil, List.append_nil]; exact hF1, by rw [List.append_nil]; omega, .inl rfl, by rw [List.append_nil]; exact hK1⟩
        · rw [if_neg hz]
          have e : ((0 : Int) == 0 && narg == 0 && nt == false) = false := by
            rw [Bool.eq_false_iff]
            intro h
            simp at h
            exact hz h
          exact ⟨_, rfl, ⟨N, by rw [List.append_nil]; exact hN⟩, _, by rw [e]⟩
      by_cases o1 : nop = 1
      · subst o1
        rw [rd_piece rfl]
        obtain ⟨_, ⟨kv, k1, AA, OO, slk, lak, _⟩, _, _, _⟩ := id (hB1 [])
        rw [List.append_nil] at k1
        obtain ⟨q', c', rfl⟩ := slk.shape
        by_cases c1 : narg < 0 ∨ (K.length : Int) ≤ narg
        · rw [if_neg (by dsimp only; omega)]
          by_cases c2 : narg < 0
          · (repeat (first | (with_reducible refine AWo.cons ?_) | ((with_reducible refine Step.id ?_); first | ((with_reducible apply Step.gdF); exact rfl; exact rfl; (focus ((simp only [decide_eq_true_eq, decide_eq_false_iff_not, Bool.not_eq_true', Bool.not_eq_false', Bool.not_true, Bool.not_false]; first | assumption | omega)))) | ((with_reducible apply Step.move); exact rfl; exact rfl) | ((with_reducible apply Step.assign); exact rfl; exact rfl) | ((with_reducible apply Step.load); exact rfl; (focus (decide +kernel)); exact rfl; (focus (first | exact z0 _ | exact z1 _))) | ((with_reducible apply Step.field0); exact rfl; (focus (decide +kernel)); exact rfl) | ((with_reducible apply Step.field (k := 1)); exact rfl; (focus (decide +kernel)); exact rfl) | ((with_reducible apply Step.lss); exact rfl; exact rfl; exact rfl) | ((with_reducible apply Step.eql); exact rfl; exact rfl; exact rfl) | ((with_reducible apply Step.pickT); exact rfl; exact rfl; exact rfl; exact rfl; (focus ((simp only [decide_eq_true_eq, decide_eq_false_iff_not, Bool.not_eq_true', Bool.not_eq_false', Bool.not_true, Bool.not_false]; first | assumption | omega))))) | (with_reducible refine AWo.nil ?_) | ((with_reducible apply AW.seq)) | ((with_reducible apply Then.n)) | ((with_reducible apply AW.regL)) | ((with_reducible apply AW.block)) | ((with_reducible apply AW.drawL fit); (focus (decide +kernel))) | ((with_reducible apply AW.condT); exact rfl; (focus (rfl))) | ((with_reducible apply AW.condF); exact rfl; (focus (rfl)))))
            (refine AW.ret ?_; (repeat (first | refine Then.r ?_ | refine InBlk.r ?_)))
            obtain ⟨N, hN⟩ := hN1
            exact ⟨_, rfl, ⟨N, by rw [List.append_nil]; exact hN⟩, _, rfl⟩
          · have c3 : (K.length : Int) ≤ narg := by omega
            (repeat (first | (with_reducible refine AWo.cons ?_) | ((with_reducible refine Step.id ?_); first | ((with_reducible apply Step.gdT); exact rfl; exact rfl; (focus ((simp only [decide_eq_true_eq, decide_eq_false_iff_not, Bool.not_eq_true', Bool.not_eq_false', Bool.not_true, Bool.not_false]; first | assumption | omega)))) | ((with_reducible apply Step.move); exact rfl; exact rfl) | ((with_reducible apply Step.assign); exact rfl; exact rfl) | ((with_reducible apply Step.load); exact rfl; (focus (decide +kernel)); exact rfl; (focus (first | exact z0 _ | exact z1 _ | exact Rd.old _ (by assumption)))) | ((with_reducible apply Step.field0); exact rfl; (focus (decide +kernel)); exact rfl) | ((with_reducible apply Step.field (k := 1)); exact rfl; (focus (decide +kernel)); exact rfl) | ((with_reducible apply Step.lss); exact rfl; exact rfl; exact rfl) | ((with_reducible apply Step.geq); exact rfl; exact rfl; exact rfl) | ((with_reducible apply Step.eql); exact rfl; exact rfl; exact rfl) | ((with_reducible apply Step.len); exact rfl; (focus (assumption)); (focus (decide +kernel)); exact rfl) | ((with_reducible apply Step.nilp); exact rfl; exact rfl) | ((with_reducible apply Step.pickF); exact rfl; exact rfl; exact rfl; exact rfl; (focus ((simp only [decide_eq_true_eq, decide_eq_false_iff_not, Bool.not_eq_true', Bool.not_eq_false', Bool.not_true, Bool.not_false]; first | assumption | omega))))) | (with_reducible refine AWo.nil ?_) | ((with_reducible apply AW.seq)) | ((with_reducible apply Then.n)) | ((with_reducible apply AW.regL)) | ((with_reducible apply AW.block)) | ((with_reducible apply AW.drawL fit); (focus (decide +kernel))) | ((with_reducible apply AW.condT); exact rfl; (focus (first | rfl | (simp only [decide_eq_true_eq, decide_eq_false_iff_not, Bool.not_eq_true', Bool.not_eq_false', Bool.not_true, Bool.not_false]; first | assumption | omega)))) | ((with_reducible apply AW.condF); exact rfl; (focus (rfl)))))
            (refine AW.ret ?_; (repeat (first | refine Then.r ?_ | refine InBlk.r ?_)))
            obtain ⟨N, hN⟩ := hN1
            exact ⟨_, rfl, ⟨N, by rw [List.append_nil]; exact hN⟩, _, rfl⟩
        · obtain ⟨k, rfl⟩ : ∃ k : Nat, narg = k := ⟨narg.toNat, by omega⟩
          have hk : k < K.length := by omega
          have hfi := fun T => fits_ok (hB1 T) hg hk hr
          change ∀ T, ACall Tryd.prog 102 #[_, _, .agg r.rc.cells.toArray] _ _ at hfi
          simp only [Int.toNat_natCast]
          generalize okB B (K.getD k default) r = ob at *
          generalize turnedB (K.getD k default) r = tb at *
          (repeat (first | (with_reducible refine AWo.cons ?_) | ((with_reducible refine Step.id ?_); first | ((with_reducible apply Step.gdT); exact rfl; exact rfl; (focus (rfl))) | ((with_reducible apply Step.move); exact rfl; exact rfl) | ((with_reducible apply Step.assign); exact rfl; exact rfl) | ((with_reducible apply Step.load); exact rfl; (focus (decide +kernel)); exact rfl; (focus (first | exact z0 _ | exact z1 _ | exact Rd.old _ (by assumption)))) | ((with_reducible apply Step.loadL (n := 4)); exact rfl; (focus (decide +kernel)); (focus (decide +kernel)); exact rfl; (focus (exact y5' _)); exact rfl; exact rfl) | ((with_reducible apply Step.field0); exact rfl; (focus (decide +kernel)); exact rfl) | ((with_reducible apply Step.field (k := 1)); exact rfl; (focus (decide +kernel)); exact rfl) | ((with_reducible apply Step.lss); exact rfl; exact rfl; exact rfl) | ((with_reducible apply Step.geq); exact rfl; exact rfl; exact rfl) | ((with_reducible apply Step.eql); exact rfl; exact rfl; exact rfl) | ((with_reducible apply Step.len); exact rfl; (focus (assumption)); (focus (decide +kernel)); exact rfl) | ((with_reducible apply Step.nilp); exact rfl; exact rfl) | ((with_reducible apply Step.extract); exact rfl; exact rfl; exact rfl) | ((with_reducible apply Step.pickF); exact rfl; exact rfl; exact rfl; exact rfl; (focus (rfl))) | ((with_reducible apply Step.callR fit); exact rfl; exact Tryd.func102; exact rfl; exact rfl; exact (hfi _))) | (with_reducible refine AWo.nil ?_) | ((with_reducible apply AW.seq)) | ((with_reducible apply Then.n)) | ((fail_if_success (with_reducible refine AW.atL (id := 11) ?_)); ((with_reducible apply AW.regL))) | ((with_reducible apply AW.block)) | ((fail_if_success (with_reducible refine AW.atL (id := 11) ?_)); ((with_reducible apply AW.drawL fit); (focus (decide +kernel)))) | ((with_reducible apply AW.skip)) | ((with_reducible apply AW.condT); exact rfl; (focus (rfl))) | ((with_reducible apply AW.condF); exact rfl; (focus (first | rfl | (simp only [decide_eq_true_eq, decide_eq_false_iff_not, Bool.not_eq_true', Bool.not_eq_false', Bool.not_true, Bool.not_false]; first | assumption | omega))))))
          have gr : ∃ x y u v : Int, r.rc.cells = [.int .i64 x, .int .i64 y, .int .i64 u, .int .i64 v] := ⟨_, _, _, _, rfl⟩
          refine AW.join (fun t' m' => (∃ N, m' = m0 ++ N) ∧ (∃ A', FD m0.length m' F A' (l ++ [((k, r, nt) : Plc)]) ∧ A' < m'.length ∧ m.length ≤ A') ∧ Kp m m' F A ∧ (∀ T, Rd (m' ++ T) a10 (0 + 2) (.bool nt)) ∧
            All (fun i v => t' i = some v) [(8, tl), (10, .pointer (some ⟨a10, 0, none⟩)), (11, .bool tb), (12, .bool ob)]) ?_ ?_
          · have hb0 : m0.length ≤ M.length := by obtain ⟨N, e⟩ := hN1; rw [e, List.length_append]; omega
            have na : a10 ≠ F := by omega
            have nA : a10 ≠ A := by omega
            have hF0 : m0.length ≤ F := hF1.1
            have hll : (plc l).length = l.length * 6 := plc_len l
            have hF1' := hF1
            obtain ⟨_, fv, fr1, fr2⟩ := hF1
            have hrf : ∀ T, Rd (M ++ T) F 0 fv := fun T => ⟨_, get_old _ fr1, rfl⟩
            have z2n : Rd M a10 (0 + 2) (.bool nt) := by simpa using z2 []
            rcases fr2 with ⟨rfl, rfl⟩ | ⟨rfl, f1, f2, f3, f4⟩
            · (repeat' (first | ((with_reducible refine Step.id ?_); first | ((with_reducible apply Step.move); exact rfl; exact rfl) | ((with_reducible apply Step.load); exact rfl; (focus (decide +kernel)); exact rfl; (focus (first | exact hrf _ | exact z1 _ | exact z2 _))) | ((with_reducible apply Step.loadL (n := 4)); exact rfl; (focus (decide +kernel)); (focus (decide +kernel)); exact rfl; (focus (exact y5' _)); exact rfl; exact rfl) | ((with_reducible apply Step.field (k := 1)); exact rfl; (focus (decide +kernel)); exact rfl) | ((with_reducible apply Step.field (k := 2)); exact rfl; (focus (decide +kernel)); exact rfl) | ((with_reducible apply Step.nilp); exact rfl; exact rfl) | ((with_reducible apply Step.buildS 0); exact rfl; exact rfl; exact (fun _ _ => bs69); exact rfl; (focus (first | (simp only [List.nil_append, List.cons_append, List.set_cons_zero, List.set_cons_succ, iv_set, bv_set, iv_rep, bv_rep]; done) | (simp only [List.nil_append, List.cons_append, List.set_cons_zero, List.set_cons_succ, iv_set, bv_set, iv_rep, bv_rep]; rfl) | rfl))) | ((with_reducible apply Step.build); exact rfl; exact bl81; exact rfl)) | ((with_reducible apply AW.drawT fit (T := (.step 0 (.step 1 (.step 2 (.step 4 (.step 5 (.step 6 (.step 7 (.step 8 (.step 9 (.both (.step 3 (.step 10 (.step 11 (.step 12 (.step 13 .done))))) (.step 10 (.step 3 (.step 11 (.step 12 (.step 13 .done))))))))))))))))); (focus (decide +kernel))) | ((with_reducible apply AWt.step); exact rfl) | refine AWt.both ?_ ?_))
              all_goals ((with_reducible apply Step.appNs (new := plc1 (k, r, nt))); exact rfl; exact rfl; exact el69; exact un69; (focus (rw [get_app]; rfl)); exact rfl; exact rfl; (focus (decide)); (focus (decide)); exact rfl)
              all_goals (repeat' (first | ((with_reducible refine Step.id ?_); ((with_reducible apply Step.nilp); exact rfl; exact rfl)) | ((with_reducible apply AWt.step); exact rfl)))
              all_goals ((with_reducible apply Step.storeG); exact rfl; exact rfl; exact (get_old _ (get_old _ fr1)); exact rfl; exact sz69; exact rfl; (focus (first | kernel_rfl | simp [Value.cells, Value.oneCell'])); exact rfl)
              all_goals (repeat' (first | ((with_reducible apply Then.n)) | ((with_reducible apply AWt.done))))
              all_goals (refine ⟨?_, ⟨_, FD.one hF1' hb0, ?_, ?_⟩, ?_, ?_, (by repeat (first | exact trivial | (refine And.intro rfl ?_)))⟩)
              all_goals first
                | exact set_pre (pre_app (pre_app hN1 _) _) hF0
                | exact ((hK1.old _).old _).setF _
                | (intro T; exact Rd.old _ ((((((Kp.refl M F A).old _).old _).setF _).rd na nA z2n)))
                | (simp; done)
                | (simp; omega)
            · (repeat' (first | ((with_reducible refine Step.id ?_); first | ((with_reducible apply Step.move); exact rfl; exact rfl) | ((with_reducible apply Step.load); exact rfl; (focus (decide +kernel)); exact rfl; (focus (first | exact hrf _ | exact z1 _ | exact z2 _))) | ((with_reducible apply Step.loadL (n := 4)); exact rfl; (focus (decide +kernel)); (focus (decide +kernel)); exact rfl; (focus (exact y5' _)); exact rfl; exact rfl) | ((with_reducible apply Step.field (k := 1)); exact rfl; (focus (decide +kernel)); exact rfl) | ((with_reducible apply Step.field (k := 2)); exact rfl; (focus (decide +kernel)); exact rfl) | ((with_reducible apply Step.nilp); exact rfl; exact rfl) | ((with_reducible apply Step.buildS 0); exact rfl; exact rfl; exact (fun _ _ => bs69); exact rfl; (focus (first | (simp only [List.nil_append, List.cons_append, List.set_cons_zero, List.set_cons_succ, iv_set, bv_set, iv_rep, bv_rep]; done) | (simp only [List.nil_append, List.cons_append, List.set_cons_zero, List.set_cons_succ, iv_set, bv_set, iv_rep, bv_rep]; rfl) | rfl))) | ((with_reducible apply Step.build); exact rfl; exact bl81; exact rfl)) | ((with_reducible apply AW.drawT fit (T := (.step 0 (.step 1 (.step 2 (.step 4 (.step 5 (.step 6 (.step 7 (.step 8 (.step 9 (.both (.step 3 (.step 10 (.step 11 (.step 12 (.step 13 .done))))) (.step 10 (.step 3 (.step 11 (.step 12 (.step 13 .done))))))))))))))))); (focus (decide +kernel))) | ((with_reducible apply AWt.step); exact rfl) | refine AWt.both ?_ ?_))
              all_goals ((with_reducible apply Step.appBs (s := 6) (new := plc1 (k, r, nt))); exact rfl; exact rfl; exact el69; exact un69; exact (get_old _ f4); exact hll; (focus (rw [get_app]; rfl)); exact rfl; exact rfl; (focus (decide)); exact ⟨by omega, by omega⟩; exact rfl)
              all_goals (repeat' (first | ((with_reducible refine Step.id ?_); ((with_reducible apply Step.nilp); exact rfl; exact rfl)) | ((with_reducible apply AWt.step); exact rfl)))
              all_goals ((with_reducible apply Step.storeG); exact rfl; exact rfl; exact (get_old _ (by rw [List.getElem?_set_ne f3]; exact get_old _ fr1)); exact rfl; exact sz69; exact rfl; (focus (first | kernel_rfl | simp [Value.cells, Value.oneCell'])); exact rfl)
              all_goals (repeat' (first | ((with_reducible apply Then.n)) | ((with_reducible apply AWt.done))))
              all_goals (refine ⟨?_, ⟨_, FD.more hF1' hb0, ?_, ?_⟩, ?_, ?_, (by repeat (first | exact trivial | (refine And.intro rfl ?_)))⟩)
              all_goals first
                | exact set_pre (pre_app (set_pre (pre_app hN1 _) f2) _) hF0
                | exact (((hK1.old _).setA _).old _).setF _
                | (intro T; exact Rd.old _ (((((((Kp.refl M F A).old _).setA _).old _).setF _).rd na nA z2n)))
                | (simp; done)
                | (simp; omega)
          rintro t' M2 ⟨hN2, ⟨A', hF2, hA2, hA3⟩, hK2, z2', hsl⟩
          refine AW.weak (fr_all hsl) ?_
          clear hsl z0 z1 z2 y5' y10 hfi k1 hB1 ih
          refine AW.rebase ?_
          cases ob with
          | false =>
            rw [if_neg (by simp)]
            (repeat (first | (with_reducible refine AWo.cons ?_) | ((with_reducible refine Step.id ?_); first | ((with_reducible apply Step.gdF); exact rfl; exact rfl; (focus (rfl))) | ((with_reducible apply Step.move); exact rfl; exact rfl) | ((with_reducible apply Step.assign); exact rfl; exact rfl) | ((with_reducible apply Step.pickF); exact rfl; exact rfl; exact rfl; exact rfl; (focus (rfl)))) | (with_reducible refine AWo.nil ?_) | ((with_reducible apply AW.seq)) | ((with_reducible apply Then.n)) | ((with_reducible apply AW.drawL fit); (focus (decide +kernel)))))
            (refine AW.ret ?_; (repeat (first | refine Then.r ?_ | refine InBlk.r ?_)))
            obtain ⟨N, hN⟩ := hN2
            exact ⟨_, rfl, ⟨N, by rw [List.append_nil]; exact hN⟩, _, rfl⟩
          | true =>
            (repeat (first | (with_reducible refine AWo.cons ?_) | ((with_reducible refine Step.id ?_); first | ((with_reducible apply Step.gdT); exact rfl; exact rfl; (focus (rfl))) | ((with_reducible apply Step.move); exact rfl; exact rfl) | ((with_reducible apply Step.assign); exact rfl; exact rfl) | ((with_reducible apply Step.load); exact rfl; (focus (decide +kernel)); exact rfl; (focus (exact z2' _))) | ((with_reducible apply Step.field (k := 2)); exact rfl; (focus (decide +kernel)); exact rfl) | ((with_reducible apply Step.eqlB); exact rfl; exact rfl; exact un4; exact rfl) | ((with_reducible apply Step.pickT); exact rfl; exact rfl; exact rfl; exact rfl; (focus (rfl)))) | (with_reducible refine AWo.nil ?_) | ((with_reducible apply AW.seq)) | ((with_reducible apply Then.n)) | ((with_reducible apply AW.drawL fit); (focus (decide +kernel)))))
            (refine AW.ret ?_; (repeat (first | refine Then.r ?_ | refine InBlk.r ?_)))
            obtain ⟨N, hN⟩ := hN2
            by_cases e : tb = nt
            · rw [if_pos ⟨by omega, by omega, rfl, e⟩]
              exact ⟨_, rfl, ⟨N, by rw [List.append_nil]; exact hN⟩, _, A', by rw [e]; simp, htl, by rw [List.append_nil]; exact hF2, by rw [List.append_nil]; exact hA2, .inr hA3, by rw [List.append_nil]; exact hK2⟩
            · rw [if_neg (fun h => e h.2.2.2)]
              have e2 : (tb == nt) = false := by simp [e]
              exact ⟨_, rfl, ⟨N, by rw [List.append_nil]; exact hN⟩, _, congrArg (fun b => Value.tuple #[tl, .bool b]) e2⟩
      by_cases o2 : nop = 2 ∨ nop = 3
      · obtain ⟨d, rfl⟩ : ∃ d, nop = opI d := by
          rcases o2 with rfl | rfl
          · exact ⟨true, rfl⟩
          · exact ⟨false, rfl⟩
        clear o0 o1 o2
        have hop : opI d = 2 ∨ opI d = 3 := by cases d <;> simp [opI]
        have n0 : ¬ opI d = 0 := by omega
        have n1 : ¬ opI d = 1 := by omega
        have hL := fun M => length_ok (m := M) r d
        change ∀ M, ACall Tryd.prog 80 #[.agg r.rc.cells.toArray, _] _ _ at hL
        generalize hopd : opI d = od at *
        (repeat (first | (with_reducible refine AWo.cons ?_) | ((with_reducible refine Step.id ?_); first | ((with_reducible apply Step.assign); exact rfl; exact rfl) | ((with_reducible apply Step.load); exact rfl; (focus (decide +kernel)); exact rfl; (focus (exact z0 _))) | ((with_reducible apply Step.field0); exact rfl; (focus (decide +kernel)); exact rfl) | ((with_reducible apply Step.eql); exact rfl; exact rfl; exact rfl)) | (with_reducible refine AWo.nil ?_) | ((with_reducible apply AW.seq)) | ((with_reducible apply Then.n)) | ((with_reducible apply AW.regL)) | ((with_reducible apply AW.block)) | ((with_reducible apply AW.condF); exact rfl; (focus ((simp only [decide_eq_true_eq, decide_eq_false_iff_not, Bool.not_eq_true', Bool.not_eq_false', Bool.not_true, Bool.not_false]; first | assumption | omega))))))
        refine AW.via [(0, .pointer (some ⟨p, 0, none⟩)), (3, .pointer (some ⟨F, 0, none⟩)), (5, .pointer (some ⟨m.length + 0, 0, none⟩)), (8, tl), (10, .pointer (some ⟨a10, 0, none⟩)), (75, .bool true)] (M ++ []) ?_ ?_
        · rcases hop with h | h
          · subst h
            (repeat (first | ((with_reducible apply AW.skip)) | ((with_reducible apply AW.condT); exact rfl; (focus (rfl)))))
            exact ⟨rfl, rfl, (by repeat (first | exact trivial | (refine And.intro rfl ?_)))⟩
          · subst h
            (repeat (first | (with_reducible refine AWo.cons ?_) | ((with_reducible refine Step.id ?_); first | ((with_reducible apply Step.assign); exact rfl; exact rfl) | ((with_reducible apply Step.eql); exact rfl; exact rfl; exact rfl)) | (with_reducible refine AWo.nil ?_) | ((with_reducible apply AW.regL)) | ((with_reducible apply AW.condF); exact rfl; (focus (rfl)))))
            exact ⟨rfl, rfl, (by repeat (first | exact trivial | (refine And.intro rfl ?_)))⟩
        intro t2 ht2
        refine Then.n ?_
        refine AW.weak ht2 ?_
        clear ht2
        by_cases hbad : nt = false ∧ 1 ≤ narg ∧ narg < r.len d
        · obtain ⟨rfl, hb1, hb2⟩ := hbad
          obtain ⟨i, rfl⟩ : ∃ i : Nat, narg = i := ⟨narg.toNat, by omega⟩
          have hi1 : 1 ≤ i := by omega
          have hi2 : i + 1 ≤ r.len d := by omega
          rw [← hopd, rd_docut d hi1 hi2]
          have o1 := lo_ok hr hi1 hi2
          have o2 := hi_ok hr hi1 hi2
          have s1 := lo_size hr hi1 hi2
          have s2 := hi_size hr hi1 hi2
          have hP := fun M => part_ok (m := M) r d hi1 hi2 h16
          rw [hopd] at hP
          change ∀ M, ACall Tryd.prog 81 #[.agg r.rc.cells.toArray, _, _] _ (Ret (.tuple #[.agg (r.lo d i).rc.cells.toArray, .agg (r.hi d i).rc.cells.toArray]) _) at hP
          have i1 := fun (M' : AM) (h1 : ∃ N, M' = m0 ++ N) (h2 : FD m0.length M' F A l) (h3 : A < M'.length) => @ih _ o1 (by omega) M' F A l tl ps h1 h2 htl (by omega) h3
          have i2 := @ih _ o2 (by omega)
          generalize hx1 : rdM B K f (r.lo d i) ps = x1 at *
          generalize (r.lo d i).rc = g1 at *
          generalize (r.hi d i).rc = g2 at *
          (repeat (first | ((fail_if_success (with_reducible refine AW.atR (id := 15) ?_)); ((with_reducible apply AW.seq))) | ((with_reducible apply AW.condT); exact rfl; (focus (rfl)))))
          refine AW.seq ?_
          refine AW.flatN fit [(0, .pointer (some ⟨p, 0, none⟩)), (3, .pointer (some ⟨F, 0, none⟩)), (5, .pointer (some ⟨m.length + 0, 0, none⟩)), (8, tl), (10, .pointer (some ⟨a10, 0, none⟩))] [(0, .pointer (some ⟨p, 0, none⟩)), (3, .pointer (some ⟨F, 0, none⟩)), (5, .pointer (some ⟨m.length + 0, 0, none⟩)), (8, tl), (10, .pointer (some ⟨a10, 0, none⟩)), (93, .bool false)] [0, 3, 5, 8, 10] [[], [0], [0], [0], [0, 1], [0, 2], [3, 0], [0, 4], [0], [0, 1], [2], [3], [0, 4], [2, 0, 5, 5], [4, 0, 6], [7, 0]] (by repeat (first | exact trivial | (refine And.intro rfl ?_))) rfl (by decide +kernel) ?_ ?_
          · (repeat (first | ((with_reducible refine Step.id ?_); first | ((with_reducible apply Step.gdT); exact rfl; exact rfl; (focus (first | rfl | (simp only [decide_eq_true_eq, decide_eq_false_iff_not, Bool.not_eq_true', Bool.not_eq_false', Bool.not_true, Bool.not_false]; first | assumption | omega)))) | ((with_reducible apply Step.move); exact rfl; exact rfl) | ((with_reducible apply Step.load); exact rfl; (focus (decide +kernel)); exact rfl; (focus (first | exact z0 _ | exact z1 _ | exact z2 _))) | ((with_reducible apply Step.loadL (n := 4)); exact rfl; (focus (decide +kernel)); (focus (decide +kernel)); exact rfl; (focus (exact y5' _)); exact rfl; exact rfl) | ((with_reducible apply Step.field0); exact rfl; (focus (decide +kernel)); exact rfl) | ((with_reducible apply Step.field (k := 1)); exact rfl; (focus (decide +kernel)); exact rfl) | ((with_reducible apply Step.field (k := 2)); exact rfl; (focus (decide +kernel)); exact rfl) | ((with_reducible apply Step.lss); exact rfl; exact rfl; exact rfl) | ((with_reducible apply Step.geq); exact rfl; exact rfl; exact rfl) | ((with_reducible apply Step.pickF); exact rfl; exact rfl; exact rfl; exact rfl; (focus (first | rfl | (simp only [decide_eq_true_eq, decide_eq_false_iff_not, Bool.not_eq_true', Bool.not_eq_false', Bool.not_true, Bool.not_false]; first | assumption | omega)))) | ((with_reducible apply Step.callR fit); exact rfl; exact Tryd.func80; exact rfl; exact rfl; exact (hL _))) | (apply AWf.cons; exact rfl) | exact ⟨put_same _ _ _, rfl⟩ | ((with_reducible apply AWf.nil))))
            rw [decide_eq_false (show ¬ ((r.len d : Nat) : Int) ≤ (i : Nat) by omega)]
            exact (by repeat (first | exact trivial | (refine And.intro rfl ?_)))
          intro t2 ht2
          refine Then.n ?_
          refine AW.weak ht2 ?_
          clear ht2
          (repeat (first | (with_reducible refine AWo.cons ?_) | ((with_reducible refine Step.id ?_); first | ((with_reducible apply Step.move); exact rfl; exact rfl) | ((with_reducible apply Step.load); exact rfl; (focus (decide +kernel)); exact rfl; (focus (first | exact z0 _ | exact z1 _))) | ((with_reducible apply Step.loadL (n := 4)); exact rfl; (focus (decide +kernel)); (focus (decide +kernel)); exact rfl; (focus (exact y5' _)); exact rfl; exact rfl) | ((with_reducible apply Step.field0); exact rfl; (focus (decide +kernel)); exact rfl) | ((with_reducible apply Step.field (k := 1)); exact rfl; (focus (decide +kernel)); exact rfl) | ((with_reducible apply Step.extract); exact rfl; exact rfl; exact rfl) | ((with_reducible apply Step.callR fit); exact rfl; exact Tryd.func81; exact rfl; exact rfl; exact (hP _)) | ((with_reducible apply Step.alloc 0); exact rfl; exact ze23; exact rfl; (focus (first | (simp only [List.nil_append, List.cons_append, List.set_cons_zero, List.set_cons_succ, iv_set, bv_set, iv_rep, bv_rep]; done) | (simp only [List.nil_append, List.cons_append, List.set_cons_zero, List.set_cons_succ, iv_set, bv_set, iv_rep, bv_rep]; rfl) | rfl))) | ((with_reducible apply Step.storeA (k := 0) (n := 4)); exact rfl; exact rfl; exact rfl; exact rfl; (focus (decide +kernel)); exact rfl; (focus (kernel_rfl)); exact rfl; (focus (first | (simp only [List.nil_append, List.cons_append, List.set_cons_zero, List.set_cons_succ, iv_set, bv_set, iv_rep, bv_rep]; done) | (simp only [List.nil_append, List.cons_append, List.set_cons_zero, List.set_cons_succ, iv_set, bv_set, iv_rep, bv_rep]; rfl) | rfl))) | ((with_reducible apply Step.alloc 1); exact rfl; exact ze23; exact rfl; (focus (first | (simp only [List.nil_append, List.cons_append, List.set_cons_zero, List.set_cons_succ, iv_set, bv_set, iv_rep, bv_rep]; done) | (simp only [List.nil_append, List.cons_append, List.set_cons_zero, List.set_cons_succ, iv_set, bv_set, iv_rep, bv_rep]; rfl) | rfl))) | ((with_reducible apply Step.storeA (k := 1) (n := 4)); exact rfl; exact rfl; exact rfl; exact rfl; (focus (decide +kernel)); exact rfl; (focus (kernel_rfl)); exact rfl; (focus (first | (simp only [List.nil_append, List.cons_append, List.set_cons_zero, List.set_cons_succ, iv_set, bv_set, iv_rep, bv_rep]; done) | (simp only [List.nil_append, List.cons_append, List.set_cons_zero, List.set_cons_succ, iv_set, bv_set, iv_rep, bv_rep]; rfl) | rfl)))) | (with_reducible refine AWo.nil ?_) | ((fail_if_success (with_reducible refine AW.atR (id := 18) ?_)); ((with_reducible apply AW.seq))) | ((with_reducible apply Then.n)) | ((with_reducible apply AW.regL)) | ((with_reducible apply AW.skip)) | ((with_reducible apply AW.condF); exact rfl; (focus (rfl)))))
          change AW _ _ _ _ _ (M ++ [some { cells := g1.cells }, some { cells := g2.cells }]) _
          have rl : ∀ T, RdL (M ++ (some { cells := g1.cells } :: some { cells := g2.cells } :: T)) (M.length + 0) 0 g1.cells := fun T => RdL.new rfl rfl
          have rh : RdL (M ++ [some { cells := g1.cells }, some { cells := g2.cells }]) (M.length + 1) 0 g2.cells := RdL.new rfl rfl
          (repeat (first | (with_reducible refine AWo.cons ?_) | ((with_reducible refine Step.id ?_); first | ((with_reducible apply Step.move); exact rfl; exact rfl) | ((with_reducible apply Step.loadL (n := 4)); exact rfl; (focus (decide +kernel)); (focus (decide +kernel)); exact rfl; (focus (exact RdL.new rfl rfl)); exact rfl; exact rfl)) | ((with_reducible apply AW.seq)) | ((with_reducible apply AW.regL))))
          ((with_reducible apply Step.callZ fit); exact rfl; exact Tryd.func106; exact rfl; exact rfl; exact (i1 _ (pre_app hN1 _) (hF1.old _) (by rw [List.length_append]; omega)))
          rintro _ M2 hR
          cases x1 with
          | none =>
            obtain ⟨hN2, u, rfl⟩ := hR
            (repeat (first | (with_reducible refine AWo.cons ?_) | ((with_reducible refine Step.id ?_); first | ((with_reducible apply Step.move); exact rfl; exact rfl) | ((with_reducible apply Step.assign); exact rfl; exact rfl) | ((with_reducible apply Step.not); exact rfl; exact rfl) | ((with_reducible apply Step.extract); exact rfl; exact rfl; exact rfl)) | (with_reducible refine AWo.nil ?_) | ((with_reducible apply AW.seq)) | ((with_reducible apply Then.n)) | ((with_reducible apply AW.regL)) | ((with_reducible apply AW.condT); exact rfl; (focus (rfl)))))
            (refine AW.ret ?_; (repeat (first | refine Then.r ?_ | refine InBlk.r ?_)))
            obtain ⟨N, hN⟩ := hN2
            exact ⟨_, rfl, ⟨N, by rw [List.append_nil]; exact hN⟩, _, rfl⟩
          | some x1 =>
            obtain ⟨l1, p1⟩ := x1
            obtain ⟨hN2, u, A', rfl, hP2, hF2, hA2, hA3, hK2⟩ := hR
            have hl1 := rdM_len f hx1
            have hM2 := hK2.1
            rw [List.length_append] at hM2
            have rh2 : ∀ T, RdL (M2 ++ T) (M.length + 1) 0 g2.cells := fun T => (hK2.rdL (by omega) (by omega) rh).old T
            have i3 := i2 (m := M2 ++ []) (F := F) (A := A') (l := l ++ l1) (v := u) (ps := p1) (pre_app hN2 _) (hF2.old _) hP2 (by rw [List.length_append]; omega) (by rw [List.append_nil]; exact hA2)
            dsimp only
            generalize hx2 : rdM B K f (r.hi d i) p1 = x2 at *
            clear i1 i2 ih rh rl hL hP
            (repeat (first | (with_reducible refine AWo.cons ?_) | ((with_reducible refine Step.id ?_); first | ((with_reducible apply Step.move); exact rfl; exact rfl) | ((with_reducible apply Step.assign); exact rfl; exact rfl) | ((with_reducible apply Step.loadL (n := 4)); exact rfl; (focus (decide +kernel)); (focus (decide +kernel)); exact rfl; (focus (exact rh2 _)); exact rfl; exact rfl) | ((with_reducible apply Step.not); exact rfl; exact rfl) | ((with_reducible apply Step.extract); exact rfl; exact rfl; exact rfl)) | (with_reducible refine AWo.nil ?_) | ((with_reducible apply AW.seq)) | ((with_reducible apply Then.n)) | ((with_reducible apply AW.regL)) | ((with_reducible apply AW.skip)) | ((with_reducible apply AW.condF); exact rfl; (focus (rfl)))))
            ((with_reducible apply Step.callZ fit); exact rfl; exact Tryd.func106; exact rfl; exact rfl; exact i3)
            rintro _ M3 hR3
            cases x2 with
            | none =>
              obtain ⟨hN3, u2, rfl⟩ := hR3
              (repeat (first | (with_reducible refine AWo.cons ?_) | ((with_reducible refine Step.id ?_); first | ((with_reducible apply Step.assign); exact rfl; exact rfl) | ((with_reducible apply Step.extract); exact rfl; exact rfl; exact rfl)) | (with_reducible refine AWo.nil ?_) | ((with_reducible apply Then.n))))
              (refine AW.ret ?_; (repeat (first | refine Then.r ?_ | refine InBlk.r ?_)))
              obtain ⟨N, hN⟩ := hN3
              exact ⟨_, rfl, ⟨N, by rw [List.append_nil]; exact hN⟩, _, rfl⟩
            | some x2 =>
              obtain ⟨l2, p2⟩ := x2
              obtain ⟨hN3, u2, A2, rfl, hP3, hF3, hA4, hA5, hK3⟩ := hR3
              (repeat (first | (with_reducible refine AWo.cons ?_) | ((with_reducible refine Step.id ?_); first | ((with_reducible apply Step.assign); exact rfl; exact rfl) | ((with_reducible apply Step.extract); exact rfl; exact rfl; exact rfl)) | (with_reducible refine AWo.nil ?_) | ((with_reducible apply Then.n))))
              (refine AW.ret ?_; (repeat (first | refine Then.r ?_ | refine InBlk.r ?_)))
              have hk := (hK1.trans (.inl rfl) hK2.of_old).trans (A1 := A') (by
                rcases hA3 with h | h
                · exact .inl h
                · rw [List.length_append] at h
                  exact .inr (by omega)) hK3.of_old
              refine ⟨_, rfl, pre_app hN3 _, u2, A2, rfl, hP3, ?_, ?_, ?_, hk.old _⟩
              · rw [← List.append_assoc]
                exact hF3.old _
              · rw [List.length_append]; omega
              · rcases hA5 with h | h
                · rcases hA3 with h' | h'
                  · exact .inl (h.trans h')
                  · rw [List.length_append] at h'
                    exact .inr (by omega)
                · rw [List.append_nil] at h
                  exact .inr (by omega)
        · rw [rd_nocut d hopd.symm hbad]
          have hF80 : ∀ M, ACall Tryd.prog 80 #[.agg r.rc.cells.toArray, .int .i64 od] M (Ret (.int .i64 (r.len d : Nat)) M) := fun M => hL M
          have hcs : nt = true ∨ (nt = false ∧ narg < 1) ∨ (nt = false ∧ ¬ narg < 1 ∧ (r.len d : Int) ≤ narg) := by
            cases nt with
            | true => exact .inl rfl
            | false =>
              by_cases h : narg < 1
              · exact .inr (.inl ⟨rfl, h⟩)
              · exact .inr (.inr ⟨rfl, h, by simp only [true_and] at hbad; omega⟩)
          (repeat (first | ((fail_if_success (with_reducible refine AW.atR (id := 15) ?_)); ((with_reducible apply AW.seq))) | ((with_reducible apply AW.condT); exact rfl; (focus (rfl)))))
          refine AW.seq ?_
          refine AW.flatN fit [(0, .pointer (some ⟨p, 0, none⟩)), (3, .pointer (some ⟨F, 0, none⟩)), (5, .pointer (some ⟨m.length + 0, 0, none⟩)), (8, tl), (10, .pointer (some ⟨a10, 0, none⟩))] [(0, .pointer (some ⟨p, 0, none⟩)), (3, .pointer (some ⟨F, 0, none⟩)), (5, .pointer (some ⟨m.length + 0, 0, none⟩)), (8, tl), (10, .pointer (some ⟨a10, 0, none⟩)), (93, .bool true)] [0, 3, 5, 8, 10] [[], [0], [0], [0], [0, 1], [0, 2], [3, 0], [0, 4], [0], [0, 1], [2], [3], [0, 4], [2, 0, 5, 5], [4, 0, 6], [7, 0]] (by repeat (first | exact trivial | (refine And.intro rfl ?_))) rfl (by decide +kernel) ?_ ?_
          · rcases hcs with rfl | ⟨rfl, h1⟩ | ⟨rfl, h1, h2⟩
            all_goals
              (repeat (first | ((with_reducible refine Step.id ?_); first | ((with_reducible apply Step.gdT); exact rfl; exact rfl; (focus (first | rfl | (simp only [decide_eq_true_eq, decide_eq_false_iff_not, Bool.not_eq_true', Bool.not_eq_false', Bool.not_true, Bool.not_false]; first | assumption | omega)))) | ((with_reducible apply Step.gdF); exact rfl; exact rfl; (focus (first | rfl | (simp only [decide_eq_true_eq, decide_eq_false_iff_not, Bool.not_eq_true', Bool.not_eq_false', Bool.not_true, Bool.not_false]; first | assumption | omega)))) | ((with_reducible apply Step.move); exact rfl; exact rfl) | ((with_reducible apply Step.load); exact rfl; (focus (decide +kernel)); exact rfl; (focus (first | exact z0 _ | exact z1 _ | exact z2 _))) | ((with_reducible apply Step.loadL (n := 4)); exact rfl; (focus (decide +kernel)); (focus (decide +kernel)); exact rfl; (focus (exact y5' _)); exact rfl; exact rfl) | ((with_reducible apply Step.field0); exact rfl; (focus (decide +kernel)); exact rfl) | ((with_reducible apply Step.field (k := 1)); exact rfl; (focus (decide +kernel)); exact rfl) | ((with_reducible apply Step.field (k := 2)); exact rfl; (focus (decide +kernel)); exact rfl) | ((with_reducible apply Step.lss); exact rfl; exact rfl; exact rfl) | ((with_reducible apply Step.geq); exact rfl; exact rfl; exact rfl) | ((with_reducible apply Step.pickT); exact rfl; exact rfl; exact rfl; exact rfl; (focus (first | rfl | (simp only [decide_eq_true_eq, decide_eq_false_iff_not, Bool.not_eq_true', Bool.not_eq_false', Bool.not_true, Bool.not_false]; first | assumption | omega)))) | ((with_reducible apply Step.pickF); exact rfl; exact rfl; exact rfl; exact rfl; (focus (first | rfl | (simp only [decide_eq_true_eq, decide_eq_false_iff_not, Bool.not_eq_true', Bool.not_eq_false', Bool.not_true, Bool.not_false]; first | assumption | omega)))) | ((with_reducible apply Step.callR fit); exact rfl; exact Tryd.func80; exact rfl; exact rfl; exact (hF80 _))) | (apply AWf.cons; exact rfl) | exact ⟨put_same _ _ _, rfl⟩ | ((with_reducible apply AWf.nil))))
              try rw [decide_eq_true h2]
              exact (by repeat (first | exact trivial | (refine And.intro rfl ?_)))
          intro t2 ht2
          refine Then.n ?_
          refine AW.weak ht2 ?_
          (repeat (first | (with_reducible refine AWo.cons ?_) | ((with_reducible refine Step.id ?_); ((with_reducible apply Step.assign); exact rfl; exact rfl)) | (with_reducible refine AWo.nil ?_) | ((with_reducible apply AW.seq)) | ((with_reducible apply Then.n)) | ((with_reducible apply AW.regL)) | ((with_reducible apply AW.condT); exact rfl; (focus (rfl)))))
          (refine AW.ret ?_; (repeat (first | refine Then.r ?_ | refine InBlk.r ?_)))
          obtain ⟨N, hN⟩ := hN1
          exact ⟨_, rfl, ⟨N, by rw [List.append_nil]; exact hN⟩, _, rfl⟩
      · have n2 : ¬ nop = 2 := fun e => o2 (.inl e)
        have n3 : ¬ nop = 3 := fun e => o2 (.inr e)
        rw [rd_other o0 o1 n2 n3]
        (repeat (first | (with_reducible refine AWo.cons ?_) | ((with_reducible refine Step.id ?_); first | ((with_reducible apply Step.assign); exact rfl; exact rfl) | ((with_reducible apply Step.load); exact rfl; (focus (decide +kernel)); exact rfl; (focus (exact z0 _))) | ((with_reducible apply Step.field0); exact rfl; (focus (decide +kernel)); exact rfl) | ((with_reducible apply Step.eql); exact rfl; exact rfl; exact rfl)) | (with_reducible refine AWo.nil ?_) | ((with_reducible apply AW.seq)) | ((with_reducible apply Then.n)) | ((with_reducible apply AW.regL)) | ((with_reducible apply AW.block)) | ((with_reducible apply InBlk.n)) | ((with_reducible apply AW.skip)) | ((with_reducible apply AW.condF); exact rfl; (focus ((simp only [decide_eq_true_eq, decide_eq_false_iff_not, Bool.not_eq_true', Bool.not_eq_false', Bool.not_true, Bool.not_false]; first | assumption | omega))))))
        (refine AW.ret ?_; (repeat (first | refine Then.r ?_ | refine InBlk.r ?_)))
        obtain ⟨N, hN⟩ := hN1
        exact ⟨_, rfl, ⟨N, by rw [List.append_nil]; exact hN⟩, _, rfl⟩
end Go.Proofs.YtibhgdglbillaaaDoor.Abs
namespace Go.Proofs.YtibhgdglbillaaaDoor.Abs
set_option linter.unusedSimpArgs false
set_option linter.unusedVariables false
open Go.RowKit
open Go.Proofs.YtibhgdglbillaaaDoor.Sim
open Go.Proofs
theorem ze63 : zeroB Tryd.prog 63 = some #[.int .i64 0, .int .i64 0, .bool false] := by kernel_rfl
theorem ze69 : zeroB Tryd.prog 69 = some #[.slice none 0 0] := by kernel_rfl
theorem ze81 : zeroB Tryd.prog 81 = some #[.int .i64 0, .int .i64 0, .int .i64 0, .int .i64 0, .int .i64 0, .bool false] := by kernel_rfl
set_option maxHeartbeats 4000000 in
set_option maxRecDepth 100000 in
theorem nodes_ok {m : AM} {kv : Value} {K : List Nd} (hk : Nds m kv K) (hlen : K.length ≤ 4294967296) : ACall Tryd.prog 42 #[kv] m (NewG (ndc K) 3 K.length m) := by
  obtain ⟨A, O, sl, la, rd⟩ := hk
  obtain ⟨q, c, rfl⟩ := sl.shape
  have wl : Low m.length (.slice q K.length c) := Low.of_sl sl la
  refine ACall.start Tryd.func42 rfl rfl ?_
  (repeat (first | (with_reducible refine AWo.cons ?_) | ((with_reducible refine Step.id ?_); first | ((with_reducible apply Step.move); exact rfl; exact rfl) | ((with_reducible apply Step.assign); exact rfl; exact rfl) | ((with_reducible apply Step.len); exact rfl; (focus (assumption)); (focus (decide +kernel)); exact rfl)) | (with_reducible refine AWo.nil ?_) | ((with_reducible apply AW.seq)) | ((with_reducible apply Then.n)) | ((with_reducible apply AW.regL)) | ((with_reducible apply AW.block))))
  refine AW.loopT (fun n t L => ∃ i : Nat, n = K.length - i ∧ i ≤ K.length ∧ L = [gb (ndc (K.take i)) 3] ∧
    t = [(3, gv (m.length + 0) i), (6, .slice q K.length c), (7, .int .i64 (K.length : Nat)), (8, .int .i64 (i : Nat))])
    ⟨_, _, [none], (Back.padC rfl (by repeat (first | exact trivial | (refine And.intro ⟨rfl, by (first | exact Low.rid (by assumption) (by simp) | exact .int _ _ | exact Ren.of_gv (by first | (simp; done) | omega | (simp; omega)))⟩ ?_))) (by repeat (exact CellsP.nil))), 0, rfl, Nat.zero_le _, rfl, rfl⟩ ?_
  rintro n t L ⟨i, rfl, hi, rfl, rfl⟩
  rcases Nat.lt_or_ge i K.length with hlt | hge
  · have rk := rd i hlt
    have hs : K.take (i + 1) = K.take i ++ [K.getD i (0, 0, false)] := take_snoc K i (0, 0, false) hlt
    generalize K.getD i (0, 0, false) = k at rk hs
    obtain ⟨ka, kb, kc⟩ := k
    simp only [ndc1] at rk
    have hpl : (ndc (K.take i)).length = i * 3 := by rw [ndc_len, List.length_take]; congr 1; omega
    have hg0 := g0_ndc (K.take (i + 1))
    have hcc : ndc (K.take (i + 1)) = ndc (K.take i) ++ [.int .i64 ka, .int .i64 kb, .bool kc] := by rw [hs, ndc_app]; rfl
    rw [hcc] at hg0
    (repeat (first | (with_reducible refine AWo.cons ?_) | ((with_reducible refine Step.id ?_); first | ((with_reducible apply Step.move); exact rfl; exact rfl) | ((with_reducible apply Step.load); exact rfl; (focus (decide +kernel)); exact rfl; (focus (exact Rd.new rfl rfl))) | ((with_reducible apply Step.loadL (n := 3)); exact rfl; (focus (decide +kernel)); (focus (decide +kernel)); exact rfl; (focus (exact RdL.old _ (by assumption))); exact rfl; exact rfl) | ((with_reducible apply Step.ix (s := 3)); exact rfl; (focus (assumption)); exact rfl; (focus (decide +kernel)); exact rfl; (focus (omega))) | ((with_reducible apply Step.field0); exact rfl; (focus (decide +kernel)); exact rfl) | ((with_reducible apply Step.field (k := 1)); exact rfl; (focus (decide +kernel)); exact rfl) | ((with_reducible apply Step.field (k := 2)); exact rfl; (focus (decide +kernel)); exact rfl) | ((with_reducible apply Step.lss); exact rfl; exact rfl; exact rfl) | ((with_reducible apply Step.alloc 1); exact rfl; exact ze63; exact rfl; (focus (first | (simp only [List.nil_append, List.cons_append, List.set_cons_zero, List.set_cons_succ, iv_set, bv_set, iv_rep, bv_rep]; done) | (simp only [List.nil_append, List.cons_append, List.set_cons_zero, List.set_cons_succ, iv_set, bv_set, iv_rep, bv_rep]; rfl) | rfl))) | ((with_reducible apply Step.storeA (k := 1) (n := 3)); exact rfl; exact rfl; exact rfl; exact rfl; (focus (decide +kernel)); exact rfl; (focus (kernel_rfl)); exact rfl; (focus (first | (simp only [List.nil_append, List.cons_append, List.set_cons_zero, List.set_cons_succ, iv_set, bv_set, iv_rep, bv_rep]; done) | (simp only [List.nil_append, List.cons_append, List.set_cons_zero, List.set_cons_succ, iv_set, bv_set, iv_rep, bv_rep]; rfl) | rfl))) | ((with_reducible apply Step.buildS 2); exact rfl; exact rfl; exact (fun _ _ => bs55); exact rfl; (focus (first | (simp only [List.nil_append, List.cons_append, List.set_cons_zero, List.set_cons_succ, iv_set, bv_set, iv_rep, bv_rep]; done) | (simp only [List.nil_append, List.cons_append, List.set_cons_zero, List.set_cons_succ, iv_set, bv_set, iv_rep, bv_rep]; rfl) | rfl))) | ((with_reducible apply Step.build); exact rfl; exact bl121; exact rfl)) | (with_reducible refine AWo.nil ?_) | ((with_reducible apply AW.seq)) | ((with_reducible apply Then.n)) | ((with_reducible apply AW.regL)) | ((with_reducible apply AW.block)) | ((with_reducible apply AW.skip)) | ((with_reducible apply AW.condT); exact rfl; (focus ((simp only [decide_eq_true_eq, decide_eq_false_iff_not, Bool.not_eq_true', Bool.not_eq_false', Bool.not_true, Bool.not_false]; first | assumption | omega))))))
    ((with_reducible apply Step.appG (k := 3) (q := 0) (r := 2) (n := i) (xl := 1)); exact rfl; exact rfl; exact rfl; exact el55; exact un55; exact rfl; exact rfl; exact rfl; exact hpl; exact rfl; exact rfl; (focus (kernel_rfl)); (focus (omega)); exact rfl; (focus (first | (simp only [List.nil_append, List.cons_append, List.set_cons_zero, List.set_cons_succ, iv_set, bv_set, iv_rep, bv_rep]; done) | (simp only [List.nil_append, List.cons_append, List.set_cons_zero, List.set_cons_succ, iv_set, bv_set, iv_rep, bv_rep]; rfl) | rfl)))
    (repeat (first | (with_reducible refine AWo.cons ?_) | ((with_reducible refine Step.id ?_); first | ((with_reducible apply Step.move); exact rfl; exact rfl) | ((with_reducible apply Step.assign); exact rfl; exact rfl) | ((with_reducible apply Step.add); exact rfl; exact rfl; (focus (omega)); exact rfl)) | (with_reducible refine AWo.nil ?_) | ((with_reducible apply Then.n)) | ((with_reducible apply AW.regL)) | ((with_reducible apply InBlk.n))))
    exact ⟨_, [(3, .slice (some ⟨m.length + 0, 0, none⟩) (i + 1) (i + 1)), (6, .slice q K.length c), (7, .int .i64 (K.length : Nat)), (8, .int .i64 (i + 1 : Nat))], [some { cells := ndc (K.take i) ++ [.int .i64 ka, .int .i64 kb, .bool kc], kind := .grow, size := 3 }], by omega, (Back.mv 0 3 rfl rfl rfl rfl (by intro j b hj h; rcases j with _ | _ | _ | _ | _ | _ | j <;> simp_all) (by repeat (first | exact CellsOk.nil | refine CellsOk.cons (by assumption) ?_)) (by repeat (first | exact trivial | (refine And.intro ⟨_, rfl, by (first | exact Low.ne (by assumption) (by simp) | exact .int _ _ | exact Ren.slice_mv (by first | (simp; done) | omega | (simp; omega)))⟩ ?_)))), i + 1, rfl, by omega, by rw [hcc, gb_pos (by simp)], by rw [gv_pos (by omega)]⟩
  · obtain rfl : i = K.length := by omega
    have hg0 := g0_ndc (K.take K.length)
    (repeat (first | (with_reducible refine AWo.cons ?_) | ((with_reducible refine Step.id ?_); first | ((with_reducible apply Step.move); exact rfl; exact rfl) | ((with_reducible apply Step.assign); exact rfl; exact rfl) | ((with_reducible apply Step.lss); exact rfl; exact rfl; exact rfl)) | (with_reducible refine AWo.nil ?_) | ((with_reducible apply AW.seq)) | ((with_reducible apply Then.n)) | ((with_reducible apply AW.regL)) | ((with_reducible apply AW.exit)) | ((with_reducible apply InBlk.hit)) | ((with_reducible apply Then.e)) | ((with_reducible apply AW.condF); exact rfl; (focus ((simp only [decide_eq_true_eq, decide_eq_false_iff_not, Bool.not_eq_true', Bool.not_eq_false', Bool.not_true, Bool.not_false]; first | assumption | omega))))))
    (refine AW.retB (l := [(2, _)]) (Or.inl ⟨rfl, (by repeat (first | exact trivial | (refine And.intro rfl ?_)))⟩) ?_; (repeat (first | refine Then.r ?_ | refine InBlk.r ?_)))
    exact ⟨_, rfl, rfl, by rw [List.take_of_length_le (Nat.le_refl _)]⟩
/-- Pieces in memory. -/
def Pcs (m : AM) (v : Value) (l : List Plc) : Prop := ∃ a o, Sl v a o l.length ∧ a < m.length ∧ ∀ i, i < l.length → RdL m a (o + i * 6) (plc1 (l.getD i default))
theorem Pcs.old {m : AM} {v : Value} {l : List Plc} (h : Pcs m v l) (L : AM) : Pcs (m ++ L) v l := by
  obtain ⟨a, o, h1, h2, h3⟩ := h
  exact ⟨a, o, h1, by rw [List.length_append]; omega, fun i hi => (h3 i hi).old L⟩
theorem Pcs.nil {m : AM} (hM : 0 < m.length) : Pcs m (.slice none 0 0) [] := ⟨0, 0, .inl ⟨rfl, rfl⟩, hM, fun i hi => by simp at hi⟩
theorem FD.pcs {b0 : Nat} {m : AM} {F A : Nat} {l : List Plc} (h : FD b0 m F A l) : ∃ v, Rd m F 0 v ∧ Pcs m v l := by
  obtain ⟨_, v, h2, h3⟩ := h
  refine ⟨v, ⟨_, h2, rfl⟩, ?_⟩
  have hl := (List.getElem?_eq_some_iff.1 h2).1
  rcases h3 with ⟨rfl, rfl⟩ | ⟨rfl, _, _, _, h4⟩
  · exact Pcs.nil (by omega)
  · exact ⟨A, 0, Sl.mk (Nat.le_refl _), (List.getElem?_eq_some_iff.1 h4).1, fun i hi => ⟨_, h4, fun j v hj => by rw [Nat.zero_add]; exact plc_get l i hi j v hj⟩⟩
/-- What reading a plan of the whole board comes to: the pieces, and the error. -/
def rdgM (B : Brd) (K : List Kd) (ps : List Nd) : List Plc × Int := if goodB B K = true then (match rdM B K 32 (wholeR B) ps with
    | some (l, []) => (l, 0)
    | _ => ([], 6)) else ([], 2)
set_option maxHeartbeats 8000000 in
set_option maxRecDepth 100000 in
theorem Reading_ok {m : AM} {sv kv v : Value} {B : Brd} {K : List Kd} {ps : List Nd} (hs : Strs m sv B) (hk : Kds m kv K) (hv : PN m v ps) (hlen : ps.length ≤ 1000000) :
    ACall Tryd.prog 87 #[sv, kv, v] m (More (fun M w => ∃ pv u, w = .tuple #[pv, u, .int .i64 (rdgM B K ps).2] ∧ Pcs M u (rdgM B K ps).1 ∧ ((rdgM B K ps).2 = 0 → ∃ p, pv = .pointer (some ⟨p, 0, none⟩) ∧ BoardAt M p B K)) m) := by
  have hM : 0 < m.length := by obtain ⟨A1, O1, sl1, la1, rd1⟩ := hs; omega
  cases hg : goodB B K with
  | false =>
    have hN := fun T => newBoard_no (hs.old T) (hk.old T) hg
    have e : rdgM B K ps = ([], 2) := by unfold rdgM; rw [if_neg (by simp [hg])]
    rw [e]
    refine ACall.start Tryd.func87 rfl rfl ?_
    (repeat (first | (with_reducible refine AWo.cons ?_) | ((with_reducible refine Step.id ?_); first | ((with_reducible apply Step.move); exact rfl; exact rfl) | ((with_reducible apply Step.assign); exact rfl; exact rfl) | ((with_reducible apply Step.ptrNil); exact rfl; exact rfl; exact un100; exact rfl) | ((with_reducible apply Step.callR fit); exact rfl; exact Tryd.func65; exact rfl; exact rfl; exact (hN _))) | (with_reducible refine AWo.nil ?_) | ((with_reducible apply AW.seq)) | ((with_reducible apply Then.n)) | ((with_reducible apply AW.regL)) | ((with_reducible apply AW.condT); exact rfl; (focus (rfl)))))
    (refine AW.ret ?_; (repeat (first | refine Then.r ?_ | refine InBlk.r ?_)))
    exact ⟨_, rfl, [], rfl, _, _, rfl, by rw [List.append_nil]; exact Pcs.nil hM, fun h => by cases h⟩
  | true =>
    have hgb : boardB B = true := by simp only [goodB, Bool.and_eq_true] at hg; exact hg.1
    have hin := good_in hgb
    have hok : (wholeR B).ok (bw B) (bh B) := by
      simp only [R4.ok, wholeR]
      omega
    have hsz : (wholeR B).size ≤ 32 := by
      simp only [R4.size, wholeR]
      omega
    unfold rdgM
    rw [if_pos hg]
    refine ACall.start Tryd.func87 rfl rfl ?_
    (repeat (first | (with_reducible refine AWo.cons ?_) | ((with_reducible refine Step.id ?_); first | ((with_reducible apply Step.move); exact rfl; exact rfl) | ((with_reducible apply Step.assign); exact rfl; exact rfl)) | (with_reducible refine AWo.nil ?_) | ((with_reducible apply AW.seq)) | ((with_reducible apply Then.n)) | ((with_reducible apply AW.regL))))
    ((with_reducible apply Step.callX fit); exact rfl; exact Tryd.func65; exact rfl; exact rfl; exact (newBoard_ok (hs.old _) (hk.old _) hg))
    rintro _ m1 ⟨N1, hN1⟩ ⟨p, hp, rfl, hB⟩
    have w1 := fun T => whole_ok (hB.old T)
    have hv1 : PN m1 v ps := by rw [hN1]; exact (hv.old _).old _
    have hm1 : ∃ N, m1 = m ++ N := ⟨N1, by rw [hN1, List.append_nil]⟩
    have hR := read_ok hg hB 32 (Nat.le_refl _) hok hsz (m := m1 ++ [some { cells := [.slice none 0 0] }]) (F := m1.length + 0) (A := m1.length + 0) (l := []) (v := v) (ps := ps) ⟨_, rfl⟩ ⟨by omega, _, by rw [get_app]; rfl, .inl ⟨rfl, rfl⟩⟩ hv1 (by simpa using hlen) (by simp)
    change ∀ T, ACall Tryd.prog 67 _ _ (Ret (.agg (wholeR B).rc.cells.toArray) _) at w1
    generalize (wholeR B).rc = rr at *
    generalize rdM B K 32 (wholeR B) ps = x at *
    clear hN1
    (repeat (first | (with_reducible refine AWo.cons ?_) | ((with_reducible refine Step.id ?_); first | ((with_reducible apply Step.move); exact rfl; exact rfl) | ((with_reducible apply Step.assign); exact rfl; exact rfl) | ((with_reducible apply Step.ptrNot); exact rfl; exact rfl; exact un100; exact rfl) | ((with_reducible apply Step.callR fit); exact rfl; exact Tryd.func67; exact rfl; exact rfl; exact (w1 _)) | ((with_reducible apply Step.alloc 0); exact rfl; exact ze69; exact rfl; (focus (first | (simp only [List.nil_append, List.cons_append, List.set_cons_zero, List.set_cons_succ, iv_set, bv_set, iv_rep, bv_rep]; done) | (simp only [List.nil_append, List.cons_append, List.set_cons_zero, List.set_cons_succ, iv_set, bv_set, iv_rep, bv_rep]; rfl) | rfl)))) | (with_reducible refine AWo.nil ?_) | ((with_reducible apply AW.seq)) | ((with_reducible apply Then.n)) | ((with_reducible apply AW.regL)) | ((with_reducible apply AW.skip)) | ((with_reducible apply AW.condF); exact rfl; (focus (rfl)))))
    ((with_reducible apply Step.callZ fit); exact rfl; exact Tryd.func106; exact rfl; exact rfl; exact hR)
    rintro _ M2 hR2
    cases x with
    | none =>
      obtain ⟨hN2, u, rfl⟩ := hR2
      (repeat (first | (with_reducible refine AWo.cons ?_) | ((with_reducible refine Step.id ?_); first | ((with_reducible apply Step.gdF); exact rfl; exact rfl; (focus (rfl))) | ((with_reducible apply Step.move); exact rfl; exact rfl) | ((with_reducible apply Step.assign); exact rfl; exact rfl) | ((with_reducible apply Step.not); exact rfl; exact rfl) | ((with_reducible apply Step.extract); exact rfl; exact rfl; exact rfl) | ((with_reducible apply Step.pickT); exact rfl; exact rfl; exact rfl; exact rfl; (focus (rfl)))) | (with_reducible refine AWo.nil ?_) | ((with_reducible apply AW.seq)) | ((with_reducible apply Then.n)) | ((with_reducible apply AW.regL)) | ((with_reducible apply AW.condT); exact rfl; (focus (rfl)))))
      (refine AW.ret ?_; (repeat (first | refine Then.r ?_ | refine InBlk.r ?_)))
      obtain ⟨N1, hN1⟩ := hm1
      obtain ⟨N, hN⟩ := hN2
      exact ⟨_, rfl, N1 ++ N, by rw [List.append_nil, hN, hN1, List.append_assoc], _, _, rfl, Pcs.nil (by rw [List.append_nil, hN, hN1]; simp; omega), fun h => by cases h⟩
    | some x =>
      obtain ⟨l, ps'⟩ := x
      obtain ⟨hN2, u, A', rfl, hP2, hF2, hA2, hA3, hK2⟩ := hR2
      rw [List.nil_append] at hF2
      obtain ⟨fv, hfv, hpc⟩ := hF2.pcs
      obtain ⟨a, o, sl, _⟩ := hP2
      have hfv' : ∀ T, Rd (M2 ++ T) (m1.length + 0) 0 fv := fun T => hfv.old T
      obtain ⟨q, c, rfl⟩ := sl.shape
      cases ps' with
      | nil =>
        change Sl (.slice q 0 c) a o 0 at sl
        (repeat (first | (with_reducible refine AWo.cons ?_) | ((with_reducible refine Step.id ?_); first | ((with_reducible apply Step.gdT); exact rfl; exact rfl; (focus (rfl))) | ((with_reducible apply Step.move); exact rfl; exact rfl) | ((with_reducible apply Step.assign); exact rfl; exact rfl) | ((with_reducible apply Step.load); exact rfl; (focus (decide +kernel)); exact rfl; (focus (exact hfv' _))) | ((with_reducible apply Step.gtr); exact rfl; exact rfl; exact rfl) | ((with_reducible apply Step.len); exact rfl; (focus (assumption)); (focus (decide +kernel)); exact rfl) | ((with_reducible apply Step.not); exact rfl; exact rfl) | ((with_reducible apply Step.extract); exact rfl; exact rfl; exact rfl) | ((with_reducible apply Step.pickF); exact rfl; exact rfl; exact rfl; exact rfl; (focus (rfl)))) | (with_reducible refine AWo.nil ?_) | ((with_reducible apply AW.seq)) | ((with_reducible apply Then.n)) | ((with_reducible apply AW.regL)) | ((with_reducible apply AW.drawL fit); (focus (decide +kernel))) | ((with_reducible apply AW.skip)) | ((with_reducible apply AW.condF); exact rfl; (focus (rfl)))))
        (refine AW.ret ?_; (repeat (first | refine Then.r ?_ | refine InBlk.r ?_)))
        obtain ⟨N1, hN1⟩ := hm1
        obtain ⟨N, hN⟩ := hN2
        exact ⟨_, rfl, N1 ++ N, by rw [List.append_nil, hN, hN1, List.append_assoc], _, _, rfl, by rw [List.append_nil]; exact hpc, fun _ => ⟨p, rfl, by rw [List.append_nil, hN]; exact hB.old _⟩⟩
      | cons y ps' =>
        change Sl (.slice q (ps'.length + 1) c) a o (ps'.length + 1) at sl
        (repeat (first | (with_reducible refine AWo.cons ?_) | ((with_reducible refine Step.id ?_); first | ((with_reducible apply Step.gdT); exact rfl; exact rfl; (focus (rfl))) | ((with_reducible apply Step.move); exact rfl; exact rfl) | ((with_reducible apply Step.assign); exact rfl; exact rfl) | ((with_reducible apply Step.gtr); exact rfl; exact rfl; exact rfl) | ((with_reducible apply Step.len); exact rfl; (focus (assumption)); (focus (decide +kernel)); exact rfl) | ((with_reducible apply Step.not); exact rfl; exact rfl) | ((with_reducible apply Step.extract); exact rfl; exact rfl; exact rfl) | ((with_reducible apply Step.pickF); exact rfl; exact rfl; exact rfl; exact rfl; (focus (rfl)))) | (with_reducible refine AWo.nil ?_) | ((with_reducible apply AW.seq)) | ((with_reducible apply Then.n)) | ((with_reducible apply AW.regL)) | ((with_reducible apply AW.condT); exact rfl; (focus ((simp only [decide_eq_true_eq, decide_eq_false_iff_not, Bool.not_eq_true', Bool.not_eq_false', Bool.not_true, Bool.not_false]; first | assumption | omega))))))
        (refine AW.ret ?_; (repeat (first | refine Then.r ?_ | refine InBlk.r ?_)))
        obtain ⟨N1, hN1⟩ := hm1
        obtain ⟨N, hN⟩ := hN2
        exact ⟨_, rfl, N1 ++ N, by rw [List.append_nil, hN, hN1, List.append_assoc], _, _, rfl, Pcs.nil (by rw [List.append_nil, hN, hN1]; simp; omega), fun h => by cases h⟩
theorem rdgM_all {B : Brd} {K : List Kd} {ps : List Nd} : (rdgM B K ps).1.length ≤ ps.length ∧ ((rdgM B K ps).1 = [] ∨ goodB B K = true) ∧ ∀ x ∈ (rdgM B K ps).1, x.1 < K.length ∧ x.2.1.ok (bw B) (bh B) ∧ okB B (K.getD x.1 default) x.2.1 = true ∧ turnedB (K.getD x.1 default) x.2.1 = x.2.2 := by
  unfold rdgM
  split
  · rename_i hg
    have hgb : boardB B = true := by simp only [goodB, Bool.and_eq_true] at hg; exact hg.1
    have hin := good_in hgb
    have hok : (wholeR B).ok (bw B) (bh B) := by
      simp only [R4.ok, wholeR]
      omega
    split
    · rename_i l e
      have := rdM_len 32 e
      exact ⟨by simp only; omega, .inr hg, rdM_all 32 hok e⟩
    · exact ⟨by simp, .inl rfl, fun x hx => by simp at hx⟩
  · exact ⟨by simp, .inl rfl, fun x hx => by simp at hx⟩
theorem worthL_take (K : List Kd) (l : List Plc) {i : Nat} (h : i < l.length) : worthL K (l.take (i + 1)) = worthL K (l.take i) + (K.getD (l.getD i default).1 default).worth := by
  rw [take_snoc l i default h, worthL_app]
  simp [worthL]
set_option maxHeartbeats 8000000 in
set_option maxRecDepth 100000 in
theorem Read_ok {m : AM} {sv kv v : Value} {B : Brd} {K : List Kd} {ps : List Nd} (hs : Strs m sv B) (hk : Kds m kv K) (hv : PN m v ps) (hlen : ps.length ≤ 1000000) :
    ACall Tryd.prog 41 #[sv, kv, v] m (More (fun M w => ∃ u, w = .tuple #[u, .int .i64 (worthL K (rdgM B K ps).1), .int .i64 (rdgM B K ps).2] ∧ Pcs M u (rdgM B K ps).1) m) := by
  have hR := Reading_ok hs hk hv hlen
  obtain ⟨hl1, hl2, hl3⟩ := rdgM_all (B := B) (K := K) (ps := ps)
  generalize rdgM B K ps = x at *
  obtain ⟨l, e⟩ := x
  simp only at hR hl1 hl2 hl3 ⊢
  refine ACall.start Tryd.func41 rfl rfl ?_
  (repeat (first | (with_reducible refine AWo.cons ?_) | ((with_reducible refine Step.id ?_); first | ((with_reducible apply Step.move); exact rfl; exact rfl) | ((with_reducible apply Step.assign); exact rfl; exact rfl)) | (with_reducible refine AWo.nil ?_) | ((with_reducible apply AW.seq)) | ((with_reducible apply Then.n)) | ((with_reducible apply AW.regL))))
  rw [List.append_nil]
  ((with_reducible apply Step.callX fit); exact rfl; exact Tryd.func87; exact rfl; exact rfl; exact hR)
  rintro _ M1 ⟨N1, hN1⟩ ⟨pv, u, rfl, hpc, _⟩
  have hk1 : Kds M1 kv K := by rw [hN1]; exact hk.old _
  clear hR
  (repeat (first | (with_reducible refine AWo.cons ?_) | ((with_reducible refine Step.id ?_); first | ((with_reducible apply Step.move); exact rfl; exact rfl) | ((with_reducible apply Step.assign); exact rfl; exact rfl) | ((with_reducible apply Step.extract); exact rfl; exact rfl; exact rfl)) | (with_reducible refine AWo.nil ?_) | ((with_reducible apply Then.n))))
  rw [List.append_nil]
  refine AW.rebase ?_
  obtain ⟨A1, O1, sl1, la1, rd1⟩ := hk1
  obtain ⟨q1, c1, rfl⟩ := sl1.shape
  have hpc' := hpc
  obtain ⟨A2, O2, sl2, la2, rd2⟩ := hpc
  obtain ⟨q2, c2, rfl⟩ := sl2.shape
  have w1 : Low M1.length (.slice q1 K.length c1) := Low.of_sl sl1 la1
  have w2 : Low M1.length (.slice q2 l.length c2) := Low.of_sl sl2 la2
  (repeat (first | (with_reducible refine AWo.cons ?_) | ((with_reducible refine Step.id ?_); first | ((with_reducible apply Step.move); exact rfl; exact rfl) | ((with_reducible apply Step.assign); exact rfl; exact rfl) | ((with_reducible apply Step.len); exact rfl; (focus (assumption)); (focus (decide +kernel)); exact rfl)) | (with_reducible refine AWo.nil ?_) | ((with_reducible apply AW.seq)) | ((with_reducible apply Then.n)) | ((with_reducible apply AW.regL)) | ((with_reducible apply AW.block))))
  refine AW.loopT (fun n t L => ∃ i : Nat, n = l.length - i ∧ i ≤ l.length ∧ L = [] ∧
    t = [(1, .slice q1 K.length c1), (10, .slice q2 l.length c2), (11, .int .i64 e), (12, .int .i64 (worthL K (l.take i))), (23, .slice q2 l.length c2), (24, .int .i64 (l.length : Nat)), (25, .int .i64 (i : Nat))])
    ⟨_, _, _, (Or.inl ⟨rfl, (by repeat (first | exact trivial | (refine And.intro rfl ?_)))⟩), 0, rfl, Nat.zero_le _, rfl, rfl⟩ ?_
  rintro n t L ⟨i, rfl, hi, rfl, rfl⟩
  rcases Nat.lt_or_ge i l.length with hlt | hge
  · have rp := rd2 i hlt
    have hmem : l.getD i default ∈ l := by rw [getD_in _ _ hlt]; exact List.getElem_mem hlt
    have hx := (hl3 _ hmem).1
    have hw := worthL_take K l hlt
    have hgd : goodB B K = true := by
      rcases hl2 with h | h
      · rw [h] at hlt; simp at hlt
      · exact h
    have hKb : kindsB K = true := by simp only [goodB, Bool.and_eq_true] at hgd; exact hgd.2
    have hwi := worthL_in hKb (l.take i) (fun y hy => (hl3 y (List.mem_of_mem_take hy)).1)
    have htk : (l.take i).length ≤ l.length := by rw [List.length_take]; omega
    have hkd := kdB_in (kinds_get hKb hx)
    have rk := (rd1 _ hx).at_ 3 rfl
    generalize worthL K (l.take i) = ws at *
    generalize l.getD i default = y at *
    obtain ⟨yk, yr, yt⟩ := y
    simp only at rk hx hkd
    generalize (K.getD yk default).worth = kw at *
    simp only [plc1, Rc.cells, List.cons_append, List.nil_append] at rp
    (repeat (first | (with_reducible refine AWo.cons ?_) | ((with_reducible refine Step.id ?_); first | ((with_reducible apply Step.move); exact rfl; exact rfl) | ((with_reducible apply Step.assign); exact rfl; exact rfl) | ((with_reducible apply Step.load); exact rfl; (focus (decide +kernel)); exact rfl; (focus (first | exact Rd.new rfl rfl | exact Rd.old _ (by assumption)))) | ((with_reducible apply Step.loadL (n := 6)); exact rfl; (focus (decide +kernel)); (focus (decide +kernel)); exact rfl; (focus (exact RdL.old _ (by assumption))); exact rfl; exact rfl) | ((with_reducible apply Step.ix (s := 5)); exact rfl; (focus (assumption)); exact rfl; (focus (decide +kernel)); exact rfl; (focus (omega))) | ((with_reducible apply Step.ix (s := 6)); exact rfl; (focus (assumption)); exact rfl; (focus (decide +kernel)); exact rfl; (focus (omega))) | ((with_reducible apply Step.field0); exact rfl; (focus (decide +kernel)); exact rfl) | ((with_reducible apply Step.field (k := 3)); exact rfl; (focus (decide +kernel)); exact rfl) | ((with_reducible apply Step.add); exact rfl; exact rfl; (focus (omega)); exact rfl) | ((with_reducible apply Step.lss); exact rfl; exact rfl; exact rfl) | ((with_reducible apply Step.alloc 0); exact rfl; exact ze81; exact rfl; (focus (first | (simp only [List.nil_append, List.cons_append, List.set_cons_zero, List.set_cons_succ, iv_set, bv_set, iv_rep, bv_rep]; done) | (simp only [List.nil_append, List.cons_append, List.set_cons_zero, List.set_cons_succ, iv_set, bv_set, iv_rep, bv_rep]; rfl) | rfl))) | ((with_reducible apply Step.storeA (k := 0) (n := 6)); exact rfl; exact rfl; exact rfl; exact rfl; (focus (decide +kernel)); exact rfl; (focus (kernel_rfl)); exact rfl; (focus (first | (simp only [List.nil_append, List.cons_append, List.set_cons_zero, List.set_cons_succ, iv_set, bv_set, iv_rep, bv_rep]; done) | (simp only [List.nil_append, List.cons_append, List.set_cons_zero, List.set_cons_succ, iv_set, bv_set, iv_rep, bv_rep]; rfl) | rfl)))) | (with_reducible refine AWo.nil ?_) | ((with_reducible apply AW.seq)) | ((with_reducible apply Then.n)) | ((with_reducible apply AW.regL)) | ((with_reducible apply AW.block)) | ((with_reducible apply InBlk.n)) | ((with_reducible apply AW.skip)) | ((with_reducible apply AW.condT); exact rfl; (focus ((simp only [decide_eq_true_eq, decide_eq_false_iff_not, Bool.not_eq_true', Bool.not_eq_false', Bool.not_true, Bool.not_false]; first | assumption | omega))))))
    exact ⟨_, [(1, .slice q1 K.length c1), (10, .slice q2 l.length c2), (11, .int .i64 e), (12, .int .i64 (ws + kw)), (23, .slice q2 l.length c2), (24, .int .i64 (l.length : Nat)), (25, .int .i64 (i + 1 : Nat))], [], by omega, (Back.trim rfl rfl (by repeat (exact CellsOk.nil)) (by repeat (first | exact trivial | (refine And.intro ⟨rfl, by (first | exact Low.rid (by assumption) (by simp) | exact .int _ _)⟩ ?_)))), i + 1, rfl, by omega, rfl, by rw [hw]⟩
  · obtain rfl : i = l.length := by omega
    (repeat (first | (with_reducible refine AWo.cons ?_) | ((with_reducible refine Step.id ?_); first | ((with_reducible apply Step.move); exact rfl; exact rfl) | ((with_reducible apply Step.assign); exact rfl; exact rfl) | ((with_reducible apply Step.lss); exact rfl; exact rfl; exact rfl)) | (with_reducible refine AWo.nil ?_) | ((with_reducible apply AW.seq)) | ((with_reducible apply Then.n)) | ((with_reducible apply AW.regL)) | ((with_reducible apply AW.exit)) | ((with_reducible apply InBlk.hit)) | ((with_reducible apply Then.e)) | ((with_reducible apply AW.condF); exact rfl; (focus ((simp only [decide_eq_true_eq, decide_eq_false_iff_not, Bool.not_eq_true', Bool.not_eq_false', Bool.not_true, Bool.not_false]; first | assumption | omega))))))
    (refine AW.ret ?_; (repeat (first | refine Then.r ?_ | refine InBlk.r ?_)))
    exact ⟨_, rfl, N1, by rw [List.append_nil]; exact hN1, _, by rw [List.take_of_length_le (Nat.le_refl _)], by rw [List.append_nil]; exact hpc'⟩
end Go.Proofs.YtibhgdglbillaaaDoor.Abs
namespace Go.Proofs.YtibhgdglbillaaaDoor.Abs
set_option linter.unusedSimpArgs false
set_option linter.unusedVariables false
open Go.RowKit
open Go.Proofs.YtibhgdglbillaaaDoor.Sim
open Go.ChangeShapes Go.WideShapes Go.Deep
def RelSelf (v : Value) : Prop := ∃ c, v = .agg c ∧ ∀ R, Rel R (.agg c) (.agg c)
def Okarg3 (W : World) (a : AR) : Prop := Okarg W a ∨ RelSelf a.1
theorem top_call3 {P : Program} {f : FuncId} {W : World} (ars : List AR) (h : ∀ a ∈ ars, Okarg3 W a) (hc : ACall P f (mkVs 0 ars).toArray (ars.map mkB) (Ret (.bool true) (ars.map mkB))) :
    Calls P f (ars.map (·.1)).toArray W fun e w' => e = .returned (.bool true) ∧ Below W.heap.size W w' := by
  let R : Pl := fun i => (ars[i]?).bind mkP
  have hm : MRep W.heap.size R (ars.map mkB) W := by
    refine ⟨fun i hi => ?_, fun i b hi => ?_, fun i j b c p q hi hj hb _ _ _ _ => ?_⟩
    · simp only [List.length_map] at hi
      simp [R, List.getElem?_eq_none hi]
    · rw [List.getElem?_map] at hi
      cases ha : ars[i]? with
      | none => rw [ha] at hi; cases hi
      | some a =>
        rw [ha] at hi
        simp only [Option.map_some, Option.some.injEq] at hi
        obtain ⟨v, c⟩ := a
        rcases h _ (List.mem_of_getElem? ha) with (h1 | ⟨bb, o, n, cap, h1, h2, h3, h4, h5⟩) | ⟨l, h1, hl⟩
        · simp only at h1
          cases v with
          | slice x n cap => cases x with
            | none => simp [mkB] at hi
            | some x => simp [g0] at h1
          | _ => simp [mkB] at hi
        · simp only at h1
          subst h1
          simp only [mkB, Option.some.injEq] at hi
          subst hi
          refine ⟨⟨bb, o, cap - n⟩, by simp [R, ha, mkP], h3, ?_⟩
          refine ⟨fun e => by simp at e, fun j x hj => ⟨x, h4 j x hj, g0_rel (h5 x (List.mem_of_getElem? hj))⟩⟩
        · simp only at h1
          subst h1
          simp [mkB] at hi
    · rw [List.getElem?_map] at hi
      cases ha : ars[i]? with
      | none => rw [ha] at hi; cases hi
      | some a =>
        rw [ha] at hi
        simp only [Option.map_some, Option.some.injEq] at hi
        obtain ⟨v, c'⟩ := a
        cases v with
        | slice x n cap => cases x with
          | none => simp [mkB] at hi
          | some x => simp only [mkB, Option.some.injEq] at hi; subst hi; cases hb
        | _ => simp [mkB] at hi
  have hargs : Rels R (mkVs 0 ars).toArray (ars.map (·.1)).toArray := by
    refine ⟨by simp [mkVs_len], fun i hi => ?_⟩
    simp only [List.size_toArray, mkVs_len] at hi
    have ha : ars[i]? = some ars[i] := List.getElem?_eq_getElem hi
    have e1 : (mkVs 0 ars).toArray.getD i undef = mkV i ars[i].1 := by
      simp [mkVs_get, ha]
    have e2 : (ars.map (·.1)).toArray.getD i undef = ars[i].1 := by simp [hi]
    rw [e1, e2]
    generalize ars[i] = a at ha
    obtain ⟨v, c⟩ := a
    rcases h _ (List.mem_of_getElem? ha) with (h1 | ⟨bb, o, n, cap, h1, h2, h3, h4, h5⟩) | ⟨l, h1, hl⟩
    · simp only at h1 ⊢
      cases v with
      | slice x n cap => cases x with
        | none => exact g0_rel h1
        | some x => simp [g0] at h1
      | _ => exact g0_rel h1
    · simp only at h1 ⊢
      subst h1
      have := Rel.slice (R := R) i 0 n n ⟨bb, o, cap - n⟩ (by simp [R, ha, mkP]) (Nat.le_refl _)
      rw [show n + (cap - n) = cap by omega] at this
      simpa [mkV] using this
    · simp only at h1 ⊢
      subst h1
      exact hl R
  refine (hc W.heap.size R W _ (Nat.le_refl _) hm hargs).mono ?_
  rintro e w' ⟨v, v', R', m', rfl, k1, k2, rfl, rfl⟩
  cases k1
  exact ⟨rfl, k2.below hm (Nat.le_refl _)⟩
theorem RelSelf.rect (r : Rc) : RelSelf r.v := ⟨_, rfl, fun R => rel_aggI R [r.x, r.y, r.w, r.h]⟩
theorem RelSelf.kind (k : Kd) : RelSelf k.v := ⟨_, rfl, fun R => .agg _ _ rfl fun i hi => by
  simp at hi
  rcases (show i = 0 ∨ i = 1 ∨ i = 2 ∨ i = 3 ∨ i = 4 by omega) with rfl | rfl | rfl | rfl | rfl
  · exact .int _ _
  · exact .int _ _
  · exact .int _ _
  · exact .int _ _
  · exact .bool _⟩
def sv (l : List ByteArray) : List Value := l.map .string
def kb (y : List Int × Bool) : List Value := iv y.1 ++ [.bool y.2]
theorem g0_kb (y : List Int × Bool) : ∀ v ∈ kb y, g0 v = true := fun v hv => by
  rcases List.mem_append.1 hv with h | h
  · exact g0_iv _ v h
  · simp at h; subst h; rfl
def kindB (P : Program) (f : Field) : Bool := match P.underlying f.type with | some .bool => true | _ => false
def kindI (P : Program) (f : Field) : Bool := match P.underlying f.type with | some (.int .i64) => true | _ => false
def fieldsKB (P : Program) (fs : Array Field) (q : Nat) : Bool := (List.range q).all (fun j => match fs[j]? with | some f => kindI P f | none => false) && match fs[q]? with | some f => kindB P f | none => false
theorem fieldsKB_int {P : Program} {fs : Array Field} {q j : Nat} {f : Field} (h : fieldsKB P fs q = true) (hj : fs[j]? = some f) (hq : j < q) : P.underlying f.type = some (.int .i64) := by
  simp only [fieldsKB, Bool.and_eq_true] at h
  have := List.all_eq_true.1 h.1 j (List.mem_range.2 hq)
  rw [hj] at this
  simp only [kindI] at this
  split at this
  · assumption
  · cases this
theorem fieldsKB_bool {P : Program} {fs : Array Field} {q : Nat} {f : Field} (h : fieldsKB P fs q = true) (hj : fs[q]? = some f) : P.underlying f.type = some .bool := by
  simp only [fieldsKB, Bool.and_eq_true] at h
  have := h.2
  rw [hj] at this
  simp only [kindB] at this
  split at this
  · assumption
  · cases this
section
variable {H : Type} {enc : TypeId × Value → H} {P : Program} {w : World} {base : Nat} {spare : Nat → Bool} {held : Bool}
theorem arg_strs {r : Reach} {b0 : Nat} {T e : TypeId} {a : Option Addr} {n c : Nat} {d : DataW H} {p : List MemPlace} (ht : P.underlying T = some (.slice e)) (he : P.underlying e = some .string) (hce : P.cellsOf e = 1) (hok : Value.okWide P w r b0 T (.slice a n c)) (h : DataW.Trod enc P w base spare held T (.slice a n c) d p) :
    ∃ l : List ByteArray, l.length = n ∧ n ≤ maxLen ∧ Okarg w (.slice a n c, sv l) ∧ ∀ M : AM, ∀ i, M[i]? = some (mkB (.slice a n c, sv l)) → Strs M (mkV i (.slice a n c)) l := by
  obtain ⟨fuel, h⟩ := h
  rcases ok_slice ht hok with ⟨rfl, rfl, rfl⟩ | ⟨b, o, rfl, hle, hlt⟩
  · exact ⟨[], rfl, by unfold maxLen; omega, .inl rfl, fun M i hi => ⟨i, 0, .inl ⟨rfl, rfl⟩, (List.getElem?_eq_some_iff.1 hi).1, fun k hk => by simp at hk⟩⟩
  · rcases open_strs ht he hce h with ⟨hcs, _⟩ | ⟨x, l, cap, m, S, hcs, _, hl, hm, hmm, _, hcell⟩
    · simp [Value.cells] at hcs
    · simp [Value.cells] at hcs
      obtain ⟨rfl, rfl, rfl⟩ := hcs
      have hnm : n ≤ m := by rw [hmm]; split <;> omega
      refine ⟨(List.range n).map S, by simp, by omega, .inr ⟨b, o, n, c, rfl, hle, hlt, fun j x hj => ?_, fun x hx => ?_⟩, fun M i hM => ?_⟩
      · have hjl := (List.getElem?_eq_some_iff.1 hj).1
        simp [sv] at hjl
        have := (hcell j (by omega)).1
        rw [Addr.add_lit] at this
        rw [this]
        simpa [sv, hjl] using hj
      · simp [sv] at hx
        obtain ⟨k, _, rfl⟩ := hx
        rfl
      · simp only [mkB] at hM
        refine ⟨i, 0, by simpa [mkV] using Sl.mk (Nat.le_refl n), (List.getElem?_eq_some_iff.1 hM).1, fun k hk => ⟨_, hM, ?_⟩⟩
        simp at hk
        simp [sv, rowOf, hk]
theorem arg_kb {r : Reach} {b0 : Nat} {T e : TypeId} {fs : Array Field} {a : Option Addr} {n c : Nat} {d : DataW H} {p : List MemPlace} (ht : P.underlying T = some (.slice e)) (he : P.underlying e = some (.struct fs)) (hone : oneCellFields P fs = true) (hC : P.cellsOf e = fs.size)
    {q : Nat} (hq : fs.size = q + 1) (hi : fieldsKB P fs q = true) (hok : Value.okWide P w r b0 T (.slice a n c)) (h : DataW.Trod enc P w base spare held T (.slice a n c) d p) :
    ∃ F : Nat → List Int × Bool, (∀ k, (F k).1.length = q) ∧ n ≤ maxLen ∧ Okarg w (.slice a n c, (List.range n).flatMap fun k => kb (F k)) ∧ (∀ M : AM, ∀ i, M[i]? = some (mkB (.slice a n c, (List.range n).flatMap fun k => kb (F k))) → Sl (mkV i (.slice a n c)) i 0 n ∧ i < M.length ∧ ∀ k, k < n → RdL M i (0 + k * fs.size) (kb (F k))) := by
  obtain ⟨fuel, h⟩ := h
  rcases ok_slice ht hok with ⟨rfl, rfl, rfl⟩ | ⟨b, o, rfl, hle, hlt⟩
  · exact ⟨fun _ => (List.replicate q 0, false), fun _ => by simp, by unfold maxLen; omega, .inl rfl, fun M i hi => ⟨.inl ⟨rfl, rfl⟩, (List.getElem?_eq_some_iff.1 hi).1, fun k hk => by omega⟩⟩
  · rcases open_slice_fields ht he hone hC h with ⟨hcs, _⟩ | ⟨x, l, cap, m, D, Pl, hcs, _, hl, hm, hmm, _, hrow⟩
    · simp [Value.cells] at hcs
    · simp [Value.cells] at hcs
      obtain ⟨rfl, rfl, rfl⟩ := hcs
      have key : ∀ k : Nat, ∃ y : List Int × Bool, y.1.length = q ∧ (k < n → ∀ j v, (kb y)[j]? = some v → w.cell? ⟨b, o + (k * fs.size + j), none⟩ = some v) := fun k => by
        by_cases hk : k < n
        · obtain ⟨ys, nn, _, _, _, hf⟩ := hrow k (by rw [hmm]; split <;> omega)
          have key2 : ∀ j : Nat, ∃ z : Int, j < q → w.cell? ⟨b, o + (k * fs.size + j), none⟩ = some (.int .i64 z) := fun j => by
            by_cases hj : j < q
            · obtain ⟨v, y, h1, _, h3⟩ := hf j fs[j] (Array.getElem?_eq_getElem (by omega))
              obtain ⟨z, hz, _⟩ := DataW.trod_int (fieldsKB_int hi (Array.getElem?_eq_getElem (by omega)) hj) h3
              simp at hz
              subst hz
              rw [Addr.add_lit] at h1
              exact ⟨z, fun _ => h1⟩
            · exact ⟨0, fun h => absurd h hj⟩
          obtain ⟨g, hg⟩ := Classical.axiomOfChoice key2
          obtain ⟨v, y, h1, _, h3⟩ := hf q (fs[q]'(by omega)) (Array.getElem?_eq_getElem (by omega))
          obtain ⟨z, hz, _⟩ := DataW.trod_bool (fieldsKB_bool hi (Array.getElem?_eq_getElem (by omega))) h3
          simp at hz
          subst hz
          rw [Addr.add_lit] at h1
          refine ⟨((List.range q).map g, z), by simp, fun _ j v hj => ?_⟩
          unfold kb at hj
          rcases Nat.lt_trichotomy j q with h | rfl | h
          · rw [List.getElem?_append_left (by simpa [iv] using h), iv_get (by simpa using h)] at hj
            injection hj with hj
            rw [hg j h, ← hj]
            simp [h]
          · rw [List.getElem?_append_right (by simp [iv])] at hj
            simp [iv] at hj
            rw [← hj]; exact h1
          · rw [List.getElem?_eq_none (by simp [iv]; omega)] at hj
            cases hj
        · exact ⟨(List.replicate q 0, false), by simp, fun h => absurd h hk⟩
      obtain ⟨F, hF⟩ := Classical.axiomOfChoice key
      have hlenF : ∀ k, (kb (F k)).length = fs.size := fun k => by unfold kb; rw [List.length_append, iv_len, (hF k).1, hq]; rfl
      have get : ∀ q, ∀ k, k < q → ∀ j v, (kb (F k))[j]? = some v → ((List.range q).flatMap fun k => kb (F k))[k * fs.size + j]? = some v := by
        intro q
        induction q with
        | zero => intro k hk; omega
        | succ q ih =>
          intro k hk j v hj
          have hjl : j < fs.size := by
            have := (List.getElem?_eq_some_iff.1 hj).1
            rwa [hlenF] at this
          have hql : ((List.range q).flatMap fun k => kb (F k)).length = q * fs.size := by
            clear ih hk hj
            induction q with
            | zero => simp
            | succ q ih2 => rw [List.range_succ, List.flatMap_append, List.length_append, ih2]; simp [hlenF, Nat.add_mul]
          rw [List.range_succ, List.flatMap_append]
          rcases Nat.lt_succ_iff_lt_or_eq.1 hk with h' | h'
          · have h2 : k * fs.size + fs.size ≤ q * fs.size := by
              have := Nat.mul_le_mul_right fs.size (show k + 1 ≤ q by omega)
              rw [Nat.add_mul] at this; omega
            rw [List.getElem?_append_left (by rw [hql]; omega)]
            exact ih k h' j v hj
          · subst h'
            rw [List.getElem?_append_right (by rw [hql]; omega), hql, Nat.add_sub_cancel_left]
            simpa using hj
      have tot : ∀ q, ((List.range q).flatMap fun k => kb (F k)).length = q * fs.size := fun q => by
        induction q with
        | zero => simp
        | succ q ih2 => rw [List.range_succ, List.flatMap_append, List.length_append, ih2]; simp [hlenF, Nat.add_mul]
      refine ⟨F, fun k => (hF k).1, by omega, .inr ⟨b, o, n, c, rfl, hle, hlt, fun j x hj => ?_, fun x hx => ?_⟩, fun M i hM => ?_⟩
      · have hjl := (List.getElem?_eq_some_iff.1 hj).1
        simp only at hjl hj
        rw [tot] at hjl
        have hs : 0 < fs.size := by
          rcases Nat.eq_zero_or_pos fs.size with h0 | h0
          · rw [h0] at hjl; omega
          · exact h0
        have hk : j / fs.size < n := (Nat.div_lt_iff_lt_mul hs).2 hjl
        have hr : j % fs.size < fs.size := Nat.mod_lt _ hs
        have e : j = j / fs.size * fs.size + j % fs.size := by rw [Nat.mul_comm]; exact (Nat.div_add_mod j fs.size).symm
        obtain ⟨v, hv⟩ : ∃ v, (kb (F (j / fs.size)))[j % fs.size]? = some v := ⟨_, List.getElem?_eq_getElem (by rw [hlenF]; exact hr)⟩
        have h1 := get n (j / fs.size) hk (j % fs.size) v hv
        rw [← e] at h1
        rw [h1] at hj
        injection hj with hj
        have h2 := (hF (j / fs.size)).2 hk (j % fs.size) v hv
        rw [← e] at h2
        rw [h2, hj]
      · obtain ⟨k, _, hk⟩ := List.mem_flatMap.1 hx
        exact g0_kb _ x hk
      · simp only [mkB] at hM
        refine ⟨Sl.mk (Nat.le_refl _), (List.getElem?_eq_some_iff.1 hM).1, fun k hk => ⟨_, hM, fun j v hj => ?_⟩⟩
        rw [Nat.zero_add]
        exact get n k hk j v hj
def kv (l : List Kd) : List Value := l.flatMap Kd.cells
theorem arg_kinds {r : Reach} {b0 : Nat} {T e : TypeId} {fs : Array Field} {a : Option Addr} {n c : Nat} {d : DataW H} {p : List MemPlace} (ht : P.underlying T = some (.slice e)) (he : P.underlying e = some (.struct fs)) (hone : oneCellFields P fs = true) (hC : P.cellsOf e = fs.size)
    (hq : fs.size = 4 + 1) (hi : fieldsKB P fs 4 = true) (hok : Value.okWide P w r b0 T (.slice a n c)) (h : DataW.Trod enc P w base spare held T (.slice a n c) d p) :
    ∃ l : List Kd, l.length = n ∧ n ≤ maxLen ∧ Okarg w (.slice a n c, kv l) ∧ ∀ M : AM, ∀ i, M[i]? = some (mkB (.slice a n c, kv l)) → Kds M (mkV i (.slice a n c)) l := by
  obtain ⟨F, h1, h2, h3, h4⟩ := arg_kb ht he hone hC hq hi hok h
  have key : ∀ k, ∃ x : Kd, kb (F k) = x.cells := fun k => by
    have hk := h1 k
    generalize F k = y at hk ⊢
    obtain ⟨l, b⟩ := y
    simp only at hk
    match l, hk with
    | [x, y, z, u], _ => exact ⟨⟨x, y, z, u, b⟩, rfl⟩
  obtain ⟨G, hG⟩ := Classical.axiomOfChoice key
  have e : ((List.range n).flatMap fun k => kb (F k)) = kv ((List.range n).map G) := by
    unfold kv
    rw [List.flatMap_map]
    congr 1
    funext k
    exact hG k
  rw [e] at h3 h4
  refine ⟨(List.range n).map G, by simp, h2, h3, fun M i hM => ?_⟩
  obtain ⟨k1, k2, k3⟩ := h4 M i hM
  refine ⟨i, 0, by simpa using k1, k2, fun k hk => ?_⟩
  simp at hk
  have := k3 k hk
  rw [hq, hG k] at this
  have eg : ((List.range n).map G).getD k default = G k := by simp [hk]
  rw [eg]
  exact this
end
end Go.Proofs.YtibhgdglbillaaaDoor.Abs
namespace Go.Proofs.YtibhgdglbillaaaDoor.Abs
set_option linter.unusedSimpArgs false
set_option linter.unusedVariables false
/-- Cut in one direction, down to what the base gives. -/
def WW (base : R4 → Int) (d : Bool) : Nat → R4 → Int
  | 0, _ => 0
  | f + 1, r => max (base r) (cutM (WW base d f) r d)
def W (base : R4 → Int) (d : Bool) (r : R4) : Int := WW base d r.size r
section
variable {base base' leaf : R4 → Int} {w h : Nat} {d : Bool}
/-- With t changes of direction left, below a cut in direction d. -/
def SS (leaf : R4 → Int) : Nat → Bool → R4 → Int
  | 0, d => W leaf d
  | t + 1, d => W (fun r => max (leaf r) (cutM (SS leaf t (!d)) r (!d))) d
end
end Go.Proofs.YtibhgdglbillaaaDoor.Abs
namespace Go.Proofs.YtibhgdglbillaaaDoor.Abs
set_option linter.unusedSimpArgs false
set_option linter.unusedVariables false
open Go.RowKit
open Go.Proofs.YtibhgdglbillaaaDoor.Sim
open Go.Proofs
section
variable (leaf : R4 → Int) (w h : Nat)
/-- The tables with t changes left hold what they should. -/
def SI2 (t : Nat) (D : R4 → Prop) (s : List Int × List Int) : Prop := TabI (SS leaf t true) w h D s.1 ∧ TabI (SS leaf t false) w h D s.2
end
section
variable {leaf : R4 → Int} {w h : Nat} {t : Nat} {pv : List Int × List Int}
theorem SI2.zero : SI2 leaf w h t (fun _ => False) (List.replicate (total w h) 0, List.replicate (total w h) 0) := ⟨TabI.zero, TabI.zero⟩
end
end Go.Proofs.YtibhgdglbillaaaDoor.Abs
namespace Go.Proofs.YtibhgdglbillaaaDoor.Abs
set_option linter.unusedSimpArgs false
set_option linter.unusedVariables false
open Go.RowKit
open Go.Proofs.YtibhgdglbillaaaDoor.Sim
open Go.Proofs
/-- Two blocks of numbers. -/
def M2 (M : AM) (q0 q1 : Nat) (s : List Int × List Int) : AM := MI (MI M q0 s.1) q1 s.2
section
variable {M M0 L T : AM} {q0 q1 : Nat} {s : List Int × List Int}
theorem M2.len : (M2 M q0 q1 s).length = M.length := by unfold M2; rw [MI.len, MI.len]
theorem M2.at0 (h : q0 ≠ q1) (h0 : q0 < M.length) : (M2 M q0 q1 s)[q0]? = some (some { cells := iv s.1 }) := by unfold M2; rw [MI.ne h]; exact MI.at h0
theorem M2.at1 (h1 : q1 < M.length) : (M2 M q0 q1 s)[q1]? = some (some { cells := iv s.2 }) := by unfold M2; exact MI.at (by rw [MI.len]; exact h1)
theorem M2.flat (h : q0 ≠ q1) (h0 : q0 < M.length) (h1 : q1 < M.length) (s s' : List Int × List Int) (n j : Nat) (b : Blk) (hj : (M2 M q0 q1 s')[j]? = some (some b)) : (j < M.length ∧ (M2 M q0 q1 s)[j]? = some (some b)) ∨ (isMapK b.kind = false ∧ ∀ x ∈ b.cells, Ren rid n x x) := by
  by_cases e1 : j = q1
  · subst e1
    rw [M2.at1 h1] at hj
    simp only [Option.some.injEq] at hj
    subst hj
    exact .inr ⟨rfl, fun x hx => Ren.of_g0 (g0_iv _ x hx)⟩
  by_cases e0 : j = q0
  · subst e0
    rw [M2.at0 h h0] at hj
    simp only [Option.some.injEq] at hj
    subst hj
    exact .inr ⟨rfl, fun x hx => Ren.of_g0 (g0_iv _ x hx)⟩
  unfold M2 at hj ⊢
  rw [MI.ne e1, MI.ne e0] at hj
  exact .inl ⟨(List.getElem?_eq_some_iff.1 hj).1, by rw [MI.ne e1, MI.ne e0]; exact hj⟩
theorem M2.same (h : q0 ≠ q1) (h0 : M[q0]? = some (some { cells := iv s.1 })) (h1 : M[q1]? = some (some { cells := iv s.2 })) : M2 M q0 q1 s = M := by
  unfold M2 MI
  have e0 := List.getElem?_eq_some_iff.1 h0
  have e1 := List.getElem?_eq_some_iff.1 h1
  rw [← e0.2, List.set_getElem_self, ← e1.2, List.set_getElem_self]
theorem M2.rd {a o : Nat} {x : Value} (h0 : a ≠ q0) (h1 : a ≠ q1) (hr : Rd M a o x) : Rd (M2 M q0 q1 s) a o x := by
  unfold M2
  exact MI.rd h1 (MI.rd h0 hr)
end
end Go.Proofs.YtibhgdglbillaaaDoor.Abs
namespace Go.Proofs.YtibhgdglbillaaaDoor.Abs
set_option linter.unusedSimpArgs false
set_option linter.unusedVariables false
open Go.RowKit
open Go.Proofs.YtibhgdglbillaaaDoor.Sim
open Go.Proofs
theorem M2.ne {M : AM} {q0 q1 a : Nat} {s : List Int × List Int} (h0 : a ≠ q0) (h1 : a ≠ q1) : (M2 M q0 q1 s)[a]? = M[a]? := by unfold M2; rw [MI.ne h1, MI.ne h0]
end Go.Proofs.YtibhgdglbillaaaDoor.Abs
namespace Go.Proofs.YtibhgdglbillaaaDoor.Abs
set_option linter.unusedSimpArgs false
set_option linter.unusedVariables false
open Go.RowKit
open Go.Proofs.YtibhgdglbillaaaDoor.Sim
open Go.Proofs
section
variable {P : Program} {nt d : Nat} {ops : Array Oper} {T : TypeId} {p : String} {af : Array Edge} {t : Fm} {m : AM} {K : Fm → AM → Prop}
end
theorem kds_at {m L : AM} {k : Nat} {l : List Kd} (h : L[k]? = some (gb (kvc l) 5)) : Kds (m ++ L) (gv (m.length + k) l.length) l := by
  have hlt : m.length + k < (m ++ L).length := by
    rw [List.length_append]
    have := (List.getElem?_eq_some_iff.1 h).1
    omega
  refine ⟨m.length + k, 0, gv_sl _ _, hlt, fun i hi => ?_⟩
  have hp : 0 < (kvc l).length := by rw [kvc_len]; omega
  rw [gb_pos hp] at h
  refine ⟨_, by rw [get_app]; exact h, fun j v hj => ?_⟩
  rw [Nat.zero_add]
  exact kvc_get l i hi j v hj
end Go.Proofs.YtibhgdglbillaaaDoor.Abs
namespace Go.Proofs.YtibhgdglbillaaaDoor.Abs
set_option linter.unusedSimpArgs false
set_option linter.unusedVariables false
open Go.RowKit
open Go.Proofs.YtibhgdglbillaaaDoor.Sim
open Go.Proofs
/-- Plain law: what Check accepts bounds every plan. -/
theorem bounds_law {B : Brd} {K : List Kd} {t : List Int} {ps : List Nd} {n : Int} (h : checkM B K t = (n, true, 0)) (h2 : (rdgM B K ps).2 = 0) : worthL K (rdgM B K ps).1 ≤ n := by
  unfold checkM at h
  split at h
  · rename_i hg
    have hgb : boardB B = true := by simp only [goodB, Bool.and_eq_true] at hg; exact hg.1
    have hin := good_in hgb
    have hok : (wholeR B).ok (bw B) (bh B) := by
      simp only [R4.ok, wholeR]
      omega
    split at h
    · split at h
      · rename_i hb
        injection h with h _
        have h3 := bound_V hb _ hok
        unfold rdgM at h2 ⊢
        rw [if_pos hg] at h2 ⊢
        split at h2
        · rename_i l e
          simp only [e]
          have := rdM_worth hg 32 hok e
          omega
        · cases h2
      · simp at h
    · simp at h
  · simp at h
set_option maxHeartbeats 8000000 in
set_option maxRecDepth 100000 in
theorem CutBounds_ok {m : AM} {sv kv tv pv : Value} {B : Brd} {K : List Kd} {t : List Int} {ps : List Nd} (hs : Strs m sv B) (hk : Kds m kv K) (hkl : K.length ≤ 9223372036854775807) (ht : Ints m tv t) (h64 : I64s t) (hp : Nds m pv ps) (hpl : ps.length ≤ 9223372036854775807) :
    ACall Tryd.prog 11 #[sv, kv, tv, pv] m (Ret (.bool true) m) := by
  have h1 := fun T => Check_ok (m := m ++ (gb (kvc (K.take 14)) 5 :: T)) (hs.old _) (kds_gv m (K.take 14) T) (ht.old _) h64
  have h3 := fun T => of_ok (hk.old T) hkl
  have hM : 0 < m.length := by obtain ⟨A1, O1, sl1, la1, rd1⟩ := hs; omega
  obtain ⟨A4, O4, sl4, la4, _⟩ := id hp
  obtain ⟨q4, c4, rfl⟩ := sl4.shape
  refine ACall.drop (.bool _) ?_
  refine ACall.start Tryd.func11 rfl rfl ?_
  by_cases hbig : 2000 < ps.length
  · (repeat (first | (with_reducible refine AWo.cons ?_) | ((with_reducible refine Step.id ?_); first | ((with_reducible apply Step.move); exact rfl; exact rfl) | ((with_reducible apply Step.assign); exact rfl; exact rfl) | ((with_reducible apply Step.gtr); exact rfl; exact rfl; exact rfl) | ((with_reducible apply Step.len); exact rfl; (focus (assumption)); (focus (decide +kernel)); exact rfl) | ((with_reducible apply Step.callR fit); exact rfl; exact Tryd.func21; exact rfl; exact rfl; exact (awake_ok))) | (with_reducible refine AWo.nil ?_) | ((with_reducible apply AW.seq)) | ((with_reducible apply Then.n)) | ((with_reducible apply AW.regL)) | ((with_reducible apply AW.condT); exact rfl; (focus ((simp only [decide_eq_true_eq, decide_eq_false_iff_not, Bool.not_eq_true', Bool.not_eq_false', Bool.not_true, Bool.not_false]; first | assumption | omega))))))
    (refine AW.ret ?_; (repeat (first | refine Then.r ?_ | refine InBlk.r ?_)))
    exact ⟨_, rfl, rfl, [], rfl⟩
  have h4 := fun T => nodes_ok (hp.old T) (by omega)
  have hlaw := fun n => bounds_law (B := B) (K := K.take 14) (t := t) (ps := ps) (n := n)
  have hR := fun T => Read_ok (m := m ++ (gb (kvc (K.take 14)) 5 :: gb (kvc (K.take 14)) 5 :: gb (ndc ps) 3 :: T)) (ps := ps) (hs.old _) (kds_at (k := 1) (l := K.take 14) rfl) (PN.of_nds (nds_gv (k := 2) (l := ps) rfl)) (by omega)
  generalize checkM B (K.take 14) t = r at *
  obtain ⟨n, y, z⟩ := r
  simp only [chV] at h1
  have hall := rdgM_all (B := B) (K := K.take 14) (ps := ps)
  generalize worthL (K.take 14) (rdgM B (K.take 14) ps).1 = ws at *
  generalize (rdgM B (K.take 14) ps).2 = e at *
  (repeat (first | (with_reducible refine AWo.cons ?_) | ((with_reducible refine Step.id ?_); first | ((with_reducible apply Step.move); exact rfl; exact rfl) | ((with_reducible apply Step.assign); exact rfl; exact rfl) | ((with_reducible apply Step.gtr); exact rfl; exact rfl; exact rfl) | ((with_reducible apply Step.len); exact rfl; (focus (assumption)); (focus (decide +kernel)); exact rfl) | ((with_reducible apply Step.extract); exact rfl; exact rfl; exact rfl) | ((with_reducible apply Step.callG fit (k := 0)); exact rfl; exact rfl; exact Tryd.func23; exact rfl; exact rfl; exact (h3 _); (focus (first | (simp only [List.nil_append, List.cons_append, List.set_cons_zero, List.set_cons_succ, iv_set, bv_set, iv_rep, bv_rep]; done) | (simp only [List.nil_append, List.cons_append, List.set_cons_zero, List.set_cons_succ, iv_set, bv_set, iv_rep, bv_rep]; rfl) | rfl))) | ((with_reducible apply Step.callG fit (k := 1)); exact rfl; exact rfl; exact Tryd.func23; exact rfl; exact rfl; exact (h3 _); (focus (first | (simp only [List.nil_append, List.cons_append, List.set_cons_zero, List.set_cons_succ, iv_set, bv_set, iv_rep, bv_rep]; done) | (simp only [List.nil_append, List.cons_append, List.set_cons_zero, List.set_cons_succ, iv_set, bv_set, iv_rep, bv_rep]; rfl) | rfl))) | ((with_reducible apply Step.callR fit); exact rfl; exact Tryd.func30; exact rfl; exact rfl; exact (h1 _)) | ((with_reducible apply Step.callG fit (k := 2)); exact rfl; exact rfl; exact Tryd.func42; exact rfl; exact rfl; exact (h4 _); (focus (first | (simp only [List.nil_append, List.cons_append, List.set_cons_zero, List.set_cons_succ, iv_set, bv_set, iv_rep, bv_rep]; done) | (simp only [List.nil_append, List.cons_append, List.set_cons_zero, List.set_cons_succ, iv_set, bv_set, iv_rep, bv_rep]; rfl) | rfl)))) | (with_reducible refine AWo.nil ?_) | ((with_reducible apply AW.seq)) | ((with_reducible apply Then.n)) | ((with_reducible apply AW.regL)) | ((with_reducible apply AW.skip)) | ((with_reducible apply AW.condF); exact rfl; (focus ((simp only [decide_eq_true_eq, decide_eq_false_iff_not, Bool.not_eq_true', Bool.not_eq_false', Bool.not_true, Bool.not_false]; first | assumption | omega))))))
  ((with_reducible apply Step.callX fit); exact rfl; exact Tryd.func41; exact rfl; exact rfl; exact (hR _))
  rintro _ M1 ⟨N1, hN1⟩ ⟨u, rfl, _⟩
  have haw : ∀ M, ACall Tryd.prog 21 #[] M (Ret (.bool true) M) := fun M => awake_ok
  have hm1 : ∃ N, M1 = m ++ N := ⟨_, by rw [hN1, List.append_assoc]⟩
  clear hN1 hR h1 h3 h4
  by_cases c1 : z = 0
  · subst c1
    cases y with
    | false =>
      (repeat (first | (with_reducible refine AWo.cons ?_) | ((with_reducible refine Step.id ?_); first | ((with_reducible apply Step.gdT); exact rfl; exact rfl; (focus (rfl))) | ((with_reducible apply Step.gdF); exact rfl; exact rfl; (focus (rfl))) | ((with_reducible apply Step.move); exact rfl; exact rfl) | ((with_reducible apply Step.assign); exact rfl; exact rfl) | ((with_reducible apply Step.neq); exact rfl; exact rfl; exact rfl) | ((with_reducible apply Step.not); exact rfl; exact rfl) | ((with_reducible apply Step.extract); exact rfl; exact rfl; exact rfl) | ((with_reducible apply Step.pickT); exact rfl; exact rfl; exact rfl; exact rfl; (focus (rfl))) | ((with_reducible apply Step.pickF); exact rfl; exact rfl; exact rfl; exact rfl; (focus (rfl))) | ((with_reducible apply Step.callR fit); exact rfl; exact Tryd.func21; exact rfl; exact rfl; exact (haw _))) | (with_reducible refine AWo.nil ?_) | ((with_reducible apply AW.seq)) | ((with_reducible apply Then.n)) | ((with_reducible apply AW.regL)) | ((with_reducible apply AW.condT); exact rfl; (focus (rfl)))))
      (refine AW.ret ?_; (repeat (first | refine Then.r ?_ | refine InBlk.r ?_)))
      obtain ⟨N, hN⟩ := hm1
      exact ⟨_, rfl, rfl, N, by rw [List.append_nil]; exact hN⟩
    | true =>
      by_cases c2 : e = 0
      · have hle := hlaw n rfl c2
        subst c2
        (repeat (first | (with_reducible refine AWo.cons ?_) | ((with_reducible refine Step.id ?_); first | ((with_reducible apply Step.gdT); exact rfl; exact rfl; (focus (first | rfl | (simp only [decide_eq_true_eq, decide_eq_false_iff_not, Bool.not_eq_true', Bool.not_eq_false', Bool.not_true, Bool.not_false]; first | assumption | omega)))) | ((with_reducible apply Step.move); exact rfl; exact rfl) | ((with_reducible apply Step.assign); exact rfl; exact rfl) | ((with_reducible apply Step.leq); exact rfl; exact rfl; exact rfl) | ((with_reducible apply Step.neq); exact rfl; exact rfl; exact rfl) | ((with_reducible apply Step.not); exact rfl; exact rfl) | ((with_reducible apply Step.extract); exact rfl; exact rfl; exact rfl) | ((with_reducible apply Step.pickT); exact rfl; exact rfl; exact rfl; exact rfl; (focus ((simp only [decide_eq_true_eq, decide_eq_false_iff_not, Bool.not_eq_true', Bool.not_eq_false', Bool.not_true, Bool.not_false]; first | assumption | omega)))) | ((with_reducible apply Step.pickF); exact rfl; exact rfl; exact rfl; exact rfl; (focus (rfl))) | ((with_reducible apply Step.callR fit); exact rfl; exact Tryd.func21; exact rfl; exact rfl; exact (haw _))) | (with_reducible refine AWo.nil ?_) | ((with_reducible apply AW.seq)) | ((with_reducible apply Then.n)) | ((with_reducible apply AW.regL)) | ((with_reducible apply AW.skip)) | ((with_reducible apply AW.condF); exact rfl; (focus (rfl)))))
        (refine AW.ret ?_; (repeat (first | refine Then.r ?_ | refine InBlk.r ?_)))
        obtain ⟨N, hN⟩ := hm1
        exact ⟨_, rfl, rfl, N, by rw [List.append_nil]; exact hN⟩
      · (repeat (first | (with_reducible refine AWo.cons ?_) | ((with_reducible refine Step.id ?_); first | ((with_reducible apply Step.gdT); exact rfl; exact rfl; (focus (rfl))) | ((with_reducible apply Step.move); exact rfl; exact rfl) | ((with_reducible apply Step.assign); exact rfl; exact rfl) | ((with_reducible apply Step.neq); exact rfl; exact rfl; exact rfl) | ((with_reducible apply Step.not); exact rfl; exact rfl) | ((with_reducible apply Step.extract); exact rfl; exact rfl; exact rfl) | ((with_reducible apply Step.pickF); exact rfl; exact rfl; exact rfl; exact rfl; (focus (rfl))) | ((with_reducible apply Step.callR fit); exact rfl; exact Tryd.func21; exact rfl; exact rfl; exact (haw _))) | (with_reducible refine AWo.nil ?_) | ((with_reducible apply AW.seq)) | ((with_reducible apply Then.n)) | ((with_reducible apply AW.regL)) | ((with_reducible apply AW.condT); exact rfl; (focus ((simp only [decide_eq_true_eq, decide_eq_false_iff_not, Bool.not_eq_true', Bool.not_eq_false', Bool.not_true, Bool.not_false]; first | assumption | omega))))))
        (refine AW.ret ?_; (repeat (first | refine Then.r ?_ | refine InBlk.r ?_)))
        obtain ⟨N, hN⟩ := hm1
        exact ⟨_, rfl, rfl, N, by rw [List.append_nil]; exact hN⟩
  · (repeat (first | (with_reducible refine AWo.cons ?_) | ((with_reducible refine Step.id ?_); first | ((with_reducible apply Step.gdF); exact rfl; exact rfl; (focus (first | rfl | (simp only [decide_eq_true_eq, decide_eq_false_iff_not, Bool.not_eq_true', Bool.not_eq_false', Bool.not_true, Bool.not_false]; first | assumption | omega)))) | ((with_reducible apply Step.move); exact rfl; exact rfl) | ((with_reducible apply Step.assign); exact rfl; exact rfl) | ((with_reducible apply Step.neq); exact rfl; exact rfl; exact rfl) | ((with_reducible apply Step.extract); exact rfl; exact rfl; exact rfl) | ((with_reducible apply Step.pickT); exact rfl; exact rfl; exact rfl; exact rfl; (focus (first | rfl | (simp only [decide_eq_true_eq, decide_eq_false_iff_not, Bool.not_eq_true', Bool.not_eq_false', Bool.not_true, Bool.not_false]; first | assumption | omega)))) | ((with_reducible apply Step.callR fit); exact rfl; exact Tryd.func21; exact rfl; exact rfl; exact (haw _))) | (with_reducible refine AWo.nil ?_) | ((with_reducible apply AW.seq)) | ((with_reducible apply Then.n)) | ((with_reducible apply AW.regL)) | ((with_reducible apply AW.condT); exact rfl; (focus (rfl)))))
    (refine AW.ret ?_; (repeat (first | refine Then.r ?_ | refine InBlk.r ?_)))
    obtain ⟨N, hN⟩ := hm1
    exact ⟨_, rfl, rfl, N, by rw [List.append_nil]; exact hN⟩
end Go.Proofs.YtibhgdglbillaaaDoor.Abs
namespace Go.Proofs.YtibhgdglbillaaaDoor.Abs
set_option linter.unusedSimpArgs false
set_option linter.unusedVariables false
open Go.RowKit
open Go.Proofs.YtibhgdglbillaaaDoor.Sim
open Go.ChangeShapes Go.WideShapes Go.Deep
section
variable {H : Type} {enc : TypeId × Value → H} {P : Program} {w : World} {base : Nat} {spare : Nat → Bool} {held : Bool}
theorem arg_nodes {r : Reach} {b0 : Nat} {T e : TypeId} {fs : Array Field} {a : Option Addr} {n c : Nat} {d : DataW H} {p : List MemPlace} (ht : P.underlying T = some (.slice e)) (he : P.underlying e = some (.struct fs)) (hone : oneCellFields P fs = true) (hC : P.cellsOf e = fs.size)
    (hq : fs.size = 2 + 1) (hi : fieldsKB P fs 2 = true) (hok : Value.okWide P w r b0 T (.slice a n c)) (h : DataW.Trod enc P w base spare held T (.slice a n c) d p) :
    ∃ l : List Nd, l.length = n ∧ n ≤ maxLen ∧ Okarg w (.slice a n c, ndc l) ∧ ∀ M : AM, ∀ i, M[i]? = some (mkB (.slice a n c, ndc l)) → Nds M (mkV i (.slice a n c)) l := by
  obtain ⟨F, h1, h2, h3, h4⟩ := arg_kb ht he hone hC hq hi hok h
  have key : ∀ k, ∃ x : Nd, kb (F k) = ndc1 x := fun k => by
    have hk := h1 k
    generalize F k = y at hk ⊢
    obtain ⟨l, b⟩ := y
    simp only at hk
    match l, hk with
    | [x, y], _ => exact ⟨(x, y, b), rfl⟩
  obtain ⟨G, hG⟩ := Classical.axiomOfChoice key
  have e : ((List.range n).flatMap fun k => kb (F k)) = ndc ((List.range n).map G) := by
    unfold ndc
    rw [List.flatMap_map]
    congr 1
    funext k
    exact hG k
  rw [e] at h3 h4
  refine ⟨(List.range n).map G, by simp, h2, h3, fun M i hM => ?_⟩
  obtain ⟨k1, k2, k3⟩ := h4 M i hM
  refine ⟨i, 0, by simpa using k1, k2, fun k hk => ?_⟩
  simp at hk
  have := k3 k hk
  rw [hq, hG k] at this
  have eg : ((List.range n).map G).getD k (0, 0, false) = G k := by simp [hk]
  rw [eg]
  exact this
end
end Go.Proofs.YtibhgdglbillaaaDoor.Abs
namespace Go.Proofs.YtibhgdglbillaaaDoor.Abs
set_option linter.unusedSimpArgs false
set_option linter.unusedVariables false
open Go.RowKit
open Go.Proofs.YtibhgdglbillaaaDoor.Sim
open Go.ChangeShapes Go.WideShapes Go.Deep
section
variable {H : Type} {enc : TypeId × Value → H} {P : Program} {w : World} {base : Nat} {spare : Nat → Bool} {held : Bool}
theorem arg_ints64 {r : Reach} {b0 : Nat} {T e : TypeId} {a : Option Addr} {n c : Nat} {d : DataW H} {p : List MemPlace} (ht : P.underlying T = some (.slice e)) (he : P.underlying e = some (.int .i64)) (hce : P.cellsOf e = 1) (hok : Value.okWide P w r b0 T (.slice a n c)) (h : DataW.Trod enc P w base spare held T (.slice a n c) d p) :
    ∃ l : List Int, l.length = n ∧ n ≤ maxLen ∧ Okarg w (.slice a n c, iv l) ∧ (∀ M : AM, ∀ i, M[i]? = some (mkB (.slice a n c, iv l)) → Ints M (mkV i (.slice a n c)) l) ∧ I64s l := by
  obtain ⟨fuel, h⟩ := h
  rcases ok_slice ht hok with ⟨rfl, rfl, rfl⟩ | ⟨b, o, rfl, hle, hlt⟩
  · exact ⟨[], rfl, by unfold maxLen; omega, .inl rfl, fun M i hi => ⟨i, 0, .inl ⟨rfl, rfl⟩, (List.getElem?_eq_some_iff.1 hi).1, fun k hk => by simp at hk⟩, fun i => by simp⟩
  · rcases open_ints ht he hce h with ⟨hcs, _⟩ | ⟨x, l, c', zs, hcs, _, hl, hm, hz, _, hcell, hwf⟩
    · simp [Value.cells] at hcs
    · simp [Value.cells] at hcs
      obtain ⟨rfl, rfl, rfl⟩ := hcs
      have hzl : n ≤ zs.length := by rw [hz]; split <;> omega
      have hlen : (zs.take n).length = n := by simp; omega
      refine ⟨zs.take n, hlen, by omega, .inr ⟨b, o, n, c, rfl, hle, hlt, fun j x hj => ?_, g0_iv _⟩, fun M i hi => ?_, fun i => ?_⟩
      · simp only [iv, List.getElem?_map] at hj
        by_cases hjn : j < n
        · rw [List.getElem?_take, if_pos hjn, List.getElem?_eq_getElem (by omega)] at hj
          simp only [Option.map_some, Option.some.injEq] at hj
          have := hcell j (by omega)
          rw [Addr.add_lit] at this
          rw [this, ← hj]
          simp [show j < zs.length by omega]
        · rw [List.getElem?_take, if_neg hjn] at hj
          cases hj
      · simp only [mkB] at hi
        exact ints_at hi rfl n hlen.symm
      · by_cases hi : i < (zs.take n).length
        · rw [getD_in _ _ hi]
          have := hwf _ (List.mem_of_mem_take (List.getElem_mem hi))
          simp only [Lit.wf, Bool.and_eq_true, decide_eq_true_eq, IntKind.min, IntKind.max, IntKind.signed, IntKind.bits] at this
          simpa using this
        · rw [List.getD_eq_getElem?_getD, List.getElem?_eq_none (by omega)]
          simp
end
end Go.Proofs.YtibhgdglbillaaaDoor.Abs
