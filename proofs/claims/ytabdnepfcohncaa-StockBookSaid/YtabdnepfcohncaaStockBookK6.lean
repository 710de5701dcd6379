/- Proved here: what the proof of StockBook rests on, part 6 of 6. Conditions: those that each theorem names. -/
import Derived.Test.YtabdnepfcohncaaStockBookK5
namespace Go.Proofs.Ytabdnepfcohncaa.Abs
set_option linter.unusedSimpArgs false
set_option linter.unusedVariables false
open Go.RowKit
open Go.Proofs.Ytabdnepfcohncaa.Sim
open Go.Proofs
theorem Desk.start (m : AM) {M : AM} (hM : M = m ++ [some { cells := bkc Bk.new.H Bk.new.C (.slice none 0 0) }, some { cells := [.slice none 0 0] }]) : Desk m (fun j => if j = m.length then 0 else if j = m.length + 1 then 2 else 1) M m.length (m.length + 1) Bk.new (.slice none 0 0) [] 0 := by
  have h0 : M[m.length]? = some (some { cells := bkc Bk.new.H Bk.new.C (.slice none 0 0) }) := by rw [hM, List.getElem?_append_right (Nat.le_refl _), Nat.sub_self]; rfl
  have h1 : M[m.length + 1]? = some (some { cells := [.slice none 0 0] }) := by rw [hM, List.getElem?_append_right (by omega), Nat.add_sub_cancel_left]; rfl
  refine ⟨⟨by rw [hM, List.length_append]; omega, fun j hj => ⟨by rw [hM, List.getElem?_append_left hj], by rw [if_neg (by omega), if_neg (by omega)]⟩, ?_, bobj_mono⟩, Good.new, Nat.le_refl _, Nat.le_refl _, fun x hx => absurd hx List.not_mem_nil⟩
  rintro (_ | _ | _ | k)
  · exact ⟨.slice none 0 0, by omega, vw_some.2 ⟨if_pos rfl, h0⟩, Good.new.lH, Good.new.lC, ⟨[], Row.nil, fun k hk => absurd hk (Nat.not_lt_zero _)⟩⟩
  · exact Row.nil
  · exact ⟨.slice none 0 0, by omega, vw_some.2 ⟨by rw [if_neg (by omega), if_pos rfl], h1⟩, ⟨[], Row.nil, fun k hk => absurd hk (Nat.not_lt_zero _)⟩⟩
  · intro c hc; simp [obs] at hc
set_option maxHeartbeats 32000000 in
set_option maxRecDepth 100000 in
theorem StockBook_ok {m : AM} (hw : ∀ M : AM, ACall Try.prog 16 #[] M (Ret (.bool true) M)) {v : Value} {ds : List Deed} (h : Deeds m v ds) (hn : ds.length ≤ 9223372036854775807) (hl : ∀ k, (ds.getD k default).l.length ≤ 9223372036854775807) : ACall Try.prog 11 #[v] m (Ret (.bool true) m) := by
  refine ACall.drop (.bool _) ?_
  obtain ⟨a, o, h1, h2, h3⟩ := h
  refine ACall.start Try.func11 rfl rfl ?_
  (repeat (first | (with_reducible refine AWo.cons ?_) | ((with_reducible refine Step.id ?_); first | ((with_reducible apply Step.move); exact rfl; exact rfl) | ((with_reducible apply Step.assign); exact rfl; exact rfl) | ((with_reducible apply Step.ptrNot); exact rfl; exact rfl; exact un49; exact rfl) | ((with_reducible apply Step.len); exact rfl; (focus (assumption)); (focus (decide +kernel)); exact rfl) | ((with_reducible apply Step.callL fit (k := 0)); exact rfl; exact rfl; exact Try.func27; exact rfl; exact rfl; exact (NewBook_ok); (focus (first | (simp only [List.nil_append, List.cons_append, List.set_cons_zero, List.set_cons_succ, iv_set, bv_set, iv_rep, bv_rep]; done) | (simp only [List.nil_append, List.cons_append, List.set_cons_zero, List.set_cons_succ, iv_set, bv_set, iv_rep, bv_rep]; rfl) | rfl))) | ((with_reducible apply Step.box 1); exact rfl; exact rfl; (focus (kernel_rfl)); exact rfl; (focus (first | (simp only [List.nil_append, List.cons_append, List.set_cons_zero, List.set_cons_succ, iv_set, bv_set, iv_rep, bv_rep]; done) | (simp only [List.nil_append, List.cons_append, List.set_cons_zero, List.set_cons_succ, iv_set, bv_set, iv_rep, bv_rep]; rfl) | rfl))) | ((with_reducible apply Step.build); exact rfl; exact bl88; exact rfl)) | (with_reducible refine AWo.nil ?_) | ((with_reducible apply AW.seq)) | ((with_reducible apply Then.n)) | ((with_reducible apply AW.regL)) | ((with_reducible apply AW.block)) | ((with_reducible apply AW.skip)) | ((with_reducible apply AW.condF); exact rfl; (focus (rfl)))))
  refine AW.midX 0 (fun t' M => ∃ (ow : Nat → Nat) (bk xb : Nat) (B : Bk) (av : Value) (ks : List Pr), Desk m ow M bk xb B av ks 61 ∧ All (fun i v => t' i = some v) [(3, .pointer (some ⟨bk, 0, none⟩)), (4, .pointer (some ⟨xb, 0, none⟩))]) ?_ ?_
  · refine AW.loopW (fun q t M => ∃ (k : Nat) (ow : Nat → Nat) (bk xb : Nat) (B : Bk) (av : Value) (ks : List Pr), q = ds.length - k ∧ k ≤ ds.length ∧ k ≤ 61 ∧ Desk m ow M bk xb B av ks k ∧
      t = fr [(3, .pointer (some ⟨bk, 0, none⟩)), (4, .pointer (some ⟨xb, 0, none⟩)), (5, av), (14, v), (15, .int .i64 (ds.length : Nat)), (16, .int .i64 (k : Nat))])
      ⟨_, _, (by repeat (first | exact trivial | (refine And.intro rfl ?_))), 0, _, m.length + 0, m.length + 1, Bk.new, .slice none 0 0, [], rfl, Nat.zero_le _, Nat.zero_le _, Desk.start m rfl, rfl⟩ ?_
    rintro q t M ⟨k, ow, bk, xb, B, av, ks, rfl, hk, hk61, hD, rfl⟩
    rcases Nat.lt_or_ge k ds.length with hlt | hge
    · obtain ⟨w, g1, g2⟩ := h3 k hlt
      have hM0 := hD.side.sub
      have g1' := fun T => (g1.sub hM0).old T
      have hle := hl k
      generalize ds.getD k default = x at *
      have hw1 : (Value.agg (x.cells w).toArray).cells.all (·.oneCell') = true := by obtain ⟨aa, oo, hs, _⟩ := g2; exact Deed.one hs
      refine AW.rebase ?_
      by_cases h40 : 60 < k
      · (repeat (first | (with_reducible refine AWo.cons ?_) | ((with_reducible refine Step.id ?_); first | ((with_reducible apply Step.move); exact rfl; exact rfl) | ((with_reducible apply Step.assign); exact rfl; exact rfl) | ((with_reducible apply Step.loadL (n := 5)); exact rfl; (focus (decide +kernel)); (focus (decide +kernel)); exact rfl; (focus (exact g1' _)); exact rfl; exact rfl) | ((with_reducible apply Step.ix (s := 5)); exact rfl; (focus (assumption)); exact rfl; (focus (decide +kernel)); exact rfl; (focus (omega))) | ((with_reducible apply Step.lss); exact rfl; exact rfl; exact rfl) | ((with_reducible apply Step.gtr); exact rfl; exact rfl; exact rfl) | ((with_reducible apply Step.alloc 0); exact rfl; exact ze52; exact rfl; (focus (first | (simp only [List.nil_append, List.cons_append, List.set_cons_zero, List.set_cons_succ, iv_set, bv_set, iv_rep, bv_rep]; done) | (simp only [List.nil_append, List.cons_append, List.set_cons_zero, List.set_cons_succ, iv_set, bv_set, iv_rep, bv_rep]; rfl) | rfl))) | ((with_reducible apply Step.storeA (k := 0) (n := 5)); exact rfl; exact rfl; exact rfl; exact rfl; (focus (decide +kernel)); exact rfl; (focus (first | assumption | exact hw1)); exact rfl; (focus (first | (simp only [List.nil_append, List.cons_append, List.set_cons_zero, List.set_cons_succ, iv_set, bv_set, iv_rep, bv_rep]; done) | (simp only [List.nil_append, List.cons_append, List.set_cons_zero, List.set_cons_succ, iv_set, bv_set, iv_rep, bv_rep]; rfl) | rfl)))) | (with_reducible refine AWo.nil ?_) | ((with_reducible apply AW.seq)) | ((with_reducible apply Then.n)) | ((with_reducible apply AW.regL)) | ((with_reducible apply AW.block)) | ((with_reducible apply AW.exit)) | ((with_reducible apply InBlk.miss); exact rfl) | ((with_reducible apply Then.e)) | ((with_reducible apply AW.skip)) | ((with_reducible apply AW.condT); exact rfl; (focus ((simp only [decide_eq_true_eq, decide_eq_false_iff_not, Bool.not_eq_true', Bool.not_eq_false', Bool.not_true, Bool.not_false]; first | assumption | omega))))))
        obtain rfl : k = 61 := by omega
        exact ⟨rfl, _, bk, xb, B, av, ks, hD.app _, (by repeat (first | exact trivial | (refine And.intro rfl ?_)))⟩
      · obtain ⟨X, hX⟩ : ∃ X : AM, X = M ++ [some { cells := x.cells w }] := ⟨_, rfl⟩
        have hXl : X.length = M.length + 1 := by rw [hX, List.length_append]; rfl
        have hDX : Desk m (asg ow M.length 1) X bk xb B av ks k := by rw [hX]; exact hD.app _
        have rqL : ∀ T, RdL (X ++ T) (M.length + 0) 0 (x.cells w) := fun T => RdL.old T ⟨{ cells := x.cells w }, by rw [hX, get_app]; rfl, fun p v hv => by rw [Nat.zero_add]; exact hv⟩
        (repeat (first | (with_reducible refine AWo.cons ?_) | ((with_reducible refine Step.id ?_); first | ((with_reducible apply Step.move); exact rfl; exact rfl) | ((with_reducible apply Step.assign); exact rfl; exact rfl) | ((with_reducible apply Step.loadL (n := 5)); exact rfl; (focus (decide +kernel)); (focus (decide +kernel)); exact rfl; (focus (first | exact RdL.new rfl rfl | exact g1' _)); exact rfl; exact rfl) | ((with_reducible apply Step.ix (s := 5)); exact rfl; (focus (assumption)); exact rfl; (focus (decide +kernel)); exact rfl; (focus (omega))) | ((with_reducible apply Step.lss); exact rfl; exact rfl; exact rfl) | ((with_reducible apply Step.gtr); exact rfl; exact rfl; exact rfl) | ((with_reducible apply Step.alloc 0); exact rfl; exact ze52; exact rfl; (focus (first | (simp only [List.nil_append, List.cons_append, List.set_cons_zero, List.set_cons_succ, iv_set, bv_set, iv_rep, bv_rep]; done) | (simp only [List.nil_append, List.cons_append, List.set_cons_zero, List.set_cons_succ, iv_set, bv_set, iv_rep, bv_rep]; rfl) | rfl))) | ((with_reducible apply Step.storeA (k := 0) (n := 5)); exact rfl; exact rfl; exact rfl; exact rfl; (focus (decide +kernel)); exact rfl; (focus (first | assumption | exact hw1)); exact rfl; (focus (first | (simp only [List.nil_append, List.cons_append, List.set_cons_zero, List.set_cons_succ, iv_set, bv_set, iv_rep, bv_rep]; done) | (simp only [List.nil_append, List.cons_append, List.set_cons_zero, List.set_cons_succ, iv_set, bv_set, iv_rep, bv_rep]; rfl) | rfl)))) | (with_reducible refine AWo.nil ?_) | ((with_reducible apply AW.seq)) | ((with_reducible apply Then.n)) | ((with_reducible apply AW.regL)) | ((with_reducible apply AW.block)) | ((with_reducible apply AW.skip)) | ((with_reducible apply AW.condT); exact rfl; (focus ((simp only [decide_eq_true_eq, decide_eq_false_iff_not, Bool.not_eq_true', Bool.not_eq_false', Bool.not_true, Bool.not_false]; first | assumption | omega)))) | ((with_reducible apply AW.condF); exact rfl; (focus ((simp only [decide_eq_true_eq, decide_eq_false_iff_not, Bool.not_eq_true', Bool.not_eq_false', Bool.not_true, Bool.not_false]; first | assumption | omega))))))
        rw [show (M ++ [some { cells := (Value.agg (x.cells w).toArray).cells.toList }] : AM) = X from hX.symm]
        rw [← List.append_nil X]
        (repeat ((with_reducible refine AWo.cons ?_)))
        ((with_reducible apply Step.callF fit); exact rfl; exact Try.func47; exact rfl; exact rfl; (focus (rw [List.append_nil]; exact Acts_ok hDX (by omega) g2 hle)))
        rintro r2 M2 ⟨ow2, u, B2, ks2, rfl, hD2⟩
        obtain ⟨pv, hB⟩ := hD2.side.pBook
        obtain ⟨px, hR⟩ := hD2.side.rBook
        have hla := fun T => Last_ok (hB.old T)
        have hnP := hD2.nP
        have rx := fun T => Rd.old T (show Rd M2 xb 0 px from ⟨_, hR.cells, rfl⟩)
        obtain ⟨pc, hrow, hps⟩ := hR.posts
        obtain ⟨ar, r1, r3, r4⟩ := hrow.sl (by have := hR.lt; omega)
        rw [← List.append_nil M2]
        (repeat' (first | (with_reducible refine AWo.cons ?_) | ((with_reducible refine Step.id ?_); first | ((with_reducible apply Step.gdT); exact rfl; exact rfl; (focus (rfl))) | ((with_reducible apply Step.move); exact rfl; exact rfl) | ((with_reducible apply Step.assign); exact rfl; exact rfl) | ((with_reducible apply Step.load); exact rfl; (focus (decide +kernel)); exact rfl; (focus (exact rx _))) | ((with_reducible apply Step.field0); exact rfl; (focus (decide +kernel)); exact rfl) | ((with_reducible apply Step.add); exact rfl; exact rfl; (focus (omega)); exact rfl) | ((with_reducible apply Step.neq); exact rfl; exact rfl; exact rfl) | ((with_reducible apply Step.len); exact rfl; (focus (assumption)); (focus (decide +kernel)); exact rfl) | ((with_reducible apply Step.not); exact rfl; exact rfl) | ((with_reducible apply Step.nilp); exact rfl; exact rfl) | ((with_reducible apply Step.extract); exact rfl; exact rfl; exact rfl) | ((with_reducible apply Step.pickF); exact rfl; exact rfl; exact rfl; exact rfl; (focus (rfl))) | ((with_reducible apply Step.callR fit); exact rfl; exact Try.func39; exact rfl; exact rfl; exact (hla _))) | (with_reducible refine AWo.nil ?_) | ((with_reducible apply AW.seq)) | ((with_reducible apply Then.n)) | ((with_reducible apply AW.regL)) | ((with_reducible apply AW.drawT fit (T := (.step 0 (.step 1 (.step 2 (.step 3 (.step 5 (.step 6 (.step 7 (.both (.step 4 (.step 8 (.step 9 (.step 10 (.step 11 .done))))) (.step 8 (.step 9 (.step 4 (.step 10 (.step 11 .done))))))))))))))); (focus (decide +kernel))) | ((with_reducible apply AWt.step); exact rfl) | ((with_reducible apply AWt.done)) | ((with_reducible apply InBlk.n)) | ((with_reducible apply AW.skip)) | ((with_reducible apply AW.condF); exact rfl; (focus ((simp; done)))) | refine AWt.both ?_ ?_))
        all_goals
          exact ⟨_, [(3, .pointer (some ⟨bk, 0, none⟩)), (4, .pointer (some ⟨xb, 0, none⟩)), (5, u), (14, v), (15, .int .i64 (ds.length : Nat)), (16, .int .i64 (k + 1 : Nat))], by omega, (by repeat (first | exact trivial | (refine And.intro rfl ?_))), k + 1, ow2, bk, xb, B2, u, ks2, rfl, by omega, by omega, by rw [List.append_nil]; exact hD2, rfl⟩
    · obtain rfl : k = ds.length := by omega
      (repeat (first | (with_reducible refine AWo.cons ?_) | ((with_reducible refine Step.id ?_); ((with_reducible apply Step.lss); exact rfl; exact rfl; exact rfl)) | (with_reducible refine AWo.nil ?_) | ((with_reducible apply AW.seq)) | ((with_reducible apply Then.n)) | ((with_reducible apply AW.regL)) | ((with_reducible apply AW.exit)) | ((with_reducible apply Then.e)) | ((with_reducible apply AW.condF); exact rfl; (focus ((simp only [decide_eq_true_eq, decide_eq_false_iff_not, Bool.not_eq_true', Bool.not_eq_false', Bool.not_true, Bool.not_false]; first | assumption | omega))))))
      exact ⟨rfl, ow, bk, xb, B, av, ks, ⟨hD.side, hD.good, by have := hD.nP; omega, by have := hD.nk; omega, fun x hx K hK => ⟨(hD.cl x hx K hK).1, by have := (hD.cl x hx K hK).2; omega⟩⟩, (by repeat (first | exact trivial | (refine And.intro rfl ?_)))⟩
  · rintro t' M ⟨ow, bk, xb, B, av, ks, hD, hsl⟩
    refine InBlk.hit ?_
    refine Then.n ?_
    refine AW.weak (fr_all hsl) ?_
    clear hsl
    refine AW.rebase ?_
    have hG := hD.good
    have hnP := hD.nP
    obtain ⟨pv, hB⟩ := hD.side.pBook
    obtain ⟨px, hR⟩ := hD.side.rBook
    have hcnt := fun T => counts_ok (hB.old T) (hR.old T) hG (by omega)
    have hS1 := fun T => Save_ok (hB.old T) hG.ok (by omega)
    have hS2 := fun T => RSave_ok (hR.old T) hG.ok (by omega)
    (repeat (first | (with_reducible refine AWo.cons ?_) | ((with_reducible refine Step.id ?_); first | ((with_reducible apply Step.gdT); exact rfl; exact rfl; (focus (rfl))) | ((with_reducible apply Step.move); exact rfl; exact rfl) | ((with_reducible apply Step.callR fit); exact rfl; exact Try.func37; exact rfl; exact rfl; exact (hcnt _))) | ((with_reducible apply AW.seq)) | ((with_reducible apply AW.regL))))
    ((with_reducible apply Step.callX fit); exact rfl; exact Try.func36; exact rfl; exact rfl; exact (hS1 _))
    rintro r1 M1 ⟨N1, hN1⟩ hb1
    rw [List.append_nil] at hN1
    subst hN1
    (repeat (first | (with_reducible refine AWo.cons ?_) | ((with_reducible refine Step.id ?_); first | ((with_reducible apply Step.gdT); exact rfl; exact rfl; (focus (rfl))) | ((with_reducible apply Step.move); exact rfl; exact rfl))))
    ((with_reducible apply Step.callX fit); exact rfl; exact Try.func45; exact rfl; exact rfl; (focus (rw [List.append_nil]; exact hS2 _)))
    rintro r2 M2 ⟨N2, hN2⟩ hb2
    rw [List.append_nil] at hN2
    subst hN2
    have hE := fun T => Equal_ok ((hb1.old N2).old T) (hb2.old T)
    rw [beq_self_eq_true] at hE
    obtain ⟨N0, hN0⟩ : ∃ N, M = m ++ N := pre_keep (M := m) ⟨[], by rw [List.append_nil]⟩ hD.side.len fun j hj => (hD.side.base j hj).1
    (repeat (first | (with_reducible refine AWo.cons ?_) | ((with_reducible refine Step.id ?_); first | ((with_reducible apply Step.gdT); exact rfl; exact rfl; (focus (rfl))) | ((with_reducible apply Step.move); exact rfl; exact rfl) | ((with_reducible apply Step.assign); exact rfl; exact rfl) | ((with_reducible apply Step.pickT); exact rfl; exact rfl; exact rfl; exact rfl; (focus (rfl))) | ((with_reducible apply Step.callR fit); exact rfl; exact Try.func19; exact rfl; exact rfl; exact (hE _)) | ((with_reducible apply Step.callR fit); exact rfl; exact Try.func16; exact rfl; exact rfl; exact (hw _))) | (with_reducible refine AWo.nil ?_) | ((with_reducible apply Then.n))))
    (refine AW.ret ?_; (repeat (first | refine Then.r ?_ | refine InBlk.r ?_)))
    exact ⟨_, rfl, rfl, N0 ++ (N1 ++ N2), by rw [hN0]; simp⟩
end Go.Proofs.Ytabdnepfcohncaa.Abs
