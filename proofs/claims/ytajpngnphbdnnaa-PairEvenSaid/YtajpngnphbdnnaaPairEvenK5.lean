/- Proved here: what the proof of PairEven rests on, part 5 of 5. Conditions: those that each theorem names. -/
import Derived.Test.YtajpngnphbdnnaaPairEvenK4
namespace Go.Proofs.Ytajpngnphbdnnaa.Abs
set_option linter.unusedSimpArgs false
set_option linter.unusedVariables false
open Go.RowKit
open Go.Proofs.Ytajpngnphbdnnaa.Sim
open Go.Proofs
open Hung
theorem ze27 : zeroB Try.prog 27 = some #[.slice none 0 0] := by kernel_rfl
theorem ze112 : zeroB Try.prog 112 = some #[.nilFunc] := by kernel_rfl
section
variable {m : AM} {p q r : Nat} {s : KS}
theorem KM.self (h1 : m[p]? = some (some { cells := bv (tabB s.1 r) })) (h2 : m[q]? = some (some { cells := iv (tab s.2 r) })) : KM m p q r s = m := by
  have e : ∀ {a : Nat} {x : Option Blk}, m[a]? = some x → m.set a x = m := fun {a x} h => by
    apply List.ext_getElem?
    intro i
    by_cases e : i = a
    · subst e; rw [List.getElem?_set_self (List.getElem?_eq_some_iff.1 h).1, h]
    · rw [List.getElem?_set_ne (Ne.symm e)]
  unfold KM
  rw [e h1, e h2]
theorem KM.ne {a : Nat} (h1 : a ≠ p) (h2 : a ≠ q) : (KM m p q r s)[a]? = m[a]? := by
  unfold KM
  rw [List.getElem?_set_ne (Ne.symm h2), List.getElem?_set_ne (Ne.symm h1)]
theorem KM.pre {N : AM} (h1 : m.length ≤ p) (h2 : m.length ≤ q) : ∃ N', KM (m ++ N) p q r s = m ++ N' := by
  unfold KM
  obtain ⟨N1, e1⟩ := pre_set (m := m) (N := N) (p := p) (x := some { cells := bv (tabB s.1 r) }) h1
  rw [e1]
  exact pre_set h2
end
section
variable {P : Program} {nt : Nat} {ops : Array Oper} {t : Fm} {m : AM} {K : Fm → AM → Prop} {T : Nat} {pp : String} {af : Array Edge}
/-- A variable of one cell is set. -/
theorem Step.storeV {x y : Operand} {ty : TypeId} {a : Nat} {v0 v : Value} {M2 : AM} (hx : evo t x = some (.pointer (some ⟨a, 0, none⟩))) (hy : evo t y = some v) (hb : m[a]? = some (some { cells := [v0] })) (hz : szB P ty = some 1) (hc : v.cells = #[v]) (h1 : v.oneCell' = true) (hM : m.set a (some { cells := [v] }) = M2) (hK : K t M2) :
    Step P nt ops ⟨none, .store ty x y, T, pp, af, none⟩ t m K :=
  Step.storeC hx hy hb rfl hz hc h1 (by simp) (by subst hM; exact hK)
end
theorem rd_at {m : AM} {a o : Nat} {v : Value} {b : Blk} (h : m[a]? = some (some b)) (hv : b.cells[o]? = some v) : Rd m a o v := ⟨b, h, hv⟩
set_option maxHeartbeats 4000000 in
set_option maxRecDepth 100000 in
theorem find_ok {m0 m : AM} {tv : Value} {c : Nat → Nat → Int} {l r p q a1 a2 a3 a4 a5 : Nat} {mo : Int} (hp : p < m.length) (hq : q < m.length) (hpq : p ≠ q) (hl32 : l ≤ 32) (hr32 : r ≤ 32) (hm : ∀ s, ∃ N, KM m p q r s = m0 ++ N) (hT : Tab m0 tv c l r)
    (h1 : ∀ s, Rd (KM m p q r s) a1 0 tv) (h2 : ∀ s, Rd (KM m p q r s) a2 0 (.int .i64 mo)) (h3 : ∀ s, Rd (KM m p q r s) a3 0 (.slice (some ⟨p, 0, none⟩) r r)) (h4 : ∀ s, Rd (KM m p q r s) a4 0 (.slice (some ⟨q, 0, none⟩) r r))
    (h5 : ∀ s, Rd (KM m p q r s) a5 0 (.func (.func 97) #[] #[.pointer (some ⟨a1, 0, none⟩), .pointer (some ⟨a2, 0, none⟩), .pointer (some ⟨a3, 0, none⟩), .pointer (some ⟨a4, 0, none⟩), .pointer (some ⟨a5, 0, none⟩)])) :
    ∀ (f i : Nat) (s : KS), i < l → unN s.1 r < f → KBd l s.2 → ACall Try.prog 97 #[.int .i64 (i : Nat), .pointer (some ⟨a1, 0, none⟩), .pointer (some ⟨a2, 0, none⟩), .pointer (some ⟨a3, 0, none⟩), .pointer (some ⟨a4, 0, none⟩), .pointer (some ⟨a5, 0, none⟩)] (KM m p q r s) (Ret (.bool (kF (okc c mo) r f i s).1) (KM m p q r (kF (okc c mo) r f i s).2))
  | 0, _, _, _, h, _ => by omega
  | f + 1, i, s, hi, hu, hb => by
    have IH := find_ok (mo := mo) hp hq hpq hl32 hr32 hm hT h1 h2 h3 h4 h5 f
    obtain ⟨a, cv, b, o, rfl, t1, t2, t3, t4, t5, t6, t7⟩ := id hT
    obtain ⟨w, q1, rb, ro, w1, w2, w3⟩ := t7 i hi
    rw [tab_len] at w1 w3
    have g1 : ∀ s, Rd (KM m p q r s) a 0 cv := fun s => by obtain ⟨N, hN⟩ := hm s; rw [hN]; exact t2.old N
    have g2 : ∀ s, Rd (KM m p q r s) b (o + i) w := fun s => by obtain ⟨N, hN⟩ := hm s; rw [hN]; exact q1.old N
    have g3 : ∀ s j, j < r → Rd (KM m p q r s) rb (ro + j) (.int .i64 (c i j)) := fun s j hj => by
      obtain ⟨N, hN⟩ := hm s; rw [hN]
      have := w3 j hj
      rw [tab_get (c i) hj] at this
      exact this.old N
    obtain ⟨b', e, hres⟩ : ∃ b' e, kF (okc c mo) r (f + 1) i s = (b', e) := ⟨_, _, rfl⟩
    rw [hres]
    have h0 : kL (okc c mo) (kF (okc c mo) r f) i (fromI 0 r) s = (b', e) := by rw [fromI_zero]; exact hres
    clear hres
    refine ACall.intro Try.func97 rfl (Nat.le_of_ble_eq_true rfl) ?_
    (repeat (first | (with_reducible refine AWo.cons ?_) | ((with_reducible refine Step.id ?_); first | ((with_reducible apply Step.move); exact rfl; exact rfl) | ((with_reducible apply Step.assign); exact rfl; exact rfl) | ((with_reducible apply Step.load); exact rfl; (focus (decide +kernel)); exact rfl; (focus (first | exact h1 _ | exact g1 _ | exact g2 _))) | ((with_reducible apply Step.ix1); exact rfl; (focus (assumption)); exact rfl; (focus (decide +kernel)); exact rfl; (focus (omega))) | ((with_reducible apply Step.field0); exact rfl; (focus (decide +kernel)); exact rfl) | ((with_reducible apply Step.len); exact rfl; (focus (assumption)); (focus (decide +kernel)); exact rfl) | ((with_reducible apply Step.nilp); exact rfl; exact rfl)) | (with_reducible refine AWo.nil ?_) | ((with_reducible apply AW.seq)) | ((with_reducible apply Then.n)) | ((with_reducible apply AW.regL)) | ((with_reducible apply AW.block))))
    refine AW.loopW (fun u t M => ∃ (k : Nat) (s' : KS), u = r - k ∧ k ≤ r ∧ kL (okc c mo) (kF (okc c mo) r f) i (fromI k r) s' = (b', e) ∧ unN s'.1 r < f + 1 ∧ KBd l s'.2 ∧ M = KM m p q r s' ∧
      t = fr [(0, .int .i64 (i : Nat)), (1, .pointer (some ⟨a1, 0, none⟩)), (2, .pointer (some ⟨a2, 0, none⟩)), (3, .pointer (some ⟨a3, 0, none⟩)), (4, .pointer (some ⟨a4, 0, none⟩)), (5, .pointer (some ⟨a5, 0, none⟩)), (16, w), (17, .int .i64 (r : Nat)), (18, .int .i64 (k : Nat))])
      ⟨_, _, (by repeat (first | exact trivial | (refine And.intro rfl ?_))), 0, s, rfl, Nat.zero_le _, h0, hu, hb, rfl, rfl⟩ ?_
    clear h0 hu hb
    rintro u t M ⟨k, s', rfl, hk, hL, hu, hb, rfl, rfl⟩
    rcases Nat.lt_or_ge k r with hkr | hkr
    · rw [fromI_cons hkr] at hL
      simp only [kL] at hL
      have q5 := g3 s' k hkr
      by_cases hcn : c i k < 0
      · rw [if_pos (.inl (okc_no1 hcn))] at hL
        (repeat (first | (with_reducible refine AWo.cons ?_) | ((with_reducible refine Step.id ?_); first | ((with_reducible apply Step.gdF); exact rfl; exact rfl; (focus (first | rfl | (simp only [decide_eq_true_eq, decide_eq_false_iff_not, Bool.not_eq_true', Bool.not_eq_false', Bool.not_true, Bool.not_false]; first | assumption | omega)))) | ((with_reducible apply Step.move); exact rfl; exact rfl) | ((with_reducible apply Step.assign); exact rfl; exact rfl) | ((with_reducible apply Step.load); exact rfl; (focus (decide +kernel)); exact rfl; (focus (assumption))) | ((with_reducible apply Step.ix1); exact rfl; (focus (assumption)); exact rfl; (focus (decide +kernel)); exact rfl; (focus (omega))) | ((with_reducible apply Step.add); exact rfl; exact rfl; (focus (omega)); exact rfl) | ((with_reducible apply Step.lss); exact rfl; exact rfl; exact rfl) | ((with_reducible apply Step.pickT); exact rfl; exact rfl; exact rfl; exact rfl; (focus (first | rfl | (simp only [decide_eq_true_eq, decide_eq_false_iff_not, Bool.not_eq_true', Bool.not_eq_false', Bool.not_true, Bool.not_false]; first | assumption | omega))))) | (with_reducible refine AWo.nil ?_) | ((with_reducible apply AW.seq)) | ((with_reducible apply Then.n)) | ((with_reducible apply AW.regL)) | ((with_reducible apply AW.block)) | ((with_reducible apply AW.exit)) | ((with_reducible apply InBlk.hit)) | ((with_reducible apply Then.e)) | ((with_reducible apply AW.skip)) | ((with_reducible apply AW.condT); exact rfl; (focus (first | rfl | (simp only [decide_eq_true_eq, decide_eq_false_iff_not, Bool.not_eq_true', Bool.not_eq_false', Bool.not_true, Bool.not_false]; first | assumption | omega))))))
        exact ⟨_, _, by omega, (by repeat (first | exact trivial | (refine And.intro rfl ?_))), k + 1, s', rfl, by omega, hL, hu, hb, rfl, rfl⟩
      by_cases hcm : mo < c i k
      · rw [if_pos (.inl (okc_no2 hcm))] at hL
        (repeat (first | (with_reducible refine AWo.cons ?_) | ((with_reducible refine Step.id ?_); first | ((with_reducible apply Step.gdT); exact rfl; exact rfl; (focus ((simp only [decide_eq_true_eq, decide_eq_false_iff_not, Bool.not_eq_true', Bool.not_eq_false', Bool.not_true, Bool.not_false]; first | assumption | omega)))) | ((with_reducible apply Step.gdF); exact rfl; exact rfl; (focus ((simp only [decide_eq_true_eq, decide_eq_false_iff_not, Bool.not_eq_true', Bool.not_eq_false', Bool.not_true, Bool.not_false]; first | assumption | omega)))) | ((with_reducible apply Step.move); exact rfl; exact rfl) | ((with_reducible apply Step.assign); exact rfl; exact rfl) | ((with_reducible apply Step.load); exact rfl; (focus (decide +kernel)); exact rfl; (focus (first | assumption | exact h2 _))) | ((with_reducible apply Step.ix1); exact rfl; (focus (assumption)); exact rfl; (focus (decide +kernel)); exact rfl; (focus (omega))) | ((with_reducible apply Step.add); exact rfl; exact rfl; (focus (omega)); exact rfl) | ((with_reducible apply Step.lss); exact rfl; exact rfl; exact rfl) | ((with_reducible apply Step.gtr); exact rfl; exact rfl; exact rfl) | ((with_reducible apply Step.pickT); exact rfl; exact rfl; exact rfl; exact rfl; (focus ((simp only [decide_eq_true_eq, decide_eq_false_iff_not, Bool.not_eq_true', Bool.not_eq_false', Bool.not_true, Bool.not_false]; first | assumption | omega)))) | ((with_reducible apply Step.pickF); exact rfl; exact rfl; exact rfl; exact rfl; (focus ((simp only [decide_eq_true_eq, decide_eq_false_iff_not, Bool.not_eq_true', Bool.not_eq_false', Bool.not_true, Bool.not_false]; first | assumption | omega))))) | (with_reducible refine AWo.nil ?_) | ((with_reducible apply AW.seq)) | ((with_reducible apply Then.n)) | ((with_reducible apply AW.regL)) | ((with_reducible apply AW.block)) | ((with_reducible apply AW.exit)) | ((with_reducible apply InBlk.hit)) | ((with_reducible apply Then.e)) | ((with_reducible apply AW.skip)) | ((with_reducible apply AW.condT); exact rfl; (focus (first | rfl | (simp only [decide_eq_true_eq, decide_eq_false_iff_not, Bool.not_eq_true', Bool.not_eq_false', Bool.not_true, Bool.not_false]; first | assumption | omega))))))
        exact ⟨_, _, by omega, (by repeat (first | exact trivial | (refine And.intro rfl ?_))), k + 1, s', rfl, by omega, hL, hu, hb, rfl, rfl⟩
      cases hs : s'.1 k with
      | true =>
        rw [if_pos (.inr hs)] at hL
        have r1 := KM.seen (r := r) hp hpq hkr hs
        (repeat (first | (with_reducible refine AWo.cons ?_) | ((with_reducible refine Step.id ?_); first | ((with_reducible apply Step.gdT); exact rfl; exact rfl; (focus ((simp only [decide_eq_true_eq, decide_eq_false_iff_not, Bool.not_eq_true', Bool.not_eq_false', Bool.not_true, Bool.not_false]; first | assumption | omega)))) | ((with_reducible apply Step.move); exact rfl; exact rfl) | ((with_reducible apply Step.assign); exact rfl; exact rfl) | ((with_reducible apply Step.load); exact rfl; (focus (decide +kernel)); exact rfl; (focus (first | assumption | exact h2 _ | exact h3 _))) | ((with_reducible apply Step.ix1z); exact rfl; (focus (exact Sl.mk (by omega))); exact rfl; (focus (decide +kernel)); exact rfl; (focus (omega))) | ((with_reducible apply Step.ix1); exact rfl; (focus (assumption)); exact rfl; (focus (decide +kernel)); exact rfl; (focus (omega))) | ((with_reducible apply Step.add); exact rfl; exact rfl; (focus (omega)); exact rfl) | ((with_reducible apply Step.lss); exact rfl; exact rfl; exact rfl) | ((with_reducible apply Step.gtr); exact rfl; exact rfl; exact rfl) | ((with_reducible apply Step.pickF); exact rfl; exact rfl; exact rfl; exact rfl; (focus ((simp only [decide_eq_true_eq, decide_eq_false_iff_not, Bool.not_eq_true', Bool.not_eq_false', Bool.not_true, Bool.not_false]; first | assumption | omega))))) | (with_reducible refine AWo.nil ?_) | ((with_reducible apply AW.seq)) | ((with_reducible apply Then.n)) | ((with_reducible apply AW.regL)) | ((with_reducible apply AW.block)) | ((with_reducible apply AW.exit)) | ((with_reducible apply InBlk.hit)) | ((with_reducible apply Then.e)) | ((with_reducible apply AW.skip)) | ((with_reducible apply AW.condT); exact rfl; (focus (first | rfl | (simp only [decide_eq_true_eq, decide_eq_false_iff_not, Bool.not_eq_true', Bool.not_eq_false', Bool.not_true, Bool.not_false]; first | assumption | omega))))))
        exact ⟨_, _, by omega, (by repeat (first | exact trivial | (refine And.intro rfl ?_))), k + 1, s', rfl, by omega, hL, hu, hb, rfl, rfl⟩
      | false =>
        rw [if_neg (by rw [okc_yes hcn hcm, hs]; simp)] at hL
        have r1 := KM.seen (r := r) hp hpq hkr hs
        have hun := unN_up hkr hs
        (repeat (first | (with_reducible refine AWo.cons ?_) | ((with_reducible refine Step.id ?_); first | ((with_reducible apply Step.gdT); exact rfl; exact rfl; (focus ((simp only [decide_eq_true_eq, decide_eq_false_iff_not, Bool.not_eq_true', Bool.not_eq_false', Bool.not_true, Bool.not_false]; first | assumption | omega)))) | ((with_reducible apply Step.move); exact rfl; exact rfl) | ((with_reducible apply Step.assign); exact rfl; exact rfl) | ((with_reducible apply Step.load); exact rfl; (focus (decide +kernel)); exact rfl; (focus (first | assumption | exact h2 _ | exact h3 _))) | ((with_reducible apply Step.ix1z); exact rfl; (focus (exact Sl.mk (by omega))); exact rfl; (focus (decide +kernel)); exact rfl; (focus (omega))) | ((with_reducible apply Step.ix1); exact rfl; (focus (assumption)); exact rfl; (focus (decide +kernel)); exact rfl; (focus (omega))) | ((with_reducible apply Step.lss); exact rfl; exact rfl; exact rfl) | ((with_reducible apply Step.gtr); exact rfl; exact rfl; exact rfl) | ((with_reducible apply Step.pickF); exact rfl; exact rfl; exact rfl; exact rfl; (focus ((simp only [decide_eq_true_eq, decide_eq_false_iff_not, Bool.not_eq_true', Bool.not_eq_false', Bool.not_true, Bool.not_false]; first | assumption | omega))))) | (with_reducible refine AWo.nil ?_) | ((with_reducible apply AW.seq)) | ((with_reducible apply Then.n)) | ((with_reducible apply AW.regL)) | ((with_reducible apply AW.block)) | ((with_reducible apply AW.skip)) | ((with_reducible apply AW.condT); exact rfl; (focus ((simp only [decide_eq_true_eq, decide_eq_false_iff_not, Bool.not_eq_true', Bool.not_eq_false', Bool.not_true, Bool.not_false]; first | assumption | omega)))) | ((with_reducible apply AW.condF); exact rfl; (focus (rfl)))))
        ((with_reducible apply Step.kmSeen); exact rfl; exact rfl; (focus (decide +kernel)); exact hp; exact hpq; exact hkr)
        have r2 : Rd (KM m p q r (up s'.1 k true, s'.2)) q k (.int .i64 (s'.2 k)) := KM.mate hq hkr rfl
        have hbk := hb k
        by_cases hm' : s'.2 k < 0
        · rw [if_pos hm'] at hL
          injection hL with e1 e2
          subst e1 e2
          (repeat (first | (with_reducible refine AWo.cons ?_) | ((with_reducible refine Step.id ?_); first | ((with_reducible apply Step.gdF); exact rfl; exact rfl; (focus ((simp only [decide_eq_true_eq, decide_eq_false_iff_not, Bool.not_eq_true', Bool.not_eq_false', Bool.not_true, Bool.not_false]; first | assumption | omega)))) | ((with_reducible apply Step.move); exact rfl; exact rfl) | ((with_reducible apply Step.load); exact rfl; (focus (decide +kernel)); exact rfl; (focus (first | assumption | exact h4 _))) | ((with_reducible apply Step.ix1z); exact rfl; (focus (exact Sl.mk (by omega))); exact rfl; (focus (decide +kernel)); exact rfl; (focus (omega))) | ((with_reducible apply Step.lss); exact rfl; exact rfl; exact rfl) | ((with_reducible apply Step.pickT); exact rfl; exact rfl; exact rfl; exact rfl; (focus ((simp only [decide_eq_true_eq, decide_eq_false_iff_not, Bool.not_eq_true', Bool.not_eq_false', Bool.not_true, Bool.not_false]; first | assumption | omega))))) | (with_reducible refine AWo.nil ?_) | ((with_reducible apply AW.seq)) | ((with_reducible apply Then.n)) | ((with_reducible apply AW.regL)) | ((with_reducible apply AW.drawL fit); (focus (decide +kernel))) | ((with_reducible apply AW.condT); exact rfl; (focus (rfl)))))
          ((with_reducible apply Step.kmMate); exact rfl; exact rfl; (focus (decide +kernel)); exact hq; exact hkr)
          (repeat (first | (with_reducible refine AWo.cons ?_) | ((with_reducible refine Step.id ?_); ((with_reducible apply Step.assign); exact rfl; exact rfl)) | (with_reducible refine AWo.nil ?_) | ((with_reducible apply AW.seq)) | ((with_reducible apply Then.n)) | ((with_reducible apply AW.regL))))
          (refine AW.ret ?_; (repeat (first | refine Then.r ?_ | refine InBlk.r ?_)))
          exact ⟨_, rfl, rfl, rfl⟩
        · rw [if_neg hm'] at hL
          obtain ⟨i2, hi2⟩ : ∃ i2 : Nat, s'.2 k = (i2 : Nat) := ⟨(s'.2 k).toNat, by omega⟩
          rw [hi2] at hL r2 hbk hm'
          simp only [Int.toNat_natCast] at hL
          have hc := IH i2 (up s'.1 k true, s'.2) (by omega) (by simp only; omega) hb
          cases hr : kF (okc c mo) r f i2 (up s'.1 k true, s'.2) with
          | mk b2 s2 =>
            rw [hr] at hL hc
            cases b2 with
            | true =>
              simp only at hL hc
              injection hL with e1 e2
              subst e1 e2
              (repeat (first | (with_reducible refine AWo.cons ?_) | ((with_reducible refine Step.id ?_); first | ((with_reducible apply Step.gdT); exact rfl; exact rfl; (focus (rfl))) | ((with_reducible apply Step.move); exact rfl; exact rfl) | ((with_reducible apply Step.load); exact rfl; (focus (decide +kernel)); exact rfl; (focus (first | assumption | exact h4 _ | exact h5 _))) | ((with_reducible apply Step.ix1z); exact rfl; (focus (exact Sl.mk (by omega))); exact rfl; (focus (decide +kernel)); exact rfl; (focus (omega))) | ((with_reducible apply Step.lss); exact rfl; exact rfl; exact rfl)) | (with_reducible refine AWo.nil ?_) | ((with_reducible apply AW.seq)) | ((with_reducible apply Then.n)) | ((with_reducible apply AW.drawL fit); (focus (decide +kernel)))))
              ((with_reducible apply Step.call fit); exact rfl; exact rfl; exact Try.func97; exact rfl; exact rfl; exact hc)
              rintro _ _ ⟨rfl, rfl⟩
              (repeat (first | (with_reducible refine AWo.cons ?_) | ((with_reducible refine Step.id ?_); first | ((with_reducible apply Step.move); exact rfl; exact rfl) | ((with_reducible apply Step.load); exact rfl; (focus (decide +kernel)); exact rfl; (focus (exact h4 _))) | ((with_reducible apply Step.ix1z); exact rfl; (focus (exact Sl.mk (by omega))); exact rfl; (focus (decide +kernel)); exact rfl; (focus (omega))) | ((with_reducible apply Step.pickF); exact rfl; exact rfl; exact rfl; exact rfl; (focus (rfl)))) | (with_reducible refine AWo.nil ?_) | ((with_reducible apply AW.seq)) | ((with_reducible apply Then.n)) | ((with_reducible apply AW.regL)) | ((with_reducible apply AW.condT); exact rfl; (focus (rfl)))))
              ((with_reducible apply Step.kmMate); exact rfl; exact rfl; (focus (decide +kernel)); exact hq; exact hkr)
              (repeat (first | (with_reducible refine AWo.cons ?_) | ((with_reducible refine Step.id ?_); ((with_reducible apply Step.assign); exact rfl; exact rfl)) | (with_reducible refine AWo.nil ?_) | ((with_reducible apply AW.seq)) | ((with_reducible apply Then.n)) | ((with_reducible apply AW.regL))))
              (refine AW.ret ?_; (repeat (first | refine Then.r ?_ | refine InBlk.r ?_)))
              exact ⟨_, rfl, rfl, rfl⟩
            | false =>
              simp only at hL hc
              obtain ⟨n1, n2⟩ := unN_next (s := (up s'.1 k true, s'.2)) (by simp only; omega) hr
              simp only at n1 n2
              (repeat (first | (with_reducible refine AWo.cons ?_) | ((with_reducible refine Step.id ?_); first | ((with_reducible apply Step.gdT); exact rfl; exact rfl; (focus (rfl))) | ((with_reducible apply Step.move); exact rfl; exact rfl) | ((with_reducible apply Step.load); exact rfl; (focus (decide +kernel)); exact rfl; (focus (first | assumption | exact h4 _ | exact h5 _))) | ((with_reducible apply Step.ix1z); exact rfl; (focus (exact Sl.mk (by omega))); exact rfl; (focus (decide +kernel)); exact rfl; (focus (omega))) | ((with_reducible apply Step.lss); exact rfl; exact rfl; exact rfl)) | (with_reducible refine AWo.nil ?_) | ((with_reducible apply AW.seq)) | ((with_reducible apply Then.n)) | ((with_reducible apply AW.drawL fit); (focus (decide +kernel)))))
              ((with_reducible apply Step.call fit); exact rfl; exact rfl; exact Try.func97; exact rfl; exact rfl; exact hc)
              rintro _ _ ⟨rfl, rfl⟩
              (repeat (first | (with_reducible refine AWo.cons ?_) | ((with_reducible refine Step.id ?_); first | ((with_reducible apply Step.move); exact rfl; exact rfl) | ((with_reducible apply Step.add); exact rfl; exact rfl; (focus (omega)); exact rfl) | ((with_reducible apply Step.pickF); exact rfl; exact rfl; exact rfl; exact rfl; (focus (rfl)))) | (with_reducible refine AWo.nil ?_) | ((with_reducible apply Then.n)) | ((with_reducible apply AW.regL)) | ((with_reducible apply InBlk.n)) | ((with_reducible apply AW.skip)) | ((with_reducible apply AW.condF); exact rfl; (focus (rfl)))))
              exact ⟨_, _, by omega, (by repeat (first | exact trivial | (refine And.intro rfl ?_))), k + 1, s2, rfl, by omega, hL, by omega, by rw [n2]; exact hb, rfl, rfl⟩
    · obtain rfl : k = r := by omega
      rw [fromI_nil] at hL
      simp only [kL] at hL
      injection hL with e1 e2
      subst e1 e2
      (repeat (first | (with_reducible refine AWo.cons ?_) | ((with_reducible refine Step.id ?_); first | ((with_reducible apply Step.assign); exact rfl; exact rfl) | ((with_reducible apply Step.lss); exact rfl; exact rfl; exact rfl)) | (with_reducible refine AWo.nil ?_) | ((with_reducible apply AW.seq)) | ((with_reducible apply Then.n)) | ((with_reducible apply AW.regL)) | ((with_reducible apply AW.exit)) | ((with_reducible apply InBlk.hit)) | ((with_reducible apply Then.e)) | ((with_reducible apply AW.condF); exact rfl; (focus ((simp only [decide_eq_true_eq, decide_eq_false_iff_not, Bool.not_eq_true', Bool.not_eq_false', Bool.not_true, Bool.not_false]; first | assumption | omega))))))
      (refine AW.ret ?_; (repeat (first | refine Then.r ?_ | refine InBlk.r ?_)))
      exact ⟨_, rfl, rfl, rfl⟩
set_option maxRecDepth 100000 in
theorem size_ok {m : AM} {v : Value} {mt : Nat → Int} {n : Nat} (h : Ints m v (tab mt n)) (hn : n ≤ 100000) : ACall Try.prog 69 #[v] m (Ret (.int .i64 (cN (fun j => decide (0 ≤ mt j)) n : Nat)) m) := by
  obtain ⟨a, o, h1, h2, h3⟩ := id h
  rw [tab_len] at h1 h3
  refine ACall.start Try.func69 rfl rfl ?_
  (repeat (first | (with_reducible refine AWo.cons ?_) | ((with_reducible refine Step.id ?_); first | ((with_reducible apply Step.move); exact rfl; exact rfl) | ((with_reducible apply Step.assign); exact rfl; exact rfl) | ((with_reducible apply Step.len); exact rfl; (focus (assumption)); (focus (decide +kernel)); exact rfl)) | (with_reducible refine AWo.nil ?_) | ((with_reducible apply AW.seq)) | ((with_reducible apply Then.n)) | ((with_reducible apply AW.regL)) | ((with_reducible apply AW.block))))
  refine AW.loopT (fun rk t L => ∃ k : Nat, rk = n - k ∧ k ≤ n ∧ L = [] ∧ t = [(3, .int .i64 (cN (fun j => decide (0 ≤ mt j)) k : Nat)), (6, v), (7, .int .i64 (n : Nat)), (8, .int .i64 (k : Nat))]) ⟨_, _, _, (Or.inl ⟨rfl, (by repeat (first | exact trivial | (refine And.intro rfl ?_)))⟩), 0, rfl, Nat.zero_le _, rfl, rfl⟩ ?_
  rintro rk t L ⟨k, rfl, hk, rfl, rfl⟩
  have hc : cN (fun j => decide (0 ≤ mt j)) k ≤ k := cN_le _
  rcases Nat.lt_or_ge k n with hlt | hge
  · have r1 := h3 k hlt
    rw [tab_get mt hlt] at r1
    have e : cN (fun j => decide (0 ≤ mt j)) (k + 1) = cN (fun j => decide (0 ≤ mt j)) k + if decide (0 ≤ mt k) = true then 1 else 0 := rfl
    by_cases h0 : 0 ≤ mt k
    · rw [if_pos (by simpa using h0)] at e
      (repeat (first | (with_reducible refine AWo.cons ?_) | ((with_reducible refine Step.id ?_); first | ((with_reducible apply Step.move); exact rfl; exact rfl) | ((with_reducible apply Step.assign); exact rfl; exact rfl) | ((with_reducible apply Step.load); exact rfl; (focus (decide +kernel)); exact rfl; (focus (exact r1.old _))) | ((with_reducible apply Step.ix1); exact rfl; (focus (assumption)); exact rfl; (focus (decide +kernel)); exact rfl; (focus (omega))) | ((with_reducible apply Step.add); exact rfl; exact rfl; (focus (omega)); exact rfl) | ((with_reducible apply Step.lss); exact rfl; exact rfl; exact rfl) | ((with_reducible apply Step.geq); exact rfl; exact rfl; exact rfl)) | (with_reducible refine AWo.nil ?_) | ((with_reducible apply AW.seq)) | ((with_reducible apply Then.n)) | ((with_reducible apply AW.regL)) | ((with_reducible apply AW.block)) | ((with_reducible apply InBlk.n)) | ((with_reducible apply AW.skip)) | ((with_reducible apply AW.condT); exact rfl; (focus ((simp only [decide_eq_true_eq, decide_eq_false_iff_not, Bool.not_eq_true', Bool.not_eq_false', Bool.not_true, Bool.not_false]; first | assumption | omega))))))
      exact ⟨_, [(3, .int .i64 ((cN (fun j => decide (0 ≤ mt j)) k : Nat) + 1)), (6, v), (7, .int .i64 (n : Nat)), (8, .int .i64 ((k + 1 : Nat) : Int))], _, by omega, (Or.inl ⟨rfl, (by repeat (first | exact trivial | (refine And.intro rfl ?_)))⟩), k + 1, rfl, by omega, rfl, by rw [e, Int.natCast_add]; rfl⟩
    · rw [if_neg (by simpa using h0)] at e
      (repeat (first | (with_reducible refine AWo.cons ?_) | ((with_reducible refine Step.id ?_); first | ((with_reducible apply Step.move); exact rfl; exact rfl) | ((with_reducible apply Step.assign); exact rfl; exact rfl) | ((with_reducible apply Step.load); exact rfl; (focus (decide +kernel)); exact rfl; (focus (exact r1.old _))) | ((with_reducible apply Step.ix1); exact rfl; (focus (assumption)); exact rfl; (focus (decide +kernel)); exact rfl; (focus (omega))) | ((with_reducible apply Step.add); exact rfl; exact rfl; (focus (omega)); exact rfl) | ((with_reducible apply Step.lss); exact rfl; exact rfl; exact rfl) | ((with_reducible apply Step.geq); exact rfl; exact rfl; exact rfl)) | (with_reducible refine AWo.nil ?_) | ((with_reducible apply AW.seq)) | ((with_reducible apply Then.n)) | ((with_reducible apply AW.regL)) | ((with_reducible apply AW.block)) | ((with_reducible apply InBlk.n)) | ((with_reducible apply AW.skip)) | ((with_reducible apply AW.condT); exact rfl; (focus ((simp only [decide_eq_true_eq, decide_eq_false_iff_not, Bool.not_eq_true', Bool.not_eq_false', Bool.not_true, Bool.not_false]; first | assumption | omega)))) | ((with_reducible apply AW.condF); exact rfl; (focus ((simp only [decide_eq_true_eq, decide_eq_false_iff_not, Bool.not_eq_true', Bool.not_eq_false', Bool.not_true, Bool.not_false]; first | assumption | omega))))))
      exact ⟨_, [(3, .int .i64 (cN (fun j => decide (0 ≤ mt j)) k : Nat)), (6, v), (7, .int .i64 (n : Nat)), (8, .int .i64 ((k + 1 : Nat) : Int))], _, by omega, (Or.inl ⟨rfl, (by repeat (first | exact trivial | (refine And.intro rfl ?_)))⟩), k + 1, rfl, by omega, rfl, by rw [e]; rfl⟩
  · obtain rfl : k = n := by omega
    (repeat (first | (with_reducible refine AWo.cons ?_) | ((with_reducible refine Step.id ?_); first | ((with_reducible apply Step.move); exact rfl; exact rfl) | ((with_reducible apply Step.assign); exact rfl; exact rfl) | ((with_reducible apply Step.lss); exact rfl; exact rfl; exact rfl)) | (with_reducible refine AWo.nil ?_) | ((with_reducible apply AW.seq)) | ((with_reducible apply Then.n)) | ((with_reducible apply AW.regL)) | ((with_reducible apply AW.exit)) | ((with_reducible apply InBlk.hit)) | ((with_reducible apply Then.e)) | ((with_reducible apply AW.condF); exact rfl; (focus ((simp only [decide_eq_true_eq, decide_eq_false_iff_not, Bool.not_eq_true', Bool.not_eq_false', Bool.not_true, Bool.not_false]; first | assumption | omega))))))
    (refine AW.retD (l := [(2, _)]) (by repeat (first | exact trivial | (refine And.intro ⟨rfl, by (exact .int _ _)⟩ ?_))) ?_; (repeat (first | refine Then.r ?_ | refine InBlk.r ?_)))
    exact ⟨_, rfl, rfl, rfl⟩
set_option maxHeartbeats 4000000 in
set_option maxRecDepth 100000 in
theorem matched_ok {m : AM} {tv : Value} {c : Nat → Nat → Int} {l r : Nat} {mo : Int} (hT : Tab m tv c l r) (hl32 : l ≤ 32) (hr32 : r ≤ 32) :
    ACall Try.prog 70 #[tv, .int .i64 mo] m (More (fun M v => Ints M v (tab (kM (okc c mo) r l).1 r)) m) := by
  obtain ⟨a, cv, b, o, rfl, t1, t2, t3, t4, t5, t6, t7⟩ := id hT
  have wt : Low m.length (.pointer (some ⟨a, 0, none⟩)) := .ptr t1
  refine ACall.start Try.func70 rfl rfl ?_
  (repeat (first | (with_reducible refine AWo.cons ?_) | ((with_reducible refine Step.id ?_); first | ((with_reducible apply Step.move); exact rfl; exact rfl) | ((with_reducible apply Step.assign); exact rfl; exact rfl) | ((with_reducible apply Step.load); exact rfl; (focus (decide +kernel)); exact rfl; (focus (first | exact t4.old _ | exact Rd.new rfl rfl))) | ((with_reducible apply Step.field (k := 2)); exact rfl; (focus (decide +kernel)); exact rfl) | ((with_reducible apply Step.len); exact rfl; (focus (exact Sl.mk (by omega))); (focus (decide +kernel)); exact rfl) | ((with_reducible apply Step.nilp); exact rfl; exact rfl) | ((with_reducible apply Step.box 0); exact rfl; exact rfl; (focus (kernel_rfl)); exact rfl; (focus (first | (simp only [List.nil_append, List.cons_append, List.set_cons_zero, List.set_cons_succ, iv_set, bv_set, iv_rep, bv_rep]; done) | (simp only [List.nil_append, List.cons_append, List.set_cons_zero, List.set_cons_succ, iv_set, bv_set, iv_rep, bv_rep]; rfl) | rfl))) | ((with_reducible apply Step.box 1); exact rfl; exact rfl; (focus (kernel_rfl)); exact rfl; (focus (first | (simp only [List.nil_append, List.cons_append, List.set_cons_zero, List.set_cons_succ, iv_set, bv_set, iv_rep, bv_rep]; done) | (simp only [List.nil_append, List.cons_append, List.set_cons_zero, List.set_cons_succ, iv_set, bv_set, iv_rep, bv_rep]; rfl) | rfl))) | ((with_reducible apply Step.make1 2); exact rfl; exact rfl; exact rfl; exact el27; (focus (omega)); exact rfl; (focus (first | (simp only [List.nil_append, List.cons_append, List.set_cons_zero, List.set_cons_succ, iv_set, bv_set, iv_rep, bv_rep]; done) | (simp only [List.nil_append, List.cons_append, List.set_cons_zero, List.set_cons_succ, iv_set, bv_set, iv_rep, bv_rep]; rfl) | rfl))) | ((with_reducible apply Step.alloc 3); exact rfl; exact ze27; exact rfl; (focus (first | (simp only [List.nil_append, List.cons_append, List.set_cons_zero, List.set_cons_succ, iv_set, bv_set, iv_rep, bv_rep]; done) | (simp only [List.nil_append, List.cons_append, List.set_cons_zero, List.set_cons_succ, iv_set, bv_set, iv_rep, bv_rep]; rfl) | rfl))) | ((with_reducible apply Step.store (k := 3)); exact rfl; exact rfl; exact rfl; exact rfl; (focus (decide +kernel)); exact rfl; exact rfl; (focus (first | omega | (simp [iv, bv]; done) | (simp [iv, bv]; omega))); (focus (first | (simp only [List.nil_append, List.cons_append, List.set_cons_zero, List.set_cons_succ, iv_set, bv_set, iv_rep, bv_rep]; done) | (simp only [List.nil_append, List.cons_append, List.set_cons_zero, List.set_cons_succ, iv_set, bv_set, iv_rep, bv_rep]; rfl) | rfl)))) | (with_reducible refine AWo.nil ?_) | ((with_reducible apply AW.seq)) | ((with_reducible apply Then.n)) | ((with_reducible apply AW.regL)) | ((with_reducible apply AW.block))))
  refine AW.loopT (fun rk t L => ∃ k : Nat, rk = r - k ∧ k ≤ r ∧ L = [some { cells := [.pointer (some ⟨a, 0, none⟩)] }, some { cells := [.int .i64 mo] }, some { cells := iv (tab (fun x => if x < k then -1 else 0) r) }, some { cells := [.slice (some ⟨m.length + 2, 0, none⟩) r r] }] ∧
      t = [(2, .pointer (some ⟨m.length + 0, 0, none⟩)), (3, .pointer (some ⟨m.length + 1, 0, none⟩)), (5, .pointer (some ⟨m.length + 3, 0, none⟩)), (16, .int .i64 (r : Nat)), (17, .int .i64 (k : Nat))])
    ⟨_, _, [some { cells := [.pointer (some ⟨a, 0, none⟩)] }, some { cells := [.int .i64 mo] }, some { cells := iv (List.replicate r 0) }, some { cells := [.slice (some ⟨m.length + 2, 0, none⟩) r r] }], (Or.inl ⟨rfl, (by repeat (first | exact trivial | (refine And.intro rfl ?_)))⟩), 0, rfl, Nat.zero_le _, by simp only [tab_rep]; simp, rfl⟩ ?_
  rintro rk t L ⟨k, rfl, hk, rfl, rfl⟩
  rcases Nat.lt_or_ge k r with hkl | hkg
  · (repeat (first | (with_reducible refine AWo.cons ?_) | ((with_reducible refine Step.id ?_); first | ((with_reducible apply Step.move); exact rfl; exact rfl) | ((with_reducible apply Step.assign); exact rfl; exact rfl) | ((with_reducible apply Step.load); exact rfl; (focus (decide +kernel)); exact rfl; (focus (exact Rd.new rfl rfl))) | ((with_reducible apply Step.ix1z); exact rfl; (focus (exact Sl.mk (by omega))); exact rfl; (focus (decide +kernel)); exact rfl; (focus (omega))) | ((with_reducible apply Step.add); exact rfl; exact rfl; (focus (omega)); exact rfl) | ((with_reducible apply Step.lss); exact rfl; exact rfl; exact rfl) | ((with_reducible apply Step.store (k := 2)); exact rfl; exact rfl; exact rfl; exact rfl; (focus (decide +kernel)); exact rfl; exact rfl; (focus (first | omega | (simp [iv, bv]; done) | (simp [iv, bv]; omega))); (focus (first | (simp only [List.nil_append, List.cons_append, List.set_cons_zero, List.set_cons_succ, iv_set, bv_set, iv_rep, bv_rep]; done) | (simp only [List.nil_append, List.cons_append, List.set_cons_zero, List.set_cons_succ, iv_set, bv_set, iv_rep, bv_rep]; rfl) | rfl)))) | (with_reducible refine AWo.nil ?_) | ((with_reducible apply AW.seq)) | ((with_reducible apply Then.n)) | ((with_reducible apply AW.regL)) | ((with_reducible apply AW.block)) | ((with_reducible apply InBlk.n)) | ((with_reducible apply AW.skip)) | ((with_reducible apply AW.condT); exact rfl; (focus ((simp only [decide_eq_true_eq, decide_eq_false_iff_not, Bool.not_eq_true', Bool.not_eq_false', Bool.not_true, Bool.not_false]; first | assumption | omega))))))
    exact ⟨_, _, [some { cells := [.pointer (some ⟨a, 0, none⟩)] }, some { cells := [.int .i64 mo] }, some { cells := iv (tab (fun x => if x < k + 1 then -1 else 0) r) }, some { cells := [.slice (some ⟨m.length + 2, 0, none⟩) r r] }], by omega, by rw [tab_set, fill_step]; exact (Or.inl ⟨rfl, (by repeat (first | exact trivial | (refine And.intro rfl ?_)))⟩), k + 1, rfl, by omega, rfl, rfl⟩
  obtain rfl : k = r := by omega
  rw [fill_all]
  (repeat (first | (with_reducible refine AWo.cons ?_) | ((with_reducible refine Step.id ?_); first | ((with_reducible apply Step.move); exact rfl; exact rfl) | ((with_reducible apply Step.load); exact rfl; (focus (decide +kernel)); exact rfl; (focus (first | exact t3.old _ | exact Rd.new rfl rfl))) | ((with_reducible apply Step.field (k := 1)); exact rfl; (focus (decide +kernel)); exact rfl) | ((with_reducible apply Step.lss); exact rfl; exact rfl; exact rfl) | ((with_reducible apply Step.nilp); exact rfl; exact rfl) | ((with_reducible apply Step.fn); exact rfl; exact rfl; exact rfl) | ((with_reducible apply Step.alloc 4); exact rfl; exact ze27; exact rfl; (focus (first | (simp only [List.nil_append, List.cons_append, List.set_cons_zero, List.set_cons_succ, iv_set, bv_set, iv_rep, bv_rep]; done) | (simp only [List.nil_append, List.cons_append, List.set_cons_zero, List.set_cons_succ, iv_set, bv_set, iv_rep, bv_rep]; rfl) | rfl))) | ((with_reducible apply Step.alloc 5); exact rfl; exact ze112; exact rfl; (focus (first | (simp only [List.nil_append, List.cons_append, List.set_cons_zero, List.set_cons_succ, iv_set, bv_set, iv_rep, bv_rep]; done) | (simp only [List.nil_append, List.cons_append, List.set_cons_zero, List.set_cons_succ, iv_set, bv_set, iv_rep, bv_rep]; rfl) | rfl))) | ((with_reducible apply Step.store (k := 5)); exact rfl; exact rfl; exact rfl; exact rfl; (focus (decide +kernel)); exact rfl; exact rfl; (focus (first | omega | (simp [iv, bv]; done) | (simp [iv, bv]; omega))); (focus (first | (simp only [List.nil_append, List.cons_append, List.set_cons_zero, List.set_cons_succ, iv_set, bv_set, iv_rep, bv_rep]; done) | (simp only [List.nil_append, List.cons_append, List.set_cons_zero, List.set_cons_succ, iv_set, bv_set, iv_rep, bv_rep]; rfl) | rfl)))) | (with_reducible refine AWo.nil ?_) | ((with_reducible apply AW.seq)) | ((with_reducible apply Then.n)) | ((with_reducible apply AW.regL)) | ((with_reducible apply AW.block)) | ((with_reducible apply AW.exit)) | ((with_reducible apply InBlk.hit)) | ((with_reducible apply Then.e)) | ((with_reducible apply AW.condF); exact rfl; (focus ((simp only [decide_eq_true_eq, decide_eq_false_iff_not, Bool.not_eq_true', Bool.not_eq_false', Bool.not_true, Bool.not_false]; first | assumption | omega))))))
  refine AW.loopW (fun rk t M => ∃ (i : Nat) (N : AM) (v4 : Value), rk = l - i ∧ i ≤ l ∧ M = m ++ N ∧ (m ++ N)[m.length + 0]? = some (some { cells := [.pointer (some ⟨a, 0, none⟩)] }) ∧ (m ++ N)[m.length + 1]? = some (some { cells := [.int .i64 mo] }) ∧ (m ++ N)[m.length + 2]? = some (some { cells := iv (tab (kM (okc c mo) k i).1 k) }) ∧
      (m ++ N)[m.length + 3]? = some (some { cells := [.slice (some ⟨m.length + 2, 0, none⟩) k k] }) ∧ (m ++ N)[m.length + 4]? = some (some { cells := [v4] }) ∧
      (m ++ N)[m.length + 5]? = some (some { cells := [.func (.func 97) #[] #[.pointer (some ⟨m.length + 0, 0, none⟩), .pointer (some ⟨m.length + 1, 0, none⟩), .pointer (some ⟨m.length + 4, 0, none⟩), .pointer (some ⟨m.length + 3, 0, none⟩), .pointer (some ⟨m.length + 5, 0, none⟩)]] }) ∧
      t = fr [(2, .pointer (some ⟨m.length + 0, 0, none⟩)), (5, .pointer (some ⟨m.length + 3, 0, none⟩)), (7, .pointer (some ⟨m.length + 4, 0, none⟩)), (8, .pointer (some ⟨m.length + 5, 0, none⟩)), (28, .int .i64 (l : Nat)), (29, .int .i64 (i : Nat))])
    ⟨_, _, (by repeat (first | exact trivial | (refine And.intro rfl ?_))), 0, _, _, rfl, Nat.zero_le _, rfl, by rw [get_app]; rfl, by rw [get_app]; rfl, by rw [get_app]; rfl, by rw [get_app]; rfl, by rw [get_app]; rfl, by rw [get_app]; rfl, rfl⟩ ?_
  rintro rk t M ⟨i, N, v4, rfl, hi, rfl, n0, n1, n2, n3, n4, n5, rfl⟩
  have hinv := kM_inv (okc c mo) k i
  have hbd := kinv_bd hinv hi
  have hlen : m.length + 5 < (m ++ N).length := (List.getElem?_eq_some_iff.1 n5).1
  have rt : ∀ {N : AM} {o : Nat} {v : Value}, Rd m a o v → Rd (m ++ N) a o v := fun h => h.old _
  rcases Nat.lt_or_ge i l with hil | hig
  · (repeat (first | (with_reducible refine AWo.cons ?_) | ((with_reducible refine Step.id ?_); first | ((with_reducible apply Step.move); exact rfl; exact rfl) | ((with_reducible apply Step.assign); exact rfl; exact rfl) | ((with_reducible apply Step.load); exact rfl; (focus (decide +kernel)); exact rfl; (focus (first | exact rd_at n0 rfl | exact t4.old _))) | ((with_reducible apply Step.field (k := 2)); exact rfl; (focus (decide +kernel)); exact rfl) | ((with_reducible apply Step.lss); exact rfl; exact rfl; exact rfl) | ((with_reducible apply Step.nilp); exact rfl; exact rfl)) | (with_reducible refine AWo.nil ?_) | ((with_reducible apply AW.seq)) | ((with_reducible apply Then.n)) | ((with_reducible apply AW.regL)) | ((with_reducible apply AW.block)) | ((with_reducible apply AW.skip)) | ((with_reducible apply AW.condT); exact rfl; (focus ((simp only [decide_eq_true_eq, decide_eq_false_iff_not, Bool.not_eq_true', Bool.not_eq_false', Bool.not_true, Bool.not_false]; first | assumption | omega))))))
    ((with_reducible apply Step.makeG); exact rfl; exact rfl; exact el88; (focus (omega)); exact rfl)
    (repeat ((with_reducible refine AWo.cons ?_)))
    have n4' : ((m ++ N) ++ [some { cells := List.replicate k (.bool false) }])[m.length + 4]? = some (some { cells := [v4] }) := get_old _ n4
    obtain ⟨M2, hM2⟩ : ∃ M2, ((m ++ N) ++ [some ({ cells := List.replicate k (.bool false) } : Blk)]).set (m.length + 4) (some { cells := [.slice (some ⟨(m ++ N).length, 0, none⟩) k k] }) = M2 := ⟨_, rfl⟩
    ((with_reducible apply Step.storeV); exact rfl; exact rfl; exact n4'; (focus (decide +kernel)); exact rfl; exact rfl; exact hM2)
    have hpre : ∃ N2, M2 = m ++ N2 := by
      rw [← hM2, List.append_assoc]
      exact pre_set (by omega)
    have hl2 : M2.length = (m ++ N).length + 1 := by rw [← hM2]; simp; omega
    have hne : ∀ x, x ≠ m.length + 4 → x < (m ++ N).length → M2[x]? = (m ++ N)[x]? := fun x h1 h2 => by
      rw [← hM2, List.getElem?_set_ne (Ne.symm h1), List.getElem?_append_left h2]
    have k4 : M2[m.length + 4]? = some (some { cells := [.slice (some ⟨(m ++ N).length, 0, none⟩) k k] }) := by
      rw [← hM2, List.getElem?_set_self (by simp only [List.length_append] at hlen ⊢; omega)]
    have kp : M2[(m ++ N).length]? = some (some { cells := bv (tabB (fun _ => false) k) }) := by
      rw [← hM2, List.getElem?_set_ne (by omega), List.getElem?_append_right (Nat.le_refl _), Nat.sub_self, ← tabB_rep, ← bv_rep]; rfl
    have k0 := (hne (m.length + 0) (by omega) (by omega)).trans n0
    have k1 := (hne (m.length + 1) (by omega) (by omega)).trans n1
    have k2 := (hne (m.length + 2) (by omega) (by omega)).trans n2
    have k3 := (hne (m.length + 3) (by omega) (by omega)).trans n3
    have k5 := (hne (m.length + 5) (by omega) (by omega)).trans n5
    have hself := KM.self (r := k) (s := (fun _ => false, (kM (okc c mo) k i).1)) kp k2
    clear n0 n1 n2 n3 n4 n4' n5 hM2
    generalize hpp : (m ++ N).length = pp at *
    have hm : ∀ s, ∃ N', KM M2 pp (m.length + 2) k s = m ++ N' := fun s => by
      obtain ⟨N2, rfl⟩ := hpre
      exact KM.pre (by omega) (by omega)
    have hx : ∀ (s : KS) {x : Nat} {b : Blk}, x ≠ pp → x ≠ m.length + 2 → M2[x]? = some (some b) → (KM M2 pp (m.length + 2) k s)[x]? = some (some b) := fun s x b h1 h2 h => by rw [KM.ne h1 h2]; exact h
    have hc := find_ok (m0 := m) (m := M2) (p := pp) (q := m.length + 2) (a1 := m.length + 0) (a2 := m.length + 1) (a3 := m.length + 4) (a4 := m.length + 3) (a5 := m.length + 5) (mo := mo) (by omega) (by omega) (by omega) hl32 hr32 hm hT
      (fun s => rd_at (hx s (by omega) (by omega) k0) rfl) (fun s => rd_at (hx s (by omega) (by omega) k1) rfl) (fun s => rd_at (hx s (by omega) (by omega) k4) rfl) (fun s => rd_at (hx s (by omega) (by omega) k3) rfl) (fun s => rd_at (hx s (by omega) (by omega) k5) rfl)
      (k + 1) i (fun _ => false, (kM (okc c mo) k i).1) hil (by have : unN (fun _ => false) k ≤ k := cN_le _; simp only; omega) hbd
    rw [hself] at hc
    have e1 : (kM (okc c mo) k (i + 1)).1 = (kF (okc c mo) k (k + 1) i (fun _ => false, (kM (okc c mo) k i).1)).2.2 := rfl
    generalize kF (okc c mo) k (k + 1) i (fun _ => false, (kM (okc c mo) k i).1) = res at *
    obtain ⟨b', s2⟩ := res
    simp only at hc e1
    (repeat (first | (with_reducible refine AWo.cons ?_) | ((with_reducible refine Step.id ?_); first | ((with_reducible apply Step.move); exact rfl; exact rfl) | ((with_reducible apply Step.load); exact rfl; (focus (decide +kernel)); exact rfl; (focus (exact rd_at k5 rfl)))) | (with_reducible refine AWo.nil ?_) | ((with_reducible apply Then.n)) | ((with_reducible apply AW.regL))))
    ((with_reducible apply Step.call fit); exact rfl; exact rfl; exact Try.func97; exact rfl; exact rfl; exact hc)
    rintro _ _ ⟨rfl, rfl⟩
    (repeat (first | (with_reducible refine AWo.cons ?_) | ((with_reducible refine Step.id ?_); first | ((with_reducible apply Step.move); exact rfl; exact rfl) | ((with_reducible apply Step.add); exact rfl; exact rfl; (focus (omega)); exact rfl)) | (with_reducible refine AWo.nil ?_) | ((with_reducible apply Then.n)) | ((with_reducible apply AW.regL)) | ((with_reducible apply InBlk.n))))
    obtain ⟨N', hN'⟩ := hm s2
    refine ⟨_, _, ?_, (by repeat (first | exact trivial | (refine And.intro rfl ?_))), i + 1, N', .slice (some ⟨pp, 0, none⟩) k k, rfl, by omega, hN', ?_, ?_, ?_, ?_, ?_, ?_, rfl⟩
    · omega
    · rw [← hN']; exact hx s2 (by omega) (by omega) k0
    · rw [← hN']; exact hx s2 (by omega) (by omega) k1
    · rw [← hN', e1]; exact KM.getq (by omega)
    · rw [← hN']; exact hx s2 (by omega) (by omega) k3
    · rw [← hN']; exact hx s2 (by omega) (by omega) k4
    · rw [← hN']; exact hx s2 (by omega) (by omega) k5
  · obtain rfl : i = l := by omega
    (repeat (first | (with_reducible refine AWo.cons ?_) | ((with_reducible refine Step.id ?_); first | ((with_reducible apply Step.assign); exact rfl; exact rfl) | ((with_reducible apply Step.load); exact rfl; (focus (decide +kernel)); exact rfl; (focus (exact rd_at n3 rfl))) | ((with_reducible apply Step.lss); exact rfl; exact rfl; exact rfl)) | (with_reducible refine AWo.nil ?_) | ((with_reducible apply AW.seq)) | ((with_reducible apply Then.n)) | ((with_reducible apply AW.regL)) | ((with_reducible apply AW.exit)) | ((with_reducible apply InBlk.hit)) | ((with_reducible apply Then.e)) | ((with_reducible apply AW.condF); exact rfl; (focus ((simp only [decide_eq_true_eq, decide_eq_false_iff_not, Bool.not_eq_true', Bool.not_eq_false', Bool.not_true, Bool.not_false]; first | assumption | omega))))))
    (refine AW.ret ?_; (repeat (first | refine Then.r ?_ | refine InBlk.r ?_)))
    exact ⟨_, rfl, _, rfl, ints_at n2 rfl _ (by simp)⟩
end Go.Proofs.Ytajpngnphbdnnaa.Abs
namespace Go.Proofs.Ytajpngnphbdnnaa.Hung
set_option linter.unusedSimpArgs false
set_option linter.unusedVariables false
abbrev RS := (Nat → Bool) × (Nat → Bool)
end Go.Proofs.Ytajpngnphbdnnaa.Hung
namespace Go.Proofs.Ytajpngnphbdnnaa.Abs
set_option linter.unusedSimpArgs false
set_option linter.unusedVariables false
open Go.RowKit
open Go.Proofs.Ytajpngnphbdnnaa.Sim
open Go.Proofs
open Hung
/-- The memory in which blocks p and q hold which gloves are reached. -/
def RM (m : AM) (p q l r : Nat) (s : RS) : AM := (m.set p (some { cells := bv (tabB s.1 l) })).set q (some { cells := bv (tabB s.2 r) })
section
variable {m : AM} {p q l r : Nat} {s : RS}
theorem RM.len : (RM m p q l r s).length = m.length := by simp [RM]
theorem RM.getp (hp : p < m.length) (hpq : p ≠ q) : (RM m p q l r s)[p]? = some (some { cells := bv (tabB s.1 l) }) := by
  unfold RM; rw [List.getElem?_set_ne (Ne.symm hpq)]; simp [hp]
theorem RM.getq (hq : q < m.length) : (RM m p q l r s)[q]? = some (some { cells := bv (tabB s.2 r) }) := by
  unfold RM; simp [hq]
theorem RM.seen {j : Nat} {b : Bool} (hq : q < m.length) (hj : j < r) (hb : s.2 j = b) : Rd (RM m p q l r s) q j (.bool b) :=
  ⟨_, RM.getq hq, by subst hb; have := bv_get (l := tabB s.2 r) (k := j) (by simpa using hj); rwa [tabB_get s.2 hj] at this⟩
theorem RM.set1 {j : Nat} (hpq : p ≠ q) : (RM m p q l r s).set p (some { cells := (bv (tabB s.1 l)).set j (.bool true) }) = RM m p q l r (up s.1 j true, s.2) := by
  unfold RM
  rw [List.set_comm _ _ hpq, bv_set, tabB_set, List.set_set, List.set_comm _ _ hpq]
theorem RM.set2 {j : Nat} : (RM m p q l r s).set q (some { cells := (bv (tabB s.2 r)).set j (.bool true) }) = RM m p q l r (s.1, up s.2 j true) := by
  unfold RM
  rw [bv_set, tabB_set, List.set_set]
theorem RM.self (h1 : m[p]? = some (some { cells := bv (tabB s.1 l) })) (h2 : m[q]? = some (some { cells := bv (tabB s.2 r) })) : RM m p q l r s = m := by
  have e : ∀ {a : Nat} {x : Option Blk}, m[a]? = some x → m.set a x = m := fun {a x} h => by
    apply List.ext_getElem?
    intro i
    by_cases e : i = a
    · subst e; rw [List.getElem?_set_self (List.getElem?_eq_some_iff.1 h).1, h]
    · rw [List.getElem?_set_ne (Ne.symm e)]
  unfold RM
  rw [e h1, e h2]
theorem RM.ne {a : Nat} (h1 : a ≠ p) (h2 : a ≠ q) : (RM m p q l r s)[a]? = m[a]? := by
  unfold RM
  rw [List.getElem?_set_ne (Ne.symm h2), List.getElem?_set_ne (Ne.symm h1)]
theorem RM.pre {N : AM} (h1 : m.length ≤ p) (h2 : m.length ≤ q) : ∃ N', RM (m ++ N) p q l r s = m ++ N' := by
  unfold RM
  obtain ⟨N1, e1⟩ := pre_set (m := m) (N := N) (p := p) (x := some { cells := bv (tabB s.1 l) }) h1
  rw [e1]
  exact pre_set h2
end
section
variable {P : Program} {nt : Nat} {ops : Array Oper} {t : Fm} {m : AM} {K : Fm → AM → Prop} {T : Nat} {pp : String} {af : Array Edge}
end
end Go.Proofs.Ytajpngnphbdnnaa.Abs
namespace Go.Proofs.Ytajpngnphbdnnaa.Abs
set_option linter.unusedSimpArgs false
set_option linter.unusedVariables false
open Go.RowKit
open Go.Proofs.Ytajpngnphbdnnaa.Sim
section
variable {P : Program} {nt : Nat} {ops : Array Oper} {t : Fm} {m : AM} {K : Fm → AM → Prop} {d T : Nat} {p : String} {af : Array Edge}
theorem rel_nil {R : Pl} {v : Value} (h : Rel R (.slice none 0 0) v) : v = .slice none 0 0 := by cases h; rfl
theorem rel_int {R : Pl} {v : Value} {k : IntKind} {n : Int} (h : Rel R (.int k n) v) : v = .int k n := by cases h; rfl
theorem Step.capNil {x : Operand} {X e : TypeId} (hx : evo t x = some (.slice none 0 0)) (hX : P.underlying X = some (.slice e)) (hlt : Nat.blt d nt = true) (hK : K (put t d (.int .i64 0)) m) :
    Step P nt ops ⟨some d, .call ⟨.builtin .cap, #[x], #[X]⟩, T, p, af, none⟩ t m K := by
  refine .l rfl rfl hlt rfl (by simp [Op.operands, Call.operands, hx]) ?_
  intro base R w a Q next hb hm hev hn
  have hr : Rel R (evD t x) (a.eval x) := hev x (by simp [Op.operands, Call.operands])
  rw [evD_of hx] at hr
  have he : a.eval x = .slice none 0 0 := rel_nil hr
  exact wp_of_does rfl (.inl (by simp [execOp, resolve, invoke, builtin, he, Builtin.cap_, run_underlying hX]; rfl)) (hn R (.int .i64 0) _ m w (.int ..) (.refl hm) hK)
theorem zeros_cells {v : Value} (n : Nat) : (Builtin.zeroCells #[v] n).toList = List.replicate n v := by
  unfold Builtin.zeroCells
  apply List.ext_getElem?
  intro j
  by_cases h : j < n
  · simp [h, Nat.mod_one]
  · simp [h]
theorem Step.zeros {x y : Operand} {X Y e by_ n : Nat} {z : Value} {k kn : IntKind} (hx : evo t x = some (.slice none 0 0)) (hy : evo t y = some (.int k ((n : Nat) : Int))) (hE : elemB P X = some (e, 1, by_, #[z])) (hY : P.underlying Y = some (.int kn)) (h0 : 0 < n) (hb : n * by_ ≤ 281474976710656) (h63 : n ≤ 9223372036854775807)
    (hg : g0 z = true) (hlt : Nat.blt d nt = true) (hK : K (put t d (.slice (some ⟨m.length, 0, none⟩) n n)) (m ++ [some { cells := List.replicate n z, kind := .grow, size := 1 }])) :
    Step P nt ops ⟨some d, .call ⟨.builtin .append, #[x, y], #[X, Y]⟩, T, p, af, none⟩ t m K := by
  refine .l rfl rfl hlt rfl (by simp [Op.operands, Call.operands, hx, hy]) ?_
  intro base R w a Q next hbs hm hev hn
  have hr : Rel R (evD t x) (a.eval x) := hev x (by simp [Op.operands, Call.operands])
  rw [evD_of hx] at hr
  have he : a.eval x = .slice none 0 0 := rel_nil hr
  have hr2 : Rel R (evD t y) (a.eval y) := hev y (by simp [Op.operands, Call.operands])
  rw [evD_of hy] at hr2
  have he2 : a.eval y = .int k ((n : Nat) : Int) := rel_int hr2
  obtain ⟨hu, i, zz, h1, h2, h3, h4, h5, h6, h7⟩ := elemB_spec hE
  have hrun := Go.Lib.run_append_nil_zeros (P := P) w X Y T e i zz k kn hu hY h1 h4 n h0 (by omega) (by omega) (by rw [h3]; exact hb)
  have hp := hm.pad 1
  have hge : n ≤ grownCap w n 0 e := by
    have := grownCap_ge w n 0 e
    omega
  have hfree : (m ++ [none])[m.length]? = some none := pad_one
  have hone : ∀ j v, (List.replicate n z)[j]? = some v → v = z := fun j v h => by
    rw [List.getElem?_replicate] at h
    split at h
    · injection h with h; exact h.symm
    · cases h
  have hzz : (Builtin.zeroCells zz.cells n).toList = List.replicate n z := by rw [h5, zeros_cells]
  have hgrow := grown_ok (n := m.length) hp hbs (.inl rfl) hfree (hm.none_ _ (Nat.le_refl _)) { cells := List.replicate n z, kind := .grow, size := 1 } rfl (grownCap w n 0 e - n) (Builtin.zeroCells zz.cells n ++ Builtin.zeroCells zz.cells (grownCap w n 0 e - n)) e
    (by simp only [List.length_replicate, Array.size_append, size_zeroCells, h5]; simp <;> omega) (fun j v hj => by
      refine ⟨v, ?_, ?_, ?_⟩
      · have hjn : j < n := by have := (List.getElem?_eq_some_iff.1 hj).1; simpa using this
        rw [← hzz] at hj
        rw [Array.getElem?_append_left (by rw [← Array.length_toList, hzz]; simpa using hjn)]
        simpa using hj
      · rw [hone j v hj]; exact g0_rel hg
      · rw [hone j v hj]; exact (g0one_rel (R := R) h7).2 z (by simp))
  have hset : (m ++ List.replicate 1 none).set m.length (some { cells := List.replicate n z, kind := .grow, size := 1 }) = m ++ [some { cells := List.replicate n z, kind := .grow, size := 1 }] := by
    rw [List.set_append_right _ _ (Nat.le_refl _)]; simp
  rw [hset] at hgrow
  exact wp_of_does rfl (.inl (by simp [execOp, resolve, invoke, builtin, he, he2, hrun])) (hn _ _ _ _ _ (slice_put (n := m.length) (l := n) (c := grownCap w n 0 e) (x := grownCap w n 0 e - n) (by omega)) ⟨hgrow.le, hgrow.rep, hgrow.os, hgrow.tape, hgrow.output, hgrow.size, fun k hk ho => hgrow.keep k hk fun ho' => ho ho'.pad, fun k ho => (hgrow.sub k ho).imp (fun h => h) Owned.pad⟩ hK)
theorem acells_ints {m : AM} {v : Value} {B : List Int} (h : Ints m v B) : aSliceLen v = some B.length ∧ acells m 1 B.length v = some (iv B) := by
  obtain ⟨a, o, h1, h2, h3⟩ := h
  rcases h1 with ⟨rfl, hn⟩ | ⟨c, hc, rfl⟩ | ⟨hn, o', k, rfl⟩
  · have : B = [] := List.eq_nil_of_length_eq_zero hn
    subst this; exact ⟨rfl, rfl⟩
  · refine ⟨rfl, ?_⟩
    simp only [acells]
    by_cases h0 : B.length = 0
    · have : B = [] := List.eq_nil_of_length_eq_zero h0
      subst this; rfl
    · rw [if_neg h0]
      obtain ⟨b, hb, _⟩ := h3 0 (by omega)
      rw [hb]
      have hget : ∀ k, k < B.length → b.cells[o + k]? = some (.int .i64 (B.getD k 0)) := fun k hk => by
        obtain ⟨b', hb', hv⟩ := h3 k hk
        rw [hb] at hb'
        injection hb' with hb'
        injection hb' with hb'
        subst hb'; exact hv
      have hlast := (List.getElem?_eq_some_iff.1 (hget (B.length - 1) (by omega))).1
      simp only
      rw [if_pos ⟨Nat.le_refl _, by omega⟩]
      congr 1
      apply List.ext_getElem?
      intro k
      rw [Nat.mul_one]
      by_cases hk : k < B.length
      · rw [List.getElem?_take_of_lt hk, List.getElem?_drop, hget k hk, iv_get hk]
      · rw [List.getElem?_eq_none (by simp; omega), List.getElem?_eq_none (by simp [iv]; omega)]
  · have : B = [] := List.eq_nil_of_length_eq_zero hn
    subst this; exact ⟨rfl, rfl⟩
theorem Step.appW {x y : Operand} {X Y e e' : TypeId} {by_ : Nat} {z : Array Value} {k q n cp : Nat} {c old Z : List Value} {B : List Int} {yv : Value} {b : Blk} {M L L' : AM} (hk : L.length = k) (hx : evo t x = some (.slice (some ⟨M.length + q, 0, none⟩) n cp)) (hy : evo t y = some yv) (hI : Ints (M ++ L) yv B) (hE : elemB P X = some (e, 1, by_, z)) (hY : P.underlying Y = some (.slice e'))
    (hq : L[q]? = some (some b)) (hbs : b.kind.solid = true) (hbc : b.cells = c ++ (old ++ Z)) (hc : c.length = n) (ho : old.length = B.length) (hcp : n + B.length ≤ cp) (hlt : Nat.blt d nt = true)
    (hL : L.set q (some { b with cells := c ++ (iv B ++ Z) }) ++ [none] = L') (hK : K (put t d (.slice (some ⟨M.length + q, 0, none⟩) (n + B.length) cp)) (M ++ L')) :
    Step P nt ops ⟨some d, .call ⟨.builtin .append, #[x, y], #[X, Y]⟩, T, p, af, none⟩ t (M ++ L) K := by
  subst hL
  refine .l rfl rfl hlt rfl (by simp [Op.operands, Call.operands, hx, hy]) (loudN hk rfl (v := .slice (some ⟨M.length + q, 0, none⟩) (n + B.length) cp) ?_ hK)
  obtain ⟨h1, h2⟩ := acells_ints (hI.old [none])
  have hql : q < L.length := (List.getElem?_eq_some_iff.1 hq).1
  have hg : ((M ++ L) ++ [none])[M.length + q]? = some (some b) := by rw [List.append_assoc, get_app, List.getElem?_append_left hql, hq]
  simp only [aloud, evD_of hx, evD_of hy, aappend, hE, hY, h1, h2]
  rw [if_neg (by simp [iv, Value.oneCell'])]
  by_cases h0 : B.length = 0
  · have hB : B = [] := List.eq_nil_of_length_eq_zero h0
    subst hB
    have hold : old = [] := List.eq_nil_of_length_eq_zero ho
    subst hold
    rw [if_pos (show ([] : List Int).length = 0 from rfl)]
    have e1 : ({ b with cells := c ++ (iv [] ++ Z) } : Blk) = b := by
      have : c ++ (iv [] ++ Z) = b.cells := by rw [hbc]; rfl
      rw [this]
    have e2 : L.set q (some b) = L := by
      apply List.ext_getElem?
      intro j
      by_cases hj : q = j
      · subst hj; rw [List.getElem?_set_self hql, hq]
      · rw [List.getElem?_set_ne hj]
    rw [e1, e2, List.append_assoc]; rfl
  · rw [if_neg h0]
    simp only [hg]
    have hbl : b.cells.length = n + B.length + Z.length := by rw [hbc]; simp [hc, ho]; omega
    rw [if_pos hcp, if_pos (by simp [hbs, hbl, iv])]
    have hsp : splice b.cells (0 + n * 1) (iv B) = c ++ (iv B ++ Z) := by
      unfold splice
      rw [hbc, Nat.zero_add, Nat.mul_one, ← hc]
      have : (iv B).length = old.length := by rw [ho]; simp [iv]
      rw [this]
      simp
    rw [hsp]
    simp only [Option.some.injEq, Prod.mk.injEq, true_and]
    rw [List.append_assoc, set_app, List.set_append_left _ _ hql]
theorem Step.app00 {x y : Operand} {X Y e e' : TypeId} {s by_ : Nat} {z : Array Value} {k : Nat} {yv : Value} {M L L' : AM} (hk : L.length = k) (hx : evo t x = some (.slice none 0 0)) (hy : evo t y = some yv) (hI : Ints (M ++ L) yv []) (hE : elemB P X = some (e, s, by_, z)) (hY : P.underlying Y = some (.slice e')) (hs : Nat.blt 0 s = true)
    (hlt : Nat.blt d nt = true) (hL : L ++ [none] = L') (hK : K (put t d (.slice none 0 0)) (M ++ L')) :
    Step P nt ops ⟨some d, .call ⟨.builtin .append, #[x, y], #[X, Y]⟩, T, p, af, none⟩ t (M ++ L) K := by
  subst hL
  simp at hs
  refine .l rfl rfl hlt rfl (by simp [Op.operands, Call.operands, hx, hy]) (loudN hk rfl (v := .slice none 0 0) ?_ hK)
  obtain ⟨h1, h2⟩ := acells_ints (hI.old [none])
  have h1 : aSliceLen yv = some 0 := h1
  have h3 : acells (M ++ L ++ [none]) s 0 yv = some [] := by
    obtain ⟨a, o, g, _⟩ := hI
    rcases g with ⟨rfl, _⟩ | ⟨c, _, rfl⟩ | ⟨_, o', k', rfl⟩ <;> rfl
  simp only [aloud, evD_of hx, evD_of hy, aappend, hE, hY, h1, h3]
  rw [if_neg (by simp; omega), if_pos trivial, List.append_assoc]
end
end Go.Proofs.Ytajpngnphbdnnaa.Abs
namespace Go.Proofs.Ytajpngnphbdnnaa.Abs
set_option linter.unusedSimpArgs false
set_option linter.unusedVariables false
open Go.RowKit
open Go.Proofs.Ytajpngnphbdnnaa.Sim
open Go.Proofs
set_option maxHeartbeats 4000000 in
set_option maxRecDepth 100000 in
theorem grow0_ok {m : AM} : ACall Try.prog 98 #[.slice none 0 0, .int .i64 0] m (Ret (.slice none 0 0) m) := by
  refine ACall.start Try.func98 rfl rfl ?_
  (repeat (first | (with_reducible refine AWo.cons ?_) | ((with_reducible refine Step.id ?_); first | ((with_reducible apply Step.move); exact rfl; exact rfl) | ((with_reducible apply Step.assign); exact rfl; exact rfl) | ((with_reducible apply Step.lss); exact rfl; exact rfl; exact rfl)) | (with_reducible refine AWo.nil ?_) | ((with_reducible apply AW.seq)) | ((with_reducible apply Then.n)) | ((with_reducible apply AW.regL)) | ((with_reducible apply AW.skip)) | ((with_reducible apply AW.condF); exact rfl; (focus (rfl)))))
  ((with_reducible apply Step.capNil); exact rfl; exact un27; exact rfl)
  (repeat (first | (with_reducible refine AWo.cons ?_) | ((with_reducible refine Step.id ?_); first | ((with_reducible apply Step.move); exact rfl; exact rfl) | ((with_reducible apply Step.assign); exact rfl; exact rfl) | ((with_reducible apply Step.sub); exact rfl; exact rfl; (focus (omega)); exact rfl) | ((with_reducible apply Step.gtr); exact rfl; exact rfl; exact rfl) | ((with_reducible apply Step.len); exact rfl; (focus (exact Sl.nil 0 0)); (focus (decide +kernel)); exact rfl)) | (with_reducible refine AWo.nil ?_) | ((with_reducible apply AW.seq)) | ((with_reducible apply Then.n)) | ((with_reducible apply AW.regL)) | ((with_reducible apply AW.skip)) | ((with_reducible apply AW.condF); exact rfl; (focus (rfl)))))
  (refine AW.retD (l := [(4, _)]) (by repeat (first | exact trivial | (refine And.intro ⟨rfl, by (exact Ren.of_g0 rfl)⟩ ?_))) ?_; (repeat (first | refine Then.r ?_ | refine InBlk.r ?_)))
  exact ⟨_, rfl, rfl, rfl⟩
end Go.Proofs.Ytajpngnphbdnnaa.Abs
namespace Go.Proofs.Ytajpngnphbdnnaa.Abs
set_option linter.unusedSimpArgs false
set_option linter.unusedVariables false
open Go.RowKit
open Go.Proofs.Ytajpngnphbdnnaa.Sim
open Go.Proofs
open Hung
/-- Blocks that lie somewhere, apart from each other. -/
structure Mz (n : Nat) (B : AM) (A : Nat → Bool) (ct : Nat → List Value) (p : Nat → Nat) (m : AM) : Prop where
  pre : ∃ N, m = B ++ N
  ar : ∀ k, k < n → A k = true → B.length ≤ p k ∧ m[p k]? = some (some { cells := ct k })
  dj : ∀ j k, j < n → k < n → A j = true → A k = true → p j = p k → j = k
section
variable {n : Nat} {B : AM} {A A' : Nat → Bool} {ct ct' : Nat → List Value} {p p' : Nat → Nat} {m : AM}
theorem Mz.congr (h : Mz n B A ct p m) (hA : ∀ k, k < n → A' k = A k) (hc : ∀ k, k < n → A k = true → ct' k = ct k) : Mz n B A' ct' p m :=
  ⟨h.pre, fun k hk ha => by rw [hA k hk] at ha; rw [hc k hk ha]; exact h.ar k hk ha, fun j k hj hk h1 h2 => h.dj j k hj hk (by rw [← hA j hj]; exact h1) (by rw [← hA k hk]; exact h2)⟩
theorem Mz.new (h : Mz n B A ct p m) {k : Nat} (z : List Value) (ha : A k = false) : Mz n B (upL A k) (up ct k z) (up p k m.length) (m ++ [some { cells := z }]) := by
  have hlt : ∀ j, j < n → A j = true → p j < m.length := fun j hj h1 => (List.getElem?_eq_some_iff.1 (h.ar j hj h1).2).1
  obtain ⟨N, hN⟩ := h.pre
  refine ⟨⟨N ++ [some { cells := z }], by rw [hN, List.append_assoc]⟩, fun j hj haj => ?_, fun i j hi hj hai haj e => ?_⟩
  · by_cases e : j = k
    · subst e
      rw [up_same, up_same]
      exact ⟨by rw [hN]; simp, by simp⟩
    · rw [upL_ne A e] at haj
      rw [up_ne _ _ e, up_ne _ _ e]
      exact ⟨(h.ar j hj haj).1, get_old _ (h.ar j hj haj).2⟩
  · by_cases e1 : i = k
    · by_cases e2 : j = k
      · rw [e1, e2]
      · rw [upL_ne A e2] at haj
        rw [e1, up_same, up_ne _ _ e2] at e
        have := hlt j hj haj; omega
    · rw [upL_ne A e1] at hai
      by_cases e2 : j = k
      · rw [e2, up_same, up_ne _ _ e1] at e
        have := hlt i hi hai; omega
      · rw [upL_ne A e2] at haj
        rw [up_ne _ _ e1, up_ne _ _ e2] at e
        exact h.dj i j hi hj hai haj e
theorem Mz.store (h : Mz n B A ct p m) {k : Nat} (c : List Value) (hk : k < n) (ha : A k = true) : Mz n B A (up ct k c) p (m.set (p k) (some { cells := c })) := by
  have hlt := (List.getElem?_eq_some_iff.1 (h.ar k hk ha).2).1
  have hge := (h.ar k hk ha).1
  obtain ⟨N, hN⟩ := h.pre
  refine ⟨⟨N.set (p k - B.length) (some { cells := c }), by rw [hN, List.set_append_right _ _ hge]⟩, fun j hj haj => ⟨(h.ar j hj haj).1, ?_⟩, h.dj⟩
  by_cases e : j = k
  · subst e
    rw [up_same, List.getElem?_set_self hlt]
  · rw [up_ne _ _ e, List.getElem?_set_ne fun q => e (h.dj j k hj hk haj ha q.symm)]
    exact (h.ar j hj haj).2
end
end Go.Proofs.Ytajpngnphbdnnaa.Abs
namespace Go.Proofs.Ytajpngnphbdnnaa.Abs
set_option linter.unusedSimpArgs false
set_option linter.unusedVariables false
open Go.RowKit
open Go.Proofs.Ytajpngnphbdnnaa.Sim
open Go.Proofs
open Hung
set_option maxHeartbeats 4000000 in
set_option maxRecDepth 100000 in
theorem growN_ok {m : AM} {n : Nat} (h0 : 0 < n) (hn : n ≤ 2000) : ACall Try.prog 98 #[.slice none 0 0, .int .i64 (n : Nat)] m (More (fun M v => v = .slice (some ⟨m.length + 0, 0, none⟩) 0 n ∧ M = m ++ [some { cells := List.replicate n (.int .i64 0), kind := .grow, size := 1 }]) m) := by
  refine ACall.start Try.func98 rfl rfl ?_
  (repeat (first | (with_reducible refine AWo.cons ?_) | ((with_reducible refine Step.id ?_); first | ((with_reducible apply Step.move); exact rfl; exact rfl) | ((with_reducible apply Step.assign); exact rfl; exact rfl) | ((with_reducible apply Step.lss); exact rfl; exact rfl; exact rfl)) | (with_reducible refine AWo.nil ?_) | ((with_reducible apply AW.seq)) | ((with_reducible apply Then.n)) | ((with_reducible apply AW.regL)) | ((with_reducible apply AW.skip)) | ((with_reducible apply AW.condF); exact rfl; (focus (rfl)))))
  ((with_reducible apply Step.capNil); exact rfl; exact un27; exact rfl)
  (repeat (first | (with_reducible refine AWo.cons ?_) | ((with_reducible refine Step.id ?_); first | ((with_reducible apply Step.move); exact rfl; exact rfl) | ((with_reducible apply Step.assign); exact rfl; exact rfl) | ((with_reducible apply Step.sub); exact rfl; exact rfl; (focus (omega)); exact rfl) | ((with_reducible apply Step.gtr); exact rfl; exact rfl; exact rfl) | ((with_reducible apply Step.len); exact rfl; (focus (exact Sl.nil 0 0)); (focus (decide +kernel)); exact rfl)) | (with_reducible refine AWo.nil ?_) | ((with_reducible apply AW.seq)) | ((with_reducible apply Then.n)) | ((with_reducible apply AW.regL)) | ((with_reducible apply AW.condT); exact rfl; (focus ((simp only [decide_eq_true_eq, decide_eq_false_iff_not, Bool.not_eq_true', Bool.not_eq_false', Bool.not_true, Bool.not_false]; first | assumption | omega))))))
  ((with_reducible apply Step.capNil); exact rfl; exact un27; exact rfl)
  (repeat ((with_reducible refine AWo.cons ?_)))
  ((with_reducible apply Step.slToNil); exact rfl; exact rfl; exact rfl; exact un27; exact sz3; exact rfl)
  (repeat (first | (with_reducible refine AWo.cons ?_) | ((with_reducible refine Step.id ?_); ((with_reducible apply Step.move); exact rfl; exact rfl))))
  ((with_reducible apply Step.zeros (n := n)); exact rfl; exact rfl; exact el27; exact Try.underlying3; exact h0; (focus (omega)); (focus (omega)); exact rfl; exact rfl)
  (repeat (first | (with_reducible refine AWo.cons ?_) | ((with_reducible refine Step.id ?_); first | ((with_reducible apply Step.move); exact rfl; exact rfl) | ((with_reducible apply Step.len); exact rfl; (focus (exact Sl.nil 0 0)); (focus (decide +kernel)); exact rfl))))
  ((with_reducible apply Step.slTo (h := 0)); exact rfl; exact rfl; exact rfl; exact (Nat.zero_le _); exact un27; exact sz3; exact rfl)
  (repeat (first | (with_reducible refine AWo.cons ?_) | ((with_reducible refine Step.id ?_); first | ((with_reducible apply Step.move); exact rfl; exact rfl) | ((with_reducible apply Step.assign); exact rfl; exact rfl)) | (with_reducible refine AWo.nil ?_) | ((with_reducible apply AW.seq)) | ((with_reducible apply Then.n)) | ((with_reducible apply AW.regL))))
  (refine AW.ret ?_; (repeat (first | refine Then.r ?_ | refine InBlk.r ?_)))
  refine ⟨_, rfl, [some { cells := List.replicate n (.int .i64 0), kind := .grow, size := 1 }], by rw [List.append_nil], ?_, by rw [List.append_nil]⟩
  rw [List.append_nil]; rfl
/-- The first k rows of a table. -/
def allR (c : Nat → Nat → Int) (r : Nat) : Nat → List Int
  | 0 => []
  | k + 1 => allR c r k ++ tab (c k) r
theorem allR_len (c : Nat → Nat → Int) (r : Nat) : ∀ k, (allR c r k).length = k * r
  | 0 => by simp [allR]
  | k + 1 => by rw [allR, List.length_append, allR_len c r k, tab_len, Nat.add_mul, Nat.one_mul]
theorem allR_mem {c : Nat → Nat → Int} {r : Nat} {x : Int} : ∀ {k : Nat}, x ∈ allR c r k ↔ ∃ i j, i < k ∧ j < r ∧ c i j = x
  | 0 => by simp [allR]
  | k + 1 => by
    rw [allR, List.mem_append, allR_mem]
    simp only [tab, List.mem_map, List.mem_range]
    constructor
    · rintro (⟨i, j, h1, h2, h3⟩ | ⟨j, h1, h2⟩)
      · exact ⟨i, j, by omega, h2, h3⟩
      · exact ⟨k, j, by omega, h1, h2⟩
    · rintro ⟨i, j, h1, h2, h3⟩
      by_cases e : i = k
      · subst e; exact .inr ⟨j, h2, h3⟩
      · exact .inl ⟨i, j, by omega, h2, h3⟩
set_option maxHeartbeats 8000000 in
set_option maxRecDepth 100000 in
theorem concatN_ok {m : AM} {cv : Value} {c : Nat → Nat → Int} {l r : Nat} (hT : RT m cv c l r) (hl : l ≤ 32) (hr : r ≤ 32) :
    ACall Try.prog 76 #[cv] m (More (fun M v => (l * r = 0 ∧ v = .slice none 0 0) ∨ (0 < l * r ∧ ∃ N, v = .slice (some ⟨m.length + 0, 0, none⟩) (l * r) (l * r) ∧ M = m ++ (some { cells := iv (allR c r l), kind := .grow, size := 1 } :: N))) m) := by
  obtain ⟨cb, co, c1, c2, c3⟩ := id hT
  have hlr : l * r ≤ 1024 := Nat.mul_le_mul hl hr
  have hkr : ∀ k, k ≤ l → k * r ≤ l * r := fun k hk => Nat.mul_le_mul_right r hk
  have wc : Low m.length cv := Low.of_sl c1 c2
  refine ACall.start Try.func76 rfl rfl ?_
  (repeat (first | (with_reducible refine AWo.cons ?_) | ((with_reducible refine Step.id ?_); first | ((with_reducible apply Step.move); exact rfl; exact rfl) | ((with_reducible apply Step.assign); exact rfl; exact rfl) | ((with_reducible apply Step.len); exact rfl; (focus (assumption)); (focus (decide +kernel)); exact rfl)) | (with_reducible refine AWo.nil ?_) | ((with_reducible apply AW.seq)) | ((with_reducible apply Then.n)) | ((with_reducible apply AW.regL)) | ((with_reducible apply AW.block))))
  refine AW.loopT (fun rk t L => ∃ k : Nat, rk = l - k ∧ k ≤ l ∧ L = [] ∧ t = [(0, cv), (3, .int .i64 (k * r : Nat)), (9, cv), (10, .int .i64 (l : Nat)), (11, .int .i64 (k : Nat))])
    ⟨_, [(0, cv), (3, .int .i64 0), (9, cv), (10, .int .i64 (l : Nat)), (11, .int .i64 0)], _, (Or.inl ⟨rfl, (by repeat (first | exact trivial | (refine And.intro rfl ?_)))⟩), 0, rfl, Nat.zero_le _, rfl, by rw [Nat.zero_mul]; rfl⟩ ?_
  rintro rk t L ⟨k, rfl, hk, rfl, rfl⟩
  have hk1 := hkr k hk
  rcases Nat.lt_or_ge k l with hlt | hge
  · obtain ⟨w, q1, rb, ro, w1, w2, w3⟩ := c3 k hlt
    rw [tab_len] at w1
    have e5 : (((k + 1) * r : Nat) : Int) = ((k * r : Nat) : Int) + (r : Nat) := by rw [Nat.add_mul, Nat.one_mul]; omega
    generalize k * r = kr at *
    (repeat (first | (with_reducible refine AWo.cons ?_) | ((with_reducible refine Step.id ?_); first | ((with_reducible apply Step.move); exact rfl; exact rfl) | ((with_reducible apply Step.assign); exact rfl; exact rfl) | ((with_reducible apply Step.load); exact rfl; (focus (decide +kernel)); exact rfl; (focus (exact q1.old _))) | ((with_reducible apply Step.ix1); exact rfl; (focus (assumption)); exact rfl; (focus (decide +kernel)); exact rfl; (focus (omega))) | ((with_reducible apply Step.add); exact rfl; exact rfl; (focus (omega)); exact rfl) | ((with_reducible apply Step.lss); exact rfl; exact rfl; exact rfl) | ((with_reducible apply Step.len); exact rfl; (focus (assumption)); (focus (decide +kernel)); exact rfl)) | (with_reducible refine AWo.nil ?_) | ((with_reducible apply AW.seq)) | ((with_reducible apply Then.n)) | ((with_reducible apply AW.regL)) | ((with_reducible apply AW.block)) | ((with_reducible apply InBlk.n)) | ((with_reducible apply AW.skip)) | ((with_reducible apply AW.condT); exact rfl; (focus ((simp only [decide_eq_true_eq, decide_eq_false_iff_not, Bool.not_eq_true', Bool.not_eq_false', Bool.not_true, Bool.not_false]; first | assumption | omega)))) | ((with_reducible apply AW.condF); exact rfl; (focus (rfl)))))
    refine ⟨_, [(0, cv), (3, .int .i64 ((kr : Nat) + (r : Nat))), (9, cv), (10, .int .i64 (l : Nat)), (11, .int .i64 ((k + 1 : Nat) : Int))], _, by omega, (Or.inl ⟨rfl, (by repeat (first | exact trivial | (refine And.intro rfl ?_)))⟩), k + 1, rfl, by omega, rfl, ?_⟩
    rw [e5]
  obtain rfl : k = l := by omega
  obtain ⟨n, hnn⟩ : ∃ n, k * r = n := ⟨_, rfl⟩
  rw [hnn] at hlr ⊢
  have hmono : ∀ j, j ≤ k → j * r ≤ n := fun j hj => by rw [← hnn]; exact Nat.mul_le_mul_right r hj
  by_cases h0 : n = 0
  · subst h0
    (repeat (first | (with_reducible refine AWo.cons ?_) | ((with_reducible refine Step.id ?_); first | ((with_reducible apply Step.move); exact rfl; exact rfl) | ((with_reducible apply Step.lss); exact rfl; exact rfl; exact rfl)) | (with_reducible refine AWo.nil ?_) | ((with_reducible apply AW.seq)) | ((with_reducible apply Then.n)) | ((with_reducible apply AW.regL)) | ((with_reducible apply AW.exit)) | ((with_reducible apply InBlk.hit)) | ((with_reducible apply Then.e)) | ((with_reducible apply AW.condF); exact rfl; (focus ((simp only [decide_eq_true_eq, decide_eq_false_iff_not, Bool.not_eq_true', Bool.not_eq_false', Bool.not_true, Bool.not_false]; first | assumption | omega))))))
    ((with_reducible apply Step.callX fit); exact rfl; exact Try.func98; exact rfl; exact rfl; exact ((show ACall Try.prog 98 #[.slice none 0 0, .int .i64 ((0 : Nat) : Int)] (m ++ []) (More (fun M v => v = .slice none 0 0) (m ++ [])) from (grow0_ok (m := m ++ [])).mono fun v M ⟨h1, h2⟩ => ⟨[], by rw [h2, List.append_nil], h1.symm⟩)))
    rintro v M' ⟨N, rfl⟩ rfl
    rw [List.append_nil, List.append_nil]
    (repeat (first | (with_reducible refine AWo.cons ?_) | ((with_reducible refine Step.id ?_); first | ((with_reducible apply Step.move); exact rfl; exact rfl) | ((with_reducible apply Step.assign); exact rfl; exact rfl) | ((with_reducible apply Step.len); exact rfl; (focus (assumption)); (focus (decide +kernel)); exact rfl)) | (with_reducible refine AWo.nil ?_) | ((with_reducible apply AW.seq)) | ((with_reducible apply Then.n)) | ((with_reducible apply AW.regL)) | ((with_reducible apply AW.block))))
    refine AW.loopT (fun rk t L => ∃ j : Nat, rk = k - j ∧ j ≤ k ∧ L = [] ∧ t = [(6, .slice none 0 0), (25, cv), (26, .int .i64 (k : Nat)), (27, .int .i64 (j : Nat))])
      ⟨_, _, _, (Back.trim rfl rfl (by repeat (exact CellsOk.nil)) (by repeat (first | exact trivial | (refine And.intro ⟨rfl, by (first | exact Low.rid (by assumption) (by simp) | exact .int _ _ | exact Ren.of_g0 rfl)⟩ ?_)))), 0, rfl, Nat.zero_le _, rfl, rfl⟩ ?_
    rintro rk t L ⟨j, rfl, hj, rfl, rfl⟩
    rcases Nat.lt_or_ge j k with hlt | hge
    · obtain ⟨w, q1, hX⟩ := c3 j hlt
      have hX0 : tab (c j) r = [] := by
        have := hmono 1 (by omega)
        have : r = 0 := by omega
        subst this; rfl
      rw [hX0] at hX
      (repeat (first | (with_reducible refine AWo.cons ?_) | ((with_reducible refine Step.id ?_); first | ((with_reducible apply Step.move); exact rfl; exact rfl) | ((with_reducible apply Step.assign); exact rfl; exact rfl) | ((with_reducible apply Step.load); exact rfl; (focus (decide +kernel)); exact rfl; (focus (exact q1.old _))) | ((with_reducible apply Step.ix1); exact rfl; (focus (assumption)); exact rfl; (focus (decide +kernel)); exact rfl; (focus (omega))) | ((with_reducible apply Step.lss); exact rfl; exact rfl; exact rfl)) | (with_reducible refine AWo.nil ?_) | ((with_reducible apply AW.seq)) | ((with_reducible apply Then.n)) | ((with_reducible apply AW.regL)) | ((with_reducible apply AW.block)) | ((with_reducible apply AW.skip)) | ((with_reducible apply AW.condT); exact rfl; (focus ((simp only [decide_eq_true_eq, decide_eq_false_iff_not, Bool.not_eq_true', Bool.not_eq_false', Bool.not_true, Bool.not_false]; first | assumption | omega))))))
      ((with_reducible apply Step.app00); exact rfl; exact rfl; exact rfl; exact (hX.old _); exact el27; exact un27; exact rfl; exact rfl; (focus (first | (simp only [List.nil_append, List.cons_append, List.set_cons_zero, List.set_cons_succ, iv_set, bv_set, iv_rep, bv_rep]; done) | (simp only [List.nil_append, List.cons_append, List.set_cons_zero, List.set_cons_succ, iv_set, bv_set, iv_rep, bv_rep]; rfl) | rfl)))
      (repeat (first | (with_reducible refine AWo.cons ?_) | ((with_reducible refine Step.id ?_); first | ((with_reducible apply Step.move); exact rfl; exact rfl) | ((with_reducible apply Step.assign); exact rfl; exact rfl) | ((with_reducible apply Step.add); exact rfl; exact rfl; (focus (omega)); exact rfl)) | (with_reducible refine AWo.nil ?_) | ((with_reducible apply Then.n)) | ((with_reducible apply AW.regL)) | ((with_reducible apply InBlk.n))))
      exact ⟨_, _, _, by omega, (Back.trim rfl rfl (by repeat (exact CellsOk.nil)) (by repeat (first | exact trivial | (refine And.intro ⟨rfl, by (first | exact Low.rid (by assumption) (by simp) | exact .int _ _ | exact Ren.of_g0 rfl)⟩ ?_)))), j + 1, rfl, by omega, rfl, rfl⟩
    · (repeat (first | (with_reducible refine AWo.cons ?_) | ((with_reducible refine Step.id ?_); first | ((with_reducible apply Step.move); exact rfl; exact rfl) | ((with_reducible apply Step.assign); exact rfl; exact rfl) | ((with_reducible apply Step.lss); exact rfl; exact rfl; exact rfl)) | (with_reducible refine AWo.nil ?_) | ((with_reducible apply AW.seq)) | ((with_reducible apply Then.n)) | ((with_reducible apply AW.regL)) | ((with_reducible apply AW.exit)) | ((with_reducible apply InBlk.hit)) | ((with_reducible apply Then.e)) | ((with_reducible apply AW.condF); exact rfl; (focus ((simp only [decide_eq_true_eq, decide_eq_false_iff_not, Bool.not_eq_true', Bool.not_eq_false', Bool.not_true, Bool.not_false]; first | assumption | omega))))))
      (refine AW.ret ?_; (repeat (first | refine Then.r ?_ | refine InBlk.r ?_)))
      exact ⟨_, rfl, _, rfl, .inl ⟨rfl, rfl⟩⟩
  · (repeat (first | (with_reducible refine AWo.cons ?_) | ((with_reducible refine Step.id ?_); first | ((with_reducible apply Step.move); exact rfl; exact rfl) | ((with_reducible apply Step.lss); exact rfl; exact rfl; exact rfl)) | (with_reducible refine AWo.nil ?_) | ((with_reducible apply AW.seq)) | ((with_reducible apply Then.n)) | ((with_reducible apply AW.regL)) | ((with_reducible apply AW.exit)) | ((with_reducible apply InBlk.hit)) | ((with_reducible apply Then.e)) | ((with_reducible apply AW.condF); exact rfl; (focus ((simp only [decide_eq_true_eq, decide_eq_false_iff_not, Bool.not_eq_true', Bool.not_eq_false', Bool.not_true, Bool.not_false]; first | assumption | omega))))))
    ((with_reducible apply Step.callX fit); exact rfl; exact Try.func98; exact rfl; exact rfl; exact (growN_ok (m := m ++ []) (show 0 < n by omega) (by omega)))
    rintro v M' _ ⟨rfl, rfl⟩
    rw [List.append_nil, List.append_nil]
    (repeat (first | (with_reducible refine AWo.cons ?_) | ((with_reducible refine Step.id ?_); first | ((with_reducible apply Step.move); exact rfl; exact rfl) | ((with_reducible apply Step.assign); exact rfl; exact rfl) | ((with_reducible apply Step.len); exact rfl; (focus (assumption)); (focus (decide +kernel)); exact rfl)) | (with_reducible refine AWo.nil ?_) | ((with_reducible apply AW.seq)) | ((with_reducible apply Then.n)) | ((with_reducible apply AW.regL)) | ((with_reducible apply AW.block))))
    refine AW.loopT (fun rk t L => ∃ j : Nat, rk = k - j ∧ j ≤ k ∧ L = [some { cells := iv (allR c r j) ++ iv (List.replicate (n - j * r) 0), kind := .grow, size := 1 }] ∧ t = [(6, .slice (some ⟨m.length + 0, 0, none⟩) (j * r) n), (25, cv), (26, .int .i64 (k : Nat)), (27, .int .i64 (j : Nat))])
      ⟨_, [(6, .slice (some ⟨m.length + 0, 0, none⟩) 0 n), (25, cv), (26, .int .i64 (k : Nat)), (27, .int .i64 0)], [some { cells := List.replicate n (.int .i64 0), kind := .grow, size := 1 }], (Or.inl ⟨rfl, (by repeat (first | exact trivial | (refine And.intro rfl ?_)))⟩), 0, rfl, Nat.zero_le _, by simp [iv, allR], by rw [Nat.zero_mul]; rfl⟩ ?_
    rintro rk t L ⟨j, rfl, hj, rfl, rfl⟩
    rcases Nat.lt_or_ge j k with hlt | hge
    · obtain ⟨w, q1, hX⟩ := c3 j hlt
      obtain ⟨rb, ro, w1, w2, w3⟩ := id hX
      have hF : allR c r (j + 1) = allR c r j ++ tab (c j) r := rfl
      have hFl := allR_len c r j
      have hj1 := hmono (j + 1) (by omega)
      have e2 : j * r + r = (j + 1) * r := by rw [Nat.add_mul, Nat.one_mul]
      have e1 : iv (allR c r j) ++ (iv (tab (c j) r) ++ iv (List.replicate (n - (j + 1) * r) 0)) = iv (allR c r (j + 1)) ++ iv (List.replicate (n - (j + 1) * r) 0) := by rw [hF]; simp [iv]
      have e3 : iv (allR c r j) ++ iv (List.replicate (n - j * r) 0) = iv (allR c r j) ++ (iv (List.replicate r 0) ++ iv (List.replicate (n - (j + 1) * r) 0)) := by
        have : List.replicate (n - j * r) (0 : Int) = List.replicate r 0 ++ List.replicate (n - (j + 1) * r) 0 := by
          rw [List.replicate_append_replicate, show r + (n - (j + 1) * r) = n - j * r by omega]
        rw [this]; simp [iv]
      have e4 : (tab (c j) r).length = r := tab_len _ _
      have g0f : ∀ v ∈ iv (allR c r (j + 1)) ++ iv (List.replicate (n - (j + 1) * r) 0), g0 v = true := fun v hv => (List.mem_append.1 hv).elim (g0_iv _ v) (g0_iv _ v)
      rw [e4] at w1
      generalize hX' : tab (c j) r = X at *
      generalize j * r = jr at *
      generalize hjr1 : (j + 1) * r = jr1 at *
      (repeat (first | (with_reducible refine AWo.cons ?_) | ((with_reducible refine Step.id ?_); first | ((with_reducible apply Step.move); exact rfl; exact rfl) | ((with_reducible apply Step.assign); exact rfl; exact rfl) | ((with_reducible apply Step.load); exact rfl; (focus (decide +kernel)); exact rfl; (focus (exact q1.old _))) | ((with_reducible apply Step.ix1); exact rfl; (focus (assumption)); exact rfl; (focus (decide +kernel)); exact rfl; (focus (omega))) | ((with_reducible apply Step.lss); exact rfl; exact rfl; exact rfl)) | (with_reducible refine AWo.nil ?_) | ((with_reducible apply AW.seq)) | ((with_reducible apply Then.n)) | ((with_reducible apply AW.regL)) | ((with_reducible apply AW.block)) | ((with_reducible apply AW.skip)) | ((with_reducible apply AW.condT); exact rfl; (focus ((simp only [decide_eq_true_eq, decide_eq_false_iff_not, Bool.not_eq_true', Bool.not_eq_false', Bool.not_true, Bool.not_false]; first | assumption | omega))))))
      ((with_reducible apply Step.appW (q := 0) (c := iv (allR c r j)) (old := iv (List.replicate r 0)) (Z := iv (List.replicate (n - jr1) 0))); exact rfl; exact rfl; exact rfl; exact (hX.old _); exact el27; exact un27; exact rfl; exact rfl; exact e3; (focus (rw [iv_len, hFl])); (focus (simp [iv, e4])); (focus (omega)); exact rfl; (focus (first | (simp only [List.nil_append, List.cons_append, List.set_cons_zero, List.set_cons_succ, iv_set, bv_set, iv_rep, bv_rep]; done) | (simp only [List.nil_append, List.cons_append, List.set_cons_zero, List.set_cons_succ, iv_set, bv_set, iv_rep, bv_rep]; rfl) | rfl)))
      rw [e1, e4, e2]
      (repeat (first | (with_reducible refine AWo.cons ?_) | ((with_reducible refine Step.id ?_); first | ((with_reducible apply Step.move); exact rfl; exact rfl) | ((with_reducible apply Step.assign); exact rfl; exact rfl) | ((with_reducible apply Step.add); exact rfl; exact rfl; (focus (omega)); exact rfl)) | (with_reducible refine AWo.nil ?_) | ((with_reducible apply Then.n)) | ((with_reducible apply AW.regL)) | ((with_reducible apply InBlk.n))))
      exact ⟨_, [(6, .slice (some ⟨m.length + 0, 0, none⟩) jr1 n), (25, cv), (26, .int .i64 (k : Nat)), (27, .int .i64 ((j + 1 : Nat) : Int))], [some { cells := iv (allR c r (j + 1)) ++ iv (List.replicate (n - jr1) 0), kind := .grow, size := 1 }], by omega, (Back.trim rfl rfl (by repeat (first | exact CellsOk.nil | refine CellsOk.cons (by assumption) ?_)) (by repeat (first | exact trivial | (refine And.intro ⟨rfl, by (first | exact Low.rid (by assumption) (by simp) | exact .int _ _ | exact .slice _ _ _ _ (by first | (simp; done) | omega | (simp; omega)))⟩ ?_)))), j + 1, rfl, by omega, by rw [hjr1], by rw [hjr1]⟩
    · obtain rfl : j = k := by omega
      rw [hnn]
      (repeat (first | (with_reducible refine AWo.cons ?_) | ((with_reducible refine Step.id ?_); first | ((with_reducible apply Step.move); exact rfl; exact rfl) | ((with_reducible apply Step.assign); exact rfl; exact rfl) | ((with_reducible apply Step.lss); exact rfl; exact rfl; exact rfl)) | (with_reducible refine AWo.nil ?_) | ((with_reducible apply AW.seq)) | ((with_reducible apply Then.n)) | ((with_reducible apply AW.regL)) | ((with_reducible apply AW.exit)) | ((with_reducible apply InBlk.hit)) | ((with_reducible apply Then.e)) | ((with_reducible apply AW.condF); exact rfl; (focus ((simp only [decide_eq_true_eq, decide_eq_false_iff_not, Bool.not_eq_true', Bool.not_eq_false', Bool.not_true, Bool.not_false]; first | assumption | omega))))))
      (refine AW.ret ?_; (repeat (first | refine Then.r ?_ | refine InBlk.r ?_)))
      exact ⟨_, rfl, _, rfl, .inr ⟨by omega, [], rfl, by rw [Nat.sub_self]; simp [iv]⟩⟩
set_option maxRecDepth 100000 in
theorem neg_ok {m : AM} {x : Int} : ACall Try.prog 85 #[.int .i64 x] m (Ret (.bool (decide (x < 0))) m) := by
  refine ACall.start Try.func85 rfl rfl ?_
  (repeat (first | (with_reducible refine AWo.cons ?_) | ((with_reducible refine Step.id ?_); first | ((with_reducible apply Step.move); exact rfl; exact rfl) | ((with_reducible apply Step.assign); exact rfl; exact rfl) | ((with_reducible apply Step.lss); exact rfl; exact rfl; exact rfl)) | (with_reducible refine AWo.nil ?_) | ((with_reducible apply AW.seq)) | ((with_reducible apply Then.n)) | ((with_reducible apply AW.regL))))
  (refine AW.retD (l := [(2, _)]) (by repeat (first | exact trivial | (refine And.intro ⟨rfl, by (exact .bool _)⟩ ?_))) ?_; (repeat (first | refine Then.r ?_ | refine InBlk.r ?_)))
  exact ⟨_, rfl, rfl, rfl⟩
def srt (l : List Int) : List Int := l.mergeSort (fun x y => decide (x ≤ y))
theorem srt_len (l : List Int) : (srt l).length = l.length := by simp [srt]
theorem srt_mem {l : List Int} {x : Int} : x ∈ srt l ↔ x ∈ l := by unfold srt; exact (List.mergeSort_perm l _).mem_iff
theorem srt_pw (l : List Int) : (srt l).Pairwise (· ≤ ·) := by
  have := List.pairwise_mergeSort (le := fun x y : Int => decide (x ≤ y)) (fun a b c h1 h2 => by simp at h1 h2 ⊢; omega) (fun a b => by simp; omega) l
  exact this.imp (fun h => by simpa using h)
end Go.Proofs.Ytajpngnphbdnnaa.Abs
namespace Go.Proofs
set_option linter.unusedSimpArgs false
set_option linter.unusedVariables false
open Go.Shelf
def sortInt_ren : Go.Shelf.Ren := ⟨fun | 53 => 86 | 64 => 104 | 63 => 103 | 78 => 117 | 79 => 118 | 70 => 108 | 71 => 109 | 72 => 110 | 73 => 111 | 74 => 112 | 75 => 113 | 59 => 114 | 76 => 115 | 77 => 116 | 88 => 122 | 89 => 123 | 90 => 124 | 91 => 125 | 92 => 126 | 68 => 127 | 96 => 128 | n => n, fun | 22 => 27 | 23 => 3 | 3 => 3 | 51 => 52 | 0 => 0 | 67 => 143 | 69 => 145 | 4 => 4 | 61 => 136 | 60 => 135 | 44 => 140 | 5 => 5 | 9 => 9 | 75 => 148 | 79 => 53 | 83 => 153 | 84 => 154 | n => n, fun | n => n⟩
theorem sortInt : Go.Proofs.SlLaysN.n53 Try.prog sortInt_ren := {
  mixed := by kernel_rfl
  f53 := ⟨Try.f86.name, by decide, Try.func86.trans (congrArg some (by kernel_rfl))⟩
  f59 := ⟨Try.f114.name, by decide, Try.func114.trans (congrArg some (by kernel_rfl))⟩
  f63 := ⟨Try.f103.name, by decide, Try.func103.trans (congrArg some (by kernel_rfl))⟩
  f64 := Try.func104.trans (congrArg some (by kernel_rfl))
  f68 := ⟨Try.f127.name, by decide, Try.func127.trans (congrArg some (by kernel_rfl))⟩
  f70 := ⟨Try.f108.name, by decide, Try.func108.trans (congrArg some (by kernel_rfl))⟩
  f71 := ⟨Try.f109.name, by decide, Try.func109.trans (congrArg some (by kernel_rfl))⟩
  f72 := ⟨Try.f110.name, by decide, Try.func110.trans (congrArg some (by kernel_rfl))⟩
  f73 := ⟨Try.f111.name, by decide, Try.func111.trans (congrArg some (by kernel_rfl))⟩
  f74 := ⟨Try.f112.name, by decide, Try.func112.trans (congrArg some (by kernel_rfl))⟩
  f75 := ⟨Try.f113.name, by decide, Try.func113.trans (congrArg some (by kernel_rfl))⟩
  f76 := ⟨Try.f115.name, by decide, Try.func115.trans (congrArg some (by kernel_rfl))⟩
  f77 := ⟨Try.f116.name, by decide, Try.func116.trans (congrArg some (by kernel_rfl))⟩
  f78 := Try.func117.trans (congrArg some (by kernel_rfl))
  f79 := Try.func118.trans (congrArg some (by kernel_rfl))
  f88 := ⟨Try.f122.name, by decide, Try.func122.trans (congrArg some (by kernel_rfl))⟩
  f89 := Try.func123.trans (congrArg some (by kernel_rfl))
  f90 := Try.func124.trans (congrArg some (by kernel_rfl))
  f91 := ⟨Try.f125.name, by decide, Try.func125.trans (congrArg some (by kernel_rfl))⟩
  f92 := ⟨Try.f126.name, by decide, Try.func126.trans (congrArg some (by kernel_rfl))⟩
  f96 := ⟨Try.f128.name, by decide, Try.func128.trans (congrArg some (by kernel_rfl))⟩
  t0 := Try.underlying0
  a0 := Try.isAgg0
  z0 := Try.sizeOf0
  v0 := Try.zeroValue0
  t3 := Try.underlying3
  a3 := Try.isAgg3
  z3 := Try.sizeOf3
  v3 := Try.zeroValue3
  t4 := Try.underlying4
  a4 := Try.isAgg4
  z4 := Try.sizeOf4
  v4 := Try.zeroValue4
  t5 := Try.underlying5
  a5 := Try.isAgg5
  z5 := Try.sizeOf5
  v5 := Try.zeroValue5
  t9 := Try.underlying9
  a9 := Try.isAgg9
  z9 := Try.sizeOf9
  v9 := Try.zeroValue9
  t22 := Try.underlying27
  a22 := Try.isAgg27
  z22 := Try.sizeOf27
  v22 := Try.zeroValue27
  t23 := Try.underlying3
  a23 := Try.isAgg3
  z23 := Try.sizeOf3
  v23 := Try.zeroValue3
  t44 := Try.underlying140
  a44 := Try.isAgg140
  z44 := Try.sizeOf140
  v44 := Try.zeroValue140
  t51 := Try.underlying52
  a51 := Try.isAgg52
  z51 := Try.sizeOf52
  v51 := Try.zeroValue52
  t60 := Try.underlying135
  a60 := Try.isAgg135
  z60 := Try.sizeOf135
  v60 := Try.zeroValue135
  t61 := Try.underlying136
  a61 := Try.isAgg136
  z61 := Try.sizeOf136
  v61 := Try.zeroValue136
  t67 := Try.underlying143
  a67 := Try.isAgg143
  z67 := Try.sizeOf143
  v67 := Try.zeroValue143
  t69 := Try.underlying145
  a69 := Try.isAgg145
  z69 := Try.sizeOf145
  v69 := Try.zeroValue145
  t75 := Try.underlying148
  a75 := Try.isAgg148
  z75 := Try.sizeOf148
  v75 := Try.zeroValue148
  t79 := Try.underlying53
  a79 := Try.isAgg53
  z79 := Try.sizeOf53
  v79 := Try.zeroValue53
  t83 := Try.underlying153
  a83 := Try.isAgg153
  z83 := Try.sizeOf153
  v83 := Try.zeroValue153
  t84 := Try.underlying154
  a84 := Try.isAgg154
  z84 := Try.sizeOf154
  v84 := Try.zeroValue154 }
end Go.Proofs
namespace Go.Proofs.Ytajpngnphbdnnaa.Abs
set_option linter.unusedSimpArgs false
set_option linter.unusedVariables false
open Go.RowKit
open Go.Proofs.Ytajpngnphbdnnaa.Sim
open Go.Sort
variable {base : Nat} {R : Pl} {m : AM} {w : World}
theorem iv_l {l z : List Int} {j : Nat} (h : j < l.length) : (iv (l ++ z))[j]? = some (.int .i64 (l.getD j 0)) := by
  rw [iv_get (by simp; omega)]
  simp [List.getElem?_append_left h]
theorem iv_r {l k z : List Int} (hl : k.length = l.length) {j : Nat} (h : ¬ j < l.length) : (iv (l ++ z))[j]? = (iv (k ++ z))[j]? := by
  simp only [iv, List.map_append]
  rw [List.getElem?_append_right (by simp; omega), List.getElem?_append_right (by simp; omega)]
  simp [hl]
theorem rel_int_cellsZ {l z : List Int} {cur : Array Value} {off : Nat} (h : ∀ (j : Nat) (v : Value), (iv (l ++ z))[j]? = some v → ∃ v', cur[off + j]? = some v' ∧ Rel R v v' ∧ v'.oneCell' = true) (j : Nat) (hj : j < l.length) : cur[off + j]? = some (.int .i64 (l.getD j 0)) := by
  obtain ⟨v', h1, h2, _⟩ := h j _ (iv_l hj)
  rw [h1]
  cases h2; rfl
theorem sorted_postZ {i : Nat} {b : Blk} {p : Sim.Place} {l k z : List Int} {n : Nat} {os : Array Obj} (h : MRep base R m w) (hi : m[i]? = some (some b)) (hs : b.kind.solid = true) (hp : R i = some p) (hb : b.cells = iv (l ++ z)) (hl : k.length = l.length) :
    Post base m (m.set i (some { b with cells := iv (k ++ z) })) R R w (grow (putRow (Value.int .i64) (Sort.ahead w n) p.block p.off k.toArray) os) := by
  have hr := h.of hi hp
  unfold BRep at hr
  obtain ⟨hlt, hr⟩ := hr
  have key : ∃ cur ty, w.heap[p.block]? = some (.cells cur ty (0, 0)) ∧ base ≤ p.block ∧ p.off + b.cells.length + p.extra * b.size ≤ cur.size ∧ (b.kind = .own → p.extra = 0) ∧
      ∀ (j : Nat) (v : Value), b.cells[j]? = some v → ∃ v', cur[p.off + j]? = some v' ∧ Rel R v v' ∧ v'.oneCell' = true := by
    split at hr
    · rename_i e; rw [e] at hs; cases hs
    · rename_i e; rw [e] at hs; cases hs
    · exact hr
  obtain ⟨cur, ty, k1, k2, k3, k4, k5⟩ := key
  have hcl : b.cells.length = l.length + z.length := by rw [hb, iv_len]; simp
  let w1 := putRow (Value.int .i64) (Sort.ahead w n) p.block p.off k.toArray
  have hw1 : w1.heap[p.block]? = some (.cells (putCells (Value.int .i64) p.off k.toArray cur) ty (0, 0)) := by
    simp [w1, putRow, mapBlock, Sort.ahead, Array.getElem?_modify, k1, onCells]
  have hot : ∀ q, q ≠ p.block → w1.heap[q]? = w.heap[q]? := fun q hq => by
    simp only [w1, putRow, mapBlock, Sort.ahead, Array.getElem?_modify]
    rw [if_neg (Ne.symm hq)]
  have hsz : w1.heap.size = w.heap.size := by simp [w1, putRow, mapBlock, Sort.ahead]
  have hm1 : MRep base R (m.set i (some { b with cells := iv (k ++ z) })) w1 := by
    refine h.turn hi hs hp _ hs ?_ hot hsz
    unfold BRep
    refine ⟨by rw [hsz]; exact hlt, ?_⟩
    split
    · rename_i e; rw [e] at hs; cases hs
    · rename_i e; rw [e] at hs; cases hs
    · refine ⟨_, ty, hw1, k2, ?_, fun e => k4 e, fun j v hj => ?_⟩
      · simp only [putCells, Array.size_mapIdx, iv_len, List.length_append]
        rw [hl, ← hcl]; exact k3
      · simp only at hj
        have hjl : j < k.length + z.length := by
          have := (List.getElem?_eq_some_iff.1 hj).1
          simpa [iv_len] using this
        have hcs : p.off + j < cur.size := by omega
        by_cases hjk : j < k.length
        · rw [iv_l hjk] at hj
          injection hj with hj; subst hj
          refine ⟨.int .i64 (k.getD j 0), ?_, .int _ _, rfl⟩
          simp only [putCells, Array.getElem?_mapIdx, Array.getElem?_eq_getElem hcs, Option.map_some, Option.some.injEq]
          rw [if_pos ⟨by omega, by simpa using hjk⟩, Nat.add_sub_cancel_left]
          simp [hjk]
        · rw [iv_r (k := l) hl.symm hjk, ← hb] at hj
          obtain ⟨v', e1, e2, e3⟩ := k5 j v hj
          refine ⟨v', ?_, e2, e3⟩
          rw [Array.getElem?_eq_getElem hcs] at e1
          simp only [putCells, Array.getElem?_mapIdx, Array.getElem?_eq_getElem hcs, Option.map_some, Option.some.injEq]
          rw [if_neg (fun hh => hjk (by have := hh.2; simp only [List.size_toArray] at this; omega))]
          simpa using e1
  refine ⟨.refl R, hm1.kept (fun q hq => ?_), rfl, rfl, rfl, by rw [size_grow]; show w.heap.size ≤ w1.heap.size + _; omega, fun q hq ho => ?_, fun q ho => .inr ?_⟩
  · simp only [grow]
    rw [Array.getElem?_append_left hq]
  · show (grow w1 os).heap[q]? = _
    simp only [grow]
    rw [Array.getElem?_append_left (by omega), hot q (fun e => ho ⟨i, b, p, hi, hs, hp, e.symm⟩)]
  · obtain ⟨j, c, q', q1, q2, q3, q4⟩ := ho
    by_cases e : j = i
    · subst e; exact ⟨j, b, q', hi, hs, q3, q4⟩
    · rw [List.getElem?_set_ne (fun x => e x.symm)] at q1
      exact ⟨j, c, q', q1, q2, q3, q4⟩
theorem holds_ofZ {i : Nat} {b : Blk} {p : Sim.Place} {l z : List Int} (h : MRep base R m w) (hi : m[i]? = some (some b)) (hs : b.kind.solid = true) (hp : R i = some p) (hb : b.cells = iv (l ++ z)) : Holds (Value.int .i64) w p.block p.off l.toArray ∧ p.block < w.heap.size := by
  have hr := h.of hi hp
  unfold BRep at hr
  obtain ⟨hlt, hr⟩ := hr
  refine ⟨fun j hj => ?_, hlt⟩
  have key : ∃ cur ty, w.heap[p.block]? = some (.cells cur ty (0, 0)) ∧
      ∀ (j : Nat) (v : Value), b.cells[j]? = some v → ∃ v', cur[p.off + j]? = some v' ∧ Rel R v v' ∧ v'.oneCell' = true := by
    split at hr
    · rename_i e; rw [e] at hs; cases hs
    · rename_i e; rw [e] at hs; cases hs
    · obtain ⟨cur, ty, a1, _, _, _, a5⟩ := hr; exact ⟨cur, ty, a1, a5⟩
  obtain ⟨cur, ty, k1, k5⟩ := key
  have hj' : j < l.length := by simpa using hj
  refine ⟨?_, ?_⟩
  · simp only [World.cell?, k1]
    rw [rel_int_cellsZ (by rw [hb] at k5; exact k5) j hj']
    simp [hj']
  · simp [World.frozen?, k1]
theorem sort_callZ {P : Program} {f : FuncId} {i n c : Nat} {b : Blk} {l k z : List Int} (hi : m[i]? = some (some b)) (hs : b.kind.solid = true) (hb : b.cells = iv (l ++ z)) (hn : n = l.length) (hl : k.length = l.length)
    (h : ∀ (blk off cap : Nat) (w : World), Holds (Value.int .i64) w blk off l.toArray → blk < w.heap.size → Calls P f #[.slice (some ⟨blk, off, none⟩) l.length cap] w fun e w' => e = .returned (.tuple #[]) ∧ ∃ n os, w' = grow (putRow (Value.int .i64) (Sort.ahead w n) blk off k.toArray) os) :
    ACall P f #[.slice (some ⟨i, 0, none⟩) n c] m (fun v m' => v = .tuple #[] ∧ m' = m.set i (some { b with cells := iv (k ++ z) })) := by
  subst hn
  intro base R w args' hbase hm hargs
  have h1 := hargs.1
  have h2 := hargs.2 0 (by simp)
  obtain ⟨x, rfl⟩ : ∃ x, args' = #[x] := ⟨args'[0]'(by simp at h1; omega), by
    apply Array.ext
    · simp at h1; simp; omega
    · intro j a b; have : j = 0 := by simp at b; omega
      subst this; rfl⟩
  simp at h2
  cases h2 with
  | slice _ _ _ _ p hp hle =>
    obtain ⟨hH, hlt⟩ := holds_ofZ hm hi hs hp hb
    refine (h p.block (p.off + 0) (c + p.extra) w hH hlt).mono ?_
    rintro e w' ⟨rfl, n, os, rfl⟩
    exact ⟨.tuple #[], .tuple #[], R, _, rfl, .tuple _ _ rfl (fun i hi => absurd hi (by simp)), sorted_postZ hm hi hs hp hb hl, rfl, rfl⟩
end Go.Proofs.Ytajpngnphbdnnaa.Abs
namespace Go.Proofs.Ytajpngnphbdnnaa.Abs
set_option linter.unusedSimpArgs false
set_option linter.unusedVariables false
open Go.RowKit
open Go.Proofs.Ytajpngnphbdnnaa.Sim
open Go.Proofs
open Hung
theorem sort_nil' {m : AM} : ACall Try.prog 86 #[.slice none 0 0] m (fun v m' => v = .tuple #[] ∧ m' = m) :=
  ACall.of_calls (by kernel_rfl) (by kernel_rfl) fun w => closed_call fit (n := 300) (by kernel_rfl) (by kernel_rfl) (by kernel_rfl) w
theorem sort_nil {m : AM} : ACall Try.prog 86 #[.slice none 0 0] m (Ret (.tuple #[]) m) := sort_nil'.mono (fun _ _ ⟨a, b⟩ => ⟨a.symm, b.symm⟩)
theorem sort_okZ {m : AM} {p n c : Nat} {l z : List Int} (hb : m[p]? = some (some { cells := iv (l ++ z), kind := .grow, size := 1 })) (hn : n = l.length) (hlen : l.length ≤ 100000) :
    ACall Try.prog 86 #[.slice (some ⟨p, 0, none⟩) n c] m (Ret (.tuple #[]) (m.set p (some { cells := iv (srt l ++ z), kind := .grow, size := 1 }))) :=
  (sort_callZ (b := { cells := iv (l ++ z), kind := .grow, size := 1 }) hb rfl rfl hn (srt_len l) fun blk off cap w hH hlt => AnyG.slices_Sort_int sortInt blk off cap l w hH hlt (by omega)).mono (fun _ _ ⟨a, b⟩ => ⟨a.symm, b.symm⟩)
end Go.Proofs.Ytajpngnphbdnnaa.Abs
namespace Go.Proofs.Ytajpngnphbdnnaa.Hung
set_option linter.unusedSimpArgs false
set_option linter.unusedVariables false
theorem kM_mono {ok ok' : Nat → Nat → Bool} {l r : Nat} (h : ∀ i j, i < l → j < r → ok i j = true → ok' i j = true) : (kM ok r l).2 ≤ (kM ok' r l).2 := by
  have h1 := kM_inv ok r l
  rw [h1.cnt]
  refine (kM_inv ok' r l).max ⟨fun j hj h0 => ?_, h1.mch.2⟩
  obtain ⟨a1, a2⟩ := h1.mch.1 j hj h0
  exact ⟨a1, h _ _ (by omega) hj a2⟩
theorem kM_tr (ok : Nat → Nat → Bool) (l r : Nat) : (kM ok r l).2 ≤ (kM (fun j i => ok i j) l r).2 := by
  have h1 := kM_inv ok r l
  obtain ⟨m1, m2⟩ := h1.mch
  rw [h1.cnt]
  generalize (kM ok r l).1 = m at *
  let μ : Nat → Int := fun i => match (List.range r).find? (fun j => decide (m j = (i : Nat))) with
    | some j => (j : Nat)
    | none => -1
  have hμ : ∀ i, 0 ≤ μ i → ∃ j, j < r ∧ m j = (i : Nat) ∧ μ i = (j : Nat) := fun i h => by
    simp only [μ] at h ⊢
    cases e : (List.range r).find? (fun j => decide (m j = (i : Nat))) with
    | none => rw [e] at h; simp at h
    | some j => exact ⟨j, List.mem_range.1 (List.mem_of_find?_eq_some e), by simpa using List.find?_some e, rfl⟩
  have hμ' : ∀ j, j < r → 0 ≤ m j → 0 ≤ μ (m j).toNat := fun j hj h0 => by
    simp only [μ]
    cases e : (List.range r).find? (fun k => decide (m k = ((m j).toNat : Nat))) with
    | none =>
      have := List.find?_eq_none.1 e j (List.mem_range.2 hj)
      simp only [decide_eq_true_eq] at this
      omega
    | some k => simp only; omega
  have hM : Mch (fun j i => ok i j) r l μ := by
    refine ⟨fun i hi h0 => ?_, fun i i' hi hi' h0 he => ?_⟩
    · obtain ⟨j, j1, j2, j3⟩ := hμ i h0
      obtain ⟨a1, a2⟩ := m1 j j1 (by omega)
      rw [j3]
      refine ⟨by omega, ?_⟩
      simp only [Int.toNat_natCast]
      rw [j2] at a2
      simpa using a2
    · obtain ⟨j, j1, j2, j3⟩ := hμ i h0
      obtain ⟨j', k1, k2, k3⟩ := hμ i' (by omega)
      have : j = j' := by omega
      subst this
      omega
  refine Nat.le_trans ?_ ((kM_inv (fun j i => ok i j) l r).max hM)
  refine cN_inj (fun j => (m j).toNat) (fun j hj hp => ?_) (fun j j' hj hj' hp hp' he => ?_)
  · have h0 : 0 ≤ m j := by simpa using hp
    obtain ⟨a1, _⟩ := m1 j hj h0
    exact ⟨by omega, by simpa using hμ' j hj h0⟩
  · have h0 : 0 ≤ m j := by simpa using hp
    have h0' : 0 ≤ m j' := by simpa using hp'
    exact m2 j j' hj hj' h0 (by omega)
theorem kM_sides (ok : Nat → Nat → Bool) (l r : Nat) : (kM ok r l).2 = (kM (fun j i => ok i j) l r).2 :=
  Nat.le_antisymm (kM_tr ok l r) (kM_tr (fun j i => ok i j) r l)
end Go.Proofs.Ytajpngnphbdnnaa.Hung
namespace Go.Proofs.Ytajpngnphbdnnaa.Abs
set_option linter.unusedSimpArgs false
set_option linter.unusedVariables false
open Go.RowKit
open Go.Proofs.Ytajpngnphbdnnaa.Sim
open Go.Proofs
open Hung
/-- The greatest size with a limit. -/
def mtx (c : Nat → Nat → Int) (l r : Nat) (x : Int) : Nat := (kM (okc c x) r l).2
theorem mtx_mono {c : Nat → Nat → Int} {l r : Nat} {x y : Int} (h : ∀ i j, i < l → j < r → 0 ≤ c i j → c i j ≤ x → c i j ≤ y) : mtx c l r x ≤ mtx c l r y :=
  kM_mono fun i j hi hj he => by
    unfold okc at he ⊢
    simp only [Bool.and_eq_true, decide_eq_true_eq] at he ⊢
    exact ⟨he.1, h i j hi hj he.1 he.2⟩
/-- What Even answers. -/
def EvS (c : Nat → Nat → Int) (l r : Nat) (v : Int) : Prop :=
  (mtx c l r 1000000000 = 0 → v = 0) ∧ (mtx c l r 1000000000 ≠ 0 → (∃ i j, i < l ∧ j < r ∧ c i j = v) ∧ 0 ≤ v ∧ mtx c l r v = mtx c l r 1000000000 ∧ ∀ i j, i < l → j < r → 0 ≤ c i j → mtx c l r (c i j) = mtx c l r 1000000000 → v ≤ c i j)
theorem EvS.uniq {c : Nat → Nat → Int} {l r : Nat} {v v' : Int} (h : EvS c l r v) (h' : EvS c l r v') : v = v' := by
  by_cases e : mtx c l r 1000000000 = 0
  · rw [h.1 e, h'.1 e]
  · obtain ⟨⟨i, j, hi, hj, hv⟩, h0, h1, h2⟩ := h.2 e
    obtain ⟨⟨i', j', hi', hj', hv'⟩, h0', h1', h2'⟩ := h'.2 e
    have a := h2 i' j' hi' hj' (by omega) (by rw [hv']; exact h1')
    have b := h2' i j hi hj (by omega) (by rw [hv]; exact h1)
    omega
open Classical in
noncomputable def evV (c : Nat → Nat → Int) (l r : Nat) : Int := if h : ∃ v, EvS c l r v then h.choose else 0
theorem EvS.evV {c : Nat → Nat → Int} {l r : Nat} {v : Int} (h : EvS c l r v) : Abs.evV c l r = v := by
  have hex : ∃ v, EvS c l r v := ⟨v, h⟩
  unfold Abs.evV
  rw [dif_pos hex]
  exact hex.choose_spec.uniq h
theorem EvS.tr {c : Nat → Nat → Int} {l r : Nat} {v : Int} (h : EvS c l r v) : EvS (fun j i => c i j) r l v := by
  have e : ∀ x, mtx (fun j i => c i j) r l x = mtx c l r x := fun x => (kM_sides (okc c x) l r).symm
  unfold EvS
  simp only [e]
  refine ⟨h.1, fun h0 => ?_⟩
  obtain ⟨⟨i, j, hi, hj, hv⟩, h0, h1, h2⟩ := h.2 h0
  exact ⟨⟨j, i, hj, hi, hv⟩, h0, h1, fun a b ha hb => h2 b a hb ha⟩
theorem pw_getD {S : List Int} (h : S.Pairwise (· ≤ ·)) {i j : Nat} (hij : i ≤ j) (hj : j < S.length) : S.getD i 0 ≤ S.getD j 0 := by
  by_cases e : i = j
  · subst e; exact Int.le_refl _
  · have := List.pairwise_iff_getElem.1 h i j (by omega) hj (by omega)
    simpa [hj, show i < S.length by omega] using this
/-- The search ends at it. -/
theorem ev_end {c : Nat → Nat → Int} {l r : Nat} {S : List Int} {low : Nat} (hmem : ∀ x, x ∈ S ↔ 0 ≤ x ∧ ∃ i j, i < l ∧ j < r ∧ c i j = x) (hpw : S.Pairwise (· ≤ ·)) (hl : low < S.length) (h0 : mtx c l r 1000000000 ≠ 0)
    (h1 : mtx c l r (S.getD low 0) = mtx c l r 1000000000) (h2 : ∀ i, i < low → mtx c l r (S.getD i 0) ≠ mtx c l r 1000000000) : EvS c l r (S.getD low 0) := by
  have hm : S.getD low 0 ∈ S := by rw [List.getD_eq_getElem?_getD, List.getElem?_eq_getElem hl]; exact List.getElem_mem hl
  obtain ⟨g0, g1⟩ := (hmem _).1 hm
  refine ⟨fun h => absurd h h0, fun _ => ⟨g1, g0, h1, fun i j hi hj hc he => ?_⟩⟩
  obtain ⟨k, hk, hke⟩ := List.getElem_of_mem ((hmem (c i j)).2 ⟨hc, i, j, hi, hj, rfl⟩)
  have hkd : S.getD k 0 = c i j := by rw [← hke]; simp [hk]
  rcases Nat.lt_or_ge k low with h | h
  · exact absurd (by rw [hkd]; exact he) (h2 k h)
  · rw [← hkd]; exact pw_getD hpw h hk
theorem ev_last {c : Nat → Nat → Int} {l r : Nat} {S : List Int} (hmem : ∀ x, x ∈ S ↔ 0 ≤ x ∧ ∃ i j, i < l ∧ j < r ∧ c i j = x) (hpw : S.Pairwise (· ≤ ·)) (hc : Cs c) (h0 : mtx c l r 1000000000 ≠ 0) : 0 < S.length ∧ mtx c l r (S.getD (S.length - 1) 0) = mtx c l r 1000000000 := by
  have hpos : 0 < S.length := by
    rcases Nat.eq_zero_or_pos S.length with h | h
    · exfalso
      apply h0
      have hn : ∀ i j, i < l → j < r → c i j < 0 := fun i j hi hj => by
        apply Classical.byContradiction
        intro hc'
        have := (hmem (c i j)).2 ⟨by omega, i, j, hi, hj, rfl⟩
        rw [List.eq_nil_of_length_eq_zero h] at this; cases this
      unfold mtx
      have hinv := kM_inv (okc c 1000000000) r l
      rw [hinv.cnt]
      have : ∀ j, j < r → decide (0 ≤ (kM (okc c 1000000000) r l).1 j) = false := fun j hj => decide_eq_false fun h => by
        rcases hinv.v j with h1 | ⟨i, h1, h2, h3, h4⟩
        · omega
        · rw [okc_no1 (hn i j h2 h3)] at h4; cases h4
      rw [cN_congr (q := fun _ => false) this]
      clear this
      generalize r = n
      induction n with
      | zero => rfl
      | succ n ih => simp only [cN]; rw [ih]; rfl
    · exact h
  refine ⟨hpos, Nat.le_antisymm (mtx_mono fun i j _ _ _ h => by have := hc i j; omega) (mtx_mono fun i j hi hj h _ => ?_)⟩
  obtain ⟨k, hk, hke⟩ := List.getElem_of_mem ((hmem (c i j)).2 ⟨h, i, j, hi, hj, rfl⟩)
  have hkd : S.getD k 0 = c i j := by rw [← hke]; simp [hk]
  rw [← hkd]; exact pw_getD hpw (by omega) (by omega)
set_option maxRecDepth 100000 in
theorem Even_no {m : AM} {lv rv : Value} {u : Ru} {L R : List Gl} (hl : Gls m lv L) (hr : Gls m rv R) (h1 : L.length ≤ 100000) (h2 : R.length ≤ 100000) (hn : (sB L && sB R && uB u) = false) : ACall Try.prog 52 #[lv, rv, u.v] m (Ret (.tuple #[.int .i64 0, .int .i64 2]) m) := by
  have r0 : ∀ T : AM, RdL (m ++ (some { cells := u.cells } :: T)) (m.length + 0) 0 u.cells := fun T => RdL.new rfl rfl
  have hc := fun T => costs_no (hl.old T) (hr.old T) h1 h2 hn
  refine ACall.start Try.func52 rfl rfl ?_
  (repeat (first | (with_reducible refine AWo.cons ?_) | ((with_reducible refine Step.id ?_); first | ((with_reducible apply Step.move); exact rfl; exact rfl) | ((with_reducible apply Step.assign); exact rfl; exact rfl) | ((with_reducible apply Step.loadL (n := 8)); exact rfl; (focus (decide +kernel)); (focus (decide +kernel)); exact rfl; (focus (exact RdL.new rfl rfl)); exact rfl; exact rfl) | ((with_reducible apply Step.ptrNil); exact rfl; exact rfl; exact un77; exact rfl) | ((with_reducible apply Step.callR fit); exact rfl; exact Try.func54; exact rfl; exact rfl; exact (hc _)) | ((with_reducible apply Step.box 0); exact rfl; exact rfl; (focus (kernel_rfl)); exact rfl; (focus (first | (simp only [List.nil_append, List.cons_append, List.set_cons_zero, List.set_cons_succ, iv_set, bv_set, iv_rep, bv_rep]; done) | (simp only [List.nil_append, List.cons_append, List.set_cons_zero, List.set_cons_succ, iv_set, bv_set, iv_rep, bv_rep]; rfl) | rfl)))) | (with_reducible refine AWo.nil ?_) | ((with_reducible apply AW.seq)) | ((with_reducible apply Then.n)) | ((with_reducible apply AW.regL)) | ((with_reducible apply AW.condT); exact rfl; (focus (rfl)))))
  (refine AW.retD (l := [(6, _), (7, _)]) (by repeat (first | exact trivial | (refine And.intro ⟨rfl, by (exact .int _ _)⟩ ?_))) ?_; (repeat (first | refine Then.r ?_ | refine InBlk.r ?_)))
  exact ⟨_, rfl, rfl, rfl⟩
/-- All costs of allowed pairs, sorted. -/
def allS (c : Nat → Nat → Int) (l r : Nat) : List Int := srt ((allR c r l).filter fun x => !decide (x < 0))
theorem allS_mem {c : Nat → Nat → Int} {l r : Nat} (x : Int) : x ∈ allS c l r ↔ 0 ≤ x ∧ ∃ i j, i < l ∧ j < r ∧ c i j = x := by
  unfold allS
  rw [srt_mem, List.mem_filter, allR_mem]
  simp only [Bool.not_eq_true', decide_eq_false_iff_not]
  constructor
  · rintro ⟨h1, h2⟩; exact ⟨by omega, h1⟩
  · rintro ⟨h1, h2⟩; exact ⟨h2, by omega⟩
set_option maxRecDepth 100000 in
theorem delete_nil {m : AM} (h : 0 < m.length) : ACall Try.prog 84 #[.slice none 0 0, .func (.func 85) #[] #[]] m (Ret (.slice none 0 0) m) := by
  have hi : ∀ T : AM, ACall Try.prog 102 #[.slice none 0 0, .func (.func 85) #[] #[]] (m ++ T) (Ret (.int .i64 (idxF (fun _ => false) ([] : List Int).length)) (m ++ T)) := fun T => indexF_ok (l := []) (ints_nil (by simp; omega)) Try.func85 rfl (fun _ => false) (by simp) (fun k hk => by simp at hk)
  rw [show idxF (fun _ => false) ([] : List Int).length = -1 from idxF_miss fun i hi => by simp at hi] at hi
  refine ACall.start Try.func84 rfl rfl ?_
  (repeat (first | (with_reducible refine AWo.cons ?_) | ((with_reducible refine Step.id ?_); first | ((with_reducible apply Step.move); exact rfl; exact rfl) | ((with_reducible apply Step.assign); exact rfl; exact rfl) | ((with_reducible apply Step.eql); exact rfl; exact rfl; exact rfl) | ((with_reducible apply Step.callR fit); exact rfl; exact Try.func102; exact rfl; exact rfl; exact (hi _))) | (with_reducible refine AWo.nil ?_) | ((with_reducible apply AW.seq)) | ((with_reducible apply Then.n)) | ((with_reducible apply AW.regL)) | ((with_reducible apply AW.condT); exact rfl; (focus (rfl)))))
  (refine AW.retD (l := [(4, _)]) (by repeat (first | exact trivial | (refine And.intro ⟨rfl, by (exact Ren.of_g0 rfl)⟩ ?_))) ?_; (repeat (first | refine Then.r ?_ | refine InBlk.r ?_)))
  exact ⟨_, rfl, rfl, rfl⟩
theorem ev_lo {c : Nat → Nat → Int} {l r : Nat} {S : List Int} {mid : Nat} (hpw : S.Pairwise (· ≤ ·)) (hc : Cs c) (hl : mid < S.length) (h : mtx c l r (S.getD mid 0) ≠ mtx c l r 1000000000) : ∀ i, i < mid + 1 → mtx c l r (S.getD i 0) ≠ mtx c l r 1000000000 := fun i hi => by
  have h1 : mtx c l r (S.getD i 0) ≤ mtx c l r (S.getD mid 0) := mtx_mono fun a b _ _ _ h => by have := pw_getD hpw (show i ≤ mid by omega) hl; omega
  have h2 : mtx c l r (S.getD mid 0) ≤ mtx c l r 1000000000 := mtx_mono fun a b _ _ _ _ => by have := hc a b; omega
  omega
end Go.Proofs.Ytajpngnphbdnnaa.Abs
namespace Go.Proofs.Ytajpngnphbdnnaa.Abs
set_option linter.unusedSimpArgs false
set_option linter.unusedVariables false
open Go.RowKit
open Go.Proofs.Ytajpngnphbdnnaa.Sim
open Go.Proofs
open Hung
/-- The best of what was looked at. -/
def EvI (c : Nat → Nat → Int) (l r i j : Nat) (best : Int) : Prop :=
  (best = -1 ∧ ∀ i' j', i' < i ∧ j' < r ∨ i' = i ∧ j' < j → 0 ≤ c i' j' → mtx c l r (c i' j') ≠ mtx c l r 1000000000) ∨
  (0 ≤ best ∧ (∃ i' j', (i' < i ∧ j' < r ∨ i' = i ∧ j' < j) ∧ c i' j' = best) ∧ mtx c l r best = mtx c l r 1000000000 ∧ ∀ i' j', i' < i ∧ j' < r ∨ i' = i ∧ j' < j → 0 ≤ c i' j' → mtx c l r (c i' j') = mtx c l r 1000000000 → best ≤ c i' j')
theorem EvI.skip {c : Nat → Nat → Int} {l r i j : Nat} {best : Int} (h : EvI c l r i j best) (hc : 0 ≤ c i j → mtx c l r (c i j) = mtx c l r 1000000000 → 0 ≤ best ∧ best ≤ c i j) : EvI c l r i (j + 1) best := by
  rcases h with ⟨h1, h2⟩ | ⟨h1, ⟨a, b, h2, h3⟩, h4, h5⟩
  · refine .inl ⟨h1, fun i' j' h h0 he => ?_⟩
    by_cases e : i' = i ∧ j' = j
    · obtain ⟨rfl, rfl⟩ := e
      have := hc h0 he; omega
    · exact h2 i' j' (by omega) h0 he
  · refine .inr ⟨h1, ⟨a, b, by omega, h3⟩, h4, fun i' j' h h0 he => ?_⟩
    by_cases e : i' = i ∧ j' = j
    · obtain ⟨rfl, rfl⟩ := e
      exact (hc h0 he).2
    · exact h5 i' j' (by omega) h0 he
theorem EvI.take {c : Nat → Nat → Int} {l r i j : Nat} {best : Int} (h : EvI c l r i j best) (h0 : 0 ≤ c i j) (hm : mtx c l r (c i j) = mtx c l r 1000000000) (hb : best < 0 ∨ c i j < best) : EvI c l r i (j + 1) (c i j) := by
  refine .inr ⟨h0, ⟨i, j, by omega, rfl⟩, hm, fun i' j' hp h0' he => ?_⟩
  by_cases e : i' = i ∧ j' = j
  · obtain ⟨rfl, rfl⟩ := e; exact Int.le_refl _
  · rcases h with ⟨h1, h2⟩ | ⟨h1, _, h4, h5⟩
    · exact absurd he (h2 i' j' (by omega) h0')
    · have := h5 i' j' (by omega) h0' he
      omega
theorem EvI.next {c : Nat → Nat → Int} {l r i : Nat} {best : Int} (h : EvI c l r i r best) : EvI c l r (i + 1) 0 best := by
  rcases h with ⟨h1, h2⟩ | ⟨h1, ⟨a, b, h2, h3⟩, h4, h5⟩
  · exact .inl ⟨h1, fun i' j' h => h2 i' j' (by omega)⟩
  · exact .inr ⟨h1, ⟨a, b, by omega, h3⟩, h4, fun i' j' h => h5 i' j' (by omega)⟩
theorem EvI.fin {c : Nat → Nat → Int} {l r : Nat} {best : Int} (hc : Cs c) (h : EvI c l r l 0 best) (h0 : mtx c l r 1000000000 ≠ 0) : EvS c l r best := by
  obtain ⟨hpos, hl⟩ := ev_last (S := allS c l r) (fun x => allS_mem x) (srt_pw _) hc h0
  have hm : (allS c l r).getD ((allS c l r).length - 1) 0 ∈ allS c l r := by
    rw [List.getD_eq_getElem?_getD, List.getElem?_eq_getElem (by omega)]; exact List.getElem_mem (by omega)
  obtain ⟨g0, a, b, ha, hb, hab⟩ := (allS_mem _).1 hm
  rcases h with ⟨h1, h2⟩ | ⟨h1, ⟨a', b', h2, h3⟩, h4, h5⟩
  · exfalso
    rw [← hab] at hl
    exact h2 a b (by omega) (by omega) hl
  · exact ⟨fun h => absurd h h0, fun _ => ⟨⟨a', b', by omega, by omega, h3⟩, h1, h4, fun i j hi hj => h5 i j (by omega)⟩⟩
set_option maxRecDepth 100000 in
theorem REven_no {m : AM} {lv rv : Value} {u : Ru} {L R : List Gl} (hl : Gls m lv L) (hr : Gls m rv R) (h1 : L.length ≤ 9223372036854775807) (h2 : R.length ≤ 9223372036854775807) (hok : okB L R u = false) : ACall Try.prog 53 #[lv, rv, u.v] m (Ret (.tuple #[.int .i64 0, .int .i64 2]) m) := by
  have r0 : ∀ T : AM, RdL (m ++ (some { cells := u.cells } :: T)) (m.length + 0) 0 u.cells := fun T => RdL.new rfl rfl
  have w2 := fun T => Good_ok (hl.old T) (hr.old T) h1 h2 hok
  refine ACall.start Try.func53 rfl rfl ?_
  (repeat (first | (with_reducible refine AWo.cons ?_) | ((with_reducible refine Step.id ?_); first | ((with_reducible apply Step.move); exact rfl; exact rfl) | ((with_reducible apply Step.assign); exact rfl; exact rfl) | ((with_reducible apply Step.loadL (n := 8)); exact rfl; (focus (decide +kernel)); (focus (decide +kernel)); exact rfl; (focus (exact RdL.new rfl rfl)); exact rfl; exact rfl) | ((with_reducible apply Step.not); exact rfl; exact rfl) | ((with_reducible apply Step.callR fit); exact rfl; exact Try.func26; exact rfl; exact rfl; exact (w2 _)) | ((with_reducible apply Step.box 0); exact rfl; exact rfl; (focus (kernel_rfl)); exact rfl; (focus (first | (simp only [List.nil_append, List.cons_append, List.set_cons_zero, List.set_cons_succ, iv_set, bv_set, iv_rep, bv_rep]; done) | (simp only [List.nil_append, List.cons_append, List.set_cons_zero, List.set_cons_succ, iv_set, bv_set, iv_rep, bv_rep]; rfl) | rfl)))) | (with_reducible refine AWo.nil ?_) | ((with_reducible apply AW.seq)) | ((with_reducible apply Then.n)) | ((with_reducible apply AW.regL)) | ((with_reducible apply AW.condT); exact rfl; (focus (rfl)))))
  (refine AW.retD (l := [(6, _), (7, _)]) (by repeat (first | exact trivial | (refine And.intro ⟨rfl, by (exact .int _ _)⟩ ?_))) ?_; (repeat (first | refine Then.r ?_ | refine InBlk.r ?_)))
  exact ⟨_, rfl, rfl, rfl⟩
set_option maxHeartbeats 4000000 in
set_option maxRecDepth 100000 in
theorem REven_ok {m : AM} {lv rv : Value} {u : Ru} {L R : List Gl} (hl : Gls m lv L) (hr : Gls m rv R) (h1 : L.length ≤ 9223372036854775807) (h2 : R.length ≤ 9223372036854775807) (hok : okB L R u = true) : ACall Try.prog 53 #[lv, rv, u.v] m (Ret (.tuple #[.int .i64 (evV (cT u L R) L.length R.length), .int .i64 0]) m) := by
  have r0 : ∀ T : AM, RdL (m ++ (some { cells := u.cells } :: T)) (m.length + 0) 0 u.cells := fun T => RdL.new rfl rfl
  have w2 := fun T => Good_ok (hl.old T) (hr.old T) h1 h2 hok
  obtain ⟨k1, k2, k3⟩ := okB_iff hok
  obtain ⟨hl32, hr32⟩ := okB_len hok
  have hcs := cT_cs k3 k1 k2
  obtain ⟨la, lo, l1, l2, _⟩ := id hl
  obtain ⟨ra, ro, r1, r2, _⟩ := id hr
  refine ACall.drop (Ren.tupG [.int .i64 _, .int .i64 0] rfl) ?_
  refine ACall.start Try.func53 rfl rfl ?_
  (repeat (first | (with_reducible refine AWo.cons ?_) | ((with_reducible refine Step.id ?_); first | ((with_reducible apply Step.move); exact rfl; exact rfl) | ((with_reducible apply Step.assign); exact rfl; exact rfl) | ((with_reducible apply Step.loadL (n := 8)); exact rfl; (focus (decide +kernel)); (focus (decide +kernel)); exact rfl; (focus (exact RdL.new rfl rfl)); exact rfl; exact rfl) | ((with_reducible apply Step.not); exact rfl; exact rfl) | ((with_reducible apply Step.callR fit); exact rfl; exact Try.func26; exact rfl; exact rfl; exact (w2 _)) | ((with_reducible apply Step.box 0); exact rfl; exact rfl; (focus (kernel_rfl)); exact rfl; (focus (first | (simp only [List.nil_append, List.cons_append, List.set_cons_zero, List.set_cons_succ, iv_set, bv_set, iv_rep, bv_rep]; done) | (simp only [List.nil_append, List.cons_append, List.set_cons_zero, List.set_cons_succ, iv_set, bv_set, iv_rep, bv_rep]; rfl) | rfl)))) | (with_reducible refine AWo.nil ?_) | ((with_reducible apply AW.seq)) | ((with_reducible apply Then.n)) | ((with_reducible apply AW.regL)) | ((with_reducible apply AW.skip)) | ((with_reducible apply AW.condF); exact rfl; (focus (rfl)))))
  ((with_reducible apply Step.callX fit); exact rfl; exact Try.func59; exact rfl; exact rfl; exact (table_ok (hl.old _) (hr.old _) k1 k2 k3))
  rintro cv M ⟨N0, hN0⟩ hT
  have hMN : ∃ N, M = m ++ N := ⟨_, by rw [hN0, List.append_assoc]⟩
  have hmM : m.length ≤ M.length := by obtain ⟨N, rfl⟩ := hMN; simp
  have wr : Low M.length rv := Low.of_sl r1 (by omega)
  clear r0 hN0 w2 hl hr
  generalize cT u L R = c at *
  generalize L.length = l at *
  generalize R.length = r at *
  obtain ⟨cb, co, c1, c2, c3⟩ := id hT
  have wc : Low M.length cv := Low.of_sl c1 c2
  have hmost : ∀ x, mtx c l r x ≤ r := fun x => by unfold mtx; rw [(kM_inv (okc c x) r l).cnt]; exact cN_le _
  have hmat : ∀ (x : Int) (T : AM), ACall Try.prog 78 #[cv, .int .i64 (r : Nat), .int .i64 x] (M ++ T) (Ret (.int .i64 (mtx c l r x : Nat)) (M ++ T)) := fun x T => rmatched_ok (hT.old T) hl32 hr32
  have hm9 := hmost 1000000000
  have hfin := fun best => EvI.fin (c := c) (l := l) (r := r) (best := best) hcs
  have hev0 : mtx c l r 1000000000 = 0 → evV c l r = 0 := fun h => EvS.evV ⟨fun _ => rfl, fun h' => absurd h h'⟩
  (repeat (first | (with_reducible refine AWo.cons ?_) | ((with_reducible refine Step.id ?_); first | ((with_reducible apply Step.move); exact rfl; exact rfl) | ((with_reducible apply Step.assign); exact rfl; exact rfl) | ((with_reducible apply Step.len); exact rfl; (focus (assumption)); (focus (decide +kernel)); exact rfl) | ((with_reducible apply Step.callR fit); exact rfl; exact Try.func78; exact rfl; exact rfl; exact (hmat 1000000000 _))) | (with_reducible refine AWo.nil ?_) | ((with_reducible apply AW.seq)) | ((with_reducible apply Then.n)) | ((with_reducible apply AW.regL)) | ((with_reducible apply AW.block))))
  rw [List.append_nil]
  refine AW.rebase ?_
  refine AW.loopT (fun rk t L' => ∃ (i : Nat) (best : Int), rk = l - i ∧ i ≤ l ∧ EvI c l r i 0 best ∧ L' = [] ∧ t = [(1, rv), (8, cv), (9, .int .i64 (mtx c l r 1000000000 : Nat)), (10, .int .i64 best), (28, cv), (29, .int .i64 (l : Nat)), (30, .int .i64 (i : Nat))])
    ⟨_, _, _, (Or.inl ⟨rfl, (by repeat (first | exact trivial | (refine And.intro rfl ?_)))⟩), 0, -1, rfl, Nat.zero_le _, .inl ⟨rfl, fun i' j' h => by omega⟩, rfl, rfl⟩ ?_
  rintro rk t L' ⟨i, best, rfl, hi, hI, rfl, rfl⟩
  rcases Nat.lt_or_ge i l with hil | hig
  · obtain ⟨w, q1, rb, ro', w1, w2, w3⟩ := c3 i hil
    rw [tab_len] at w1 w3
    (repeat (first | (with_reducible refine AWo.cons ?_) | ((with_reducible refine Step.id ?_); first | ((with_reducible apply Step.move); exact rfl; exact rfl) | ((with_reducible apply Step.assign); exact rfl; exact rfl) | ((with_reducible apply Step.load); exact rfl; (focus (decide +kernel)); exact rfl; (focus (exact q1.old _))) | ((with_reducible apply Step.ix1); exact rfl; (focus (assumption)); exact rfl; (focus (decide +kernel)); exact rfl; (focus (omega))) | ((with_reducible apply Step.lss); exact rfl; exact rfl; exact rfl) | ((with_reducible apply Step.len); exact rfl; (focus (assumption)); (focus (decide +kernel)); exact rfl)) | (with_reducible refine AWo.nil ?_) | ((with_reducible apply AW.seq)) | ((with_reducible apply Then.n)) | ((with_reducible apply AW.regL)) | ((with_reducible apply AW.block)) | ((with_reducible apply AW.skip)) | ((with_reducible apply AW.condT); exact rfl; (focus ((simp only [decide_eq_true_eq, decide_eq_false_iff_not, Bool.not_eq_true', Bool.not_eq_false', Bool.not_true, Bool.not_false]; first | assumption | omega))))))
    refine AW.loopT (fun rk t L' => ∃ (j : Nat) (best : Int), rk = r - j ∧ j ≤ r ∧ EvI c l r i j best ∧ L' = [] ∧ t = [(1, rv), (8, cv), (9, .int .i64 (mtx c l r 1000000000 : Nat)), (10, .int .i64 best), (28, cv), (29, .int .i64 (l : Nat)), (30, .int .i64 (i : Nat)), (34, w), (35, .int .i64 (r : Nat)), (36, .int .i64 (j : Nat))])
      ⟨_, _, _, (Or.inl ⟨rfl, (by repeat (first | exact trivial | (refine And.intro rfl ?_)))⟩), 0, best, rfl, Nat.zero_le _, hI, rfl, rfl⟩ ?_
    clear hI
    rintro rk t L' ⟨j, best, rfl, hj, hI, rfl, rfl⟩
    rcases Nat.lt_or_ge j r with hjr | hjg
    · have q5 := w3 j hjr
      rw [tab_get (c i) hjr] at q5
      have hsk := hI.skip
      have htk := hI.take
      have hmx := hmost (c i j)
      have hcall := hmat (c i j)
      by_cases e1 : c i j < 0
      · have hI2 := hsk (fun h => by omega)
        (repeat (first | (with_reducible refine AWo.cons ?_) | ((with_reducible refine Step.id ?_); first | ((with_reducible apply Step.gdU); exact rfl; exact rfl) | ((with_reducible apply Step.gdF); exact rfl; exact rfl; (focus (first | rfl | (simp only [decide_eq_true_eq, decide_eq_false_iff_not, Bool.not_eq_true', Bool.not_eq_false', Bool.not_true, Bool.not_false]; first | assumption | omega)))) | ((with_reducible apply Step.move); exact rfl; exact rfl) | ((with_reducible apply Step.assign); exact rfl; exact rfl) | ((with_reducible apply Step.load); exact rfl; (focus (decide +kernel)); exact rfl; (focus (exact q5.old _))) | ((with_reducible apply Step.ix1); exact rfl; (focus (assumption)); exact rfl; (focus (decide +kernel)); exact rfl; (focus (omega))) | ((with_reducible apply Step.add); exact rfl; exact rfl; (focus (omega)); exact rfl) | ((with_reducible apply Step.lss); exact rfl; exact rfl; exact rfl) | ((with_reducible apply Step.geq); exact rfl; exact rfl; exact rfl) | ((with_reducible apply Step.pickF); exact rfl; exact rfl; exact rfl; exact rfl; (focus (first | rfl | (simp only [decide_eq_true_eq, decide_eq_false_iff_not, Bool.not_eq_true', Bool.not_eq_false', Bool.not_true, Bool.not_false]; first | assumption | omega))))) | (with_reducible refine AWo.nil ?_) | ((with_reducible apply AW.seq)) | ((with_reducible apply Then.n)) | ((with_reducible apply AW.regL)) | ((with_reducible apply AW.block)) | ((with_reducible apply InBlk.n)) | ((with_reducible apply AW.skip)) | ((with_reducible apply AW.condT); exact rfl; (focus ((simp only [decide_eq_true_eq, decide_eq_false_iff_not, Bool.not_eq_true', Bool.not_eq_false', Bool.not_true, Bool.not_false]; first | assumption | omega)))) | ((with_reducible apply AW.condF); exact rfl; (focus (rfl)))))
        exact ⟨_, _, _, by omega, (Or.inl ⟨rfl, (by repeat (first | exact trivial | (refine And.intro rfl ?_)))⟩), j + 1, best, rfl, by omega, hI2, rfl, rfl⟩
      · by_cases e2 : best < 0 ∨ c i j < best
        · by_cases e3 : mtx c l r (c i j) = mtx c l r 1000000000
          · have hI2 := htk (by omega) e3 e2
            rw [e3] at hcall
            generalize mtx c l r 1000000000 = most at *
            by_cases e4 : best < 0
            · (repeat (first | (with_reducible refine AWo.cons ?_) | ((with_reducible refine Step.id ?_); first | ((with_reducible apply Step.gdT); exact rfl; exact rfl; (focus (first | rfl | (simp only [decide_eq_true_eq, decide_eq_false_iff_not, Bool.not_eq_true', Bool.not_eq_false', Bool.not_true, Bool.not_false]; first | assumption | omega)))) | ((with_reducible apply Step.gdF); exact rfl; exact rfl; (focus ((simp only [decide_eq_true_eq, decide_eq_false_iff_not, Bool.not_eq_true', Bool.not_eq_false', Bool.not_true, Bool.not_false]; first | assumption | omega)))) | ((with_reducible apply Step.move); exact rfl; exact rfl) | ((with_reducible apply Step.assign); exact rfl; exact rfl) | ((with_reducible apply Step.load); exact rfl; (focus (decide +kernel)); exact rfl; (focus (exact q5.old _))) | ((with_reducible apply Step.ix1); exact rfl; (focus (assumption)); exact rfl; (focus (decide +kernel)); exact rfl; (focus (omega))) | ((with_reducible apply Step.add); exact rfl; exact rfl; (focus (omega)); exact rfl) | ((with_reducible apply Step.lss); exact rfl; exact rfl; exact rfl) | ((with_reducible apply Step.geq); exact rfl; exact rfl; exact rfl) | ((with_reducible apply Step.eql); exact rfl; exact rfl; exact rfl) | ((with_reducible apply Step.len); exact rfl; (focus (assumption)); (focus (decide +kernel)); exact rfl) | ((with_reducible apply Step.pickT); exact rfl; exact rfl; exact rfl; exact rfl; (focus (first | rfl | (simp only [decide_eq_true_eq, decide_eq_false_iff_not, Bool.not_eq_true', Bool.not_eq_false', Bool.not_true, Bool.not_false]; first | assumption | omega)))) | ((with_reducible apply Step.callR fit); exact rfl; exact Try.func78; exact rfl; exact rfl; exact (hcall _))) | (with_reducible refine AWo.nil ?_) | ((with_reducible apply AW.seq)) | ((with_reducible apply Then.n)) | ((with_reducible apply AW.regL)) | ((with_reducible apply AW.block)) | ((with_reducible apply InBlk.n)) | ((with_reducible apply AW.skip)) | ((with_reducible apply AW.condT); exact rfl; (focus (first | (simp only [decide_eq_true_eq, decide_eq_false_iff_not, Bool.not_eq_true', Bool.not_eq_false', Bool.not_true, Bool.not_false]; first | assumption | omega) | (simp; done))))))
              exact ⟨_, _, _, by omega, (Or.inl ⟨rfl, (by repeat (first | exact trivial | (refine And.intro rfl ?_)))⟩), j + 1, c i j, rfl, by omega, hI2, rfl, rfl⟩
            · have e5 : c i j < best := by omega
              (repeat (first | (with_reducible refine AWo.cons ?_) | ((with_reducible refine Step.id ?_); first | ((with_reducible apply Step.gdT); exact rfl; exact rfl; (focus ((simp only [decide_eq_true_eq, decide_eq_false_iff_not, Bool.not_eq_true', Bool.not_eq_false', Bool.not_true, Bool.not_false]; first | assumption | omega)))) | ((with_reducible apply Step.move); exact rfl; exact rfl) | ((with_reducible apply Step.assign); exact rfl; exact rfl) | ((with_reducible apply Step.load); exact rfl; (focus (decide +kernel)); exact rfl; (focus (exact q5.old _))) | ((with_reducible apply Step.ix1); exact rfl; (focus (assumption)); exact rfl; (focus (decide +kernel)); exact rfl; (focus (omega))) | ((with_reducible apply Step.add); exact rfl; exact rfl; (focus (omega)); exact rfl) | ((with_reducible apply Step.lss); exact rfl; exact rfl; exact rfl) | ((with_reducible apply Step.geq); exact rfl; exact rfl; exact rfl) | ((with_reducible apply Step.eql); exact rfl; exact rfl; exact rfl) | ((with_reducible apply Step.len); exact rfl; (focus (assumption)); (focus (decide +kernel)); exact rfl) | ((with_reducible apply Step.pickT); exact rfl; exact rfl; exact rfl; exact rfl; (focus ((simp only [decide_eq_true_eq, decide_eq_false_iff_not, Bool.not_eq_true', Bool.not_eq_false', Bool.not_true, Bool.not_false]; first | assumption | omega)))) | ((with_reducible apply Step.pickF); exact rfl; exact rfl; exact rfl; exact rfl; (focus ((simp only [decide_eq_true_eq, decide_eq_false_iff_not, Bool.not_eq_true', Bool.not_eq_false', Bool.not_true, Bool.not_false]; first | assumption | omega)))) | ((with_reducible apply Step.callR fit); exact rfl; exact Try.func78; exact rfl; exact rfl; exact (hcall _))) | (with_reducible refine AWo.nil ?_) | ((with_reducible apply AW.seq)) | ((with_reducible apply Then.n)) | ((with_reducible apply AW.regL)) | ((with_reducible apply AW.block)) | ((with_reducible apply InBlk.n)) | ((with_reducible apply AW.skip)) | ((with_reducible apply AW.condT); exact rfl; (focus (first | (simp only [decide_eq_true_eq, decide_eq_false_iff_not, Bool.not_eq_true', Bool.not_eq_false', Bool.not_true, Bool.not_false]; first | assumption | omega) | (simp; done))))))
              exact ⟨_, _, _, by omega, (Or.inl ⟨rfl, (by repeat (first | exact trivial | (refine And.intro rfl ?_)))⟩), j + 1, c i j, rfl, by omega, hI2, rfl, rfl⟩
          · have hI2 := hsk (fun _ h => absurd h e3)
            generalize mtx c l r 1000000000 = most at *
            generalize mtx c l r (c i j) = mx at *
            by_cases e4 : best < 0
            · (repeat (first | (with_reducible refine AWo.cons ?_) | ((with_reducible refine Step.id ?_); first | ((with_reducible apply Step.gdT); exact rfl; exact rfl; (focus (first | rfl | (simp only [decide_eq_true_eq, decide_eq_false_iff_not, Bool.not_eq_true', Bool.not_eq_false', Bool.not_true, Bool.not_false]; first | assumption | omega)))) | ((with_reducible apply Step.gdF); exact rfl; exact rfl; (focus ((simp only [decide_eq_true_eq, decide_eq_false_iff_not, Bool.not_eq_true', Bool.not_eq_false', Bool.not_true, Bool.not_false]; first | assumption | omega)))) | ((with_reducible apply Step.move); exact rfl; exact rfl) | ((with_reducible apply Step.assign); exact rfl; exact rfl) | ((with_reducible apply Step.load); exact rfl; (focus (decide +kernel)); exact rfl; (focus (exact q5.old _))) | ((with_reducible apply Step.ix1); exact rfl; (focus (assumption)); exact rfl; (focus (decide +kernel)); exact rfl; (focus (omega))) | ((with_reducible apply Step.add); exact rfl; exact rfl; (focus (omega)); exact rfl) | ((with_reducible apply Step.lss); exact rfl; exact rfl; exact rfl) | ((with_reducible apply Step.geq); exact rfl; exact rfl; exact rfl) | ((with_reducible apply Step.eql); exact rfl; exact rfl; exact rfl) | ((with_reducible apply Step.len); exact rfl; (focus (assumption)); (focus (decide +kernel)); exact rfl) | ((with_reducible apply Step.pickT); exact rfl; exact rfl; exact rfl; exact rfl; (focus (first | rfl | (simp only [decide_eq_true_eq, decide_eq_false_iff_not, Bool.not_eq_true', Bool.not_eq_false', Bool.not_true, Bool.not_false]; first | assumption | omega)))) | ((with_reducible apply Step.callR fit); exact rfl; exact Try.func78; exact rfl; exact rfl; exact (hcall _))) | (with_reducible refine AWo.nil ?_) | ((with_reducible apply AW.seq)) | ((with_reducible apply Then.n)) | ((with_reducible apply AW.regL)) | ((with_reducible apply AW.block)) | ((with_reducible apply InBlk.n)) | ((with_reducible apply AW.skip)) | ((with_reducible apply AW.condT); exact rfl; (focus ((simp only [decide_eq_true_eq, decide_eq_false_iff_not, Bool.not_eq_true', Bool.not_eq_false', Bool.not_true, Bool.not_false]; first | assumption | omega)))) | ((with_reducible apply AW.condF); exact rfl; (focus ((simp only [decide_eq_true_eq, decide_eq_false_iff_not, Bool.not_eq_true', Bool.not_eq_false', Bool.not_true, Bool.not_false]; first | assumption | omega))))))
              exact ⟨_, _, _, by omega, (Or.inl ⟨rfl, (by repeat (first | exact trivial | (refine And.intro rfl ?_)))⟩), j + 1, best, rfl, by omega, hI2, rfl, rfl⟩
            · have e5 : c i j < best := by omega
              (repeat (first | (with_reducible refine AWo.cons ?_) | ((with_reducible refine Step.id ?_); first | ((with_reducible apply Step.gdT); exact rfl; exact rfl; (focus ((simp only [decide_eq_true_eq, decide_eq_false_iff_not, Bool.not_eq_true', Bool.not_eq_false', Bool.not_true, Bool.not_false]; first | assumption | omega)))) | ((with_reducible apply Step.move); exact rfl; exact rfl) | ((with_reducible apply Step.assign); exact rfl; exact rfl) | ((with_reducible apply Step.load); exact rfl; (focus (decide +kernel)); exact rfl; (focus (exact q5.old _))) | ((with_reducible apply Step.ix1); exact rfl; (focus (assumption)); exact rfl; (focus (decide +kernel)); exact rfl; (focus (omega))) | ((with_reducible apply Step.add); exact rfl; exact rfl; (focus (omega)); exact rfl) | ((with_reducible apply Step.lss); exact rfl; exact rfl; exact rfl) | ((with_reducible apply Step.geq); exact rfl; exact rfl; exact rfl) | ((with_reducible apply Step.eql); exact rfl; exact rfl; exact rfl) | ((with_reducible apply Step.len); exact rfl; (focus (assumption)); (focus (decide +kernel)); exact rfl) | ((with_reducible apply Step.pickT); exact rfl; exact rfl; exact rfl; exact rfl; (focus ((simp only [decide_eq_true_eq, decide_eq_false_iff_not, Bool.not_eq_true', Bool.not_eq_false', Bool.not_true, Bool.not_false]; first | assumption | omega)))) | ((with_reducible apply Step.pickF); exact rfl; exact rfl; exact rfl; exact rfl; (focus ((simp only [decide_eq_true_eq, decide_eq_false_iff_not, Bool.not_eq_true', Bool.not_eq_false', Bool.not_true, Bool.not_false]; first | assumption | omega)))) | ((with_reducible apply Step.callR fit); exact rfl; exact Try.func78; exact rfl; exact rfl; exact (hcall _))) | (with_reducible refine AWo.nil ?_) | ((with_reducible apply AW.seq)) | ((with_reducible apply Then.n)) | ((with_reducible apply AW.regL)) | ((with_reducible apply AW.block)) | ((with_reducible apply InBlk.n)) | ((with_reducible apply AW.skip)) | ((with_reducible apply AW.condT); exact rfl; (focus ((simp only [decide_eq_true_eq, decide_eq_false_iff_not, Bool.not_eq_true', Bool.not_eq_false', Bool.not_true, Bool.not_false]; first | assumption | omega)))) | ((with_reducible apply AW.condF); exact rfl; (focus ((simp only [decide_eq_true_eq, decide_eq_false_iff_not, Bool.not_eq_true', Bool.not_eq_false', Bool.not_true, Bool.not_false]; first | assumption | omega))))))
              exact ⟨_, _, _, by omega, (Or.inl ⟨rfl, (by repeat (first | exact trivial | (refine And.intro rfl ?_)))⟩), j + 1, best, rfl, by omega, hI2, rfl, rfl⟩
        · have hI2 := hsk (fun _ _ => by omega)
          (repeat (first | (with_reducible refine AWo.cons ?_) | ((with_reducible refine Step.id ?_); first | ((with_reducible apply Step.gdT); exact rfl; exact rfl; (focus ((simp only [decide_eq_true_eq, decide_eq_false_iff_not, Bool.not_eq_true', Bool.not_eq_false', Bool.not_true, Bool.not_false]; first | assumption | omega)))) | ((with_reducible apply Step.gdF); exact rfl; exact rfl; (focus ((simp only [decide_eq_true_eq, decide_eq_false_iff_not, Bool.not_eq_true', Bool.not_eq_false', Bool.not_true, Bool.not_false]; first | assumption | omega)))) | ((with_reducible apply Step.move); exact rfl; exact rfl) | ((with_reducible apply Step.assign); exact rfl; exact rfl) | ((with_reducible apply Step.load); exact rfl; (focus (decide +kernel)); exact rfl; (focus (exact q5.old _))) | ((with_reducible apply Step.ix1); exact rfl; (focus (assumption)); exact rfl; (focus (decide +kernel)); exact rfl; (focus (omega))) | ((with_reducible apply Step.add); exact rfl; exact rfl; (focus (omega)); exact rfl) | ((with_reducible apply Step.lss); exact rfl; exact rfl; exact rfl) | ((with_reducible apply Step.geq); exact rfl; exact rfl; exact rfl) | ((with_reducible apply Step.pickT); exact rfl; exact rfl; exact rfl; exact rfl; (focus ((simp only [decide_eq_true_eq, decide_eq_false_iff_not, Bool.not_eq_true', Bool.not_eq_false', Bool.not_true, Bool.not_false]; first | assumption | omega)))) | ((with_reducible apply Step.pickF); exact rfl; exact rfl; exact rfl; exact rfl; (focus ((simp only [decide_eq_true_eq, decide_eq_false_iff_not, Bool.not_eq_true', Bool.not_eq_false', Bool.not_true, Bool.not_false]; first | assumption | omega))))) | (with_reducible refine AWo.nil ?_) | ((with_reducible apply AW.seq)) | ((with_reducible apply Then.n)) | ((with_reducible apply AW.regL)) | ((with_reducible apply AW.block)) | ((with_reducible apply InBlk.n)) | ((with_reducible apply AW.skip)) | ((with_reducible apply AW.condT); exact rfl; (focus ((simp only [decide_eq_true_eq, decide_eq_false_iff_not, Bool.not_eq_true', Bool.not_eq_false', Bool.not_true, Bool.not_false]; first | assumption | omega)))) | ((with_reducible apply AW.condF); exact rfl; (focus (rfl)))))
          exact ⟨_, _, _, by omega, (Or.inl ⟨rfl, (by repeat (first | exact trivial | (refine And.intro rfl ?_)))⟩), j + 1, best, rfl, by omega, hI2, rfl, rfl⟩
    · obtain rfl : j = r := by omega
      (repeat (first | (with_reducible refine AWo.cons ?_) | ((with_reducible refine Step.id ?_); first | ((with_reducible apply Step.move); exact rfl; exact rfl) | ((with_reducible apply Step.add); exact rfl; exact rfl; (focus (omega)); exact rfl) | ((with_reducible apply Step.lss); exact rfl; exact rfl; exact rfl)) | (with_reducible refine AWo.nil ?_) | ((with_reducible apply AW.seq)) | ((with_reducible apply Then.n)) | ((with_reducible apply AW.regL)) | ((with_reducible apply AW.exit)) | ((with_reducible apply InBlk.n)) | ((with_reducible apply InBlk.hit)) | ((with_reducible apply Then.e)) | ((with_reducible apply AW.condF); exact rfl; (focus ((simp only [decide_eq_true_eq, decide_eq_false_iff_not, Bool.not_eq_true', Bool.not_eq_false', Bool.not_true, Bool.not_false]; first | assumption | omega))))))
      exact ⟨_, _, _, by omega, (Or.inl ⟨rfl, (by repeat (first | exact trivial | (refine And.intro rfl ?_)))⟩), i + 1, best, rfl, by omega, hI.next, rfl, rfl⟩
  · obtain rfl : i = l := by omega
    have hfb := hfin best hI
    by_cases h0 : mtx c i r 1000000000 = 0
    · rw [hev0 h0, h0]
      (repeat (first | (with_reducible refine AWo.cons ?_) | ((with_reducible refine Step.id ?_); first | ((with_reducible apply Step.move); exact rfl; exact rfl) | ((with_reducible apply Step.assign); exact rfl; exact rfl) | ((with_reducible apply Step.lss); exact rfl; exact rfl; exact rfl) | ((with_reducible apply Step.eql); exact rfl; exact rfl; exact rfl)) | (with_reducible refine AWo.nil ?_) | ((with_reducible apply AW.seq)) | ((with_reducible apply Then.n)) | ((with_reducible apply AW.regL)) | ((with_reducible apply AW.exit)) | ((with_reducible apply InBlk.hit)) | ((with_reducible apply Then.e)) | ((with_reducible apply AW.condT); exact rfl; (focus (rfl))) | ((with_reducible apply AW.condF); exact rfl; (focus ((simp only [decide_eq_true_eq, decide_eq_false_iff_not, Bool.not_eq_true', Bool.not_eq_false', Bool.not_true, Bool.not_false]; first | assumption | omega))))))
      (refine AW.ret ?_; (repeat (first | refine Then.r ?_ | refine InBlk.r ?_)))
      obtain ⟨N, rfl⟩ := hMN
      exact ⟨_, rfl, rfl, N, by rw [List.append_nil]⟩
    · rw [(hfb h0).evV]
      generalize mtx c i r 1000000000 = most at *
      (repeat (first | (with_reducible refine AWo.cons ?_) | ((with_reducible refine Step.id ?_); first | ((with_reducible apply Step.move); exact rfl; exact rfl) | ((with_reducible apply Step.assign); exact rfl; exact rfl) | ((with_reducible apply Step.lss); exact rfl; exact rfl; exact rfl) | ((with_reducible apply Step.eql); exact rfl; exact rfl; exact rfl)) | (with_reducible refine AWo.nil ?_) | ((with_reducible apply AW.seq)) | ((with_reducible apply Then.n)) | ((with_reducible apply AW.regL)) | ((with_reducible apply AW.exit)) | ((with_reducible apply InBlk.hit)) | ((with_reducible apply Then.e)) | ((with_reducible apply AW.skip)) | ((with_reducible apply AW.condF); exact rfl; (focus ((simp only [decide_eq_true_eq, decide_eq_false_iff_not, Bool.not_eq_true', Bool.not_eq_false', Bool.not_true, Bool.not_false]; first | assumption | omega))))))
      (refine AW.ret ?_; (repeat (first | refine Then.r ?_ | refine InBlk.r ?_)))
      obtain ⟨N, rfl⟩ := hMN
      exact ⟨_, rfl, rfl, N, by rw [List.append_nil]⟩
end Go.Proofs.Ytajpngnphbdnnaa.Abs
namespace Go.Proofs.Ytajpngnphbdnnaa.Abs
set_option linter.unusedSimpArgs false
set_option linter.unusedVariables false
open Go.RowKit
open Go.Proofs.Ytajpngnphbdnnaa.Sim
open Go.Proofs
open Hung
set_option maxHeartbeats 8000000 in
set_option maxRecDepth 100000 in
theorem Even_ok {m : AM} {lv rv : Value} {u : Ru} {L R : List Gl} (hl : Gls m lv L) (hr : Gls m rv R) (hL : sB L = true) (hR : sB R = true) (hu : uB u = true) : ACall Try.prog 52 #[lv, rv, u.v] m (Ret (.tuple #[.int .i64 (evV (cT u L R) L.length R.length), .int .i64 0]) m) := by
  have h1 : L.length ≤ 32 ∧ L.all gB = true := by simpa [sB] using hL
  have h2 : R.length ≤ 32 ∧ R.all gB = true := by simpa [sB] using hR
  have r0 : ∀ T : AM, RdL (m ++ (some { cells := u.cells } :: T)) (m.length + 0) 0 u.cells := fun T => RdL.new rfl rfl
  have hcs := cT_cs hu hL hR
  refine ACall.drop (Ren.tupG [.int .i64 _, .int .i64 0] rfl) ?_
  refine ACall.start Try.func52 rfl rfl ?_
  (repeat (first | (with_reducible refine AWo.cons ?_) | ((with_reducible refine Step.id ?_); first | ((with_reducible apply Step.move); exact rfl; exact rfl) | ((with_reducible apply Step.assign); exact rfl; exact rfl) | ((with_reducible apply Step.loadL (n := 8)); exact rfl; (focus (decide +kernel)); (focus (decide +kernel)); exact rfl; (focus (exact RdL.new rfl rfl)); exact rfl; exact rfl) | ((with_reducible apply Step.box 0); exact rfl; exact rfl; (focus (kernel_rfl)); exact rfl; (focus (first | (simp only [List.nil_append, List.cons_append, List.set_cons_zero, List.set_cons_succ, iv_set, bv_set, iv_rep, bv_rep]; done) | (simp only [List.nil_append, List.cons_append, List.set_cons_zero, List.set_cons_succ, iv_set, bv_set, iv_rep, bv_rep]; rfl) | rfl)))) | (with_reducible refine AWo.nil ?_) | ((with_reducible apply AW.seq)) | ((with_reducible apply Then.n)) | ((with_reducible apply AW.regL))))
  ((with_reducible apply Step.callX fit); exact rfl; exact Try.func54; exact rfl; exact rfl; exact (costs_ok (hl.old _) (hr.old _) hL hR hu))
  rintro tv M ⟨N0, hN0⟩ hT
  have hMN : ∃ N, M = m ++ N := ⟨_, by rw [hN0, List.append_assoc]⟩
  clear r0 hN0
  generalize cT u L R = c at *
  obtain ⟨a, cv, b, o, htv, t1, t2, t3, t4, t5, t6, t7⟩ := id hT
  generalize hl' : L.length = l at *
  generalize hr' : R.length = r at *
  subst htv
  have hRT : RT M cv c l r := ⟨b, o, t5, t6, t7⟩
  have hXl := allR_len c r l
  have hlr : l * r ≤ 1024 := Nat.mul_le_mul h1.1 h2.1
  have hmost : ∀ x, mtx c l r x ≤ r := fun x => by unfold mtx; rw [(kM_inv (okc c x) r l).cnt]; exact cN_le _
  have hsize : ∀ (x : Int) {m' : AM} {v : Value}, Ints m' v (tab (kM (okc c x) r l).1 r) → ∀ T : AM, ACall Try.prog 69 #[v] (m' ++ T) (Ret (.int .i64 (mtx c l r x : Nat)) (m' ++ T)) := fun x m' v h T => by
    have := size_ok (h.old T) (by omega)
    rw [← (kM_inv (okc c x) r l).cnt] at this
    exact this
  have hz0 : l * r = 0 → mtx c l r 1000000000 = 0 := fun h => by
    rcases Nat.mul_eq_zero.1 h with h | h
    · subst h; rfl
    · have := hmost 1000000000; omega
  (repeat (first | (with_reducible refine AWo.cons ?_) | ((with_reducible refine Step.id ?_); first | ((with_reducible apply Step.move); exact rfl; exact rfl) | ((with_reducible apply Step.assign); exact rfl; exact rfl) | ((with_reducible apply Step.load); exact rfl; (focus (decide +kernel)); exact rfl; (focus (exact t2.old _))) | ((with_reducible apply Step.field0); exact rfl; (focus (decide +kernel)); exact rfl) | ((with_reducible apply Step.ptrNot); exact rfl; exact rfl; exact un77; exact rfl) | ((with_reducible apply Step.nilp); exact rfl; exact rfl)) | (with_reducible refine AWo.nil ?_) | ((with_reducible apply AW.seq)) | ((with_reducible apply Then.n)) | ((with_reducible apply AW.regL)) | ((with_reducible apply AW.skip)) | ((with_reducible apply AW.condF); exact rfl; (focus (rfl)))))
  ((with_reducible apply Step.callX fit); exact rfl; exact Try.func76; exact rfl; exact rfl; exact (concatN_ok (hRT.old _) (by omega) (by omega)))
  rintro v M1 ⟨N1, hN1⟩ hv
  rw [List.append_nil] at hN1
  rcases hv with ⟨z0, rfl⟩ | ⟨z0, N2, rfl, hM1⟩
  · have hm0 := hz0 z0
    have hsz := fun {m' v} => hsize 1000000000 (m' := m') (v := v)
    rw [hm0] at hsz
    have hT1 : Tab M1 (.pointer (some ⟨a, 0, none⟩)) c l r := by rw [hN1]; exact hT.old N1
    have hp1 : 0 < M1.length := by rw [hN1]; simp only [List.length_append]; omega
    have hdn := fun T => delete_nil (m := M1 ++ T) (by simp only [List.length_append]; omega)
    (repeat (first | (with_reducible refine AWo.cons ?_) | ((with_reducible refine Step.id ?_); first | ((with_reducible apply Step.move); exact rfl; exact rfl) | ((with_reducible apply Step.assign); exact rfl; exact rfl) | ((with_reducible apply Step.callR fit); exact rfl; exact Try.func84; exact rfl; exact rfl; exact (hdn _)) | ((with_reducible apply Step.callR fit); exact rfl; exact Try.func86; exact rfl; exact rfl; exact (sort_nil))) | (with_reducible refine AWo.nil ?_) | ((with_reducible apply AW.seq)) | ((with_reducible apply Then.n)) | ((with_reducible apply AW.regL))))
    ((with_reducible apply Step.callX fit); exact rfl; exact Try.func70; exact rfl; exact rfl; exact (matched_ok (hT1.old _) (by omega) (by omega)))
    rintro v' M4 ⟨N4, hN4⟩ hI
    (repeat (first | (with_reducible refine AWo.cons ?_) | ((with_reducible refine Step.id ?_); first | ((with_reducible apply Step.move); exact rfl; exact rfl) | ((with_reducible apply Step.assign); exact rfl; exact rfl) | ((with_reducible apply Step.eql); exact rfl; exact rfl; exact rfl) | ((with_reducible apply Step.callR fit); exact rfl; exact Try.func69; exact rfl; exact rfl; exact (hsz hI _))) | (with_reducible refine AWo.nil ?_) | ((with_reducible apply AW.seq)) | ((with_reducible apply Then.n)) | ((with_reducible apply AW.regL)) | ((with_reducible apply AW.condT); exact rfl; (focus (rfl)))))
    (refine AW.ret ?_; (repeat (first | refine Then.r ?_ | refine InBlk.r ?_)))
    have hev : EvS c l r 0 := ⟨fun _ => rfl, fun h => absurd hm0 h⟩
    obtain ⟨N, rfl⟩ := hMN
    exact ⟨_, rfl, by rw [hev.evV], _, by rw [hN4, hN1, List.append_nil, List.append_nil, List.append_assoc, List.append_assoc]⟩
  · rw [List.append_nil] at hM1
    obtain ⟨p, hp⟩ : ∃ p, (M ++ []).length + 0 = p := ⟨_, rfl⟩
    have hpM : p = M.length := by rw [← hp, List.append_nil]; rfl
    have hg : M1[p]? = some (some { cells := iv (allR c r l), kind := .grow, size := 1 }) := by rw [hM1, hpM, List.getElem?_append_right (Nat.le_refl _), Nat.sub_self]; rfl
    have hpl := (List.getElem?_eq_some_iff.1 hg).1
    rw [hp]
    have hd := delete_ok (m := M1) (r := p) (s := 1) (kd := .grow) (A := allR c r l) (Z := []) (n := l * r) (c := l * r) (g := 85) (cap := #[]) (fun y => decide (y < 0)) hpl rfl Try.func85 rfl hXl (Nat.le_refl _) (by omega) (fun row x _ => by simpa using neg_ok)
    rw [List.append_nil, List.append_nil, St.self hg] at hd
    obtain ⟨F, hF⟩ : ∃ F, (allR c r l).filter (fun x => !decide (x < 0)) = F := ⟨_, rfl⟩
    have hS : srt F = allS c l r := by rw [← hF]; rfl
    have hFl : F.length ≤ l * r := by rw [← hF, ← hXl]; exact List.length_filter_le _ _
    rw [hF] at hd
    generalize hZ : List.replicate (l * r - F.length) (0 : Int) = Z at *
    have hs := sort_okZ (m := St M1 p .grow 1 (F ++ Z)) (p := p) (c := l * r) (St.get hpl) rfl (by omega)
    obtain ⟨M3, hM3⟩ : ∃ M3, (St M1 p .grow 1 (F ++ Z)).set p (some { cells := iv (srt F ++ Z), kind := .grow, size := 1 }) = M3 := ⟨_, rfl⟩
    rw [hM3] at hs
    have hM3' : M3 = M1.set p (some { cells := iv (srt F ++ Z), kind := .grow, size := 1 }) := by rw [← hM3]; unfold St; rw [List.set_set]
    have h3g : M3[p]? = some (some { cells := iv (srt F ++ Z), kind := .grow, size := 1 }) := by rw [hM3', List.getElem?_set_self hpl]
    have h3p : ∃ N', M3 = M ++ N' := by
      rw [hM3', hN1]
      exact pre_set (by omega)
    have hT3 : Tab M3 (.pointer (some ⟨a, 0, none⟩)) c l r := by
      obtain ⟨N', rfl⟩ := h3p
      exact hT.old N'
    have hk : (srt F).length = F.length := srt_len F
    have hI3 : Ints M3 (.slice (some ⟨p, 0, none⟩) F.length (l * r)) (srt F) := ⟨p, 0, by rw [hk]; exact Sl.mk hFl, (List.getElem?_eq_some_iff.1 h3g).1, fun i hi => ⟨_, h3g, by
      rw [Nat.zero_add]
      have := iv_get (l := srt F ++ Z) (k := i) (by simp only [List.length_append]; omega)
      rw [this, getD_l hi]⟩⟩
    have h3r : ∀ i, i < (srt F).length → Rd M3 p i (.int .i64 ((srt F).getD i 0)) := fun i hi => ⟨_, h3g, by
      have := iv_get (l := srt F ++ Z) (k := i) (by simp only [List.length_append]; omega)
      rw [this, getD_l hi]⟩
    have hM3N : ∃ N, M3 = m ++ N := by
      obtain ⟨N', rfl⟩ := h3p
      obtain ⟨N, rfl⟩ := hMN
      exact ⟨_, by rw [List.append_assoc]⟩
    rw [hS] at hk hI3 h3r
    have hmem := fun x => allS_mem (c := c) (l := l) (r := r) x
    have hpw : (allS c l r).Pairwise (· ≤ ·) := srt_pw _
    (repeat (first | (with_reducible refine AWo.cons ?_) | ((with_reducible refine Step.id ?_); first | ((with_reducible apply Step.move); exact rfl; exact rfl) | ((with_reducible apply Step.assign); exact rfl; exact rfl)) | (with_reducible refine AWo.nil ?_) | ((with_reducible apply AW.seq)) | ((with_reducible apply Then.n)) | ((with_reducible apply AW.regL))))
    rw [List.append_nil]
    (repeat (first | (with_reducible refine AWo.cons ?_) | ((with_reducible refine Step.id ?_); first | ((with_reducible apply Step.move); exact rfl; exact rfl) | ((with_reducible apply Step.assign); exact rfl; exact rfl) | ((with_reducible apply Step.callM fit); exact rfl; exact Try.func84; exact rfl; exact rfl; exact (hd)) | ((with_reducible apply Step.callM fit); exact rfl; exact Try.func86; exact rfl; exact rfl; exact (hs))) | (with_reducible refine AWo.nil ?_) | ((with_reducible apply AW.seq)) | ((with_reducible apply Then.n)) | ((with_reducible apply AW.regL))))
    clear hd hs hM3 hM3' h3g h3p hg hM1 hN1 hS hT hRT t1 t2 t3 t4 t5 t6 t7 hpM hp hpl
    generalize allS c l r = S at *
    rw [← hk] at hI3 hFl ⊢
    obtain ⟨ia, io, i1, i2, i3⟩ := id hI3
    have hlast := ev_last (c := c) (l := l) (r := r) (S := S) hmem hpw hcs
    have hlo := fun mid => ev_lo (c := c) (l := l) (r := r) (S := S) (mid := mid) hpw hcs
    have hend := fun low => ev_end (c := c) (l := l) (r := r) (S := S) (low := low) hmem hpw
    have hm9 := hmost 1000000000
    have hsz9 := fun {m' v} => hsize 1000000000 (m' := m') (v := v)
    have hev0 : mtx c l r 1000000000 = 0 → evV c l r = 0 := fun h => EvS.evV ⟨fun _ => rfl, fun h' => absurd h h'⟩
    obtain ⟨most, hmo⟩ : ∃ most, mtx c l r 1000000000 = most := ⟨_, rfl⟩
    rw [hmo] at hlast hlo hend hm9 hsz9 hev0
    ((with_reducible apply Step.callX fit); exact rfl; exact Try.func70; exact rfl; exact rfl; exact (matched_ok hT3 (by omega) (by omega)))
    rintro v' M4 ⟨N4, hM4⟩ hI
    have hN4 := hM4
    have hT4 : Tab M4 (.pointer (some ⟨a, 0, none⟩)) c l r := by rw [hM4]; exact hT3.old N4
    have hI4 : Ints M4 (.slice (some ⟨p, 0, none⟩) S.length (l * r)) S := by rw [hM4]; exact hI3.old N4
    have hM4N : ∃ N, M4 = m ++ N := by
      obtain ⟨N, hN⟩ := hM3N
      exact ⟨_, by rw [hM4, hN, List.append_assoc]⟩
    (repeat (first | (with_reducible refine AWo.cons ?_) | ((with_reducible refine Step.id ?_); first | ((with_reducible apply Step.move); exact rfl; exact rfl) | ((with_reducible apply Step.assign); exact rfl; exact rfl) | ((with_reducible apply Step.eql); exact rfl; exact rfl; exact rfl) | ((with_reducible apply Step.callR fit); exact rfl; exact Try.func69; exact rfl; exact rfl; exact (hsz9 hI _))) | (with_reducible refine AWo.nil ?_) | ((with_reducible apply AW.seq)) | ((with_reducible apply Then.n)) | ((with_reducible apply AW.regL))))
    have hM4' := hM4
    clear hI hN4 hM4 hI3 i1 i2 i3
    rw [List.append_nil]
    by_cases h0 : most = 0
    · subst h0
      (repeat (first | (with_reducible refine AWo.cons ?_) | ((with_reducible refine Step.id ?_); ((with_reducible apply Step.assign); exact rfl; exact rfl)) | (with_reducible refine AWo.nil ?_) | ((with_reducible apply AW.seq)) | ((with_reducible apply Then.n)) | ((with_reducible apply AW.regL)) | ((with_reducible apply AW.condT); exact rfl; (focus (rfl)))))
      (refine AW.ret ?_; (repeat (first | refine Then.r ?_ | refine InBlk.r ?_)))
      obtain ⟨N, rfl⟩ := hM4N
      exact ⟨_, rfl, by rw [hev0 rfl], N, rfl⟩
    · obtain ⟨hpos, hl2⟩ := hlast h0
      have e1 : ((S.length : Nat) : Int) - 1 = ((S.length - 1 : Nat) : Int) := by omega
      have i3 : ∀ i, i < S.length → Rd M4 p i (.int .i64 (S.getD i 0)) := fun i hi => by rw [hM4']; exact (h3r i hi).old N4
      obtain ⟨_, cv', b', o', e', q1, q2, q3, q4, q5, q6, q7⟩ := id hT4
      injection e' with e'; injection e' with e'; injection e' with e'
      subst e'
      (repeat (first | (with_reducible refine AWo.cons ?_) | ((with_reducible refine Step.id ?_); first | ((with_reducible apply Step.move); exact rfl; exact rfl) | ((with_reducible apply Step.assign); exact rfl; exact rfl) | ((with_reducible apply Step.subE); exact rfl; exact rfl; (focus (assumption)); (focus (omega)); exact rfl) | ((with_reducible apply Step.len); exact rfl; (focus (exact Sl.mk (by omega))); (focus (decide +kernel)); exact rfl)) | (with_reducible refine AWo.nil ?_) | ((with_reducible apply AW.seq)) | ((with_reducible apply Then.n)) | ((with_reducible apply AW.regL)) | ((with_reducible apply AW.block)) | ((with_reducible apply AW.skip)) | ((with_reducible apply AW.condF); exact rfl; (focus ((simp only [decide_eq_true_eq, decide_eq_false_iff_not, Bool.not_eq_true', Bool.not_eq_false', Bool.not_true, Bool.not_false]; first | assumption | omega))))))
      refine AW.loopW (fun rk t M => ∃ (low high : Nat) (N : AM), rk = high - low ∧ low ≤ high ∧ high < S.length ∧ M = M4 ++ N ∧ mtx c l r (S.getD high 0) = most ∧ (∀ i, i < low → mtx c l r (S.getD i 0) ≠ most) ∧ t = fr [(8, .pointer (some ⟨a, 0, none⟩)), (9, .slice (some ⟨p, 0, none⟩) S.length (l * r)), (10, .int .i64 (most : Nat)), (11, .int .i64 (low : Nat)), (12, .int .i64 (high : Nat))])
        ⟨_, [(8, .pointer (some ⟨a, 0, none⟩)), (9, .slice (some ⟨p, 0, none⟩) S.length (l * r)), (10, .int .i64 (most : Nat)), (11, .int .i64 ((0 : Nat) : Int)), (12, .int .i64 ((S.length - 1 : Nat) : Int))], (by repeat (first | exact trivial | (refine And.intro rfl ?_))), 0, S.length - 1, [], rfl, Nat.zero_le _, by omega, by rw [List.append_nil], hl2, fun _ h => absurd h (Nat.not_lt_zero _), rfl⟩ ?_
      rintro rk t M5 ⟨low, high, N, rfl, h1', h2', rfl, h3', h4', rfl⟩
      by_cases hlt : low < high
      · have e2 : ((low : Nat) : Int) + ((high : Nat) : Int) = ((low + high : Nat) : Int) := by omega
        obtain ⟨mid, hmid⟩ : ∃ mid, (low + high) / 2 = mid := ⟨_, rfl⟩
        have e3 : ((low + high : Nat) : Int) / 2 = ((mid : Nat) : Int) := by omega
        have hml : mid < S.length := by omega
        have qs := i3 mid hml
        have hlom := hlo mid hml
        obtain ⟨x, hx⟩ : ∃ x, S.getD mid 0 = x := ⟨_, rfl⟩
        rw [hx] at qs hlom
        (repeat (first | (with_reducible refine AWo.cons ?_) | ((with_reducible refine Step.id ?_); first | ((with_reducible apply Step.move); exact rfl; exact rfl) | ((with_reducible apply Step.assign); exact rfl; exact rfl) | ((with_reducible apply Step.addE); exact rfl; exact rfl; (focus (assumption)); (focus (omega)); exact rfl) | ((with_reducible apply Step.lss); exact rfl; exact rfl; exact rfl) | ((with_reducible apply Step.quo); exact rfl; exact rfl; (focus (omega)); (focus (omega)); exact rfl)) | (with_reducible refine AWo.nil ?_) | ((with_reducible apply AW.seq)) | ((with_reducible apply Then.n)) | ((with_reducible apply AW.regL)) | ((with_reducible apply AW.block)) | ((with_reducible apply AW.skip)) | ((with_reducible apply AW.condT); exact rfl; (focus ((simp only [decide_eq_true_eq, decide_eq_false_iff_not, Bool.not_eq_true', Bool.not_eq_false', Bool.not_true, Bool.not_false]; first | assumption | omega))))))
        rw [e3]
        (repeat (first | (with_reducible refine AWo.cons ?_) | ((with_reducible refine Step.id ?_); first | ((with_reducible apply Step.load); exact rfl; (focus (decide +kernel)); exact rfl; (focus (exact qs.old _))) | ((with_reducible apply Step.ix1z); exact rfl; (focus (exact Sl.mk (by omega))); exact rfl; (focus (decide +kernel)); exact rfl; (focus (omega))))))
        ((with_reducible apply Step.callX fit); exact rfl; exact Try.func70; exact rfl; exact rfl; exact (matched_ok (mo := x) (hT4.old _) (by omega) (by omega)))
        rintro v2 M6 ⟨N6, hN6⟩ hI6
        have hp6 : ∃ N', M6 ++ [] = M4 ++ N' := ⟨_, by rw [List.append_nil, hN6, List.append_assoc]⟩
        obtain ⟨N', hN'⟩ := hp6
        by_cases heq : mtx c l r x = most
        · have hs6 := hsize x hI6
          rw [heq] at hs6
          (repeat (first | (with_reducible refine AWo.cons ?_) | ((with_reducible refine Step.id ?_); first | ((with_reducible apply Step.move); exact rfl; exact rfl) | ((with_reducible apply Step.assign); exact rfl; exact rfl) | ((with_reducible apply Step.eql); exact rfl; exact rfl; exact rfl) | ((with_reducible apply Step.callR fit); exact rfl; exact Try.func69; exact rfl; exact rfl; exact (hs6 _))) | (with_reducible refine AWo.nil ?_) | ((with_reducible apply Then.n)) | ((with_reducible apply AW.regL)) | ((with_reducible apply InBlk.n)) | ((with_reducible apply AW.condT); exact rfl; (focus ((simp; done))))))
          exact ⟨_, [(8, .pointer (some ⟨a, 0, none⟩)), (9, .slice (some ⟨p, 0, none⟩) S.length (l * r)), (10, .int .i64 (most : Nat)), (11, .int .i64 (low : Nat)), (12, .int .i64 (mid : Nat))], by omega, (by repeat (first | exact trivial | (refine And.intro rfl ?_))), low, mid, N', rfl, by omega, hml, hN', by rw [hx]; exact heq, h4', rfl⟩
        · have hs6 := hsize x hI6
          have hbx := hmost x
          generalize mtx c l r x = y at *
          (repeat (first | (with_reducible refine AWo.cons ?_) | ((with_reducible refine Step.id ?_); first | ((with_reducible apply Step.move); exact rfl; exact rfl) | ((with_reducible apply Step.assign); exact rfl; exact rfl) | ((with_reducible apply Step.add); exact rfl; exact rfl; (focus (omega)); exact rfl) | ((with_reducible apply Step.eql); exact rfl; exact rfl; exact rfl) | ((with_reducible apply Step.callR fit); exact rfl; exact Try.func69; exact rfl; exact rfl; exact (hs6 _))) | (with_reducible refine AWo.nil ?_) | ((with_reducible apply Then.n)) | ((with_reducible apply AW.regL)) | ((with_reducible apply InBlk.n)) | ((with_reducible apply AW.condF); exact rfl; (focus ((simp only [decide_eq_true_eq, decide_eq_false_iff_not, Bool.not_eq_true', Bool.not_eq_false', Bool.not_true, Bool.not_false]; first | assumption | omega))))))
          exact ⟨_, [(8, .pointer (some ⟨a, 0, none⟩)), (9, .slice (some ⟨p, 0, none⟩) S.length (l * r)), (10, .int .i64 (most : Nat)), (11, .int .i64 ((mid + 1 : Nat) : Int)), (12, .int .i64 (high : Nat))], by omega, (by repeat (first | exact trivial | (refine And.intro rfl ?_))), mid + 1, high, N', rfl, by omega, h2', hN', h3', hlom heq, rfl⟩
      · obtain rfl : low = high := by omega
        have qs := i3 low h2'
        have hev := (hend low h2' h0 h3' h4').evV
        (repeat (first | (with_reducible refine AWo.cons ?_) | ((with_reducible refine Step.id ?_); first | ((with_reducible apply Step.move); exact rfl; exact rfl) | ((with_reducible apply Step.assign); exact rfl; exact rfl) | ((with_reducible apply Step.load); exact rfl; (focus (decide +kernel)); exact rfl; (focus (exact qs.old _))) | ((with_reducible apply Step.ix1z); exact rfl; (focus (exact Sl.mk (by omega))); exact rfl; (focus (decide +kernel)); exact rfl; (focus (omega))) | ((with_reducible apply Step.lss); exact rfl; exact rfl; exact rfl)) | (with_reducible refine AWo.nil ?_) | ((with_reducible apply AW.seq)) | ((with_reducible apply Then.n)) | ((with_reducible apply AW.regL)) | ((with_reducible apply AW.exit)) | ((with_reducible apply InBlk.hit)) | ((with_reducible apply Then.e)) | ((with_reducible apply AW.condF); exact rfl; (focus ((simp only [decide_eq_true_eq, decide_eq_false_iff_not, Bool.not_eq_true', Bool.not_eq_false', Bool.not_true, Bool.not_false]; first | assumption | omega))))))
        (refine AW.ret ?_; (repeat (first | refine Then.r ?_ | refine InBlk.r ?_)))
        obtain ⟨N0, rfl⟩ := hM4N
        exact ⟨_, rfl, by rw [hev], _, by rw [List.append_assoc]⟩
set_option maxHeartbeats 4000000 in
set_option maxRecDepth 100000 in
theorem PairEven_ok {m : AM} {lv rv : Value} {L R : List Gl} {u : Ru} (hl : Gls m lv L) (hr : Gls m rv R) (h1 : L.length ≤ 9223372036854775807) (h2 : R.length ≤ 9223372036854775807) :
    ACall Try.prog 18 #[lv, rv, u.v] m (Ret (.bool true) m) := by
  have r0 : ∀ T : AM, RdL (m ++ (some { cells := u.cells } :: T)) (m.length + 0) 0 u.cells := fun T => RdL.new rfl rfl
  have c1 := fun T => lside_ok (hl.old T) h1
  have c2 := fun T => lside_ok (hr.old T) h2
  have c3 := fun T => rule_ok (m := m ++ T) u
  have gl : ∀ T : AM, Gls (m ++ (some { cells := u.cells } :: gb (glC (L.take 34)) 4 :: T)) (gv (m.length + 1) (L.take 34).length) (L.take 34) := fun T => gls_new (k := 1) (by simp) rfl
  have gr : ∀ T : AM, Gls (m ++ (some { cells := u.cells } :: gb (glC (L.take 34)) 4 :: gb (glC (R.take 34)) 4 :: T)) (gv (m.length + 2) (R.take 34).length) (R.take 34) := fun T => gls_new (k := 2) (by simp) rfl
  cases hok : okB L R u with
  | false =>
    have w1 := Even_no (u := u) (gl [gb (glC (R.take 34)) 4]) (gr []) (by simp only [List.length_take]; omega) (by simp only [List.length_take]; omega) (by rw [← hok]; exact okB34 L R u)
    have w2 := fun T => REven_no (hl.old T) (hr.old T) h1 h2 hok
    refine ACall.start Try.func18 rfl rfl ?_
    (repeat (first | (with_reducible refine AWo.cons ?_) | ((with_reducible refine Step.id ?_); first | ((with_reducible apply Step.assign); exact rfl; exact rfl) | ((with_reducible apply Step.box 0); exact rfl; exact rfl; (focus (kernel_rfl)); exact rfl; (focus (first | (simp only [List.nil_append, List.cons_append, List.set_cons_zero, List.set_cons_succ, iv_set, bv_set, iv_rep, bv_rep]; done) | (simp only [List.nil_append, List.cons_append, List.set_cons_zero, List.set_cons_succ, iv_set, bv_set, iv_rep, bv_rep]; rfl) | rfl)))) | (with_reducible refine AWo.nil ?_) | ((fail_if_success (with_reducible refine AW.atR (id := 1) ?_)); ((with_reducible apply AW.seq))) | ((with_reducible apply Then.n)) | ((with_reducible apply AW.regL))))
    refine AW.joinS [(0, lv), (1, rv), (5, .pointer (some ⟨m.length + 0, 0, none⟩)), (7, .int .i64 0), (8, .int .i64 2)] (m ++ [some { cells := u.cells }, gb (glC (L.take 34)) 4, gb (glC (R.take 34)) 4]) ?_ ?_
    · (repeat' (first | ((with_reducible refine Step.id ?_); first | ((with_reducible apply Step.move); exact rfl; exact rfl) | ((with_reducible apply Step.assign); exact rfl; exact rfl) | ((with_reducible apply Step.loadL (n := 8)); exact rfl; (focus (decide +kernel)); (focus (decide +kernel)); exact rfl; (focus (exact RdL.new rfl rfl)); exact rfl; exact rfl) | ((with_reducible apply Step.extract); exact rfl; exact rfl; exact rfl) | ((with_reducible apply Step.callG fit (k := 1)); exact rfl; exact rfl; exact Try.func21; exact rfl; exact rfl; exact (c1 _); (focus (first | (simp only [List.nil_append, List.cons_append, List.set_cons_zero, List.set_cons_succ, iv_set, bv_set, iv_rep, bv_rep]; done) | (simp only [List.nil_append, List.cons_append, List.set_cons_zero, List.set_cons_succ, iv_set, bv_set, iv_rep, bv_rep]; rfl) | rfl))) | ((with_reducible apply Step.callG fit (k := 2)); exact rfl; exact rfl; exact Try.func21; exact rfl; exact rfl; exact (c2 _); (focus (first | (simp only [List.nil_append, List.cons_append, List.set_cons_zero, List.set_cons_succ, iv_set, bv_set, iv_rep, bv_rep]; done) | (simp only [List.nil_append, List.cons_append, List.set_cons_zero, List.set_cons_succ, iv_set, bv_set, iv_rep, bv_rep]; rfl) | rfl))) | ((with_reducible apply Step.callR fit); exact rfl; exact Try.func22; exact rfl; exact rfl; exact (c3 _)) | ((with_reducible apply Step.callR fit); exact rfl; exact Try.func52; exact rfl; exact rfl; exact (w1))) | ((with_reducible apply Then.n)) | ((with_reducible apply AW.drawT fit (T := (.step 0 (.step 2 (.both (.step 1 (.both (.step 3 (.step 4 (.step 5 (.step 6 (.step 7 (.step 8 (.step 9 (.step 10 (.step 11 .done))))))))) (.step 4 (.step 3 (.step 5 (.step 6 (.step 7 (.step 8 (.step 9 (.step 10 (.step 11 .done))))))))))) (.step 4 (.step 1 (.step 3 (.step 5 (.step 6 (.step 7 (.step 8 (.step 9 (.step 10 (.step 11 .done))))))))))))))); (focus (decide +kernel))) | ((with_reducible apply AWt.step); exact rfl) | ((with_reducible apply AWt.done)) | refine AWt.both ?_ ?_))
      all_goals exact ⟨rfl, (by repeat (first | exact trivial | (refine And.intro rfl ?_)))⟩
    (repeat (first | (with_reducible refine AWo.cons ?_) | ((with_reducible refine Step.id ?_); first | ((with_reducible apply Step.gdT); exact rfl; exact rfl; (focus (rfl))) | ((with_reducible apply Step.move); exact rfl; exact rfl) | ((with_reducible apply Step.assign); exact rfl; exact rfl) | ((with_reducible apply Step.loadL (n := 8)); exact rfl; (focus (decide +kernel)); (focus (decide +kernel)); exact rfl; (focus (exact RdL.new rfl rfl)); exact rfl; exact rfl) | ((with_reducible apply Step.eql); exact rfl; exact rfl; exact rfl) | ((with_reducible apply Step.extract); exact rfl; exact rfl; exact rfl) | ((with_reducible apply Step.pickT); exact rfl; exact rfl; exact rfl; exact rfl; (focus (rfl))) | ((with_reducible apply Step.callR fit); exact rfl; exact Try.func53; exact rfl; exact rfl; exact (w2 _)) | ((with_reducible apply Step.callR fit); exact rfl; exact Try.func25; exact rfl; exact rfl; exact (awake_ok))) | (with_reducible refine AWo.nil ?_) | ((with_reducible apply AW.seq)) | ((with_reducible apply Then.n)) | ((with_reducible apply AW.regL))))
    (refine AW.retD (l := [(6, _)]) (by repeat (first | exact trivial | (refine And.intro ⟨rfl, by (exact .bool _)⟩ ?_))) ?_; (repeat (first | refine Then.r ?_ | refine InBlk.r ?_)))
    exact ⟨_, rfl, rfl, rfl⟩
  | true =>
    obtain ⟨k1, k2, k3⟩ := okB_iff hok
    obtain ⟨e34, f34⟩ := cT34 hok
    rw [e34] at gl
    rw [e34, f34] at gr
    rw [e34] at c1
    rw [f34] at c2
    have w1 := Even_ok (u := u) (gl [gb (glC R) 4]) (gr []) k1 k2 k3
    have w2 := fun T => REven_ok (hl.old T) (hr.old T) h1 h2 hok
    generalize evV (cT u L R) L.length R.length = v at *
    refine ACall.start Try.func18 rfl rfl ?_
    (repeat (first | (with_reducible refine AWo.cons ?_) | ((with_reducible refine Step.id ?_); first | ((with_reducible apply Step.assign); exact rfl; exact rfl) | ((with_reducible apply Step.box 0); exact rfl; exact rfl; (focus (kernel_rfl)); exact rfl; (focus (first | (simp only [List.nil_append, List.cons_append, List.set_cons_zero, List.set_cons_succ, iv_set, bv_set, iv_rep, bv_rep]; done) | (simp only [List.nil_append, List.cons_append, List.set_cons_zero, List.set_cons_succ, iv_set, bv_set, iv_rep, bv_rep]; rfl) | rfl)))) | (with_reducible refine AWo.nil ?_) | ((fail_if_success (with_reducible refine AW.atR (id := 1) ?_)); ((with_reducible apply AW.seq))) | ((with_reducible apply Then.n)) | ((with_reducible apply AW.regL))))
    refine AW.joinS [(0, lv), (1, rv), (5, .pointer (some ⟨m.length + 0, 0, none⟩)), (7, .int .i64 v), (8, .int .i64 0)] (m ++ [some { cells := u.cells }, gb (glC L) 4, gb (glC R) 4]) ?_ ?_
    · (repeat' (first | ((with_reducible refine Step.id ?_); first | ((with_reducible apply Step.move); exact rfl; exact rfl) | ((with_reducible apply Step.assign); exact rfl; exact rfl) | ((with_reducible apply Step.loadL (n := 8)); exact rfl; (focus (decide +kernel)); (focus (decide +kernel)); exact rfl; (focus (exact RdL.new rfl rfl)); exact rfl; exact rfl) | ((with_reducible apply Step.extract); exact rfl; exact rfl; exact rfl) | ((with_reducible apply Step.callG fit (k := 1)); exact rfl; exact rfl; exact Try.func21; exact rfl; exact rfl; exact (c1 _); (focus (first | (simp only [List.nil_append, List.cons_append, List.set_cons_zero, List.set_cons_succ, iv_set, bv_set, iv_rep, bv_rep]; done) | (simp only [List.nil_append, List.cons_append, List.set_cons_zero, List.set_cons_succ, iv_set, bv_set, iv_rep, bv_rep]; rfl) | rfl))) | ((with_reducible apply Step.callG fit (k := 2)); exact rfl; exact rfl; exact Try.func21; exact rfl; exact rfl; exact (c2 _); (focus (first | (simp only [List.nil_append, List.cons_append, List.set_cons_zero, List.set_cons_succ, iv_set, bv_set, iv_rep, bv_rep]; done) | (simp only [List.nil_append, List.cons_append, List.set_cons_zero, List.set_cons_succ, iv_set, bv_set, iv_rep, bv_rep]; rfl) | rfl))) | ((with_reducible apply Step.callR fit); exact rfl; exact Try.func22; exact rfl; exact rfl; exact (c3 _)) | ((with_reducible apply Step.callR fit); exact rfl; exact Try.func52; exact rfl; exact rfl; exact (w1))) | ((with_reducible apply Then.n)) | ((with_reducible apply AW.drawT fit (T := (.step 0 (.step 2 (.both (.step 1 (.both (.step 3 (.step 4 (.step 5 (.step 6 (.step 7 (.step 8 (.step 9 (.step 10 (.step 11 .done))))))))) (.step 4 (.step 3 (.step 5 (.step 6 (.step 7 (.step 8 (.step 9 (.step 10 (.step 11 .done))))))))))) (.step 4 (.step 1 (.step 3 (.step 5 (.step 6 (.step 7 (.step 8 (.step 9 (.step 10 (.step 11 .done))))))))))))))); (focus (decide +kernel))) | ((with_reducible apply AWt.step); exact rfl) | ((with_reducible apply AWt.done)) | refine AWt.both ?_ ?_))
      all_goals exact ⟨rfl, (by repeat (first | exact trivial | (refine And.intro rfl ?_)))⟩
    (repeat (first | (with_reducible refine AWo.cons ?_) | ((with_reducible refine Step.id ?_); first | ((with_reducible apply Step.gdT); exact rfl; exact rfl; (focus (first | rfl | (simp; done)))) | ((with_reducible apply Step.move); exact rfl; exact rfl) | ((with_reducible apply Step.assign); exact rfl; exact rfl) | ((with_reducible apply Step.loadL (n := 8)); exact rfl; (focus (decide +kernel)); (focus (decide +kernel)); exact rfl; (focus (exact RdL.new rfl rfl)); exact rfl; exact rfl) | ((with_reducible apply Step.eql); exact rfl; exact rfl; exact rfl) | ((with_reducible apply Step.extract); exact rfl; exact rfl; exact rfl) | ((with_reducible apply Step.pickT); exact rfl; exact rfl; exact rfl; exact rfl; (focus (first | rfl | (simp; done)))) | ((with_reducible apply Step.callR fit); exact rfl; exact Try.func53; exact rfl; exact rfl; exact (w2 _)) | ((with_reducible apply Step.callR fit); exact rfl; exact Try.func25; exact rfl; exact rfl; exact (awake_ok))) | (with_reducible refine AWo.nil ?_) | ((with_reducible apply AW.seq)) | ((with_reducible apply Then.n)) | ((with_reducible apply AW.regL))))
    (refine AW.retD (l := [(6, _)]) (by repeat (first | exact trivial | (refine And.intro ⟨rfl, by (exact .bool _)⟩ ?_))) ?_; (repeat (first | refine Then.r ?_ | refine InBlk.r ?_)))
    exact ⟨_, by first | rfl | (simp; done) | (simp; rfl), rfl, rfl⟩
end Go.Proofs.Ytajpngnphbdnnaa.Abs
namespace Go.Proofs.Ytajpngnphbdnnaa.Abs
set_option linter.unusedSimpArgs false
set_option linter.unusedVariables false
open Go.RowKit
open Go.Proofs.Ytajpngnphbdnnaa.Sim
open Go.Proofs
theorem gls_args {F : Nat → List Int} (hF : ∀ k, (F k).length = 4) (n : Nat) : ∃ l : List Gl, l.length = n ∧ ∀ {M : AM} {v : Value} {i : Nat}, (Sl v i 0 n ∧ i < M.length ∧ ∀ k, k < n → RdL M i (0 + k * 4) (iv (F k))) → Gls M v l := by
  obtain ⟨g, hg⟩ := Classical.axiomOfChoice fun k => gl_of (hF k)
  refine ⟨(List.range n).map g, by simp, fun {M v i} h => ⟨i, 0, by simpa using h.1, h.2.1, fun k hk => ?_⟩⟩
  have hk' : k < n := by simpa using hk
  have := h.2.2 k hk'
  rw [hg k] at this
  have e : ((List.range n).map g).getD k default = g k := by simp [hk']
  rw [e]
  exact this
end Go.Proofs.Ytajpngnphbdnnaa.Abs
