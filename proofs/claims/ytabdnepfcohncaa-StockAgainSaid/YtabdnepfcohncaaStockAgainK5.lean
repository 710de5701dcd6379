/- Proved here: what the proof of StockAgain rests on, part 5 of 5. Conditions: those that each theorem names. -/
import Derived.Test.YtabdnepfcohncaaStockAgainK4
namespace Go.Proofs.Ytabdnepfcohncaa.Abs
set_option linter.unusedSimpArgs false
set_option linter.unusedVariables false
open Go.RowKit
open Go.Proofs.Ytabdnepfcohncaa.Sim
open Go.Proofs
def addF (D : Dk) (L : Lg) (p : List UInt8) : Int × Dk × Lg :=
  if rdyF L p ≠ 0 then (rdyF L p, D, L)
  else if (apF D (L.at_ : Nat) (frB p)).1 ≠ 0 then ((apF D (L.at_ : Nat) (frB p)).1, (apF D (L.at_ : Nat) (frB p)).2, metF L (apF D (L.at_ : Nat) (frB p)).1)
  else if (syF (apF D (L.at_ : Nat) (frB p)).2 (L.at_ : Nat)).1 ≠ 0 then ((syF (apF D (L.at_ : Nat) (frB p)).2 (L.at_ : Nat)).1, (syF (apF D (L.at_ : Nat) (frB p)).2 (L.at_ : Nat)).2, metF L (syF (apF D (L.at_ : Nat) (frB p)).2 (L.at_ : Nat)).1)
  else (0, (syF (apF D (L.at_ : Nat) (frB p)).2 (L.at_ : Nat)).2, ⟨⟨L.c.gen, L.c.snap, L.c.recs ++ [p]⟩, L.at_, L.down⟩)
/-- What a call on a log leaves: the disk, the log, both in blocks of their own. -/
def DLQ (D' : Dk) (L' : Lg) (b0 dk lg : Nat) (u0 u1 : Value) (S : Nat → Prop) (m M : AM) : Prop :=
  ∃ (w0 w1 sv rv : Value) (S' : Nat → Prop), DiskAt M b0 dk D' w0 w1 ∧ LogAt (vw S' M) lg dk L' sv rv ∧ (∀ j, S' j → ¬ dkD dk w0 w1 j) ∧ (∀ j, S' j → S j ∨ m.length ≤ j) ∧ Keep (fun j => dkD dk u0 u1 j ∨ S j) m M ∧ ∀ j, j < m.length → ¬ dkD dk u0 u1 j → ¬ dkD dk w0 w1 j
theorem LogAt.disk {S : Nat → Prop} {m M : AM} {lg dk : Nat} {u0 u1 : Value} {L : Lg} {sv rv : Value} (h : LogAt (vw S m) lg dk L sv rv) (hS : ∀ j, dkD dk u0 u1 j → ¬ S j) (hk : Keep (dkD dk u0 u1) m M) : LogAt (vw (fun j => S j ∧ j < m.length) M) lg dk L sv rv := by
  refine h.msub ⟨by rw [vw_len, vw_len]; exact hk.len, fun j b _ hj => ?_⟩
  obtain ⟨q1, q2⟩ := vw_some.1 hj
  have hl := (List.getElem?_eq_some_iff.1 q2).1
  exact vw_some.2 ⟨⟨q1, hl⟩, by rw [hk.get j hl fun e => hS j e q1]; exact q2⟩
/-- The disk's part of such a call is done; the log is as it was. -/
theorem DLQ.of {S : Nat → Prop} {m M : AM} {b0 lg dk : Nat} {u0 u1 : Value} {D' : Dk} {L : Lg} {sv rv : Value} (h : LogAt (vw S m) lg dk L sv rv) (hS : ∀ j, dkD dk u0 u1 j → ¬ S j) (hq : DkQ D' b0 dk u0 u1 m M) : DLQ D' L b0 dk lg u0 u1 S m M := by
  obtain ⟨w0, w1, a1, a2, a3⟩ := hq
  exact ⟨w0, w1, sv, rv, _, a1, h.disk hS a2, fun j hj => a3 j hj.2 fun e => hS j e hj.1, fun j hj => .inl hj.1, a2.mono fun _ e => .inl e, a3⟩
/-- The log remembers an error. -/
theorem DLQ.met {S : Nat → Prop} {m M : AM} {b0 lg dk : Nat} {u0 u1 : Value} {D' : Dk} {L : Lg} {sv rv : Value} (e : Int) (h : LogAt (vw S m) lg dk L sv rv) (hS : ∀ j, dkD dk u0 u1 j → ¬ S j) (hq : DkQ D' b0 dk u0 u1 m M) :
    LogAt M lg dk L sv rv ∧ DLQ D' (metF L e) b0 dk lg u0 u1 S m (M.set lg (some { cells := lgc (L.c.gen : Nat) sv rv dk (L.at_ : Nat) (metF L e).down })) := by
  obtain ⟨w0, w1, a1, a2, a3⟩ := hq
  have hL := h.disk hS a2
  have hlg := vw_some.1 hL.cells
  have hll := (List.getElem?_eq_some_iff.1 hlg.2).1
  have hnd : ¬ dkD dk w0 w1 lg := a3 lg hlg.1.2 fun e => hS lg e hlg.1.1
  refine ⟨hL.all, w0, w1, sv, rv, fun j => S j ∧ j < m.length, ?_, ⟨vw_some.2 ⟨hlg.1, List.getElem?_set_self hll⟩, ?_, by rw [vw_len, List.length_set]; have := hL.lb; rw [vw_len] at this; exact this, hL.a2⟩, fun j hj => a3 j hj.2 fun e => hS j e hj.1, fun j hj => .inl hj.1, ⟨by rw [List.length_set]; exact a2.len, fun j hj hn => ?_⟩, a3⟩
  · exact a1.keep fun j b hb hj _ => by rw [List.getElem?_set_ne (fun e => hnd (by rw [e]; exact hj))]; exact hb
  · refine hL.cont.keep fun j b hb hj _ => ?_
    obtain ⟨q1, q2⟩ := vw_some.1 hb
    exact vw_some.2 ⟨q1, by rw [List.getElem?_set_ne (by omega)]; exact q2⟩
  · have hne : j ≠ lg := fun e => hn (.inr (by rw [e]; exact hlg.1.1))
    rw [List.getElem?_set_ne (Ne.symm hne), a2.get j hj fun e => hn (.inl e)]
/-- One more record. -/
theorem PaysS.push {S : Nat → Prop} {X M1 M3 : AM} {b1 : Nat} {rv rv' u : Value} {pc : List Value} {ps : List (List UInt8)} {p : List UInt8} (hseg : Seg (vw S X) b1 1 rv pc ps.length) (hel : ∀ k, k < ps.length → ∃ u, pc[k]? = some u ∧ Row (vw S X) b1 1 u (by8 (ps.getD k [])) (ps.getD k []).length ∧ ∀ j, ¬ NotOf u j → NotB rv j)
    (h1 : ∃ N, M1 = X ++ N) (hu : Row M1 X.length 1 u (by8 p) p.length) (hb : b1 ≤ X.length) (hr : Row M3 b1 1 rv' (pc ++ [u]) (ps.length + 1)) (hl : M1.length ≤ M3.length) (hk : ∀ j, j < M1.length → NotB rv j → M3[j]? = M1[j]?) (hn : ∀ j, j < M1.length → NotOf rv' j) :
    PaysS (vw (fun j => S j ∧ j < X.length ∨ X.length ≤ j) M3) b1 rv' (ps ++ [p]) := by
  obtain ⟨N, rfl⟩ := h1
  have hpcl := hseg.len
  rw [Nat.mul_one] at hpcl
  have hrvX : ∀ j, ¬ NotB rv j → j < X.length := fun j hj => by
    obtain ⟨_, b, hb, _⟩ := hseg.at_ hj
    have := (List.getElem?_eq_some_iff.1 hb).1
    rwa [vw_len] at this
  have hN : ∀ j, j < (X ++ N).length → NotB rv' j := fun j hj => NotB.row hr (hn j hj)
  have hfar : ∀ j, ¬ NotOf u j → NotB rv j := fun j hj => Classical.byContradiction fun hc => by
    have := hu.ge_of hj
    have := hrvX j hc
    omega
  refine ⟨pc ++ [u], ?_, fun k hlt => ?_⟩
  · rw [List.length_append]
    refine Row.seg (Row.vw2 hr fun a ha => ?_)
    rcases Nat.lt_or_ge a (X ++ N).length with h | h
    · exact absurd (hn a h) ha
    · exact .inr (by rw [List.length_append] at h; omega)
  · rw [List.length_append, List.length_singleton] at hlt
    by_cases e : k < ps.length
    · obtain ⟨x, q1, q2, q3⟩ := hel k e
      have eg : (ps ++ [p]).getD k [] = ps.getD k [] := by simp only [List.getD_eq_getElem?_getD]; rw [List.getElem?_append_left e]
      rw [eg]
      refine ⟨x, by rw [List.getElem?_append_left (by omega)]; exact q1, ?_, fun j hj => hN j ?_⟩
      · rcases q2 with q2 | ⟨a, kd, sz, w1, w2, w3, w4, w5⟩
        · exact .inl q2
        · obtain ⟨z1, z2⟩ := vw_some.1 w3
          have hal := (List.getElem?_eq_some_iff.1 z2).1
          refine .inr ⟨a, kd, sz, w1, w2, vw_some.2 ⟨.inl ⟨z1, hal⟩, ?_⟩, w4, w5⟩
          rw [hk a (by rw [List.length_append]; omega) (q3 a fun hn => hn _ _ w2), List.getElem?_append_left hal]
          exact z2
      · have := q2.lt_of hj
        rw [vw_len] at this
        rw [List.length_append]; omega
    · obtain rfl : k = ps.length := by omega
      have eg : (ps ++ [p]).getD ps.length [] = p := by simp
      rw [eg]
      refine ⟨u, by rw [← hpcl, List.getElem?_append_right (Nat.le_refl _), Nat.sub_self]; rfl, ?_, fun j hj => hN j (hu.lt_of hj)⟩
      refine Row.vw2 ((hu.low hb).keep fun j hj hnj => hk j hj (hfar j hnj)) fun a ha => .inr (hu.ge_of ha)
set_option maxHeartbeats 16000000 in
set_option maxRecDepth 100000 in
theorem Add_ok {m : AM} {S : Nat → Prop} {b0 dk lg : Nat} {D : Dk} {u0 u1 sv rv w : Value} {L : Lg} {p : List UInt8} (hD : DiskAt m b0 dk D u0 u1) (hb0 : b0 ≤ m.length) (hL : LogAt (vw S m) lg dk L sv rv) (hS : ∀ j, dkD dk u0 u1 j → ¬ S j) (hw : ∀ M, Keep (fun j => dkD dk u0 u1 j ∨ S j) m M → Byts M w p) (hlen : p.length ≤ 1000000) (hcnt : L.c.recs.length ≤ 1000000) :
    ACall Try.prog 51 #[.pointer (some ⟨lg, 0, none⟩), w] m (fun r M => r = .int .i64 (addF D L p).1 ∧ DLQ (addF D L p).2.1 (addF D L p).2.2 b0 dk lg u0 u1 S m M) := by
  have hL0 := hL.all
  have hll := hL0.lt
  have hdl := hD.lt
  have hrd := fun T => ready_ok (hL0.old T) ((hw m (Keep.refl _ _)).old T)
  refine ACall.start Try.func51 rfl rfl ?_
  unfold addF
  by_cases z0 : rdyF L p = 0
  · rw [if_neg (fun e => e z0)]
    rw [z0] at hrd
    have hpl : p.length ≤ 65536 := by
      unfold rdyF at z0
      split at z0
      · cases z0
      · split at z0
        · cases z0
        · omega
    have r3 := fun (N : AM) T => (hL0.old N).rd T (0 + 3) _ rfl
    have r4 := fun (N : AM) T => (hL0.old N).rd T (0 + 4) _ rfl
    (repeat (first | (with_reducible refine AWo.cons ?_) | ((with_reducible refine Step.id ?_); first | ((with_reducible apply Step.move); exact rfl; exact rfl) | ((with_reducible apply Step.assign); exact rfl; exact rfl) | ((with_reducible apply Step.neq); exact rfl; exact rfl; exact rfl) | ((with_reducible apply Step.callR fit); exact rfl; exact Try.func119; exact rfl; exact rfl; exact (hrd _))) | (with_reducible refine AWo.nil ?_) | ((fail_if_success (with_reducible refine AW.atR (id := 4) ?_)); ((with_reducible apply AW.seq))) | ((with_reducible apply Then.n)) | ((with_reducible apply AW.regL)) | ((with_reducible apply AW.skip)) | ((with_reducible apply AW.condF); exact rfl; (focus (rfl)))))
    refine AW.seq ?_
    refine AW.join (fun t' M' => DkQ (apF D (L.at_ : Nat) (frB p)).2 b0 dk u0 u1 m M' ∧ All (fun i v => t' i = some v) [(0, .pointer (some ⟨lg, 0, none⟩)), (1, w), (6, .int .i64 (apF D (L.at_ : Nat) (frB p)).1)]) ?_ ?_
    · have q3 := r3 []
      have q4 := r4 []
      rw [List.append_nil] at q3 q4
      (repeat' (first | ((with_reducible refine Step.id ?_); first | ((with_reducible apply Step.move); exact rfl; exact rfl) | ((with_reducible apply Step.load); exact rfl; (focus (decide +kernel)); exact rfl; (focus (first | exact q3 _ | exact q4 _))) | ((with_reducible apply Step.field (k := 3)); exact rfl; (focus (decide +kernel)); exact rfl) | ((with_reducible apply Step.field (k := 4)); exact rfl; (focus (decide +kernel)); exact rfl) | ((with_reducible apply Step.nilp); exact rfl; exact rfl)) | ((with_reducible apply AW.drawT fit (T := (.step 0 (.step 1 (.step 2 (.step 4 (.step 5 (.step 6 (.step 8 (.both (.step 3 (.both (.step 7 (.step 9 (.step 10 (.step 11 .done)))) (.step 9 (.step 7 (.step 10 (.step 11 .done)))))) (.both (.step 7 (.both (.step 3 (.step 9 (.step 10 (.step 11 .done)))) (.step 9 (.step 3 (.step 10 (.step 11 .done)))))) (.step 9 (.step 3 (.step 7 (.step 10 (.step 11 .done)))))))))))))))); (focus (decide +kernel))) | ((with_reducible apply AWt.step); exact rfl) | refine AWt.both ?_ ?_))
      all_goals
        ((with_reducible apply Step.callF fit); exact rfl; exact Try.func70; exact rfl; exact rfl; (focus (rw [List.append_nil]; exact frame_ok (b0 := m.length) (b := []) (p := p) Row.nil (Nat.le_refl _) (fun M r h => hw M ⟨h.1, fun j hj _ => h.2.1 j hj NotOf.nil⟩) (by simp; omega))))
        rintro r1 M1 ⟨hr1, ha1⟩
        rw [List.nil_append] at hr1
        obtain ⟨N1, hN1⟩ := Add.grow (M1 := m) ⟨[], by simp⟩ (Row.nil (s := 1)) ha1
        have q31 := r3 N1
        have q41 := r4 N1
        rw [← hN1] at q31 q41
        have hD1 : DiskAt M1 b0 dk D u0 u1 := by rw [hN1]; exact hD.old _
        rw [← List.append_nil M1]
        (repeat' (first | ((with_reducible refine Step.id ?_); ((with_reducible apply Step.load); exact rfl; (focus (decide +kernel)); exact rfl; (focus (first | exact q31 _ | exact q41 _)))) | ((with_reducible apply AWt.step); exact rfl)))
        all_goals
          ((with_reducible apply Step.callF fit); exact rfl; exact Try.func48; exact rfl; exact rfl; (focus (rw [List.append_nil]; exact DAppend_ok (p := frB p) (L.at_ : Nat) hD1 (by rw [hN1, List.length_append]; omega) (fun M' hk => (Row.keep hr1 fun j hj hn => hk.get j hj (fun e => by have := hr1.ge_of hn; omega)).byts (by have := hk.len; have := ha1.1; omega)) (by rw [frB_len]; omega))))
          rintro r7 M7 ⟨rfl, hQ7⟩
          rw [← List.append_nil M7]
          (repeat' (first | ((with_reducible refine Step.id ?_); ((with_reducible apply Step.assign); exact rfl; exact rfl)) | ((with_reducible apply Then.n)) | ((with_reducible apply AWt.step); exact rfl) | ((with_reducible apply AWt.done))))
          exact ⟨by rw [List.append_nil]; exact DkQ.after (by rw [hN1]; exact Keep.app _ _ _) hQ7, (by repeat (first | exact trivial | (refine And.intro rfl ?_)))⟩
    · rintro t' M1 ⟨hQ1, hsl⟩
      refine AW.weak (fr_all hsl) ?_
      clear hsl
      by_cases z1 : (apF D (L.at_ : Nat) (frB p)).1 = 0
      · rw [if_neg (fun e => e z1), z1]
        have hL1 := hL.disk hS (by obtain ⟨_, _, _, k, _⟩ := hQ1; exact k)
        obtain ⟨w0, w1, hD1, hk1, hf1⟩ := hQ1
        have q3 := fun T => hL1.all.rd T (0 + 3) _ rfl
        have q4 := fun T => hL1.all.rd T (0 + 4) _ rfl
        rw [← List.append_nil M1]
        (repeat (first | (with_reducible refine AWo.cons ?_) | ((with_reducible refine Step.id ?_); first | ((with_reducible apply Step.move); exact rfl; exact rfl) | ((with_reducible apply Step.load); exact rfl; (focus (decide +kernel)); exact rfl; (focus (first | exact q3 _ | exact q4 _))) | ((with_reducible apply Step.field (k := 3)); exact rfl; (focus (decide +kernel)); exact rfl) | ((with_reducible apply Step.field (k := 4)); exact rfl; (focus (decide +kernel)); exact rfl) | ((with_reducible apply Step.neq); exact rfl; exact rfl; exact rfl) | ((with_reducible apply Step.nilp); exact rfl; exact rfl)) | (with_reducible refine AWo.nil ?_) | ((with_reducible apply AW.seq)) | ((with_reducible apply Then.n)) | ((with_reducible apply AW.regL)) | ((with_reducible apply AW.drawL fit); (focus (decide +kernel))) | ((with_reducible apply AW.skip)) | ((with_reducible apply AW.condF); exact rfl; (focus (rfl)))))
        ((with_reducible apply Step.callF fit); exact rfl; exact Try.func66; exact rfl; exact rfl; (focus (rw [List.append_nil]; exact DSync_ok (L.at_ : Nat) hD1)))
        rintro r2 M2 ⟨rfl, hQ2⟩
        have hQ2 := DkQ.next hk1 hf1 hQ2
        by_cases z2 : (syF (apF D (L.at_ : Nat) (frB p)).2 (L.at_ : Nat)).1 = 0
        · rw [if_neg (fun e => e z2), z2]
          obtain ⟨x0, x1, hD2, hk2, hf2⟩ := hQ2
          have hL2 := hL.disk hS hk2
          obtain ⟨X, hX⟩ : ∃ X, X = M2 := ⟨_, rfl⟩
          subst hX
          have hml := hk2.len
          have hLa := hL2.all
          have hlg := vw_some.1 hL2.cells
          have hlX := (List.getElem?_eq_some_iff.1 hlg.2).1
          have hwX : Byts X w p := hw X (hk2.mono fun _ e => .inl e)
          have hcl := clone_ok hwX (by omega)
          have q2 := fun (N : AM) T => (hLa.old N).rd T (0 + 2) _ rfl
          have q20 := q2 []
          rw [List.append_nil] at q20
          obtain ⟨pc, hseg, hel⟩ := hL2.cont.recs
          have hsegX := hseg.msub (Sub.vw _ X).m
          rw [← List.append_nil X]
          (repeat' (first | (with_reducible refine AWo.cons ?_) | ((with_reducible refine Step.id ?_); first | ((with_reducible apply Step.move); exact rfl; exact rfl) | ((with_reducible apply Step.assign); exact rfl; exact rfl) | ((with_reducible apply Step.load); exact rfl; (focus (decide +kernel)); exact rfl; (focus (exact q20 _))) | ((with_reducible apply Step.field0); exact rfl; (focus (decide +kernel)); exact rfl) | ((with_reducible apply Step.field (k := 2)); exact rfl; (focus (decide +kernel)); exact rfl) | ((with_reducible apply Step.neq); exact rfl; exact rfl; exact rfl) | ((with_reducible apply Step.nilp); exact rfl; exact rfl)) | (with_reducible refine AWo.nil ?_) | ((with_reducible apply AW.seq)) | ((with_reducible apply Then.n)) | ((with_reducible apply AW.regL)) | ((with_reducible apply AW.drawT fit (T := (.step 0 (.step 1 (.step 2 (.step 3 (.step 4 (.step 6 (.both (.step 5 (.step 7 (.step 8 (.step 9 (.step 10 (.step 11 (.step 12 (.step 13 .done)))))))) (.step 7 (.both (.step 5 (.step 8 (.step 9 (.step 10 (.step 11 (.step 12 (.step 13 .done))))))) (.step 8 (.step 5 (.step 9 (.step 10 (.step 11 (.step 12 (.step 13 .done)))))))))))))))))); (focus (decide +kernel))) | ((with_reducible apply AWt.step); exact rfl) | ((with_reducible apply AW.skip)) | ((with_reducible apply AW.condF); exact rfl; (focus (rfl))) | refine AWt.both ?_ ?_))
          all_goals
            ((with_reducible apply Step.callX fit); exact rfl; exact Try.func73; exact rfl; exact rfl; (focus (rw [List.append_nil]; exact hcl)))
            rintro u M3 ⟨N3, hN3⟩ hu
            rw [List.append_nil] at hN3
            have hus : SlV u := hu.slv
            have q23 := q2 N3
            rw [← hN3] at q23
            (repeat' (first | ((with_reducible refine Step.id ?_); first | ((with_reducible apply Step.load); exact rfl; (focus (decide +kernel)); exact rfl; (focus (exact q23 _))) | ((with_reducible apply Step.buildS 0); exact rfl; exact rfl; exact (fun _ _ => bs27); exact rfl; (focus (first | (simp only [List.nil_append, List.cons_append, List.set_cons_zero, List.set_cons_succ, iv_set, bv_set, iv_rep, bv_rep]; done) | (simp only [List.nil_append, List.cons_append, List.set_cons_zero, List.set_cons_succ, iv_set, bv_set, iv_rep, bv_rep]; rfl) | rfl)))) | ((with_reducible apply AWt.step); exact rfl) | refine AWt.both ?_ ?_))
            all_goals
              ((with_reducible apply Step.appSeg (s := 1) (n := L.c.recs.length) (xl := 1) (b0 := lg + 1) (c := pc) (new := [u])); exact rfl; exact rfl; (focus (rw [hN3]; exact (hsegX.old N3).old _)); exact (Sl.mk (Nat.le_refl _)); exact (fun _ => RdL.new rfl rfl); exact el27; exact un27; exact rfl; (focus (omega)); (focus (rw [List.all_cons, hus.one.1]; rfl)); exact rfl; (focus (omega)); exact rfl; (focus (rw [hN3]; simp only [List.length_append]; omega)))
              intro rv2 M4 hr4 hml4 hk4 hn4
              have hus4 := hr4.slv.one
              have hlg3 : (M3 ++ [some { cells := [u] }])[lg]? = some (some { cells := lgc (L.c.gen : Nat) sv rv dk (L.at_ : Nat) L.down }) := by rw [hN3]; exact get_old _ (get_old _ hlg.2)
              have hnrv : NotB rv lg := Classical.byContradiction fun hc => by have := (hsegX.at_ hc).1; omega
              have hlg4 : M4[lg]? = some (some { cells := lgc (L.c.gen : Nat) sv rv dk (L.at_ : Nat) L.down }) := by rw [hk4 lg (by rw [hN3]; simp only [List.length_append]; omega) hnrv]; exact hlg3
              rw [← List.append_nil M4]
              (repeat' (first | ((with_reducible refine Step.id ?_); first | ((with_reducible apply Step.field0); exact rfl; (focus (decide +kernel)); exact rfl) | ((with_reducible apply Step.field (k := 2)); exact rfl; (focus (decide +kernel)); exact rfl) | ((with_reducible apply Step.nilp); exact rfl; exact rfl)) | ((with_reducible apply AWt.step); exact rfl)))
              ((with_reducible apply Step.storeAt); exact rfl; exact rfl; exact (get_old [] hlg4); (focus (decide +kernel)); exact rfl; (focus (show 0 + 2 < 6; omega)); exact hus4.2; exact hus4.1)
              (repeat' (first | (with_reducible refine AWo.cons ?_) | ((with_reducible refine Step.id ?_); ((with_reducible apply Step.assign); exact rfl; exact rfl)) | (with_reducible refine AWo.nil ?_) | ((with_reducible apply AW.seq)) | ((with_reducible apply Then.n)) | ((with_reducible apply AW.regL)) | ((with_reducible apply AWt.done))))
              (refine AW.ret ?_; (repeat (first | refine Then.r ?_ | refine InBlk.r ?_)))
              rw [List.append_nil]
              refine ⟨_, rfl, rfl, ?_⟩
              have hM3l : M3.length = X.length + N3.length := by rw [hN3, List.length_append]
              rw [List.length_append] at hml4
              have hkX : ∀ j, j < X.length → NotB rv j → M4[j]? = X[j]? := fun j hj hn => by rw [hk4 j (by rw [List.length_append]; omega) hn, hN3, List.append_assoc, List.getElem?_append_left hj]
              have hps := PaysS.push (p := p) hseg hel ⟨N3 ++ [some { cells := [u] }], by rw [hN3, List.append_assoc]⟩ (hu.old [some { cells := [u] }]) (by omega) hr4 (by rw [List.length_append]; exact hml4) hk4 hn4
              have hlgn : ∀ j, j ≠ lg → (M4.set lg (some { cells := (lgc (L.c.gen : Nat) sv rv dk (L.at_ : Nat) L.down).set (0 + 2) rv2 }))[j]? = M4[j]? := fun j hj => List.getElem?_set_ne (Ne.symm hj)
              have hdX : ∀ j, dkD dk x0 x1 j → j < X.length ∧ ¬ (S j ∧ j < m.length) := fun j hj => by
                obtain ⟨_, b, hb, _⟩ := hD2.at_ hj
                refine ⟨(List.getElem?_eq_some_iff.1 hb).1, fun e => ?_⟩
                exact hf2 j e.2 (fun e2 => hS j e2 e.1) hj
              have hrvS : ∀ j, ¬ NotB rv j → S j ∧ j < m.length := fun j hj => by
                obtain ⟨_, b, hb, _⟩ := hseg.at_ hj
                exact (vw_some.1 hb).1
              refine ⟨x0, x1, sv, rv2, fun j => (S j ∧ j < m.length) ∧ j < X.length ∨ X.length ≤ j, ?_, ⟨vw_some.2 ⟨.inl ⟨hlg.1, hlX⟩, List.getElem?_set_self (by omega)⟩, ⟨?_, ?_, ?_⟩, ?_, hL2.a2⟩, ?_, ?_, ?_, hf2⟩
              · refine hD2.keep fun j b hb hj _ => ?_
                obtain ⟨d1, d2⟩ := hdX j hj
                rw [hlgn j (fun e => d2 (by rw [e]; exact hlg.1)), hkX j d1 (Classical.byContradiction fun e => d2 (hrvS j e))]
                exact hb
              · have hsn := hL2.cont.snap
                rcases hsn with hsn | ⟨a, kd, sz, y1, y2, y3, y4, y5⟩
                · exact .inl hsn
                · obtain ⟨z3, z4⟩ := vw_some.1 y3
                  have hal := (List.getElem?_eq_some_iff.1 z4).1
                  refine .inr ⟨a, kd, sz, y1, y2, vw_some.2 ⟨.inl ⟨z3, hal⟩, ?_⟩, y4, y5⟩
                  rw [hlgn a (by omega), hkX a hal (hL2.cont.sep a fun hn => hn _ _ y2)]
                  exact z4
              · refine hps.keep fun j b hb hj _ => ?_
                obtain ⟨z3, z4⟩ := vw_some.1 hb
                exact vw_some.2 ⟨z3, by rw [hlgn j (by omega)]; exact z4⟩
              · intro j hj
                have hjl := hL2.cont.snap.lt_of hj
                rw [vw_len] at hjl
                exact NotB.row hr4 (hn4 j (by rw [List.length_append]; omega))
              · rw [vw_len, List.length_set]
                have := hL2.lb
                rw [vw_len] at this
                omega
              · rintro j (hj | hj) hd
                · exact (hdX j hd).2 hj.1
                · have := (hdX j hd).1; omega
              · rintro j (hj | hj)
                · exact .inl hj.1.1
                · exact .inr (by omega)
              · refine ⟨by rw [List.length_set]; omega, fun j hj hn => ?_⟩
                rw [hlgn j (fun e => hn (.inr (by rw [e]; exact hlg.1.1))), hkX j (by omega) (Classical.byContradiction fun e => hn (.inr (hrvS j e).1)), hk2.get j hj fun e => hn (.inl e)]
        · rw [if_pos z2]
          obtain ⟨hL2, hF⟩ := DLQ.met (syF (apF D (L.at_ : Nat) (frB p)).2 (L.at_ : Nat)).1 hL hS hQ2
          generalize (syF (apF D (L.at_ : Nat) (frB p)).2 (L.at_ : Nat)).1 = e at *
          rw [← List.append_nil M2]
          (repeat (first | (with_reducible refine AWo.cons ?_) | ((with_reducible refine Step.id ?_); first | ((with_reducible apply Step.move); exact rfl; exact rfl) | ((with_reducible apply Step.assign); exact rfl; exact rfl) | ((with_reducible apply Step.neq); exact rfl; exact rfl; exact rfl)) | (with_reducible refine AWo.nil ?_) | ((with_reducible apply AW.seq)) | ((with_reducible apply Then.n)) | ((with_reducible apply AW.regL)) | ((with_reducible apply AW.condT); exact rfl; (focus ((simp only [decide_eq_true_eq, decide_eq_false_iff_not, Bool.not_eq_true', Bool.not_eq_false', Bool.not_true, Bool.not_false]; first | assumption | omega))))))
          ((with_reducible apply Step.callF fit); exact rfl; exact Try.func120; exact rfl; exact rfl; (focus (rw [List.append_nil]; exact met_ok e hL2)))
          rintro r3 M3 ⟨rfl, rfl⟩
          rw [← List.append_nil (M2.set _ _)]
          (repeat (first | (with_reducible refine AWo.cons ?_) | ((with_reducible refine Step.id ?_); ((with_reducible apply Step.assign); exact rfl; exact rfl)) | (with_reducible refine AWo.nil ?_) | ((with_reducible apply Then.n))))
          (refine AW.ret ?_; (repeat (first | refine Then.r ?_ | refine InBlk.r ?_)))
          rw [List.append_nil]
          exact ⟨_, rfl, rfl, hF⟩
      · rw [if_pos z1]
        obtain ⟨hL1, hF⟩ := DLQ.met (apF D (L.at_ : Nat) (frB p)).1 hL hS hQ1
        generalize (apF D (L.at_ : Nat) (frB p)).1 = e at *
        rw [← List.append_nil M1]
        (repeat (first | (with_reducible refine AWo.cons ?_) | ((with_reducible refine Step.id ?_); first | ((with_reducible apply Step.move); exact rfl; exact rfl) | ((with_reducible apply Step.neq); exact rfl; exact rfl; exact rfl)) | (with_reducible refine AWo.nil ?_) | ((with_reducible apply AW.seq)) | ((with_reducible apply Then.n)) | ((with_reducible apply AW.regL)) | ((with_reducible apply AW.condT); exact rfl; (focus ((simp only [decide_eq_true_eq, decide_eq_false_iff_not, Bool.not_eq_true', Bool.not_eq_false', Bool.not_true, Bool.not_false]; first | assumption | omega))))))
        ((with_reducible apply Step.callF fit); exact rfl; exact Try.func120; exact rfl; exact rfl; (focus (rw [List.append_nil]; exact met_ok e hL1)))
        rintro r2 M2 ⟨rfl, rfl⟩
        rw [← List.append_nil (M1.set _ _)]
        (repeat (first | (with_reducible refine AWo.cons ?_) | ((with_reducible refine Step.id ?_); ((with_reducible apply Step.assign); exact rfl; exact rfl)) | (with_reducible refine AWo.nil ?_) | ((with_reducible apply Then.n))))
        (refine AW.ret ?_; (repeat (first | refine Then.r ?_ | refine InBlk.r ?_)))
        rw [List.append_nil]
        exact ⟨_, rfl, rfl, hF⟩
  · rw [if_pos z0]
    generalize rdyF L p = e at *
    (repeat (first | (with_reducible refine AWo.cons ?_) | ((with_reducible refine Step.id ?_); first | ((with_reducible apply Step.move); exact rfl; exact rfl) | ((with_reducible apply Step.assign); exact rfl; exact rfl) | ((with_reducible apply Step.neq); exact rfl; exact rfl; exact rfl) | ((with_reducible apply Step.callR fit); exact rfl; exact Try.func119; exact rfl; exact rfl; exact (hrd _))) | (with_reducible refine AWo.nil ?_) | ((with_reducible apply AW.seq)) | ((with_reducible apply Then.n)) | ((with_reducible apply AW.regL)) | ((with_reducible apply AW.condT); exact rfl; (focus ((simp only [decide_eq_true_eq, decide_eq_false_iff_not, Bool.not_eq_true', Bool.not_eq_false', Bool.not_true, Bool.not_false]; first | assumption | omega))))))
    (refine AW.ret ?_; (repeat (first | refine Then.r ?_ | refine InBlk.r ?_)))
    rw [List.append_nil]
    exact ⟨_, rfl, rfl, DLQ.of hL hS (by have := DkQ.refl hD []; rwa [List.append_nil] at this)⟩
end Go.Proofs.Ytabdnepfcohncaa.Abs
namespace Go.Proofs.Ytabdnepfcohncaa.Abs
set_option linter.unusedSimpArgs false
set_option linter.unusedVariables false
open Go.RowKit
open Go.Proofs.Ytabdnepfcohncaa.Sim
open Go.Proofs
set_option maxRecDepth 100000 in
theorem small_ok {m : AM} {kd n k : Int} {w : Value} {l : List UInt8} (h : Byts m w l) (hl : l.length ≤ 9223372036854775807) :
    ACall Try.prog 49 #[.agg #[.int .i64 kd, .int .i64 n, .int .i64 k, w]] m (More (fun M u => Row M m.length 1 u (by8 (l.take 3000)) (l.take 3000).length) m) := by
  obtain ⟨a, o, hs, ha, hr⟩ := h
  have hw1 : (Value.agg #[.int .i64 kd, .int .i64 n, .int .i64 k, w]).cells.all (·.oneCell') = true := by
    show (#[Value.int .i64 kd, .int .i64 n, .int .i64 k, w]).all (·.oneCell') = true
    simp only [← Array.all_toList, List.all_cons]
    rcases hs with ⟨rfl, _⟩ | ⟨c, _, rfl⟩ | ⟨_, _, _, rfl⟩ <;> rfl
  have hmin : min ((l.length : Nat) : Int) 3000 = ((min l.length 3000 : Nat) : Int) := by omega
  refine ACall.start Try.func49 rfl rfl ?_
  (repeat (first | (with_reducible refine AWo.cons ?_) | ((with_reducible refine Step.id ?_); first | ((with_reducible apply Step.assign); exact rfl; exact rfl) | ((with_reducible apply Step.load); exact rfl; (focus (decide +kernel)); exact rfl; (focus (exact Rd.new rfl rfl))) | ((with_reducible apply Step.field (k := 3)); exact rfl; (focus (decide +kernel)); exact rfl) | ((with_reducible apply Step.len); exact rfl; (focus (assumption)); (focus (decide +kernel)); exact rfl) | ((with_reducible apply Step.min); exact rfl; exact rfl; exact rfl) | ((with_reducible apply Step.box 0); exact rfl; exact rfl; (focus (first | assumption | exact hw1)); exact rfl; (focus (first | (simp only [List.nil_append, List.cons_append, List.set_cons_zero, List.set_cons_succ, iv_set, bv_set, iv_rep, bv_rep]; done) | (simp only [List.nil_append, List.cons_append, List.set_cons_zero, List.set_cons_succ, iv_set, bv_set, iv_rep, bv_rep]; rfl) | rfl)))) | (with_reducible refine AWo.nil ?_) | ((with_reducible apply AW.seq)) | ((with_reducible apply Then.n)) | ((with_reducible apply AW.regL))))
  rw [hmin]
  ((with_reducible apply Step.sliceS (l := 0) (h := min l.length 3000)); exact rfl; exact hs; exact un22; exact sz5; exact rfl; exact (bndO_nat rfl); (focus (omega)); (focus (omega)); (focus (omega)); exact rfl)
  intro v' hv' _
  have hb : Byts (m ++ [some { cells := [.int .i64 kd, .int .i64 n, .int .i64 k, w] }]) v' (l.take 3000) := by
    have hlt : (l.take 3000).length = min l.length 3000 := by rw [List.length_take]; omega
    refine ⟨a, o, by rw [hlt]; simpa using hv', by simp; omega, fun j hj => ?_⟩
    have := hr j (by omega)
    rw [List.getD_eq_getElem?_getD, List.getElem?_take_of_lt (by omega), ← List.getD_eq_getElem?_getD]
    exact this.old _
  have hcl := clone_ok hb (by rw [List.length_take]; omega)
  (repeat ((with_reducible refine AWo.cons ?_)))
  ((with_reducible apply Step.callX fit); exact rfl; exact Try.func73; exact rfl; exact rfl; exact hcl)
  rintro u M1 ⟨N1, hN1⟩ hu
  (repeat (first | (with_reducible refine AWo.cons ?_) | ((with_reducible refine Step.id ?_); ((with_reducible apply Step.assign); exact rfl; exact rfl)) | (with_reducible refine AWo.nil ?_) | ((with_reducible apply Then.n))))
  (refine AW.ret ?_; (repeat (first | refine Then.r ?_ | refine InBlk.r ?_)))
  exact ⟨_, rfl, [some { cells := [.int .i64 kd, .int .i64 n, .int .i64 k, w] }] ++ N1, by rw [List.append_nil, hN1, List.append_assoc]; rfl, by rw [List.append_nil]; exact hu.low (by simp)⟩
/-- Records that can be read. -/
def PaysR (M : AM) (v : Value) (ps : List (List UInt8)) : Prop := ∃ a o, Sl v a o ps.length ∧ a < M.length ∧ ∀ k, k < ps.length → ∃ u, Rd M a (o + k) u ∧ Byts M u (ps.getD k [])
theorem PaysR.old {M : AM} {v : Value} {ps : List (List UInt8)} (h : PaysR M v ps) (T : AM) : PaysR (M ++ T) v ps := by
  obtain ⟨a, o, h1, h2, h3⟩ := h
  refine ⟨a, o, h1, by simp; omega, fun k hk => ?_⟩
  obtain ⟨u, q1, q2⟩ := h3 k hk
  exact ⟨u, Rd.old T q1, q2.old T⟩
theorem PaysS.r {M : AM} {b0 : Nat} {v : Value} {ps : List (List UInt8)} (h : PaysS M b0 v ps) (hM : 0 < M.length) : PaysR M v ps := by
  obtain ⟨pc, hseg, hel⟩ := h
  obtain ⟨a, o, h1, h2, h3⟩ := hseg.rd hM
  refine ⟨a, o, h1, h2, fun k hk => ?_⟩
  obtain ⟨u, q1, q2, _⟩ := hel k hk
  have := h3 [] k u q1
  rw [List.append_nil] at this
  exact ⟨u, this, q2.byts hM⟩
theorem Pays.s {M : AM} {b0 : Nat} {v : Value} {ps : List (List UInt8)} (h : Pays M b0 v ps) : PaysS M b0 v ps := by
  obtain ⟨pc, hr, hel⟩ := h
  refine ⟨pc, Row.seg hr, fun k hk => ?_⟩
  obtain ⟨u, q1, q2, q3⟩ := hel k hk
  exact ⟨u, q1, q2, fun j hj => NotB.row hr (q3 j hj)⟩
theorem Pays.r {M : AM} {b0 : Nat} {v : Value} {ps : List (List UInt8)} (h : Pays M b0 v ps) (hM : 0 < M.length) : PaysR M v ps := h.s.r hM
theorem eq_take {α : Type} {l k : List α} (h : l.length = k.length) (he : ∀ j, j < l.length → l[j]? = k[j]?) : l = k := by
  refine List.ext_getElem? fun j => ?_
  rcases Nat.lt_or_ge j l.length with hj | hj
  · exact he j hj
  · rw [List.getElem?_eq_none hj, List.getElem?_eq_none (by omega)]
set_option maxHeartbeats 4000000 in
set_option maxRecDepth 100000 in
theorem EqualF_ok {m : AM} {v w : Value} {ps qs : List (List UInt8)} (hv : PaysR m v ps) (hw : PaysR m w qs) (hp : ps.length ≤ 4611686018427387904) (hq : qs.length ≤ 4611686018427387904) :
    ACall Try.prog 22 #[v, w, .func (.func 19) #[] #[]] m (Ret (.bool (decide (ps = qs))) m) := by
  obtain ⟨a1, o1, s1, l1, r1⟩ := hv
  obtain ⟨a2, o2, s2, l2, r2⟩ := hw
  refine ACall.drop (.bool _) ?_
  refine ACall.start Try.func22 rfl rfl ?_
  by_cases hl : ps.length = qs.length
  · (repeat (first | (with_reducible refine AWo.cons ?_) | ((with_reducible refine Step.id ?_); first | ((with_reducible apply Step.move); exact rfl; exact rfl) | ((with_reducible apply Step.assign); exact rfl; exact rfl) | ((with_reducible apply Step.neq); exact rfl; exact rfl; exact rfl) | ((with_reducible apply Step.len); exact rfl; (focus (assumption)); (focus (decide +kernel)); exact rfl)) | (with_reducible refine AWo.nil ?_) | ((with_reducible apply AW.seq)) | ((with_reducible apply Then.n)) | ((with_reducible apply AW.regL)) | ((with_reducible apply AW.block)) | ((with_reducible apply AW.skip)) | ((with_reducible apply AW.condF); exact rfl; (focus ((simp only [decide_eq_true_eq, decide_eq_false_iff_not, Bool.not_eq_true', Bool.not_eq_false', Bool.not_true, Bool.not_false]; first | assumption | omega))))))
    refine AW.midR 0 (fun t' M => ps = qs ∧ M = m) ?_ ?_
    · refine AW.loopW (fun q t M => ∃ k, q = ps.length - k ∧ k ≤ ps.length ∧ (∀ j, j < k → ps[j]? = qs[j]?) ∧ M = m ∧
        t = fr [(1, w), (2, .func (.func 19) #[] #[]), (15, v), (16, .int .i64 (ps.length : Nat)), (17, .int .i64 (k : Nat))]) ⟨_, _, (by repeat (first | exact trivial | (refine And.intro rfl ?_))), 0, rfl, Nat.zero_le _, fun j hj => absurd hj (Nat.not_lt_zero _), by simp, rfl⟩ ?_
      rintro q t M ⟨k, rfl, hk, he, rfl, rfl⟩
      refine AW.rebase ?_
      rcases Nat.lt_or_ge k ps.length with hlt | hge
      · obtain ⟨u1, x1, b1⟩ := r1 k hlt
        obtain ⟨u2, x2, b2⟩ := r2 k (by omega)
        have y1 := fun T => Rd.old T x1
        have y2 := fun T => Rd.old T x2
        have hE := Equal_ok b1 b2
        have e1 : ps[k]? = some (ps.getD k []) := by rw [List.getD_eq_getElem?_getD, List.getElem?_eq_getElem hlt]; rfl
        have e2 : qs[k]? = some (qs.getD k []) := by rw [List.getD_eq_getElem?_getD, List.getElem?_eq_getElem (by omega)]; rfl
        generalize ps.getD k [] = p at *
        generalize qs.getD k [] = q at *
        (repeat (first | (with_reducible refine AWo.cons ?_) | ((with_reducible refine Step.id ?_); first | ((with_reducible apply Step.move); exact rfl; exact rfl) | ((with_reducible apply Step.assign); exact rfl; exact rfl) | ((with_reducible apply Step.load); exact rfl; (focus (decide +kernel)); exact rfl; (focus (first | exact y1 _ | exact y2 _))) | ((with_reducible apply Step.ix1); exact rfl; (focus (assumption)); exact rfl; (focus (decide +kernel)); exact rfl; (focus (omega))) | ((with_reducible apply Step.lss); exact rfl; exact rfl; exact rfl)) | (with_reducible refine AWo.nil ?_) | ((with_reducible apply AW.seq)) | ((with_reducible apply Then.n)) | ((with_reducible apply AW.regL)) | ((with_reducible apply AW.block)) | ((with_reducible apply AW.skip)) | ((with_reducible apply AW.condT); exact rfl; (focus ((simp only [decide_eq_true_eq, decide_eq_false_iff_not, Bool.not_eq_true', Bool.not_eq_false', Bool.not_true, Bool.not_false]; first | assumption | omega))))))
        ((with_reducible apply Step.callV fit); exact rfl; exact rfl; exact Try.func19; exact rfl; exact rfl; (focus (rw [List.append_nil]; exact hE)))
        by_cases e : p = q
        · have eb : (p == q) = true := by rw [e]; simp
          rw [eb]
          (repeat (first | (with_reducible refine AWo.cons ?_) | ((with_reducible refine Step.id ?_); first | ((with_reducible apply Step.move); exact rfl; exact rfl) | ((with_reducible apply Step.add); exact rfl; exact rfl; (focus (omega)); exact rfl) | ((with_reducible apply Step.not); exact rfl; exact rfl)) | (with_reducible refine AWo.nil ?_) | ((with_reducible apply Then.n)) | ((with_reducible apply AW.regL)) | ((with_reducible apply InBlk.n)) | ((with_reducible apply AW.skip)) | ((with_reducible apply AW.condF); exact rfl; (focus (rfl)))))
          exact ⟨_, [(1, w), (2, .func (.func 19) #[] #[]), (15, v), (16, .int .i64 (ps.length : Nat)), (17, .int .i64 (k + 1 : Nat))], by omega, (by repeat (first | exact trivial | (refine And.intro rfl ?_))), k + 1, rfl, by omega, fun j hj => by
            rcases Nat.lt_succ_iff_lt_or_eq.1 hj with h | h
            · exact he j h
            · rw [h, e1, e2, e], by simp, rfl⟩
        · have eb : (p == q) = false := by simp [e]
          rw [eb]
          (repeat (first | (with_reducible refine AWo.cons ?_) | ((with_reducible refine Step.id ?_); first | ((with_reducible apply Step.assign); exact rfl; exact rfl) | ((with_reducible apply Step.not); exact rfl; exact rfl)) | (with_reducible refine AWo.nil ?_) | ((with_reducible apply AW.seq)) | ((with_reducible apply Then.n)) | ((with_reducible apply AW.regL)) | ((with_reducible apply AW.condT); exact rfl; (focus (rfl)))))
          (refine AW.ret ?_; (repeat (first | refine Then.r ?_ | refine InBlk.r ?_)))
          refine MidR.r ?_
          exact ⟨_, rfl, by
            have : ps ≠ qs := fun h => e (by rw [h] at e1; rw [e1] at e2; injection e2)
            simp [this], _, rfl⟩
      · obtain rfl : k = ps.length := by omega
        (repeat (first | (with_reducible refine AWo.cons ?_) | ((with_reducible refine Step.id ?_); ((with_reducible apply Step.lss); exact rfl; exact rfl; exact rfl)) | (with_reducible refine AWo.nil ?_) | ((with_reducible apply AW.seq)) | ((with_reducible apply Then.n)) | ((with_reducible apply AW.regL)) | ((with_reducible apply AW.exit)) | ((with_reducible apply Then.e)) | ((with_reducible apply AW.condF); exact rfl; (focus ((simp only [decide_eq_true_eq, decide_eq_false_iff_not, Bool.not_eq_true', Bool.not_eq_false', Bool.not_true, Bool.not_false]; first | assumption | omega))))))
        refine MidR.e ?_
        exact ⟨eq_take hl he, by simp⟩
    · rintro t' M ⟨rfl, rfl⟩
      refine InBlk.hit ?_
      refine Then.n ?_
      (repeat (first | (with_reducible refine AWo.cons ?_) | ((with_reducible refine Step.id ?_); ((with_reducible apply Step.assign); exact rfl; exact rfl)) | (with_reducible refine AWo.nil ?_) | ((with_reducible apply AW.seq)) | ((with_reducible apply Then.n)) | ((with_reducible apply AW.regL))))
      (refine AW.ret ?_; (repeat (first | refine Then.r ?_ | refine InBlk.r ?_)))
      exact ⟨_, rfl, by simp, [], by simp⟩
  · (repeat (first | (with_reducible refine AWo.cons ?_) | ((with_reducible refine Step.id ?_); first | ((with_reducible apply Step.move); exact rfl; exact rfl) | ((with_reducible apply Step.assign); exact rfl; exact rfl) | ((with_reducible apply Step.neq); exact rfl; exact rfl; exact rfl) | ((with_reducible apply Step.len); exact rfl; (focus (assumption)); (focus (decide +kernel)); exact rfl)) | (with_reducible refine AWo.nil ?_) | ((with_reducible apply AW.seq)) | ((with_reducible apply Then.n)) | ((with_reducible apply AW.regL)) | ((with_reducible apply AW.condT); exact rfl; (focus ((simp only [decide_eq_true_eq, decide_eq_false_iff_not, Bool.not_eq_true', Bool.not_eq_false', Bool.not_true, Bool.not_false]; first | assumption | omega))))))
    (refine AW.ret ?_; (repeat (first | refine Then.r ?_ | refine InBlk.r ?_)))
    exact ⟨_, rfl, by
      have : ps ≠ qs := fun h => hl (by rw [h])
      simp [this], _, rfl⟩
set_option maxHeartbeats 16000000 in
set_option maxRecDepth 100000 in
theorem has_ok {m : AM} {lg dk : Nat} {L : Lg} {sv rv sv' rv' : Value} {s : List UInt8} {ps : List (List UInt8)} (h : LogAt m lg dk L sv rv) (hs : Byts m sv' s) (hp : PaysR m rv' ps) (l1 : L.c.snap.length ≤ 1000000000) (l2 : L.c.recs.length ≤ 1000000000) (l3 : ∀ p ∈ L.c.recs, p.length ≤ 1000000000) (l4 : ps.length ≤ 1000000000) :
    ACall Try.prog 55 #[.pointer (some ⟨lg, 0, none⟩), .agg #[sv', rv']] m (Ret (.bool (decide (L.c.snap = s ∧ L.c.recs = ps))) m) := by
  have hll := h.lt
  have hw1 : (Value.agg #[sv', rv']).cells.all (·.oneCell') = true := by
    show (#[sv', rv']).all (·.oneCell') = true
    simp only [← Array.all_toList, List.all_cons]
    obtain ⟨_, _, h1, _⟩ := hs
    obtain ⟨_, _, h2, _⟩ := hp
    rcases h1 with ⟨rfl, _⟩ | ⟨c, _, rfl⟩ | ⟨_, _, _, rfl⟩ <;> rcases h2 with ⟨rfl, _⟩ | ⟨c, _, rfl⟩ | ⟨_, _, _, rfl⟩ <;> rfl
  refine ACall.drop (.bool _) ?_
  refine ACall.start Try.func55 rfl rfl ?_
  obtain ⟨X, hX⟩ : ∃ X : AM, X = m ++ [some { cells := [sv', rv'] }] := ⟨_, rfl⟩
  have hbX : X[m.length + 0]? = some (some { cells := [sv', rv'] }) := by rw [hX, get_app]; rfl
  have hLX : LogAt X lg dk L sv rv := by rw [hX]; exact h.old _
  have hSn := Snap_ok hLX l1
  by_cases e1 : L.c.snap = s
  · (repeat' (first | (with_reducible refine AWo.cons ?_) | ((with_reducible refine Step.id ?_); first | ((with_reducible apply Step.move); exact rfl; exact rfl) | ((with_reducible apply Step.assign); exact rfl; exact rfl) | ((with_reducible apply Step.load); exact rfl; (focus (decide +kernel)); exact rfl; (focus (exact Rd.new rfl rfl))) | ((with_reducible apply Step.field0); exact rfl; (focus (decide +kernel)); exact rfl) | ((with_reducible apply Step.box 0); exact rfl; exact rfl; (focus (first | assumption | exact hw1)); exact rfl; (focus (first | (simp only [List.nil_append, List.cons_append, List.set_cons_zero, List.set_cons_succ, iv_set, bv_set, iv_rep, bv_rep]; done) | (simp only [List.nil_append, List.cons_append, List.set_cons_zero, List.set_cons_succ, iv_set, bv_set, iv_rep, bv_rep]; rfl) | rfl)))) | (with_reducible refine AWo.nil ?_) | ((with_reducible apply AW.seq)) | ((with_reducible apply Then.n)) | ((with_reducible apply AW.regL)) | ((with_reducible apply AW.drawT fit (T := (.step 0 (.step 2 (.both (.step 1 (.step 3 (.step 4 (.step 5 (.step 6 (.step 8 (.both (.step 7 (.step 9 (.step 10 (.step 11 (.step 12 .done))))) (.step 9 (.step 7 (.step 10 (.step 11 (.step 12 .done)))))))))))) (.step 3 (.step 1 (.step 4 (.step 5 (.step 6 (.step 8 (.both (.step 7 (.step 9 (.step 10 (.step 11 (.step 12 .done))))) (.step 9 (.step 7 (.step 10 (.step 11 (.step 12 .done))))))))))))))))); (focus (decide +kernel))) | ((with_reducible apply AWt.step); exact rfl) | refine AWt.both ?_ ?_))
    all_goals
      rw [show (m ++ [some { cells := (Value.agg #[sv', rv']).cells.toList }] : AM) = X from hX.symm]
      ((with_reducible apply Step.callX fit); exact rfl; exact Try.func56; exact rfl; exact rfl; exact hSn)
      rintro u1 M1 ⟨N1, hN1⟩ hu1
      have rd0 : ∀ T, Rd (M1 ++ T) (m.length + 0) 0 sv' := fun T => Rd.old T ⟨_, by rw [hN1]; exact get_old N1 hbX, rfl⟩
      have rd1 : ∀ T, Rd (M1 ++ T) (m.length + 0) 1 rv' := fun T => Rd.old T ⟨_, by rw [hN1]; exact get_old N1 hbX, rfl⟩
      have hE : ∀ T, ACall Try.prog 19 #[u1, sv'] (M1 ++ T) (Ret (.bool true) (M1 ++ T)) := fun T => by
        have := Equal_ok ((hu1.byts (by rw [hN1, hX]; simp; omega)).old T) (show Byts (M1 ++ T) sv' s by rw [hN1, hX]; exact ((hs.old _).old _).old _)
        rwa [show (L.c.snap == s) = true by simp [e1]] at this
      have hRc := Recs_ok (m := M1) (by rw [hN1]; exact hLX.old N1) l2 l3
      (repeat' (first | ((with_reducible refine Step.id ?_); first | ((with_reducible apply Step.gdT); exact rfl; exact rfl; (focus (rfl))) | ((with_reducible apply Step.move); exact rfl; exact rfl) | ((with_reducible apply Step.load); exact rfl; (focus (decide +kernel)); exact rfl; (focus (first | exact rd0 _ | exact rd1 _))) | ((with_reducible apply Step.field (k := 1)); exact rfl; (focus (decide +kernel)); exact rfl) | ((with_reducible apply Step.callR fit); exact rfl; exact Try.func19; exact rfl; exact rfl; exact (hE _))) | ((with_reducible apply AWt.step); exact rfl) | refine AWt.both ?_ ?_))
      all_goals
        ((with_reducible apply Step.callX fit); exact rfl; exact Try.func57; exact rfl; exact rfl; (focus (rw [List.append_nil]; exact hRc)))
        rintro u2 M2 ⟨N2, hN2⟩ hu2
        rw [List.append_nil] at hN2
        have rd2 : ∀ T, Rd (M2 ++ T) (m.length + 0) 1 rv' := fun T => Rd.old T ⟨_, by rw [hN2, hN1]; exact get_old N2 (get_old N1 hbX), rfl⟩
        have hEF : ∀ T, ACall Try.prog 22 #[u2, rv', .func (.func 19) #[] #[]] (M2 ++ T) (Ret (.bool (decide (L.c.recs = ps))) (M2 ++ T)) := fun T => EqualF_ok ((hu2.r (by rw [hN2, hN1, hX]; simp; omega)).old T) (by rw [hN2, hN1, hX]; exact (((hp.old _).old _).old _).old _) (by omega) (by omega)
        (repeat' (first | ((with_reducible refine Step.id ?_); first | ((with_reducible apply Step.gdT); exact rfl; exact rfl; (focus (rfl))) | ((with_reducible apply Step.assign); exact rfl; exact rfl) | ((with_reducible apply Step.load); exact rfl; (focus (decide +kernel)); exact rfl; (focus (exact rd2 _))) | ((with_reducible apply Step.pickT); exact rfl; exact rfl; exact rfl; exact rfl; (focus (rfl))) | ((with_reducible apply Step.callR fit); exact rfl; exact Try.func22; exact rfl; exact rfl; exact (hEF _))) | ((with_reducible apply Then.n)) | ((with_reducible apply AWt.step); exact rfl) | ((with_reducible apply AWt.done))))
        all_goals
          (refine AW.ret ?_; (repeat (first | refine Then.r ?_ | refine InBlk.r ?_)))
          exact ⟨_, rfl, by simp [e1], [some { cells := [sv', rv'] }] ++ (N1 ++ N2), by rw [List.append_nil, hN2, hN1, hX]; simp only [List.append_assoc]⟩
  · (repeat' (first | (with_reducible refine AWo.cons ?_) | ((with_reducible refine Step.id ?_); first | ((with_reducible apply Step.move); exact rfl; exact rfl) | ((with_reducible apply Step.assign); exact rfl; exact rfl) | ((with_reducible apply Step.load); exact rfl; (focus (decide +kernel)); exact rfl; (focus (exact Rd.new rfl rfl))) | ((with_reducible apply Step.field0); exact rfl; (focus (decide +kernel)); exact rfl) | ((with_reducible apply Step.box 0); exact rfl; exact rfl; (focus (first | assumption | exact hw1)); exact rfl; (focus (first | (simp only [List.nil_append, List.cons_append, List.set_cons_zero, List.set_cons_succ, iv_set, bv_set, iv_rep, bv_rep]; done) | (simp only [List.nil_append, List.cons_append, List.set_cons_zero, List.set_cons_succ, iv_set, bv_set, iv_rep, bv_rep]; rfl) | rfl)))) | (with_reducible refine AWo.nil ?_) | ((with_reducible apply AW.seq)) | ((with_reducible apply Then.n)) | ((with_reducible apply AW.regL)) | ((with_reducible apply AW.drawT fit (T := (.step 0 (.step 2 (.both (.step 1 (.step 3 (.step 4 (.step 5 (.step 6 (.step 8 (.both (.step 7 (.step 9 (.step 10 (.step 11 (.step 12 .done))))) (.step 9 (.step 7 (.step 10 (.step 11 (.step 12 .done)))))))))))) (.step 3 (.step 1 (.step 4 (.step 5 (.step 6 (.step 8 (.both (.step 7 (.step 9 (.step 10 (.step 11 (.step 12 .done))))) (.step 9 (.step 7 (.step 10 (.step 11 (.step 12 .done))))))))))))))))); (focus (decide +kernel))) | ((with_reducible apply AWt.step); exact rfl) | refine AWt.both ?_ ?_))
    all_goals
      rw [show (m ++ [some { cells := (Value.agg #[sv', rv']).cells.toList }] : AM) = X from hX.symm]
      ((with_reducible apply Step.callX fit); exact rfl; exact Try.func56; exact rfl; exact rfl; exact hSn)
      rintro u1 M1 ⟨N1, hN1⟩ hu1
      have rd0 : ∀ T, Rd (M1 ++ T) (m.length + 0) 0 sv' := fun T => Rd.old T ⟨_, by rw [hN1]; exact get_old N1 hbX, rfl⟩
      have hE : ∀ T, ACall Try.prog 19 #[u1, sv'] (M1 ++ T) (Ret (.bool false) (M1 ++ T)) := fun T => by
        have := Equal_ok ((hu1.byts (by rw [hN1, hX]; simp; omega)).old T) (show Byts (M1 ++ T) sv' s by rw [hN1, hX]; exact ((hs.old _).old _).old _)
        rwa [show (L.c.snap == s) = false by simp [e1]] at this
      (repeat' (first | ((with_reducible refine Step.id ?_); first | ((with_reducible apply Step.gdF); exact rfl; exact rfl; (focus (rfl))) | ((with_reducible apply Step.move); exact rfl; exact rfl) | ((with_reducible apply Step.assign); exact rfl; exact rfl) | ((with_reducible apply Step.load); exact rfl; (focus (decide +kernel)); exact rfl; (focus (exact rd0 _))) | ((with_reducible apply Step.pickF); exact rfl; exact rfl; exact rfl; exact rfl; (focus (rfl))) | ((with_reducible apply Step.callR fit); exact rfl; exact Try.func19; exact rfl; exact rfl; exact (hE _))) | ((with_reducible apply Then.n)) | ((with_reducible apply AWt.step); exact rfl) | ((with_reducible apply AWt.done)) | refine AWt.both ?_ ?_))
      all_goals
        (refine AW.ret ?_; (repeat (first | refine Then.r ?_ | refine InBlk.r ?_)))
        exact ⟨_, rfl, by simp [e1], [some { cells := [sv', rv'] }] ++ N1, by rw [List.append_nil, hN1, hX]; simp only [List.append_assoc]⟩
end Go.Proofs.Ytabdnepfcohncaa.Abs
namespace Go.Proofs.Ytabdnepfcohncaa.Abs
set_option linter.unusedSimpArgs false
set_option linter.unusedVariables false
open Go.RowKit
open Go.Proofs.Ytabdnepfcohncaa.Sim
open Go.Proofs
theorem spF_on {D : Dk} (ho : D.off = false) (hf : D.fused = false) : spF D = (true, D) := by
  unfold spF
  rw [ho, hf]
  rfl
/-- An area is written when the power is on. -/
theorem wrF_on {D : Dk} (ho : D.off = false) (hf : D.fused = false) {n : Nat} (hn : n < 2) {c : Cont} (hl : (encB c).length ≤ D.most) : wrF D (n : Nat) c = (0, D.put n ⟨encB c, (encB c).length⟩) := by
  have hi : inA ((n : Nat) : Int) := ⟨by omega, by omega⟩
  have e1 : clF D (n : Nat) = (0, D.put n ⟨[], 0⟩) := by
    unfold clF
    rw [if_pos hi, spF_on ho hf, if_pos rfl]
    rfl
  have h2o : (D.put n ⟨[], 0⟩).off = false := by unfold Dk.put; split <;> exact ho
  have h2f : (D.put n ⟨[], 0⟩).fused = false := by unfold Dk.put; split <;> exact hf
  have e2 : apF (D.put n ⟨[], 0⟩) (n : Nat) (encB c) = (0, D.put n ⟨encB c, 0⟩) := by
    unfold apF
    rw [if_pos hi, spF_on h2o h2f]
    rcases (show n = 0 ∨ n = 1 by omega) with rfl | rfl
    · exact (if_neg (by show ¬ D.most - 0 < _; omega)).trans (if_pos rfl)
    · exact (if_neg (by show ¬ D.most - 0 < _; omega)).trans (if_pos rfl)
  have h3o : (D.put n ⟨encB c, 0⟩).off = false := by unfold Dk.put; split <;> exact ho
  have h3f : (D.put n ⟨encB c, 0⟩).fused = false := by unfold Dk.put; split <;> exact hf
  have e3 : syF (D.put n ⟨encB c, 0⟩) (n : Nat) = (0, D.put n ⟨encB c, (encB c).length⟩) := by
    unfold syF
    rw [if_pos hi, spF_on h3o h3f, if_pos rfl]
    rcases (show n = 0 ∨ n = 1 by omega) with rfl | rfl <;> rfl
  unfold wrF
  rw [e1]
  simp only
  rw [if_neg (fun e => e rfl), e2]
  simp only
  rw [if_neg (fun e => e rfl), e3]
theorem frames_nil : frames [] = ([], []) := rfl
theorem parseF_whole {c : Cont} (h1 : 1 ≤ c.gen) (h2 : c.gen ≤ 4611686018427387904) (hs : c.snap.length ≤ 65536) (hr : ∀ p ∈ c.recs, p.length ≤ 65536) (hc : c.recs.length ≤ 4000000000) : parseF (encB c) = some (c, 0) := by
  have := parseF_enc h1 h2 hs hr hc [] (fun _ _ => trivial)
  rw [List.append_nil, frames_nil] at this
  simpa using this
theorem openF_twice {D : Dk} (hD : OkD D) (ho : D.off = false) (hf : D.fused = false) : openF D = (5, none, D) ∨ ∃ c n D', openF D = (0, some (c, n), D') ∧ openF D' = (0, some (c, n), D') ∧ D'.off = false ∧ c.snap.length ≤ 65536 ∧ c.recs.length ≤ 1048576 ∧ (∀ p ∈ c.recs, p.length ≤ 65536) ∧ c.gen ≤ 4611686018427387904 := by
  have hlo := hD.lo
  have hhi := hD.hi
  have ho1 : ∀ E : Dk, E.off = false → openF E = (match pickF E with
      | none => wrO E ⟨1, [], []⟩ 0
      | some (c, n, true) => if c.gen = 4611686018427387904 then (5, none, E) else wrO E ⟨c.gen + 1, c.snap, c.recs⟩ (1 - n)
      | some (c, n, false) => (0, some (c, n), E)) := fun E h => by unfold openF; rw [if_neg (by rw [h]; simp)]; rfl
  cases hp : pickF D with
  | none =>
    refine .inr ?_
    have hw := wrF_on ho hf (n := 0) (by omega) (c := ⟨1, [], []⟩) (by rw [encB_len]; show 20 + (0 + 8) + 0 ≤ _; omega)
    refine ⟨⟨1, [], []⟩, 0, D.put 0 ⟨encB ⟨1, [], []⟩, (encB ⟨1, [], []⟩).length⟩, ?_, ?_, ho, by simp, by simp, by simp, by simp⟩
    · rw [ho1 D ho, hp]
      simp only
      unfold wrO
      rw [hw]
      rfl
    · have hpw := parseF_whole (c := ⟨1, [], []⟩) (by simp) (by simp) (by simp) (by simp) (by simp)
      have h0 : pick0 (D.put 0 ⟨encB ⟨1, [], []⟩, (encB ⟨1, [], []⟩).length⟩) = some (⟨1, [], []⟩, 0, false) := by
        unfold pick0
        rw [show (D.put 0 ⟨encB ⟨1, [], []⟩, (encB ⟨1, [], []⟩).length⟩).a0.b = encB ⟨1, [], []⟩ from rfl, hpw]
        rfl
      have h1 : parseF D.a1.b = none := by
        unfold pickF at hp
        cases h : parseF D.a1.b with
        | none => rfl
        | some y =>
          rw [h] at hp
          obtain ⟨c, r⟩ := y
          unfold nxF at hp
          simp only at hp
          split at hp
          · split at hp <;> cases hp
          · cases hp
      have h2 : pickF (D.put 0 ⟨encB ⟨1, [], []⟩, (encB ⟨1, [], []⟩).length⟩) = some (⟨1, [], []⟩, 0, false) := by
        unfold pickF
        rw [h0, show (D.put 0 ⟨encB ⟨1, [], []⟩, (encB ⟨1, [], []⟩).length⟩).a1.b = D.a1.b from rfl, h1]
        rfl
      rw [ho1 (D.put 0 ⟨encB ⟨1, [], []⟩, (encB ⟨1, [], []⟩).length⟩) ho, h2]
  | some x =>
    obtain ⟨c, n, t⟩ := x
    obtain ⟨r, hpr, hn2, ht⟩ := pick_ok hp
    obtain ⟨l1, l2, l3, l4, l5⟩ := parseF_len hpr
    have hal : (D.ar n).b.length ≤ D.most := by
      rcases (show n = 0 ∨ n = 1 by omega) with rfl | rfl
      · exact hD.l0
      · exact hD.l1
    have hcn := flat_cnt c.recs
    have hel := encB_len c
    cases t with
    | false =>
      refine .inr ⟨c, n, D, ?_, ?_, ho, l4, by omega, l5, l3⟩ <;> rw [ho1 D ho, hp]
    | true =>
      by_cases hg : c.gen = 4611686018427387904
      · refine .inl ?_
        rw [ho1 D ho, hp]
        exact if_pos hg
      · refine .inr ?_
        have hel2 := encB_len ⟨c.gen + 1, c.snap, c.recs⟩
        simp only at hel2
        have hw := wrF_on ho hf (n := 1 - n) (by omega) (c := ⟨c.gen + 1, c.snap, c.recs⟩) (by omega)
        have ho2 : (D.put (1 - n) ⟨encB ⟨c.gen + 1, c.snap, c.recs⟩, (encB ⟨c.gen + 1, c.snap, c.recs⟩).length⟩).off = false := by unfold Dk.put; split <;> exact ho
        refine ⟨⟨c.gen + 1, c.snap, c.recs⟩, 1 - n, D.put (1 - n) ⟨encB ⟨c.gen + 1, c.snap, c.recs⟩, (encB ⟨c.gen + 1, c.snap, c.recs⟩).length⟩, ?_, ?_, ho2, l4, by show c.recs.length ≤ _; omega, l5, by show c.gen + 1 ≤ _; omega⟩
        · rw [ho1 D ho, hp]
          simp only
          rw [if_neg hg]
          unfold wrO
          rw [hw]
          rfl
        · have hpw := parseF_whole (c := ⟨c.gen + 1, c.snap, c.recs⟩) (by simp) (by show c.gen + 1 ≤ _; omega) l4 l5 (by show c.recs.length ≤ _; omega)
          generalize hec : encB ⟨c.gen + 1, c.snap, c.recs⟩ = ec at *
          have h2 : pickF (D.put (1 - n) ⟨ec, ec.length⟩) = some (⟨c.gen + 1, c.snap, c.recs⟩, 1 - n, false) := by
            rcases (show n = 0 ∨ n = 1 by omega) with rfl | rfl
            · have h0 : pick0 D = some (c, 0, true) := by
                rcases nxF_cases hp with h | ⟨c', r', _, e⟩
                · exact h
                · simp at e
              unfold pickF
              rw [show pick0 (D.put (1 - 0) ⟨ec, ec.length⟩) = pick0 D from rfl, h0, show (D.put (1 - 0) ⟨ec, ec.length⟩).a1.b = ec from rfl, hpw]
              exact if_pos (by show c.gen < c.gen + 1; omega)
            · have h0 : pick0 (D.put (1 - 1) ⟨ec, ec.length⟩) = some (⟨c.gen + 1, c.snap, c.recs⟩, 0, false) := by
                unfold pick0
                rw [show (D.put (1 - 1) ⟨ec, ec.length⟩).a0.b = ec from rfl, hpw]
                rfl
              unfold pickF
              rw [h0, show (D.put (1 - 1) ⟨ec, ec.length⟩).a1.b = (D.ar 1).b from rfl, hpr]
              exact if_neg (by show ¬ c.gen + 1 < c.gen; omega)
          rw [ho1 _ ho2, h2]
end Go.Proofs.Ytabdnepfcohncaa.Abs
namespace Go.Proofs.Ytabdnepfcohncaa.Abs
set_option linter.unusedSimpArgs false
set_option linter.unusedVariables false
open Go.RowKit
open Go.Proofs.Ytabdnepfcohncaa.Sim
open Go.Proofs
section
variable {P : Program} {nt : Nat} {ops : Array Oper} {t : Fm} {m : AM} {K : Fm → AM → Prop} {d T : Nat} {p : String} {af : Array Edge}
/-- The last bit of a number: some number. -/
theorem Step.andI {x y : Operand} {X Y : TypeId} {a b : Int} (hx : evo t x = some (.int .i64 a)) (hy : evo t y = some (.int .i64 b)) (hlt : Nat.blt d nt = true) (hK : ∀ r, K (put t d (.int .i64 r)) m) : Step P nt ops ⟨some d, .binOp .and X x y Y, T, p, af, none⟩ t m K := by
  refine .ground rfl rfl hlt (by simp [Op.operands, hx, hy, g1, g0]) (fun h => by simp only [aquiet, evD_of hx, evD_of hy, aint, anil]; simpa [evD_of hx, evD_of hy] using h) ?_ (v := .int .i64 (IntKind.i64.wrap ((BitVec.ofInt IntKind.i64.bits a &&& BitVec.ofInt IntKind.i64.bits b).toNat : Int))) (by simp [g1, g0]) (hK _)
  simp only [execOp, eqGuard, binOp, evD_of hx, evD_of hy, Op.intBits, bind, Sem.bind, pure, Sim.still]
  rfl
end
structure Act9 where
  kd : Int
  n : Int
  m : Int
  l : List UInt8
instance : Inhabited Act9 := ⟨⟨0, 0, 0, []⟩⟩
def Act9.cells (x : Act9) (w : Value) : List Value := [.int .i64 x.kd, .int .i64 x.n, .int .i64 x.m, w]
/-- A row of acts. -/
def Acts9 (M : AM) (v : Value) (ds : List Act9) : Prop := ∃ a o, Sl v a o ds.length ∧ a < M.length ∧ ∀ k, k < ds.length → ∃ w, RdL M a (o + k * 4) ((ds.getD k default).cells w) ∧ Byts M w (ds.getD k default).l
theorem Byts.one {M : AM} {w : Value} {l : List UInt8} (h : Byts M w l) : w.oneCell' = true := by
  obtain ⟨_, _, h, _⟩ := h
  rcases h with ⟨rfl, _⟩ | ⟨c, _, rfl⟩ | ⟨_, _, _, rfl⟩ <;> rfl
theorem Act9.one {M : AM} {x : Act9} {w : Value} (h : Byts M w x.l) : (Value.agg (x.cells w).toArray).cells.all (·.oneCell') = true := by
  show ((x.cells w).toArray).all (·.oneCell') = true
  simp only [← Array.all_toList, Act9.cells, List.all_cons, h.one]
  rfl
/-- The disk of StockAgain, and an act beside it. -/
def AgS (m0 : AM) (bk : Nat) (cs : List Value) (D : Dk) (M : AM) : Prop := ∃ u0 u1, DiskAt M m0.length m0.length D u0 u1 ∧ (∃ N, M = m0 ++ N) ∧ M[bk]? = some (some { cells := cs }) ∧ ¬ dkD m0.length u0 u1 bk
theorem AgS.old {m0 M : AM} {bk : Nat} {cs : List Value} {D : Dk} (h : AgS m0 bk cs D M) (T : AM) : AgS m0 bk cs D (M ++ T) := by
  obtain ⟨u0, u1, h1, ⟨N, rfl⟩, h3, h4⟩ := h
  exact ⟨u0, u1, h1.old T, ⟨N ++ T, List.append_assoc ..⟩, get_old T h3, h4⟩
theorem AgS.dk {m0 X M : AM} {bk : Nat} {cs : List Value} {D D' : Dk} {u0 u1 : Value} (hd : DiskAt X m0.length m0.length D u0 u1) (hN : ∃ N, X = m0 ++ N) (hb : X[bk]? = some (some { cells := cs })) (hn : ¬ dkD m0.length u0 u1 bk) (hq : DkQ D' m0.length m0.length u0 u1 X M) : AgS m0 bk cs D' M := by
  obtain ⟨w0, w1, a, k, f⟩ := hq
  have hbl := (List.getElem?_eq_some_iff.1 hb).1
  have hml : m0.length ≤ X.length := by obtain ⟨N, rfl⟩ := hN; rw [List.length_append]; omega
  exact ⟨w0, w1, a, pre_keep hN k.len fun j hj => k.get j (by omega) fun e => by have := (hd.at_ e).1; omega, by rw [k.get bk hbl hn]; exact hb, f bk hbl hn⟩
theorem AgS.dl {m0 X M : AM} {bk lg : Nat} {cs : List Value} {D D' : Dk} {L' : Lg} {u0 u1 : Value} {S : Nat → Prop} (hd : DiskAt X m0.length m0.length D u0 u1) (hN : ∃ N, X = m0 ++ N) (hb : X[bk]? = some (some { cells := cs })) (hn : ¬ dkD m0.length u0 u1 bk) (hS : ∀ j, S j → m0.length ≤ j) (hbS : ¬ S bk) (hq : DLQ D' L' m0.length m0.length lg u0 u1 S X M) : AgS m0 bk cs D' M := by
  obtain ⟨w0, w1, sv, rv, S', a, _, _, _, k, f⟩ := hq
  have hbl := (List.getElem?_eq_some_iff.1 hb).1
  have hml : m0.length ≤ X.length := by obtain ⟨N, rfl⟩ := hN; rw [List.length_append]; omega
  exact ⟨w0, w1, a, pre_keep hN k.len fun j hj => k.get j (by omega) fun e => by
    rcases e with e | e
    · have := (hd.at_ e).1
      omega
    · have := hS j e
      omega, by rw [k.get bk hbl fun e => e.elim hn hbS]; exact hb, f bk hbl hn⟩
theorem openF_len {D : Dk} {c : Cont} {n : Nat} (hD : OkD D) (h : (openF D).2.1 = some (c, n)) : c.gen ≤ 4611686018427387904 ∧ 1 ≤ c.gen ∧ c.snap.length ≤ 65536 ∧ c.recs.length ≤ 131072 ∧ (∀ p ∈ c.recs, p.length ≤ 65536) ∧ n < 2 := by
  have hhi := hD.hi
  have key : ∀ c n, pickF D = some (c, n, true) ∨ pickF D = some (c, n, false) → c.gen ≤ 4611686018427387904 ∧ 1 ≤ c.gen ∧ c.snap.length ≤ 65536 ∧ c.recs.length ≤ 131072 ∧ (∀ p ∈ c.recs, p.length ≤ 65536) ∧ n < 2 := fun c n hp => by
    have : ∃ t, pickF D = some (c, n, t) := by rcases hp with h | h <;> exact ⟨_, h⟩
    obtain ⟨t, hp⟩ := this
    obtain ⟨r, hpr, hn2, _⟩ := pick_ok hp
    obtain ⟨l1, l2, l3, l4, l5⟩ := parseF_len hpr
    have hal : (D.ar n).b.length ≤ D.most := by
      rcases (show n = 0 ∨ n = 1 by omega) with rfl | rfl
      · exact hD.l0
      · exact hD.l1
    have hcn := flat_cnt c.recs
    have hel := encB_len c
    exact ⟨l3, l2, l4, by omega, l5, hn2⟩
  have hwr : ∀ c' n', (wrO D c' n').2.1 = some (c, n) → c = c' ∧ n = n' := fun c' n' e => by
    unfold wrO at e
    split at e
    · simp only [Option.some.injEq, Prod.mk.injEq] at e
      exact ⟨e.1.symm, e.2.symm⟩
    · cases e
  unfold openF at h
  split at h
  · cases h
  · split at h
    · obtain ⟨rfl, rfl⟩ := hwr _ _ h
      exact ⟨by simp, by simp, by simp, by simp, by simp, by omega⟩
    · rename_i c' n' hp
      split at h
      · cases h
      · rename_i hg
        obtain ⟨q1, q2, q3, q4, q5, q6⟩ := key _ _ (.inl hp)
        obtain ⟨rfl, rfl⟩ := hwr _ _ h
        exact ⟨by show c'.gen + 1 ≤ _; omega, by show 1 ≤ c'.gen + 1; omega, q3, q4, q5, by omega⟩
    · rename_i c' n' hp
      simp only [Option.some.injEq, Prod.mk.injEq] at h
      obtain ⟨rfl, rfl⟩ := h
      exact key _ _ (.inr hp)
theorem bl105 {a b : Value} (ha : SlV a) (hb : SlV b) : abuild Try.prog 105 [(0, a), (1, b)] = some (.agg #[a, b]) := by
  rcases ha with rfl | ⟨_, _, _, rfl⟩ <;> rcases hb with rfl | ⟨_, _, _, rfl⟩ <;> kernel_rfl
theorem ze43 : zeroB Try.prog 43 = some #[.int .i64 0, .int .i64 0, .int .i64 0, .slice none 0 0] := by kernel_rfl
set_option maxHeartbeats 32000000 in
set_option maxRecDepth 100000 in
theorem StockAgain_ok {m : AM} (hw : ∀ M : AM, ACall Try.prog 16 #[] M (Ret (.bool true) M)) {n : Int} {v : Value} {xs : List Act9} (h : Acts9 m v xs) (hn : xs.length ≤ 9223372036854775807) (hl : ∀ k, (xs.getD k default).l.length ≤ 9223372036854775807) : ACall Try.prog 12 #[.int .i64 n, v] m (Ret (.bool true) m) := by
  refine ACall.drop (.bool _) ?_
  obtain ⟨a, o, h1, h2, h3⟩ := h
  refine ACall.start Try.func12 rfl rfl ?_
  by_cases hnn : 64 ≤ n ∧ n ≤ 1048576
  · obtain ⟨z, rfl⟩ : ∃ z : Nat, n = (z : Int) := ⟨n.toNat, by omega⟩
    have hz : 64 ≤ z ∧ z ≤ 1048576 := by omega
    (repeat (first | (with_reducible refine AWo.cons ?_) | ((with_reducible refine Step.id ?_); first | ((with_reducible apply Step.move); exact rfl; exact rfl) | ((with_reducible apply Step.assign); exact rfl; exact rfl)) | (with_reducible refine AWo.nil ?_) | ((with_reducible apply AW.seq)) | ((with_reducible apply Then.n)) | ((with_reducible apply AW.regL))))
    ((with_reducible apply Step.callF fit); exact rfl; exact Try.func23; exact rfl; exact rfl; (focus (rw [List.append_nil]; exact NewDisk_ok hz)))
    rintro r0 M0 ⟨rfl, hM0⟩
    have hD0 : DiskAt M0 m.length m.length (Dk.new z) (.slice none 0 0) (.slice none 0 0) := by
      have := DiskAt.new m hz []
      rwa [List.append_nil, ← hM0] at this
    rw [← List.append_nil M0]
    (repeat (first | (with_reducible refine AWo.cons ?_) | ((with_reducible refine Step.id ?_); first | ((with_reducible apply Step.move); exact rfl; exact rfl) | ((with_reducible apply Step.assign); exact rfl; exact rfl) | ((with_reducible apply Step.ptrNot); exact rfl; exact rfl; exact un36; exact rfl) | ((with_reducible apply Step.len); exact rfl; (focus (assumption)); (focus (decide +kernel)); exact rfl) | ((with_reducible apply Step.extract); exact rfl; exact rfl; exact rfl)) | (with_reducible refine AWo.nil ?_) | ((with_reducible apply AW.seq)) | ((with_reducible apply Then.n)) | ((with_reducible apply AW.regL)) | ((with_reducible apply AW.block)) | ((with_reducible apply AW.skip)) | ((with_reducible apply AW.condF); exact rfl; (focus (rfl)))))
    refine AW.midX 0 (fun t' M => ∃ (D : Dk) (u0 u1 : Value), DiskAt M m.length m.length D u0 u1 ∧ D.off = false ∧ D.fused = false ∧ (∃ N, M = m ++ N) ∧ All (fun i v => t' i = some v) [(5, .pointer (some ⟨m.length, 0, none⟩))]) ?_ ?_
    · refine AW.loopW (fun q t M => ∃ (k : Nat) (D : Dk) (u0 u1 : Value), q = xs.length - k ∧ k ≤ xs.length ∧ DiskAt M m.length m.length D u0 u1 ∧ D.off = false ∧ D.fused = false ∧ (∃ N, M = m ++ N) ∧
        t = fr [(5, .pointer (some ⟨m.length, 0, none⟩)), (33, v), (34, .int .i64 (xs.length : Nat)), (35, .int .i64 (k : Nat))]) ⟨_, _, (by repeat (first | exact trivial | (refine And.intro rfl ?_))), 0, _, _, _, rfl, Nat.zero_le _, by rw [List.append_nil]; exact hD0, rfl, rfl, ⟨_, by rw [List.append_nil]; exact hM0⟩, rfl⟩ ?_
      rintro q t M ⟨k, D, u0, u1, rfl, hk, hD, ho, hf, ⟨N, hN⟩, rfl⟩
      refine AW.rebase ?_
      rcases Nat.lt_or_ge k xs.length with hlt | hge
      · obtain ⟨w, g1, g2⟩ := h3 k hlt
        have hMl : M.length = m.length + N.length := by rw [hN, List.length_append]
        have g1' : ∀ T, RdL (M ++ T) a (o + k * 4) ((xs.getD k default).cells w) := fun T => RdL.old T (by rw [hN]; exact RdL.old N g1)
        have g2' : ∀ T, Byts (M ++ T) w (xs.getD k default).l := fun T => Byts.old T (by rw [hN]; exact Byts.old N g2)
        have hle := hl k
        generalize xs.getD k default = x at *
        have hw1 : (Value.agg (x.cells w).toArray).cells.all (·.oneCell') = true := Act9.one g2
        have hdl := hD.lt
        by_cases h30 : 30 < k
        · (repeat (first | (with_reducible refine AWo.cons ?_) | ((with_reducible refine Step.id ?_); first | ((with_reducible apply Step.move); exact rfl; exact rfl) | ((with_reducible apply Step.assign); exact rfl; exact rfl) | ((with_reducible apply Step.loadL (n := 4)); exact rfl; (focus (decide +kernel)); (focus (decide +kernel)); exact rfl; (focus (exact g1' _)); exact rfl; exact rfl) | ((with_reducible apply Step.ix (s := 4)); exact rfl; (focus (assumption)); exact rfl; (focus (decide +kernel)); exact rfl; (focus (omega))) | ((with_reducible apply Step.lss); exact rfl; exact rfl; exact rfl) | ((with_reducible apply Step.gtr); exact rfl; exact rfl; exact rfl) | ((with_reducible apply Step.alloc 0); exact rfl; exact ze43; exact rfl; (focus (first | (simp only [List.nil_append, List.cons_append, List.set_cons_zero, List.set_cons_succ, iv_set, bv_set, iv_rep, bv_rep]; done) | (simp only [List.nil_append, List.cons_append, List.set_cons_zero, List.set_cons_succ, iv_set, bv_set, iv_rep, bv_rep]; rfl) | rfl))) | ((with_reducible apply Step.storeA (k := 0) (n := 4)); exact rfl; exact rfl; exact rfl; exact rfl; (focus (decide +kernel)); exact rfl; (focus (first | assumption | exact hw1)); exact rfl; (focus (first | (simp only [List.nil_append, List.cons_append, List.set_cons_zero, List.set_cons_succ, iv_set, bv_set, iv_rep, bv_rep]; done) | (simp only [List.nil_append, List.cons_append, List.set_cons_zero, List.set_cons_succ, iv_set, bv_set, iv_rep, bv_rep]; rfl) | rfl)))) | (with_reducible refine AWo.nil ?_) | ((with_reducible apply AW.seq)) | ((with_reducible apply Then.n)) | ((with_reducible apply AW.regL)) | ((with_reducible apply AW.block)) | ((with_reducible apply AW.exit)) | ((with_reducible apply InBlk.miss); exact rfl) | ((with_reducible apply Then.e)) | ((with_reducible apply AW.skip)) | ((with_reducible apply AW.condT); exact rfl; (focus ((simp only [decide_eq_true_eq, decide_eq_false_iff_not, Bool.not_eq_true', Bool.not_eq_false', Bool.not_true, Bool.not_false]; first | assumption | omega))))))
          exact ⟨rfl, D, u0, u1, hD.old _, ho, hf, ⟨N ++ [some { cells := x.cells w }], by rw [hN, List.append_assoc]; rfl⟩, (by repeat (first | exact trivial | (refine And.intro rfl ?_)))⟩
        · obtain ⟨X, hX⟩ : ∃ X : AM, X = M ++ [some { cells := x.cells w }] := ⟨_, rfl⟩
          have hXl : X.length = M.length + 1 := by rw [hX, List.length_append]; rfl
          have hDX : DiskAt X m.length m.length D u0 u1 := by rw [hX]; exact hD.old _
          have hNX : ∃ N, X = m ++ N := ⟨_, by rw [hX, hN, List.append_assoc]⟩
          have hbX : X[M.length]? = some (some { cells := x.cells w }) := by rw [hX, List.getElem?_append_right (Nat.le_refl _), Nat.sub_self]; rfl
          have hnX : ¬ dkD m.length u0 u1 M.length := fun e => by
            obtain ⟨_, b, hb, _⟩ := hD.at_ e
            have := (List.getElem?_eq_some_iff.1 hb).1
            omega
          have hwX : Byts X w x.l := by rw [hX]; exact g2' _
          (repeat (first | (with_reducible refine AWo.cons ?_) | ((with_reducible refine Step.id ?_); first | ((with_reducible apply Step.move); exact rfl; exact rfl) | ((with_reducible apply Step.assign); exact rfl; exact rfl) | ((with_reducible apply Step.loadL (n := 4)); exact rfl; (focus (decide +kernel)); (focus (decide +kernel)); exact rfl; (focus (exact g1' _)); exact rfl; exact rfl) | ((with_reducible apply Step.ix (s := 4)); exact rfl; (focus (assumption)); exact rfl; (focus (decide +kernel)); exact rfl; (focus (omega))) | ((with_reducible apply Step.lss); exact rfl; exact rfl; exact rfl) | ((with_reducible apply Step.gtr); exact rfl; exact rfl; exact rfl) | ((with_reducible apply Step.alloc 0); exact rfl; exact ze43; exact rfl; (focus (first | (simp only [List.nil_append, List.cons_append, List.set_cons_zero, List.set_cons_succ, iv_set, bv_set, iv_rep, bv_rep]; done) | (simp only [List.nil_append, List.cons_append, List.set_cons_zero, List.set_cons_succ, iv_set, bv_set, iv_rep, bv_rep]; rfl) | rfl))) | ((with_reducible apply Step.storeA (k := 0) (n := 4)); exact rfl; exact rfl; exact rfl; exact rfl; (focus (decide +kernel)); exact rfl; (focus (first | assumption | exact hw1)); exact rfl; (focus (first | (simp only [List.nil_append, List.cons_append, List.set_cons_zero, List.set_cons_succ, iv_set, bv_set, iv_rep, bv_rep]; done) | (simp only [List.nil_append, List.cons_append, List.set_cons_zero, List.set_cons_succ, iv_set, bv_set, iv_rep, bv_rep]; rfl) | rfl)))) | (with_reducible refine AWo.nil ?_) | ((fail_if_success (with_reducible refine AW.atR (id := 8) ?_)); ((with_reducible apply AW.seq))) | ((with_reducible apply Then.n)) | ((with_reducible apply AW.regL)) | ((with_reducible apply AW.block)) | ((with_reducible apply AW.skip)) | ((with_reducible apply AW.condT); exact rfl; (focus ((simp only [decide_eq_true_eq, decide_eq_false_iff_not, Bool.not_eq_true', Bool.not_eq_false', Bool.not_true, Bool.not_false]; first | assumption | omega)))) | ((with_reducible apply AW.condF); exact rfl; (focus ((simp only [decide_eq_true_eq, decide_eq_false_iff_not, Bool.not_eq_true', Bool.not_eq_false', Bool.not_true, Bool.not_false]; first | assumption | omega))))))
          have rdx : ∀ (Y : AM), Y[M.length]? = some (some { cells := x.cells w }) → ∀ T, RdL (Y ++ T) (M.length + 0) 0 (x.cells w) ∧ Rd (Y ++ T) (M.length + 0) (0 + 1) (.int .i64 x.n) ∧ Rd (Y ++ T) (M.length + 0) (0 + 2) (.int .i64 x.m) := fun Y hY T =>
            ⟨RdL.old T ⟨_, hY, fun j v hv => by rw [Nat.zero_add]; exact hv⟩, Rd.old T ⟨_, hY, rfl⟩, Rd.old T ⟨_, hY, rfl⟩⟩
          rw [show (M ++ [some { cells := (Value.agg (x.cells w).toArray).cells.toList }] : AM) = X from hX.symm]
          refine AW.seq ?_
          refine AW.join (fun t' M' => (∃ D', AgS m M.length (x.cells w) D' M' ∧ X.length ≤ M'.length) ∧ All (fun i v => t' i = some v) [(5, .pointer (some ⟨m.length, 0, none⟩)), (8, .pointer (some ⟨M.length + 0, 0, none⟩)), (33, v), (34, .int .i64 (xs.length : Nat)), (35, .int .i64 (k : Nat))]) ?_ ?_
          · have rX := rdx X hbX
            have hsm := small_ok (kd := x.kd) (n := x.n) (k := x.m) hwX hle
            rw [← List.append_nil X]
            (repeat' (first | ((with_reducible refine Step.id ?_); first | ((with_reducible apply Step.move); exact rfl; exact rfl) | ((with_reducible apply Step.load); exact rfl; (focus (decide +kernel)); exact rfl; (focus (exact (rX _).2.1))) | ((with_reducible apply Step.loadL (n := 4)); exact rfl; (focus (decide +kernel)); (focus (decide +kernel)); exact rfl; (focus (exact (rX _).1)); exact rfl; exact rfl) | ((with_reducible apply Step.field (k := 1)); exact rfl; (focus (decide +kernel)); exact rfl)) | ((with_reducible apply AW.drawT fit (T := (.step 0 (.step 1 (.step 4 (.both (.step 2 (.step 3 (.step 5 (.step 6 .done)))) (.step 5 (.step 2 (.step 3 (.step 6 .done)))))))))); (focus (decide +kernel))) | ((with_reducible apply AWt.step); exact rfl) | refine AWt.both ?_ ?_))
            all_goals first
            | (
               ((with_reducible apply Step.andI); exact rfl; exact rfl; exact rfl)
               intro r
               (repeat' (((with_reducible apply AWt.step); exact rfl)))
               all_goals
                ((with_reducible apply Step.callX fit); exact rfl; exact Try.func49; exact rfl; exact rfl; (focus (rw [List.append_nil]; exact hsm)))
                rintro u M1 ⟨N1, hN1⟩ hu
                rw [List.append_nil] at hN1
                (repeat' (((with_reducible apply AWt.step); exact rfl)))
                all_goals
                 have hD1 : DiskAt M1 m.length m.length D u0 u1 := by rw [hN1]; exact hDX.old _
                 have hM1l : M1.length = X.length + N1.length := by rw [hN1, List.length_append]
                 ((with_reducible apply Step.callF fit); exact rfl; exact Try.func48; exact rfl; exact rfl; (focus (rw [List.append_nil]; exact DAppend_ok (p := x.l.take 3000) r hD1 (by omega) (fun M' hk => (Row.keep hu fun j hj hn => hk.get j hj (fun e => by have := hu.ge_of hn; omega)).byts (by have := hk.len; omega)) (by rw [List.length_take]; omega))))
                 rintro r7 M7 ⟨rfl, hQ7⟩
                 rw [← List.append_nil M7]
                 (repeat' (first | ((with_reducible apply Then.n)) | ((with_reducible apply AWt.done))))
                 have hA := AgS.dk hD1 (by obtain ⟨Y, hY⟩ := hNX; exact ⟨Y ++ N1, by rw [hN1, hY, List.append_assoc]⟩) (by rw [hN1]; exact get_old N1 hbX) hnX hQ7
                 have hQl := hQ7
                 obtain ⟨_, _, _, hk7, _⟩ := hQl
                 have hkl := hk7.len
                 exact ⟨⟨_, by rw [List.append_nil]; exact hA, by simp; omega⟩, (by repeat (first | exact trivial | (refine And.intro rfl ?_)))⟩)
            | (
               ((with_reducible apply Step.callX fit); exact rfl; exact Try.func49; exact rfl; exact rfl; (focus (rw [List.append_nil]; exact hsm)))
               rintro u M1 ⟨N1, hN1⟩ hu
               rw [List.append_nil] at hN1
               (repeat' (first | ((with_reducible refine Step.id ?_); ((with_reducible apply Step.load); exact rfl; (focus (decide +kernel)); exact rfl; (focus (exact (rdx M1 (by rw [hN1]; exact get_old N1 hbX) _).2.1)))) | ((with_reducible apply AWt.step); exact rfl)))
               all_goals
                ((with_reducible apply Step.andI); exact rfl; exact rfl; exact rfl)
                intro r
                (repeat' (((with_reducible apply AWt.step); exact rfl)))
                all_goals
                 have hD1 : DiskAt M1 m.length m.length D u0 u1 := by rw [hN1]; exact hDX.old _
                 have hM1l : M1.length = X.length + N1.length := by rw [hN1, List.length_append]
                 ((with_reducible apply Step.callF fit); exact rfl; exact Try.func48; exact rfl; exact rfl; (focus (rw [List.append_nil]; exact DAppend_ok (p := x.l.take 3000) r hD1 (by omega) (fun M' hk => (Row.keep hu fun j hj hn => hk.get j hj (fun e => by have := hu.ge_of hn; omega)).byts (by have := hk.len; omega)) (by rw [List.length_take]; omega))))
                 rintro r7 M7 ⟨rfl, hQ7⟩
                 rw [← List.append_nil M7]
                 (repeat' (first | ((with_reducible apply Then.n)) | ((with_reducible apply AWt.done))))
                 have hA := AgS.dk hD1 (by obtain ⟨Y, hY⟩ := hNX; exact ⟨Y ++ N1, by rw [hN1, hY, List.append_assoc]⟩) (by rw [hN1]; exact get_old N1 hbX) hnX hQ7
                 have hQl := hQ7
                 obtain ⟨_, _, _, hk7, _⟩ := hQl
                 have hkl := hk7.len
                 exact ⟨⟨_, by rw [List.append_nil]; exact hA, by simp; omega⟩, (by repeat (first | exact trivial | (refine And.intro rfl ?_)))⟩)
          · rintro t' M' ⟨⟨D1, ⟨y0, y1, hD1, hN1, hb1, hn1⟩, hl1⟩, hsl⟩
            refine AW.weak (fr_all hsl) ?_
            clear hsl
            have hOp := Open_ok hD1 (by omega)
            have hl2 := hb1
            refine AW.seq ?_
            refine AW.join (fun t' M' => (∃ D', AgS m M.length (x.cells w) D' M') ∧ All (fun i v => t' i = some v) [(5, .pointer (some ⟨m.length, 0, none⟩)), (8, .pointer (some ⟨M.length + 0, 0, none⟩)), (33, v), (34, .int .i64 (xs.length : Nat)), (35, .int .i64 (k : Nat))]) ?_ ?_
            · rw [← List.append_nil M']
              (repeat (first | (with_reducible refine AWo.cons ?_) | ((with_reducible refine Step.id ?_); ((with_reducible apply Step.move); exact rfl; exact rfl)) | ((with_reducible apply AW.seq)) | ((with_reducible apply AW.regL))))
              ((with_reducible apply Step.callF fit); exact rfl; exact Try.func50; exact rfl; exact rfl; (focus (rw [List.append_nil]; exact hOp)))
              rintro r2 M2 (⟨_, rfl, e1, hQ⟩ | ⟨c, nn, lg, w0, w1, sv, rv, S, e0, e1, rfl, hD2, hk2, hf2, hL2, hS2⟩)
              · have hA := AgS.dk hD1 hN1 hb1 hn1 hQ
                generalize (openF D1).1 = e at *
                rw [← List.append_nil M2]
                (repeat (first | (with_reducible refine AWo.cons ?_) | ((with_reducible refine Step.id ?_); first | ((with_reducible apply Step.gdF); exact rfl; exact rfl; (focus ((simp only [decide_eq_true_eq, decide_eq_false_iff_not, Bool.not_eq_true', Bool.not_eq_false', Bool.not_true, Bool.not_false]; first | assumption | omega)))) | ((with_reducible apply Step.move); exact rfl; exact rfl) | ((with_reducible apply Step.assign); exact rfl; exact rfl) | ((with_reducible apply Step.eql); exact rfl; exact rfl; exact rfl) | ((with_reducible apply Step.extract); exact rfl; exact rfl; exact rfl) | ((with_reducible apply Step.pickF); exact rfl; exact rfl; exact rfl; exact rfl; (focus ((simp only [decide_eq_true_eq, decide_eq_false_iff_not, Bool.not_eq_true', Bool.not_eq_false', Bool.not_true, Bool.not_false]; first | assumption | omega))))) | (with_reducible refine AWo.nil ?_) | ((with_reducible apply AW.seq)) | ((with_reducible apply Then.n)) | ((with_reducible apply AW.regL)) | ((with_reducible apply AW.skip)) | ((with_reducible apply AW.condF); exact rfl; (focus (rfl)))))
                exact ⟨⟨_, hA.old _⟩, (by repeat (first | exact trivial | (refine And.intro rfl ?_)))⟩
              · have hb2 : M2[M.length]? = some (some { cells := x.cells w }) := by rw [hk2.get _ (by omega) hn1]; exact hb1
                have hN2 : ∃ N, M2 = m ++ N := pre_keep hN1 hk2.len fun j hj => hk2.get j (by omega) fun e => by have := (hD1.at_ e).1; omega
                have hk2l := hk2.len
                have hsm := small_ok (kd := x.kd) (n := x.n) (k := x.m) (m := M2) (w := w) (l := x.l) (by obtain ⟨Y, hY⟩ := hN2; rw [hY]; exact g2.old _) hle
                rw [← List.append_nil M2]
                (repeat (first | (with_reducible refine AWo.cons ?_) | ((with_reducible refine Step.id ?_); first | ((with_reducible apply Step.gdT); exact rfl; exact rfl; (focus (rfl))) | ((with_reducible apply Step.move); exact rfl; exact rfl) | ((with_reducible apply Step.assign); exact rfl; exact rfl) | ((with_reducible apply Step.loadL (n := 4)); exact rfl; (focus (decide +kernel)); (focus (decide +kernel)); exact rfl; (focus (exact (rdx M2 hb2 _).1)); exact rfl; exact rfl) | ((with_reducible apply Step.ptrNotN); exact rfl; exact rfl; exact un96; exact rfl) | ((with_reducible apply Step.eql); exact rfl; exact rfl; exact rfl) | ((with_reducible apply Step.extract); exact rfl; exact rfl; exact rfl) | ((with_reducible apply Step.pickT); exact rfl; exact rfl; exact rfl; exact rfl; (focus (rfl)))) | (with_reducible refine AWo.nil ?_) | ((with_reducible apply AW.seq)) | ((with_reducible apply Then.n)) | ((with_reducible apply AW.regL)) | ((with_reducible apply AW.condT); exact rfl; (focus (rfl)))))
                ((with_reducible apply Step.callX fit); exact rfl; exact Try.func49; exact rfl; exact rfl; (focus (rw [List.append_nil]; exact hsm)))
                rintro u M3 ⟨N3, hN3⟩ hu
                rw [List.append_nil] at hN3
                have hM3l : M3.length = M2.length + N3.length := by rw [hN3, List.length_append]
                have hD3 : DiskAt M3 m.length m.length (openF D1).2.2 w0 w1 := by rw [hN3]; exact hD2.old _
                have hdl3 : ∀ j, dkD m.length w0 w1 j → j < M2.length := fun j hj => by
                  obtain ⟨_, b, hb, _⟩ := hD2.at_ hj
                  exact (List.getElem?_eq_some_iff.1 hb).1
                have hL3 : LogAt (vw (fun j => S j ∧ j < M2.length) M3) lg m.length ⟨c, nn, false⟩ sv rv := hL2.msub ⟨by rw [vw_len, vw_len]; omega, fun j b _ hj => by
                  obtain ⟨q1, q2⟩ := vw_some.1 hj
                  have hl := (List.getElem?_eq_some_iff.1 q2).1
                  exact vw_some.2 ⟨⟨q1, hl⟩, by rw [hN3]; exact get_old N3 q2⟩⟩
                obtain ⟨k1, k2, k3, k4, k5, k6⟩ := openF_len hD1.ok e0
                have hbu : ∀ M', Keep (fun j => dkD m.length w0 w1 j ∨ S j ∧ j < M2.length) M3 M' → Byts M' u (x.l.take 3000) := fun M' hk => (Row.keep hu fun j hj hn => hk.get j hj (fun e => by
                  have := hu.ge_of hn
                  rcases e with e | e
                  · have := hdl3 j e
                    omega
                  · omega)).byts (by have := hk.len; omega)
                (repeat ((with_reducible refine AWo.cons ?_)))
                ((with_reducible apply Step.callF fit); exact rfl; exact Try.func51; exact rfl; exact rfl; (focus (rw [List.append_nil]; exact Add_ok (p := x.l.take 3000) hD3 (by omega) hL3 (fun j hj e => (hS2 j e.1).2 hj) hbu (by rw [List.length_take]; omega) (by show c.recs.length ≤ _; omega))))
                rintro r4 M4 ⟨rfl, hQ4⟩
                have hA := AgS.dl hD3 (by obtain ⟨Y, hY⟩ := hN2; exact ⟨Y ++ N3, by rw [hN3, hY, List.append_assoc]⟩) (by rw [hN3]; exact get_old N3 hb2) (hf2 _ (by omega) hn1) (fun j hj => by have := (hS2 j hj.1).1; omega) (fun e => by have := (hS2 _ e.1).1; omega) hQ4
                generalize (addF (openF D1).2.2 ⟨c, nn, false⟩ (x.l.take 3000)).1 = e at *
                rw [← List.append_nil M4]
                (repeat (first | (with_reducible refine AWo.nil ?_) | ((with_reducible apply Then.n))))
                exact ⟨⟨_, hA.old _⟩, (by repeat (first | exact trivial | (refine And.intro rfl ?_)))⟩
            · rintro t' M5 ⟨⟨D5, z0, z1, hD5, hN5, hb5, hn5⟩, hsl⟩
              refine AW.weak (fr_all hsl) ?_
              clear hsl
              rw [← List.append_nil M5]
              (repeat (first | (with_reducible refine AWo.cons ?_) | ((with_reducible refine Step.id ?_); first | ((with_reducible apply Step.move); exact rfl; exact rfl) | ((with_reducible apply Step.load); exact rfl; (focus (decide +kernel)); exact rfl; (focus (first | exact (rdx M5 hb5 _).2.1 | exact (rdx M5 hb5 _).2.2))) | ((with_reducible apply Step.field (k := 1)); exact rfl; (focus (decide +kernel)); exact rfl) | ((with_reducible apply Step.field (k := 2)); exact rfl; (focus (decide +kernel)); exact rfl)) | ((with_reducible apply AW.regL))))
              ((with_reducible apply Step.callF fit); exact rfl; exact Try.func52; exact rfl; exact rfl; (focus (rw [List.append_nil]; exact DCrash_ok x.n x.m hD5)))
              rintro r6 M6 ⟨rfl, hQ6⟩
              obtain ⟨v0, v1, hD6, ⟨N6, hN6⟩, _, _⟩ := AgS.dk hD5 hN5 hb5 hn5 hQ6
              rw [← List.append_nil M6]
              (repeat (first | (with_reducible refine AWo.cons ?_) | ((with_reducible refine Step.id ?_); first | ((with_reducible apply Step.move); exact rfl; exact rfl) | ((with_reducible apply Step.add); exact rfl; exact rfl; (focus (omega)); exact rfl)) | (with_reducible refine AWo.nil ?_) | ((with_reducible apply Then.n)) | ((with_reducible apply AW.regL)) | ((with_reducible apply InBlk.n))))
              exact ⟨_, [(5, .pointer (some ⟨m.length, 0, none⟩)), (33, v), (34, .int .i64 (xs.length : Nat)), (35, .int .i64 (k + 1 : Nat))], by omega, (by repeat (first | exact trivial | (refine And.intro rfl ?_))), k + 1, crF D5 x.n x.m, v0, v1, rfl, by omega, hD6.old _, rfl, rfl, ⟨N6 ++ [], by rw [hN6, List.append_assoc]⟩, rfl⟩
      · obtain rfl : k = xs.length := by omega
        (repeat (first | (with_reducible refine AWo.cons ?_) | ((with_reducible refine Step.id ?_); ((with_reducible apply Step.lss); exact rfl; exact rfl; exact rfl)) | (with_reducible refine AWo.nil ?_) | ((with_reducible apply AW.seq)) | ((with_reducible apply Then.n)) | ((with_reducible apply AW.regL)) | ((with_reducible apply AW.exit)) | ((with_reducible apply Then.e)) | ((with_reducible apply AW.condF); exact rfl; (focus ((simp only [decide_eq_true_eq, decide_eq_false_iff_not, Bool.not_eq_true', Bool.not_eq_false', Bool.not_true, Bool.not_false]; first | assumption | omega))))))
        exact ⟨rfl, D, u0, u1, hD.old _, ho, hf, ⟨N ++ [], by rw [hN, List.append_assoc]⟩, (by repeat (first | exact trivial | (refine And.intro rfl ?_)))⟩
    · rintro t' M ⟨D, u0, u1, hD, ho, hf, ⟨N, hN⟩, hsl⟩
      refine InBlk.hit ?_
      refine Then.n ?_
      refine AW.weak (fr_all hsl) ?_
      clear hsl
      refine AW.rebase ?_
      have hdl := hD.lt
      have hOp := Open_ok hD (by omega)
      rcases openF_twice hD.ok ho hf with e5 | ⟨c, nn, D', e1, e2, ho', l1, l2, l3, l4⟩
      · rw [e5] at hOp
        (repeat (first | (with_reducible refine AWo.cons ?_) | ((with_reducible refine Step.id ?_); ((with_reducible apply Step.move); exact rfl; exact rfl)) | ((with_reducible apply AW.seq)) | ((with_reducible apply AW.regL))))
        ((with_reducible apply Step.callF fit); exact rfl; exact Try.func50; exact rfl; exact rfl; (focus (rw [List.append_nil]; exact hOp)))
        rintro r2 M2 (⟨_, rfl, q1, hQ⟩ | ⟨c, nn, lg, w0, w1, sv, rv, S, e0, _⟩)
        · rw [← List.append_nil M2]
          (repeat (first | (with_reducible refine AWo.cons ?_) | ((with_reducible refine Step.id ?_); first | ((with_reducible apply Step.gdT); exact rfl; exact rfl; (focus (rfl))) | ((with_reducible apply Step.gdF); exact rfl; exact rfl; (focus (rfl))) | ((with_reducible apply Step.move); exact rfl; exact rfl) | ((with_reducible apply Step.assign); exact rfl; exact rfl) | ((with_reducible apply Step.eql); exact rfl; exact rfl; exact rfl) | ((with_reducible apply Step.neq); exact rfl; exact rfl; exact rfl) | ((with_reducible apply Step.extract); exact rfl; exact rfl; exact rfl) | ((with_reducible apply Step.pickT); exact rfl; exact rfl; exact rfl; exact rfl; (focus (rfl))) | ((with_reducible apply Step.callR fit); exact rfl; exact Try.func16; exact rfl; exact rfl; exact (hw _))) | (with_reducible refine AWo.nil ?_) | ((with_reducible apply AW.seq)) | ((with_reducible apply Then.n)) | ((with_reducible apply AW.regL)) | ((with_reducible apply AW.condT); exact rfl; (focus (rfl)))))
          (refine AW.ret ?_; (repeat (first | refine Then.r ?_ | refine InBlk.r ?_)))
          obtain ⟨v0, v1, _, hk, _⟩ := hQ
          exact ⟨_, rfl, rfl, by rw [List.append_nil]; exact pre_keep ⟨N, hN⟩ hk.len fun j hj => hk.get j (by omega) fun e => by have := (hD.at_ e).1; omega⟩
        · cases e0
      · rw [e1] at hOp
        (repeat (first | (with_reducible refine AWo.cons ?_) | ((with_reducible refine Step.id ?_); ((with_reducible apply Step.move); exact rfl; exact rfl)) | ((with_reducible apply AW.seq)) | ((with_reducible apply AW.regL))))
        ((with_reducible apply Step.callF fit); exact rfl; exact Try.func50; exact rfl; exact rfl; (focus (rw [List.append_nil]; exact hOp)))
        rintro r2 M2 (⟨q0, _⟩ | ⟨c', nn', lg, w0, w1, sv, rv, S, q0, q1, rfl, hD2, hk2, hf2, hL2, hS2⟩)
        · cases q0
        · simp only [Option.some.injEq, Prod.mk.injEq] at q0
          obtain ⟨rfl, rfl⟩ := q0
          have hk2l := hk2.len
          have hN2 : ∃ N, M2 = m ++ N := pre_keep ⟨N, hN⟩ hk2.len fun j hj => hk2.get j (by omega) fun e => by have := (hD.at_ e).1; omega
          change DiskAt M2 m.length m.length D' w0 w1 at hD2
          have hrd0 : ∀ i : Nat, i < 2 → rdF D' (i : Nat) = ((D'.ar i).b, 0) := fun i hi => by
            unfold rdF
            rw [if_pos (show inA ((i : Nat) : Int) from ⟨by omega, by omega⟩), if_neg (by rw [ho']; simp)]
            rfl
          have hRd : ∀ (i : Nat) (Y : AM) (y0 y1 : Value), i < 2 → DiskAt Y m.length m.length D' y0 y1 → ACall Try.prog 53 #[.pointer (some ⟨m.length, 0, none⟩), .int .i64 (i : Nat)] Y (More (fun M r => ∃ u, r = .tuple #[u, .int .i64 0] ∧ Row M Y.length 1 u (by8 (D'.ar i).b) (D'.ar i).b.length) Y) := fun i Y y0 y1 hi hY => by
            have := DRead_ok ((i : Nat) : Int) hY
            rw [hrd0 i hi] at this
            exact this
          rw [← List.append_nil M2]
          (repeat (first | (with_reducible refine AWo.cons ?_) | ((with_reducible refine Step.id ?_); first | ((with_reducible apply Step.gdT); exact rfl; exact rfl; (focus (rfl))) | ((with_reducible apply Step.move); exact rfl; exact rfl) | ((with_reducible apply Step.assign); exact rfl; exact rfl) | ((with_reducible apply Step.ptrNot); exact rfl; exact rfl; exact un96; exact rfl) | ((with_reducible apply Step.neq); exact rfl; exact rfl; exact rfl) | ((with_reducible apply Step.extract); exact rfl; exact rfl; exact rfl) | ((with_reducible apply Step.pickF); exact rfl; exact rfl; exact rfl; exact rfl; (focus (rfl)))) | (with_reducible refine AWo.nil ?_) | ((with_reducible apply AW.seq)) | ((with_reducible apply Then.n)) | ((with_reducible apply AW.regL)) | ((with_reducible apply AW.skip)) | ((with_reducible apply AW.condF); exact rfl; (focus (rfl)))))
          ((with_reducible apply Step.callX fit); exact rfl; exact Try.func53; exact rfl; exact rfl; (focus (rw [List.append_nil]; exact hRd 0 M2 w0 w1 (by omega) hD2)))
          rintro r3 M3 ⟨N3, hN3⟩ ⟨ua, rfl, hua⟩
          rw [List.append_nil] at hN3
          have hD3 : DiskAt M3 m.length m.length D' w0 w1 := by rw [hN3]; exact hD2.old _
          (repeat (first | (with_reducible refine AWo.cons ?_) | ((with_reducible refine Step.id ?_); first | ((with_reducible apply Step.move); exact rfl; exact rfl) | ((with_reducible apply Step.assign); exact rfl; exact rfl) | ((with_reducible apply Step.extract); exact rfl; exact rfl; exact rfl)) | (with_reducible refine AWo.nil ?_) | ((with_reducible apply AW.seq)) | ((with_reducible apply Then.n)) | ((with_reducible apply AW.regL))))
          ((with_reducible apply Step.callX fit); exact rfl; exact Try.func53; exact rfl; exact rfl; (focus (rw [List.append_nil]; exact hRd 1 M3 w0 w1 (by omega) hD3)))
          rintro r4 M4 ⟨N4, hN4⟩ ⟨ub, rfl, hub⟩
          rw [List.append_nil] at hN4
          have hD4 : DiskAt M4 m.length m.length D' w0 w1 := by rw [hN4]; exact hD3.old _
          have hM3l : M3.length = M2.length + N3.length := by rw [hN3, List.length_append]
          have hM4l : M4.length = M3.length + N4.length := by rw [hN4, List.length_append]
          have hOp2 := Open_ok hD4 (by omega)
          rw [e2] at hOp2
          (repeat (first | (with_reducible refine AWo.cons ?_) | ((with_reducible refine Step.id ?_); first | ((with_reducible apply Step.move); exact rfl; exact rfl) | ((with_reducible apply Step.assign); exact rfl; exact rfl) | ((with_reducible apply Step.extract); exact rfl; exact rfl; exact rfl)) | (with_reducible refine AWo.nil ?_) | ((with_reducible apply AW.seq)) | ((with_reducible apply Then.n)) | ((with_reducible apply AW.regL))))
          ((with_reducible apply Step.callF fit); exact rfl; exact Try.func50; exact rfl; exact rfl; (focus (rw [List.append_nil]; exact hOp2)))
          rintro r5 M5 (⟨q0, _⟩ | ⟨c', nn', lg', x0, x1, sv', rv', S', q0, q2, rfl, hD5, hk5, hf5, hL5, hS5⟩)
          · cases q0
          · simp only [Option.some.injEq, Prod.mk.injEq] at q0
            obtain ⟨rfl, rfl⟩ := q0
            have hk5l := hk5.len
            have hN5 : ∃ N, M5 = m ++ N := by
              obtain ⟨Y, hY⟩ := hN2
              exact pre_keep (M := M4) ⟨Y ++ (N3 ++ N4), by rw [hN4, hN3, hY]; simp only [List.append_assoc]⟩ hk5.len fun j hj => hk5.get j (by omega) fun e => by have := (hD4.at_ e).1; omega
            have hdl2 : ∀ j, dkD m.length w0 w1 j → j < M2.length := fun j hj => by
              obtain ⟨_, b, hb, _⟩ := hD2.at_ hj
              exact (List.getElem?_eq_some_iff.1 hb).1
            have hL5a : LogAt M5 lg m.length ⟨c, nn, false⟩ sv rv := by
              have := (hL2.msub (M' := vw (fun j => S j ∧ j < M2.length) M4) ⟨by rw [vw_len, vw_len]; omega, fun j b _ hj => by
                obtain ⟨z1, z2⟩ := vw_some.1 hj
                have hl := (List.getElem?_eq_some_iff.1 z2).1
                exact vw_some.2 ⟨⟨z1, hl⟩, by rw [hN4, hN3]; exact get_old N4 (get_old N3 z2)⟩⟩).disk (fun j hj e => (hS2 j e.1).2 hj) hk5
              exact this.all
            have hL5b : LogAt M5 lg' m.length ⟨c, nn, false⟩ sv' rv' := hL5.all
            have hua5 : Row M5 M2.length 1 ua (by8 (D'.ar 0).b) (D'.ar 0).b.length := Row.keep (M := M4) (by rw [hN4]; exact hua.old _) fun j hj hn => hk5.get j hj fun e => by
              have := hua.ge_of hn
              have := hdl2 j e
              omega
            have hub5 : Row M5 M3.length 1 ub (by8 (D'.ar 1).b) (D'.ar 1).b.length := Row.keep hub fun j hj hn => hk5.get j hj fun e => by
              have := hub.ge_of hn
              have := hdl2 j e
              omega
            have hG1 := fun T => Gen_ok (hL5a.old T)
            have hG2 := fun T => Gen_ok (hL5b.old T)
            have hSn := Snap_ok hL5a (by show c.snap.length ≤ _; omega)
            rw [← List.append_nil M5]
            (repeat (first | (with_reducible refine AWo.cons ?_) | ((with_reducible refine Step.id ?_); first | ((with_reducible apply Step.gdT); exact rfl; exact rfl; (focus (first | rfl | (simp; done)))) | ((with_reducible apply Step.move); exact rfl; exact rfl) | ((with_reducible apply Step.assign); exact rfl; exact rfl) | ((with_reducible apply Step.ptrNot); exact rfl; exact rfl; exact un96; exact rfl) | ((with_reducible apply Step.neq); exact rfl; exact rfl; exact rfl) | ((with_reducible apply Step.extract); exact rfl; exact rfl; exact rfl) | ((with_reducible apply Step.pickF); exact rfl; exact rfl; exact rfl; exact rfl; (focus (rfl))) | ((with_reducible apply Step.callR fit); exact rfl; exact Try.func54; exact rfl; exact rfl; exact (hG1 _)) | ((with_reducible apply Step.callR fit); exact rfl; exact Try.func54; exact rfl; exact rfl; exact (hG2 _))) | (with_reducible refine AWo.nil ?_) | ((with_reducible apply AW.seq)) | ((with_reducible apply Then.n)) | ((with_reducible apply AW.regL))))
            ((with_reducible apply Step.callX fit); exact rfl; exact Try.func56; exact rfl; exact rfl; (focus (rw [List.append_nil]; exact hSn)))
            rintro us M6 ⟨N6, hN6⟩ hus
            rw [List.append_nil] at hN6
            have hM6l : M6.length = M5.length + N6.length := by rw [hN6, List.length_append]
            have hRc := Recs_ok (m := M6) (L := ⟨c, nn, false⟩) (by rw [hN6]; exact hL5a.old N6) (by show c.recs.length ≤ _; omega) (fun p hp => by have := l3 p hp; omega)
            (repeat (first | (with_reducible refine AWo.cons ?_) | ((with_reducible refine Step.id ?_); first | ((with_reducible apply Step.gdT); exact rfl; exact rfl; (focus ((simp; done)))) | ((with_reducible apply Step.move); exact rfl; exact rfl))))
            ((with_reducible apply Step.callX fit); exact rfl; exact Try.func57; exact rfl; exact rfl; (focus (rw [List.append_nil]; exact hRc)))
            rintro ur M7 ⟨N7, hN7⟩ hur
            rw [List.append_nil] at hN7
            have hM7l : M7.length = M6.length + N7.length := by rw [hN7, List.length_append]
            have hbl : abuild Try.prog 105 [(0, us), (1, ur)] = some (.agg #[us, ur]) := bl105 hus.slv (hur.s.slv)
            have hhas := has_ok (m := M7) (sv' := us) (rv' := ur) (s := c.snap) (ps := c.recs) (by rw [hN7, hN6]; exact (hL5b.old N6).old N7) (by rw [hN7]; exact (hus.byts (by omega)).old N7) (hur.r (by omega)) (by show c.snap.length ≤ _; omega) (by show c.recs.length ≤ _; omega) (fun p hp => by have := l3 p hp; omega) (by omega)
            rw [show decide ((⟨c, nn, false⟩ : Lg).c.snap = c.snap ∧ (⟨c, nn, false⟩ : Lg).c.recs = c.recs) = true by simp] at hhas
            have hD7 : DiskAt M7 m.length m.length D' x0 x1 := by rw [hN7, hN6]; exact (hD5.old N6).old N7
            (repeat (first | (with_reducible refine AWo.cons ?_) | ((with_reducible refine Step.id ?_); ((with_reducible apply Step.gdT); exact rfl; exact rfl; (focus ((simp; done)))))))
            ((with_reducible apply Step.build); exact rfl; exact hbl; exact rfl)
            (repeat (first | (with_reducible refine AWo.cons ?_) | ((with_reducible refine Step.id ?_); ((with_reducible apply Step.gdT); exact rfl; exact rfl; (focus ((simp; done)))))))
            ((with_reducible apply Step.callF fit); exact rfl; exact Try.func55; exact rfl; exact rfl; (focus (rw [List.append_nil]; exact hhas)))
            rintro rb Mb ⟨rfl, rfl⟩
            rw [← List.append_nil M7]
            (repeat (first | (with_reducible refine AWo.cons ?_) | ((with_reducible refine Step.id ?_); first | ((with_reducible apply Step.gdT); exact rfl; exact rfl; (focus ((simp; done)))) | ((with_reducible apply Step.move); exact rfl; exact rfl) | ((with_reducible apply Step.not); exact rfl; exact rfl) | ((with_reducible apply Step.pickF); exact rfl; exact rfl; exact rfl; exact rfl; (focus ((simp; done))))) | (with_reducible refine AWo.nil ?_) | ((with_reducible apply AW.seq)) | ((with_reducible apply Then.n)) | ((with_reducible apply AW.regL)) | ((with_reducible apply AW.skip)) | ((with_reducible apply AW.condF); exact rfl; (focus (rfl)))))
            ((with_reducible apply Step.callX fit); exact rfl; exact Try.func53; exact rfl; exact rfl; (focus (rw [List.append_nil]; exact hRd 0 M7 x0 x1 (by omega) hD7)))
            rintro r8 M8 ⟨N8, hN8⟩ ⟨uc, rfl, huc⟩
            rw [List.append_nil] at hN8
            have hD8 : DiskAt M8 m.length m.length D' x0 x1 := by rw [hN8]; exact hD7.old _
            have hM8l : M8.length = M7.length + N8.length := by rw [hN8, List.length_append]
            (repeat (first | (with_reducible refine AWo.cons ?_) | ((with_reducible refine Step.id ?_); first | ((with_reducible apply Step.move); exact rfl; exact rfl) | ((with_reducible apply Step.assign); exact rfl; exact rfl) | ((with_reducible apply Step.extract); exact rfl; exact rfl; exact rfl)) | (with_reducible refine AWo.nil ?_) | ((with_reducible apply AW.seq)) | ((with_reducible apply Then.n)) | ((with_reducible apply AW.regL))))
            ((with_reducible apply Step.callX fit); exact rfl; exact Try.func53; exact rfl; exact rfl; (focus (rw [List.append_nil]; exact hRd 1 M8 x0 x1 (by omega) hD8)))
            rintro r9 M9 ⟨N9, hN9⟩ ⟨ud, rfl, hud⟩
            rw [List.append_nil] at hN9
            have hM9l : M9.length = M8.length + N9.length := by rw [hN9, List.length_append]
            have hE1 : ∀ T, ACall Try.prog 19 #[ua, uc] (M9 ++ T) (Ret (.bool true) (M9 ++ T)) := fun T => by
              have := Equal_ok ((show Byts M9 ua (D'.ar 0).b by rw [hN9, hN8, hN7, hN6]; exact ((((hua5.byts (by omega)).old N6).old N7).old N8).old N9).old T) ((show Byts M9 uc (D'.ar 0).b by rw [hN9]; exact (huc.byts (by omega)).old N9).old T)
              rwa [show ((D'.ar 0).b == (D'.ar 0).b) = true by simp] at this
            have hE2 : ∀ T, ACall Try.prog 19 #[ub, ud] (M9 ++ T) (Ret (.bool true) (M9 ++ T)) := fun T => by
              have := Equal_ok ((show Byts M9 ub (D'.ar 1).b by rw [hN9, hN8, hN7, hN6]; exact ((((hub5.byts (by omega)).old N6).old N7).old N8).old N9).old T) ((hud.byts (by omega)).old T)
              rwa [show ((D'.ar 1).b == (D'.ar 1).b) = true by simp] at this
            (repeat (first | (with_reducible refine AWo.cons ?_) | ((with_reducible refine Step.id ?_); first | ((with_reducible apply Step.gdT); exact rfl; exact rfl; (focus (rfl))) | ((with_reducible apply Step.move); exact rfl; exact rfl) | ((with_reducible apply Step.assign); exact rfl; exact rfl) | ((with_reducible apply Step.extract); exact rfl; exact rfl; exact rfl) | ((with_reducible apply Step.pickT); exact rfl; exact rfl; exact rfl; exact rfl; (focus (rfl))) | ((with_reducible apply Step.callR fit); exact rfl; exact Try.func19; exact rfl; exact rfl; exact (hE1 _)) | ((with_reducible apply Step.callR fit); exact rfl; exact Try.func19; exact rfl; exact rfl; exact (hE2 _)) | ((with_reducible apply Step.callR fit); exact rfl; exact Try.func16; exact rfl; exact rfl; exact (hw _))) | (with_reducible refine AWo.nil ?_) | ((with_reducible apply AW.seq)) | ((with_reducible apply Then.n)) | ((with_reducible apply AW.regL))))
            (refine AW.ret ?_; (repeat (first | refine Then.r ?_ | refine InBlk.r ?_)))
            obtain ⟨Y, hY⟩ := hN5
            exact ⟨_, rfl, rfl, Y ++ (N6 ++ (N7 ++ (N8 ++ N9))), by rw [List.append_nil, hN9, hN8, hN7, hN6, hY]; simp only [List.append_assoc]⟩
  · (repeat (first | (with_reducible refine AWo.cons ?_) | ((with_reducible refine Step.id ?_); first | ((with_reducible apply Step.gdT); exact rfl; exact rfl; (focus (rfl))) | ((with_reducible apply Step.move); exact rfl; exact rfl) | ((with_reducible apply Step.assign); exact rfl; exact rfl) | ((with_reducible apply Step.ptrNil); exact rfl; exact rfl; exact un36; exact rfl) | ((with_reducible apply Step.eql); exact rfl; exact rfl; exact rfl) | ((with_reducible apply Step.extract); exact rfl; exact rfl; exact rfl) | ((with_reducible apply Step.pickT); exact rfl; exact rfl; exact rfl; exact rfl; (focus (rfl))) | ((with_reducible apply Step.callR fit); exact rfl; exact Try.func23; exact rfl; exact rfl; exact (NewDisk_bad hnn)) | ((with_reducible apply Step.callR fit); exact rfl; exact Try.func16; exact rfl; exact rfl; exact (hw _))) | (with_reducible refine AWo.nil ?_) | ((with_reducible apply AW.seq)) | ((with_reducible apply Then.n)) | ((with_reducible apply AW.regL)) | ((with_reducible apply AW.condT); exact rfl; (focus (rfl)))))
    (refine AW.ret ?_; (repeat (first | refine Then.r ?_ | refine InBlk.r ?_)))
    exact ⟨_, rfl, rfl, [], by simp⟩
end Go.Proofs.Ytabdnepfcohncaa.Abs
namespace Go.Proofs.Ytabdnepfcohncaa.Abs
set_option linter.unusedSimpArgs false
set_option linter.unusedVariables false
open Go.RowKit
open Go.Proofs.Ytabdnepfcohncaa.Sim
open Go.Proofs
open Go.ChangeShapes Go.WideShapes Go.Deep
section
variable {H : Type} {enc : TypeId × Value → H} {P : Program} {w : World} {base : Nat} {held : Bool}
/-- Bytes that the input shows, wherever they stand. -/
theorem byts_sl {T e : TypeId} {fuel : Nat} {v : Value} {d : DataW H × List MemPlace} (ht : P.underlying T = some (.slice e)) (he : P.underlying e = some (.int .u8)) (hce : P.cellsOf e = 1) (h : DataW.trod enc P w base (fun _ => true) held fuel T [v] = some d) :
    ∃ l : List UInt8, l.length ≤ maxLen ∧ (∀ R, OkB w R (v, by8 l)) ∧ ∀ (bs : List AR) (i : Nat), bs[i]? = some (v, by8 l) → Byts (bs.map mkB2) (mkV2 i v) l := by
  rcases open_ints ht he hce h with ⟨hcs, _⟩ | ⟨x, n, c, zs, hcs, _, hl, hm, hz, _, hcell, hwz⟩
  · obtain rfl : v = .slice none 0 0 := by simpa using hcs
    exact ⟨[], Nat.zero_le _, fun R => .inl rfl, fun bs i hi => ⟨i, 0, .inl ⟨rfl, rfl⟩, by simp; exact (List.getElem?_eq_some_iff.1 hi).1, fun k hk => by simp at hk⟩⟩
  · obtain rfl : v = .slice (some x) n c := by simpa using hcs
    rw [if_pos rfl] at hz
    have hlen : ((zs.take n).map fun z => UInt8.ofNat z.toNat).length = n := by simp; omega
    cases c with
    | zero =>
      obtain rfl : n = 0 := by omega
      refine ⟨[], Nat.zero_le _, fun R => .inr (.inl ⟨x, rfl⟩), fun bs i hi => ?_⟩
      have hlt : i < (bs.map mkB2).length := by simp; exact (List.getElem?_eq_some_iff.1 hi).1
      obtain ⟨b, o, sp⟩ := x
      cases sp with
      | none => exact ⟨i, 0, Sl.mk (Nat.le_refl _), hlt, fun k hk => by simp at hk⟩
      | some k => exact ⟨i, 0, .inr (.inr ⟨rfl, 0, k, rfl⟩), hlt, fun k hk => by simp at hk⟩
    | succ c =>
      obtain ⟨b, o, sp⟩ := x
      have h0 : sp = none ∧ b < w.heap.size := by
        have h1 := hcell 0 (by omega)
        have := cell_some h1
        first | exact this | (simpa [Addr.add] using this) | (cases sp <;> simp_all [Addr.add])
      obtain ⟨rfl, hb⟩ := h0
      refine ⟨(zs.take n).map fun z => UInt8.ofNat z.toNat, by rw [hlen]; omega, fun R => .inr (.inr ⟨b, o, n, c, rfl, hl, hb, fun j x hj => ?_⟩), fun bs i hi => ?_⟩
      · have hj1 := (List.getElem?_eq_some_iff.1 hj).1
        simp only [by8_len, hlen] at hj1
        have hjz : j < zs.length := by omega
        simp only at hj
        rw [by8_get (by rw [hlen]; exact hj1)] at hj
        injection hj with hj
        have := hcell j hjz
        rw [Addr.add_lit] at this
        have hb' := bounds_u8 (hwz _ (List.getElem_mem hjz))
        have h1 : (UInt8.ofNat zs[j].toNat).toNat = zs[j].toNat := by
          rw [UInt8.toNat_ofNat']; exact Nat.mod_eq_of_lt (by omega)
        refine ⟨x, ?_, by rw [← hj]; exact .int _ _⟩
        rw [this, ← hj]
        simp only [List.getElem_map, List.getElem_take]
        rw [h1, List.getD_eq_getElem?_getD, List.getElem?_eq_getElem hjz, Option.getD_some]
        congr 2
        omega
      · have hM : (bs.map mkB2)[i]? = some (some { cells := by8 ((zs.take n).map fun z => UInt8.ofNat z.toNat), kind := .ro }) := by rw [List.getElem?_map, hi]; rfl
        exact (BytsAt.of (by rw [hlen]; exact Sl.mk (Nat.le_refl n)) fun _ => ⟨_, hM, fun j v hj => by rw [Nat.zero_add]; exact hj⟩).byts (List.getElem?_eq_some_iff.1 hM).1
end
/-- The cells of n acts; the After of job k lies in block e0 + k. -/
def actCs (F : Nat → Act9) (s : Nat → Value) (e0 n : Nat) : List Value := (List.range n).flatMap fun k => (F k).cells (mkV2 (e0 + k) (s k))
theorem actCs_succ (F : Nat → Act9) (s : Nat → Value) (e0 n : Nat) : actCs F s e0 (n + 1) = actCs F s e0 n ++ (F n).cells (mkV2 (e0 + n) (s n)) := by
  simp [actCs, List.range_succ, List.flatMap_append]
theorem actCs_len (F : Nat → Act9) (s : Nat → Value) (e0 : Nat) : ∀ n, (actCs F s e0 n).length = n * 4
  | 0 => rfl
  | n + 1 => by rw [actCs_succ, List.length_append, actCs_len F s e0 n]; simp [Act9.cells]; omega
theorem actCs_get (F : Nat → Act9) (s : Nat → Value) (e0 : Nat) : ∀ n k, k < n → ∀ q v, ((F k).cells (mkV2 (e0 + k) (s k)))[q]? = some v → (actCs F s e0 n)[k * 4 + q]? = some v
  | 0, k, h, _, _, _ => by omega
  | n + 1, k, h, q, v, hq => by
    have hq3 : q < 4 := by have := (List.getElem?_eq_some_iff.1 hq).1; simpa [Act9.cells] using this
    rw [actCs_succ]
    rcases Nat.lt_succ_iff_lt_or_eq.1 h with h' | h'
    · rw [List.getElem?_append_left (by rw [actCs_len]; omega)]
      exact actCs_get F s e0 n k h' q v hq
    · subst h'
      rw [List.getElem?_append_right (by rw [actCs_len]; omega), actCs_len, Nat.add_sub_cancel_left]
      exact hq
theorem cells4 (x : Act9) (w : Value) (q : Nat) (v : Value) (h : (x.cells w)[q]? = some v) : q = 0 ∧ v = .int .i64 x.kd ∨ q = 1 ∧ v = .int .i64 x.n ∨ q = 2 ∧ v = .int .i64 x.m ∨ q = 3 ∧ v = w := by
  match q, h with
  | 0, h => simp [Act9.cells] at h; exact .inl ⟨rfl, h.symm⟩
  | 1, h => simp [Act9.cells] at h; exact .inr (.inl ⟨rfl, h.symm⟩)
  | 2, h => simp [Act9.cells] at h; exact .inr (.inr (.inl ⟨rfl, h.symm⟩))
  | 3, h => simp [Act9.cells] at h; exact .inr (.inr (.inr ⟨rfl, h.symm⟩))
  | q + 4, h => simp [Act9.cells] at h
section
variable {H : Type} {enc : TypeId × Value → H} {P : Program} {w : World} {base : Nat} {held : Bool}
theorem arg_acts9 {r : Reach} {b0 : Nat} {T e tS tI : TypeId} {fs : Array Field} {a : Option Addr} {n c : Nat} {d : DataW H} {p : List MemPlace} (ht : P.underlying T = some (.slice e)) (he : P.underlying e = some (.struct fs)) (hone : oneCellFields P fs = true) (hC : P.cellsOf e = fs.size) (hsz : fs.size = 4)
    (hI : ∀ j f, j < 3 → fs[j]? = some f → P.underlying f.type = some (.int .i64)) (hS : ∀ f, fs[3]? = some f → f.type = tS) (hS1 : P.underlying tS = some (.slice tI)) (hS2 : P.underlying tI = some (.int .u8)) (hS3 : P.cellsOf tI = 1)
    (hok : Value.okWide P w r b0 T (.slice a n c)) (h : DataW.Trod enc P w base (fun _ => true) held T (.slice a n c) d p) :
    ∃ (F : Nat → Act9) (s : Nat → Value), n ≤ maxLen ∧ (∀ k, (F k).l.length ≤ maxLen) ∧ (∀ R k, OkB w R (s k, by8 (F k).l)) ∧
      (∀ (bs : List AR) (e0 : Nat), (∀ k, k < n → bs[e0 + k]? = some (s k, by8 (F k).l)) → OkB w (plN bs) (.slice a n c, actCs F s e0 n)) ∧
      (∀ (bs : List AR) (i e0 : Nat), bs[i]? = some (.slice a n c, actCs F s e0 n) → (∀ k, k < n → bs[e0 + k]? = some (s k, by8 (F k).l)) → Acts9 (bs.map mkB2) (mkV2 i (.slice a n c)) ((List.range n).map F)) := by
  obtain ⟨fuel, h⟩ := h
  rcases ok_slice ht hok with ⟨rfl, rfl, rfl⟩ | ⟨b, o, rfl, hle, hlt⟩
  · exact ⟨fun _ => default, fun _ => .slice none 0 0, by unfold maxLen; omega, fun _ => by show ([] : List UInt8).length ≤ _; simp, fun R k => .inl rfl, fun bs e0 _ => .inl rfl, fun bs i e0 hi _ =>
      ⟨i, 0, .inl ⟨rfl, rfl⟩, by simp; exact (List.getElem?_eq_some_iff.1 hi).1, fun k hk => by simp at hk⟩⟩
  · rcases open_slice_fields ht he hone hC h with ⟨hcs, _⟩ | ⟨x, l, cap, m, D, Pl, hcs, _, hl, hm, hmm, _, hrow⟩
    · simp [Value.cells] at hcs
    · simp [Value.cells] at hcs
      obtain ⟨rfl, rfl, rfl⟩ := hcs
      rw [if_pos rfl] at hmm
      have key : ∀ k : Nat, ∃ q : Act9 × Value, q.1.l.length ≤ maxLen ∧ (∀ R, OkB w R (q.2, by8 q.1.l)) ∧ (∀ (bs : List AR) (i : Nat), bs[i]? = some (q.2, by8 q.1.l) → Byts (bs.map mkB2) (mkV2 i q.2) q.1.l) ∧
          (k < n → w.cell? ⟨b, o + (k * 4 + 0), none⟩ = some (.int .i64 q.1.kd) ∧ w.cell? ⟨b, o + (k * 4 + 1), none⟩ = some (.int .i64 q.1.n) ∧ w.cell? ⟨b, o + (k * 4 + 2), none⟩ = some (.int .i64 q.1.m) ∧ w.cell? ⟨b, o + (k * 4 + 3), none⟩ = some q.2) := fun k => by
        by_cases hk : k < n
        · obtain ⟨ys, nn, _, _, _, hf⟩ := hrow k (by omega)
          rw [hsz] at hf
          have fi : ∀ j, j < 3 → ∃ z : Int, w.cell? ⟨b, o + (k * 4 + j), none⟩ = some (.int .i64 z) := fun j hj => by
            have hfj : fs[j]? = some (fs[j]'(by omega)) := Array.getElem?_eq_getElem (by omega)
            obtain ⟨v, y, h1, _, h3⟩ := hf j _ hfj
            obtain ⟨z, hz, _⟩ := DataW.trod_int (hI j _ hj hfj) h3
            simp at hz
            subst hz
            rw [Addr.add_lit] at h1
            exact ⟨z, h1⟩
          obtain ⟨z0, g0'⟩ := fi 0 (by omega)
          obtain ⟨z1, g1'⟩ := fi 1 (by omega)
          obtain ⟨z2, g2'⟩ := fi 2 (by omega)
          have hf3 : fs[3]? = some (fs[3]'(by omega)) := Array.getElem?_eq_getElem (by omega)
          obtain ⟨v, y, h1, _, h3⟩ := hf 3 _ hf3
          rw [hS _ hf3] at h3
          rw [Addr.add_lit] at h1
          obtain ⟨l, l1, l2, l3⟩ := byts_sl hS1 hS2 hS3 h3
          exact ⟨(⟨z0, z1, z2, l⟩, v), l1, l2, l3, fun _ => ⟨g0', g1', g2', h1⟩⟩
        · exact ⟨(default, .slice none 0 0), by show ([] : List UInt8).length ≤ _; simp, fun R => .inl rfl, fun bs i hi => ⟨i, 0, .inl ⟨rfl, rfl⟩, by simp; exact (List.getElem?_eq_some_iff.1 hi).1, fun k hk => by simp [default, instInhabitedAct9] at hk⟩, fun h => absurd h hk⟩
      obtain ⟨G, hG⟩ := Classical.axiomOfChoice key
      refine ⟨fun k => (G k).1, fun k => (G k).2, by omega, fun k => (hG k).1, fun R k => (hG k).2.1 R, fun bs e0 hbs => ?_, fun bs i e0 hi hbs => ?_⟩
      · cases c with
        | zero =>
          obtain rfl : n = 0 := by omega
          exact .inr (.inl ⟨⟨b, o, none⟩, rfl⟩)
        | succ c =>
          refine .inr (.inr ⟨b, o, n, c, rfl, hle, hlt, fun j x hj => ?_⟩)
          have hjl := (List.getElem?_eq_some_iff.1 hj).1
          simp only [actCs_len] at hjl
          have hk : j / 4 < n := by omega
          have hj5 : j % 4 < 4 := Nat.mod_lt _ (by omega)
          have e : j = j / 4 * 4 + j % 4 := by omega
          generalize hkk : j / 4 = k at *
          generalize hqq : j % 4 = q at *
          subst e
          have hcells : ∃ v, ((G k).1.cells (mkV2 (e0 + k) (G k).2))[q]? = some v := ⟨_, List.getElem?_eq_getElem (by simpa [Act9.cells] using hj5)⟩
          obtain ⟨v, hv⟩ := hcells
          have hget := actCs_get (fun k => (G k).1) (fun k => (G k).2) e0 n k hk q v hv
          simp only at hj
          rw [hget] at hj
          injection hj with hj
          subst hj
          obtain ⟨c0, c1, c2, c4⟩ := (hG k).2.2.2 hk
          rcases cells4 _ _ _ _ hv with ⟨rfl, rfl⟩ | ⟨rfl, rfl⟩ | ⟨rfl, rfl⟩ | ⟨rfl, rfl⟩
          · exact ⟨_, c0, .int _ _⟩
          · exact ⟨_, c1, .int _ _⟩
          · exact ⟨_, c2, .int _ _⟩
          · exact ⟨_, c4, relN (hbs k hk) ((hG k).2.1 (fun _ => none))⟩
      · have hlen : i < (bs.map mkB2).length := by simp; exact (List.getElem?_eq_some_iff.1 hi).1
        refine ⟨i, 0, by simpa [mkV2] using Sl.mk (Nat.le_refl n), hlen, fun k hk => ?_⟩
        have hk' : k < n := by simpa using hk
        have eg : ((List.range n).map fun k => (G k).1).getD k default = (G k).1 := by simp [hk']
        rw [eg]
        refine ⟨mkV2 (e0 + k) (G k).2, ?_, (hG k).2.2.1 bs (e0 + k) (hbs k hk')⟩
        cases c with
        | zero => omega
        | succ c =>
          refine ⟨{ cells := actCs (fun k => (G k).1) (fun k => (G k).2) e0 n, kind := .ro }, by rw [List.getElem?_map, hi]; rfl, fun j v hj => ?_⟩
          rw [Nat.zero_add]
          exact actCs_get _ _ e0 n k hk' j v hj
end
end Go.Proofs.Ytabdnepfcohncaa.Abs
namespace Go.Proofs.Ytabdnepfcohncaa.Abs
set_option linter.unusedSimpArgs false
set_option linter.unusedVariables false
open Go.RowKit
open Go.Proofs.Ytabdnepfcohncaa.Sim
open Go.Proofs
theorem short_acts {F : Nat → Act9} {n : Nat} (hn : n ≤ maxLen) (h : ∀ k, (F k).l.length ≤ maxLen) : ((List.range n).map F).length ≤ 9223372036854775807 ∧ ∀ k, (((List.range n).map F).getD k default).l.length ≤ 9223372036854775807 := by
  unfold maxLen at hn h
  refine ⟨by simp; omega, fun k => ?_⟩
  by_cases hk : k < n
  · have := h k
    rw [show ((List.range n).map F).getD k default = F k by simp [hk]]
    omega
  · rw [show ((List.range n).map F).getD k default = default by simp [hk]]
    exact Nat.zero_le _
end Go.Proofs.Ytabdnepfcohncaa.Abs
