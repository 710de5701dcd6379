/- Proved here: what the proof of StockKept rests on, part 5 of 6. Conditions: those that each theorem names. -/
import Derived.Test.YtabdnepfcohncaaStockKeptK4
namespace Go.Proofs.Ytabdnepfcohncaa.Abs
set_option linter.unusedSimpArgs false
set_option linter.unusedVariables false
open Go.RowKit
open Go.Proofs.Ytabdnepfcohncaa.Sim
open Go.Proofs
theorem un96 : Try.prog.underlying 96 = some (.pointer 126) := by kernel_rfl
theorem LogAt.rd {M : AM} {lg dk : Nat} {L : Lg} {sv rv : Value} (h : LogAt M lg dk L sv rv) (T : AM) (j : Nat) (v : Value) (hv : (lgc (L.c.gen : Nat) sv rv dk (L.at_ : Nat) L.down)[j]? = some v) : Rd (M ++ T) lg j v := Rd.old T ⟨_, h.cells, hv⟩
theorem LogAt.lt {M : AM} {lg dk : Nat} {L : Lg} {sv rv : Value} (h : LogAt M lg dk L sv rv) : lg < M.length := (List.getElem?_eq_some_iff.1 h.cells).1
theorem LogAt.old {M : AM} {lg dk : Nat} {L : Lg} {sv rv : Value} (h : LogAt M lg dk L sv rv) (T : AM) : LogAt (M ++ T) lg dk L sv rv := h.msub (Sub.app M T).m
theorem LogAt.all {S : Nat → Prop} {M : AM} {lg dk : Nat} {L : Lg} {sv rv : Value} (h : LogAt (vw S M) lg dk L sv rv) : LogAt M lg dk L sv rv := h.msub (Sub.vw S M).m
set_option maxRecDepth 100000 in
theorem lnone_ok {m : AM} {lg dk : Nat} {L : Lg} {sv rv : Value} (h : LogAt m lg dk L sv rv) : ACall Try.prog 121 #[.pointer (some ⟨lg, 0, none⟩)] m (Ret (.bool false) m) := by
  have hll := h.lt
  have hlb := h.lb
  have r3 := fun T => h.rd T (0 + 3) _ rfl
  refine ACall.start Try.func121 rfl rfl ?_
  (repeat (first | (with_reducible refine AWo.cons ?_) | ((with_reducible refine Step.id ?_); first | ((with_reducible apply Step.gdT); exact rfl; exact rfl; (focus (rfl))) | ((with_reducible apply Step.move); exact rfl; exact rfl) | ((with_reducible apply Step.assign); exact rfl; exact rfl) | ((with_reducible apply Step.load); exact rfl; (focus (decide +kernel)); exact rfl; (focus (exact r3 _))) | ((with_reducible apply Step.field (k := 3)); exact rfl; (focus (decide +kernel)); exact rfl) | ((with_reducible apply Step.ptrNot); exact rfl; exact rfl; exact un36; exact rfl) | ((with_reducible apply Step.ptrNot); exact rfl; exact rfl; exact un96; exact rfl) | ((with_reducible apply Step.nilp); exact rfl; exact rfl) | ((with_reducible apply Step.pickF); exact rfl; exact rfl; exact rfl; exact rfl; (focus (rfl)))) | (with_reducible refine AWo.nil ?_) | ((with_reducible apply AW.seq)) | ((with_reducible apply Then.n)) | ((with_reducible apply AW.regL))))
  (refine AW.retD (l := [(2, _)]) (by repeat (first | exact trivial | (refine And.intro ⟨rfl, by (exact .bool _)⟩ ?_))) ?_; (repeat (first | refine Then.r ?_ | refine InBlk.r ?_)))
  exact ⟨_, rfl, by simp, rfl⟩
set_option maxRecDepth 100000 in
theorem Snap_ok {m : AM} {lg dk : Nat} {L : Lg} {sv rv : Value} (h : LogAt m lg dk L sv rv) (hl : L.c.snap.length ≤ 1000000000) : ACall Try.prog 56 #[.pointer (some ⟨lg, 0, none⟩)] m (More (fun M r => Row M m.length 1 r (by8 L.c.snap) L.c.snap.length) m) := by
  have hll := h.lt
  have hno := fun T => lnone_ok (h.old T)
  have r1 := fun T => h.rd T (0 + 1) _ rfl
  refine ACall.start Try.func56 rfl rfl ?_
  (repeat (first | (with_reducible refine AWo.cons ?_) | ((with_reducible refine Step.id ?_); first | ((with_reducible apply Step.move); exact rfl; exact rfl) | ((with_reducible apply Step.assign); exact rfl; exact rfl) | ((with_reducible apply Step.load); exact rfl; (focus (decide +kernel)); exact rfl; (focus (exact r1 _))) | ((with_reducible apply Step.field0); exact rfl; (focus (decide +kernel)); exact rfl) | ((with_reducible apply Step.field (k := 1)); exact rfl; (focus (decide +kernel)); exact rfl) | ((with_reducible apply Step.nilp); exact rfl; exact rfl) | ((with_reducible apply Step.callR fit); exact rfl; exact Try.func121; exact rfl; exact rfl; exact (hno _))) | (with_reducible refine AWo.nil ?_) | ((with_reducible apply AW.seq)) | ((with_reducible apply Then.n)) | ((with_reducible apply AW.regL)) | ((with_reducible apply AW.skip)) | ((with_reducible apply AW.condF); exact rfl; (focus (rfl)))))
  ((with_reducible apply Step.callX fit); exact rfl; exact Try.func73; exact rfl; exact rfl; (focus (rw [List.append_nil]; exact clone_ok (h.cont.snap.byts (by omega)) hl)))
  rintro u M1 ⟨N1, hN1⟩ hu
  rw [List.append_nil] at hN1
  (repeat (first | (with_reducible refine AWo.cons ?_) | ((with_reducible refine Step.id ?_); ((with_reducible apply Step.assign); exact rfl; exact rfl)) | (with_reducible refine AWo.nil ?_) | ((with_reducible apply Then.n))))
  (refine AW.ret ?_; (repeat (first | refine Then.r ?_ | refine InBlk.r ?_)))
  exact ⟨_, rfl, N1, by rw [List.append_nil]; exact hN1, by rw [List.append_nil]; exact hu⟩
theorem Seg.rd {M : AM} {b0 s : Nat} {u : Value} {c : List Value} {n : Nat} (h : Seg M b0 s u c n) (hM : 0 < M.length) : ∃ a o, Sl u a o n ∧ a < M.length ∧ ∀ (T : AM) (q : Nat) (v : Value), c[q]? = some v → Rd (M ++ T) a (o + q) v := by
  obtain ⟨a, o, h1, h2, h3⟩ := h.sl hM
  refine ⟨a, o, h1, h2, fun T q v hv => ?_⟩
  have hq := (List.getElem?_eq_some_iff.1 hv).1
  rw [h.len] at hq
  have hn : 0 < n := Nat.pos_of_ne_zero fun e => by rw [e, Nat.zero_mul] at hq; omega
  obtain ⟨b, q1, q2⟩ := h3 hn
  exact Rd.old T ⟨b, q1, q2 q v hv⟩
set_option maxHeartbeats 8000000 in
set_option maxRecDepth 100000 in
theorem Recs_ok {m : AM} {lg dk : Nat} {L : Lg} {sv rv : Value} (h : LogAt m lg dk L sv rv) (hn : L.c.recs.length ≤ 1000000000) (hl : ∀ p ∈ L.c.recs, p.length ≤ 1000000000) : ACall Try.prog 57 #[.pointer (some ⟨lg, 0, none⟩)] m (More (fun M r => Pays M m.length r L.c.recs) m) := by
  have hll := h.lt
  have hno := fun T => lnone_ok (h.old T)
  have r2 := fun T => h.rd T (0 + 2) _ rfl
  obtain ⟨pc, hseg, hel⟩ := h.cont.recs
  obtain ⟨ar, orr, hsl, har, hrd⟩ := hseg.rd (by omega)
  refine ACall.start Try.func57 rfl rfl ?_
  (repeat (first | (with_reducible refine AWo.cons ?_) | ((with_reducible refine Step.id ?_); first | ((with_reducible apply Step.move); exact rfl; exact rfl) | ((with_reducible apply Step.assign); exact rfl; exact rfl) | ((with_reducible apply Step.load); exact rfl; (focus (decide +kernel)); exact rfl; (focus (exact r2 _))) | ((with_reducible apply Step.field0); exact rfl; (focus (decide +kernel)); exact rfl) | ((with_reducible apply Step.field (k := 2)); exact rfl; (focus (decide +kernel)); exact rfl) | ((with_reducible apply Step.len); exact rfl; (focus (assumption)); (focus (decide +kernel)); exact rfl) | ((with_reducible apply Step.nilp); exact rfl; exact rfl) | ((with_reducible apply Step.callR fit); exact rfl; exact Try.func121; exact rfl; exact rfl; exact (hno _))) | (with_reducible refine AWo.nil ?_) | ((with_reducible apply AW.seq)) | ((with_reducible apply Then.n)) | ((with_reducible apply AW.regL)) | ((with_reducible apply AW.block)) | ((with_reducible apply AW.skip)) | ((with_reducible apply AW.condF); exact rfl; (focus (rfl)))))
  refine AW.midX 0 (fun t' M => ∃ pv, Pays M m.length pv L.c.recs ∧ (∃ N, M = m ++ N) ∧ All (fun i v => t' i = some v) [(3, pv)]) ?_ ?_
  · refine AW.loopW (fun q t M => ∃ (k : Nat) (pv : Value), q = L.c.recs.length - k ∧ k ≤ L.c.recs.length ∧ Pays M m.length pv (L.c.recs.take k) ∧ (∃ N, M = m ++ N) ∧
      t = fr [(3, pv), (12, rv), (13, .int .i64 (L.c.recs.length : Nat)), (14, .int .i64 (k : Nat))]) ⟨_, _, (by repeat (first | exact trivial | (refine And.intro rfl ?_))), 0, .slice none 0 0, rfl, Nat.zero_le _, .nil, ⟨[], by simp⟩, rfl⟩ ?_
    rintro q t M ⟨k, pv, rfl, hk, ⟨pv', hpr, hpe⟩, ⟨N, rfl⟩, rfl⟩
    refine AW.rebase ?_
    rcases Nat.lt_or_ge k L.c.recs.length with hlt | hge
    · obtain ⟨uk, w1, w2, w3⟩ := hel k hlt
      have rk : ∀ T, Rd (m ++ N ++ T) ar (orr + k) uk := fun T => by rw [List.append_assoc]; exact hrd _ k uk w1
      have hsn2 : L.c.recs.take (k + 1) = L.c.recs.take k ++ [L.c.recs.getD k []] := by rw [List.take_succ_eq_append_getElem hlt]; simp [hlt]
      have hpl := hl (L.c.recs.getD k []) (by rw [List.getD_eq_getElem?_getD, List.getElem?_eq_getElem hlt]; exact List.getElem_mem hlt)
      have htl : (L.c.recs.take k).length = k := by rw [List.length_take]; omega
      generalize L.c.recs.getD k [] = p at *
      obtain ⟨X, hX⟩ : ∃ X : AM, X = m ++ N := ⟨_, rfl⟩
      have hXl : m.length ≤ X.length := by rw [hX, List.length_append]; omega
      have hcl := clone_ok (m := X) (by rw [hX]; exact (w2.old N).byts (by rw [List.length_append]; omega)) hpl
      rw [← hX] at hpr hpe rk ⊢
      (repeat (first | (with_reducible refine AWo.cons ?_) | ((with_reducible refine Step.id ?_); first | ((with_reducible apply Step.move); exact rfl; exact rfl) | ((with_reducible apply Step.assign); exact rfl; exact rfl) | ((with_reducible apply Step.load); exact rfl; (focus (decide +kernel)); exact rfl; (focus (exact rk _))) | ((with_reducible apply Step.ix1); exact rfl; (focus (assumption)); exact rfl; (focus (decide +kernel)); exact rfl; (focus (omega))) | ((with_reducible apply Step.lss); exact rfl; exact rfl; exact rfl)) | (with_reducible refine AWo.nil ?_) | ((with_reducible apply AW.seq)) | ((with_reducible apply Then.n)) | ((with_reducible apply AW.regL)) | ((with_reducible apply AW.block)) | ((with_reducible apply AW.skip)) | ((with_reducible apply AW.condT); exact rfl; (focus ((simp only [decide_eq_true_eq, decide_eq_false_iff_not, Bool.not_eq_true', Bool.not_eq_false', Bool.not_true, Bool.not_false]; first | assumption | omega))))))
      ((with_reducible apply Step.callX fit); exact rfl; exact Try.func73; exact rfl; exact rfl; (focus (rw [List.append_nil]; exact hcl)))
      rintro u M1 ⟨N1, hN1⟩ hu
      rw [List.append_nil] at hN1
      have hus : SlV u := hu.slv
      have hM1l : X.length ≤ M1.length := by rw [hN1, List.length_append]; omega
      (repeat (first | (with_reducible refine AWo.cons ?_) | ((with_reducible refine Step.id ?_); ((with_reducible apply Step.buildS 0); exact rfl; exact rfl; exact (fun _ _ => bs27); exact rfl; (focus (first | (simp only [List.nil_append, List.cons_append, List.set_cons_zero, List.set_cons_succ, iv_set, bv_set, iv_rep, bv_rep]; done) | (simp only [List.nil_append, List.cons_append, List.set_cons_zero, List.set_cons_succ, iv_set, bv_set, iv_rep, bv_rep]; rfl) | rfl))))))
      ((with_reducible apply Step.appRow2 (s := 1) (n := (L.c.recs.take k).length) (xl := 1) (b0 := m.length) (c := pv') (new := [u])); exact rfl; exact rfl; (focus (rw [hN1]; exact (hpr.old N1).old _)); exact (Sl.mk (Nat.le_refl _)); exact (fun _ => RdL.new rfl rfl); exact el27; exact un27; exact rfl; (focus (rw [List.all_cons, hus.one.1]; rfl)); exact rfl; (focus (omega)); exact rfl; (focus (rw [List.length_append]; omega)))
      intro pv2 M2 hr2 hml2 hk2 hn2
      rw [List.length_append] at hml2
      have hp2 := Pays.push (p := p) hpr hpe ⟨N1 ++ [some { cells := [u] }], by rw [hN1, List.append_assoc]⟩ (hu.old [some { cells := [u] }]) hXl hr2 hk2 hn2
      obtain ⟨N2, hN2⟩ := pre_keep (m0 := m) (M := M1 ++ [some { cells := [u] }]) ⟨N ++ (N1 ++ [some { cells := [u] }]), by rw [hN1, hX]; simp⟩ (by rw [List.length_append]; exact hml2) fun j hj => hk2 j (by rw [List.length_append]; omega) (NotOf.row hpr hj)
      (repeat (first | (with_reducible refine AWo.cons ?_) | ((with_reducible refine Step.id ?_); first | ((with_reducible apply Step.move); exact rfl; exact rfl) | ((with_reducible apply Step.assign); exact rfl; exact rfl) | ((with_reducible apply Step.add); exact rfl; exact rfl; (focus (omega)); exact rfl)) | (with_reducible refine AWo.nil ?_) | ((with_reducible apply Then.n)) | ((with_reducible apply AW.regL)) | ((with_reducible apply InBlk.n))))
      exact ⟨_, [(3, pv2), (12, rv), (13, .int .i64 (L.c.recs.length : Nat)), (14, .int .i64 (k + 1 : Nat))], by omega, (by repeat (first | exact trivial | (refine And.intro rfl ?_))), k + 1, pv2, rfl, by omega, by rw [hsn2]; exact hp2, ⟨N2, hN2⟩, rfl⟩
    · obtain rfl : k = L.c.recs.length := by omega
      rw [List.take_of_length_le (Nat.le_refl _)] at hpr hpe
      (repeat (first | (with_reducible refine AWo.cons ?_) | ((with_reducible refine Step.id ?_); ((with_reducible apply Step.lss); exact rfl; exact rfl; exact rfl)) | (with_reducible refine AWo.nil ?_) | ((with_reducible apply AW.seq)) | ((with_reducible apply Then.n)) | ((with_reducible apply AW.regL)) | ((with_reducible apply AW.exit)) | ((with_reducible apply Then.e)) | ((with_reducible apply AW.condF); exact rfl; (focus ((simp only [decide_eq_true_eq, decide_eq_false_iff_not, Bool.not_eq_true', Bool.not_eq_false', Bool.not_true, Bool.not_false]; first | assumption | omega))))))
      exact ⟨rfl, pv, by rw [List.append_nil]; exact ⟨pv', hpr, hpe⟩, ⟨N, by simp⟩, (by repeat (first | exact trivial | (refine And.intro rfl ?_)))⟩
  · rintro t' M ⟨pv, hp, ⟨N, rfl⟩, hsl⟩
    refine InBlk.hit ?_
    refine Then.n ?_
    refine AW.weak (fr_all hsl) ?_
    clear hsl
    refine AW.rebase ?_
    (repeat (first | (with_reducible refine AWo.cons ?_) | ((with_reducible refine Step.id ?_); first | ((with_reducible apply Step.move); exact rfl; exact rfl) | ((with_reducible apply Step.assign); exact rfl; exact rfl)) | (with_reducible refine AWo.nil ?_) | ((with_reducible apply AW.seq)) | ((with_reducible apply Then.n)) | ((with_reducible apply AW.regL))))
    (refine AW.ret ?_; (repeat (first | refine Then.r ?_ | refine InBlk.r ?_)))
    exact ⟨_, rfl, N, by rw [List.append_nil], by rw [List.append_nil]; exact hp⟩
def rdyF (L : Lg) (p : List UInt8) : Int := if L.down = true then 9 else if 65536 < p.length then 3 else 0
set_option maxRecDepth 100000 in
theorem ready_ok {m : AM} {lg dk : Nat} {L : Lg} {sv rv w : Value} {p : List UInt8} (h : LogAt m lg dk L sv rv) (hp : Byts m w p) : ACall Try.prog 119 #[.pointer (some ⟨lg, 0, none⟩), w] m (Ret (.int .i64 (rdyF L p)) m) := by
  have hll := h.lt
  have hno := fun T => lnone_ok (h.old T)
  have r5 := fun T => h.rd T (0 + 5) _ rfl
  obtain ⟨a, o, hs, _, _⟩ := hp
  refine ACall.start Try.func119 rfl rfl ?_
  unfold rdyF
  cases hd : L.down with
  | true =>
    rw [hd] at r5
    (repeat (first | (with_reducible refine AWo.cons ?_) | ((with_reducible refine Step.id ?_); first | ((with_reducible apply Step.move); exact rfl; exact rfl) | ((with_reducible apply Step.assign); exact rfl; exact rfl) | ((with_reducible apply Step.load); exact rfl; (focus (decide +kernel)); exact rfl; (focus (exact r5 _))) | ((with_reducible apply Step.field (k := 5)); exact rfl; (focus (decide +kernel)); exact rfl) | ((with_reducible apply Step.nilp); exact rfl; exact rfl) | ((with_reducible apply Step.callR fit); exact rfl; exact Try.func121; exact rfl; exact rfl; exact (hno _))) | (with_reducible refine AWo.nil ?_) | ((with_reducible apply AW.seq)) | ((with_reducible apply Then.n)) | ((with_reducible apply AW.regL)) | ((with_reducible apply AW.block)) | ((with_reducible apply AW.condT); exact rfl; (focus (rfl))) | ((with_reducible apply AW.condF); exact rfl; (focus (rfl)))))
    (refine AW.retD (l := [(4, _)]) (by repeat (first | exact trivial | (refine And.intro ⟨rfl, by (exact .int _ _)⟩ ?_))) ?_; (repeat (first | refine Then.r ?_ | refine InBlk.r ?_)))
    exact ⟨_, rfl, rfl, rfl⟩
  | false =>
    rw [hd] at r5
    rw [if_neg (by simp)]
    by_cases c : 65536 < p.length
    · rw [if_pos c]
      (repeat (first | (with_reducible refine AWo.cons ?_) | ((with_reducible refine Step.id ?_); first | ((with_reducible apply Step.move); exact rfl; exact rfl) | ((with_reducible apply Step.assign); exact rfl; exact rfl) | ((with_reducible apply Step.load); exact rfl; (focus (decide +kernel)); exact rfl; (focus (exact r5 _))) | ((with_reducible apply Step.field (k := 5)); exact rfl; (focus (decide +kernel)); exact rfl) | ((with_reducible apply Step.gtr); exact rfl; exact rfl; exact rfl) | ((with_reducible apply Step.len); exact rfl; (focus (assumption)); (focus (decide +kernel)); exact rfl) | ((with_reducible apply Step.nilp); exact rfl; exact rfl) | ((with_reducible apply Step.callR fit); exact rfl; exact Try.func121; exact rfl; exact rfl; exact (hno _))) | (with_reducible refine AWo.nil ?_) | ((with_reducible apply AW.seq)) | ((with_reducible apply Then.n)) | ((with_reducible apply AW.regL)) | ((with_reducible apply AW.block)) | ((with_reducible apply AW.condT); exact rfl; (focus ((simp only [decide_eq_true_eq, decide_eq_false_iff_not, Bool.not_eq_true', Bool.not_eq_false', Bool.not_true, Bool.not_false]; first | assumption | omega)))) | ((with_reducible apply AW.condF); exact rfl; (focus (rfl)))))
      (refine AW.retD (l := [(4, _)]) (by repeat (first | exact trivial | (refine And.intro ⟨rfl, by (exact .int _ _)⟩ ?_))) ?_; (repeat (first | refine Then.r ?_ | refine InBlk.r ?_)))
      exact ⟨_, rfl, rfl, rfl⟩
    · rw [if_neg c]
      (repeat (first | (with_reducible refine AWo.cons ?_) | ((with_reducible refine Step.id ?_); first | ((with_reducible apply Step.move); exact rfl; exact rfl) | ((with_reducible apply Step.assign); exact rfl; exact rfl) | ((with_reducible apply Step.load); exact rfl; (focus (decide +kernel)); exact rfl; (focus (exact r5 _))) | ((with_reducible apply Step.field (k := 5)); exact rfl; (focus (decide +kernel)); exact rfl) | ((with_reducible apply Step.gtr); exact rfl; exact rfl; exact rfl) | ((with_reducible apply Step.len); exact rfl; (focus (assumption)); (focus (decide +kernel)); exact rfl) | ((with_reducible apply Step.nilp); exact rfl; exact rfl) | ((with_reducible apply Step.callR fit); exact rfl; exact Try.func121; exact rfl; exact rfl; exact (hno _))) | (with_reducible refine AWo.nil ?_) | ((with_reducible apply AW.seq)) | ((with_reducible apply Then.n)) | ((with_reducible apply AW.regL)) | ((with_reducible apply AW.block)) | ((with_reducible apply InBlk.n)) | ((with_reducible apply AW.skip)) | ((with_reducible apply AW.condF); exact rfl; (focus (first | rfl | (simp only [decide_eq_true_eq, decide_eq_false_iff_not, Bool.not_eq_true', Bool.not_eq_false', Bool.not_true, Bool.not_false]; first | assumption | omega))))))
      (refine AW.retD (l := [(4, _)]) (by repeat (first | exact trivial | (refine And.intro ⟨rfl, by (exact .int _ _)⟩ ?_))) ?_; (repeat (first | refine Then.r ?_ | refine InBlk.r ?_)))
      exact ⟨_, rfl, rfl, rfl⟩
def metF (L : Lg) (e : Int) : Lg := { L with down := L.down || decide (e = 14) }
set_option maxRecDepth 100000 in
theorem met_ok {m : AM} {lg dk : Nat} {L : Lg} {sv rv : Value} (e : Int) (h : LogAt m lg dk L sv rv) : ACall Try.prog 120 #[.pointer (some ⟨lg, 0, none⟩), .int .i64 e] m (fun r M => r = .int .i64 e ∧ M = m.set lg (some { cells := lgc (L.c.gen : Nat) sv rv dk (L.at_ : Nat) (metF L e).down })) := by
  have hll := h.lt
  have r5 := fun T => h.rd T (0 + 5) _ rfl
  refine ACall.start Try.func120 rfl rfl ?_
  unfold metF
  cases hd : L.down with
  | true =>
    rw [hd] at r5
    (repeat (first | (with_reducible refine AWo.cons ?_) | ((with_reducible refine Step.id ?_); first | ((with_reducible apply Step.gdF); exact rfl; exact rfl; (focus (rfl))) | ((with_reducible apply Step.move); exact rfl; exact rfl) | ((with_reducible apply Step.assign); exact rfl; exact rfl) | ((with_reducible apply Step.load); exact rfl; (focus (decide +kernel)); exact rfl; (focus (exact r5 _))) | ((with_reducible apply Step.field (k := 5)); exact rfl; (focus (decide +kernel)); exact rfl) | ((with_reducible apply Step.nilp); exact rfl; exact rfl) | ((with_reducible apply Step.pickT); exact rfl; exact rfl; exact rfl; exact rfl; (focus (rfl)))) | (with_reducible refine AWo.nil ?_) | ((with_reducible apply AW.seq)) | ((with_reducible apply Then.n)) | ((with_reducible apply AW.regL))))
    ((with_reducible apply Step.storeAt); exact rfl; exact rfl; exact (get_old [] h.cells); exact sz4d; exact rfl; (focus (show 0 + 5 < 6; omega)); exact rfl; exact rfl)
    (repeat (first | (with_reducible refine AWo.cons ?_) | ((with_reducible refine Step.id ?_); first | ((with_reducible apply Step.move); exact rfl; exact rfl) | ((with_reducible apply Step.assign); exact rfl; exact rfl)) | (with_reducible refine AWo.nil ?_) | ((with_reducible apply AW.seq)) | ((with_reducible apply Then.n)) | ((with_reducible apply AW.regL))))
    (refine AW.ret ?_; (repeat (first | refine Then.r ?_ | refine InBlk.r ?_)))
    rw [List.append_nil]
    exact ⟨_, rfl, rfl, rfl⟩
  | false =>
    rw [hd] at r5
    (repeat (first | (with_reducible refine AWo.cons ?_) | ((with_reducible refine Step.id ?_); first | ((with_reducible apply Step.gdT); exact rfl; exact rfl; (focus (rfl))) | ((with_reducible apply Step.move); exact rfl; exact rfl) | ((with_reducible apply Step.assign); exact rfl; exact rfl) | ((with_reducible apply Step.load); exact rfl; (focus (decide +kernel)); exact rfl; (focus (exact r5 _))) | ((with_reducible apply Step.field (k := 5)); exact rfl; (focus (decide +kernel)); exact rfl) | ((with_reducible apply Step.eql); exact rfl; exact rfl; exact rfl) | ((with_reducible apply Step.nilp); exact rfl; exact rfl) | ((with_reducible apply Step.pickF); exact rfl; exact rfl; exact rfl; exact rfl; (focus (rfl)))) | (with_reducible refine AWo.nil ?_) | ((with_reducible apply AW.seq)) | ((with_reducible apply Then.n)) | ((with_reducible apply AW.regL))))
    ((with_reducible apply Step.storeAt); exact rfl; exact rfl; exact (get_old [] h.cells); exact sz4d; exact rfl; (focus (show 0 + 5 < 6; omega)); exact rfl; exact rfl)
    (repeat (first | (with_reducible refine AWo.cons ?_) | ((with_reducible refine Step.id ?_); first | ((with_reducible apply Step.move); exact rfl; exact rfl) | ((with_reducible apply Step.assign); exact rfl; exact rfl)) | (with_reducible refine AWo.nil ?_) | ((with_reducible apply AW.seq)) | ((with_reducible apply Then.n)) | ((with_reducible apply AW.regL))))
    (refine AW.ret ?_; (repeat (first | refine Then.r ?_ | refine InBlk.r ?_)))
    rw [List.append_nil]
    exact ⟨_, rfl, rfl, rfl⟩
end Go.Proofs.Ytabdnepfcohncaa.Abs
namespace Go.Proofs.Ytabdnepfcohncaa.Abs
set_option linter.unusedSimpArgs false
set_option linter.unusedVariables false
open Go.RowKit
open Go.Proofs.Ytabdnepfcohncaa.Sim
open Go.Proofs
def addF (D : Dk) (L : Lg) (p : List UInt8) : Int × Dk × Lg :=
  if rdyF L p ≠ 0 then (rdyF L p, D, L)
  else if (apF D (L.at_ : Nat) (frB p)).1 ≠ 0 then ((apF D (L.at_ : Nat) (frB p)).1, (apF D (L.at_ : Nat) (frB p)).2, metF L (apF D (L.at_ : Nat) (frB p)).1)
  else if (syF (apF D (L.at_ : Nat) (frB p)).2 (L.at_ : Nat)).1 ≠ 0 then ((syF (apF D (L.at_ : Nat) (frB p)).2 (L.at_ : Nat)).1, (syF (apF D (L.at_ : Nat) (frB p)).2 (L.at_ : Nat)).2, metF L (syF (apF D (L.at_ : Nat) (frB p)).2 (L.at_ : Nat)).1)
  else (0, (syF (apF D (L.at_ : Nat) (frB p)).2 (L.at_ : Nat)).2, ⟨⟨L.c.gen, L.c.snap, L.c.recs ++ [p]⟩, L.at_, L.down⟩)
/-- What a call on a log leaves: the disk, the log, both in blocks of their own. -/
def DLQ (D' : Dk) (L' : Lg) (b0 dk lg : Nat) (u0 u1 : Value) (S : Nat → Prop) (m M : AM) : Prop :=
  ∃ (w0 w1 sv rv : Value) (S' : Nat → Prop), DiskAt M b0 dk D' w0 w1 ∧ LogAt (vw S' M) lg dk L' sv rv ∧ (∀ j, S' j → ¬ dkD dk w0 w1 j) ∧ (∀ j, S' j → S j ∨ m.length ≤ j) ∧ Keep (fun j => dkD dk u0 u1 j ∨ S j) m M ∧ ∀ j, j < m.length → ¬ dkD dk u0 u1 j → ¬ dkD dk w0 w1 j
theorem LogAt.disk {S : Nat → Prop} {m M : AM} {lg dk : Nat} {u0 u1 : Value} {L : Lg} {sv rv : Value} (h : LogAt (vw S m) lg dk L sv rv) (hS : ∀ j, dkD dk u0 u1 j → ¬ S j) (hk : Keep (dkD dk u0 u1) m M) : LogAt (vw (fun j => S j ∧ j < m.length) M) lg dk L sv rv := by
  refine h.msub ⟨by rw [vw_len, vw_len]; exact hk.len, fun j b _ hj => ?_⟩
  obtain ⟨q1, q2⟩ := vw_some.1 hj
  have hl := (List.getElem?_eq_some_iff.1 q2).1
  exact vw_some.2 ⟨⟨q1, hl⟩, by rw [hk.get j hl fun e => hS j e q1]; exact q2⟩
/-- The disk's part of such a call is done; the log is as it was. -/
theorem DLQ.of {S : Nat → Prop} {m M : AM} {b0 lg dk : Nat} {u0 u1 : Value} {D' : Dk} {L : Lg} {sv rv : Value} (h : LogAt (vw S m) lg dk L sv rv) (hS : ∀ j, dkD dk u0 u1 j → ¬ S j) (hq : DkQ D' b0 dk u0 u1 m M) : DLQ D' L b0 dk lg u0 u1 S m M := by
  obtain ⟨w0, w1, a1, a2, a3⟩ := hq
  exact ⟨w0, w1, sv, rv, _, a1, h.disk hS a2, fun j hj => a3 j hj.2 fun e => hS j e hj.1, fun j hj => .inl hj.1, a2.mono fun _ e => .inl e, a3⟩
/-- The log remembers an error. -/
theorem DLQ.met {S : Nat → Prop} {m M : AM} {b0 lg dk : Nat} {u0 u1 : Value} {D' : Dk} {L : Lg} {sv rv : Value} (e : Int) (h : LogAt (vw S m) lg dk L sv rv) (hS : ∀ j, dkD dk u0 u1 j → ¬ S j) (hq : DkQ D' b0 dk u0 u1 m M) :
    LogAt M lg dk L sv rv ∧ DLQ D' (metF L e) b0 dk lg u0 u1 S m (M.set lg (some { cells := lgc (L.c.gen : Nat) sv rv dk (L.at_ : Nat) (metF L e).down })) := by
  obtain ⟨w0, w1, a1, a2, a3⟩ := hq
  have hL := h.disk hS a2
  have hlg := vw_some.1 hL.cells
  have hll := (List.getElem?_eq_some_iff.1 hlg.2).1
  have hnd : ¬ dkD dk w0 w1 lg := a3 lg hlg.1.2 fun e => hS lg e hlg.1.1
  refine ⟨hL.all, w0, w1, sv, rv, fun j => S j ∧ j < m.length, ?_, ⟨vw_some.2 ⟨hlg.1, List.getElem?_set_self hll⟩, ?_, by rw [vw_len, List.length_set]; have := hL.lb; rw [vw_len] at this; exact this, hL.a2⟩, fun j hj => a3 j hj.2 fun e => hS j e hj.1, fun j hj => .inl hj.1, ⟨by rw [List.length_set]; exact a2.len, fun j hj hn => ?_⟩, a3⟩
  · exact a1.keep fun j b hb hj _ => by rw [List.getElem?_set_ne (fun e => hnd (by rw [e]; exact hj))]; exact hb
  · refine hL.cont.keep fun j b hb hj _ => ?_
    obtain ⟨q1, q2⟩ := vw_some.1 hb
    exact vw_some.2 ⟨q1, by rw [List.getElem?_set_ne (by omega)]; exact q2⟩
  · have hne : j ≠ lg := fun e => hn (.inr (by rw [e]; exact hlg.1.1))
    rw [List.getElem?_set_ne (Ne.symm hne), a2.get j hj fun e => hn (.inl e)]
/-- One more record. -/
theorem PaysS.push {S : Nat → Prop} {X M1 M3 : AM} {b1 : Nat} {rv rv' u : Value} {pc : List Value} {ps : List (List UInt8)} {p : List UInt8} (hseg : Seg (vw S X) b1 1 rv pc ps.length) (hel : ∀ k, k < ps.length → ∃ u, pc[k]? = some u ∧ Row (vw S X) b1 1 u (by8 (ps.getD k [])) (ps.getD k []).length ∧ ∀ j, ¬ NotOf u j → NotB rv j)
    (h1 : ∃ N, M1 = X ++ N) (hu : Row M1 X.length 1 u (by8 p) p.length) (hb : b1 ≤ X.length) (hr : Row M3 b1 1 rv' (pc ++ [u]) (ps.length + 1)) (hl : M1.length ≤ M3.length) (hk : ∀ j, j < M1.length → NotB rv j → M3[j]? = M1[j]?) (hn : ∀ j, j < M1.length → NotOf rv' j) :
    PaysS (vw (fun j => S j ∧ j < X.length ∨ X.length ≤ j) M3) b1 rv' (ps ++ [p]) := by
  obtain ⟨N, rfl⟩ := h1
  have hpcl := hseg.len
  rw [Nat.mul_one] at hpcl
  have hrvX : ∀ j, ¬ NotB rv j → j < X.length := fun j hj => by
    obtain ⟨_, b, hb, _⟩ := hseg.at_ hj
    have := (List.getElem?_eq_some_iff.1 hb).1
    rwa [vw_len] at this
  have hN : ∀ j, j < (X ++ N).length → NotB rv' j := fun j hj => NotB.row hr (hn j hj)
  have hfar : ∀ j, ¬ NotOf u j → NotB rv j := fun j hj => Classical.byContradiction fun hc => by
    have := hu.ge_of hj
    have := hrvX j hc
    omega
  refine ⟨pc ++ [u], ?_, fun k hlt => ?_⟩
  · rw [List.length_append]
    refine Row.seg (Row.vw2 hr fun a ha => ?_)
    rcases Nat.lt_or_ge a (X ++ N).length with h | h
    · exact absurd (hn a h) ha
    · exact .inr (by rw [List.length_append] at h; omega)
  · rw [List.length_append, List.length_singleton] at hlt
    by_cases e : k < ps.length
    · obtain ⟨x, q1, q2, q3⟩ := hel k e
      have eg : (ps ++ [p]).getD k [] = ps.getD k [] := by simp only [List.getD_eq_getElem?_getD]; rw [List.getElem?_append_left e]
      rw [eg]
      refine ⟨x, by rw [List.getElem?_append_left (by omega)]; exact q1, ?_, fun j hj => hN j ?_⟩
      · rcases q2 with q2 | ⟨a, kd, sz, w1, w2, w3, w4, w5⟩
        · exact .inl q2
        · obtain ⟨z1, z2⟩ := vw_some.1 w3
          have hal := (List.getElem?_eq_some_iff.1 z2).1
          refine .inr ⟨a, kd, sz, w1, w2, vw_some.2 ⟨.inl ⟨z1, hal⟩, ?_⟩, w4, w5⟩
          rw [hk a (by rw [List.length_append]; omega) (q3 a fun hn => hn _ _ w2), List.getElem?_append_left hal]
          exact z2
      · have := q2.lt_of hj
        rw [vw_len] at this
        rw [List.length_append]; omega
    · obtain rfl : k = ps.length := by omega
      have eg : (ps ++ [p]).getD ps.length [] = p := by simp
      rw [eg]
      refine ⟨u, by rw [← hpcl, List.getElem?_append_right (Nat.le_refl _), Nat.sub_self]; rfl, ?_, fun j hj => hN j (hu.lt_of hj)⟩
      refine Row.vw2 ((hu.low hb).keep fun j hj hnj => hk j hj (hfar j hnj)) fun a ha => .inr (hu.ge_of ha)
set_option maxHeartbeats 16000000 in
set_option maxRecDepth 100000 in
theorem Add_ok {m : AM} {S : Nat → Prop} {b0 dk lg : Nat} {D : Dk} {u0 u1 sv rv w : Value} {L : Lg} {p : List UInt8} (hD : DiskAt m b0 dk D u0 u1) (hb0 : b0 ≤ m.length) (hL : LogAt (vw S m) lg dk L sv rv) (hS : ∀ j, dkD dk u0 u1 j → ¬ S j) (hw : ∀ M, Keep (fun j => dkD dk u0 u1 j ∨ S j) m M → Byts M w p) (hlen : p.length ≤ 1000000) (hcnt : L.c.recs.length ≤ 1000000) :
    ACall Try.prog 51 #[.pointer (some ⟨lg, 0, none⟩), w] m (fun r M => r = .int .i64 (addF D L p).1 ∧ DLQ (addF D L p).2.1 (addF D L p).2.2 b0 dk lg u0 u1 S m M) := by
  have hL0 := hL.all
  have hll := hL0.lt
  have hdl := hD.lt
  have hrd := fun T => ready_ok (hL0.old T) ((hw m (Keep.refl _ _)).old T)
  refine ACall.start Try.func51 rfl rfl ?_
  unfold addF
  by_cases z0 : rdyF L p = 0
  · rw [if_neg (fun e => e z0)]
    rw [z0] at hrd
    have hpl : p.length ≤ 65536 := by
      unfold rdyF at z0
      split at z0
      · cases z0
      · split at z0
        · cases z0
        · omega
    have r3 := fun (N : AM) T => (hL0.old N).rd T (0 + 3) _ rfl
    have r4 := fun (N : AM) T => (hL0.old N).rd T (0 + 4) _ rfl
    (repeat (first | (with_reducible refine AWo.cons ?_) | ((with_reducible refine Step.id ?_); first | ((with_reducible apply Step.move); exact rfl; exact rfl) | ((with_reducible apply Step.assign); exact rfl; exact rfl) | ((with_reducible apply Step.neq); exact rfl; exact rfl; exact rfl) | ((with_reducible apply Step.callR fit); exact rfl; exact Try.func119; exact rfl; exact rfl; exact (hrd _))) | (with_reducible refine AWo.nil ?_) | ((fail_if_success (with_reducible refine AW.atR (id := 4) ?_)); ((with_reducible apply AW.seq))) | ((with_reducible apply Then.n)) | ((with_reducible apply AW.regL)) | ((with_reducible apply AW.skip)) | ((with_reducible apply AW.condF); exact rfl; (focus (rfl)))))
    refine AW.seq ?_
    refine AW.join (fun t' M' => DkQ (apF D (L.at_ : Nat) (frB p)).2 b0 dk u0 u1 m M' ∧ All (fun i v => t' i = some v) [(0, .pointer (some ⟨lg, 0, none⟩)), (1, w), (6, .int .i64 (apF D (L.at_ : Nat) (frB p)).1)]) ?_ ?_
    · have q3 := r3 []
      have q4 := r4 []
      rw [List.append_nil] at q3 q4
      (repeat' (first | ((with_reducible refine Step.id ?_); first | ((with_reducible apply Step.move); exact rfl; exact rfl) | ((with_reducible apply Step.load); exact rfl; (focus (decide +kernel)); exact rfl; (focus (first | exact q3 _ | exact q4 _))) | ((with_reducible apply Step.field (k := 3)); exact rfl; (focus (decide +kernel)); exact rfl) | ((with_reducible apply Step.field (k := 4)); exact rfl; (focus (decide +kernel)); exact rfl) | ((with_reducible apply Step.nilp); exact rfl; exact rfl)) | ((with_reducible apply AW.drawT fit (T := (.step 0 (.step 1 (.step 2 (.step 4 (.step 5 (.step 6 (.step 8 (.both (.step 3 (.both (.step 7 (.step 9 (.step 10 (.step 11 .done)))) (.step 9 (.step 7 (.step 10 (.step 11 .done)))))) (.both (.step 7 (.both (.step 3 (.step 9 (.step 10 (.step 11 .done)))) (.step 9 (.step 3 (.step 10 (.step 11 .done)))))) (.step 9 (.step 3 (.step 7 (.step 10 (.step 11 .done)))))))))))))))); (focus (decide +kernel))) | ((with_reducible apply AWt.step); exact rfl) | refine AWt.both ?_ ?_))
      all_goals
        ((with_reducible apply Step.callF fit); exact rfl; exact Try.func70; exact rfl; exact rfl; (focus (rw [List.append_nil]; exact frame_ok (b0 := m.length) (b := []) (p := p) Row.nil (Nat.le_refl _) (fun M r h => hw M ⟨h.1, fun j hj _ => h.2.1 j hj NotOf.nil⟩) (by simp; omega))))
        rintro r1 M1 ⟨hr1, ha1⟩
        rw [List.nil_append] at hr1
        obtain ⟨N1, hN1⟩ := Add.grow (M1 := m) ⟨[], by simp⟩ (Row.nil (s := 1)) ha1
        have q31 := r3 N1
        have q41 := r4 N1
        rw [← hN1] at q31 q41
        have hD1 : DiskAt M1 b0 dk D u0 u1 := by rw [hN1]; exact hD.old _
        rw [← List.append_nil M1]
        (repeat' (first | ((with_reducible refine Step.id ?_); ((with_reducible apply Step.load); exact rfl; (focus (decide +kernel)); exact rfl; (focus (first | exact q31 _ | exact q41 _)))) | ((with_reducible apply AWt.step); exact rfl)))
        all_goals
          ((with_reducible apply Step.callF fit); exact rfl; exact Try.func48; exact rfl; exact rfl; (focus (rw [List.append_nil]; exact DAppend_ok (p := frB p) (L.at_ : Nat) hD1 (by rw [hN1, List.length_append]; omega) (fun M' hk => (Row.keep hr1 fun j hj hn => hk.get j hj (fun e => by have := hr1.ge_of hn; omega)).byts (by have := hk.len; have := ha1.1; omega)) (by rw [frB_len]; omega))))
          rintro r7 M7 ⟨rfl, hQ7⟩
          rw [← List.append_nil M7]
          (repeat' (first | ((with_reducible refine Step.id ?_); ((with_reducible apply Step.assign); exact rfl; exact rfl)) | ((with_reducible apply Then.n)) | ((with_reducible apply AWt.step); exact rfl) | ((with_reducible apply AWt.done))))
          exact ⟨by rw [List.append_nil]; exact DkQ.after (by rw [hN1]; exact Keep.app _ _ _) hQ7, (by repeat (first | exact trivial | (refine And.intro rfl ?_)))⟩
    · rintro t' M1 ⟨hQ1, hsl⟩
      refine AW.weak (fr_all hsl) ?_
      clear hsl
      by_cases z1 : (apF D (L.at_ : Nat) (frB p)).1 = 0
      · rw [if_neg (fun e => e z1), z1]
        have hL1 := hL.disk hS (by obtain ⟨_, _, _, k, _⟩ := hQ1; exact k)
        obtain ⟨w0, w1, hD1, hk1, hf1⟩ := hQ1
        have q3 := fun T => hL1.all.rd T (0 + 3) _ rfl
        have q4 := fun T => hL1.all.rd T (0 + 4) _ rfl
        rw [← List.append_nil M1]
        (repeat (first | (with_reducible refine AWo.cons ?_) | ((with_reducible refine Step.id ?_); first | ((with_reducible apply Step.move); exact rfl; exact rfl) | ((with_reducible apply Step.load); exact rfl; (focus (decide +kernel)); exact rfl; (focus (first | exact q3 _ | exact q4 _))) | ((with_reducible apply Step.field (k := 3)); exact rfl; (focus (decide +kernel)); exact rfl) | ((with_reducible apply Step.field (k := 4)); exact rfl; (focus (decide +kernel)); exact rfl) | ((with_reducible apply Step.neq); exact rfl; exact rfl; exact rfl) | ((with_reducible apply Step.nilp); exact rfl; exact rfl)) | (with_reducible refine AWo.nil ?_) | ((with_reducible apply AW.seq)) | ((with_reducible apply Then.n)) | ((with_reducible apply AW.regL)) | ((with_reducible apply AW.drawL fit); (focus (decide +kernel))) | ((with_reducible apply AW.skip)) | ((with_reducible apply AW.condF); exact rfl; (focus (rfl)))))
        ((with_reducible apply Step.callF fit); exact rfl; exact Try.func66; exact rfl; exact rfl; (focus (rw [List.append_nil]; exact DSync_ok (L.at_ : Nat) hD1)))
        rintro r2 M2 ⟨rfl, hQ2⟩
        have hQ2 := DkQ.next hk1 hf1 hQ2
        by_cases z2 : (syF (apF D (L.at_ : Nat) (frB p)).2 (L.at_ : Nat)).1 = 0
        · rw [if_neg (fun e => e z2), z2]
          obtain ⟨x0, x1, hD2, hk2, hf2⟩ := hQ2
          have hL2 := hL.disk hS hk2
          obtain ⟨X, hX⟩ : ∃ X, X = M2 := ⟨_, rfl⟩
          subst hX
          have hml := hk2.len
          have hLa := hL2.all
          have hlg := vw_some.1 hL2.cells
          have hlX := (List.getElem?_eq_some_iff.1 hlg.2).1
          have hwX : Byts X w p := hw X (hk2.mono fun _ e => .inl e)
          have hcl := clone_ok hwX (by omega)
          have q2 := fun (N : AM) T => (hLa.old N).rd T (0 + 2) _ rfl
          have q20 := q2 []
          rw [List.append_nil] at q20
          obtain ⟨pc, hseg, hel⟩ := hL2.cont.recs
          have hsegX := hseg.msub (Sub.vw _ X).m
          rw [← List.append_nil X]
          (repeat' (first | (with_reducible refine AWo.cons ?_) | ((with_reducible refine Step.id ?_); first | ((with_reducible apply Step.move); exact rfl; exact rfl) | ((with_reducible apply Step.assign); exact rfl; exact rfl) | ((with_reducible apply Step.load); exact rfl; (focus (decide +kernel)); exact rfl; (focus (exact q20 _))) | ((with_reducible apply Step.field0); exact rfl; (focus (decide +kernel)); exact rfl) | ((with_reducible apply Step.field (k := 2)); exact rfl; (focus (decide +kernel)); exact rfl) | ((with_reducible apply Step.neq); exact rfl; exact rfl; exact rfl) | ((with_reducible apply Step.nilp); exact rfl; exact rfl)) | (with_reducible refine AWo.nil ?_) | ((with_reducible apply AW.seq)) | ((with_reducible apply Then.n)) | ((with_reducible apply AW.regL)) | ((with_reducible apply AW.drawT fit (T := (.step 0 (.step 1 (.step 2 (.step 3 (.step 4 (.step 6 (.both (.step 5 (.step 7 (.step 8 (.step 9 (.step 10 (.step 11 (.step 12 (.step 13 .done)))))))) (.step 7 (.both (.step 5 (.step 8 (.step 9 (.step 10 (.step 11 (.step 12 (.step 13 .done))))))) (.step 8 (.step 5 (.step 9 (.step 10 (.step 11 (.step 12 (.step 13 .done)))))))))))))))))); (focus (decide +kernel))) | ((with_reducible apply AWt.step); exact rfl) | ((with_reducible apply AW.skip)) | ((with_reducible apply AW.condF); exact rfl; (focus (rfl))) | refine AWt.both ?_ ?_))
          all_goals
            ((with_reducible apply Step.callX fit); exact rfl; exact Try.func73; exact rfl; exact rfl; (focus (rw [List.append_nil]; exact hcl)))
            rintro u M3 ⟨N3, hN3⟩ hu
            rw [List.append_nil] at hN3
            have hus : SlV u := hu.slv
            have q23 := q2 N3
            rw [← hN3] at q23
            (repeat' (first | ((with_reducible refine Step.id ?_); first | ((with_reducible apply Step.load); exact rfl; (focus (decide +kernel)); exact rfl; (focus (exact q23 _))) | ((with_reducible apply Step.buildS 0); exact rfl; exact rfl; exact (fun _ _ => bs27); exact rfl; (focus (first | (simp only [List.nil_append, List.cons_append, List.set_cons_zero, List.set_cons_succ, iv_set, bv_set, iv_rep, bv_rep]; done) | (simp only [List.nil_append, List.cons_append, List.set_cons_zero, List.set_cons_succ, iv_set, bv_set, iv_rep, bv_rep]; rfl) | rfl)))) | ((with_reducible apply AWt.step); exact rfl) | refine AWt.both ?_ ?_))
            all_goals
              ((with_reducible apply Step.appSeg (s := 1) (n := L.c.recs.length) (xl := 1) (b0 := lg + 1) (c := pc) (new := [u])); exact rfl; exact rfl; (focus (rw [hN3]; exact (hsegX.old N3).old _)); exact (Sl.mk (Nat.le_refl _)); exact (fun _ => RdL.new rfl rfl); exact el27; exact un27; exact rfl; (focus (omega)); (focus (rw [List.all_cons, hus.one.1]; rfl)); exact rfl; (focus (omega)); exact rfl; (focus (rw [hN3]; simp only [List.length_append]; omega)))
              intro rv2 M4 hr4 hml4 hk4 hn4
              have hus4 := hr4.slv.one
              have hlg3 : (M3 ++ [some { cells := [u] }])[lg]? = some (some { cells := lgc (L.c.gen : Nat) sv rv dk (L.at_ : Nat) L.down }) := by rw [hN3]; exact get_old _ (get_old _ hlg.2)
              have hnrv : NotB rv lg := Classical.byContradiction fun hc => by have := (hsegX.at_ hc).1; omega
              have hlg4 : M4[lg]? = some (some { cells := lgc (L.c.gen : Nat) sv rv dk (L.at_ : Nat) L.down }) := by rw [hk4 lg (by rw [hN3]; simp only [List.length_append]; omega) hnrv]; exact hlg3
              rw [← List.append_nil M4]
              (repeat' (first | ((with_reducible refine Step.id ?_); first | ((with_reducible apply Step.field0); exact rfl; (focus (decide +kernel)); exact rfl) | ((with_reducible apply Step.field (k := 2)); exact rfl; (focus (decide +kernel)); exact rfl) | ((with_reducible apply Step.nilp); exact rfl; exact rfl)) | ((with_reducible apply AWt.step); exact rfl)))
              ((with_reducible apply Step.storeAt); exact rfl; exact rfl; exact (get_old [] hlg4); (focus (decide +kernel)); exact rfl; (focus (show 0 + 2 < 6; omega)); exact hus4.2; exact hus4.1)
              (repeat' (first | (with_reducible refine AWo.cons ?_) | ((with_reducible refine Step.id ?_); ((with_reducible apply Step.assign); exact rfl; exact rfl)) | (with_reducible refine AWo.nil ?_) | ((with_reducible apply AW.seq)) | ((with_reducible apply Then.n)) | ((with_reducible apply AW.regL)) | ((with_reducible apply AWt.done))))
              (refine AW.ret ?_; (repeat (first | refine Then.r ?_ | refine InBlk.r ?_)))
              rw [List.append_nil]
              refine ⟨_, rfl, rfl, ?_⟩
              have hM3l : M3.length = X.length + N3.length := by rw [hN3, List.length_append]
              rw [List.length_append] at hml4
              have hkX : ∀ j, j < X.length → NotB rv j → M4[j]? = X[j]? := fun j hj hn => by rw [hk4 j (by rw [List.length_append]; omega) hn, hN3, List.append_assoc, List.getElem?_append_left hj]
              have hps := PaysS.push (p := p) hseg hel ⟨N3 ++ [some { cells := [u] }], by rw [hN3, List.append_assoc]⟩ (hu.old [some { cells := [u] }]) (by omega) hr4 (by rw [List.length_append]; exact hml4) hk4 hn4
              have hlgn : ∀ j, j ≠ lg → (M4.set lg (some { cells := (lgc (L.c.gen : Nat) sv rv dk (L.at_ : Nat) L.down).set (0 + 2) rv2 }))[j]? = M4[j]? := fun j hj => List.getElem?_set_ne (Ne.symm hj)
              have hdX : ∀ j, dkD dk x0 x1 j → j < X.length ∧ ¬ (S j ∧ j < m.length) := fun j hj => by
                obtain ⟨_, b, hb, _⟩ := hD2.at_ hj
                refine ⟨(List.getElem?_eq_some_iff.1 hb).1, fun e => ?_⟩
                exact hf2 j e.2 (fun e2 => hS j e2 e.1) hj
              have hrvS : ∀ j, ¬ NotB rv j → S j ∧ j < m.length := fun j hj => by
                obtain ⟨_, b, hb, _⟩ := hseg.at_ hj
                exact (vw_some.1 hb).1
              refine ⟨x0, x1, sv, rv2, fun j => (S j ∧ j < m.length) ∧ j < X.length ∨ X.length ≤ j, ?_, ⟨vw_some.2 ⟨.inl ⟨hlg.1, hlX⟩, List.getElem?_set_self (by omega)⟩, ⟨?_, ?_, ?_⟩, ?_, hL2.a2⟩, ?_, ?_, ?_, hf2⟩
              · refine hD2.keep fun j b hb hj _ => ?_
                obtain ⟨d1, d2⟩ := hdX j hj
                rw [hlgn j (fun e => d2 (by rw [e]; exact hlg.1)), hkX j d1 (Classical.byContradiction fun e => d2 (hrvS j e))]
                exact hb
              · have hsn := hL2.cont.snap
                rcases hsn with hsn | ⟨a, kd, sz, y1, y2, y3, y4, y5⟩
                · exact .inl hsn
                · obtain ⟨z3, z4⟩ := vw_some.1 y3
                  have hal := (List.getElem?_eq_some_iff.1 z4).1
                  refine .inr ⟨a, kd, sz, y1, y2, vw_some.2 ⟨.inl ⟨z3, hal⟩, ?_⟩, y4, y5⟩
                  rw [hlgn a (by omega), hkX a hal (hL2.cont.sep a fun hn => hn _ _ y2)]
                  exact z4
              · refine hps.keep fun j b hb hj _ => ?_
                obtain ⟨z3, z4⟩ := vw_some.1 hb
                exact vw_some.2 ⟨z3, by rw [hlgn j (by omega)]; exact z4⟩
              · intro j hj
                have hjl := hL2.cont.snap.lt_of hj
                rw [vw_len] at hjl
                exact NotB.row hr4 (hn4 j (by rw [List.length_append]; omega))
              · rw [vw_len, List.length_set]
                have := hL2.lb
                rw [vw_len] at this
                omega
              · rintro j (hj | hj) hd
                · exact (hdX j hd).2 hj.1
                · have := (hdX j hd).1; omega
              · rintro j (hj | hj)
                · exact .inl hj.1.1
                · exact .inr (by omega)
              · refine ⟨by rw [List.length_set]; omega, fun j hj hn => ?_⟩
                rw [hlgn j (fun e => hn (.inr (by rw [e]; exact hlg.1.1))), hkX j (by omega) (Classical.byContradiction fun e => hn (.inr (hrvS j e).1)), hk2.get j hj fun e => hn (.inl e)]
        · rw [if_pos z2]
          obtain ⟨hL2, hF⟩ := DLQ.met (syF (apF D (L.at_ : Nat) (frB p)).2 (L.at_ : Nat)).1 hL hS hQ2
          generalize (syF (apF D (L.at_ : Nat) (frB p)).2 (L.at_ : Nat)).1 = e at *
          rw [← List.append_nil M2]
          (repeat (first | (with_reducible refine AWo.cons ?_) | ((with_reducible refine Step.id ?_); first | ((with_reducible apply Step.move); exact rfl; exact rfl) | ((with_reducible apply Step.assign); exact rfl; exact rfl) | ((with_reducible apply Step.neq); exact rfl; exact rfl; exact rfl)) | (with_reducible refine AWo.nil ?_) | ((with_reducible apply AW.seq)) | ((with_reducible apply Then.n)) | ((with_reducible apply AW.regL)) | ((with_reducible apply AW.condT); exact rfl; (focus ((simp only [decide_eq_true_eq, decide_eq_false_iff_not, Bool.not_eq_true', Bool.not_eq_false', Bool.not_true, Bool.not_false]; first | assumption | omega))))))
          ((with_reducible apply Step.callF fit); exact rfl; exact Try.func120; exact rfl; exact rfl; (focus (rw [List.append_nil]; exact met_ok e hL2)))
          rintro r3 M3 ⟨rfl, rfl⟩
          rw [← List.append_nil (M2.set _ _)]
          (repeat (first | (with_reducible refine AWo.cons ?_) | ((with_reducible refine Step.id ?_); ((with_reducible apply Step.assign); exact rfl; exact rfl)) | (with_reducible refine AWo.nil ?_) | ((with_reducible apply Then.n))))
          (refine AW.ret ?_; (repeat (first | refine Then.r ?_ | refine InBlk.r ?_)))
          rw [List.append_nil]
          exact ⟨_, rfl, rfl, hF⟩
      · rw [if_pos z1]
        obtain ⟨hL1, hF⟩ := DLQ.met (apF D (L.at_ : Nat) (frB p)).1 hL hS hQ1
        generalize (apF D (L.at_ : Nat) (frB p)).1 = e at *
        rw [← List.append_nil M1]
        (repeat (first | (with_reducible refine AWo.cons ?_) | ((with_reducible refine Step.id ?_); first | ((with_reducible apply Step.move); exact rfl; exact rfl) | ((with_reducible apply Step.neq); exact rfl; exact rfl; exact rfl)) | (with_reducible refine AWo.nil ?_) | ((with_reducible apply AW.seq)) | ((with_reducible apply Then.n)) | ((with_reducible apply AW.regL)) | ((with_reducible apply AW.condT); exact rfl; (focus ((simp only [decide_eq_true_eq, decide_eq_false_iff_not, Bool.not_eq_true', Bool.not_eq_false', Bool.not_true, Bool.not_false]; first | assumption | omega))))))
        ((with_reducible apply Step.callF fit); exact rfl; exact Try.func120; exact rfl; exact rfl; (focus (rw [List.append_nil]; exact met_ok e hL1)))
        rintro r2 M2 ⟨rfl, rfl⟩
        rw [← List.append_nil (M1.set _ _)]
        (repeat (first | (with_reducible refine AWo.cons ?_) | ((with_reducible refine Step.id ?_); ((with_reducible apply Step.assign); exact rfl; exact rfl)) | (with_reducible refine AWo.nil ?_) | ((with_reducible apply Then.n))))
        (refine AW.ret ?_; (repeat (first | refine Then.r ?_ | refine InBlk.r ?_)))
        rw [List.append_nil]
        exact ⟨_, rfl, rfl, hF⟩
  · rw [if_pos z0]
    generalize rdyF L p = e at *
    (repeat (first | (with_reducible refine AWo.cons ?_) | ((with_reducible refine Step.id ?_); first | ((with_reducible apply Step.move); exact rfl; exact rfl) | ((with_reducible apply Step.assign); exact rfl; exact rfl) | ((with_reducible apply Step.neq); exact rfl; exact rfl; exact rfl) | ((with_reducible apply Step.callR fit); exact rfl; exact Try.func119; exact rfl; exact rfl; exact (hrd _))) | (with_reducible refine AWo.nil ?_) | ((with_reducible apply AW.seq)) | ((with_reducible apply Then.n)) | ((with_reducible apply AW.regL)) | ((with_reducible apply AW.condT); exact rfl; (focus ((simp only [decide_eq_true_eq, decide_eq_false_iff_not, Bool.not_eq_true', Bool.not_eq_false', Bool.not_true, Bool.not_false]; first | assumption | omega))))))
    (refine AW.ret ?_; (repeat (first | refine Then.r ?_ | refine InBlk.r ?_)))
    rw [List.append_nil]
    exact ⟨_, rfl, rfl, DLQ.of hL hS (by have := DkQ.refl hD []; rwa [List.append_nil] at this)⟩
end Go.Proofs.Ytabdnepfcohncaa.Abs
namespace Go.Proofs.Ytabdnepfcohncaa.Abs
set_option linter.unusedSimpArgs false
set_option linter.unusedVariables false
open Go.RowKit
open Go.Proofs.Ytabdnepfcohncaa.Sim
open Go.Proofs
def rwF (D : Dk) (L : Lg) (p : List UInt8) : Int × Dk × Lg :=
  if rdyF L p ≠ 0 then (rdyF L p, D, L)
  else if L.c.gen = 4611686018427387904 then (5, D, L)
  else if (wrF D ((1 - L.at_ : Nat) : Int) ⟨L.c.gen + 1, p, []⟩).1 ≠ 0 then ((wrF D ((1 - L.at_ : Nat) : Int) ⟨L.c.gen + 1, p, []⟩).1, (wrF D ((1 - L.at_ : Nat) : Int) ⟨L.c.gen + 1, p, []⟩).2, metF L (wrF D ((1 - L.at_ : Nat) : Int) ⟨L.c.gen + 1, p, []⟩).1)
  else (0, (wrF D ((1 - L.at_ : Nat) : Int) ⟨L.c.gen + 1, p, []⟩).2, ⟨⟨L.c.gen + 1, p, []⟩, 1 - L.at_, L.down⟩)
theorem bl124r {g : Int} {u : Value} (hu : SlV u) : abuild Try.prog 124 [(0, .int .i64 g), (1, u)] = some (.agg #[.int .i64 g, u, .slice none 0 0]) := by
  rcases hu with rfl | ⟨q, n, c, rfl⟩ <;> kernel_rfl
set_option maxHeartbeats 16000000 in
set_option maxRecDepth 100000 in
theorem Rewrite_ok {m : AM} {S : Nat → Prop} {b0 dk lg : Nat} {D : Dk} {u0 u1 sv rv w : Value} {L : Lg} {p : List UInt8} (hD : DiskAt m b0 dk D u0 u1) (hb0 : b0 ≤ m.length) (hL : LogAt (vw S m) lg dk L sv rv) (hS : ∀ j, dkD dk u0 u1 j → ¬ S j) (hw : Byts m w p) (hlen : p.length ≤ 1000000) (hg : L.c.gen ≤ 4611686018427387904) :
    ACall Try.prog 60 #[.pointer (some ⟨lg, 0, none⟩), w] m (fun r M => r = .int .i64 (rwF D L p).1 ∧ DLQ (rwF D L p).2.1 (rwF D L p).2.2 b0 dk lg u0 u1 S m M) := by
  have hL0 := hL.all
  have hll := hL0.lt
  have hdl := hD.lt
  have hrd := fun T => ready_ok (hL0.old T) (hw.old T)
  have hlg0 := vw_some.1 hL.cells
  have hnb : ∀ j, dkD dk u0 u1 j → j < m.length := fun j hj => by
    obtain ⟨_, b, hb, _⟩ := hD.at_ hj
    exact (List.getElem?_eq_some_iff.1 hb).1
  refine ACall.start Try.func60 rfl rfl ?_
  unfold rwF
  by_cases z0 : rdyF L p = 0
  · rw [if_neg (fun e => e z0)]
    rw [z0] at hrd
    have hpl : p.length ≤ 65536 := by
      unfold rdyF at z0
      split at z0
      · cases z0
      · split at z0
        · cases z0
        · omega
    have r0 := fun (N : AM) T => (hL0.old N).rd T 0 _ rfl
    have r00 := r0 []
    rw [List.append_nil] at r00
    by_cases zg : L.c.gen = 4611686018427387904
    · rw [if_pos zg]
      (repeat (first | (with_reducible refine AWo.cons ?_) | ((with_reducible refine Step.id ?_); first | ((with_reducible apply Step.move); exact rfl; exact rfl) | ((with_reducible apply Step.assign); exact rfl; exact rfl) | ((with_reducible apply Step.load); exact rfl; (focus (decide +kernel)); exact rfl; (focus (exact r00 _))) | ((with_reducible apply Step.field0); exact rfl; (focus (decide +kernel)); exact rfl) | ((with_reducible apply Step.eql); exact rfl; exact rfl; exact rfl) | ((with_reducible apply Step.neq); exact rfl; exact rfl; exact rfl) | ((with_reducible apply Step.nilp); exact rfl; exact rfl) | ((with_reducible apply Step.callR fit); exact rfl; exact Try.func119; exact rfl; exact rfl; exact (hrd _))) | (with_reducible refine AWo.nil ?_) | ((with_reducible apply AW.seq)) | ((with_reducible apply Then.n)) | ((with_reducible apply AW.regL)) | ((with_reducible apply AW.skip)) | ((with_reducible apply AW.condT); exact rfl; (focus ((simp only [decide_eq_true_eq, decide_eq_false_iff_not, Bool.not_eq_true', Bool.not_eq_false', Bool.not_true, Bool.not_false]; first | assumption | omega)))) | ((with_reducible apply AW.condF); exact rfl; (focus (rfl)))))
      (refine AW.ret ?_; (repeat (first | refine Then.r ?_ | refine InBlk.r ?_)))
      rw [List.append_nil]
      exact ⟨_, rfl, rfl, DLQ.of hL hS (by have := DkQ.refl hD []; rwa [List.append_nil] at this)⟩
    · rw [if_neg zg]
      (repeat (first | (with_reducible refine AWo.cons ?_) | ((with_reducible refine Step.id ?_); first | ((with_reducible apply Step.move); exact rfl; exact rfl) | ((with_reducible apply Step.assign); exact rfl; exact rfl) | ((with_reducible apply Step.load); exact rfl; (focus (decide +kernel)); exact rfl; (focus (exact r00 _))) | ((with_reducible apply Step.field0); exact rfl; (focus (decide +kernel)); exact rfl) | ((with_reducible apply Step.eql); exact rfl; exact rfl; exact rfl) | ((with_reducible apply Step.neq); exact rfl; exact rfl; exact rfl) | ((with_reducible apply Step.nilp); exact rfl; exact rfl) | ((with_reducible apply Step.callR fit); exact rfl; exact Try.func119; exact rfl; exact rfl; exact (hrd _))) | (with_reducible refine AWo.nil ?_) | ((fail_if_success (with_reducible refine AW.atR (id := 6) ?_)); ((with_reducible apply AW.seq))) | ((with_reducible apply Then.n)) | ((with_reducible apply AW.regL)) | ((with_reducible apply AW.skip)) | ((with_reducible apply AW.condF); exact rfl; (focus (first | rfl | (simp only [decide_eq_true_eq, decide_eq_false_iff_not, Bool.not_eq_true', Bool.not_eq_false', Bool.not_true, Bool.not_false]; first | assumption | omega))))))
      refine AW.seq ?_
      refine AW.join (fun t' M' => ∃ u bk, (∃ N, M' = m ++ N) ∧ m.length ≤ bk ∧ M'[bk]? = some (some { cells := [.int .i64 ((L.c.gen + 1 : Nat) : Int), u, .slice none 0 0] }) ∧ Row M' m.length 1 u (by8 p) p.length ∧ All (fun i v => t' i = some v) [(0, .pointer (some ⟨lg, 0, none⟩)), (6, .pointer (some ⟨bk, 0, none⟩))]) ?_ ?_
      · (repeat' (first | ((with_reducible refine Step.id ?_); first | ((with_reducible apply Step.move); exact rfl; exact rfl) | ((with_reducible apply Step.load); exact rfl; (focus (decide +kernel)); exact rfl; (focus (exact r00 _))) | ((with_reducible apply Step.field0); exact rfl; (focus (decide +kernel)); exact rfl) | ((with_reducible apply Step.add); exact rfl; exact rfl; (focus (omega)); exact rfl) | ((with_reducible apply Step.nilp); exact rfl; exact rfl) | ((with_reducible apply Step.alloc 0); exact rfl; exact ze124; exact rfl; (focus (first | (simp only [List.nil_append, List.cons_append, List.set_cons_zero, List.set_cons_succ, iv_set, bv_set, iv_rep, bv_rep]; done) | (simp only [List.nil_append, List.cons_append, List.set_cons_zero, List.set_cons_succ, iv_set, bv_set, iv_rep, bv_rep]; rfl) | rfl)))) | ((with_reducible apply AW.drawT fit (T := (.step 0 (.step 1 (.step 2 (.step 3 (.step 6 (.both (.step 4 (.step 5 (.both (.step 7 (.step 8 (.step 9 (.step 10 .done)))) (.step 9 (.step 7 (.step 8 (.step 10 .done))))))) (.both (.step 7 (.both (.step 4 (.step 5 (.step 8 (.step 9 (.step 10 .done))))) (.step 9 (.step 4 (.step 5 (.step 8 (.step 10 .done))))))) (.step 9 (.both (.step 4 (.step 5 (.step 7 (.step 8 (.step 10 .done))))) (.step 7 (.step 4 (.step 5 (.step 8 (.step 10 .done)))))))))))))))); (focus (decide +kernel))) | ((with_reducible apply AWt.step); exact rfl) | refine AWt.both ?_ ?_))
        all_goals
          ((with_reducible apply Step.callX fit); exact rfl; exact Try.func73; exact rfl; exact rfl; (focus (first | exact clone_ok (hw.old _) (by omega) | (rw [List.append_nil]; exact clone_ok hw (by omega)))))
          rintro u M1 ⟨N1, hN1⟩ hu
          have hus : SlV u := hu.slv
          have hbl := bl124r (g := (L.c.gen : Int) + 1) hus
          have hw1 : (Value.agg #[.int .i64 ((L.c.gen : Int) + 1), u, .slice none 0 0]).cells.all (·.oneCell') = true := SlV.agg3 hus (.inl rfl)
          have r0M : ∀ T, Rd (M1 ++ T) lg 0 (.int .i64 (L.c.gen : Nat)) := fun T => by rw [hN1]; exact ((hL0.old _).old N1).rd T 0 _ rfl
          (repeat' (first | ((with_reducible refine Step.id ?_); first | ((with_reducible apply Step.load); exact rfl; (focus (decide +kernel)); exact rfl; (focus (exact r0M _))) | ((with_reducible apply Step.add); exact rfl; exact rfl; (focus (omega)); exact rfl) | ((with_reducible apply Step.alloc 0); exact rfl; exact ze124; exact rfl; (focus (first | (simp only [List.nil_append, List.cons_append, List.set_cons_zero, List.set_cons_succ, iv_set, bv_set, iv_rep, bv_rep]; done) | (simp only [List.nil_append, List.cons_append, List.set_cons_zero, List.set_cons_succ, iv_set, bv_set, iv_rep, bv_rep]; rfl) | rfl)))) | ((with_reducible apply AWt.step); exact rfl) | refine AWt.both ?_ ?_))
        all_goals
          ((with_reducible apply Step.build); exact rfl; exact hbl; exact rfl)
          (repeat' (first | ((with_reducible refine Step.id ?_); first | ((with_reducible apply Step.alloc 0); exact rfl; exact ze124; exact rfl; (focus (first | (simp only [List.nil_append, List.cons_append, List.set_cons_zero, List.set_cons_succ, iv_set, bv_set, iv_rep, bv_rep]; done) | (simp only [List.nil_append, List.cons_append, List.set_cons_zero, List.set_cons_succ, iv_set, bv_set, iv_rep, bv_rep]; rfl) | rfl))) | ((with_reducible apply Step.storeA (k := 0) (n := 3)); exact rfl; exact rfl; exact rfl; exact rfl; (focus (decide +kernel)); exact rfl; (focus (first | assumption | exact hw1)); exact rfl; (focus (first | (simp only [List.nil_append, List.cons_append, List.set_cons_zero, List.set_cons_succ, iv_set, bv_set, iv_rep, bv_rep]; done) | (simp only [List.nil_append, List.cons_append, List.set_cons_zero, List.set_cons_succ, iv_set, bv_set, iv_rep, bv_rep]; rfl) | rfl)))) | ((with_reducible apply Then.n)) | ((with_reducible apply AWt.step); exact rfl) | ((with_reducible apply AWt.done))))
          first
          | exact ⟨u, M1.length + 0, ⟨N1 ++ [some { cells := [.int .i64 ((L.c.gen : Int) + 1), u, .slice none 0 0] }], by rw [hN1, List.append_nil, List.append_assoc]; rfl⟩, by rw [hN1]; simp, by rw [get_app]; rfl, (hu.low (by simp)).old _, (by repeat (first | exact trivial | (refine And.intro rfl ?_)))⟩
          | skip
        all_goals
          have hzb : M1[m.length + 0]? = some (some { cells := [.int .i64 0, .slice none 0 0, .slice none 0 0] }) := by rw [hN1, List.append_assoc, get_app]; rfl
          ((with_reducible apply Step.storeL (n := 3) (v := [.int .i64 ((L.c.gen : Int) + 1), u, .slice none 0 0])); exact rfl; exact rfl; exact (get_old [] hzb); exact rfl; exact sz124; exact rfl; exact (SlV.all3 hus (.inl rfl)); (focus (show 0 + 3 ≤ 3; omega)))
          rw [List.append_nil]
          have hzl := (List.getElem?_eq_some_iff.1 hzb).1
          obtain ⟨N9, hN9⟩ := set_high (m0 := m) (N := [some { cells := [.int .i64 0, .slice none 0 0, .slice none 0 0] }] ++ N1) (a := m.length + 0) (by omega) (some { cells := [.int .i64 ((L.c.gen : Int) + 1), u, .slice none 0 0] })
          rw [← List.append_assoc, ← hN1] at hN9
          have hu9 : Row (M1.set (m.length + 0) (some { cells := [.int .i64 ((L.c.gen : Int) + 1), u, .slice none 0 0] })) m.length 1 u (by8 p) p.length := (Row.keep hu fun j hj hn => List.getElem?_set_ne (by have := hu.ge_of hn; simp at this; omega)).low (by simp)
          rw [← List.append_nil (M1.set _ _)]
          (repeat' (first | ((with_reducible apply Then.n)) | ((with_reducible apply AWt.done))))
          rw [List.append_nil]
          exact ⟨u, m.length + 0, ⟨N9, hN9⟩, by omega, List.getElem?_set_self hzl, hu9, (by repeat (first | exact trivial | (refine And.intro rfl ?_)))⟩
      · rintro t' M' ⟨u, bk, ⟨N, hX⟩, hbk, hcb, hu, hsl⟩
        refine AW.weak (fr_all hsl) ?_
        clear hsl
        have ha2 := hL.a2
        have hd : (1 : Int) - (L.at_ : Nat) = ((1 - L.at_ : Nat) : Int) := by omega
        have hus : SlV u := hu.slv
        have hXl : M'.length = m.length + N.length := by rw [hX, List.length_append]
        have hDX : DiskAt M' b0 dk D u0 u1 := by rw [hX]; exact hD.old _
        have hbl := (List.getElem?_eq_some_iff.1 hcb).1
        have hct : ContAt M' m.length u (.slice none 0 0) ⟨L.c.gen + 1, p, []⟩ := ⟨hu, PaysS.nil, fun _ _ => NotB.nil⟩
        have hencl : (encB ⟨L.c.gen + 1, p, []⟩).length ≤ 100000000 := by rw [encB_len]; show 20 + (p.length + 8) + 0 ≤ _; omega
        have hwr := write_ok (bc := m.length) (c := ⟨L.c.gen + 1, p, []⟩) ((1 - L.at_ : Nat) : Int) hDX (by omega) (S := fun j => m.length ≤ j ∧ j < M'.length) (ContAt.keep hct fun j b hb hj _ => vw_some.2 ⟨⟨hj, (List.getElem?_eq_some_iff.1 hb).1⟩, hb⟩) (fun j hj e => by have := hnb j hj; omega) (by show L.c.gen + 1 ≤ _; omega) hencl (Nat.zero_le _)
        have rdl : ∀ (Y : AM), Y[bk]? = some (some { cells := [.int .i64 ((L.c.gen + 1 : Nat) : Int), u, .slice none 0 0] }) → ∀ T, RdL (Y ++ T) bk 0 [.int .i64 ((L.c.gen + 1 : Nat) : Int), u, .slice none 0 0] := fun Y hY T => RdL.old T ⟨_, hY, fun j v hv => by
          rw [Nat.zero_add]
          exact hv⟩
        have q0 := rdl M' hcb
        have hLX : LogAt M' lg dk L sv rv := by rw [hX]; exact hL0.old N
        have q3 := fun T => hLX.rd T (0 + 3) _ rfl
        have q4 := fun T => hLX.rd T (0 + 4) _ rfl
        rw [← List.append_nil M']
        (repeat (first | (with_reducible refine AWo.cons ?_) | ((with_reducible refine Step.id ?_); first | ((with_reducible apply Step.move); exact rfl; exact rfl) | ((with_reducible apply Step.load); exact rfl; (focus (decide +kernel)); exact rfl; (focus (first | exact q3 _ | exact q4 _))) | ((with_reducible apply Step.loadL (n := 3)); exact rfl; (focus (decide +kernel)); (focus (decide +kernel)); exact rfl; (focus (exact q0 _)); exact rfl; exact rfl) | ((with_reducible apply Step.field (k := 3)); exact rfl; (focus (decide +kernel)); exact rfl) | ((with_reducible apply Step.field (k := 4)); exact rfl; (focus (decide +kernel)); exact rfl) | ((with_reducible apply Step.sub); exact rfl; exact rfl; (focus (omega)); exact rfl) | ((with_reducible apply Step.nilp); exact rfl; exact rfl)) | ((with_reducible apply AW.seq)) | ((with_reducible apply AW.drawL fit); (focus (decide +kernel)))))
        rw [hd]
        ((with_reducible apply Step.callF fit); exact rfl; exact Try.func118; exact rfl; exact rfl; (focus (rw [List.append_nil]; exact hwr)))
        rintro r1 M1 ⟨rfl, hQ1⟩
        by_cases he : (wrF D ((1 - L.at_ : Nat) : Int) ⟨L.c.gen + 1, p, []⟩).1 = 0
        · rw [if_neg (fun e => e he), he]
          obtain ⟨w0, w1, a1, k1, f1⟩ := hQ1
          have hk1 : ∀ j, j < M'.length → ¬ dkD dk u0 u1 j → M1[j]? = M'[j]? := fun j h1 h2 => k1.get j h1 h2
          have hM1l := k1.len
          have hlS := hlg0.1
          have hlg1 : M1[lg]? = some (some { cells := lgc (L.c.gen : Nat) sv rv dk (L.at_ : Nat) L.down }) := by rw [hk1 lg (by omega) fun e => hS _ e hlS]; exact hLX.cells
          have hbk1 : M1[bk]? = some (some { cells := [.int .i64 ((L.c.gen + 1 : Nat) : Int), u, .slice none 0 0] }) := by rw [hk1 bk hbl fun e => by have := hnb _ e; omega]; exact hcb
          have q0 := rdl M1 hbk1
          have q4 := fun T => Rd.old T (show Rd M1 lg (0 + 4) (.int .i64 (L.at_ : Nat)) from ⟨_, hlg1, rfl⟩)
          rw [← List.append_nil M1]
          (repeat (first | (with_reducible refine AWo.cons ?_) | ((with_reducible refine Step.id ?_); first | ((with_reducible apply Step.move); exact rfl; exact rfl) | ((with_reducible apply Step.assign); exact rfl; exact rfl) | ((with_reducible apply Step.load); exact rfl; (focus (decide +kernel)); exact rfl; (focus (exact q4 _))) | ((with_reducible apply Step.loadL (n := 3)); exact rfl; (focus (decide +kernel)); (focus (decide +kernel)); exact rfl; (focus (exact q0 _)); exact rfl; exact rfl) | ((with_reducible apply Step.field0); exact rfl; (focus (decide +kernel)); exact rfl) | ((with_reducible apply Step.field (k := 4)); exact rfl; (focus (decide +kernel)); exact rfl) | ((with_reducible apply Step.sub); exact rfl; exact rfl; (focus (omega)); exact rfl) | ((with_reducible apply Step.neq); exact rfl; exact rfl; exact rfl) | ((with_reducible apply Step.nilp); exact rfl; exact rfl)) | (with_reducible refine AWo.nil ?_) | ((with_reducible apply AW.seq)) | ((with_reducible apply Then.n)) | ((with_reducible apply AW.regL)) | ((with_reducible apply AW.drawL fit); (focus (decide +kernel))) | ((with_reducible apply AW.skip)) | ((with_reducible apply AW.condF); exact rfl; (focus (rfl)))))
          rw [hd]
          ((with_reducible apply Step.storeL (n := 3) (v := [.int .i64 ((L.c.gen + 1 : Nat) : Int), u, .slice none 0 0])); exact rfl; exact rfl; exact (get_old [] hlg1); exact rfl; exact sz124; exact rfl; exact (SlV.all3 hus (.inl rfl)); (focus (show 0 + 3 ≤ 6; omega)))
          have hl1 := (List.getElem?_eq_some_iff.1 hlg1).1
          obtain ⟨Z, hZ⟩ : ∃ Z : AM, Z = M1.set lg (some { cells := lgc ((L.c.gen + 1 : Nat) : Int) u (.slice none 0 0) dk (L.at_ : Nat) L.down }) := ⟨_, rfl⟩
          have hZ1 : Z[lg]? = some (some { cells := lgc ((L.c.gen + 1 : Nat) : Int) u (.slice none 0 0) dk (L.at_ : Nat) L.down }) := by rw [hZ]; exact List.getElem?_set_self hl1
          have eZ : (M1 ++ []).set lg (some { cells := splice (lgc (L.c.gen : Nat) sv rv dk (L.at_ : Nat) L.down) 0 [.int .i64 ((L.c.gen + 1 : Nat) : Int), u, .slice none 0 0] }) = Z := by rw [hZ, List.append_nil]; rfl
          rw [eZ, ← List.append_nil Z]
          (repeat (first | (with_reducible refine AWo.cons ?_) | ((with_reducible refine Step.id ?_); first | ((with_reducible apply Step.field (k := 4)); exact rfl; (focus (decide +kernel)); exact rfl) | ((with_reducible apply Step.nilp); exact rfl; exact rfl))))
          ((with_reducible apply Step.storeAt); exact rfl; exact rfl; exact (get_old [] hZ1); exact sz3d; exact rfl; (focus (show 0 + 4 < 6; omega)); exact rfl; exact rfl)
          obtain ⟨W, hW⟩ : ∃ W : AM, W = M1.set lg (some { cells := lgc ((L.c.gen + 1 : Nat) : Int) u (.slice none 0 0) dk (1 - L.at_ : Nat) L.down }) := ⟨_, rfl⟩
          have eW : (Z ++ []).set lg (some { cells := (lgc ((L.c.gen + 1 : Nat) : Int) u (.slice none 0 0) dk (L.at_ : Nat) L.down).set (0 + 4) (.int .i64 ((1 - L.at_ : Nat) : Int)) }) = W := by rw [hZ, hW, List.append_nil, List.set_set]; rfl
          rw [eW, ← List.append_nil W]
          (repeat (first | (with_reducible refine AWo.cons ?_) | ((with_reducible refine Step.id ?_); ((with_reducible apply Step.assign); exact rfl; exact rfl)) | (with_reducible refine AWo.nil ?_) | ((with_reducible apply AW.seq)) | ((with_reducible apply Then.n)) | ((with_reducible apply AW.regL))))
          (refine AW.ret ?_; (repeat (first | refine Then.r ?_ | refine InBlk.r ?_)))
          rw [List.append_nil]
          have hWg : ∀ j, j ≠ lg → W[j]? = M1[j]? := fun j hj => by rw [hW]; exact List.getElem?_set_ne (Ne.symm hj)
          have hWl : W.length = M1.length := by rw [hW, List.length_set]
          have hdl2 : ∀ j, dkD dk w0 w1 j → j < M'.length → dkD dk u0 u1 j := fun j hj hl => Classical.byContradiction fun e => f1 j hl e hj
          refine ⟨_, rfl, rfl, w0, w1, u, .slice none 0 0, fun j => j = lg ∨ m.length ≤ j ∧ j < M'.length, ?_, ⟨vw_some.2 ⟨.inl rfl, by rw [hW]; exact List.getElem?_set_self hl1⟩, ?_, by rw [vw_len, hWl]; show dk < M1.length; omega, by show 1 - L.at_ < 2; omega⟩, ?_, ?_, ⟨by rw [hWl]; omega, fun j hj hn => ?_⟩, fun j hj hn => f1 j (by omega) hn⟩
          · refine a1.keep fun j b hb hj _ => ?_
            rw [hWg j fun e => by subst e; exact hS j (hdl2 j hj (by omega)) hlS]
            exact hb
          · refine ⟨?_, PaysS.nil, fun _ _ => NotB.nil⟩
            refine Row.vw2 ((Row.keep hu fun j hj hn => ?_).low (by omega)) fun j hj => .inr ⟨hu.ge_of hj, hu.lt_of hj⟩
            have := hu.ge_of hn
            rw [hWg j (by omega), hk1 j hj fun e => by have := hnb _ e; omega]
          · rintro j (rfl | hj) hd2
            · exact hS j (hdl2 j hd2 (by omega)) hlS
            · have := hnb j (hdl2 j hd2 hj.2)
              omega
          · rintro j (rfl | hj)
            · exact .inl hlS
            · exact .inr hj.1
          · rw [hWg j fun e => hn (.inr (by rw [e]; exact hlS)), hk1 j (by omega) fun e => hn (.inl e), hX, List.getElem?_append_left hj]
        · rw [if_pos he]
          have hQm : DkQ (wrF D ((1 - L.at_ : Nat) : Int) ⟨L.c.gen + 1, p, []⟩).2 b0 dk u0 u1 m M1 := DkQ.after (Keep.app _ m N) (by rw [← hX]; exact hQ1)
          obtain ⟨hL1, hF⟩ := DLQ.met (wrF D ((1 - L.at_ : Nat) : Int) ⟨L.c.gen + 1, p, []⟩).1 hL hS hQm
          generalize (wrF D ((1 - L.at_ : Nat) : Int) ⟨L.c.gen + 1, p, []⟩).1 = e at *
          rw [← List.append_nil M1]
          (repeat (first | (with_reducible refine AWo.cons ?_) | ((with_reducible refine Step.id ?_); first | ((with_reducible apply Step.move); exact rfl; exact rfl) | ((with_reducible apply Step.assign); exact rfl; exact rfl) | ((with_reducible apply Step.neq); exact rfl; exact rfl; exact rfl)) | (with_reducible refine AWo.nil ?_) | ((with_reducible apply AW.seq)) | ((with_reducible apply Then.n)) | ((with_reducible apply AW.regL)) | ((with_reducible apply AW.condT); exact rfl; (focus ((simp only [decide_eq_true_eq, decide_eq_false_iff_not, Bool.not_eq_true', Bool.not_eq_false', Bool.not_true, Bool.not_false]; first | assumption | omega))))))
          ((with_reducible apply Step.callF fit); exact rfl; exact Try.func120; exact rfl; exact rfl; (focus (rw [List.append_nil]; exact met_ok e hL1)))
          rintro r2 M2 ⟨rfl, rfl⟩
          rw [← List.append_nil (M1.set _ _)]
          (repeat (first | (with_reducible refine AWo.cons ?_) | ((with_reducible refine Step.id ?_); ((with_reducible apply Step.assign); exact rfl; exact rfl)) | (with_reducible refine AWo.nil ?_) | ((with_reducible apply Then.n))))
          (refine AW.ret ?_; (repeat (first | refine Then.r ?_ | refine InBlk.r ?_)))
          rw [List.append_nil]
          exact ⟨_, rfl, rfl, hF⟩
  · rw [if_pos z0]
    generalize rdyF L p = e at *
    (repeat (first | (with_reducible refine AWo.cons ?_) | ((with_reducible refine Step.id ?_); first | ((with_reducible apply Step.move); exact rfl; exact rfl) | ((with_reducible apply Step.assign); exact rfl; exact rfl) | ((with_reducible apply Step.neq); exact rfl; exact rfl; exact rfl) | ((with_reducible apply Step.callR fit); exact rfl; exact Try.func119; exact rfl; exact rfl; exact (hrd _))) | (with_reducible refine AWo.nil ?_) | ((with_reducible apply AW.seq)) | ((with_reducible apply Then.n)) | ((with_reducible apply AW.regL)) | ((with_reducible apply AW.condT); exact rfl; (focus ((simp only [decide_eq_true_eq, decide_eq_false_iff_not, Bool.not_eq_true', Bool.not_eq_false', Bool.not_true, Bool.not_false]; first | assumption | omega))))))
    (refine AW.ret ?_; (repeat (first | refine Then.r ?_ | refine InBlk.r ?_)))
    rw [List.append_nil]
    exact ⟨_, rfl, rfl, DLQ.of hL hS (by have := DkQ.refl hD []; rwa [List.append_nil] at this)⟩
end Go.Proofs.Ytabdnepfcohncaa.Abs
namespace Go.Proofs.Ytabdnepfcohncaa.Abs
set_option linter.unusedSimpArgs false
set_option linter.unusedVariables false
open Go.RowKit
open Go.Proofs.Ytabdnepfcohncaa.Sim
open Go.Proofs
set_option maxRecDepth 100000 in
theorem small_ok {m : AM} {kd n k : Int} {w : Value} {l : List UInt8} (h : Byts m w l) (hl : l.length ≤ 9223372036854775807) :
    ACall Try.prog 49 #[.agg #[.int .i64 kd, .int .i64 n, .int .i64 k, w]] m (More (fun M u => Row M m.length 1 u (by8 (l.take 3000)) (l.take 3000).length) m) := by
  obtain ⟨a, o, hs, ha, hr⟩ := h
  have hw1 : (Value.agg #[.int .i64 kd, .int .i64 n, .int .i64 k, w]).cells.all (·.oneCell') = true := by
    show (#[Value.int .i64 kd, .int .i64 n, .int .i64 k, w]).all (·.oneCell') = true
    simp only [← Array.all_toList, List.all_cons]
    rcases hs with ⟨rfl, _⟩ | ⟨c, _, rfl⟩ | ⟨_, _, _, rfl⟩ <;> rfl
  have hmin : min ((l.length : Nat) : Int) 3000 = ((min l.length 3000 : Nat) : Int) := by omega
  refine ACall.start Try.func49 rfl rfl ?_
  (repeat (first | (with_reducible refine AWo.cons ?_) | ((with_reducible refine Step.id ?_); first | ((with_reducible apply Step.assign); exact rfl; exact rfl) | ((with_reducible apply Step.load); exact rfl; (focus (decide +kernel)); exact rfl; (focus (exact Rd.new rfl rfl))) | ((with_reducible apply Step.field (k := 3)); exact rfl; (focus (decide +kernel)); exact rfl) | ((with_reducible apply Step.len); exact rfl; (focus (assumption)); (focus (decide +kernel)); exact rfl) | ((with_reducible apply Step.min); exact rfl; exact rfl; exact rfl) | ((with_reducible apply Step.box 0); exact rfl; exact rfl; (focus (first | assumption | exact hw1)); exact rfl; (focus (first | (simp only [List.nil_append, List.cons_append, List.set_cons_zero, List.set_cons_succ, iv_set, bv_set, iv_rep, bv_rep]; done) | (simp only [List.nil_append, List.cons_append, List.set_cons_zero, List.set_cons_succ, iv_set, bv_set, iv_rep, bv_rep]; rfl) | rfl)))) | (with_reducible refine AWo.nil ?_) | ((with_reducible apply AW.seq)) | ((with_reducible apply Then.n)) | ((with_reducible apply AW.regL))))
  rw [hmin]
  ((with_reducible apply Step.sliceS (l := 0) (h := min l.length 3000)); exact rfl; exact hs; exact un22; exact sz5; exact rfl; exact (bndO_nat rfl); (focus (omega)); (focus (omega)); (focus (omega)); exact rfl)
  intro v' hv' _
  have hb : Byts (m ++ [some { cells := [.int .i64 kd, .int .i64 n, .int .i64 k, w] }]) v' (l.take 3000) := by
    have hlt : (l.take 3000).length = min l.length 3000 := by rw [List.length_take]; omega
    refine ⟨a, o, by rw [hlt]; simpa using hv', by simp; omega, fun j hj => ?_⟩
    have := hr j (by omega)
    rw [List.getD_eq_getElem?_getD, List.getElem?_take_of_lt (by omega), ← List.getD_eq_getElem?_getD]
    exact this.old _
  have hcl := clone_ok hb (by rw [List.length_take]; omega)
  (repeat ((with_reducible refine AWo.cons ?_)))
  ((with_reducible apply Step.callX fit); exact rfl; exact Try.func73; exact rfl; exact rfl; exact hcl)
  rintro u M1 ⟨N1, hN1⟩ hu
  (repeat (first | (with_reducible refine AWo.cons ?_) | ((with_reducible refine Step.id ?_); ((with_reducible apply Step.assign); exact rfl; exact rfl)) | (with_reducible refine AWo.nil ?_) | ((with_reducible apply Then.n))))
  (refine AW.ret ?_; (repeat (first | refine Then.r ?_ | refine InBlk.r ?_)))
  exact ⟨_, rfl, [some { cells := [.int .i64 kd, .int .i64 n, .int .i64 k, w] }] ++ N1, by rw [List.append_nil, hN1, List.append_assoc]; rfl, by rw [List.append_nil]; exact hu.low (by simp)⟩
/-- Records that can be read. -/
def PaysR (M : AM) (v : Value) (ps : List (List UInt8)) : Prop := ∃ a o, Sl v a o ps.length ∧ a < M.length ∧ ∀ k, k < ps.length → ∃ u, Rd M a (o + k) u ∧ Byts M u (ps.getD k [])
theorem PaysR.old {M : AM} {v : Value} {ps : List (List UInt8)} (h : PaysR M v ps) (T : AM) : PaysR (M ++ T) v ps := by
  obtain ⟨a, o, h1, h2, h3⟩ := h
  refine ⟨a, o, h1, by simp; omega, fun k hk => ?_⟩
  obtain ⟨u, q1, q2⟩ := h3 k hk
  exact ⟨u, Rd.old T q1, q2.old T⟩
theorem PaysS.r {M : AM} {b0 : Nat} {v : Value} {ps : List (List UInt8)} (h : PaysS M b0 v ps) (hM : 0 < M.length) : PaysR M v ps := by
  obtain ⟨pc, hseg, hel⟩ := h
  obtain ⟨a, o, h1, h2, h3⟩ := hseg.rd hM
  refine ⟨a, o, h1, h2, fun k hk => ?_⟩
  obtain ⟨u, q1, q2, _⟩ := hel k hk
  have := h3 [] k u q1
  rw [List.append_nil] at this
  exact ⟨u, this, q2.byts hM⟩
theorem Pays.s {M : AM} {b0 : Nat} {v : Value} {ps : List (List UInt8)} (h : Pays M b0 v ps) : PaysS M b0 v ps := by
  obtain ⟨pc, hr, hel⟩ := h
  refine ⟨pc, Row.seg hr, fun k hk => ?_⟩
  obtain ⟨u, q1, q2, q3⟩ := hel k hk
  exact ⟨u, q1, q2, fun j hj => NotB.row hr (q3 j hj)⟩
theorem Pays.r {M : AM} {b0 : Nat} {v : Value} {ps : List (List UInt8)} (h : Pays M b0 v ps) (hM : 0 < M.length) : PaysR M v ps := h.s.r hM
theorem eq_take {α : Type} {l k : List α} (h : l.length = k.length) (he : ∀ j, j < l.length → l[j]? = k[j]?) : l = k := by
  refine List.ext_getElem? fun j => ?_
  rcases Nat.lt_or_ge j l.length with hj | hj
  · exact he j hj
  · rw [List.getElem?_eq_none hj, List.getElem?_eq_none (by omega)]
set_option maxHeartbeats 4000000 in
set_option maxRecDepth 100000 in
theorem EqualF_ok {m : AM} {v w : Value} {ps qs : List (List UInt8)} (hv : PaysR m v ps) (hw : PaysR m w qs) (hp : ps.length ≤ 4611686018427387904) (hq : qs.length ≤ 4611686018427387904) :
    ACall Try.prog 22 #[v, w, .func (.func 19) #[] #[]] m (Ret (.bool (decide (ps = qs))) m) := by
  obtain ⟨a1, o1, s1, l1, r1⟩ := hv
  obtain ⟨a2, o2, s2, l2, r2⟩ := hw
  refine ACall.drop (.bool _) ?_
  refine ACall.start Try.func22 rfl rfl ?_
  by_cases hl : ps.length = qs.length
  · (repeat (first | (with_reducible refine AWo.cons ?_) | ((with_reducible refine Step.id ?_); first | ((with_reducible apply Step.move); exact rfl; exact rfl) | ((with_reducible apply Step.assign); exact rfl; exact rfl) | ((with_reducible apply Step.neq); exact rfl; exact rfl; exact rfl) | ((with_reducible apply Step.len); exact rfl; (focus (assumption)); (focus (decide +kernel)); exact rfl)) | (with_reducible refine AWo.nil ?_) | ((with_reducible apply AW.seq)) | ((with_reducible apply Then.n)) | ((with_reducible apply AW.regL)) | ((with_reducible apply AW.block)) | ((with_reducible apply AW.skip)) | ((with_reducible apply AW.condF); exact rfl; (focus ((simp only [decide_eq_true_eq, decide_eq_false_iff_not, Bool.not_eq_true', Bool.not_eq_false', Bool.not_true, Bool.not_false]; first | assumption | omega))))))
    refine AW.midR 0 (fun t' M => ps = qs ∧ M = m) ?_ ?_
    · refine AW.loopW (fun q t M => ∃ k, q = ps.length - k ∧ k ≤ ps.length ∧ (∀ j, j < k → ps[j]? = qs[j]?) ∧ M = m ∧
        t = fr [(1, w), (2, .func (.func 19) #[] #[]), (15, v), (16, .int .i64 (ps.length : Nat)), (17, .int .i64 (k : Nat))]) ⟨_, _, (by repeat (first | exact trivial | (refine And.intro rfl ?_))), 0, rfl, Nat.zero_le _, fun j hj => absurd hj (Nat.not_lt_zero _), by simp, rfl⟩ ?_
      rintro q t M ⟨k, rfl, hk, he, rfl, rfl⟩
      refine AW.rebase ?_
      rcases Nat.lt_or_ge k ps.length with hlt | hge
      · obtain ⟨u1, x1, b1⟩ := r1 k hlt
        obtain ⟨u2, x2, b2⟩ := r2 k (by omega)
        have y1 := fun T => Rd.old T x1
        have y2 := fun T => Rd.old T x2
        have hE := Equal_ok b1 b2
        have e1 : ps[k]? = some (ps.getD k []) := by rw [List.getD_eq_getElem?_getD, List.getElem?_eq_getElem hlt]; rfl
        have e2 : qs[k]? = some (qs.getD k []) := by rw [List.getD_eq_getElem?_getD, List.getElem?_eq_getElem (by omega)]; rfl
        generalize ps.getD k [] = p at *
        generalize qs.getD k [] = q at *
        (repeat (first | (with_reducible refine AWo.cons ?_) | ((with_reducible refine Step.id ?_); first | ((with_reducible apply Step.move); exact rfl; exact rfl) | ((with_reducible apply Step.assign); exact rfl; exact rfl) | ((with_reducible apply Step.load); exact rfl; (focus (decide +kernel)); exact rfl; (focus (first | exact y1 _ | exact y2 _))) | ((with_reducible apply Step.ix1); exact rfl; (focus (assumption)); exact rfl; (focus (decide +kernel)); exact rfl; (focus (omega))) | ((with_reducible apply Step.lss); exact rfl; exact rfl; exact rfl)) | (with_reducible refine AWo.nil ?_) | ((with_reducible apply AW.seq)) | ((with_reducible apply Then.n)) | ((with_reducible apply AW.regL)) | ((with_reducible apply AW.block)) | ((with_reducible apply AW.skip)) | ((with_reducible apply AW.condT); exact rfl; (focus ((simp only [decide_eq_true_eq, decide_eq_false_iff_not, Bool.not_eq_true', Bool.not_eq_false', Bool.not_true, Bool.not_false]; first | assumption | omega))))))
        ((with_reducible apply Step.callV fit); exact rfl; exact rfl; exact Try.func19; exact rfl; exact rfl; (focus (rw [List.append_nil]; exact hE)))
        by_cases e : p = q
        · have eb : (p == q) = true := by rw [e]; simp
          rw [eb]
          (repeat (first | (with_reducible refine AWo.cons ?_) | ((with_reducible refine Step.id ?_); first | ((with_reducible apply Step.move); exact rfl; exact rfl) | ((with_reducible apply Step.add); exact rfl; exact rfl; (focus (omega)); exact rfl) | ((with_reducible apply Step.not); exact rfl; exact rfl)) | (with_reducible refine AWo.nil ?_) | ((with_reducible apply Then.n)) | ((with_reducible apply AW.regL)) | ((with_reducible apply InBlk.n)) | ((with_reducible apply AW.skip)) | ((with_reducible apply AW.condF); exact rfl; (focus (rfl)))))
          exact ⟨_, [(1, w), (2, .func (.func 19) #[] #[]), (15, v), (16, .int .i64 (ps.length : Nat)), (17, .int .i64 (k + 1 : Nat))], by omega, (by repeat (first | exact trivial | (refine And.intro rfl ?_))), k + 1, rfl, by omega, fun j hj => by
            rcases Nat.lt_succ_iff_lt_or_eq.1 hj with h | h
            · exact he j h
            · rw [h, e1, e2, e], by simp, rfl⟩
        · have eb : (p == q) = false := by simp [e]
          rw [eb]
          (repeat (first | (with_reducible refine AWo.cons ?_) | ((with_reducible refine Step.id ?_); first | ((with_reducible apply Step.assign); exact rfl; exact rfl) | ((with_reducible apply Step.not); exact rfl; exact rfl)) | (with_reducible refine AWo.nil ?_) | ((with_reducible apply AW.seq)) | ((with_reducible apply Then.n)) | ((with_reducible apply AW.regL)) | ((with_reducible apply AW.condT); exact rfl; (focus (rfl)))))
          (refine AW.ret ?_; (repeat (first | refine Then.r ?_ | refine InBlk.r ?_)))
          refine MidR.r ?_
          exact ⟨_, rfl, by
            have : ps ≠ qs := fun h => e (by rw [h] at e1; rw [e1] at e2; injection e2)
            simp [this], _, rfl⟩
      · obtain rfl : k = ps.length := by omega
        (repeat (first | (with_reducible refine AWo.cons ?_) | ((with_reducible refine Step.id ?_); ((with_reducible apply Step.lss); exact rfl; exact rfl; exact rfl)) | (with_reducible refine AWo.nil ?_) | ((with_reducible apply AW.seq)) | ((with_reducible apply Then.n)) | ((with_reducible apply AW.regL)) | ((with_reducible apply AW.exit)) | ((with_reducible apply Then.e)) | ((with_reducible apply AW.condF); exact rfl; (focus ((simp only [decide_eq_true_eq, decide_eq_false_iff_not, Bool.not_eq_true', Bool.not_eq_false', Bool.not_true, Bool.not_false]; first | assumption | omega))))))
        refine MidR.e ?_
        exact ⟨eq_take hl he, by simp⟩
    · rintro t' M ⟨rfl, rfl⟩
      refine InBlk.hit ?_
      refine Then.n ?_
      (repeat (first | (with_reducible refine AWo.cons ?_) | ((with_reducible refine Step.id ?_); ((with_reducible apply Step.assign); exact rfl; exact rfl)) | (with_reducible refine AWo.nil ?_) | ((with_reducible apply AW.seq)) | ((with_reducible apply Then.n)) | ((with_reducible apply AW.regL))))
      (refine AW.ret ?_; (repeat (first | refine Then.r ?_ | refine InBlk.r ?_)))
      exact ⟨_, rfl, by simp, [], by simp⟩
  · (repeat (first | (with_reducible refine AWo.cons ?_) | ((with_reducible refine Step.id ?_); first | ((with_reducible apply Step.move); exact rfl; exact rfl) | ((with_reducible apply Step.assign); exact rfl; exact rfl) | ((with_reducible apply Step.neq); exact rfl; exact rfl; exact rfl) | ((with_reducible apply Step.len); exact rfl; (focus (assumption)); (focus (decide +kernel)); exact rfl)) | (with_reducible refine AWo.nil ?_) | ((with_reducible apply AW.seq)) | ((with_reducible apply Then.n)) | ((with_reducible apply AW.regL)) | ((with_reducible apply AW.condT); exact rfl; (focus ((simp only [decide_eq_true_eq, decide_eq_false_iff_not, Bool.not_eq_true', Bool.not_eq_false', Bool.not_true, Bool.not_false]; first | assumption | omega))))))
    (refine AW.ret ?_; (repeat (first | refine Then.r ?_ | refine InBlk.r ?_)))
    exact ⟨_, rfl, by
      have : ps ≠ qs := fun h => hl (by rw [h])
      simp [this], _, rfl⟩
set_option maxHeartbeats 16000000 in
set_option maxRecDepth 100000 in
theorem has_ok {m : AM} {lg dk : Nat} {L : Lg} {sv rv sv' rv' : Value} {s : List UInt8} {ps : List (List UInt8)} (h : LogAt m lg dk L sv rv) (hs : Byts m sv' s) (hp : PaysR m rv' ps) (l1 : L.c.snap.length ≤ 1000000000) (l2 : L.c.recs.length ≤ 1000000000) (l3 : ∀ p ∈ L.c.recs, p.length ≤ 1000000000) (l4 : ps.length ≤ 1000000000) :
    ACall Try.prog 55 #[.pointer (some ⟨lg, 0, none⟩), .agg #[sv', rv']] m (Ret (.bool (decide (L.c.snap = s ∧ L.c.recs = ps))) m) := by
  have hll := h.lt
  have hw1 : (Value.agg #[sv', rv']).cells.all (·.oneCell') = true := by
    show (#[sv', rv']).all (·.oneCell') = true
    simp only [← Array.all_toList, List.all_cons]
    obtain ⟨_, _, h1, _⟩ := hs
    obtain ⟨_, _, h2, _⟩ := hp
    rcases h1 with ⟨rfl, _⟩ | ⟨c, _, rfl⟩ | ⟨_, _, _, rfl⟩ <;> rcases h2 with ⟨rfl, _⟩ | ⟨c, _, rfl⟩ | ⟨_, _, _, rfl⟩ <;> rfl
  refine ACall.drop (.bool _) ?_
  refine ACall.start Try.func55 rfl rfl ?_
  obtain ⟨X, hX⟩ : ∃ X : AM, X = m ++ [some { cells := [sv', rv'] }] := ⟨_, rfl⟩
  have hbX : X[m.length + 0]? = some (some { cells := [sv', rv'] }) := by rw [hX, get_app]; rfl
  have hLX : LogAt X lg dk L sv rv := by rw [hX]; exact h.old _
  have hSn := Snap_ok hLX l1
  by_cases e1 : L.c.snap = s
  · (repeat' (first | (with_reducible refine AWo.cons ?_) | ((with_reducible refine Step.id ?_); first | ((with_reducible apply Step.move); exact rfl; exact rfl) | ((with_reducible apply Step.assign); exact rfl; exact rfl) | ((with_reducible apply Step.load); exact rfl; (focus (decide +kernel)); exact rfl; (focus (exact Rd.new rfl rfl))) | ((with_reducible apply Step.field0); exact rfl; (focus (decide +kernel)); exact rfl) | ((with_reducible apply Step.box 0); exact rfl; exact rfl; (focus (first | assumption | exact hw1)); exact rfl; (focus (first | (simp only [List.nil_append, List.cons_append, List.set_cons_zero, List.set_cons_succ, iv_set, bv_set, iv_rep, bv_rep]; done) | (simp only [List.nil_append, List.cons_append, List.set_cons_zero, List.set_cons_succ, iv_set, bv_set, iv_rep, bv_rep]; rfl) | rfl)))) | (with_reducible refine AWo.nil ?_) | ((with_reducible apply AW.seq)) | ((with_reducible apply Then.n)) | ((with_reducible apply AW.regL)) | ((with_reducible apply AW.drawT fit (T := (.step 0 (.step 2 (.both (.step 1 (.step 3 (.step 4 (.step 5 (.step 6 (.step 8 (.both (.step 7 (.step 9 (.step 10 (.step 11 (.step 12 .done))))) (.step 9 (.step 7 (.step 10 (.step 11 (.step 12 .done)))))))))))) (.step 3 (.step 1 (.step 4 (.step 5 (.step 6 (.step 8 (.both (.step 7 (.step 9 (.step 10 (.step 11 (.step 12 .done))))) (.step 9 (.step 7 (.step 10 (.step 11 (.step 12 .done))))))))))))))))); (focus (decide +kernel))) | ((with_reducible apply AWt.step); exact rfl) | refine AWt.both ?_ ?_))
    all_goals
      rw [show (m ++ [some { cells := (Value.agg #[sv', rv']).cells.toList }] : AM) = X from hX.symm]
      ((with_reducible apply Step.callX fit); exact rfl; exact Try.func56; exact rfl; exact rfl; exact hSn)
      rintro u1 M1 ⟨N1, hN1⟩ hu1
      have rd0 : ∀ T, Rd (M1 ++ T) (m.length + 0) 0 sv' := fun T => Rd.old T ⟨_, by rw [hN1]; exact get_old N1 hbX, rfl⟩
      have rd1 : ∀ T, Rd (M1 ++ T) (m.length + 0) 1 rv' := fun T => Rd.old T ⟨_, by rw [hN1]; exact get_old N1 hbX, rfl⟩
      have hE : ∀ T, ACall Try.prog 19 #[u1, sv'] (M1 ++ T) (Ret (.bool true) (M1 ++ T)) := fun T => by
        have := Equal_ok ((hu1.byts (by rw [hN1, hX]; simp; omega)).old T) (show Byts (M1 ++ T) sv' s by rw [hN1, hX]; exact ((hs.old _).old _).old _)
        rwa [show (L.c.snap == s) = true by simp [e1]] at this
      have hRc := Recs_ok (m := M1) (by rw [hN1]; exact hLX.old N1) l2 l3
      (repeat' (first | ((with_reducible refine Step.id ?_); first | ((with_reducible apply Step.gdT); exact rfl; exact rfl; (focus (rfl))) | ((with_reducible apply Step.move); exact rfl; exact rfl) | ((with_reducible apply Step.load); exact rfl; (focus (decide +kernel)); exact rfl; (focus (first | exact rd0 _ | exact rd1 _))) | ((with_reducible apply Step.field (k := 1)); exact rfl; (focus (decide +kernel)); exact rfl) | ((with_reducible apply Step.callR fit); exact rfl; exact Try.func19; exact rfl; exact rfl; exact (hE _))) | ((with_reducible apply AWt.step); exact rfl) | refine AWt.both ?_ ?_))
      all_goals
        ((with_reducible apply Step.callX fit); exact rfl; exact Try.func57; exact rfl; exact rfl; (focus (rw [List.append_nil]; exact hRc)))
        rintro u2 M2 ⟨N2, hN2⟩ hu2
        rw [List.append_nil] at hN2
        have rd2 : ∀ T, Rd (M2 ++ T) (m.length + 0) 1 rv' := fun T => Rd.old T ⟨_, by rw [hN2, hN1]; exact get_old N2 (get_old N1 hbX), rfl⟩
        have hEF : ∀ T, ACall Try.prog 22 #[u2, rv', .func (.func 19) #[] #[]] (M2 ++ T) (Ret (.bool (decide (L.c.recs = ps))) (M2 ++ T)) := fun T => EqualF_ok ((hu2.r (by rw [hN2, hN1, hX]; simp; omega)).old T) (by rw [hN2, hN1, hX]; exact (((hp.old _).old _).old _).old _) (by omega) (by omega)
        (repeat' (first | ((with_reducible refine Step.id ?_); first | ((with_reducible apply Step.gdT); exact rfl; exact rfl; (focus (rfl))) | ((with_reducible apply Step.assign); exact rfl; exact rfl) | ((with_reducible apply Step.load); exact rfl; (focus (decide +kernel)); exact rfl; (focus (exact rd2 _))) | ((with_reducible apply Step.pickT); exact rfl; exact rfl; exact rfl; exact rfl; (focus (rfl))) | ((with_reducible apply Step.callR fit); exact rfl; exact Try.func22; exact rfl; exact rfl; exact (hEF _))) | ((with_reducible apply Then.n)) | ((with_reducible apply AWt.step); exact rfl) | ((with_reducible apply AWt.done))))
        all_goals
          (refine AW.ret ?_; (repeat (first | refine Then.r ?_ | refine InBlk.r ?_)))
          exact ⟨_, rfl, by simp [e1], [some { cells := [sv', rv'] }] ++ (N1 ++ N2), by rw [List.append_nil, hN2, hN1, hX]; simp only [List.append_assoc]⟩
  · (repeat' (first | (with_reducible refine AWo.cons ?_) | ((with_reducible refine Step.id ?_); first | ((with_reducible apply Step.move); exact rfl; exact rfl) | ((with_reducible apply Step.assign); exact rfl; exact rfl) | ((with_reducible apply Step.load); exact rfl; (focus (decide +kernel)); exact rfl; (focus (exact Rd.new rfl rfl))) | ((with_reducible apply Step.field0); exact rfl; (focus (decide +kernel)); exact rfl) | ((with_reducible apply Step.box 0); exact rfl; exact rfl; (focus (first | assumption | exact hw1)); exact rfl; (focus (first | (simp only [List.nil_append, List.cons_append, List.set_cons_zero, List.set_cons_succ, iv_set, bv_set, iv_rep, bv_rep]; done) | (simp only [List.nil_append, List.cons_append, List.set_cons_zero, List.set_cons_succ, iv_set, bv_set, iv_rep, bv_rep]; rfl) | rfl)))) | (with_reducible refine AWo.nil ?_) | ((with_reducible apply AW.seq)) | ((with_reducible apply Then.n)) | ((with_reducible apply AW.regL)) | ((with_reducible apply AW.drawT fit (T := (.step 0 (.step 2 (.both (.step 1 (.step 3 (.step 4 (.step 5 (.step 6 (.step 8 (.both (.step 7 (.step 9 (.step 10 (.step 11 (.step 12 .done))))) (.step 9 (.step 7 (.step 10 (.step 11 (.step 12 .done)))))))))))) (.step 3 (.step 1 (.step 4 (.step 5 (.step 6 (.step 8 (.both (.step 7 (.step 9 (.step 10 (.step 11 (.step 12 .done))))) (.step 9 (.step 7 (.step 10 (.step 11 (.step 12 .done))))))))))))))))); (focus (decide +kernel))) | ((with_reducible apply AWt.step); exact rfl) | refine AWt.both ?_ ?_))
    all_goals
      rw [show (m ++ [some { cells := (Value.agg #[sv', rv']).cells.toList }] : AM) = X from hX.symm]
      ((with_reducible apply Step.callX fit); exact rfl; exact Try.func56; exact rfl; exact rfl; exact hSn)
      rintro u1 M1 ⟨N1, hN1⟩ hu1
      have rd0 : ∀ T, Rd (M1 ++ T) (m.length + 0) 0 sv' := fun T => Rd.old T ⟨_, by rw [hN1]; exact get_old N1 hbX, rfl⟩
      have hE : ∀ T, ACall Try.prog 19 #[u1, sv'] (M1 ++ T) (Ret (.bool false) (M1 ++ T)) := fun T => by
        have := Equal_ok ((hu1.byts (by rw [hN1, hX]; simp; omega)).old T) (show Byts (M1 ++ T) sv' s by rw [hN1, hX]; exact ((hs.old _).old _).old _)
        rwa [show (L.c.snap == s) = false by simp [e1]] at this
      (repeat' (first | ((with_reducible refine Step.id ?_); first | ((with_reducible apply Step.gdF); exact rfl; exact rfl; (focus (rfl))) | ((with_reducible apply Step.move); exact rfl; exact rfl) | ((with_reducible apply Step.assign); exact rfl; exact rfl) | ((with_reducible apply Step.load); exact rfl; (focus (decide +kernel)); exact rfl; (focus (exact rd0 _))) | ((with_reducible apply Step.pickF); exact rfl; exact rfl; exact rfl; exact rfl; (focus (rfl))) | ((with_reducible apply Step.callR fit); exact rfl; exact Try.func19; exact rfl; exact rfl; exact (hE _))) | ((with_reducible apply Then.n)) | ((with_reducible apply AWt.step); exact rfl) | ((with_reducible apply AWt.done)) | refine AWt.both ?_ ?_))
      all_goals
        (refine AW.ret ?_; (repeat (first | refine Then.r ?_ | refine InBlk.r ?_)))
        exact ⟨_, rfl, by simp [e1], [some { cells := [sv', rv'] }] ++ N1, by rw [List.append_nil, hN1, hX]; simp only [List.append_assoc]⟩
end Go.Proofs.Ytabdnepfcohncaa.Abs
namespace Go.Proofs.Ytabdnepfcohncaa.Abs
set_option linter.unusedSimpArgs false
set_option linter.unusedVariables false
open Go.RowKit
open Go.Proofs.Ytabdnepfcohncaa.Sim
open Go.Proofs
theorem spF_on {D : Dk} (ho : D.off = false) (hf : D.fused = false) : spF D = (true, D) := by
  unfold spF
  rw [ho, hf]
  rfl
/-- An area is written when the power is on. -/
theorem wrF_on {D : Dk} (ho : D.off = false) (hf : D.fused = false) {n : Nat} (hn : n < 2) {c : Cont} (hl : (encB c).length ≤ D.most) : wrF D (n : Nat) c = (0, D.put n ⟨encB c, (encB c).length⟩) := by
  have hi : inA ((n : Nat) : Int) := ⟨by omega, by omega⟩
  have e1 : clF D (n : Nat) = (0, D.put n ⟨[], 0⟩) := by
    unfold clF
    rw [if_pos hi, spF_on ho hf, if_pos rfl]
    rfl
  have h2o : (D.put n ⟨[], 0⟩).off = false := by unfold Dk.put; split <;> exact ho
  have h2f : (D.put n ⟨[], 0⟩).fused = false := by unfold Dk.put; split <;> exact hf
  have e2 : apF (D.put n ⟨[], 0⟩) (n : Nat) (encB c) = (0, D.put n ⟨encB c, 0⟩) := by
    unfold apF
    rw [if_pos hi, spF_on h2o h2f]
    rcases (show n = 0 ∨ n = 1 by omega) with rfl | rfl
    · exact (if_neg (by show ¬ D.most - 0 < _; omega)).trans (if_pos rfl)
    · exact (if_neg (by show ¬ D.most - 0 < _; omega)).trans (if_pos rfl)
  have h3o : (D.put n ⟨encB c, 0⟩).off = false := by unfold Dk.put; split <;> exact ho
  have h3f : (D.put n ⟨encB c, 0⟩).fused = false := by unfold Dk.put; split <;> exact hf
  have e3 : syF (D.put n ⟨encB c, 0⟩) (n : Nat) = (0, D.put n ⟨encB c, (encB c).length⟩) := by
    unfold syF
    rw [if_pos hi, spF_on h3o h3f, if_pos rfl]
    rcases (show n = 0 ∨ n = 1 by omega) with rfl | rfl <;> rfl
  unfold wrF
  rw [e1]
  simp only
  rw [if_neg (fun e => e rfl), e2]
  simp only
  rw [if_neg (fun e => e rfl), e3]
theorem frames_nil : frames [] = ([], []) := rfl
theorem parseF_whole {c : Cont} (h1 : 1 ≤ c.gen) (h2 : c.gen ≤ 4611686018427387904) (hs : c.snap.length ≤ 65536) (hr : ∀ p ∈ c.recs, p.length ≤ 65536) (hc : c.recs.length ≤ 4000000000) : parseF (encB c) = some (c, 0) := by
  have := parseF_enc h1 h2 hs hr hc [] (fun _ _ => trivial)
  rw [List.append_nil, frames_nil] at this
  simpa using this
end Go.Proofs.Ytabdnepfcohncaa.Abs
namespace Go.Proofs.Ytabdnepfcohncaa.Abs
set_option linter.unusedSimpArgs false
set_option linter.unusedVariables false
open Go.RowKit
open Go.Proofs.Ytabdnepfcohncaa.Sim
open Go.Proofs
theorem frStep_part {p : List UInt8} (h : p.length ≤ 65536) {j : Nat} (hj : j < (frB p).length) : frStep ((frB p).take j) = none := by
  rw [frB_len] at hj
  have hl : ((frB p).take j).length = j := by rw [List.length_take, frB_len]; omega
  unfold frStep
  by_cases h8 : j < 8
  · rw [if_pos (by omega)]
  · have e4 : ((frB p).take j).take 4 = be p.length 4 := by
      have := frB_take4 p []
      rw [List.append_nil] at this
      rw [List.take_take, show min 4 j = 4 by omega]
      exact this
    rw [if_neg (by omega), e4, numB_len4 h, if_neg (by omega), if_pos (by omega)]
theorem frames_take : ∀ (ps : List (List UInt8)) (k : Nat), (∀ p ∈ ps, p.length ≤ 65536) → ∃ i, (frames ((ps.flatMap frB).take k)).1 = ps.take i ∧ (k < (ps.flatMap frB).length → i < ps.length)
  | [], k, _ => ⟨0, by simp [frames_nil], fun h => by simp at h⟩
  | p :: ps, k, h => by
    have hp := h p List.mem_cons_self
    rw [List.flatMap_cons]
    by_cases hk : k < (frB p).length
    · rw [List.take_append_of_le_length (by omega), frames_none (frStep_part hp hk)]
      exact ⟨0, by simp, fun _ => by simp⟩
    · obtain ⟨i, h1, h2⟩ := frames_take ps (k - (frB p).length) fun q hq => h q (List.mem_cons_of_mem _ hq)
      rw [List.take_append, List.take_of_length_le (by omega), frames_cons hp, h1]
      refine ⟨i + 1, by simp, fun hl => ?_⟩
      rw [List.length_append] at hl
      have := h2 (by omega)
      simp; omega
theorem encB_flat (c : Cont) : encB c = (hdB c :: c.snap :: c.recs).flatMap frB := by simp [encB]
theorem hdB_drop (c : Cont) : (hdB c).drop 8 = be c.recs.length 4 := by
  unfold hdB
  rw [List.drop_append_of_le_length (by rw [be_len]; omega), List.drop_eq_nil_of_le (by rw [be_len]; omega), List.nil_append]
/-- A part of an area is not whole. -/
theorem parseF_cut {c : Cont} (hs : c.snap.length ≤ 65536) (hr : ∀ p ∈ c.recs, p.length ≤ 65536) (hc : c.recs.length ≤ 4000000000) {k : Nat} (hk : k < (encB c).length) : parseF ((encB c).take k) = none := by
  have hh := hdB_len c
  have hall : ∀ p ∈ hdB c :: c.snap :: c.recs, p.length ≤ 65536 := by
    intro p hp
    rcases List.mem_cons.1 hp with rfl | hp
    · omega
    · rcases List.mem_cons.1 hp with rfl | hp
      · exact hs
      · exact hr p hp
  rw [encB_flat] at hk ⊢
  obtain ⟨i, h1, h2⟩ := frames_take _ k hall
  have hi := h2 hk
  simp only [List.length_cons] at hi
  have n2 : numB (be c.recs.length 4) = c.recs.length := numB_be 4 _ (by omega)
  unfold parseF
  rw [h1]
  match i, hi with
  | 0, _ => rfl
  | 1, _ => rfl
  | i + 2, hi =>
    simp only [List.take_succ_cons]
    rw [hdB_drop, n2, if_neg]
    rintro ⟨_, _, _, e⟩
    rw [List.length_take] at e
    omega
theorem parseF_nil : parseF [] = none := rfl
/-- Bytes behind a whole area. -/
theorem parseF_more {l : List UInt8} {c : Cont} (h : parseF l = some (c, 0)) (t : List UInt8) : parseF (l ++ t) = some (⟨c.gen, c.snap, c.recs ++ (frames t).1⟩, (frames t).2.length) := by
  obtain ⟨e1, e2⟩ := frames_eq l
  unfold parseF at h
  generalize hps : (frames l).1 = ps at *
  match ps, h with
  | h0 :: s :: rs, h =>
    simp only at h
    split at h
    · rename_i hc
      simp only [Option.some.injEq, Prod.mk.injEq] at h
      obtain ⟨rfl, h0'⟩ := h
      have hr := List.eq_nil_of_length_eq_zero h0'
      rw [hr, List.append_nil] at e1
      have := frames_app (h0 :: s :: rs) t e2
      rw [← e1] at this
      unfold parseF
      rw [this]
      simp only [List.cons_append]
      rw [if_pos ⟨hc.1, hc.2.1, hc.2.2.1, by rw [List.length_append]; omega⟩]
    · cases h
theorem frames_one {p : List UInt8} (h : p.length ≤ 65536) (j : Nat) : (frames ((frB p).take j)).1 = [] ∨ (frB p).length ≤ j ∧ frames ((frB p).take j) = ([p], []) := by
  by_cases hj : j < (frB p).length
  · rw [frames_none (frStep_part h hj)]
    exact .inl rfl
  · refine .inr ⟨by omega, ?_⟩
    rw [List.take_of_length_le (by omega)]
    have := frames_cons h []
    rw [List.append_nil] at this
    rw [this, frames_nil]
/-- What an area says. -/
def Cont.cc (c : Cont) : List UInt8 × List (List UInt8) := (c.snap, c.recs)
theorem ar_put {D : Dk} {n : Nat} {x : Ar} : (D.put n x).ar n = x := by
  unfold Dk.put Dk.ar
  split <;> rfl
theorem ar_put2 {D : Dk} {n : Nat} {x : Ar} (hn : n < 2) : (D.put n x).ar (1 - n) = D.ar (1 - n) := by
  rcases (show n = 0 ∨ n = 1 by omega) with rfl | rfl <;> rfl
theorem put_off {D : Dk} {n : Nat} {x : Ar} : (D.put n x).off = D.off ∧ (D.put n x).fused = D.fused ∧ (D.put n x).most = D.most := by
  unfold Dk.put
  split <;> exact ⟨rfl, rfl, rfl⟩
structure Same (D E : Dk) : Prop where
  a : ∀ n, E.ar n = D.ar n
  m : E.most = D.most
  f : E.fused = D.fused
theorem Same.of {D E : Dk} (h0 : E.a0 = D.a0) (h1 : E.a1 = D.a1) (m : E.most = D.most) (f : E.fused = D.fused) : Same D E := ⟨fun n => by unfold Dk.ar; rw [h0, h1], m, f⟩
theorem spF_cases {D : Dk} (ho : D.off = false) : (∃ E, spF D = (true, E) ∧ E.off = false ∧ Same D E) ∨ ∃ E, spF D = (false, E) ∧ E.off = true ∧ Same D E ∧ D.fused = true := by
  unfold spF
  rw [if_neg (by rw [ho]; simp)]
  by_cases hf : D.fused = true
  · rw [if_pos hf]
    split
    · exact .inr ⟨_, rfl, rfl, .of rfl rfl rfl rfl, hf⟩
    · exact .inl ⟨_, rfl, ho, .of rfl rfl rfl rfl⟩
  · rw [if_neg hf]
    exact .inl ⟨_, rfl, ho, .of rfl rfl rfl rfl⟩
/-- What a write leaves. -/
theorem wr_cases {D : Dk} (ho : D.off = false) {n : Nat} (hn : n < 2) (c : Cont) :
    ((wrF D (n : Nat) c).1 = 0 ∧ (wrF D (n : Nat) c).2.off = false ∧ (wrF D (n : Nat) c).2.ar n = ⟨encB c, (encB c).length⟩ ∧ (wrF D (n : Nat) c).2.ar (1 - n) = D.ar (1 - n)) ∨
    ((wrF D (n : Nat) c).1 = 13 ∧ D.most < (encB c).length ∧ (wrF D (n : Nat) c).2.off = false ∧ (wrF D (n : Nat) c).2.ar n = ⟨[], 0⟩ ∧ (wrF D (n : Nat) c).2.ar (1 - n) = D.ar (1 - n)) ∨
    ((wrF D (n : Nat) c).1 = 14 ∧ D.fused = true ∧ ((wrF D (n : Nat) c).2.ar n = D.ar n ∨ (wrF D (n : Nat) c).2.ar n = ⟨[], 0⟩ ∨ (wrF D (n : Nat) c).2.ar n = ⟨encB c, 0⟩) ∧ (wrF D (n : Nat) c).2.ar (1 - n) = D.ar (1 - n)) := by
  have hi : inA ((n : Nat) : Int) := ⟨by omega, by omega⟩
  have hnn : ((n : Nat) : Int).toNat = n := rfl
  rcases spF_cases ho with ⟨E, e1, e2, e3⟩ | ⟨E, e1, e2, e3, e4⟩
  · have c1 : clF D (n : Nat) = (0, E.put n ⟨[], 0⟩) := by unfold clF; rw [if_pos hi, e1, if_pos rfl, hnn]
    obtain ⟨p1, p2, p3⟩ := put_off (D := E) (n := n) (x := ⟨[], 0⟩)
    have q1 : (E.put n ⟨[], 0⟩).ar n = ⟨[], 0⟩ := ar_put
    have q2 : (E.put n ⟨[], 0⟩).ar (1 - n) = D.ar (1 - n) := by rw [ar_put2 hn, e3.a]
    generalize E.put n ⟨[], 0⟩ = D1 at *
    by_cases hsz : D.most < (encB c).length
    · refine .inr (.inl ?_)
      have a1 : apF D1 (n : Nat) (encB c) = (13, D1) := by unfold apF; rw [if_pos hi, hnn, q1, if_pos (by show D1.most - 0 < _; rw [p3, e3.m]; omega)]
      unfold wrF
      rw [c1]
      simp only
      rw [if_neg (fun e => e rfl), a1]
      simp only
      rw [if_pos (by decide)]
      exact ⟨rfl, hsz, by rw [p1]; exact e2, q1, q2⟩
    · rcases spF_cases (D := D1) (by rw [p1]; exact e2) with ⟨F, f1, f2, f3⟩ | ⟨F, f1, f2, f3, f4⟩
      · have a1 : apF D1 (n : Nat) (encB c) = (0, F.put n ⟨encB c, 0⟩) := by unfold apF; rw [if_pos hi, hnn, q1, if_neg (by show ¬ D1.most - 0 < _; rw [p3, e3.m]; omega), f1, if_pos rfl]; rfl
        obtain ⟨r1, r2, r3⟩ := put_off (D := F) (n := n) (x := ⟨encB c, 0⟩)
        have s1 : (F.put n ⟨encB c, 0⟩).ar n = ⟨encB c, 0⟩ := ar_put
        have s2 : (F.put n ⟨encB c, 0⟩).ar (1 - n) = D.ar (1 - n) := by rw [ar_put2 hn, f3.a, q2]
        generalize F.put n ⟨encB c, 0⟩ = D2 at *
        rcases spF_cases (D := D2) (by rw [r1]; exact f2) with ⟨G, g1, g2, g3⟩ | ⟨G, g1, g2, g3, g4⟩
        · refine .inl ?_
          have b1 : syF D2 (n : Nat) = (0, G.put n ⟨encB c, (encB c).length⟩) := by unfold syF; rw [if_pos hi, hnn, s1, g1, if_pos rfl]
          unfold wrF
          rw [c1]
          simp only
          rw [if_neg (fun e => e rfl), a1]
          simp only
          rw [if_neg (fun e => e rfl), b1]
          exact ⟨rfl, by rw [put_off.1]; exact g2, ar_put, by rw [ar_put2 hn, g3.a, s2]⟩
        · refine .inr (.inr ?_)
          have b1 : syF D2 (n : Nat) = (14, G) := by unfold syF; rw [if_pos hi, g1, if_neg (by simp)]
          unfold wrF
          rw [c1]
          simp only
          rw [if_neg (fun e => e rfl), a1]
          simp only
          rw [if_neg (fun e => e rfl), b1]
          exact ⟨rfl, by rw [← e3.f, ← p2, ← f3.f, ← r2]; exact g4, .inr (.inr (by rw [g3.a, s1])), by rw [g3.a, s2]⟩
      · refine .inr (.inr ?_)
        have a1 : apF D1 (n : Nat) (encB c) = (14, F) := by unfold apF; rw [if_pos hi, hnn, q1, if_neg (by show ¬ D1.most - 0 < _; rw [p3, e3.m]; omega), f1, if_neg (by simp)]
        unfold wrF
        rw [c1]
        simp only
        rw [if_neg (fun e => e rfl), a1]
        simp only
        rw [if_pos (by decide)]
        exact ⟨rfl, by rw [← e3.f, ← p2]; exact f4, .inr (.inl (by rw [f3.a, q1])), by rw [f3.a, q2]⟩
  · refine .inr (.inr ?_)
    have c1 : clF D (n : Nat) = (14, E) := by unfold clF; rw [if_pos hi, e1, if_neg (by simp)]
    unfold wrF
    rw [c1]
    simp only
    rw [if_pos (by decide)]
    exact ⟨rfl, e4, .inl (e3.a n), e3.a _⟩
end Go.Proofs.Ytabdnepfcohncaa.Abs
namespace Go.Proofs.Ytabdnepfcohncaa.Abs
set_option linter.unusedSimpArgs false
set_option linter.unusedVariables false
open Go.RowKit
open Go.Proofs.Ytabdnepfcohncaa.Sim
open Go.Proofs
/-- A log with all its bytes safe. -/
structure Clean (D : Dk) (L : Lg) : Prop where
  n2 : L.at_ < 2
  on : D.off = false
  s : (D.ar L.at_).s = (D.ar L.at_).b.length
  p : parseF (D.ar L.at_).b = some (L.c, 0)
  o : ∀ k, (D.ar (1 - L.at_)).s ≤ k → ∀ c r, parseF ((D.ar (1 - L.at_)).b.take k) = some (c, r) → c.gen < L.c.gen
/-- A log whose power was lost in a call. -/
structure Dirty (D : Dk) (L : Lg) (mb : List UInt8 × List (List UInt8)) : Prop where
  n2 : L.at_ < 2
  p : ∀ k, (D.ar L.at_).s ≤ k → ∃ c r, parseF ((D.ar L.at_).b.take k) = some (c, r) ∧ c.gen = L.c.gen ∧ (c.cc = L.c.cc ∨ c.cc = mb)
  o : ∀ k, (D.ar (1 - L.at_)).s ≤ k → ∀ c r, parseF ((D.ar (1 - L.at_)).b.take k) = some (c, r) → c.gen < L.c.gen ∨ c.gen = L.c.gen + 1 ∧ c.cc = mb
theorem Clean.dirty {D : Dk} {L : Lg} (h : Clean D L) (mb : List UInt8 × List (List UInt8)) : Dirty D L mb :=
  ⟨h.n2, fun k hk => ⟨L.c, 0, by rw [List.take_of_length_le (by rw [← h.s]; exact hk)]; exact h.p, rfl, .inl rfl⟩, fun k hk c r e => .inl (h.o k hk c r e)⟩
/-- A disk after a crash: the area n is the younger one. -/
structure Stl (D : Dk) (n : Nat) (c : Cont) (r : Nat) : Prop where
  n2 : n < 2
  s : ∀ i, i < 2 → (D.ar i).s = (D.ar i).b.length
  p : parseF (D.ar n).b = some (c, r)
  o : ∀ c' r', parseF (D.ar (1 - n)).b = some (c', r') → c'.gen < c.gen
theorem crA_cut {x : Ar} (keep : Int) (h : x.s ≤ x.b.length) : ∃ K, x.s ≤ K ∧ K ≤ x.b.length ∧ crA x keep = ⟨x.b.take K, K⟩ :=
  ⟨(crA x keep).s, (crA_le h).2.2, (crA_le h).1, rfl⟩
theorem crF_ar (D : Dk) (k0 k1 : Int) (n : Nat) : (crF D k0 k1).ar n = crA (D.ar n) (if n = 0 then k0 else k1) := by
  unfold Dk.ar
  split <;> rfl
theorem OkD.s2 {D : Dk} (h : OkD D) (n : Nat) : (D.ar n).s ≤ (D.ar n).b.length ∧ (D.ar n).b.length ≤ D.most := by
  unfold Dk.ar
  split
  · exact ⟨h.s0, h.l0⟩
  · exact ⟨h.s1, h.l1⟩
theorem Dirty.crash {D : Dk} {L : Lg} {mb : List UInt8 × List (List UInt8)} (hD : OkD D) (h : Dirty D L mb) (k0 k1 : Int) : ∃ n c r, Stl (crF D k0 k1) n c r ∧ (c.cc = L.c.cc ∨ c.cc = mb) ∧ c.gen ≤ L.c.gen + 1 := by
  have cut : ∀ i, ∃ K, (D.ar i).s ≤ K ∧ K ≤ (D.ar i).b.length ∧ (crF D k0 k1).ar i = ⟨(D.ar i).b.take K, K⟩ := fun i => by
    rw [crF_ar]
    exact crA_cut _ (hD.s2 i).1
  have hs : ∀ i, i < 2 → ((crF D k0 k1).ar i).s = ((crF D k0 k1).ar i).b.length := fun i _ => by
    obtain ⟨K, _, h2, h3⟩ := cut i
    rw [h3]
    show K = ((D.ar i).b.take K).length
    rw [List.length_take]; omega
  obtain ⟨K, g1, g2, g3⟩ := cut L.at_
  obtain ⟨J, j1, j2, j3⟩ := cut (1 - L.at_)
  obtain ⟨c, r, e1, e2, e3⟩ := h.p K g1
  have ep : parseF ((crF D k0 k1).ar L.at_).b = some (c, r) := by rw [g3]; exact e1
  have n2 := h.n2
  cases ho : parseF ((D.ar (1 - L.at_)).b.take J) with
  | none => exact ⟨L.at_, c, r, ⟨n2, hs, ep, fun c' r' e => by rw [j3] at e; rw [show (⟨(D.ar (1 - L.at_)).b.take J, J⟩ : Ar).b = (D.ar (1 - L.at_)).b.take J from rfl, ho] at e; cases e⟩, e3, by omega⟩
  | some y =>
    obtain ⟨c2, r2⟩ := y
    rcases h.o J j1 c2 r2 ho with hlt | ⟨h1, h2⟩
    · exact ⟨L.at_, c, r, ⟨n2, hs, ep, fun c' r' e => by
        rw [j3] at e
        rw [show (⟨(D.ar (1 - L.at_)).b.take J, J⟩ : Ar).b = (D.ar (1 - L.at_)).b.take J from rfl, ho] at e
        simp only [Option.some.injEq, Prod.mk.injEq] at e
        rw [← e.1]; omega⟩, e3, by omega⟩
    · refine ⟨1 - L.at_, c2, r2, ⟨by omega, hs, by rw [j3]; exact ho, fun c' r' e => ?_⟩, .inr h2, by omega⟩
      rw [show 1 - (1 - L.at_) = L.at_ by omega, ep] at e
      simp only [Option.some.injEq, Prod.mk.injEq] at e
      rw [← e.1]; omega
theorem Stl.pick {D : Dk} {n : Nat} {c : Cont} {r : Nat} (h : Stl D n c r) : pickF D = some (c, n, decide (0 < r)) := by
  have hp := h.p
  have ho := h.o
  rcases (show n = 0 ∨ n = 1 by have := h.n2; omega) with rfl | rfl
  · have h0 : pick0 D = some (c, 0, decide (0 < r)) := by
      unfold pick0
      rw [show D.a0.b = (D.ar 0).b from rfl, hp]
      rfl
    unfold pickF
    rw [h0, show D.a1.b = (D.ar (1 - 0)).b from rfl]
    cases e : parseF (D.ar (1 - 0)).b with
    | none => rfl
    | some y =>
      obtain ⟨c', r'⟩ := y
      have := ho c' r' e
      exact if_neg (by omega)
  · unfold pickF
    rw [show D.a1.b = (D.ar 1).b from rfl, hp]
    unfold pick0
    rw [show D.a0.b = (D.ar (1 - 1)).b from rfl]
    cases e : parseF (D.ar (1 - 1)).b with
    | none => rfl
    | some y =>
      obtain ⟨c', r'⟩ := y
      have := ho c' r' e
      exact if_pos (by omega)
theorem openF_on {E : Dk} (h : E.off = false) : openF E = (match pickF E with
      | none => wrO E ⟨1, [], []⟩ 0
      | some (c, n, true) => if c.gen = 4611686018427387904 then (5, none, E) else wrO E ⟨c.gen + 1, c.snap, c.recs⟩ (1 - n)
      | some (c, n, false) => (0, some (c, n), E)) := by unfold openF; rw [if_neg (by rw [h]; simp)]; rfl
theorem Stl.open {D : Dk} {n : Nat} {c : Cont} {r : Nat} (hD : OkD D) (ho : D.off = false) (h : Stl D n c r) (hg : c.gen < 4611686018427387904) :
    (∃ c' n' D', openF D = (0, some (c', n'), D') ∧ Clean D' ⟨c', n', false⟩ ∧ c'.cc = c.cc ∧ c'.gen ≤ c.gen + 1) ∨
    ∃ D', openF D = (14, none, D') ∧ D.fused = true ∧ (OkD D' → ∀ k0 k1, ∃ n' c' r', Stl (crF D' k0 k1) n' c' r' ∧ c'.cc = c.cc ∧ c'.gen ≤ c.gen + 1) := by
  have hpk := h.pick
  have hop := openF_on ho
  rw [hpk] at hop
  have n2 := h.n2
  have hs := h.s
  by_cases hr : 0 < r
  · rw [show decide (0 < r) = true by simp [hr]] at hop
    simp only at hop
    rw [if_neg (by omega)] at hop
    obtain ⟨l1, l2, l3, l4, l5⟩ := parseF_len h.p
    have hal := (hD.s2 n).2
    have hhi := hD.hi
    have hcn := flat_cnt c.recs
    have hel := encB_len c
    have hel2 := encB_len ⟨c.gen + 1, c.snap, c.recs⟩
    simp only at hel2
    have hpw := parseF_whole (c := ⟨c.gen + 1, c.snap, c.recs⟩) (by simp) (by show c.gen + 1 ≤ _; omega) l4 l5 (by show c.recs.length ≤ _; omega)
    have hcut := fun k => parseF_cut (c := ⟨c.gen + 1, c.snap, c.recs⟩) l4 l5 (by show c.recs.length ≤ _; omega) (k := k)
    have nn : 1 - (1 - n) = n := by omega
    rcases wr_cases ho (n := 1 - n) (by omega) ⟨c.gen + 1, c.snap, c.recs⟩ with ⟨w1, w2, w3, w4⟩ | ⟨_, w2, _⟩ | ⟨w1, w2, w3, w4⟩
    · rw [nn] at w4
      refine .inl ⟨⟨c.gen + 1, c.snap, c.recs⟩, 1 - n, _, by rw [hop]; unfold wrO; rw [if_pos w1], ⟨by show 1 - n < 2; omega, w2, ?_, ?_, ?_⟩, rfl, Nat.le_refl _⟩
      · show ((wrF D ((1 - n : Nat) : Int) ⟨c.gen + 1, c.snap, c.recs⟩).2.ar (1 - n)).s = _
        rw [w3]
      · show parseF ((wrF D ((1 - n : Nat) : Int) ⟨c.gen + 1, c.snap, c.recs⟩).2.ar (1 - n)).b = _
        rw [w3]
        exact hpw
      · show ∀ k, ((wrF D ((1 - n : Nat) : Int) ⟨c.gen + 1, c.snap, c.recs⟩).2.ar (1 - (1 - n))).s ≤ k → ∀ c' r', parseF (((wrF D ((1 - n : Nat) : Int) ⟨c.gen + 1, c.snap, c.recs⟩).2.ar (1 - (1 - n))).b.take k) = some (c', r') → c'.gen < c.gen + 1
        rw [nn, w4]
        intro k hk c' r' e
        rw [List.take_of_length_le (by rw [← hs n n2]; exact hk), h.p] at e
        simp only [Option.some.injEq, Prod.mk.injEq] at e
        rw [← e.1]; omega
    · omega
    · rw [nn] at w4
      refine .inr ⟨(wrF D ((1 - n : Nat) : Int) ⟨c.gen + 1, c.snap, c.recs⟩).2, by rw [hop]; unfold wrO; rw [if_neg (by rw [w1]; decide), w1], w2, fun hD' k0 k1 => ?_⟩
      generalize (wrF D ((1 - n : Nat) : Int) ⟨c.gen + 1, c.snap, c.recs⟩).2 = E at *
      have cut : ∀ i, ∃ K, (E.ar i).s ≤ K ∧ K ≤ (E.ar i).b.length ∧ (crF E k0 k1).ar i = ⟨(E.ar i).b.take K, K⟩ := fun i => by
        rw [crF_ar]
        exact crA_cut _ (hD'.s2 i).1
      have hs' : ∀ i, i < 2 → ((crF E k0 k1).ar i).s = ((crF E k0 k1).ar i).b.length := fun i _ => by
        obtain ⟨K, _, h2, h3⟩ := cut i
        rw [h3]
        show K = ((E.ar i).b.take K).length
        rw [List.length_take]; omega
      obtain ⟨K, g1, g2, g3⟩ := cut n
      rw [w4] at g1 g2 g3
      have hsn := hs n n2
      rw [List.take_of_length_le (by omega)] at g3
      have ep : parseF ((crF E k0 k1).ar n).b = some (c, r) := by rw [g3]; exact h.p
      obtain ⟨J, j1, j2, j3⟩ := cut (1 - n)
      have quick : (∀ c' r', parseF ((crF E k0 k1).ar (1 - n)).b = some (c', r') → c'.gen < c.gen) → ∃ n' c' r', Stl (crF E k0 k1) n' c' r' ∧ c'.cc = c.cc ∧ c'.gen ≤ c.gen + 1 := fun q => ⟨n, c, r, ⟨n2, hs', ep, q⟩, rfl, by omega⟩
      rcases w3 with w3 | w3 | w3
      · rw [w3] at j1 j2 j3
        have hso := hs (1 - n) (by omega)
        rw [List.take_of_length_le (by omega)] at j3
        exact quick fun c' r' e => h.o c' r' (by rw [j3] at e; exact e)
      · rw [w3] at j3
        exact quick fun c' r' e => by
          rw [j3, show (⟨(⟨[], 0⟩ : Ar).b.take J, J⟩ : Ar).b = [] from List.take_nil, parseF_nil] at e
          cases e
      · rw [w3] at j1 j2 j3
        by_cases hJ : J < (encB ⟨c.gen + 1, c.snap, c.recs⟩).length
        · exact quick fun c' r' e => by
            rw [j3] at e
            rw [show (⟨(⟨encB ⟨c.gen + 1, c.snap, c.recs⟩, 0⟩ : Ar).b.take J, J⟩ : Ar).b = (encB ⟨c.gen + 1, c.snap, c.recs⟩).take J from rfl, hcut J hJ] at e
            cases e
        · have e2 : ((crF E k0 k1).ar (1 - n)).b = encB ⟨c.gen + 1, c.snap, c.recs⟩ := by
            rw [j3]
            exact List.take_of_length_le (by show (encB ⟨c.gen + 1, c.snap, c.recs⟩).length ≤ J; omega)
          refine ⟨1 - n, ⟨c.gen + 1, c.snap, c.recs⟩, 0, ⟨by omega, hs', by rw [e2]; exact hpw, fun c' r' e => ?_⟩, rfl, Nat.le_refl _⟩
          rw [nn, ep] at e
          simp only [Option.some.injEq, Prod.mk.injEq] at e
          rw [← e.1]
          show c.gen < c.gen + 1
          omega
  · obtain rfl : r = 0 := by omega
    refine .inl ⟨c, n, D, ?_, ⟨n2, ho, hs n n2, h.p, fun k hk c' r' e => ?_⟩, rfl, by omega⟩
    · rw [hop]
      rfl
    · change (D.ar (1 - n)).s ≤ k at hk
      rw [hs (1 - n) (by omega)] at hk
      change parseF ((D.ar (1 - n)).b.take k) = _ at e
      rw [List.take_of_length_le hk] at e
      exact h.o c' r' e
end Go.Proofs.Ytabdnepfcohncaa.Abs
namespace Go.Proofs.Ytabdnepfcohncaa.Abs
set_option linter.unusedSimpArgs false
set_option linter.unusedVariables false
open Go.RowKit
open Go.Proofs.Ytabdnepfcohncaa.Sim
open Go.Proofs
/-- A log and what may be found instead of it. -/
def KInv (D : Dk) (L : Lg) (mb : List UInt8 × List (List UInt8)) : Prop := L.down = false ∧ Clean D L ∨ L.down = true ∧ Dirty D L mb
theorem KInv.fuse {D : Dk} {L : Lg} {mb : List UInt8 × List (List UInt8)} (h : KInv D L mb) (k : Int) : KInv (fuF D k) L mb := by
  rcases h with ⟨h1, h⟩ | ⟨h1, h⟩
  · exact .inl ⟨h1, ⟨h.n2, h.on, h.s, h.p, h.o⟩⟩
  · exact .inr ⟨h1, ⟨h.n2, h.p, h.o⟩⟩
theorem Stl.fuse {D : Dk} {n : Nat} {c : Cont} {r : Nat} (h : Stl D n c r) (k : Int) : Stl (fuF D k) n c r := ⟨h.n2, h.s, h.p, h.o⟩
theorem KInv.crash {D : Dk} {L : Lg} {mb : List UInt8 × List (List UInt8)} (hD : OkD D) (h : KInv D L mb) (k0 k1 : Int) : ∃ n c r, Stl (crF D k0 k1) n c r ∧ (c.cc = L.c.cc ∨ c.cc = mb) ∧ c.gen ≤ L.c.gen + 1 := by
  rcases h with ⟨_, h⟩ | ⟨_, h⟩
  · exact (h.dirty mb).crash hD k0 k1
  · exact h.crash hD k0 k1
theorem metF_same {L : Lg} {e : Int} (h : L.down = false) (he : e ≠ 14) : metF L e = L := by
  cases L
  simp only at h
  subst h
  simp [metF, he]
theorem metF_down {L : Lg} : (metF L 14).down = true ∧ (metF L 14).c = L.c ∧ (metF L 14).at_ = L.at_ := by simp [metF]
/-- What Add and Rewrite leave: done, refused, or the power is lost. -/
def KQ (L : Lg) (nx : List UInt8 × List (List UInt8)) (mb : List UInt8 × List (List UInt8)) (o : Int × Dk × Lg) : Prop :=
  (o.1 = 0 ∧ o.2.2.c.cc = nx ∧ o.2.2.c.gen ≤ L.c.gen + 1 ∧ ∀ m', KInv o.2.1 o.2.2 m') ∨
  (o.1 ≠ 0 ∧ o.1 ≠ 14 ∧ o.2.2.c = L.c ∧ KInv o.2.1 o.2.2 mb) ∨
  (o.1 = 14 ∧ o.2.2.c = L.c ∧ KInv o.2.1 o.2.2 nx)
theorem add_law {D : Dk} {L : Lg} {mb : List UInt8 × List (List UInt8)} {p : List UInt8} (h : KInv D L mb) (hp : p.length ≤ 65536) : KQ L (L.c.snap, L.c.recs ++ [p]) mb (addF D L p) := by
  rcases h with ⟨hd, h⟩ | ⟨hd, h⟩
  · have hr : rdyF L p = 0 := by unfold rdyF; rw [if_neg (by rw [hd]; simp), if_neg (by omega)]
    have n2 := h.n2
    have hi : inA ((L.at_ : Nat) : Int) := ⟨by omega, by omega⟩
    have hnn : ((L.at_ : Nat) : Int).toNat = L.at_ := rfl
    unfold addF
    rw [if_neg (by rw [hr]; exact fun e => e rfl)]
    by_cases hsz : D.most - (D.ar L.at_).b.length < (frB p).length
    · have a1 : apF D (L.at_ : Nat) (frB p) = (13, D) := by unfold apF; rw [if_pos hi, hnn, if_pos hsz]
      rw [a1]
      simp only
      rw [if_pos (by decide), metF_same hd (by decide)]
      exact .inr (.inl ⟨by show (13 : Int) ≠ 0; decide, by show (13 : Int) ≠ 14; decide, rfl, .inl ⟨hd, h⟩⟩)
    · rcases spF_cases h.on with ⟨E, e1, e2, e3⟩ | ⟨E, e1, e2, e3, e4⟩
      · have a1 : apF D (L.at_ : Nat) (frB p) = (0, E.put L.at_ ⟨(D.ar L.at_).b ++ frB p, (D.ar L.at_).s⟩) := by unfold apF; rw [if_pos hi, hnn, if_neg hsz, e1, if_pos rfl]
        rw [a1]
        simp only
        rw [if_neg (fun e => e rfl)]
        obtain ⟨p1, p2, p3⟩ := put_off (D := E) (n := L.at_) (x := ⟨(D.ar L.at_).b ++ frB p, (D.ar L.at_).s⟩)
        have q1 : (E.put L.at_ ⟨(D.ar L.at_).b ++ frB p, (D.ar L.at_).s⟩).ar L.at_ = ⟨(D.ar L.at_).b ++ frB p, (D.ar L.at_).s⟩ := ar_put
        have q2 : (E.put L.at_ ⟨(D.ar L.at_).b ++ frB p, (D.ar L.at_).s⟩).ar (1 - L.at_) = D.ar (1 - L.at_) := by rw [ar_put2 n2, e3.a]
        generalize E.put L.at_ ⟨(D.ar L.at_).b ++ frB p, (D.ar L.at_).s⟩ = D1 at *
        rcases spF_cases (D := D1) (by rw [p1]; exact e2) with ⟨F, f1, f2, f3⟩ | ⟨F, f1, f2, f3, f4⟩
        · have b1 : syF D1 (L.at_ : Nat) = (0, F.put L.at_ ⟨(D.ar L.at_).b ++ frB p, ((D.ar L.at_).b ++ frB p).length⟩) := by unfold syF; rw [if_pos hi, hnn, q1, f1, if_pos rfl]
          rw [b1]
          simp only
          rw [if_neg (fun e => e rfl)]
          have r1 : (F.put L.at_ ⟨(D.ar L.at_).b ++ frB p, ((D.ar L.at_).b ++ frB p).length⟩).ar L.at_ = ⟨(D.ar L.at_).b ++ frB p, ((D.ar L.at_).b ++ frB p).length⟩ := ar_put
          have r2 : (F.put L.at_ ⟨(D.ar L.at_).b ++ frB p, ((D.ar L.at_).b ++ frB p).length⟩).ar (1 - L.at_) = D.ar (1 - L.at_) := by rw [ar_put2 n2, f3.a, q2]
          have r3 : (F.put L.at_ ⟨(D.ar L.at_).b ++ frB p, ((D.ar L.at_).b ++ frB p).length⟩).off = false := by rw [put_off.1]; exact f2
          generalize F.put L.at_ ⟨(D.ar L.at_).b ++ frB p, ((D.ar L.at_).b ++ frB p).length⟩ = D2 at *
          refine .inl ⟨rfl, rfl, by show L.c.gen ≤ _; omega, fun m' => .inl ⟨hd, ⟨n2, r3, ?_, ?_, ?_⟩⟩⟩
          · show (D2.ar L.at_).s = (D2.ar L.at_).b.length
            rw [r1]
          · show parseF (D2.ar L.at_).b = _
            rw [r1]
            have := parseF_more h.p (frB p)
            have e1 := frames_cons hp []
            rw [List.append_nil, frames_nil] at e1
            rw [e1] at this
            exact this
          · show ∀ k, (D2.ar (1 - L.at_)).s ≤ k → ∀ c r, parseF ((D2.ar (1 - L.at_)).b.take k) = some (c, r) → c.gen < L.c.gen
            rw [r2]
            exact h.o
        · have b1 : syF D1 (L.at_ : Nat) = (14, F) := by unfold syF; rw [if_pos hi, f1, if_neg (by simp)]
          rw [b1]
          simp only
          rw [if_pos (by decide)]
          obtain ⟨m1, m2, m3⟩ := metF_down (L := L)
          refine .inr (.inr ⟨rfl, m2, .inr ⟨m1, ⟨by rw [m3]; exact n2, ?_, ?_⟩⟩⟩)
          · rw [m3, m2, f3.a, q1]
            intro k hk
            change (D.ar L.at_).s ≤ k at hk
            show ∃ c r, parseF (((D.ar L.at_).b ++ frB p).take k) = some (c, r) ∧ _
            rw [h.s] at hk
            rw [List.take_append, List.take_of_length_le hk, parseF_more h.p]
            rcases frames_one hp (k - (D.ar L.at_).b.length) with e | ⟨_, e⟩
            · exact ⟨_, _, rfl, rfl, .inl (by show (L.c.snap, L.c.recs ++ _) = _; rw [e, List.append_nil]; rfl)⟩
            · exact ⟨_, _, rfl, rfl, .inr (by show (L.c.snap, L.c.recs ++ _) = _; rw [e])⟩
          · rw [m3, m2, f3.a, q2]
            exact fun k hk c r e => .inl (h.o k hk c r e)
      · have a1 : apF D (L.at_ : Nat) (frB p) = (14, E) := by unfold apF; rw [if_pos hi, hnn, if_neg hsz, e1, if_neg (by simp)]
        rw [a1]
        simp only
        rw [if_pos (by decide)]
        obtain ⟨m1, m2, m3⟩ := metF_down (L := L)
        have hd2 := h.dirty (L.c.snap, L.c.recs ++ [p])
        refine .inr (.inr ⟨rfl, m2, .inr ⟨m1, ⟨by rw [m3]; exact n2, ?_, ?_⟩⟩⟩)
        · rw [m3, m2, e3.a]
          exact hd2.p
        · rw [m3, m2, e3.a]
          exact hd2.o
  · have hr : rdyF L p = 9 := by unfold rdyF; rw [if_pos hd]
    unfold addF
    rw [if_pos (by rw [hr]; decide), hr]
    exact .inr (.inl ⟨by show (9 : Int) ≠ 0; decide, by show (9 : Int) ≠ 14; decide, rfl, .inr ⟨hd, h⟩⟩)
theorem rw_law {D : Dk} {L : Lg} {mb : List UInt8 × List (List UInt8)} {p : List UInt8} (h : KInv D L mb) (hp : p.length ≤ 65536) (hg : L.c.gen < 4611686018427387904) : KQ L (p, []) mb (rwF D L p) := by
  rcases h with ⟨hd, h⟩ | ⟨hd, h⟩
  · have hr : rdyF L p = 0 := by unfold rdyF; rw [if_neg (by rw [hd]; simp), if_neg (by omega)]
    have n2 := h.n2
    have nn : 1 - (1 - L.at_) = L.at_ := by omega
    have hpw := parseF_whole (c := ⟨L.c.gen + 1, p, []⟩) (by simp) (by show L.c.gen + 1 ≤ _; omega) hp (by simp) (by simp)
    have hcut := fun k => parseF_cut (c := ⟨L.c.gen + 1, p, []⟩) hp (by simp) (by simp) (k := k)
    unfold rwF
    rw [if_neg (by rw [hr]; exact fun e => e rfl), if_neg (by omega)]
    obtain ⟨m1, m2, m3⟩ := metF_down (L := L)
    rcases wr_cases h.on (n := 1 - L.at_) (by omega) ⟨L.c.gen + 1, p, []⟩ with ⟨w1, w2, w3, w4⟩ | ⟨w1, _, w2, w3, w4⟩ | ⟨w1, w2, w3, w4⟩
    · rw [nn] at w4
      rw [if_neg (by rw [w1]; exact fun e => e rfl)]
      generalize (wrF D ((1 - L.at_ : Nat) : Int) ⟨L.c.gen + 1, p, []⟩).2 = E at *
      refine .inl ⟨rfl, rfl, Nat.le_refl _, fun m' => .inl ⟨hd, ⟨by show 1 - L.at_ < 2; omega, w2, ?_, ?_, ?_⟩⟩⟩
      · show (E.ar (1 - L.at_)).s = (E.ar (1 - L.at_)).b.length
        rw [w3]
      · show parseF (E.ar (1 - L.at_)).b = _
        rw [w3]
        exact hpw
      · show ∀ k, (E.ar (1 - (1 - L.at_))).s ≤ k → ∀ c r, parseF ((E.ar (1 - (1 - L.at_))).b.take k) = some (c, r) → c.gen < L.c.gen + 1
        rw [nn, w4]
        intro k hk c r e
        rw [List.take_of_length_le (by rw [← h.s]; exact hk), h.p] at e
        simp only [Option.some.injEq, Prod.mk.injEq] at e
        rw [← e.1]; omega
    · rw [nn] at w4
      rw [if_pos (by rw [w1]; decide), w1, metF_same hd (by decide)]
      generalize (wrF D ((1 - L.at_ : Nat) : Int) ⟨L.c.gen + 1, p, []⟩).2 = E at *
      refine .inr (.inl ⟨by show (13 : Int) ≠ 0; decide, by show (13 : Int) ≠ 14; decide, rfl, .inl ⟨hd, ⟨n2, w2, by rw [w4]; exact h.s, by rw [w4]; exact h.p, ?_⟩⟩⟩)
      rw [w3]
      intro k _ c r e
      rw [show (⟨[], 0⟩ : Ar).b.take k = [] from List.take_nil, parseF_nil] at e
      cases e
    · rw [nn] at w4
      rw [if_pos (by rw [w1]; decide), w1]
      generalize (wrF D ((1 - L.at_ : Nat) : Int) ⟨L.c.gen + 1, p, []⟩).2 = E at *
      have hd2 := h.dirty (p, [])
      refine .inr (.inr ⟨rfl, m2, .inr ⟨m1, ⟨by rw [m3]; exact n2, ?_, ?_⟩⟩⟩)
      · rw [m3, m2, w4]
        exact hd2.p
      · rw [m3, m2]
        rcases w3 with w3 | w3 | w3
        · rw [w3]
          exact hd2.o
        · rw [w3]
          intro k _ c r e
          rw [show (⟨[], 0⟩ : Ar).b.take k = [] from List.take_nil, parseF_nil] at e
          cases e
        · rw [w3]
          intro k _ c r e
          change parseF ((encB ⟨L.c.gen + 1, p, []⟩).take k) = _ at e
          by_cases hk : k < (encB ⟨L.c.gen + 1, p, []⟩).length
          · rw [hcut k hk] at e
            cases e
          · rw [List.take_of_length_le (by omega), hpw] at e
            simp only [Option.some.injEq, Prod.mk.injEq] at e
            rw [← e.1]
            exact .inr ⟨rfl, rfl⟩
  · have hr : rdyF L p = 9 := by unfold rdyF; rw [if_pos hd]
    unfold rwF
    rw [if_pos (by rw [hr]; decide), hr]
    exact .inr (.inl ⟨by show (9 : Int) ≠ 0; decide, by show (9 : Int) ≠ 14; decide, rfl, .inr ⟨hd, h⟩⟩)
end Go.Proofs.Ytabdnepfcohncaa.Abs
namespace Go.Proofs.Ytabdnepfcohncaa.Abs
set_option linter.unusedSimpArgs false
set_option linter.unusedVariables false
open Go.RowKit
open Go.Proofs.Ytabdnepfcohncaa.Sim
open Go.Proofs
section
variable {P : Program} {nt : Nat} {ops : Array Oper} {t : Fm} {m : AM} {K : Fm → AM → Prop} {d T : Nat} {p : String} {af : Array Edge}
end
structure Act9 where
  kd : Int
  n : Int
  m : Int
  l : List UInt8
instance : Inhabited Act9 := ⟨⟨0, 0, 0, []⟩⟩
def Act9.cells (x : Act9) (w : Value) : List Value := [.int .i64 x.kd, .int .i64 x.n, .int .i64 x.m, w]
/-- A row of acts. -/
def Acts9 (M : AM) (v : Value) (ds : List Act9) : Prop := ∃ a o, Sl v a o ds.length ∧ a < M.length ∧ ∀ k, k < ds.length → ∃ w, RdL M a (o + k * 4) ((ds.getD k default).cells w) ∧ Byts M w (ds.getD k default).l
theorem Byts.one {M : AM} {w : Value} {l : List UInt8} (h : Byts M w l) : w.oneCell' = true := by
  obtain ⟨_, _, h, _⟩ := h
  rcases h with ⟨rfl, _⟩ | ⟨c, _, rfl⟩ | ⟨_, _, _, rfl⟩ <;> rfl
theorem Act9.one {M : AM} {x : Act9} {w : Value} (h : Byts M w x.l) : (Value.agg (x.cells w).toArray).cells.all (·.oneCell') = true := by
  show ((x.cells w).toArray).all (·.oneCell') = true
  simp only [← Array.all_toList, Act9.cells, List.all_cons, h.one]
  rfl
/-- The disk of StockAgain, and an act beside it. -/
def AgS (m0 : AM) (bk : Nat) (cs : List Value) (D : Dk) (M : AM) : Prop := ∃ u0 u1, DiskAt M m0.length m0.length D u0 u1 ∧ (∃ N, M = m0 ++ N) ∧ M[bk]? = some (some { cells := cs }) ∧ ¬ dkD m0.length u0 u1 bk
theorem AgS.old {m0 M : AM} {bk : Nat} {cs : List Value} {D : Dk} (h : AgS m0 bk cs D M) (T : AM) : AgS m0 bk cs D (M ++ T) := by
  obtain ⟨u0, u1, h1, ⟨N, rfl⟩, h3, h4⟩ := h
  exact ⟨u0, u1, h1.old T, ⟨N ++ T, List.append_assoc ..⟩, get_old T h3, h4⟩
theorem AgS.dk {m0 X M : AM} {bk : Nat} {cs : List Value} {D D' : Dk} {u0 u1 : Value} (hd : DiskAt X m0.length m0.length D u0 u1) (hN : ∃ N, X = m0 ++ N) (hb : X[bk]? = some (some { cells := cs })) (hn : ¬ dkD m0.length u0 u1 bk) (hq : DkQ D' m0.length m0.length u0 u1 X M) : AgS m0 bk cs D' M := by
  obtain ⟨w0, w1, a, k, f⟩ := hq
  have hbl := (List.getElem?_eq_some_iff.1 hb).1
  have hml : m0.length ≤ X.length := by obtain ⟨N, rfl⟩ := hN; rw [List.length_append]; omega
  exact ⟨w0, w1, a, pre_keep hN k.len fun j hj => k.get j (by omega) fun e => by have := (hd.at_ e).1; omega, by rw [k.get bk hbl hn]; exact hb, f bk hbl hn⟩
theorem AgS.dl {m0 X M : AM} {bk lg : Nat} {cs : List Value} {D D' : Dk} {L' : Lg} {u0 u1 : Value} {S : Nat → Prop} (hd : DiskAt X m0.length m0.length D u0 u1) (hN : ∃ N, X = m0 ++ N) (hb : X[bk]? = some (some { cells := cs })) (hn : ¬ dkD m0.length u0 u1 bk) (hS : ∀ j, S j → m0.length ≤ j) (hbS : ¬ S bk) (hq : DLQ D' L' m0.length m0.length lg u0 u1 S X M) : AgS m0 bk cs D' M := by
  obtain ⟨w0, w1, sv, rv, S', a, _, _, _, k, f⟩ := hq
  have hbl := (List.getElem?_eq_some_iff.1 hb).1
  have hml : m0.length ≤ X.length := by obtain ⟨N, rfl⟩ := hN; rw [List.length_append]; omega
  exact ⟨w0, w1, a, pre_keep hN k.len fun j hj => k.get j (by omega) fun e => by
    rcases e with e | e
    · have := (hd.at_ e).1
      omega
    · have := hS j e
      omega, by rw [k.get bk hbl fun e => e.elim hn hbS]; exact hb, f bk hbl hn⟩
theorem bl105 {a b : Value} (ha : SlV a) (hb : SlV b) : abuild Try.prog 105 [(0, a), (1, b)] = some (.agg #[a, b]) := by
  rcases ha with rfl | ⟨_, _, _, rfl⟩ <;> rcases hb with rfl | ⟨_, _, _, rfl⟩ <;> kernel_rfl
theorem ze43 : zeroB Try.prog 43 = some #[.int .i64 0, .int .i64 0, .int .i64 0, .slice none 0 0] := by kernel_rfl
end Go.Proofs.Ytabdnepfcohncaa.Abs
namespace Go.Proofs.Ytabdnepfcohncaa.Abs
set_option linter.unusedSimpArgs false
set_option linter.unusedVariables false
open Go.RowKit
open Go.Proofs.Ytabdnepfcohncaa.Sim
open Go.Proofs
theorem Byts.sub {M M' : AM} {v : Value} {l : List UInt8} (h : Byts M v l) (hs : Sub M M') : Byts M' v l := by
  obtain ⟨a, o, h1, h2, h3⟩ := h
  refine ⟨a, o, h1, by have := hs.len; omega, fun k hk => ?_⟩
  obtain ⟨b, q1, q2⟩ := h3 k hk
  exact ⟨b, hs.get _ _ q1, q2⟩
/-- Records that can be read, and their values. -/
def PaysL (M : AM) (v : Value) (pc : List Value) (ps : List (List UInt8)) : Prop := pc.length = ps.length ∧ (∃ a o, Sl v a o ps.length ∧ a < M.length ∧ (0 < ps.length → RdL M a o pc)) ∧ ∀ k u, pc[k]? = some u → Byts M u (ps.getD k [])
theorem PaysL.sub {M M' : AM} {v : Value} {pc : List Value} {ps : List (List UInt8)} (h : PaysL M v pc ps) (hs : Sub M M') : PaysL M' v pc ps := by
  obtain ⟨h1, ⟨a, o, h2, h3, h4⟩, h5⟩ := h
  exact ⟨h1, ⟨a, o, h2, by have := hs.len; omega, fun h0 => (h4 h0).sub hs⟩, fun k u hu => (h5 k u hu).sub hs⟩
theorem PaysL.r {M : AM} {v : Value} {pc : List Value} {ps : List (List UInt8)} (h : PaysL M v pc ps) : PaysR M v ps := by
  obtain ⟨h1, ⟨a, o, h2, h3, h4⟩, h5⟩ := h
  refine ⟨a, o, h2, h3, fun k hk => ?_⟩
  have hu : pc[k]? = some (pc[k]'(by omega)) := List.getElem?_eq_getElem (by omega)
  obtain ⟨b, q1, q2⟩ := h4 (by omega)
  exact ⟨_, ⟨b, q1, q2 k _ hu⟩, h5 k _ hu⟩
theorem PaysL.one {M : AM} {v : Value} {pc : List Value} {ps : List (List UInt8)} (h : PaysL M v pc ps) : pc.all (·.oneCell') = true := by
  rw [List.all_eq_true]
  intro u hu
  obtain ⟨k, hk⟩ := List.mem_iff_getElem?.1 hu
  exact (h.2.2 k u hk).one
theorem PaysL.nil {M : AM} (h : 0 < M.length) : PaysL M (.slice none 0 0) [] [] := ⟨rfl, ⟨0, 0, .inl ⟨rfl, rfl⟩, h, fun h => absurd h (by simp)⟩, fun k u hu => by simp at hu⟩
/-- A content in memory, to be read alone. -/
def CnAt (M : AM) (s r : Value) (cc : List UInt8 × List (List UInt8)) : Prop := Byts M s cc.1 ∧ ∃ pc, PaysL M r pc cc.2
theorem CnAt.sub {M M' : AM} {s r : Value} {cc : List UInt8 × List (List UInt8)} (h : CnAt M s r cc) (hs : Sub M M') : CnAt M' s r cc := ⟨h.1.sub hs, by obtain ⟨pc, h2⟩ := h.2; exact ⟨pc, h2.sub hs⟩⟩
theorem bs27z {m : AM} {k : Nat} : abuildSlice Try.prog m k 27 0 [] = some (.slice (some ⟨k, 0, none⟩) 0 0, m.set k (some { cells := [] })) := by kernel_rfl
set_option maxRecDepth 100000 in
theorem CClone_ok {m : AM} {v : Value} {pc : List Value} {ps : List (List UInt8)} (h : PaysL m v pc ps) (hlen : ps.length ≤ 1000000000) : ACall Try.prog 59 #[v] m (More (fun M r => Row M m.length 1 r pc ps.length) m) := by
  have ho := h.one
  obtain ⟨h1, ⟨a, o, hs, ha, hr⟩, h5⟩ := h
  refine ACall.start Try.func59 rfl rfl ?_
  rcases hs with ⟨rfl, h0⟩ | ⟨c, hc, rfl⟩ | ⟨h0, o', k', rfl⟩
  · obtain rfl := List.eq_nil_of_length_eq_zero (h1.trans h0)
    rw [h0]
    (repeat (first | (with_reducible refine AWo.cons ?_) | ((with_reducible refine Step.id ?_); first | ((with_reducible apply Step.move); exact rfl; exact rfl) | ((with_reducible apply Step.assign); exact rfl; exact rfl) | ((with_reducible apply Step.nilNil); exact rfl; exact rfl; exact un27; exact rfl)) | (with_reducible refine AWo.nil ?_) | ((with_reducible apply AW.seq)) | ((with_reducible apply Then.n)) | ((with_reducible apply AW.regL)) | ((with_reducible apply AW.condT); exact rfl; (focus (rfl)))))
    (refine AW.ret ?_; (repeat (first | refine Then.r ?_ | refine InBlk.r ?_)))
    exact ⟨_, rfl, [], rfl, Row.nil⟩
  · have hs : Sl (.slice (some ⟨a, o, none⟩) ps.length c) a o ps.length := .inr (.inl ⟨c, hc, rfl⟩)
    (repeat (first | (with_reducible refine AWo.cons ?_) | ((with_reducible refine Step.id ?_); first | ((with_reducible apply Step.move); exact rfl; exact rfl) | ((with_reducible apply Step.assign); exact rfl; exact rfl) | ((with_reducible apply Step.eqNil); exact rfl; exact rfl; exact un27; exact rfl) | ((with_reducible apply Step.buildS 0); exact rfl; exact rfl; exact (fun _ _ => bs27z); exact rfl; (focus (first | (simp only [List.nil_append, List.cons_append, List.set_cons_zero, List.set_cons_succ, iv_set, bv_set, iv_rep, bv_rep]; done) | (simp only [List.nil_append, List.cons_append, List.set_cons_zero, List.set_cons_succ, iv_set, bv_set, iv_rep, bv_rep]; rfl) | rfl)))) | (with_reducible refine AWo.nil ?_) | ((with_reducible apply AW.seq)) | ((with_reducible apply Then.n)) | ((with_reducible apply AW.regL)) | ((with_reducible apply AW.skip)) | ((with_reducible apply AW.condF); exact rfl; (focus (rfl)))))
    ((with_reducible apply Step.appRow2 (b0 := m.length) (n := 0) (c := [])); exact rfl; exact rfl; exact (.inr ⟨m.length + 0, .own, 1, by omega, rfl, by rw [get_app]; rfl, by simp, .inl rfl⟩); exact hs; exact (fun h => RdL.old _ (hr h)); exact el27; exact un27; (focus (omega)); exact ho; exact rfl; (focus (omega)); exact rfl; (focus (simp)))
    intro u M hr hml hk hk2
    rw [List.nil_append, Nat.zero_add] at hr
    (repeat (first | (with_reducible refine AWo.cons ?_) | ((with_reducible refine Step.id ?_); ((with_reducible apply Step.assign); exact rfl; exact rfl)) | (with_reducible refine AWo.nil ?_) | ((with_reducible apply Then.n))))
    (refine AW.ret ?_; (repeat (first | refine Then.r ?_ | refine InBlk.r ?_)))
    obtain ⟨N, hN⟩ := pre_keep (m0 := m) ⟨_, rfl⟩ hml fun j hj => hk j (by simp; omega) (by intro n' c' e; simp only [Value.slice.injEq, Option.some.injEq, Addr.mk.injEq] at e; omega)
    exact ⟨_, rfl, N, hN, hr⟩
  · obtain rfl := List.eq_nil_of_length_eq_zero (h1.trans h0)
    rw [h0]
    have hs : Sl (.slice (some ⟨a, o', some k'⟩) 0 0) a o 0 := .inr (.inr ⟨rfl, o', k', rfl⟩)
    (repeat (first | (with_reducible refine AWo.cons ?_) | ((with_reducible refine Step.id ?_); first | ((with_reducible apply Step.move); exact rfl; exact rfl) | ((with_reducible apply Step.assign); exact rfl; exact rfl) | ((with_reducible apply Step.eqNil); exact rfl; exact rfl; exact un27; exact rfl) | ((with_reducible apply Step.buildS 0); exact rfl; exact rfl; exact (fun _ _ => bs27z); exact rfl; (focus (first | (simp only [List.nil_append, List.cons_append, List.set_cons_zero, List.set_cons_succ, iv_set, bv_set, iv_rep, bv_rep]; done) | (simp only [List.nil_append, List.cons_append, List.set_cons_zero, List.set_cons_succ, iv_set, bv_set, iv_rep, bv_rep]; rfl) | rfl)))) | (with_reducible refine AWo.nil ?_) | ((with_reducible apply AW.seq)) | ((with_reducible apply Then.n)) | ((with_reducible apply AW.regL)) | ((with_reducible apply AW.skip)) | ((with_reducible apply AW.condF); exact rfl; (focus (rfl)))))
    ((with_reducible apply Step.appRow2 (b0 := m.length) (n := 0) (xl := 0) (c := []) (new := [])); exact rfl; exact rfl; exact (.inr ⟨m.length + 0, .own, 1, by omega, rfl, by rw [get_app]; rfl, by simp, .inl rfl⟩); exact hs; exact (fun h => absurd h (by omega)); exact el27; exact un27; exact rfl; exact rfl; exact rfl; (focus (omega)); exact rfl; (focus (simp)))
    intro u M hr hml hk hk2
    (repeat (first | (with_reducible refine AWo.cons ?_) | ((with_reducible refine Step.id ?_); ((with_reducible apply Step.assign); exact rfl; exact rfl)) | (with_reducible refine AWo.nil ?_) | ((with_reducible apply Then.n))))
    (refine AW.ret ?_; (repeat (first | refine Then.r ?_ | refine InBlk.r ?_)))
    obtain ⟨N, hN⟩ := pre_keep (m0 := m) ⟨_, rfl⟩ hml fun j hj => hk j (by simp; omega) (by intro n' c' e; simp only [Value.slice.injEq, Option.some.injEq, Addr.mk.injEq] at e; omega)
    exact ⟨_, rfl, N, hN, hr⟩
/-- A disk and a log; the blocks of K are left as they are. -/
def KDL (m0 M : AM) (K : Nat → Prop) (lg : Nat) (D : Dk) (L : Lg) : Prop := ∃ u0 u1 sv rv S, DiskAt M m0.length m0.length D u0 u1 ∧ LogAt (vw S M) lg m0.length L sv rv ∧ (∃ N, M = m0 ++ N) ∧ (∀ j, S j → ¬ dkD m0.length u0 u1 j ∧ m0.length ≤ j) ∧ ∀ j, K j → ¬ dkD m0.length u0 u1 j ∧ ¬ S j ∧ j < M.length
/-- What is kept. -/
structure Pre (K : Nat → Prop) (M M' : AM) : Prop where
  len : M.length ≤ M'.length
  get : ∀ j, K j → M'[j]? = M[j]?
theorem Pre.sub {K : Nat → Prop} {M M' : AM} (h : Pre K M M') : Sub (vw K M) (vw K M') := ⟨by rw [vw_len, vw_len]; exact h.len, fun j b hb => by
  obtain ⟨h1, h2⟩ := vw_some.1 hb
  exact vw_some.2 ⟨h1, by rw [h.get j h1]; exact h2⟩⟩
theorem Pre.refl (K : Nat → Prop) (M : AM) : Pre K M M := ⟨Nat.le_refl _, fun _ _ => rfl⟩
theorem KDL.dkq {m0 M M' : AM} {K : Nat → Prop} {lg : Nat} {D D' : Dk} {L : Lg} {u0 u1 sv rv : Value} {S : Nat → Prop} (h1 : DiskAt M m0.length m0.length D u0 u1) (h2 : LogAt (vw S M) lg m0.length L sv rv) (h3 : ∃ N, M = m0 ++ N) (h4 : ∀ j, S j → ¬ dkD m0.length u0 u1 j ∧ m0.length ≤ j) (h5 : ∀ j, K j → ¬ dkD m0.length u0 u1 j ∧ ¬ S j ∧ j < M.length)
    (hq : DkQ D' m0.length m0.length u0 u1 M M') : KDL m0 M' K lg D' L ∧ Pre K M M' := by
  obtain ⟨w0, w1, a, k, f⟩ := hq
  have hml : m0.length ≤ M.length := by obtain ⟨N, rfl⟩ := h3; rw [List.length_append]; omega
  have hkl := k.len
  refine ⟨⟨w0, w1, sv, rv, _, a, h2.disk (fun j hj e => (h4 j e).1 hj) k, pre_keep h3 k.len fun j hj => k.get j (by omega) fun e => by have := (h1.at_ e).1; omega, fun j hj => ⟨f j hj.2 (h4 j hj.1).1, (h4 j hj.1).2⟩, fun j hj => ⟨f j (h5 j hj).2.2 (h5 j hj).1, fun e => (h5 j hj).2.1 e.1, by have := (h5 j hj).2.2; omega⟩⟩, k.len, fun j hj => k.get j (h5 j hj).2.2 (h5 j hj).1⟩
theorem K_fuse {m0 M : AM} {K : Nat → Prop} {lg : Nat} {D : Dk} {L : Lg} (h : KDL m0 M K lg D L) (k : Int) (hk : k ≤ 9223372036854775807) : ACall Try.prog 58 #[.pointer (some ⟨m0.length, 0, none⟩), .int .i64 k] M (fun r M' => r = .tuple #[] ∧ KDL m0 M' K lg (fuF D k) L ∧ Pre K M M') := by
  obtain ⟨u0, u1, sv, rv, S, h1, h2, h3, h4, h5⟩ := h
  exact (DFuse_ok k hk h1).mono fun r M' ⟨hr, hq⟩ => ⟨hr, KDL.dkq h1 h2 h3 h4 h5 hq⟩
theorem K_crash {m0 M : AM} {K : Nat → Prop} {lg : Nat} {D : Dk} {L : Lg} (h : KDL m0 M K lg D L) (k0 k1 : Int) : ACall Try.prog 52 #[.pointer (some ⟨m0.length, 0, none⟩), .int .i64 k0, .int .i64 k1] M (fun r M' => r = .tuple #[] ∧ KDL m0 M' K lg (crF D k0 k1) L ∧ Pre K M M') := by
  obtain ⟨u0, u1, sv, rv, S, h1, h2, h3, h4, h5⟩ := h
  exact (DCrash_ok k0 k1 h1).mono fun r M' ⟨hr, hq⟩ => ⟨hr, KDL.dkq h1 h2 h3 h4 h5 hq⟩
/-- Open beside what is kept: an error, or a new log. -/
theorem K_open {m0 M : AM} {K : Nat → Prop} {lg : Nat} {D : Dk} {L : Lg} (h : KDL m0 M K lg D L) : ACall Try.prog 50 #[.pointer (some ⟨m0.length, 0, none⟩)] M (fun r M' => Pre K M M' ∧
    (((openF D).2.1 = none ∧ r = .tuple #[.pointer none, .int .i64 (openF D).1] ∧ (openF D).1 ≠ 0 ∧ KDL m0 M' K lg (openF D).2.2 L) ∨
     ∃ c n lg', (openF D).2.1 = some (c, n) ∧ (openF D).1 = 0 ∧ r = .tuple #[.pointer (some ⟨lg', 0, none⟩), .int .i64 0] ∧ KDL m0 M' K lg' (openF D).2.2 ⟨c, n, false⟩)) := by
  obtain ⟨u0, u1, sv, rv, S, h1, h2, h3, h4, h5⟩ := h
  have hml : m0.length ≤ M.length := by obtain ⟨N, rfl⟩ := h3; rw [List.length_append]; omega
  refine (Open_ok h1 hml).mono fun r M' hq => ?_
  rcases hq with ⟨e0, e1, e2, hq⟩ | ⟨c, n, lg', w0, w1, sv', rv', S', e0, e1, e2, a, k, f, hL, hS⟩
  · obtain ⟨q1, q2⟩ := KDL.dkq h1 h2 h3 h4 h5 hq
    exact ⟨q2, .inl ⟨e0, e1, e2, q1⟩⟩
  · have hkl := k.len
    exact ⟨⟨k.len, fun j hj => k.get j (h5 j hj).2.2 (h5 j hj).1⟩, .inr ⟨c, n, lg', e0, e1, e2, w0, w1, sv', rv', S', a, hL, pre_keep h3 k.len fun j hj => k.get j (by omega) fun e => by have := (h1.at_ e).1; omega, fun j hj => ⟨(hS j hj).2, by have := (hS j hj).1; omega⟩, fun j hj => ⟨f j (h5 j hj).2.2 (h5 j hj).1, fun e => by have := (hS j e).1; have := (h5 j hj).2.2; omega, by have := (h5 j hj).2.2; omega⟩⟩⟩
theorem KDL.dlq {m0 M M' : AM} {K : Nat → Prop} {lg : Nat} {D' : Dk} {D : Dk} {L' : Lg} {u0 u1 : Value} {S : Nat → Prop} (h1 : DiskAt M m0.length m0.length D u0 u1) (h3 : ∃ N, M = m0 ++ N) (h4 : ∀ j, S j → ¬ dkD m0.length u0 u1 j ∧ m0.length ≤ j) (h5 : ∀ j, K j → ¬ dkD m0.length u0 u1 j ∧ ¬ S j ∧ j < M.length)
    (hq : DLQ D' L' m0.length m0.length lg u0 u1 S M M') : KDL m0 M' K lg D' L' ∧ Pre K M M' := by
  obtain ⟨w0, w1, sv, rv, S', a, hL, s1, s2, k, f⟩ := hq
  have hml : m0.length ≤ M.length := by obtain ⟨N, rfl⟩ := h3; rw [List.length_append]; omega
  have hkl := k.len
  have hg : ∀ j, K j → M'[j]? = M[j]? := fun j hj => k.get j (h5 j hj).2.2 fun e => e.elim (h5 j hj).1 (h5 j hj).2.1
  refine ⟨⟨w0, w1, sv, rv, S', a, hL, pre_keep h3 k.len fun j hj => k.get j (by omega) fun e => by
    rcases e with e | e
    · have := (h1.at_ e).1
      omega
    · have := (h4 j e).2
      omega, fun j hj => ⟨s1 j hj, (s2 j hj).elim (fun e => (h4 j e).2) fun e => by omega⟩, fun j hj => ⟨f j (h5 j hj).2.2 (h5 j hj).1, fun e => ?_, by have := (h5 j hj).2.2; omega⟩⟩, k.len, hg⟩
  rcases s2 j e with e | e
  · exact (h5 j hj).2.1 e
  · have := (h5 j hj).2.2
    omega
theorem Keep.vwK {K : Nat → Prop} {Q : Nat → Prop} {M M' : AM} (hk : Keep Q M M') (h : ∀ j, K j → ¬ Q j ∧ j < M.length) : Sub (vw K M) M' := ⟨by rw [vw_len]; exact hk.len, fun j b hb => by
  obtain ⟨h1, h2⟩ := vw_some.1 hb
  rw [hk.get j (h j h1).2 (h j h1).1]; exact h2⟩
theorem K_add {m0 M : AM} {K : Nat → Prop} {lg : Nat} {D : Dk} {L : Lg} {w : Value} {p : List UInt8} (h : KDL m0 M K lg D L) (hw : Byts (vw K M) w p) (hp : p.length ≤ 1000000) (hc : L.c.recs.length ≤ 1000000) : ACall Try.prog 51 #[.pointer (some ⟨lg, 0, none⟩), w] M (fun r M' => r = .int .i64 (addF D L p).1 ∧ KDL m0 M' K lg (addF D L p).2.1 (addF D L p).2.2 ∧ Pre K M M') := by
  obtain ⟨u0, u1, sv, rv, S, h1, h2, h3, h4, h5⟩ := h
  have hml : m0.length ≤ M.length := by obtain ⟨N, rfl⟩ := h3; rw [List.length_append]; omega
  exact (Add_ok h1 hml h2 (fun j hj e => (h4 j e).1 hj) (fun M' hk => hw.sub (hk.vwK fun j hj => ⟨fun e => e.elim (h5 j hj).1 (h5 j hj).2.1, (h5 j hj).2.2⟩)) hp hc).mono fun r M' ⟨hr, hq⟩ => ⟨hr, KDL.dlq h1 h3 h4 h5 hq⟩
theorem K_rw {m0 M : AM} {K : Nat → Prop} {lg : Nat} {D : Dk} {L : Lg} {w : Value} {p : List UInt8} (h : KDL m0 M K lg D L) (hw : Byts M w p) (hp : p.length ≤ 1000000) (hg : L.c.gen ≤ 4611686018427387904) : ACall Try.prog 60 #[.pointer (some ⟨lg, 0, none⟩), w] M (fun r M' => r = .int .i64 (rwF D L p).1 ∧ KDL m0 M' K lg (rwF D L p).2.1 (rwF D L p).2.2 ∧ Pre K M M') := by
  obtain ⟨u0, u1, sv, rv, S, h1, h2, h3, h4, h5⟩ := h
  have hml : m0.length ≤ M.length := by obtain ⟨N, rfl⟩ := h3; rw [List.length_append]; omega
  exact (Rewrite_ok h1 hml h2 (fun j hj e => (h4 j e).1 hj) hw hp hg).mono fun r M' ⟨hr, hq⟩ => ⟨hr, KDL.dlq h1 h3 h4 h5 hq⟩
theorem K_has {m0 M : AM} {K : Nat → Prop} {lg : Nat} {D : Dk} {L : Lg} {s r : Value} {cc : List UInt8 × List (List UInt8)} (h : KDL m0 M K lg D L) (hc : CnAt M s r cc) (l1 : L.c.snap.length ≤ 1000000000) (l2 : L.c.recs.length ≤ 1000000000) (l3 : ∀ p ∈ L.c.recs, p.length ≤ 1000000000) (l4 : cc.2.length ≤ 1000000000) : ACall Try.prog 55 #[.pointer (some ⟨lg, 0, none⟩), .agg #[s, r]] M (Ret (.bool (decide (L.c.cc = cc))) M) := by
  obtain ⟨u0, u1, sv, rv, S, h1, h2, h3, h4, h5⟩ := h
  obtain ⟨h6, pc, h7⟩ := hc
  have := has_ok h2.all h6 h7.r l1 l2 l3 l4
  rwa [show decide (L.c.snap = cc.1 ∧ L.c.recs = cc.2) = decide (L.c.cc = cc) by obtain ⟨x, y⟩ := cc; simp [Cont.cc]] at this
/-- New blocks are kept, too. -/
theorem KDL.grow {m0 M : AM} {K : Nat → Prop} {lg : Nat} {D : Dk} {L : Lg} (h : KDL m0 M K lg D L) (N : AM) : KDL m0 (M ++ N) (fun j => K j ∨ M.length ≤ j ∧ j < (M ++ N).length) lg D L := by
  obtain ⟨u0, u1, sv, rv, S, h1, h2, ⟨Y, hY⟩, h4, h5⟩ := h
  have hdl : ∀ j, dkD m0.length u0 u1 j → j < M.length := fun j hj => by
    obtain ⟨_, b, hb, _⟩ := h1.at_ hj
    exact (List.getElem?_eq_some_iff.1 hb).1
  refine ⟨u0, u1, sv, rv, fun j => S j ∧ j < M.length, h1.old N, h2.msub ⟨by rw [vw_len, vw_len, List.length_append]; omega, fun j b _ hj => ?_⟩, ⟨Y ++ N, by rw [hY, List.append_assoc]⟩, fun j hj => h4 j hj.1, fun j hj => ?_⟩
  · obtain ⟨q1, q2⟩ := vw_some.1 hj
    exact vw_some.2 ⟨⟨q1, (List.getElem?_eq_some_iff.1 q2).1⟩, get_old N q2⟩
  · rcases hj with hj | hj
    · exact ⟨(h5 j hj).1, fun e => (h5 j hj).2.1 e.1, by rw [List.length_append]; have := (h5 j hj).2.2; omega⟩
    · exact ⟨fun e => by have := hdl j e; omega, fun e => by omega, hj.2⟩
/-- A block that is kept is written by the law itself. -/
theorem KDL.set {m0 M : AM} {K : Nat → Prop} {lg : Nat} {D : Dk} {L : Lg} (h : KDL m0 M K lg D L) {a : Nat} (ha : K a) (hm : m0.length ≤ a) (b : Option Blk) : KDL m0 (M.set a b) K lg D L := by
  obtain ⟨u0, u1, sv, rv, S, h1, h2, ⟨N, hN⟩, h4, h5⟩ := h
  have hne : ∀ j, j ≠ a → (M.set a b)[j]? = M[j]? := fun j hj => List.getElem?_set_ne (Ne.symm hj)
  refine ⟨u0, u1, sv, rv, S, h1.keep fun j x hx hj _ => by rw [hne j fun e => (h5 a ha).1 (by rw [← e]; exact hj)]; exact hx, h2.msub ⟨by rw [vw_len, vw_len, List.length_set]; exact Nat.le_refl _, fun j x _ hj => ?_⟩, by rw [hN]; exact set_high hm b, h4, fun j hj => ⟨(h5 j hj).1, (h5 j hj).2.1, by rw [List.length_set]; exact (h5 j hj).2.2⟩⟩
  obtain ⟨q1, q2⟩ := vw_some.1 hj
  exact vw_some.2 ⟨q1, by rw [hne j fun e => (h5 a ha).2.1 (by rw [← e]; exact q1)]; exact q2⟩
end Go.Proofs.Ytabdnepfcohncaa.Abs
namespace Go.Proofs.Ytabdnepfcohncaa.Abs
set_option linter.unusedSimpArgs false
set_option linter.unusedVariables false
open Go.RowKit
open Go.Proofs.Ytabdnepfcohncaa.Sim
open Go.Proofs
/-- A variable of the law that has a content; the content's own blocks lie in T. -/
def BoxAt (M : AM) (T : Nat → Prop) (b : Nat) (cc : List UInt8 × List (List UInt8)) : Prop := ∃ s r, M[b]? = some (some { cells := [s, r] }) ∧ CnAt (vw T M) s r cc
theorem BoxAt.pre {M M' : AM} {K T : Nat → Prop} {b : Nat} {cc : List UInt8 × List (List UInt8)} (h : BoxAt M T b cc) (hT : ∀ j, T j → K j) (hb : K b) (hp : Pre K M M') : BoxAt M' T b cc := by
  obtain ⟨s, r, h1, h2⟩ := h
  exact ⟨s, r, by rw [hp.get b hb]; exact h1, h2.sub (Pre.sub ⟨hp.len, fun j hj => hp.get j (hT j hj)⟩)⟩
theorem vw_sub_app {T T' : Nat → Prop} {M : AM} (N : AM) (h : ∀ j, T j → T' j) : Sub (vw T M) (vw T' (M ++ N)) := ⟨by rw [vw_len, vw_len, List.length_append]; omega, fun j b hb => by
  obtain ⟨h1, h2⟩ := vw_some.1 hb
  exact vw_some.2 ⟨h j h1, get_old N h2⟩⟩
theorem BoxAt.app {M : AM} {T T' : Nat → Prop} {b : Nat} {cc : List UInt8 × List (List UInt8)} (h : BoxAt M T b cc) (N : AM) (hT : ∀ j, T j → T' j) : BoxAt (M ++ N) T' b cc := by
  obtain ⟨s, r, h1, h2⟩ := h
  exact ⟨s, r, get_old N h1, h2.sub (vw_sub_app N hT)⟩
theorem vw_sub_set {T : Nat → Prop} {M : AM} {a : Nat} (ha : ¬ T a) (b : Option Blk) : Sub (vw T M) (vw T (M.set a b)) := ⟨by rw [vw_len, vw_len, List.length_set]; exact Nat.le_refl _, fun j x hb => by
  obtain ⟨h1, h2⟩ := vw_some.1 hb
  exact vw_some.2 ⟨h1, by rw [List.getElem?_set_ne (fun e => ha (by rw [e]; exact h1))]; exact h2⟩⟩
theorem BoxAt.put {M : AM} {T : Nat → Prop} {b : Nat} {s r : Value} {cc : List UInt8 × List (List UInt8)} (h : CnAt (vw T M) s r cc) (hb : ¬ T b) (hl : b < M.length) : BoxAt (M.set b (some { cells := [s, r] })) T b cc :=
  ⟨s, r, List.getElem?_set_self hl, h.sub (vw_sub_set hb _)⟩
theorem BoxAt.other {M : AM} {T : Nat → Prop} {a b : Nat} {cc : List UInt8 × List (List UInt8)} (h : BoxAt M T b cc) (ha : ¬ T a) (hab : b ≠ a) (x : Option Blk) : BoxAt (M.set a x) T b cc := by
  obtain ⟨s, r, h1, h2⟩ := h
  exact ⟨s, r, by rw [List.getElem?_set_ne (Ne.symm hab)]; exact h1, h2.sub (vw_sub_set ha _)⟩
theorem CnAt.one {M : AM} {s r : Value} {cc : List UInt8 × List (List UInt8)} (h : CnAt M s r cc) : s.oneCell' = true ∧ r.oneCell' = true := by
  refine ⟨h.1.one, ?_⟩
  obtain ⟨_, pc, _, ⟨_, _, h2, _⟩, _⟩ := h
  rcases h2 with ⟨rfl, _⟩ | ⟨c, _, rfl⟩ | ⟨_, _, _, rfl⟩ <;> rfl
theorem list2_one {s r : Value} (h1 : s.oneCell' = true) (h2 : r.oneCell' = true) : ([s, r] : List Value).all (·.oneCell') = true := by
  simp only [List.all_cons, h1, h2]
  rfl
theorem ze105 : zeroB Try.prog 105 = some #[.slice none 0 0, .slice none 0 0] := by kernel_rfl
theorem sz105 : szB Try.prog 105 = some 2 := by kernel_rfl
/-- How great a content may be. -/
def Bnd (cc : List UInt8 × List (List UInt8)) (k : Nat) : Prop := cc.1.length ≤ 65536 ∧ cc.2.length ≤ k ∧ ∀ p ∈ cc.2, p.length ≤ 65536
theorem Bnd.mono {cc : List UInt8 × List (List UInt8)} {k j : Nat} (h : Bnd cc k) (hk : k ≤ j) : Bnd cc j := ⟨h.1, by have := h.2.1; omega, h.2.2⟩
/-- The law's state between two rounds. -/
structure KLoop (m M : AM) (K T : Nat → Prop) (b7 b8 lg : Nat) (D : Dk) (L : Lg) (mb : List UInt8 × List (List UInt8)) (k : Nat) : Prop where
  kd : KDL m M K lg D L
  iv : KInv D L mb
  g : L.c.gen ≤ 4 * k + 1
  k7 : K b7 ∧ ¬ T b7 ∧ m.length ≤ b7
  k8 : K b8 ∧ ¬ T b8 ∧ m.length ≤ b8
  ne : b7 ≠ b8
  tk : ∀ j, T j → K j
  x7 : BoxAt M T b7 L.c.cc
  x8 : BoxAt M T b8 mb
  z7 : Bnd L.c.cc k
  z8 : Bnd mb k
theorem KDL.ok {m M : AM} {K : Nat → Prop} {lg : Nat} {D : Dk} {L : Lg} (h : KDL m M K lg D L) : OkD D := by
  obtain ⟨_, _, _, _, _, h1, _⟩ := h
  exact h1.ok
theorem KDL.lt {m M : AM} {K : Nat → Prop} {lg : Nat} {D : Dk} {L : Lg} (h : KDL m M K lg D L) {j : Nat} (hj : K j) : j < M.length := by
  obtain ⟨_, _, _, _, _, _, _, _, _, h5⟩ := h
  exact (h5 j hj).2.2
theorem KDL.pre {m M : AM} {K : Nat → Prop} {lg : Nat} {D : Dk} {L : Lg} (h : KDL m M K lg D L) : ∃ N, M = m ++ N := by
  obtain ⟨_, _, _, _, _, _, _, h3, _⟩ := h
  exact h3
theorem KDL.le {m M : AM} {K : Nat → Prop} {lg : Nat} {D : Dk} {L : Lg} (h : KDL m M K lg D L) : m.length < M.length := by
  obtain ⟨_, _, _, _, _, h1, _⟩ := h
  exact h1.lt
/-- A box is read. -/
theorem BoxAt.rd {M : AM} {b : Nat} {s r : Value} (h : M[b]? = some (some { cells := [s, r] })) (T : AM) : RdL (M ++ T) b 0 [s, r] := RdL.old T ⟨_, h, fun j v hv => by rw [Nat.zero_add]; exact hv⟩
end Go.Proofs.Ytabdnepfcohncaa.Abs
namespace Go.Proofs.Ytabdnepfcohncaa.Abs
set_option linter.unusedSimpArgs false
set_option linter.unusedVariables false
open Go.RowKit
open Go.Proofs.Ytabdnepfcohncaa.Sim
open Go.Proofs
theorem open_new {z : Nat} (hz : 64 ≤ z) : ∃ D', openF (Dk.new z) = (0, some (⟨1, [], []⟩, 0), D') ∧ Clean D' ⟨⟨1, [], []⟩, 0, false⟩ := by
  have hw := wrF_on (D := Dk.new z) rfl rfl (n := 0) (by omega) (c := ⟨1, [], []⟩) (by rw [encB_len]; show 20 + (0 + 8) + 0 ≤ z; omega)
  have hpw := parseF_whole (c := ⟨1, [], []⟩) (by simp) (by simp) (by simp) (by simp) (by simp)
  refine ⟨(Dk.new z).put 0 ⟨encB ⟨1, [], []⟩, (encB ⟨1, [], []⟩).length⟩, ?_, ⟨by show 0 < 2; omega, rfl, rfl, hpw, fun k _ c r e => ?_⟩⟩
  · rw [openF_on rfl, show pickF (Dk.new z) = none from rfl]
    simp only
    unfold wrO
    rw [hw]
    rfl
  · change parseF (([] : List UInt8).take k) = _ at e
    rw [List.take_nil, parseF_nil] at e
    cases e
section
variable {P : Program} {nt : Nat} {ops : Array Oper} {t : Fm} {m : AM} {K : Fm → AM → Prop} {d T : Nat} {p : String} {af : Array Edge}
theorem Step.addW9 {X Y : TypeId} {x y : Operand} {a b : Int} (hx : evo t x = some (.int .i64 a)) (hy : evo t y = some (.int .i64 b)) (hlt : Nat.blt d nt = true) (hK : ∀ z, K (put t d (.int .i64 z)) m) : Step P nt ops ⟨some d, .binOp .add X x y Y, T, p, af, none⟩ t m K :=
  .bin (v := .int .i64 (IntKind.i64.wrap (a + b))) hx hy (by simp [aint]) hlt (hK _)
end
theorem Pre.trans {K : Nat → Prop} {A B C : AM} (h : Pre K A B) (g : Pre K B C) : Pre K A C := ⟨Nat.le_trans h.len g.len, fun j hj => by rw [g.get j hj, h.get j hj]⟩
theorem KLoop.app {m M : AM} {K T : Nat → Prop} {b7 b8 lg : Nat} {D : Dk} {L : Lg} {mb : List UInt8 × List (List UInt8)} {k : Nat} (h : KLoop m M K T b7 b8 lg D L mb k) (N : AM) : KLoop m (M ++ N) (fun j => K j ∨ M.length ≤ j ∧ j < (M ++ N).length) T b7 b8 lg D L mb k :=
  ⟨h.kd.grow N, h.iv, h.g, ⟨.inl h.k7.1, h.k7.2⟩, ⟨.inl h.k8.1, h.k8.2⟩, h.ne, fun j hj => .inl (h.tk j hj), h.x7.app N fun _ e => e, h.x8.app N fun _ e => e, h.z7, h.z8⟩
theorem KLoop.fuse {m M M' : AM} {K T : Nat → Prop} {b7 b8 lg : Nat} {D : Dk} {L : Lg} {mb : List UInt8 × List (List UInt8)} {k : Nat} (h : KLoop m M K T b7 b8 lg D L mb k) {z : Int} (hk : KDL m M' K lg (fuF D z) L) (hp : Pre K M M') : KLoop m M' K T b7 b8 lg (fuF D z) L mb (k + 1) :=
  ⟨hk, h.iv.fuse z, by have := h.g; omega, h.k7, h.k8, h.ne, h.tk, h.x7.pre h.tk h.k7.1 hp, h.x8.pre h.tk h.k8.1 hp, h.z7.mono (by omega), h.z8.mono (by omega)⟩
theorem KLoop.found {m M : AM} {K T : Nat → Prop} {b7 b8 lg : Nat} {D : Dk} {c : Cont} {n k : Nat} {s r : Value} (hkd : KDL m M K lg D ⟨c, n, false⟩) (hcl : Clean D ⟨c, n, false⟩) (hg : c.gen ≤ 4 * k + 1) (k7 : K b7 ∧ ¬ T b7 ∧ m.length ≤ b7) (k8 : K b8 ∧ ¬ T b8 ∧ m.length ≤ b8) (ne : b7 ≠ b8) (tk : ∀ j, T j → K j) (x7 : BoxAt M T b7 c.cc) (v : CnAt (vw T M) s r c.cc) (z : Bnd c.cc k) :
    KLoop m (M.set b8 (some { cells := [s, r] })) K T b7 b8 lg D ⟨c, n, false⟩ c.cc k :=
  ⟨hkd.set k8.1 k8.2.2 _, .inl ⟨rfl, hcl⟩, hg, k7, k8, ne, tk, x7.other k8.2.1 ne _, BoxAt.put v k8.2.1 (hkd.lt k8.1), z, z⟩
end Go.Proofs.Ytabdnepfcohncaa.Abs
namespace Go.Proofs.Ytabdnepfcohncaa.Abs
set_option linter.unusedSimpArgs false
set_option linter.unusedVariables false
open Go.RowKit
open Go.Proofs.Ytabdnepfcohncaa.Sim
open Go.Proofs
/-- What holds whatever of the region was done: 0 to 3 and 5 reckon, 4 copies the records, 6 makes the literal, 7 appends, 8 builds, 9 makes the variable, 10 stores. -/
structure KI (m0 : AM) (base : List (Nat × Value)) (pv : Nat → Option Value) (s7 uv : Value) (pc : List Value) (rc r' : Value) (a b : Nat) (L : Nat → Bool) (t : Fm) (M : AM) : Prop where
  len : m0.length ≤ M.length
  keep : ∀ j, j < m0.length → M[j]? = m0[j]?
  old : ∀ e ∈ base, t e.1 = some e.2
  pure : ∀ j v, pv j = some v → L j = true → t (158 + j) = some v
  row : L 4 = true → t 162 = some rc
  row7 : L 4 = true → L 7 = false → Row M m0.length 1 rc pc pc.length
  lit : L 6 = true → t 164 = some (.slice (some ⟨a, 0, none⟩) 1 1)
  lit7 : L 6 = true → L 7 = false → RdL M a 0 [uv]
  app : L 7 = true → t 165 = some r' ∧ Row M m0.length 1 r' (pc ++ [uv]) (pc.length + 1)
  bld : L 8 = true → t 166 = some (.agg #[s7, r']) ∧ L 7 = true
  box : L 9 = true → t 15 = some (.pointer (some ⟨b, 0, none⟩)) ∧ m0.length ≤ b ∧ b < M.length
  box0 : L 9 = true → L 10 = false → M[b]? = some (some { cells := [.slice none 0 0, .slice none 0 0] })
  box1 : L 10 = true → M[b]? = some (some { cells := [s7, r'] }) ∧ L 9 = true ∧ L 8 = true
  bx4 : L 9 = true → L 4 = true → L 7 = false → NotOf rc b
  bx7 : L 9 = true → L 7 = true → NotOf r' b
  c7 : L 7 = true → L 4 = true ∧ L 6 = true
section
variable {m0 M : AM} {base : List (Nat × Value)} {pv : Nat → Option Value} {s7 uv rc r' : Value} {pc : List Value} {a b : Nat} {L : Nat → Bool} {t : Fm}
theorem KI.start (h : ∀ e ∈ base, t e.1 = some e.2) : KI m0 base pv s7 uv pc rc r' a b (fun _ => false) t m0 where
  len := Nat.le_refl _
  keep := fun _ _ => rfl
  old := h
  pure := fun _ _ _ q => by cases q
  row := fun q => by cases q
  row7 := fun q => by cases q
  lit := fun q => by cases q
  lit7 := fun q => by cases q
  app := fun q => by cases q
  bld := fun q => by cases q
  box := fun q => by cases q
  box0 := fun q => by cases q
  box1 := fun q => by cases q
  bx4 := fun q => by cases q
  bx7 := fun q => by cases q
  c7 := fun q => by cases q
theorem KI.put (h : KI m0 base pv s7 uv pc rc r' a b L t M) (hb : ∀ e ∈ base, e.1 < 158 ∧ e.1 ≠ 15) {j : Nat} {v : Value} (hv : pv j = some v) (hj : j < 4 ∨ j = 5) : KI m0 base pv s7 uv pc rc r' a b (upL L j) (Abs.put t (158 + j) v) M where
  len := h.len
  keep := h.keep
  old := fun e he => by rw [put_ne t v (by have := (hb e he).1; omega)]; exact h.old e he
  pure := fun k w hw hk => by
    by_cases e : k = j
    · subst e
      rw [hv] at hw
      injection hw with hw
      rw [put_same, hw]
    · rw [upL_ne L e] at hk
      rw [put_ne t v (by omega)]
      exact h.pure k w hw hk
  row := fun q => by rw [upL_ne L (by omega)] at q; rw [put_ne t v (by omega)]; exact h.row q
  row7 := fun q r => by rw [upL_ne L (by omega)] at q r; exact h.row7 q r
  lit := fun q => by rw [upL_ne L (by omega)] at q; rw [put_ne t v (by omega)]; exact h.lit q
  lit7 := fun q r => by rw [upL_ne L (by omega)] at q r; exact h.lit7 q r
  app := fun q => by rw [upL_ne L (by omega)] at q; rw [put_ne t v (by omega)]; exact h.app q
  bld := fun q => by rw [upL_ne L (by omega)] at q; rw [put_ne t v (by omega), upL_ne L (by omega)]; exact h.bld q
  box := fun q => by rw [upL_ne L (by omega)] at q; rw [put_ne t v (by omega)]; exact h.box q
  box0 := fun q r => by rw [upL_ne L (by omega)] at q r; exact h.box0 q r
  box1 := fun q => by rw [upL_ne L (by omega)] at q; rw [upL_ne L (by omega), upL_ne L (by omega)]; exact h.box1 q
  bx4 := fun q r s => by rw [upL_ne L (by omega)] at q r s; exact h.bx4 q r s
  bx7 := fun q r => by rw [upL_ne L (by omega)] at q r; exact h.bx7 q r
  c7 := fun q => by rw [upL_ne L (by omega)] at q; rw [upL_ne L (by omega), upL_ne L (by omega)]; exact h.c7 q
/-- The records are copied. -/
theorem KI.setRow (h : KI m0 base pv s7 uv pc rc r' a b L t M) (hb : ∀ e ∈ base, e.1 < 158 ∧ e.1 ≠ 15) (hp : pv 4 = none) (h4 : L 4 = false) (h7 : L 7 = false) {M' : AM} {u : Value} (hM : ∃ N, M' = M ++ N) (hr : Row M' M.length 1 u pc pc.length) : KI m0 base pv s7 uv pc u r' a b (upL L 4) (Abs.put t 162 u) M' := by
  obtain ⟨N, rfl⟩ := hM
  have hl := h.len
  exact {
    len := by rw [List.length_append]; omega
    keep := fun j hj => by rw [List.getElem?_append_left (by omega)]; exact h.keep j hj
    old := fun e he => by rw [put_ne t _ (by have := (hb e he).1; omega)]; exact h.old e he
    pure := fun k w hw hk => by
      have e : k ≠ 4 := fun e => by rw [e, hp] at hw; cases hw
      rw [upL_ne L e] at hk
      rw [put_ne t _ (by omega)]
      exact h.pure k w hw hk
    row := fun _ => put_same ..
    row7 := fun _ _ => hr.low hl
    lit := fun q => by rw [upL_ne L (by omega)] at q; rw [put_ne t _ (by omega)]; exact h.lit q
    lit7 := fun q r => by rw [upL_ne L (by omega)] at q r; exact (h.lit7 q r).old N
    app := fun q => by rw [upL_ne L (by omega), h7] at q; cases q
    bld := fun q => by rw [upL_ne L (by omega)] at q; have := (h.bld q).2; rw [h7] at this; cases this
    box := fun q => by
      rw [upL_ne L (by omega)] at q
      rw [put_ne t _ (by omega), List.length_append]
      obtain ⟨b1, b2, b3⟩ := h.box q
      exact ⟨b1, b2, by omega⟩
    box0 := fun q r => by rw [upL_ne L (by omega)] at q r; exact get_old N (h.box0 q r)
    box1 := fun q => by rw [upL_ne L (by omega)] at q; have := (h.bld (h.box1 q).2.2).2; rw [h7] at this; cases this
    bx4 := fun q _ _ => by rw [upL_ne L (by omega)] at q; exact NotOf.row hr (h.box q).2.2
    bx7 := fun _ q => by rw [upL_ne L (by omega), h7] at q; cases q
    c7 := fun q => by rw [upL_ne L (by omega), h7] at q; cases q }
/-- The literal is made. -/
theorem KI.setLit (h : KI m0 base pv s7 uv pc rc r' a b L t M) (hb : ∀ e ∈ base, e.1 < 158 ∧ e.1 ≠ 15) (hp : pv 6 = none) (h7 : L 7 = false) : KI m0 base pv s7 uv pc rc r' M.length b (upL L 6) (Abs.put t 164 (.slice (some ⟨M.length, 0, none⟩) 1 1)) (M ++ [some { cells := [uv] }]) := by
  have hl := h.len
  exact {
    len := by rw [List.length_append]; omega
    keep := fun j hj => by rw [List.getElem?_append_left (by omega)]; exact h.keep j hj
    old := fun e he => by rw [put_ne t _ (by have := (hb e he).1; omega)]; exact h.old e he
    pure := fun k w hw hk => by
      have e : k ≠ 6 := fun e => by rw [e, hp] at hw; cases hw
      rw [upL_ne L e] at hk
      rw [put_ne t _ (by omega)]
      exact h.pure k w hw hk
    row := fun q => by rw [upL_ne L (by omega)] at q; rw [put_ne t _ (by omega)]; exact h.row q
    row7 := fun q r => by rw [upL_ne L (by omega)] at q r; exact (h.row7 q r).old _
    lit := fun _ => put_same ..
    lit7 := fun _ _ => ⟨{ cells := [uv] }, by simp, fun j v hj => by rw [Nat.zero_add]; exact hj⟩
    app := fun q => by rw [upL_ne L (by omega), h7] at q; cases q
    bld := fun q => by rw [upL_ne L (by omega)] at q; have := (h.bld q).2; rw [h7] at this; cases this
    box := fun q => by
      rw [upL_ne L (by omega)] at q
      rw [put_ne t _ (by omega), List.length_append]
      obtain ⟨b1, b2, b3⟩ := h.box q
      exact ⟨b1, b2, by omega⟩
    box0 := fun q r => by rw [upL_ne L (by omega)] at q r; exact get_old _ (h.box0 q r)
    box1 := fun q => by rw [upL_ne L (by omega)] at q; have := (h.bld (h.box1 q).2.2).2; rw [h7] at this; cases this
    bx4 := fun q r s => by rw [upL_ne L (by omega)] at q r s; exact h.bx4 q r s
    bx7 := fun _ q => by rw [upL_ne L (by omega), h7] at q; cases q
    c7 := fun q => by rw [upL_ne L (by omega), h7] at q; cases q }
/-- The literal is appended. -/
theorem KI.setApp (h : KI m0 base pv s7 uv pc rc r' a b L t M) (hb : ∀ e ∈ base, e.1 < 158 ∧ e.1 ≠ 15) (hp : pv 7 = none) (h4 : L 4 = true) (h6 : L 6 = true) (h7 : L 7 = false) {M' : AM} {u : Value} (hr : Row M' m0.length 1 u (pc ++ [uv]) (pc.length + 1)) (hml : M.length ≤ M'.length) (hk : ∀ j, j < M.length → NotOf rc j → M'[j]? = M[j]?) (hk2 : ∀ j, j < M.length → NotOf rc j → NotOf u j) : KI m0 base pv s7 uv pc rc u a b (upL L 7) (Abs.put t 165 u) M' := by
  have hl := h.len
  have hrow := h.row7 h4 h7
  have h8 : L 8 = false := by
    cases e : L 8 with
    | false => rfl
    | true => have := (h.bld e).2; rw [h7] at this; cases this
  have h10 : L 10 = false := by
    cases e : L 10 with
    | false => rfl
    | true => have := (h.box1 e).2.2; rw [h8] at this; cases this
  exact {
    len := by omega
    keep := fun j hj => by rw [hk j (by omega) (NotOf.row hrow hj)]; exact h.keep j hj
    old := fun e he => by rw [put_ne t _ (by have := (hb e he).1; omega)]; exact h.old e he
    pure := fun k w hw hk => by
      have e : k ≠ 7 := fun e => by rw [e, hp] at hw; cases hw
      rw [upL_ne L e] at hk
      rw [put_ne t _ (by omega)]
      exact h.pure k w hw hk
    row := fun q => by rw [upL_ne L (by omega)] at q; rw [put_ne t _ (by omega)]; exact h.row q
    row7 := fun _ r => by rw [upL_same] at r; cases r
    lit := fun q => by rw [upL_ne L (by omega)] at q; rw [put_ne t _ (by omega)]; exact h.lit q
    lit7 := fun _ r => by rw [upL_same] at r; cases r
    app := fun _ => ⟨put_same .., hr⟩
    bld := fun q => by rw [upL_ne L (by omega), h8] at q; cases q
    box := fun q => by
      rw [upL_ne L (by omega)] at q
      rw [put_ne t _ (by omega)]
      obtain ⟨b1, b2, b3⟩ := h.box q
      exact ⟨b1, b2, by omega⟩
    box0 := fun q r => by
      rw [upL_ne L (by omega)] at q r
      rw [hk b (h.box q).2.2 (h.bx4 q h4 h7)]
      exact h.box0 q r
    box1 := fun q => by rw [upL_ne L (by omega), h10] at q; cases q
    bx4 := fun _ _ r => by rw [upL_same] at r; cases r
    bx7 := fun q _ => by rw [upL_ne L (by omega)] at q; exact hk2 b (h.box q).2.2 (h.bx4 q h4 h7)
    c7 := fun _ => by rw [upL_ne L (by omega), upL_ne L (by omega)]; exact ⟨h4, h6⟩ }
/-- The content is built. -/
theorem KI.setBld (h : KI m0 base pv s7 uv pc rc r' a b L t M) (hb : ∀ e ∈ base, e.1 < 158 ∧ e.1 ≠ 15) (hp : pv 8 = none) (h7 : L 7 = true) : KI m0 base pv s7 uv pc rc r' a b (upL L 8) (Abs.put t 166 (.agg #[s7, r'])) M := by
  exact {
    len := h.len
    keep := h.keep
    old := fun e he => by rw [put_ne t _ (by have := (hb e he).1; omega)]; exact h.old e he
    pure := fun k w hw hk => by
      have e : k ≠ 8 := fun e => by rw [e, hp] at hw; cases hw
      rw [upL_ne L e] at hk
      rw [put_ne t _ (by omega)]
      exact h.pure k w hw hk
    row := fun q => by rw [upL_ne L (by omega)] at q; rw [put_ne t _ (by omega)]; exact h.row q
    row7 := fun q r => by rw [upL_ne L (by omega)] at q r; exact h.row7 q r
    lit := fun q => by rw [upL_ne L (by omega)] at q; rw [put_ne t _ (by omega)]; exact h.lit q
    lit7 := fun q r => by rw [upL_ne L (by omega)] at q r; exact h.lit7 q r
    app := fun q => by rw [upL_ne L (by omega)] at q; rw [put_ne t _ (by omega)]; exact h.app q
    bld := fun _ => ⟨put_same .., by rw [upL_ne L (by omega)]; exact h7⟩
    box := fun q => by rw [upL_ne L (by omega)] at q; rw [put_ne t _ (by omega)]; exact h.box q
    box0 := fun q r => by rw [upL_ne L (by omega)] at q r; exact h.box0 q r
    box1 := fun q => by
      rw [upL_ne L (by omega)] at q
      obtain ⟨b1, b2, _⟩ := h.box1 q
      exact ⟨b1, by rw [upL_ne L (by omega)]; exact b2, upL_same ..⟩
    bx4 := fun q r s => by rw [upL_ne L (by omega)] at q r s; exact h.bx4 q r s
    bx7 := fun q r => by rw [upL_ne L (by omega)] at q r; exact h.bx7 q r
    c7 := fun q => by rw [upL_ne L (by omega)] at q; rw [upL_ne L (by omega), upL_ne L (by omega)]; exact h.c7 q }
/-- The variable is made. -/
theorem KI.setBox (h : KI m0 base pv s7 uv pc rc r' a b L t M) (hb : ∀ e ∈ base, e.1 < 158 ∧ e.1 ≠ 15) (hp : pv 9 = none) (h9 : L 9 = false) : KI m0 base pv s7 uv pc rc r' a M.length (upL L 9) (Abs.put t 15 (.pointer (some ⟨M.length, 0, none⟩))) (M ++ [some { cells := [.slice none 0 0, .slice none 0 0] }]) := by
  have hl := h.len
  have h10 : L 10 = false := by
    cases e : L 10 with
    | false => rfl
    | true => have := (h.box1 e).2.1; rw [h9] at this; cases this
  exact {
    len := by rw [List.length_append]; omega
    keep := fun j hj => by rw [List.getElem?_append_left (by omega)]; exact h.keep j hj
    old := fun e he => by rw [put_ne t _ (hb e he).2]; exact h.old e he
    pure := fun k w hw hk => by
      have e : k ≠ 9 := fun e => by rw [e, hp] at hw; cases hw
      rw [upL_ne L e] at hk
      rw [put_ne t _ (by omega)]
      exact h.pure k w hw hk
    row := fun q => by rw [upL_ne L (by omega)] at q; rw [put_ne t _ (by omega)]; exact h.row q
    row7 := fun q r => by rw [upL_ne L (by omega)] at q r; exact (h.row7 q r).old _
    lit := fun q => by rw [upL_ne L (by omega)] at q; rw [put_ne t _ (by omega)]; exact h.lit q
    lit7 := fun q r => by rw [upL_ne L (by omega)] at q r; exact (h.lit7 q r).old _
    app := fun q => by
      rw [upL_ne L (by omega)] at q
      rw [put_ne t _ (by omega)]
      exact ⟨(h.app q).1, (h.app q).2.old _⟩
    bld := fun q => by rw [upL_ne L (by omega)] at q; rw [put_ne t _ (by omega), upL_ne L (by omega)]; exact h.bld q
    box := fun _ => ⟨put_same .., hl, by rw [List.length_append]; exact Nat.lt_succ_self _⟩
    box0 := fun _ _ => by simp
    box1 := fun q => by rw [upL_ne L (by omega), h10] at q; cases q
    bx4 := fun _ r s => by rw [upL_ne L (by omega)] at r s; exact (h.row7 r s).far (Nat.le_refl _)
    bx7 := fun _ r => by rw [upL_ne L (by omega)] at r; exact (h.app r).2.far (Nat.le_refl _)
    c7 := fun q => by rw [upL_ne L (by omega)] at q; rw [upL_ne L (by omega), upL_ne L (by omega)]; exact h.c7 q }
/-- The content is stored. -/
theorem KI.setSto (h : KI m0 base pv s7 uv pc rc r' a b L t M) (hp : pv 10 = none) (h8 : L 8 = true) (h9 : L 9 = true) : KI m0 base pv s7 uv pc rc r' a b (upL L 10) t (M.set b (some { cells := [s7, r'] })) := by
  have hl := h.len
  have h7 := (h.bld h8).2
  obtain ⟨x1, x2, x3⟩ := h.box h9
  exact {
    len := by rw [List.length_set]; exact hl
    keep := fun j hj => by rw [List.getElem?_set_ne (by omega)]; exact h.keep j hj
    old := h.old
    pure := fun k w hw hk => by
      have e : k ≠ 10 := fun e => by rw [e, hp] at hw; cases hw
      rw [upL_ne L e] at hk
      exact h.pure k w hw hk
    row := fun q => by rw [upL_ne L (by omega)] at q; exact h.row q
    row7 := fun _ r => by rw [upL_ne L (by omega), h7] at r; cases r
    lit := fun q => by rw [upL_ne L (by omega)] at q; exact h.lit q
    lit7 := fun _ r => by rw [upL_ne L (by omega), h7] at r; cases r
    app := fun _ => ⟨(h.app h7).1, (h.app h7).2.set (h.bx7 h9 h7)⟩
    bld := fun _ => ⟨(h.bld h8).1, by rw [upL_ne L (by omega)]; exact h7⟩
    box := fun _ => ⟨x1, x2, by rw [List.length_set]; exact x3⟩
    box0 := fun _ r => by rw [upL_same] at r; cases r
    box1 := fun _ => ⟨List.getElem?_set_self x3, by rw [upL_ne L (by omega)]; exact h9, by rw [upL_ne L (by omega)]; exact h8⟩
    bx4 := fun _ _ r => by rw [upL_ne L (by omega), h7] at r; cases r
    bx7 := fun _ _ => h.bx7 h9 h7
    c7 := fun q => by rw [upL_ne L (by omega)] at q; rw [upL_ne L (by omega), upL_ne L (by omega)]; exact h.c7 q }
end
end Go.Proofs.Ytabdnepfcohncaa.Abs
namespace Go.Proofs.Ytabdnepfcohncaa.Abs
set_option linter.unusedSimpArgs false
set_option linter.unusedVariables false
open Go.RowKit
open Go.Proofs.Ytabdnepfcohncaa.Sim
open Go.Proofs
section
variable {P : Program} {nt : Nat} {ops : Array Oper} {t : Fm} {m : AM} {K : Fm → AM → Prop} {d T : Nat} {p : String} {af : Array Edge}
theorem Step.remZ {x y : Operand} {X Y : TypeId} {a b : Int} (hx : evo t x = some (.int .i64 a)) (hy : evo t y = some (.int .i64 b)) (hb : 1 ≤ b) (hlt : Nat.blt d nt = true) (hK : K (put t d (.int .i64 (a.tmod b))) m) : Step P nt ops ⟨some d, .binOp .rem X x y Y, T, p, af, none⟩ t m K := by
  refine .ground rfl rfl hlt (by simp [Op.operands, hx, hy, g1, g0]) (fun h => by simp only [aquiet, evD_of hx, evD_of hy, aint, anil]; simpa [evD_of hx, evD_of hy] using h) ?_ (by simp [g1, g0]) hK
  simp [execOp, eqGuard, binOp, evD_of hx, evD_of hy, Op.intDiv, show ¬ b = 0 by omega, bind, Sem.bind, pure, Sim.still]
end
theorem KLoop.wide {m M : AM} {K T T' : Nat → Prop} {b7 b8 lg : Nat} {D : Dk} {L : Lg} {mb : List UInt8 × List (List UInt8)} {k : Nat} (h : KLoop m M K T b7 b8 lg D L mb k) (hT : ∀ j, T j → T' j) (hK : ∀ j, T' j → K j) (n7 : ¬ T' b7) (n8 : ¬ T' b8) : KLoop m M K T' b7 b8 lg D L mb k :=
  ⟨h.kd, h.iv, h.g, ⟨h.k7.1, n7, h.k7.2.2⟩, ⟨h.k8.1, n8, h.k8.2.2⟩, h.ne, hK, by have := h.x7.app [] hT; rwa [List.append_nil] at this, by have := h.x8.app [] hT; rwa [List.append_nil] at this, h.z7, h.z8⟩
theorem KLoop.set {m M : AM} {K T : Nat → Prop} {b7 b8 lg b : Nat} {D : Dk} {L : Lg} {mb : List UInt8 × List (List UInt8)} {k : Nat} (h : KLoop m M K T b7 b8 lg D L mb k) (hb : K b) (hm : m.length ≤ b) (nt : ¬ T b) (n7 : b ≠ b7) (n8 : b ≠ b8) (x : Option Blk) : KLoop m (M.set b x) K T b7 b8 lg D L mb k :=
  ⟨h.kd.set hb hm x, h.iv, h.g, h.k7, h.k8, h.ne, h.tk, h.x7.other nt (Ne.symm n7) x, h.x8.other nt (Ne.symm n8) x, h.z7, h.z8⟩
theorem bl105o {a : Value} (ha : SlV a) : abuild Try.prog 105 [(0, a)] = some (.agg #[a, .slice none 0 0]) := by
  rcases ha with rfl | ⟨q, n, c, rfl⟩ <;> kernel_rfl
/-- The call has returned e. -/
structure KMid (m M : AM) (K T : Nat → Prop) (b7 b8 b15 lg : Nat) (D : Dk) (L0 L : Lg) (mb nx : List UInt8 × List (List UInt8)) (k : Nat) (e : Int) : Prop where
  kd : KDL m M K lg D L
  q : KQ L0 nx mb (e, D, L)
  g : L0.c.gen ≤ 4 * k + 1
  k7 : K b7 ∧ ¬ T b7 ∧ m.length ≤ b7
  k8 : K b8 ∧ ¬ T b8 ∧ m.length ≤ b8
  ne : b7 ≠ b8
  n7 : b15 ≠ b7
  n8 : b15 ≠ b8
  tk : ∀ j, T j → K j
  x7 : BoxAt M T b7 L0.c.cc
  x8 : BoxAt M T b8 mb
  xn : BoxAt M T b15 nx
  z7 : Bnd L0.c.cc k
  z8 : Bnd mb k
  zn : Bnd nx (k + 1)
theorem KLoop.mid {m M M' : AM} {K T : Nat → Prop} {b7 b8 b15 lg : Nat} {D D' : Dk} {L L' : Lg} {mb nx : List UInt8 × List (List UInt8)} {k : Nat} {e : Int} (h : KLoop m M K T b7 b8 lg D L mb k) (hkd : KDL m M' K lg D' L') (hp : Pre K M M') (hq : KQ L nx mb (e, D', L')) (hb : K b15) (n7 : b15 ≠ b7) (n8 : b15 ≠ b8) (xn : BoxAt M T b15 nx) (zn : Bnd nx (k + 1)) : KMid m M' K T b7 b8 b15 lg D' L L' mb nx k e :=
  ⟨hkd, hq, h.g, h.k7, h.k8, h.ne, n7, n8, h.tk, h.x7.pre h.tk h.k7.1 hp, h.x8.pre h.tk h.k8.1 hp, xn.pre h.tk hb hp, h.z7, h.z8, zn⟩
/-- OK: both variables are set. -/
theorem KMid.done {m M : AM} {K T : Nat → Prop} {b7 b8 b15 lg : Nat} {D : Dk} {L0 L : Lg} {mb nx : List UInt8 × List (List UInt8)} {k : Nat} {s r : Value} (h : KMid m M K T b7 b8 b15 lg D L0 L mb nx k 0) (v : CnAt (vw T M) s r nx) : KLoop m ((M.set b7 (some { cells := [s, r] })).set b8 (some { cells := [s, r] })) K T b7 b8 lg D L nx (k + 1) ∧ L.c.cc = nx := by
  rcases h.q with ⟨_, q1, q2, q3⟩ | ⟨q1, _⟩ | ⟨q1, _⟩
  · simp only at q1 q2 q3
    have h7 := h.kd.set h.k7.1 h.k7.2.2 (some { cells := [s, r] })
    have hx : BoxAt (M.set b7 (some { cells := [s, r] })) T b7 nx := BoxAt.put v h.k7.2.1 (h.kd.lt h.k7.1)
    have v' : CnAt (vw T (M.set b7 (some { cells := [s, r] }))) s r nx := v.sub (vw_sub_set h.k7.2.1 _)
    exact ⟨⟨h7.set h.k8.1 h.k8.2.2 _, q3 nx, by have := h.g; omega, h.k7, h.k8, h.ne, h.tk, by rw [q1]; exact hx.other h.k8.2.1 h.ne _, BoxAt.put v' h.k8.2.1 (h7.lt h.k8.1), by rw [q1]; exact h.zn, h.zn⟩, q1⟩
  · exact absurd rfl q1
  · cases q1
/-- The power is lost. -/
theorem KMid.lost {m M : AM} {K T : Nat → Prop} {b7 b8 b15 lg : Nat} {D : Dk} {L0 L : Lg} {mb nx : List UInt8 × List (List UInt8)} {k : Nat} {s r : Value} (h : KMid m M K T b7 b8 b15 lg D L0 L mb nx k 14) (v : CnAt (vw T M) s r nx) : KLoop m (M.set b8 (some { cells := [s, r] })) K T b7 b8 lg D L nx (k + 1) := by
  rcases h.q with ⟨q1, _⟩ | ⟨_, q1, _⟩ | ⟨_, q1, q2⟩
  · cases q1
  · exact absurd rfl q1
  · simp only at q1 q2
    exact ⟨h.kd.set h.k8.1 h.k8.2.2 _, q2, by rw [q1]; have := h.g; omega, h.k7, h.k8, h.ne, h.tk, by rw [q1]; exact h.x7.other h.k8.2.1 h.ne _, BoxAt.put v h.k8.2.1 (h.kd.lt h.k8.1), by rw [q1]; exact h.z7.mono (by omega), h.zn⟩
/-- Refused. -/
theorem KMid.no {m M : AM} {K T : Nat → Prop} {b7 b8 b15 lg : Nat} {D : Dk} {L0 L : Lg} {mb nx : List UInt8 × List (List UInt8)} {k : Nat} {e : Int} (h : KMid m M K T b7 b8 b15 lg D L0 L mb nx k e) (h0 : e ≠ 0) (h1 : e ≠ 14) : KLoop m M K T b7 b8 lg D L mb (k + 1) := by
  rcases h.q with ⟨q1, _⟩ | ⟨_, _, q1, q2⟩ | ⟨q1, _⟩
  · exact absurd q1 h0
  · simp only at q1 q2
    exact ⟨h.kd, q2, by rw [q1]; have := h.g; omega, h.k7, h.k8, h.ne, h.tk, by rw [q1]; exact h.x7, h.x8, by rw [q1]; exact h.z7.mono (by omega), h.z8.mono (by omega)⟩
  · exact absurd q1 h1
/-- The log has what the law is sure of. -/
theorem KLoop.has {m M : AM} {K T : Nat → Prop} {b7 b8 lg : Nat} {D : Dk} {L : Lg} {mb : List UInt8 × List (List UInt8)} {k : Nat} (h : KLoop m M K T b7 b8 lg D L mb k) (hk : k ≤ 1000000) : ∃ s r, M[b7]? = some (some { cells := [s, r] }) ∧ ACall Try.prog 55 #[.pointer (some ⟨lg, 0, none⟩), .agg #[s, r]] (M ++ []) (Ret (.bool true) (M ++ [])) := by
  obtain ⟨s, r, y, v⟩ := h.x7
  have h1 := h.z7.1
  have h2 := h.z7.2.1
  change L.c.snap.length ≤ _ at h1
  change L.c.recs.length ≤ _ at h2
  refine ⟨s, r, y, ?_⟩
  have := K_has h.kd (v.sub (Sub.vw T M)) (by omega) (by omega) (fun p hp => by have := h.z7.2.2 p hp; omega) (by show L.c.recs.length ≤ _; omega)
  rw [show decide (L.c.cc = L.c.cc) = true by simp] at this
  rwa [List.append_nil]
def kiV (b7 : Nat) (s7 r7 uv : Value) : Nat → Option Value
  | 0 => some (.pointer (some ⟨b7, 0, none⟩))
  | 1 => some s7
  | 2 => some (.pointer (some ⟨b7, 0 + 1, none⟩))
  | 3 => some r7
  | 5 => some uv
  | _ => none
theorem Byts.slv {M : AM} {u : Value} {l : List UInt8} (h : Byts M u l) : SlV u := by
  obtain ⟨_, _, hh, _⟩ := h
  rcases hh with ⟨rfl, _⟩ | ⟨c, _, rfl⟩ | ⟨_, _, _, rfl⟩
  · exact .inl rfl
  · exact .inr ⟨_, _, _, rfl⟩
  · exact .inr ⟨_, _, _, rfl⟩
theorem all_of {p : Nat → Value → Prop} : ∀ {l : List (Nat × Value)}, (∀ e ∈ l, p e.1 e.2) → All p l
  | [], _ => trivial
  | (_, _) :: _, h => ⟨h _ (.head _), all_of fun e he => h e (.tail _ he)⟩
theorem KI.sub {m0 M : AM} {base : List (Nat × Value)} {pv : Nat → Option Value} {s7 uv rc r' : Value} {pc : List Value} {a b : Nat} {L : Nat → Bool} {t : Fm} (h : KI m0 base pv s7 uv pc rc r' a b L t M) (T : Nat → Prop) : Sub (vw T m0) M := ⟨by rw [vw_len]; exact h.len, fun j g hg => by
  obtain ⟨_, q2⟩ := vw_some.1 hg
  rw [h.keep j (List.getElem?_eq_some_iff.1 q2).1]; exact q2⟩
theorem fo105 : foB Try.prog 105 1 = some 1 := by kernel_rfl
/-- What the region has made. -/
theorem KI.fin {m0 M : AM} {base : List (Nat × Value)} {pv : Nat → Option Value} {s7 uv rc r' : Value} {pc : List Value} {a b x : Nat} {L : Nat → Bool} {t : Fm} {T : Nat → Prop} {snap p : List UInt8} {recs : List (List UInt8)} {r7 : Value} (h : KI m0 base pv s7 uv pc rc r' a b L t M) (hL : ∀ i, i < 11 → L i = true) (hx : x ≤ m0.length) (hT : ∀ j, T j → j < m0.length) (hu : Byts (vw (fun j => x ≤ j) m0) uv p) (hs : Byts (vw T m0) s7 snap) (hp : PaysL (vw T m0) r7 pc recs) :
    t 15 = some (.pointer (some ⟨b, 0, none⟩)) ∧ m0.length ≤ b ∧ m0.length ≤ M.length ∧ (∀ j, j < m0.length → M[j]? = m0[j]?) ∧ M[b]? = some (some { cells := [s7, r'] }) ∧ CnAt (vw (fun j => T j ∨ x ≤ j ∧ j ≠ b) M) s7 r' (snap, recs ++ [p]) := by
  obtain ⟨b1, b2, b3⟩ := h.box (hL 9 (by decide))
  have hl := h.len
  have hsub : ∀ (Q : Nat → Prop), (∀ j, Q j → T j ∨ x ≤ j) → Sub (vw Q m0) (vw (fun j => T j ∨ x ≤ j ∧ j ≠ b) M) := fun Q hQ => ⟨by rw [vw_len, vw_len]; exact hl, fun j g hg => by
    obtain ⟨q1, q2⟩ := vw_some.1 hg
    have hj : j < m0.length := (List.getElem?_eq_some_iff.1 q2).1
    refine vw_some.2 ⟨(hQ j q1).imp id fun e => ⟨e, by omega⟩, by rw [h.keep j hj]; exact q2⟩⟩
  refine ⟨b1, b2, hl, h.keep, (h.box1 (hL 10 (by decide))).1, hs.sub (hsub T fun j hj => .inl hj), pc ++ [uv], ?_⟩
  obtain ⟨g1, _, g3⟩ := hp
  have hlen : (pc ++ [uv]).length = (recs ++ [p]).length := by simp [g1]
  have hrow := (h.app (hL 7 (by decide))).2
  have hnb := h.bx7 (hL 9 (by decide)) (hL 7 (by decide))
  refine ⟨hlen, ?_, fun k u hu' => ?_⟩
  · rcases hrow with ⟨_, hc, _⟩ | ⟨q, kd, sz, q1, rfl, q2, q3, _⟩
    · simp at hc
    · have hql : q < M.length := (List.getElem?_eq_some_iff.1 q2).1
      have hqb : q ≠ b := fun e => hnb _ _ (by rw [e])
      have e1 : (recs ++ [p]).length = pc.length + 1 := by simp [g1]
      refine ⟨q, 0, by rw [e1]; exact Sl.mk (Nat.le_refl _), by rw [vw_len]; exact hql, fun _ => ⟨_, vw_some.2 ⟨.inr ⟨by omega, hqb⟩, q2⟩, fun j v hj => by rw [Nat.zero_add]; exact hj⟩⟩
  · rcases Nat.lt_or_ge k pc.length with hk | hk
    · rw [List.getElem?_append_left hk] at hu'
      have := (g3 k u hu').sub (hsub T fun j hj => .inl hj)
      rwa [show (recs ++ [p]).getD k [] = recs.getD k [] by simp only [List.getD_eq_getElem?_getD]; rw [List.getElem?_append_left (by omega)]]
    · rw [List.getElem?_append_right hk] at hu'
      have hk0 : k - pc.length = 0 := by
        rcases Nat.eq_zero_or_pos (k - pc.length) with e | e
        · exact e
        · rw [List.getElem?_eq_none (by simp; omega)] at hu'; cases hu'
      rw [hk0] at hu'
      simp only [List.getElem?_cons_zero, Option.some.injEq] at hu'
      subst hu'
      have := hu.sub (hsub _ fun j hj => .inr hj)
      rwa [show (recs ++ [p]).getD k [] = p by simp only [List.getD_eq_getElem?_getD]; rw [List.getElem?_append_right (by omega), show k - recs.length = 0 by omega]; rfl]
end Go.Proofs.Ytabdnepfcohncaa.Abs
namespace Go.Proofs.Ytabdnepfcohncaa.Abs
set_option linter.unusedSimpArgs false
set_option linter.unusedVariables false
open Go.RowKit
open Go.Proofs.Ytabdnepfcohncaa.Sim
open Go.Proofs
set_option maxHeartbeats 64000000 in
set_option maxRecDepth 100000 in
theorem StockKept_ok {m : AM} (hw : ∀ M : AM, ACall Try.prog 16 #[] M (Ret (.bool true) M)) {n : Int} {v : Value} {xs : List Act9} (h : Acts9 m v xs) (hn : xs.length ≤ 9223372036854775807) (hl : ∀ k, (xs.getD k default).l.length ≤ 9223372036854775807) : ACall Try.prog 13 #[.int .i64 n, v] m (Ret (.bool true) m) := by
  refine ACall.drop (.bool _) ?_
  obtain ⟨a, o, h1, h2, h3⟩ := h
  obtain ⟨z0, hz0, ez0⟩ := mod_in n 2000 (by omega) (by omega)
  have ez1 : (64 : Int) + ((z0 : Nat) : Int) = ((64 + z0 : Nat) : Int) := by omega
  have hz : 64 ≤ 64 + z0 ∧ 64 + z0 ≤ 1048576 := by omega
  refine ACall.start Try.func13 rfl rfl ?_
  (repeat (first | (with_reducible refine AWo.cons ?_) | ((with_reducible refine Step.id ?_); first | ((with_reducible apply Step.move); exact rfl; exact rfl) | ((with_reducible apply Step.assign); exact rfl; exact rfl)) | (with_reducible refine AWo.nil ?_) | ((with_reducible apply AW.seq)) | ((with_reducible apply Then.n)) | ((with_reducible apply AW.regL))))
  ((with_reducible apply Step.conv); exact rfl; exact un3; exact un31; exact rfl; exact rfl)
  (repeat ((with_reducible refine AWo.cons ?_)))
  ((with_reducible apply Step.remU); exact rfl; exact rfl; exact (wrapU _); (focus (omega)); exact rfl)
  (repeat ((with_reducible refine AWo.cons ?_)))
  ((with_reducible apply Step.conv); exact rfl; exact un31; exact un3; exact ez0; exact rfl)
  (repeat (first | (with_reducible refine AWo.cons ?_) | ((with_reducible refine Step.id ?_); first | ((with_reducible apply Step.move); exact rfl; exact rfl) | ((with_reducible apply Step.assign); exact rfl; exact rfl) | ((with_reducible apply Step.add); exact rfl; exact rfl; (focus (omega)); exact rfl)) | (with_reducible refine AWo.nil ?_) | ((with_reducible apply AW.seq)) | ((with_reducible apply Then.n)) | ((with_reducible apply AW.regL))))
  rw [ez1]
  ((with_reducible apply Step.callF fit); exact rfl; exact Try.func23; exact rfl; exact rfl; (focus (rw [List.append_nil]; exact NewDisk_ok hz)))
  rintro r0 M0 ⟨rfl, hM0⟩
  generalize 64 + z0 = z at *
  have hD0 : DiskAt M0 m.length m.length (Dk.new z) (.slice none 0 0) (.slice none 0 0) := by
    have := DiskAt.new m hz []
    rwa [List.append_nil, ← hM0] at this
  have hM0l : M0.length = m.length + 1 := by rw [hM0, List.length_append]; rfl
  rw [← List.append_nil M0]
  (repeat (first | (with_reducible refine AWo.cons ?_) | ((with_reducible refine Step.id ?_); first | ((with_reducible apply Step.gdT); exact rfl; exact rfl; (focus (rfl))) | ((with_reducible apply Step.move); exact rfl; exact rfl) | ((with_reducible apply Step.assign); exact rfl; exact rfl) | ((with_reducible apply Step.ptrNot); exact rfl; exact rfl; exact un36; exact rfl) | ((with_reducible apply Step.neq); exact rfl; exact rfl; exact rfl) | ((with_reducible apply Step.extract); exact rfl; exact rfl; exact rfl) | ((with_reducible apply Step.pickF); exact rfl; exact rfl; exact rfl; exact rfl; (focus (rfl))) | ((with_reducible apply Step.alloc 0); exact rfl; exact ze105; exact rfl; (focus (first | (simp only [List.nil_append, List.cons_append, List.set_cons_zero, List.set_cons_succ, iv_set, bv_set, iv_rep, bv_rep]; done) | (simp only [List.nil_append, List.cons_append, List.set_cons_zero, List.set_cons_succ, iv_set, bv_set, iv_rep, bv_rep]; rfl) | rfl))) | ((with_reducible apply Step.alloc 1); exact rfl; exact ze105; exact rfl; (focus (first | (simp only [List.nil_append, List.cons_append, List.set_cons_zero, List.set_cons_succ, iv_set, bv_set, iv_rep, bv_rep]; done) | (simp only [List.nil_append, List.cons_append, List.set_cons_zero, List.set_cons_succ, iv_set, bv_set, iv_rep, bv_rep]; rfl) | rfl)))) | (with_reducible refine AWo.nil ?_) | ((fail_if_success (with_reducible refine AW.atR (id := 6) ?_)); ((with_reducible apply AW.seq))) | ((with_reducible apply Then.n)) | ((with_reducible apply AW.regL)) | ((with_reducible apply AW.skip)) | ((with_reducible apply AW.condF); exact rfl; (focus (rfl)))))
  obtain ⟨X, hX⟩ : ∃ X : AM, X = M0 ++ [some { cells := [.slice none 0 0, .slice none 0 0] }, some { cells := [.slice none 0 0, .slice none 0 0] }] := ⟨_, rfl⟩
  have hXl : X.length = m.length + 3 := by rw [hX, List.length_append, hM0l]; rfl
  have hDX : DiskAt X m.length m.length (Dk.new z) (.slice none 0 0) (.slice none 0 0) := by rw [hX]; exact hD0.old _
  have hXm : X = m ++ [some { cells := dkc (Dk.new z) (.slice none 0 0) (.slice none 0 0) }, some { cells := [.slice none 0 0, .slice none 0 0] }, some { cells := [.slice none 0 0, .slice none 0 0] }] := by rw [hX, hM0, List.append_assoc]; rfl
  have hb7 : X[m.length + 1]? = some (some { cells := [.slice none 0 0, .slice none 0 0] }) := by rw [hXm, get_app]; rfl
  have hb8 : X[m.length + 2]? = some (some { cells := [.slice none 0 0, .slice none 0 0] }) := by rw [hXm, get_app]; rfl
  have hOp := Open_ok hDX (by omega)
  obtain ⟨D', eo, hcl⟩ := open_new hz.1
  rw [eo] at hOp
  rw [show (M0 ++ [some { cells := [.slice none 0 0, .slice none 0 0] }, some { cells := [.slice none 0 0, .slice none 0 0] }] : AM) = X from hX.symm]
  rw [← List.append_nil X]
  (repeat (first | (with_reducible refine AWo.cons ?_) | ((with_reducible refine Step.id ?_); ((with_reducible apply Step.move); exact rfl; exact rfl)) | ((with_reducible apply AW.seq)) | ((with_reducible apply AW.regL))))
  ((with_reducible apply Step.callF fit); exact rfl; exact Try.func50; exact rfl; exact rfl; (focus (rw [List.append_nil]; exact hOp)))
  rintro r1 M1 (⟨q0, _⟩ | ⟨c', nn', lg, w0, w1, sv, rv, S, q0, q1, rfl, hD1, hk1, hf1, hL1, hS1⟩)
  · cases q0
  · simp only [Option.some.injEq, Prod.mk.injEq] at q0
    obtain ⟨rfl, rfl⟩ := q0
    have hk1l := hk1.len
    have hnx : ∀ j, dkD m.length (.slice none 0 0) (.slice none 0 0) j → j = m.length := fun j hj => by
      rcases hj with e | e | e
      · exact e
      · exact absurd .nil e
      · exact absurd .nil e
    have g7 : M1[m.length + 1]? = some (some { cells := [.slice none 0 0, .slice none 0 0] }) := by rw [hk1.get _ (by omega) fun e => by have := hnx _ e; omega]; exact hb7
    have g8 : M1[m.length + 2]? = some (some { cells := [.slice none 0 0, .slice none 0 0] }) := by rw [hk1.get _ (by omega) fun e => by have := hnx _ e; omega]; exact hb8
    have hkd : KDL m M1 (fun j => j = m.length + 1 ∨ j = m.length + 2) lg D' ⟨⟨1, [], []⟩, 0, false⟩ := by
      refine ⟨w0, w1, sv, rv, S, hD1, hL1, pre_keep ⟨_, hXm⟩ hk1.len fun j hj => hk1.get j (by omega) fun e => by have := hnx _ e; omega, fun j hj => ⟨(hS1 j hj).2, by have := (hS1 j hj).1; omega⟩, ?_⟩
      rintro j (rfl | rfl)
      · exact ⟨hf1 _ (by omega) fun e => by have := hnx _ e; omega, fun e => by have := (hS1 _ e).1; omega, by omega⟩
      · exact ⟨hf1 _ (by omega) fun e => by have := hnx _ e; omega, fun e => by have := (hS1 _ e).1; omega, by omega⟩
    have hcn : ∀ M : AM, 0 < M.length → CnAt M (.slice none 0 0) (.slice none 0 0) ([], []) := fun M hM => ⟨⟨0, 0, .inl ⟨rfl, rfl⟩, hM, fun k hk => by simp at hk⟩, [], PaysL.nil hM⟩
    have hK0 : KLoop m M1 (fun j => j = m.length + 1 ∨ j = m.length + 2) (fun _ => False) (m.length + 1) (m.length + 2) lg D' ⟨⟨1, [], []⟩, 0, false⟩ ([], []) 0 :=
      ⟨hkd, .inl ⟨rfl, hcl⟩, by simp, ⟨.inl rfl, id, by omega⟩, ⟨.inr rfl, id, by omega⟩, by omega, fun _ => False.elim, ⟨_, _, g7, hcn _ (by rw [vw_len]; omega)⟩, ⟨_, _, g8, hcn _ (by rw [vw_len]; omega)⟩, ⟨by simp [Cont.cc], by simp [Cont.cc], by simp [Cont.cc]⟩, ⟨by simp, by simp, by simp⟩⟩
    have hH := K_has hkd (hcn M1 (by omega)) (by simp) (by simp) (by simp) (by simp)
    rw [show decide ((⟨⟨1, [], []⟩, 0, false⟩ : Lg).c.cc = ([], [])) = true by simp [Cont.cc]] at hH
    rw [← List.append_nil M1]
    have e7 : m.length + 1 = M0.length + 0 := by omega
    have e8 : m.length + 2 = M0.length + 1 := by omega
    rw [e7] at g7 hK0
    rw [e8] at hK0
    (repeat (first | (with_reducible refine AWo.cons ?_) | ((with_reducible refine Step.id ?_); first | ((with_reducible apply Step.gdT); exact rfl; exact rfl; (focus (rfl))) | ((with_reducible apply Step.move); exact rfl; exact rfl) | ((with_reducible apply Step.assign); exact rfl; exact rfl) | ((with_reducible apply Step.loadL (n := 2)); exact rfl; (focus (decide +kernel)); (focus (decide +kernel)); exact rfl; (focus (exact BoxAt.rd g7 _)); exact rfl; exact rfl) | ((with_reducible apply Step.ptrNot); exact rfl; exact rfl; exact un96; exact rfl) | ((with_reducible apply Step.neq); exact rfl; exact rfl; exact rfl) | ((with_reducible apply Step.extract); exact rfl; exact rfl; exact rfl) | ((with_reducible apply Step.pickF); exact rfl; exact rfl; exact rfl; exact rfl; (focus (rfl)))) | (with_reducible refine AWo.nil ?_) | ((with_reducible apply AW.seq)) | ((with_reducible apply Then.n)) | ((with_reducible apply AW.regL))))
    ((with_reducible apply Step.callF fit); exact rfl; exact Try.func55; exact rfl; exact rfl; (focus (rw [List.append_nil]; exact hH)))
    rintro r2 M2 ⟨rfl, rfl⟩
    generalize M0.length + 0 = b7 at *
    generalize M0.length + 1 = b8 at *
    rw [← List.append_nil M1]
    (repeat (first | (with_reducible refine AWo.cons ?_) | ((with_reducible refine Step.id ?_); first | ((with_reducible apply Step.gdT); exact rfl; exact rfl; (focus (rfl))) | ((with_reducible apply Step.move); exact rfl; exact rfl) | ((with_reducible apply Step.len); exact rfl; (focus (assumption)); (focus (decide +kernel)); exact rfl) | ((with_reducible apply Step.not); exact rfl; exact rfl) | ((with_reducible apply Step.pickF); exact rfl; exact rfl; exact rfl; exact rfl; (focus (rfl)))) | (with_reducible refine AWo.nil ?_) | ((with_reducible apply AW.seq)) | ((with_reducible apply Then.n)) | ((with_reducible apply AW.regL)) | ((with_reducible apply AW.block)) | ((with_reducible apply AW.skip)) | ((with_reducible apply AW.condF); exact rfl; (focus (rfl)))))
    refine AW.midR 0 (fun t' M => (∃ N, M = m ++ N)) ?_ ?_
    · refine AW.loopW (fun q t M => ∃ (k : Nat) (K T : Nat → Prop) (lg : Nat) (D : Dk) (L : Lg) (mb : List UInt8 × List (List UInt8)), q = xs.length - k ∧ k ≤ xs.length ∧ k ≤ 41 ∧ KLoop m M K T b7 b8 lg D L mb k ∧
        t = fr [(5, .pointer (some ⟨m.length, 0, none⟩)), (7, .pointer (some ⟨b7, 0, none⟩)), (8, .pointer (some ⟨b8, 0, none⟩)), (9, .pointer (some ⟨lg, 0, none⟩)), (50, v), (51, .int .i64 (xs.length : Nat)), (52, .int .i64 (k : Nat))]) ⟨_, _, (by repeat (first | exact trivial | (refine And.intro rfl ?_))), 0, _, _, lg, D', _, _, rfl, Nat.zero_le _, Nat.zero_le _, by rw [List.append_nil]; exact hK0, rfl⟩ ?_
      rintro q t M ⟨k, K, T, lg, D, L, mb, rfl, hk, hk41, hK, rfl⟩
      refine AW.rebase ?_
      obtain ⟨N, hN⟩ := hK.kd.pre
      rcases Nat.lt_or_ge k xs.length with hlt | hge
      · obtain ⟨w, g1, g2⟩ := h3 k hlt
        have hMl : M.length = m.length + N.length := by rw [hN, List.length_append]
        have g1' : ∀ T, RdL (M ++ T) a (o + k * 4) ((xs.getD k default).cells w) := fun T => RdL.old T (by rw [hN]; exact RdL.old N g1)
        have hle := hl k
        generalize xs.getD k default = x at *
        have hw1 : (Value.agg (x.cells w).toArray).cells.all (·.oneCell') = true := Act9.one g2
        by_cases h40 : 40 < k
        · (repeat (first | (with_reducible refine AWo.cons ?_) | ((with_reducible refine Step.id ?_); first | ((with_reducible apply Step.move); exact rfl; exact rfl) | ((with_reducible apply Step.assign); exact rfl; exact rfl) | ((with_reducible apply Step.loadL (n := 4)); exact rfl; (focus (decide +kernel)); (focus (decide +kernel)); exact rfl; (focus (exact g1' _)); exact rfl; exact rfl) | ((with_reducible apply Step.ix (s := 4)); exact rfl; (focus (assumption)); exact rfl; (focus (decide +kernel)); exact rfl; (focus (omega))) | ((with_reducible apply Step.lss); exact rfl; exact rfl; exact rfl) | ((with_reducible apply Step.gtr); exact rfl; exact rfl; exact rfl) | ((with_reducible apply Step.alloc 0); exact rfl; exact ze43; exact rfl; (focus (first | (simp only [List.nil_append, List.cons_append, List.set_cons_zero, List.set_cons_succ, iv_set, bv_set, iv_rep, bv_rep]; done) | (simp only [List.nil_append, List.cons_append, List.set_cons_zero, List.set_cons_succ, iv_set, bv_set, iv_rep, bv_rep]; rfl) | rfl))) | ((with_reducible apply Step.storeA (k := 0) (n := 4)); exact rfl; exact rfl; exact rfl; exact rfl; (focus (decide +kernel)); exact rfl; (focus (first | assumption | exact hw1)); exact rfl; (focus (first | (simp only [List.nil_append, List.cons_append, List.set_cons_zero, List.set_cons_succ, iv_set, bv_set, iv_rep, bv_rep]; done) | (simp only [List.nil_append, List.cons_append, List.set_cons_zero, List.set_cons_succ, iv_set, bv_set, iv_rep, bv_rep]; rfl) | rfl)))) | (with_reducible refine AWo.nil ?_) | ((with_reducible apply AW.seq)) | ((with_reducible apply Then.n)) | ((with_reducible apply AW.regL)) | ((with_reducible apply AW.block)) | ((with_reducible apply AW.exit)) | ((with_reducible apply InBlk.miss); exact rfl) | ((with_reducible apply Then.e)) | ((with_reducible apply AW.skip)) | ((with_reducible apply AW.condT); exact rfl; (focus ((simp only [decide_eq_true_eq, decide_eq_false_iff_not, Bool.not_eq_true', Bool.not_eq_false', Bool.not_true, Bool.not_false]; first | assumption | omega))))))
          refine MidR.e ?_
          exact ⟨N ++ [some { cells := x.cells w }], by rw [hN, List.append_assoc]; rfl⟩
        · obtain ⟨X, hX⟩ : ∃ X : AM, X = M ++ [some { cells := x.cells w }] := ⟨_, rfl⟩
          have hXl : X.length = M.length + 1 := by rw [hX, List.length_append]; rfl
          have hKX := hK.app [some { cells := x.cells w }]
          rw [← hX] at hKX
          have hbX : X[M.length + 0]? = some (some { cells := x.cells w }) := by rw [hX, get_app]; rfl
          obtain ⟨K1, hK1⟩ : ∃ K1 : Nat → Prop, K1 = fun j => K j ∨ M.length ≤ j ∧ j < X.length := ⟨_, rfl⟩
          rw [← hK1] at hKX
          have hbK : K1 (M.length + 0) := by rw [hK1]; exact .inr ⟨by omega, by omega⟩
          clear hK1
          have rdx : ∀ (Y : AM), Y[M.length + 0]? = some (some { cells := x.cells w }) → ∀ T, RdL (Y ++ T) (M.length + 0) 0 (x.cells w) ∧ Rd (Y ++ T) (M.length + 0) (0 + 0) (.int .i64 x.kd) ∧ Rd (Y ++ T) (M.length + 0) (0 + 1) (.int .i64 x.n) ∧ Rd (Y ++ T) (M.length + 0) (0 + 2) (.int .i64 x.m) ∧ Rd (Y ++ T) (M.length + 0) (0 + 3) w := fun Y hY T =>
            ⟨RdL.old T ⟨_, hY, fun j v hv => by rw [Nat.zero_add]; exact hv⟩, Rd.old T ⟨_, hY, rfl⟩, Rd.old T ⟨_, hY, rfl⟩, Rd.old T ⟨_, hY, rfl⟩, Rd.old T ⟨_, hY, rfl⟩⟩
          have rX := rdx X hbX
          obtain ⟨q5, hq5, eq5⟩ := mod_in x.kd 5 (by omega) (by omega)
          (repeat (first | (with_reducible refine AWo.cons ?_) | ((with_reducible refine Step.id ?_); first | ((with_reducible apply Step.move); exact rfl; exact rfl) | ((with_reducible apply Step.assign); exact rfl; exact rfl) | ((with_reducible apply Step.loadL (n := 4)); exact rfl; (focus (decide +kernel)); (focus (decide +kernel)); exact rfl; (focus (exact g1' _)); exact rfl; exact rfl) | ((with_reducible apply Step.ix (s := 4)); exact rfl; (focus (assumption)); exact rfl; (focus (decide +kernel)); exact rfl; (focus (omega))) | ((with_reducible apply Step.lss); exact rfl; exact rfl; exact rfl) | ((with_reducible apply Step.gtr); exact rfl; exact rfl; exact rfl) | ((with_reducible apply Step.alloc 0); exact rfl; exact ze43; exact rfl; (focus (first | (simp only [List.nil_append, List.cons_append, List.set_cons_zero, List.set_cons_succ, iv_set, bv_set, iv_rep, bv_rep]; done) | (simp only [List.nil_append, List.cons_append, List.set_cons_zero, List.set_cons_succ, iv_set, bv_set, iv_rep, bv_rep]; rfl) | rfl))) | ((with_reducible apply Step.storeA (k := 0) (n := 4)); exact rfl; exact rfl; exact rfl; exact rfl; (focus (decide +kernel)); exact rfl; (focus (first | assumption | exact hw1)); exact rfl; (focus (first | (simp only [List.nil_append, List.cons_append, List.set_cons_zero, List.set_cons_succ, iv_set, bv_set, iv_rep, bv_rep]; done) | (simp only [List.nil_append, List.cons_append, List.set_cons_zero, List.set_cons_succ, iv_set, bv_set, iv_rep, bv_rep]; rfl) | rfl)))) | (with_reducible refine AWo.nil ?_) | ((fail_if_success (with_reducible refine AW.atR (id := 13) ?_)); ((with_reducible apply AW.seq))) | ((with_reducible apply Then.n)) | ((with_reducible apply AW.regL)) | ((with_reducible apply AW.block)) | ((with_reducible apply AW.skip)) | ((with_reducible apply AW.condT); exact rfl; (focus ((simp only [decide_eq_true_eq, decide_eq_false_iff_not, Bool.not_eq_true', Bool.not_eq_false', Bool.not_true, Bool.not_false]; first | assumption | omega)))) | ((with_reducible apply AW.condF); exact rfl; (focus ((simp only [decide_eq_true_eq, decide_eq_false_iff_not, Bool.not_eq_true', Bool.not_eq_false', Bool.not_true, Bool.not_false]; first | assumption | omega))))))
          rw [show (M ++ [some { cells := (Value.agg (x.cells w).toArray).cells.toList }] : AM) = X from hX.symm]
          rw [← List.append_nil X]
          generalize M.length + 0 = bx at *
          (repeat (first | (with_reducible refine AWo.cons ?_) | ((with_reducible refine Step.id ?_); first | ((with_reducible apply Step.load); exact rfl; (focus (decide +kernel)); exact rfl; (focus (exact (rX _).2.1))) | ((with_reducible apply Step.field0); exact rfl; (focus (decide +kernel)); exact rfl)) | ((with_reducible apply AW.seq)) | ((with_reducible apply AW.regL))))
          ((with_reducible apply Step.conv); exact rfl; exact un3; exact un31; exact rfl; exact rfl)
          (repeat ((with_reducible refine AWo.cons ?_)))
          ((with_reducible apply Step.remU); exact rfl; exact rfl; exact (wrapU _); (focus (omega)); exact rfl)
          (repeat ((with_reducible refine AWo.cons ?_)))
          ((with_reducible apply Step.conv); exact rfl; exact un31; exact un3; exact eq5; exact rfl)
          by_cases c0 : q5 = 0
          · subst c0
            obtain ⟨q8, hq8, eq8⟩ := mod_in x.n 8 (by omega) (by omega)
            (repeat (first | (with_reducible refine AWo.cons ?_) | ((with_reducible refine Step.id ?_); first | ((with_reducible apply Step.move); exact rfl; exact rfl) | ((with_reducible apply Step.assign); exact rfl; exact rfl) | ((with_reducible apply Step.load); exact rfl; (focus (decide +kernel)); exact rfl; (focus (exact (rX _).2.2.1))) | ((with_reducible apply Step.field (k := 1)); exact rfl; (focus (decide +kernel)); exact rfl) | ((with_reducible apply Step.eql); exact rfl; exact rfl; exact rfl)) | (with_reducible refine AWo.nil ?_) | ((with_reducible apply AW.seq)) | ((with_reducible apply Then.n)) | ((with_reducible apply AW.regL)) | ((with_reducible apply AW.block)) | ((with_reducible apply AW.condT); exact rfl; (focus (rfl)))))
            ((with_reducible apply Step.conv); exact rfl; exact un3; exact un31; exact rfl; exact rfl)
            (repeat ((with_reducible refine AWo.cons ?_)))
            ((with_reducible apply Step.remU); exact rfl; exact rfl; exact (wrapU _); (focus (omega)); exact rfl)
            (repeat ((with_reducible refine AWo.cons ?_)))
            ((with_reducible apply Step.conv); exact rfl; exact un31; exact un3; exact eq8; exact rfl)
            (repeat ((with_reducible refine AWo.cons ?_)))
            ((with_reducible apply Step.callF fit); exact rfl; exact Try.func58; exact rfl; exact rfl; (focus (rw [List.append_nil]; exact K_fuse hKX.kd (q8 : Nat) (by omega))))
            rintro r3 M3 ⟨rfl, hk3, hp3⟩
            rw [← List.append_nil M3]
            (repeat (first | (with_reducible refine AWo.cons ?_) | ((with_reducible refine Step.id ?_); first | ((with_reducible apply Step.move); exact rfl; exact rfl) | ((with_reducible apply Step.add); exact rfl; exact rfl; (focus (omega)); exact rfl)) | (with_reducible refine AWo.nil ?_) | ((with_reducible apply Then.n)) | ((with_reducible apply AW.regL)) | ((with_reducible apply AW.exit)) | ((with_reducible apply InBlk.hit)) | ((with_reducible apply InBlk.miss); exact rfl) | ((with_reducible apply Then.e))))
            exact ⟨_, [(5, .pointer (some ⟨m.length, 0, none⟩)), (7, .pointer (some ⟨b7, 0, none⟩)), (8, .pointer (some ⟨b8, 0, none⟩)), (9, .pointer (some ⟨lg, 0, none⟩)), (50, v), (51, .int .i64 (xs.length : Nat)), (52, .int .i64 (k + 1 : Nat))], by omega, (by repeat (first | exact trivial | (refine And.intro rfl ?_))), k + 1, K1, T, lg, _, L, mb, rfl, by omega, by omega, by rw [List.append_nil]; exact hKX.fuse hk3 hp3, rfl⟩
          · by_cases c1 : q5 = 1
            · subst c1
              obtain ⟨qa, hqa, eqa⟩ := mod_in x.n 400 (by omega) (by omega)
              obtain ⟨qb, hqb, eqb⟩ := mod_in x.m 400 (by omega) (by omega)
              obtain ⟨n1, c1, r1, hst, hcc, hgen⟩ := hKX.iv.crash hKX.kd.ok ((qa : Nat) - 1) ((qb : Nat) - 1)
              (repeat (first | (with_reducible refine AWo.cons ?_) | ((with_reducible refine Step.id ?_); first | ((with_reducible apply Step.move); exact rfl; exact rfl) | ((with_reducible apply Step.assign); exact rfl; exact rfl) | ((with_reducible apply Step.load); exact rfl; (focus (decide +kernel)); exact rfl; (focus (exact (rX _).2.2.1))) | ((with_reducible apply Step.field (k := 1)); exact rfl; (focus (decide +kernel)); exact rfl) | ((with_reducible apply Step.eql); exact rfl; exact rfl; exact rfl)) | (with_reducible refine AWo.nil ?_) | ((with_reducible apply AW.seq)) | ((with_reducible apply Then.n)) | ((with_reducible apply AW.regL)) | ((with_reducible apply AW.block)) | ((with_reducible apply AW.condT); exact rfl; (focus (rfl))) | ((with_reducible apply AW.condF); exact rfl; (focus (rfl)))))
              ((with_reducible apply Step.conv); exact rfl; exact un3; exact un31; exact rfl; exact rfl)
              (repeat ((with_reducible refine AWo.cons ?_)))
              ((with_reducible apply Step.remU); exact rfl; exact rfl; exact (wrapU _); (focus (omega)); exact rfl)
              (repeat ((with_reducible refine AWo.cons ?_)))
              ((with_reducible apply Step.conv); exact rfl; exact un31; exact un3; exact eqa; exact rfl)
              (repeat (first | (with_reducible refine AWo.cons ?_) | ((with_reducible refine Step.id ?_); first | ((with_reducible apply Step.load); exact rfl; (focus (decide +kernel)); exact rfl; (focus (exact (rX _).2.2.2.1))) | ((with_reducible apply Step.field (k := 2)); exact rfl; (focus (decide +kernel)); exact rfl) | ((with_reducible apply Step.sub); exact rfl; exact rfl; (focus (omega)); exact rfl))))
              ((with_reducible apply Step.conv); exact rfl; exact un3; exact un31; exact rfl; exact rfl)
              (repeat ((with_reducible refine AWo.cons ?_)))
              ((with_reducible apply Step.remU); exact rfl; exact rfl; exact (wrapU _); (focus (omega)); exact rfl)
              (repeat ((with_reducible refine AWo.cons ?_)))
              ((with_reducible apply Step.conv); exact rfl; exact un31; exact un3; exact eqb; exact rfl)
              (repeat (first | (with_reducible refine AWo.cons ?_) | ((with_reducible refine Step.id ?_); ((with_reducible apply Step.sub); exact rfl; exact rfl; (focus (omega)); exact rfl))))
              ((with_reducible apply Step.callF fit); exact rfl; exact Try.func52; exact rfl; exact rfl; (focus (rw [List.append_nil]; exact K_crash hKX.kd _ _)))
              rintro r3 M3 ⟨rfl, hk3, hp3⟩
              have rX3 := rdx M3 (by rw [hp3.get bx hbK]; exact hbX)
              rw [← List.append_nil M3]
              (repeat (first | (with_reducible refine AWo.cons ?_) | ((with_reducible refine Step.id ?_); first | ((with_reducible apply Step.move); exact rfl; exact rfl) | ((with_reducible apply Step.load); exact rfl; (focus (decide +kernel)); exact rfl; (focus (first | exact (rX3 _).2.2.1 | exact (rX3 _).2.2.2.1))) | ((with_reducible apply Step.field (k := 1)); exact rfl; (focus (decide +kernel)); exact rfl) | ((with_reducible apply Step.field (k := 2)); exact rfl; (focus (decide +kernel)); exact rfl)) | (with_reducible refine AWo.nil ?_) | ((with_reducible apply AW.seq)) | ((with_reducible apply Then.n)) | ((with_reducible apply AW.regL))))
              ((with_reducible apply Step.addW9); exact rfl; exact rfl; exact rfl)
              intro zs
              obtain ⟨qc, hqc, eqc⟩ := mod_in zs 9 (by omega) (by omega)
              (repeat ((with_reducible refine AWo.cons ?_)))
              ((with_reducible apply Step.conv); exact rfl; exact un3; exact un31; exact rfl; exact rfl)
              (repeat ((with_reducible refine AWo.cons ?_)))
              ((with_reducible apply Step.remU); exact rfl; exact rfl; exact (wrapU _); (focus (omega)); exact rfl)
              (repeat ((with_reducible refine AWo.cons ?_)))
              ((with_reducible apply Step.conv); exact rfl; exact un31; exact un3; exact eqc; exact rfl)
              (repeat (first | (with_reducible refine AWo.cons ?_) | ((with_reducible refine Step.id ?_); ((with_reducible apply Step.sub); exact rfl; exact rfl; (focus (omega)); exact rfl))))
              ((with_reducible apply Step.callF fit); exact rfl; exact Try.func58; exact rfl; exact rfl; (focus (rw [List.append_nil]; exact K_fuse hk3 ((qc : Nat) - 1) (by omega))))
              rintro r4 M4 ⟨rfl, hk4, hp4⟩
              rw [← List.append_nil M4]
              (repeat (first | (with_reducible refine AWo.nil ?_) | ((with_reducible apply Then.n))))
              rw [List.append_nil]
              have hso := Stl.open hk4.ok rfl (hst.fuse ((qc : Nat) - 1)) (by have := hKX.g; omega)
              refine AW.seq ?_
              refine AW.join (fun t' M' => ∃ lgx Dx Lx, KDL m M' K1 lgx Dx Lx ∧ Pre K1 X M' ∧ ((∃ c n, Lx = ⟨c, n, false⟩ ∧ Clean Dx Lx ∧ c.cc = c1.cc ∧ c.gen ≤ c1.gen + 1 ∧ All (fun i v => t' i = some v) [(5, .pointer (some ⟨m.length, 0, none⟩)), (7, .pointer (some ⟨b7, 0, none⟩)), (8, .pointer (some ⟨b8, 0, none⟩)), (11, .pointer (some ⟨bx, 0, none⟩)), (50, v), (51, .int .i64 (xs.length : Nat)), (52, .int .i64 (k : Nat)), (12, .pointer (some ⟨lgx, 0, none⟩)), (13, .int .i64 0)]) ∨ (∀ k0 k1, ∃ n' c' r', Stl (crF Dx k0 k1) n' c' r' ∧ c'.cc = c1.cc ∧ c'.gen ≤ c1.gen + 1) ∧ All (fun i v => t' i = some v) [(5, .pointer (some ⟨m.length, 0, none⟩)), (7, .pointer (some ⟨b7, 0, none⟩)), (8, .pointer (some ⟨b8, 0, none⟩)), (11, .pointer (some ⟨bx, 0, none⟩)), (50, v), (51, .int .i64 (xs.length : Nat)), (52, .int .i64 (k : Nat)), (12, .pointer none), (13, .int .i64 14)])) ?_ ?_
              · rw [← List.append_nil M4]
                (repeat (first | (with_reducible refine AWo.cons ?_) | ((with_reducible refine Step.id ?_); ((with_reducible apply Step.move); exact rfl; exact rfl)) | ((with_reducible apply AW.regL))))
                ((with_reducible apply Step.callF fit); exact rfl; exact Try.func50; exact rfl; exact rfl; (focus (rw [List.append_nil]; exact K_open hk4)))
                rintro r5 M5 ⟨hp5, hres⟩
                have hpx : Pre K1 X M5 := hp3.trans (hp4.trans hp5)
                rcases hso with ⟨c', n', D', e1, hcl, hc', hg'⟩ | ⟨D', e1, hfu, hcr⟩
                · rw [e1] at hres
                  rcases hres with ⟨q, _⟩ | ⟨c2, n2, lg2, q0, _, rfl, hkk⟩
                  · cases q
                  · simp only [Option.some.injEq, Prod.mk.injEq] at q0
                    obtain ⟨rfl, rfl⟩ := q0
                    rw [← List.append_nil M5]
                    (repeat (first | (with_reducible refine AWo.cons ?_) | ((with_reducible refine Step.id ?_); first | ((with_reducible apply Step.move); exact rfl; exact rfl) | ((with_reducible apply Step.assign); exact rfl; exact rfl) | ((with_reducible apply Step.extract); exact rfl; exact rfl; exact rfl)) | (with_reducible refine AWo.nil ?_) | ((with_reducible apply Then.n))))
                    exact ⟨lg2, D', _, by rw [List.append_nil]; exact hkk, by rw [List.append_nil]; exact hpx, .inl ⟨c', n', rfl, hcl, hc', hg', (by repeat (first | exact trivial | (refine And.intro rfl ?_)))⟩⟩
                · rw [e1] at hres
                  rcases hres with ⟨_, rfl, _, hkk⟩ | ⟨_, _, _, q, _⟩
                  · rw [← List.append_nil M5]
                    (repeat (first | (with_reducible refine AWo.cons ?_) | ((with_reducible refine Step.id ?_); first | ((with_reducible apply Step.move); exact rfl; exact rfl) | ((with_reducible apply Step.assign); exact rfl; exact rfl) | ((with_reducible apply Step.extract); exact rfl; exact rfl; exact rfl)) | (with_reducible refine AWo.nil ?_) | ((with_reducible apply Then.n))))
                    exact ⟨lg, D', L, by rw [List.append_nil]; exact hkk, by rw [List.append_nil]; exact hpx, .inr ⟨hcr hkk.ok, (by repeat (first | exact trivial | (refine And.intro rfl ?_)))⟩⟩
                  · cases q
              · rintro t' M5 ⟨lgx, Dx, Lx, hk5, hp5, hor⟩
                have rX5 := rdx M5 (by rw [hp5.get bx hbK]; exact hbX)
                refine AW.seq ?_
                refine AW.join (fun t' M' => ∃ lgx Dx c n, KDL m M' K1 lgx Dx ⟨c, n, false⟩ ∧ Pre K1 X M' ∧ Clean Dx ⟨c, n, false⟩ ∧ c.cc = c1.cc ∧ c.gen ≤ c1.gen + 2 ∧ All (fun i v => t' i = some v) [(5, .pointer (some ⟨m.length, 0, none⟩)), (7, .pointer (some ⟨b7, 0, none⟩)), (8, .pointer (some ⟨b8, 0, none⟩)), (11, .pointer (some ⟨bx, 0, none⟩)), (50, v), (51, .int .i64 (xs.length : Nat)), (52, .int .i64 (k : Nat)), (12, .pointer (some ⟨lgx, 0, none⟩)), (13, .int .i64 0)]) ?_ ?_
                · rcases hor with ⟨c, n, rfl, hcl, hc', hg', hsl⟩ | ⟨hcr, hsl⟩
                  · refine AW.weak (fr_all hsl) ?_
                    rw [← List.append_nil M5]
                    (repeat (first | (with_reducible refine AWo.cons ?_) | ((with_reducible refine Step.id ?_); first | ((with_reducible apply Step.move); exact rfl; exact rfl) | ((with_reducible apply Step.eql); exact rfl; exact rfl; exact rfl)) | (with_reducible refine AWo.nil ?_) | ((with_reducible apply AW.seq)) | ((with_reducible apply Then.n)) | ((with_reducible apply AW.regL)) | ((with_reducible apply AW.skip)) | ((with_reducible apply AW.condF); exact rfl; (focus (rfl)))))
                    exact ⟨lgx, Dx, c, n, by rw [List.append_nil]; exact hk5, by rw [List.append_nil]; exact hp5, hcl, hc', by omega, (by repeat (first | exact trivial | (refine And.intro rfl ?_)))⟩
                  · refine AW.weak (fr_all hsl) ?_
                    obtain ⟨n2, c2, r2, hst2, hcc2, hg2⟩ := hcr ((qb : Nat) - 1) ((qa : Nat) - 1)
                    rw [← List.append_nil M5]
                    (repeat (first | (with_reducible refine AWo.cons ?_) | ((with_reducible refine Step.id ?_); first | ((with_reducible apply Step.move); exact rfl; exact rfl) | ((with_reducible apply Step.load); exact rfl; (focus (decide +kernel)); exact rfl; (focus (exact (rX5 _).2.2.2.1))) | ((with_reducible apply Step.field (k := 2)); exact rfl; (focus (decide +kernel)); exact rfl) | ((with_reducible apply Step.eql); exact rfl; exact rfl; exact rfl)) | (with_reducible refine AWo.nil ?_) | ((with_reducible apply AW.seq)) | ((with_reducible apply Then.n)) | ((with_reducible apply AW.regL)) | ((with_reducible apply AW.condT); exact rfl; (focus (rfl)))))
                    ((with_reducible apply Step.conv); exact rfl; exact un3; exact un31; exact rfl; exact rfl)
                    (repeat ((with_reducible refine AWo.cons ?_)))
                    ((with_reducible apply Step.remU); exact rfl; exact rfl; exact (wrapU _); (focus (omega)); exact rfl)
                    (repeat ((with_reducible refine AWo.cons ?_)))
                    ((with_reducible apply Step.conv); exact rfl; exact un31; exact un3; exact eqb; exact rfl)
                    (repeat (first | (with_reducible refine AWo.cons ?_) | ((with_reducible refine Step.id ?_); first | ((with_reducible apply Step.load); exact rfl; (focus (decide +kernel)); exact rfl; (focus (exact (rX5 _).2.2.1))) | ((with_reducible apply Step.field (k := 1)); exact rfl; (focus (decide +kernel)); exact rfl) | ((with_reducible apply Step.sub); exact rfl; exact rfl; (focus (omega)); exact rfl))))
                    ((with_reducible apply Step.conv); exact rfl; exact un3; exact un31; exact rfl; exact rfl)
                    (repeat ((with_reducible refine AWo.cons ?_)))
                    ((with_reducible apply Step.remU); exact rfl; exact rfl; exact (wrapU _); (focus (omega)); exact rfl)
                    (repeat ((with_reducible refine AWo.cons ?_)))
                    ((with_reducible apply Step.conv); exact rfl; exact un31; exact un3; exact eqa; exact rfl)
                    (repeat (first | (with_reducible refine AWo.cons ?_) | ((with_reducible refine Step.id ?_); ((with_reducible apply Step.sub); exact rfl; exact rfl; (focus (omega)); exact rfl))))
                    ((with_reducible apply Step.callF fit); exact rfl; exact Try.func52; exact rfl; exact rfl; (focus (rw [List.append_nil]; exact K_crash hk5 _ _)))
                    rintro r6 M6 ⟨rfl, hk6, hp6⟩
                    rw [← List.append_nil M6]
                    (repeat (first | (with_reducible refine AWo.cons ?_) | ((with_reducible refine Step.id ?_); ((with_reducible apply Step.move); exact rfl; exact rfl)) | (with_reducible refine AWo.nil ?_) | ((with_reducible apply Then.n)) | ((with_reducible apply AW.regL))))
                    ((with_reducible apply Step.callF fit); exact rfl; exact Try.func50; exact rfl; exact rfl; (focus (rw [List.append_nil]; exact K_open hk6)))
                    rintro r7 M7 ⟨hp7, hres⟩
                    have hpx : Pre K1 X M7 := hp5.trans (hp6.trans hp7)
                    rcases Stl.open hk6.ok rfl hst2 (by have := hKX.g; omega) with ⟨c', n', D', e1, hcl, hc', hg'⟩ | ⟨D', e1, hfu, hcr2⟩
                    · rw [e1] at hres
                      rcases hres with ⟨q, _⟩ | ⟨c3, n3, lg2, q0, _, rfl, hkk⟩
                      · cases q
                      · simp only [Option.some.injEq, Prod.mk.injEq] at q0
                        obtain ⟨rfl, rfl⟩ := q0
                        rw [← List.append_nil M7]
                        (repeat (first | (with_reducible refine AWo.cons ?_) | ((with_reducible refine Step.id ?_); first | ((with_reducible apply Step.move); exact rfl; exact rfl) | ((with_reducible apply Step.assign); exact rfl; exact rfl) | ((with_reducible apply Step.extract); exact rfl; exact rfl; exact rfl)) | (with_reducible refine AWo.nil ?_) | ((with_reducible apply Then.n))))
                        exact ⟨lg2, D', c', n', by rw [List.append_nil]; exact hkk, by rw [List.append_nil]; exact hpx, hcl, hc'.trans hcc2, by omega, (by repeat (first | exact trivial | (refine And.intro rfl ?_)))⟩
                    · cases hfu
                · rintro t' M8 ⟨lg8, D8, c8, n8, hk8, hp8, hcl8, hcc8, hg8, hsl⟩
                  refine AW.weak (fr_all hsl) ?_
                  obtain ⟨s7, r7, y7, v7⟩ := hKX.x7.pre hKX.tk hKX.k7.1 hp8
                  obtain ⟨s8, r8, y8, v8⟩ := hKX.x8.pre hKX.tk hKX.k8.1 hp8
                  have hB : Bnd c8.cc k := by
                    rw [hcc8]
                    rcases hcc with e | e
                    · rw [e]; exact hKX.z7
                    · rw [e]; exact hKX.z8
                  have hg9 : c8.gen ≤ 4 * (k + 1) + 1 := by have := hKX.g; omega
                  have hH : ∀ (s r : Value) (cc : List UInt8 × List (List UInt8)), CnAt (vw T M8) s r cc → cc.2.length ≤ k → ACall Try.prog 55 #[.pointer (some ⟨lg8, 0, none⟩), .agg #[s, r]] (M8 ++ []) (Ret (.bool (decide (c8.cc = cc))) (M8 ++ [])) := fun s r cc hc hz => by
                    rw [List.append_nil]
                    exact K_has hk8 (hc.sub (Sub.vw T M8)) (by have := hB.1; show c8.cc.1.length ≤ _; omega) (by have := hB.2.1; show c8.cc.2.length ≤ _; omega) (fun p hp => by have := hB.2.2 p hp; omega) (by omega)
                  have hh7 := hH s7 r7 _ v7 hKX.z7.2.1
                  have hh8 := hH s8 r8 _ v8 hKX.z8.2.1
                  by_cases hcs : c8.cc = L.c.cc
                  · rw [show decide (c8.cc = L.c.cc) = true by simp [hcs]] at hh7
                    rw [← List.append_nil M8]
                    (repeat (first | (with_reducible refine AWo.cons ?_) | ((with_reducible refine Step.id ?_); first | ((with_reducible apply Step.gdT); exact rfl; exact rfl; (focus (rfl))) | ((with_reducible apply Step.gdF); exact rfl; exact rfl; (focus (rfl))) | ((with_reducible apply Step.move); exact rfl; exact rfl) | ((with_reducible apply Step.assign); exact rfl; exact rfl) | ((with_reducible apply Step.loadL (n := 2)); exact rfl; (focus (decide +kernel)); (focus (decide +kernel)); exact rfl; (focus (exact BoxAt.rd y7 _)); exact rfl; exact rfl) | ((with_reducible apply Step.ptrNot); exact rfl; exact rfl; exact un96; exact rfl) | ((with_reducible apply Step.neq); exact rfl; exact rfl; exact rfl) | ((with_reducible apply Step.not); exact rfl; exact rfl) | ((with_reducible apply Step.pickF); exact rfl; exact rfl; exact rfl; exact rfl; (focus (rfl))) | ((with_reducible apply Step.callR fit); exact rfl; exact Try.func55; exact rfl; exact rfl; exact (hh7))) | (with_reducible refine AWo.nil ?_) | ((with_reducible apply AW.seq)) | ((with_reducible apply Then.n)) | ((with_reducible apply AW.regL)) | ((with_reducible apply AW.drawL fit); (focus (decide +kernel))) | ((with_reducible apply AW.skip)) | ((with_reducible apply AW.condF); exact rfl; (focus (rfl)))))
                    ((with_reducible apply Step.storeL (n := 2) (v := [s7, r7])); exact rfl; exact rfl; exact (get_old [] y8); exact rfl; exact sz105; exact rfl; exact (list2_one v7.one.1 v7.one.2); (focus (show 0 + 2 ≤ 2; omega)))
                    have hF := KLoop.found (k := k + 1) hk8 hcl8 hg9 hKX.k7 hKX.k8 hKX.ne hKX.tk (by rw [hcs]; exact ⟨s7, r7, y7, v7⟩) (by rw [hcs]; exact v7) (hB.mono (by omega))
                    rw [List.append_nil]
                    rw [← List.append_nil (M8.set _ _)]
                    (repeat (first | (with_reducible refine AWo.cons ?_) | ((with_reducible refine Step.id ?_); first | ((with_reducible apply Step.move); exact rfl; exact rfl) | ((with_reducible apply Step.add); exact rfl; exact rfl; (focus (omega)); exact rfl)) | (with_reducible refine AWo.nil ?_) | ((with_reducible apply Then.n)) | ((with_reducible apply AW.regL)) | ((with_reducible apply AW.exit)) | ((with_reducible apply InBlk.hit)) | ((with_reducible apply InBlk.miss); exact rfl) | ((with_reducible apply Then.e))))
                    exact ⟨_, [(5, .pointer (some ⟨m.length, 0, none⟩)), (7, .pointer (some ⟨b7, 0, none⟩)), (8, .pointer (some ⟨b8, 0, none⟩)), (9, .pointer (some ⟨lg8, 0, none⟩)), (50, v), (51, .int .i64 (xs.length : Nat)), (52, .int .i64 (k + 1 : Nat))], by omega, (by repeat (first | exact trivial | (refine And.intro rfl ?_))), k + 1, K1, T, lg8, D8, ⟨c8, n8, false⟩, c8.cc, rfl, by omega, by omega, by rw [List.append_nil]; exact hF, rfl⟩
                  · have hcm : c8.cc = mb := by
                      rcases hcc with e | e
                      · exact absurd (hcc8.trans e) hcs
                      · exact hcc8.trans e
                    rw [show decide (c8.cc = L.c.cc) = false by simp [hcs]] at hh7
                    rw [show decide (c8.cc = mb) = true by simp [hcm]] at hh8
                    rw [← List.append_nil M8]
                    (repeat (first | (with_reducible refine AWo.cons ?_) | ((with_reducible refine Step.id ?_); first | ((with_reducible apply Step.gdT); exact rfl; exact rfl; (focus (rfl))) | ((with_reducible apply Step.move); exact rfl; exact rfl) | ((with_reducible apply Step.loadL (n := 2)); exact rfl; (focus (decide +kernel)); (focus (decide +kernel)); exact rfl; (focus (first | exact BoxAt.rd y7 _ | exact BoxAt.rd y8 _)); exact rfl; exact rfl) | ((with_reducible apply Step.ptrNot); exact rfl; exact rfl; exact un96; exact rfl) | ((with_reducible apply Step.neq); exact rfl; exact rfl; exact rfl) | ((with_reducible apply Step.not); exact rfl; exact rfl) | ((with_reducible apply Step.pickT); exact rfl; exact rfl; exact rfl; exact rfl; (focus (rfl))) | ((with_reducible apply Step.pickF); exact rfl; exact rfl; exact rfl; exact rfl; (focus (rfl))) | ((with_reducible apply Step.callR fit); exact rfl; exact Try.func55; exact rfl; exact rfl; exact (hh7)) | ((with_reducible apply Step.callR fit); exact rfl; exact Try.func55; exact rfl; exact rfl; exact (hh8))) | (with_reducible refine AWo.nil ?_) | ((with_reducible apply AW.seq)) | ((with_reducible apply Then.n)) | ((with_reducible apply AW.regL)) | ((with_reducible apply AW.skip)) | ((with_reducible apply AW.condT); exact rfl; (focus (rfl))) | ((with_reducible apply AW.condF); exact rfl; (focus (rfl)))))
                    ((with_reducible apply Step.storeL (n := 2) (v := [s8, r8])); exact rfl; exact rfl; exact (get_old [] y7); exact rfl; exact sz105; exact rfl; exact (list2_one v8.one.1 v8.one.2); (focus (show 0 + 2 ≤ 2; omega)))
                    rw [List.append_nil]
                    obtain ⟨W, hW⟩ : ∃ W : AM, W = M8.set b7 (some { cells := [s8, r8] }) := ⟨_, rfl⟩
                    rw [show M8.set b7 (some { cells := splice [s7, r7] 0 [s8, r8] }) = W from hW.symm]
                    have hkW : KDL m W K1 lg8 D8 ⟨c8, n8, false⟩ := by rw [hW]; exact hk8.set hKX.k7.1 hKX.k7.2.2 _
                    have x7W : BoxAt W T b7 mb := by rw [hW]; exact BoxAt.put v8 hKX.k7.2.1 (hk8.lt hKX.k7.1)
                    have vW : CnAt (vw T W) s8 r8 mb := by rw [hW]; exact v8.sub (vw_sub_set hKX.k7.2.1 _)
                    have y7W : W[b7]? = some (some { cells := [s8, r8] }) := by rw [hW]; exact List.getElem?_set_self (hk8.lt hKX.k7.1)
                    have y8W : W[b8]? = some (some { cells := [s8, r8] }) := by rw [hW, List.getElem?_set_ne hKX.ne]; exact y8
                    rw [← List.append_nil W]
                    (repeat (first | (with_reducible refine AWo.cons ?_) | ((with_reducible refine Step.id ?_); first | ((with_reducible apply Step.move); exact rfl; exact rfl) | ((with_reducible apply Step.assign); exact rfl; exact rfl) | ((with_reducible apply Step.loadL (n := 2)); exact rfl; (focus (decide +kernel)); (focus (decide +kernel)); exact rfl; (focus (exact BoxAt.rd y7W _)); exact rfl; exact rfl)) | (with_reducible refine AWo.nil ?_) | ((with_reducible apply AW.seq)) | ((with_reducible apply Then.n)) | ((with_reducible apply AW.drawL fit); (focus (decide +kernel)))))
                    ((with_reducible apply Step.storeL (n := 2) (v := [s8, r8])); exact rfl; exact rfl; exact (get_old [] y8W); exact rfl; exact sz105; exact rfl; exact (list2_one v8.one.1 v8.one.2); (focus (show 0 + 2 ≤ 2; omega)))
                    have hF := KLoop.found (k := k + 1) hkW hcl8 hg9 hKX.k7 hKX.k8 hKX.ne hKX.tk (by rw [hcm]; exact x7W) (by rw [hcm]; exact vW) (hB.mono (by omega))
                    rw [List.append_nil]
                    rw [← List.append_nil (W.set _ _)]
                    (repeat (first | (with_reducible refine AWo.cons ?_) | ((with_reducible refine Step.id ?_); first | ((with_reducible apply Step.move); exact rfl; exact rfl) | ((with_reducible apply Step.add); exact rfl; exact rfl; (focus (omega)); exact rfl)) | (with_reducible refine AWo.nil ?_) | ((with_reducible apply Then.n)) | ((with_reducible apply AW.regL)) | ((with_reducible apply AW.exit)) | ((with_reducible apply InBlk.hit)) | ((with_reducible apply InBlk.miss); exact rfl) | ((with_reducible apply Then.e))))
                    exact ⟨_, [(5, .pointer (some ⟨m.length, 0, none⟩)), (7, .pointer (some ⟨b7, 0, none⟩)), (8, .pointer (some ⟨b8, 0, none⟩)), (9, .pointer (some ⟨lg8, 0, none⟩)), (50, v), (51, .int .i64 (xs.length : Nat)), (52, .int .i64 (k + 1 : Nat))], by omega, (by repeat (first | exact trivial | (refine And.intro rfl ?_))), k + 1, K1, T, lg8, D8, ⟨c8, n8, false⟩, c8.cc, rfl, by omega, by omega, by rw [List.append_nil]; exact hF, rfl⟩
            · (repeat (first | (with_reducible refine AWo.cons ?_) | ((with_reducible refine Step.id ?_); first | ((with_reducible apply Step.assign); exact rfl; exact rfl) | ((with_reducible apply Step.eql); exact rfl; exact rfl; exact rfl)) | (with_reducible refine AWo.nil ?_) | ((fail_if_success (with_reducible refine AW.atR (id := 28) ?_)); ((with_reducible apply AW.seq))) | ((with_reducible apply Then.n)) | ((with_reducible apply AW.regL)) | ((with_reducible apply AW.block)) | ((with_reducible apply InBlk.n)) | ((with_reducible apply AW.skip)) | ((with_reducible apply AW.condF); exact rfl; (focus ((simp only [decide_eq_true_eq, decide_eq_false_iff_not, Bool.not_eq_true', Bool.not_eq_false', Bool.not_true, Bool.not_false]; first | assumption | omega))))))
              refine AW.seq ?_
              refine AW.join (fun t' M' => ∃ uv N, M' = X ++ N ∧ Byts (vw (fun j => X.length ≤ j) M') uv (x.l.take 300) ∧ All (fun i v => t' i = some v) [(5, .pointer (some ⟨m.length, 0, none⟩)), (7, .pointer (some ⟨b7, 0, none⟩)), (8, .pointer (some ⟨b8, 0, none⟩)), (9, .pointer (some ⟨lg, 0, none⟩)), (11, .pointer (some ⟨bx, 0, none⟩)), (50, v), (51, .int .i64 (xs.length : Nat)), (52, .int .i64 (k : Nat)), (14, uv)]) ?_ ?_
              · have hwX : Byts X w x.l := by rw [hX, hN]; exact (g2.old _).old _
                obtain ⟨aw, ow, hsw, _, _⟩ := hwX
                have hsm := small_ok (kd := x.kd) (n := x.n) (k := x.m) (m := X) (w := w) (l := x.l) (by rw [hX, hN]; exact (g2.old _).old _) hle
                have hmin : min ((x.l.length : Nat) : Int) 300 = ((min x.l.length 300 : Nat) : Int) := by omega
                (repeat' (first | ((with_reducible refine Step.id ?_); first | ((with_reducible apply Step.load); exact rfl; (focus (decide +kernel)); exact rfl; (focus (exact (rX _).2.2.2.2))) | ((with_reducible apply Step.loadL (n := 4)); exact rfl; (focus (decide +kernel)); (focus (decide +kernel)); exact rfl; (focus (exact (rX _).1)); exact rfl; exact rfl) | ((with_reducible apply Step.field (k := 3)); exact rfl; (focus (decide +kernel)); exact rfl) | ((with_reducible apply Step.len); exact rfl; (focus (assumption)); (focus (decide +kernel)); exact rfl) | ((with_reducible apply Step.min); exact rfl; exact rfl; exact rfl)) | ((with_reducible apply AW.drawT fit (T := (.step 0 (.step 2 (.both (.step 1 (.step 3 (.step 4 (.step 5 (.step 6 (.step 7 .done)))))) (.step 3 (.step 4 (.step 5 (.step 1 (.step 6 (.step 7 .done))))))))))); (focus (decide +kernel))) | ((with_reducible apply AWt.step); exact rfl) | refine AWt.both ?_ ?_))
                all_goals
                  ((with_reducible apply Step.callX fit); exact rfl; exact Try.func49; exact rfl; exact rfl; (focus (rw [List.append_nil]; exact hsm)))
                  rintro u M1 ⟨N1, hN1⟩ hu
                  rw [List.append_nil] at hN1
                  have rX1 := rdx M1 (by rw [hN1]; exact get_old N1 hbX)
                  have hM1l : M1.length = X.length + N1.length := by rw [hN1, List.length_append]
                  have hu2 : Row (vw (fun j => X.length ≤ j) M1) X.length 1 u (by8 (x.l.take 3000)) (x.l.take 3000).length := Row.vw2 hu fun j hj => hu.ge_of hj
                  obtain ⟨au, ou, hsu, hau, hru⟩ := hu2.byts (by rw [vw_len]; omega)
                  have ht3 : (x.l.take 3000).length = min x.l.length 3000 := by rw [List.length_take]; omega
                  (repeat' (first | ((with_reducible refine Step.id ?_); first | ((with_reducible apply Step.load); exact rfl; (focus (decide +kernel)); exact rfl; (focus (exact (rX1 _).2.2.2.2))) | ((with_reducible apply Step.len); exact rfl; (focus (assumption)); (focus (decide +kernel)); exact rfl) | ((with_reducible apply Step.min); exact rfl; exact rfl; exact rfl)) | ((with_reducible apply AWt.step); exact rfl)))
                  rw [hmin]
                  ((with_reducible apply Step.sliceS (l := 0) (h := min x.l.length 300)); exact rfl; exact hsu; exact un22; exact sz5; exact rfl; exact (bndO_nat rfl); (focus (omega)); (focus (omega)); (focus (omega)); exact rfl)
                  intro v' hv' _
                  have hb : Byts (vw (fun j => X.length ≤ j) M1) v' (x.l.take 300) := by
                    have hlt : (x.l.take 300).length = min x.l.length 300 := by rw [List.length_take]; omega
                    refine ⟨au, ou, by rw [hlt]; simpa using hv', hau, fun j hj => ?_⟩
                    have := hru j (by omega)
                    rw [List.getD_eq_getElem?_getD, List.getElem?_take_of_lt (by omega), ← List.getD_eq_getElem?_getD] at this ⊢
                    exact this
                  (repeat' (first | ((with_reducible refine Step.id ?_); ((with_reducible apply Step.assign); exact rfl; exact rfl)) | ((with_reducible apply Then.n)) | ((with_reducible apply AWt.step); exact rfl) | ((with_reducible apply AWt.done))))
                  exact ⟨v', N1, by rw [List.append_nil]; exact hN1, by rw [List.append_nil]; exact hb, (by repeat (first | exact trivial | (refine And.intro rfl ?_)))⟩
              · rintro t' M1 ⟨uv, N1, hM1, huv, hsl⟩
                refine AW.weak (fr_all hsl) ?_
                clear hsl
                have hK1 := hKX.app N1
                rw [← hM1] at hK1
                obtain ⟨s7, r7, y7, v7⟩ := hK1.x7
                have huvs : SlV uv := huv.slv
                have hs7 : SlV s7 := v7.1.slv
                obtain ⟨pc, hpc⟩ := v7.2
                have hz7 : L.c.recs.length ≤ k := hKX.z7.2.1
                have hpcl : pc.length ≤ 40 := by have := hpc.1; change pc.length = L.c.recs.length at this; omega
                have hb7l : b7 < M1.length := (List.getElem?_eq_some_iff.1 y7).1
                have hTl : ∀ j, T j → j < M1.length := fun j hj => hK1.kd.lt (hK1.tk j hj)
                refine AW.seq ?_
                refine AW.join (fun t' M' => ∃ b15 r', M1.length ≤ b15 ∧ M1.length ≤ M'.length ∧ (∀ j, j < M1.length → M'[j]? = M1[j]?) ∧ M'[b15]? = some (some { cells := [s7, r'] }) ∧ CnAt (vw (fun j => T j ∨ X.length ≤ j ∧ j ≠ b15) M') s7 r' (L.c.snap, L.c.recs ++ [x.l.take 300]) ∧ All (fun i v => t' i = some v) [(15, .pointer (some ⟨b15, 0, none⟩)), (5, .pointer (some ⟨m.length, 0, none⟩)), (7, .pointer (some ⟨b7, 0, none⟩)), (8, .pointer (some ⟨b8, 0, none⟩)), (9, .pointer (some ⟨lg, 0, none⟩)), (11, .pointer (some ⟨bx, 0, none⟩)), (14, uv), (50, v), (51, .int .i64 (xs.length : Nat)), (52, .int .i64 (k : Nat))]) ?_ ?_
                · refine AW.anyI fit (fun L' t' M' => ∃ rc r' a b, KI M1 [(5, .pointer (some ⟨m.length, 0, none⟩)), (7, .pointer (some ⟨b7, 0, none⟩)), (8, .pointer (some ⟨b8, 0, none⟩)), (9, .pointer (some ⟨lg, 0, none⟩)), (11, .pointer (some ⟨bx, 0, none⟩)), (14, uv), (50, v), (51, .int .i64 (xs.length : Nat)), (52, .int .i64 (k : Nat))] (kiV b7 s7 r7 uv) s7 uv pc rc r' a b L' t' M') (by decide +kernel) ⟨.bool true, .bool true, 0, 0, KI.start (fun e he => ?_)⟩ ?_ ?_
                  · simp only [List.mem_cons, List.not_mem_nil, or_false] at he
                    rcases he with rfl | rfl | rfl | rfl | rfl | rfl | rfl | rfl | rfl <;> rfl
                  · have hbs : ∀ e ∈ [(5, Value.pointer (some ⟨m.length, 0, none⟩)), (7, .pointer (some ⟨b7, 0, none⟩)), (8, .pointer (some ⟨b8, 0, none⟩)), (9, .pointer (some ⟨lg, 0, none⟩)), (11, .pointer (some ⟨bx, 0, none⟩)), (14, uv), (50, v), (51, .int .i64 (xs.length : Nat)), (52, .int .i64 (k : Nat))], e.1 < 158 ∧ e.1 ≠ 15 := fun e he => by
                      simp only [List.mem_cons, List.not_mem_nil, or_false] at he
                      rcases he with rfl | rfl | rfl | rfl | rfl | rfl | rfl | rfl | rfl <;> simp
                    rintro j o ho L' t' M' ⟨rc, r', a, b, hI⟩ hLi hdep
                    rcases j with _ | _ | _ | _ | _ | _ | _ | _ | _ | _ | _ | j
                    · injection ho with ho; subst ho
                      exact Step.field0 (x := .tmp 7) (hI.old (7, _) (.tail _ (.head _))) (by kernel_rfl) rfl ⟨rc, r', a, b, hI.put hbs (j := 0) rfl (.inl (by decide))⟩
                    · injection ho with ho; subst ho
                      have d1 : t' 158 = _ := hI.pure 0 _ rfl (hdep 0 (by decide))
                      exact Step.load (x := .tmp 158) d1 (by decide +kernel) rfl ⟨_, (hI.keep b7 hb7l).trans y7, rfl⟩ ⟨rc, r', a, b, hI.put hbs (j := 1) rfl (.inl (by decide))⟩
                    · injection ho with ho; subst ho
                      exact Step.field (x := .tmp 7) (k := 1) (hI.old (7, _) (.tail _ (.head _))) fo105 rfl ⟨rc, r', a, b, hI.put hbs (j := 2) rfl (.inl (by decide))⟩
                    · injection ho with ho; subst ho
                      have d1 : t' 160 = _ := hI.pure 2 _ rfl (hdep 2 (by decide))
                      exact Step.load (x := .tmp 160) d1 (by decide +kernel) rfl ⟨_, (hI.keep b7 hb7l).trans y7, rfl⟩ ⟨rc, r', a, b, hI.put hbs (j := 3) rfl (.inl (by decide))⟩
                    · injection ho with ho; subst ho
                      have d1 : t' 161 = _ := hI.pure 3 _ rfl (hdep 3 (by decide))
                      have h7 : L' 7 = false := by
                        cases e : L' 7 with
                        | false => rfl
                        | true => have := (hI.c7 e).1; rw [hLi] at this; cases this
                      refine Step.callX fit (vs := [r7]) (by simp [evL, evo, d1]) Try.func59 rfl rfl (CClone_ok (hpc.sub (hI.sub T)) (by have := hpc.1; omega)) fun u M2 hN hr => ?_
                      rw [List.append_nil]
                      rw [← hpc.1] at hr
                      exact ⟨u, r', a, b, hI.setRow hbs rfl hLi h7 hN hr⟩
                    · injection ho with ho; subst ho
                      exact Step.move (x := .tmp 14) (hI.old (14, _) (.tail _ (.tail _ (.tail _ (.tail _ (.tail _ (.head _))))))) rfl ⟨rc, r', a, b, hI.put hbs (j := 5) rfl (.inr rfl)⟩
                    · injection ho with ho; subst ho
                      have d1 : t' 163 = _ := hI.pure 5 _ rfl (hdep 5 (by decide))
                      have h7 : L' 7 = false := by
                        cases e : L' 7 with
                        | false => rfl
                        | true => have := (hI.c7 e).2; rw [hLi] at this; cases this
                      exact Step.buildG (ws := [uv]) (by simp [evL, evo, d1]) (fun _ _ => bs27) rfl ⟨rc, r', _, b, hI.setLit hbs rfl h7⟩
                    · injection ho with ho; subst ho
                      have g4 := hdep 4 (by decide)
                      have g6 := hdep 6 (by decide)
                      exact Step.appRow2 (x := .tmp 162) (y := .tmp 164) (s := 1) (n := pc.length) (xl := 1) (b0 := M1.length) (c := pc) (new := [uv]) (hI.row g4) (hI.lit g6) (hI.row7 g4 hLi) (Sl.mk (Nat.le_refl _)) (fun _ => hI.lit7 g6 hLi) el27 un27 rfl (by rw [List.all_cons, huvs.one.1]; rfl) rfl (by omega) rfl hI.len fun u M2 g1 g2 g3 g5 => ⟨rc, u, a, b, hI.setApp hbs rfl g4 g6 hLi g1 g2 g3 g5⟩
                    · injection ho with ho; subst ho
                      have d1 : t' 159 = _ := hI.pure 1 _ rfl (hdep 1 (by decide))
                      have g7 := hdep 7 (by decide)
                      have d2 := (hI.app g7).1
                      exact Step.build (ws := [s7, r']) (by simp [evL, evo, d1, d2]) (bl105 hs7 (hI.app g7).2.slv) rfl ⟨rc, r', a, b, hI.setBld hbs rfl g7⟩
                    · injection ho with ho; subst ho
                      exact Step.allocG ze105 rfl ⟨rc, r', a, _, hI.setBox hbs rfl hLi⟩
                    · injection ho with ho; subst ho
                      have g8 := hdep 8 (by decide)
                      have g9 := hdep 9 (by decide)
                      exact Step.storeL (x := .tmp 15) (y := .tmp 166) (n := 2) (v := [s7, r']) (hI.box g9).1 (hI.bld g8).1 (hI.box0 g9 hLi) rfl sz105 rfl (list2_one hs7.one.1 (hI.app (hI.bld g8).2).2.slv.one.1) (by show 0 + 2 ≤ 2; omega) ⟨rc, r', a, b, hI.setSto rfl g8 g9⟩
                    · simp at ho
                  · rintro L' t' M' hall ⟨rc, r', a, b, hI⟩
                    refine Then.n ?_
                    obtain ⟨f1, f2, f3, f4, f5, f6⟩ := hI.fin (fun i hi => hall i hi) (show X.length ≤ M1.length by rw [hM1, List.length_append]; omega) hTl huv v7.1 hpc
                    exact ⟨b, r', f2, f3, f4, f5, f6, f1, all_of hI.old⟩
                · rintro t' M2 ⟨b15, r', hb15, hl2, hk2, y15, hcn, hsl⟩
                  refine AW.weak (fr_all hsl) ?_
                  clear hsl
                  obtain ⟨N2, hN2⟩ : ∃ N, M2 = M1 ++ N := pre_keep ⟨[], (List.append_nil _).symm⟩ hl2 hk2
                  have hK2 := hK1.app N2
                  rw [← hN2] at hK2
                  have hb15l : b15 < M2.length := (List.getElem?_eq_some_iff.1 y15).1
                  have hX1 : X.length ≤ M1.length := by rw [hM1, List.length_append]; omega
                  have b7X : b7 < X.length := hKX.kd.lt hKX.k7.1
                  have b8X : b8 < X.length := hKX.kd.lt hKX.k8.1
                  have hmX : m.length ≤ X.length := by omega
                  have hTX : ∀ j, T j → j < X.length := fun j hj => hKX.kd.lt (hKX.tk j hj)
                  obtain ⟨T2, hT2⟩ : ∃ T2 : Nat → Prop, T2 = fun j => T j ∨ X.length ≤ j ∧ j ≠ b15 ∧ j < M2.length := ⟨_, rfl⟩
                  have hin : ∀ j, X.length ≤ j → j < M2.length → (K1 j ∨ X.length ≤ j ∧ j < M1.length) ∨ M1.length ≤ j ∧ j < M2.length := fun j h1 h2 => by
                    rcases Nat.lt_or_ge j M1.length with h | h
                    · exact .inl (.inr ⟨h1, h⟩)
                    · exact .inr ⟨h, h2⟩
                  have hW := hK2.wide (T' := T2) (fun j hj => by rw [hT2]; exact .inl hj) (fun j hj => by
                    rw [hT2] at hj
                    rcases hj with hj | ⟨h1, _, h2⟩
                    · exact .inl (.inl (hKX.tk j hj))
                    · exact hin j h1 h2) (fun e => by
                    rw [hT2] at e
                    rcases e with e | ⟨e, _⟩
                    · exact hKX.k7.2.1 e
                    · omega) (fun e => by
                    rw [hT2] at e
                    rcases e with e | ⟨e, _⟩
                    · exact hKX.k8.2.1 e
                    · omega)
                  obtain ⟨K2, hK2e⟩ : ∃ K2 : Nat → Prop, K2 = fun j => (K1 j ∨ X.length ≤ j ∧ j < M1.length) ∨ M1.length ≤ j ∧ j < M2.length := ⟨_, rfl⟩
                  change KLoop m M2 (fun j => (K1 j ∨ X.length ≤ j ∧ j < M1.length) ∨ M1.length ≤ j ∧ j < M2.length) T2 b7 b8 lg D L mb k at hW
                  rw [← hK2e] at hW
                  have hin2 : ∀ j, X.length ≤ j → j < M2.length → K2 j := fun j h1 h2 => by rw [hK2e]; exact hin j h1 h2
                  have hbx2 : K2 bx := by rw [hK2e]; exact .inl (.inl hbK)
                  have n15 : ¬ T2 b15 := fun e => by
                    rw [hT2] at e
                    rcases e with e | ⟨_, e, _⟩
                    · have := hTX _ e; omega
                    · exact e rfl
                  have hcn2 : CnAt (vw T2 M2) s7 r' (L.c.snap, L.c.recs ++ [x.l.take 300]) := hcn.sub ⟨by rw [vw_len, vw_len]; exact Nat.le_refl _, fun j g hg => by
                    obtain ⟨q1, q2⟩ := vw_some.1 hg
                    refine vw_some.2 ⟨?_, q2⟩
                    rw [hT2]
                    exact q1.imp id fun e => ⟨e.1, e.2, (List.getElem?_eq_some_iff.1 q2).1⟩⟩
                  have hsubX : Sub (vw (fun j => X.length ≤ j) M1) (vw (fun j => X.length ≤ j ∧ j ≠ b15 ∧ j < M2.length) M2) := ⟨by rw [vw_len, vw_len]; exact hl2, fun j g hg => by
                    obtain ⟨q1, q2⟩ := vw_some.1 hg
                    have hj := (List.getElem?_eq_some_iff.1 q2).1
                    exact vw_some.2 ⟨⟨q1, by omega, by omega⟩, by rw [hk2 j hj]; exact q2⟩⟩
                  have huv2 : Byts (vw (fun j => X.length ≤ j ∧ j ≠ b15 ∧ j < M2.length) M2) uv (x.l.take 300) := huv.sub hsubX
                  have hsubK : ∀ (Q : Nat → Prop) (M : AM), (∀ j, X.length ≤ j ∧ j ≠ b15 ∧ j < M2.length → Q j) → Sub (vw (fun j => X.length ≤ j ∧ j ≠ b15 ∧ j < M2.length) M) (vw Q M) := fun Q M h => ⟨by rw [vw_len, vw_len]; exact Nat.le_refl _, fun j g hg => by
                    obtain ⟨q1, q2⟩ := vw_some.1 hg
                    exact vw_some.2 ⟨h j q1, q2⟩⟩
                  have hpl : (x.l.take 300).length ≤ 300 := by rw [List.length_take]; omega
                  have hz7 := hKX.z7
                  have hg7 := hKX.g
                  have rX2 := rdx M2 (by rw [hN2, hM1]; exact get_old _ (get_old _ hbX))
                  clear hK2 hcn huv hK1 hpc hKX hin
                  rw [← List.append_nil M2]
                  (repeat (first | (with_reducible refine AWo.cons ?_) | ((with_reducible refine Step.id ?_); first | ((with_reducible apply Step.assign); exact rfl; exact rfl) | ((with_reducible apply Step.load); exact rfl; (focus (decide +kernel)); exact rfl; (focus (exact (rX2 _).2.1))) | ((with_reducible apply Step.field0); exact rfl; (focus (decide +kernel)); exact rfl)) | (with_reducible refine AWo.nil ?_) | ((with_reducible apply AW.seq)) | ((with_reducible apply Then.n)) | ((with_reducible apply AW.regL))))
                  ((with_reducible apply Step.remZ); exact rfl; exact rfl; (focus (decide)); exact rfl)
                  (repeat (first | (with_reducible refine AWo.cons ?_) | ((with_reducible refine Step.id ?_); ((with_reducible apply Step.eql); exact rfl; exact rfl; exact rfl)) | (with_reducible refine AWo.nil ?_) | ((with_reducible apply Then.n))))
                  rw [List.append_nil]
                  refine AW.join (fun t' M' => ∃ e D' L' nx, KMid m M' K2 T2 b7 b8 b15 lg D' L L' mb nx k e ∧ All (fun i v => t' i = some v) [(15, .pointer (some ⟨b15, 0, none⟩)), (5, .pointer (some ⟨m.length, 0, none⟩)), (7, .pointer (some ⟨b7, 0, none⟩)), (8, .pointer (some ⟨b8, 0, none⟩)), (9, .pointer (some ⟨lg, 0, none⟩)), (50, v), (51, .int .i64 (xs.length : Nat)), (52, .int .i64 (k : Nat)), (16, .int .i64 e)]) ?_ ?_
                  · refine AW.test rfl (fun _ => ?_) (fun _ => ?_)
                    · rw [← List.append_nil M2]
                      (repeat (first | (with_reducible refine AWo.cons ?_) | ((with_reducible refine Step.id ?_); ((with_reducible apply Step.move); exact rfl; exact rfl)) | ((with_reducible apply AW.regL))))
                      ((with_reducible apply Step.callF fit); exact rfl; exact Try.func51; exact rfl; exact rfl; (focus (rw [List.append_nil]; exact K_add hW.kd (huv2.sub (hsubK K2 M2 fun j hj => hin2 j hj.1 hj.2.2)) (by omega) (by have := hz7.2.1; change L.c.recs.length ≤ k at this; omega))))
                      rintro r3 M3 ⟨rfl, hk3, hp3⟩
                      rw [← List.append_nil M3]
                      (repeat (first | (with_reducible refine AWo.cons ?_) | ((with_reducible refine Step.id ?_); ((with_reducible apply Step.assign); exact rfl; exact rfl)) | (with_reducible refine AWo.nil ?_) | ((with_reducible apply Then.n))))
                      exact ⟨_, _, _, _, by rw [List.append_nil]; exact hW.mid hk3 hp3 (add_law hW.iv (by omega)) (hin2 b15 (by omega) hb15l) (by omega) (by omega) ⟨s7, r', y15, hcn2⟩ ⟨hz7.1, by have := hz7.2.1; simp only [List.length_append, List.length_singleton]; change L.c.recs.length ≤ k at this; omega, fun p hp => by
                        rcases List.mem_append.1 hp with hp | hp
                        · exact hz7.2.2 p hp
                        · rw [List.mem_singleton.1 hp]; omega⟩, (by repeat (first | exact trivial | (refine And.intro rfl ?_)))⟩
                    · rw [← List.append_nil M2]
                      (repeat (first | (with_reducible refine AWo.cons ?_) | ((with_reducible refine Step.id ?_); ((with_reducible apply Step.move); exact rfl; exact rfl)) | ((with_reducible apply AW.seq)) | ((with_reducible apply AW.regL))))
                      ((with_reducible apply Step.build); exact rfl; exact (bl105o huvs); exact rfl)
                      (repeat ((with_reducible refine AWo.cons ?_)))
                      ((with_reducible apply Step.storeL (n := 2) (v := [uv, .slice none 0 0])); exact rfl; exact rfl; exact (get_old [] y15); exact rfl; exact sz105; exact rfl; exact (list2_one huvs.one.1 rfl); (focus (show 0 + 2 ≤ 2; omega)))
                      rw [List.append_nil]
                      obtain ⟨W, hWe⟩ : ∃ W : AM, W = M2.set b15 (some { cells := [uv, .slice none 0 0] }) := ⟨_, rfl⟩
                      rw [show M2.set b15 (some { cells := splice [s7, r'] 0 [uv, .slice none 0 0] }) = W from hWe.symm]
                      have hW2 := hW.set (hin2 b15 (by omega) hb15l) (by omega) n15 (by omega) (by omega) (some { cells := [uv, .slice none 0 0] })
                      rw [← hWe] at hW2
                      have y15W : W[b15]? = some (some { cells := [uv, .slice none 0 0] }) := by rw [hWe]; exact List.getElem?_set_self hb15l
                      have huvW : Byts (vw (fun j => X.length ≤ j ∧ j ≠ b15 ∧ j < M2.length) W) uv (x.l.take 300) := by rw [hWe]; exact huv2.sub (vw_sub_set (fun e => e.2.1 rfl) _)
                      have hWl : 0 < W.length := by rw [hWe, List.length_set]; omega
                      rw [← List.append_nil W]
                      (repeat (first | (with_reducible refine AWo.cons ?_) | ((with_reducible refine Step.id ?_); ((with_reducible apply Step.move); exact rfl; exact rfl)) | (with_reducible refine AWo.nil ?_) | ((with_reducible apply Then.n)) | ((with_reducible apply AW.regL))))
                      ((with_reducible apply Step.callF fit); exact rfl; exact Try.func60; exact rfl; exact rfl; (focus (rw [List.append_nil]; exact K_rw hW2.kd (huvW.sub (Sub.vw _ _)) (by omega) (by omega))))
                      rintro r3 M3 ⟨rfl, hk3, hp3⟩
                      rw [← List.append_nil M3]
                      (repeat (first | (with_reducible refine AWo.cons ?_) | ((with_reducible refine Step.id ?_); ((with_reducible apply Step.assign); exact rfl; exact rfl)) | (with_reducible refine AWo.nil ?_) | ((with_reducible apply Then.n))))
                      exact ⟨_, _, _, _, by rw [List.append_nil]; exact hW2.mid hk3 hp3 (rw_law hW2.iv (by omega) (by omega)) (hin2 b15 (by omega) hb15l) (by omega) (by omega) ⟨uv, .slice none 0 0, y15W, huvW.sub (hsubK T2 W fun j hj => by rw [hT2]; exact .inr hj), [], PaysL.nil (by rw [vw_len]; exact hWl)⟩ ⟨by show (x.l.take 300).length ≤ _; omega, Nat.zero_le _, fun p hp => by cases hp⟩, (by repeat (first | exact trivial | (refine And.intro rfl ?_)))⟩
                  · rintro t' M3 ⟨e, D3, L3, nx, hMd, hsl⟩
                    refine AW.weak (fr_all hsl) ?_
                    clear hsl
                    by_cases e0 : e = 0
                    · subst e0
                      obtain ⟨s, r, z15, v15⟩ := hMd.xn
                      obtain ⟨s7', r7', z7, _⟩ := hMd.x7
                      obtain ⟨s8', r8', z8, _⟩ := hMd.x8
                      obtain ⟨hF, _⟩ := hMd.done v15
                      have hne := hMd.ne
                      rw [← List.append_nil M3]
                      (repeat' (first | (with_reducible refine AWo.cons ?_) | ((with_reducible refine Step.id ?_); first | ((with_reducible apply Step.move); exact rfl; exact rfl) | ((with_reducible apply Step.assign); exact rfl; exact rfl) | ((with_reducible apply Step.loadL (n := 2)); exact rfl; (focus (decide +kernel)); (focus (decide +kernel)); exact rfl; (focus (exact BoxAt.rd z15 _)); exact rfl; exact rfl) | ((with_reducible apply Step.eql); exact rfl; exact rfl; exact rfl)) | (with_reducible refine AWo.nil ?_) | ((with_reducible apply AW.seq)) | ((with_reducible apply Then.n)) | ((with_reducible apply AW.regL)) | ((with_reducible apply AW.block)) | ((with_reducible apply AW.drawT fit (T := (.step 0 (.both (.step 1 (.step 2 (.step 3 .done))) (.step 2 (.step 1 (.step 3 .done))))))); (focus (decide +kernel))) | ((with_reducible apply AWt.step); exact rfl) | ((with_reducible apply AW.condT); exact rfl; (focus (rfl))) | refine AWt.both ?_ ?_))
                      all_goals
                        ((with_reducible apply Step.storeL (n := 2) (v := [s, r])); exact rfl; exact rfl; exact (get_old [] z7); exact rfl; exact sz105; exact rfl; exact (list2_one v15.one.1 v15.one.2); (focus (show 0 + 2 ≤ 2; omega)))
                        rw [List.append_nil]
                        obtain ⟨V, hVe⟩ : ∃ V : AM, V = M3.set b7 (some { cells := [s, r] }) := ⟨_, rfl⟩
                        rw [show M3.set b7 (some { cells := splice [s7', r7'] 0 [s, r] }) = V from hVe.symm]
                        have z15V : V[b15]? = some (some { cells := [s, r] }) := by rw [hVe, List.getElem?_set_ne hMd.n7.symm]; exact z15
                        have z8V : V[b8]? = some (some { cells := [s8', r8'] }) := by rw [hVe, List.getElem?_set_ne hne]; exact z8
                        rw [← hVe] at hF
                        rw [← List.append_nil V]
                        (repeat' (first | ((with_reducible refine Step.id ?_); ((with_reducible apply Step.loadL (n := 2)); exact rfl; (focus (decide +kernel)); (focus (decide +kernel)); exact rfl; (focus (exact BoxAt.rd z15V _)); exact rfl; exact rfl)) | ((with_reducible apply AWt.step); exact rfl)))
                        ((with_reducible apply Step.storeL (n := 2) (v := [s, r])); exact rfl; exact rfl; exact (get_old [] z8V); exact rfl; exact sz105; exact rfl; exact (list2_one v15.one.1 v15.one.2); (focus (show 0 + 2 ≤ 2; omega)))
                        rw [List.append_nil]
                        obtain ⟨W, hWe⟩ : ∃ W : AM, W = V.set b8 (some { cells := [s, r] }) := ⟨_, rfl⟩
                        rw [show V.set b8 (some { cells := splice [s8', r8'] 0 [s, r] }) = W from hWe.symm]
                        rw [← hWe] at hF
                        obtain ⟨sa, ra, za, hh⟩ := hF.has (by omega)
                        rw [← List.append_nil W]
                        (repeat (first | (with_reducible refine AWo.cons ?_) | ((with_reducible refine Step.id ?_); first | ((with_reducible apply Step.gdT); exact rfl; exact rfl; (focus (rfl))) | ((with_reducible apply Step.move); exact rfl; exact rfl) | ((with_reducible apply Step.loadL (n := 2)); exact rfl; (focus (decide +kernel)); (focus (decide +kernel)); exact rfl; (focus (exact BoxAt.rd za _)); exact rfl; exact rfl) | ((with_reducible apply Step.add); exact rfl; exact rfl; (focus (omega)); exact rfl) | ((with_reducible apply Step.eql); exact rfl; exact rfl; exact rfl) | ((with_reducible apply Step.not); exact rfl; exact rfl) | ((with_reducible apply Step.pickT); exact rfl; exact rfl; exact rfl; exact rfl; (focus (rfl))) | ((with_reducible apply Step.callR fit); exact rfl; exact Try.func55; exact rfl; exact rfl; exact (hh))) | (with_reducible refine AWo.nil ?_) | ((with_reducible apply AW.seq)) | ((with_reducible apply Then.n)) | ((with_reducible apply AW.regL)) | ((with_reducible apply AWt.done)) | ((with_reducible apply InBlk.n)) | ((with_reducible apply AW.skip)) | ((with_reducible apply AW.condF); exact rfl; (focus (rfl)))))
                        exact ⟨_, [(5, .pointer (some ⟨m.length, 0, none⟩)), (7, .pointer (some ⟨b7, 0, none⟩)), (8, .pointer (some ⟨b8, 0, none⟩)), (9, .pointer (some ⟨lg, 0, none⟩)), (50, v), (51, .int .i64 (xs.length : Nat)), (52, .int .i64 (k + 1 : Nat))], by omega, (by repeat (first | exact trivial | (refine And.intro rfl ?_))), k + 1, K2, T2, lg, D3, L3, _, rfl, by omega, by omega, by rw [List.append_nil]; exact hF, rfl⟩
                    · by_cases e1 : e = 14
                      · subst e1
                        obtain ⟨s, r, z15, v15⟩ := hMd.xn
                        obtain ⟨s8', r8', z8, _⟩ := hMd.x8
                        have hF := hMd.lost v15
                        rw [← List.append_nil M3]
                        (repeat (first | (with_reducible refine AWo.cons ?_) | ((with_reducible refine Step.id ?_); first | ((with_reducible apply Step.move); exact rfl; exact rfl) | ((with_reducible apply Step.assign); exact rfl; exact rfl) | ((with_reducible apply Step.loadL (n := 2)); exact rfl; (focus (decide +kernel)); (focus (decide +kernel)); exact rfl; (focus (exact BoxAt.rd z15 _)); exact rfl; exact rfl) | ((with_reducible apply Step.eql); exact rfl; exact rfl; exact rfl)) | (with_reducible refine AWo.nil ?_) | ((with_reducible apply AW.seq)) | ((with_reducible apply Then.n)) | ((with_reducible apply AW.regL)) | ((with_reducible apply AW.block)) | ((with_reducible apply AW.condT); exact rfl; (focus (rfl))) | ((with_reducible apply AW.condF); exact rfl; (focus (rfl)))))
                        ((with_reducible apply Step.storeL (n := 2) (v := [s, r])); exact rfl; exact rfl; exact (get_old [] z8); exact rfl; exact sz105; exact rfl; exact (list2_one v15.one.1 v15.one.2); (focus (show 0 + 2 ≤ 2; omega)))
                        rw [List.append_nil]
                        obtain ⟨W, hWe⟩ : ∃ W : AM, W = M3.set b8 (some { cells := [s, r] }) := ⟨_, rfl⟩
                        rw [show M3.set b8 (some { cells := splice [s8', r8'] 0 [s, r] }) = W from hWe.symm]
                        rw [← hWe] at hF
                        rw [← List.append_nil W]
                        (repeat (first | (with_reducible refine AWo.cons ?_) | ((with_reducible refine Step.id ?_); first | ((with_reducible apply Step.gdF); exact rfl; exact rfl; (focus (rfl))) | ((with_reducible apply Step.move); exact rfl; exact rfl) | ((with_reducible apply Step.add); exact rfl; exact rfl; (focus (omega)); exact rfl) | ((with_reducible apply Step.eql); exact rfl; exact rfl; exact rfl) | ((with_reducible apply Step.pickF); exact rfl; exact rfl; exact rfl; exact rfl; (focus (rfl)))) | (with_reducible refine AWo.nil ?_) | ((with_reducible apply AW.seq)) | ((with_reducible apply Then.n)) | ((with_reducible apply AW.regL)) | ((with_reducible apply InBlk.n)) | ((with_reducible apply AW.skip)) | ((with_reducible apply AW.condF); exact rfl; (focus (rfl)))))
                        exact ⟨_, [(5, .pointer (some ⟨m.length, 0, none⟩)), (7, .pointer (some ⟨b7, 0, none⟩)), (8, .pointer (some ⟨b8, 0, none⟩)), (9, .pointer (some ⟨lg, 0, none⟩)), (50, v), (51, .int .i64 (xs.length : Nat)), (52, .int .i64 (k + 1 : Nat))], by omega, (by repeat (first | exact trivial | (refine And.intro rfl ?_))), k + 1, K2, T2, lg, D3, L3, _, rfl, by omega, by omega, by rw [List.append_nil]; exact hF, rfl⟩
                      · have hF := hMd.no e0 e1
                        have d0 : decide (e = 0) = false := decide_eq_false e0
                        have d1 : decide (e = 14) = false := decide_eq_false e1
                        rw [← List.append_nil M3]
                        (repeat (first | (with_reducible refine AWo.cons ?_) | ((with_reducible refine Step.id ?_); first | ((with_reducible apply Step.gdF); exact rfl; exact rfl; (focus ((simp only [decide_eq_true_eq, decide_eq_false_iff_not, Bool.not_eq_true', Bool.not_eq_false', Bool.not_true, Bool.not_false]; first | assumption | omega)))) | ((with_reducible apply Step.move); exact rfl; exact rfl) | ((with_reducible apply Step.assign); exact rfl; exact rfl) | ((with_reducible apply Step.add); exact rfl; exact rfl; (focus (omega)); exact rfl) | ((with_reducible apply Step.eql); exact rfl; exact rfl; exact rfl) | ((with_reducible apply Step.pickF); exact rfl; exact rfl; exact rfl; exact rfl; (focus ((simp only [decide_eq_true_eq, decide_eq_false_iff_not, Bool.not_eq_true', Bool.not_eq_false', Bool.not_true, Bool.not_false]; first | assumption | omega))))) | (with_reducible refine AWo.nil ?_) | ((with_reducible apply AW.seq)) | ((with_reducible apply Then.n)) | ((with_reducible apply AW.regL)) | ((with_reducible apply AW.block)) | ((with_reducible apply InBlk.n)) | ((with_reducible apply AW.skip)) | ((with_reducible apply AW.condF); exact rfl; (focus (first | rfl | (simp only [decide_eq_true_eq, decide_eq_false_iff_not, Bool.not_eq_true', Bool.not_eq_false', Bool.not_true, Bool.not_false]; first | assumption | omega))))))
                        exact ⟨_, [(5, .pointer (some ⟨m.length, 0, none⟩)), (7, .pointer (some ⟨b7, 0, none⟩)), (8, .pointer (some ⟨b8, 0, none⟩)), (9, .pointer (some ⟨lg, 0, none⟩)), (50, v), (51, .int .i64 (xs.length : Nat)), (52, .int .i64 (k + 1 : Nat))], by omega, (by repeat (first | exact trivial | (refine And.intro rfl ?_))), k + 1, K2, T2, lg, D3, L3, _, rfl, by omega, by omega, by rw [List.append_nil]; exact hF, rfl⟩
      · obtain rfl : k = xs.length := by omega
        (repeat (first | (with_reducible refine AWo.cons ?_) | ((with_reducible refine Step.id ?_); ((with_reducible apply Step.lss); exact rfl; exact rfl; exact rfl)) | (with_reducible refine AWo.nil ?_) | ((with_reducible apply AW.seq)) | ((with_reducible apply Then.n)) | ((with_reducible apply AW.regL)) | ((with_reducible apply AW.exit)) | ((with_reducible apply Then.e)) | ((with_reducible apply AW.condF); exact rfl; (focus ((simp only [decide_eq_true_eq, decide_eq_false_iff_not, Bool.not_eq_true', Bool.not_eq_false', Bool.not_true, Bool.not_false]; first | assumption | omega))))))
        refine MidR.e ?_
        exact ⟨N, by rw [List.append_nil]; exact hN⟩
    · rintro t' M ⟨N, rfl⟩
      refine InBlk.hit ?_
      refine Then.n ?_
      (repeat (first | (with_reducible refine AWo.cons ?_) | ((with_reducible refine Step.id ?_); first | ((with_reducible apply Step.assign); exact rfl; exact rfl) | ((with_reducible apply Step.callR fit); exact rfl; exact Try.func16; exact rfl; exact rfl; exact (hw _))) | (with_reducible refine AWo.nil ?_) | ((with_reducible apply AW.seq)) | ((with_reducible apply Then.n)) | ((with_reducible apply AW.regL))))
      (refine AW.ret ?_; (repeat (first | refine Then.r ?_ | refine InBlk.r ?_)))
      exact ⟨_, rfl, rfl, N, by simp⟩
end Go.Proofs.Ytabdnepfcohncaa.Abs
