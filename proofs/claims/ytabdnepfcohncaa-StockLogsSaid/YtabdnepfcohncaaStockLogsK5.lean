/- Proved here: what the proof of StockLogs rests on, part 5 of 6. Conditions: those that each theorem names. -/
import Derived.Test.YtabdnepfcohncaaStockLogsK4
namespace Go.Proofs.Ytabdnepfcohncaa.Abs
set_option linter.unusedSimpArgs false
set_option linter.unusedVariables false
open Go.RowKit
open Go.Proofs.Ytabdnepfcohncaa.Sim
open Go.Proofs
theorem un96 : Try.prog.underlying 96 = some (.pointer 126) := by kernel_rfl
theorem LogAt.rd {M : AM} {lg dk : Nat} {L : Lg} {sv rv : Value} (h : LogAt M lg dk L sv rv) (T : AM) (j : Nat) (v : Value) (hv : (lgc (L.c.gen : Nat) sv rv dk (L.at_ : Nat) L.down)[j]? = some v) : Rd (M ++ T) lg j v := Rd.old T ⟨_, h.cells, hv⟩
theorem LogAt.lt {M : AM} {lg dk : Nat} {L : Lg} {sv rv : Value} (h : LogAt M lg dk L sv rv) : lg < M.length := (List.getElem?_eq_some_iff.1 h.cells).1
theorem LogAt.old {M : AM} {lg dk : Nat} {L : Lg} {sv rv : Value} (h : LogAt M lg dk L sv rv) (T : AM) : LogAt (M ++ T) lg dk L sv rv := h.msub (Sub.app M T).m
theorem LogAt.all {S : Nat → Prop} {M : AM} {lg dk : Nat} {L : Lg} {sv rv : Value} (h : LogAt (vw S M) lg dk L sv rv) : LogAt M lg dk L sv rv := h.msub (Sub.vw S M).m
set_option maxRecDepth 100000 in
theorem lnone_ok {m : AM} {lg dk : Nat} {L : Lg} {sv rv : Value} (h : LogAt m lg dk L sv rv) : ACall Try.prog 121 #[.pointer (some ⟨lg, 0, none⟩)] m (Ret (.bool false) m) := by
 have hll := h.lt
 have hlb := h.lb
 have r3 := fun T => h.rd T (0 + 3) _ rfl
 refine ACall.start Try.func121 rfl rfl ?_
 (repeat (first|(with_reducible refine AWo.cons ?_)|((with_reducible refine Step.id ?_);first|((with_reducible apply Step.gdT);exact rfl;exact rfl;((rfl)))|((with_reducible apply Step.move);exact rfl;exact rfl)|((with_reducible apply Step.assign);exact rfl;exact rfl)|((with_reducible apply Step.load);exact rfl;((decide +kernel));exact rfl;((exact r3 _)))|((with_reducible apply Step.field (k := 3));exact rfl;((decide +kernel));exact rfl)|((with_reducible apply Step.ptrNot);exact rfl;exact rfl;exact un36;exact rfl)|((with_reducible apply Step.ptrNot);exact rfl;exact rfl;exact un96;exact rfl)|((with_reducible apply Step.nilp);exact rfl;exact rfl)|((with_reducible apply Step.pickF);exact rfl;exact rfl;exact rfl;exact rfl;((rfl))))|(with_reducible first|apply AWo.nil|apply AW.seq|apply Then.n|apply AW.regL)))
 (refine AW.retD (l := [(2, _)]) (by repeat (first | exact trivial | (refine And.intro ⟨rfl, by (exact .bool _)⟩ ?_))) ?_; (repeat (first | refine Then.r ?_ | refine InBlk.r ?_)))
 exact ⟨_, rfl, by simp, rfl⟩
set_option maxRecDepth 100000 in
theorem Gen_ok {m : AM} {lg dk : Nat} {L : Lg} {sv rv : Value} (h : LogAt m lg dk L sv rv) : ACall Try.prog 54 #[.pointer (some ⟨lg, 0, none⟩)] m (Ret (.int .i64 (L.c.gen : Nat)) m) := by
 have hll := h.lt
 have hno := fun T => lnone_ok (h.old T)
 have r0 := fun T => h.rd T 0 _ rfl
 refine ACall.start Try.func54 rfl rfl ?_
 (repeat (first|(with_reducible refine AWo.cons ?_)|((with_reducible refine Step.id ?_);first|((with_reducible apply Step.move);exact rfl;exact rfl)|((with_reducible apply Step.assign);exact rfl;exact rfl)|((with_reducible apply Step.load);exact rfl;((decide +kernel));exact rfl;((exact r0 _)))|((with_reducible apply Step.field0);exact rfl;((decide +kernel));exact rfl)|((with_reducible apply Step.nilp);exact rfl;exact rfl)|((with_reducible apply Step.callR fit);exact rfl;exact Try.func121;exact rfl;exact rfl;exact (hno _)))|(with_reducible first|apply AWo.nil|apply AW.seq|apply Then.n|apply AW.regL|apply AW.skip)|((with_reducible apply AW.condF);exact rfl;((rfl)))))
 (refine AW.retD (l := [(2, _)]) (by repeat (first | exact trivial | (refine And.intro ⟨rfl, by (exact .int _ _)⟩ ?_))) ?_; (repeat (first | refine Then.r ?_ | refine InBlk.r ?_)))
 exact ⟨_, rfl, rfl, rfl⟩
set_option maxRecDepth 100000 in
theorem Snap_ok {m : AM} {lg dk : Nat} {L : Lg} {sv rv : Value} (h : LogAt m lg dk L sv rv) (hl : L.c.snap.length ≤ 1000000000) : ACall Try.prog 56 #[.pointer (some ⟨lg, 0, none⟩)] m (More (fun M r => Row M m.length 1 r (by8 L.c.snap) L.c.snap.length) m) := by
 have hll := h.lt
 have hno := fun T => lnone_ok (h.old T)
 have r1 := fun T => h.rd T (0 + 1) _ rfl
 refine ACall.start Try.func56 rfl rfl ?_
 (repeat (first|(with_reducible refine AWo.cons ?_)|((with_reducible refine Step.id ?_);first|((with_reducible apply Step.move);exact rfl;exact rfl)|((with_reducible apply Step.assign);exact rfl;exact rfl)|((with_reducible apply Step.load);exact rfl;((decide +kernel));exact rfl;((exact r1 _)))|((with_reducible apply Step.field0);exact rfl;((decide +kernel));exact rfl)|((with_reducible apply Step.field (k := 1));exact rfl;((decide +kernel));exact rfl)|((with_reducible apply Step.nilp);exact rfl;exact rfl)|((with_reducible apply Step.callR fit);exact rfl;exact Try.func121;exact rfl;exact rfl;exact (hno _)))|(with_reducible first|apply AWo.nil|apply AW.seq|apply Then.n|apply AW.regL|apply AW.skip)|((with_reducible apply AW.condF);exact rfl;((rfl)))))
 ((with_reducible apply Step.callX fit);exact rfl;exact Try.func73;exact rfl;exact rfl;((rw [List.append_nil];exact clone_ok (h.cont.snap.byts (by omega)) hl)))
 rintro u M1 ⟨N1, hN1⟩ hu
 rw [List.append_nil] at hN1
 (repeat (first|(with_reducible refine AWo.cons ?_)|((with_reducible refine Step.id ?_);((with_reducible apply Step.assign);exact rfl;exact rfl))|(with_reducible first|apply AWo.nil|apply Then.n)))
 (refine AW.ret ?_; (repeat (first | refine Then.r ?_ | refine InBlk.r ?_)))
 exact ⟨_, rfl, N1, by rw [List.append_nil]; exact hN1, by rw [List.append_nil]; exact hu⟩
theorem Seg.rd {M : AM} {b0 s : Nat} {u : Value} {c : List Value} {n : Nat} (h : Seg M b0 s u c n) (hM : 0 < M.length) : ∃ a o, Sl u a o n ∧ a < M.length ∧ ∀ (T : AM) (q : Nat) (v : Value), c[q]? = some v → Rd (M ++ T) a (o + q) v := by
 obtain ⟨a, o, h1, h2, h3⟩ := h.sl hM
 refine ⟨a, o, h1, h2, fun T q v hv => ?_⟩
 have hq := (List.getElem?_eq_some_iff.1 hv).1
 rw [h.len] at hq
 have hn : 0 < n := Nat.pos_of_ne_zero fun e => by rw [e, Nat.zero_mul] at hq; omega
 obtain ⟨b, q1, q2⟩ := h3 hn
 exact Rd.old T ⟨b, q1, q2 q v hv⟩
set_option maxHeartbeats 8000000 in
set_option maxRecDepth 100000 in
theorem Recs_ok {m : AM} {lg dk : Nat} {L : Lg} {sv rv : Value} (h : LogAt m lg dk L sv rv) (hn : L.c.recs.length ≤ 1000000000) (hl : ∀ p ∈ L.c.recs, p.length ≤ 1000000000) : ACall Try.prog 57 #[.pointer (some ⟨lg, 0, none⟩)] m (More (fun M r => Pays M m.length r L.c.recs) m) := by
 have hll := h.lt
 have hno := fun T => lnone_ok (h.old T)
 have r2 := fun T => h.rd T (0 + 2) _ rfl
 obtain ⟨pc, hseg, hel⟩ := h.cont.recs
 obtain ⟨ar, orr, hsl, har, hrd⟩ := hseg.rd (by omega)
 refine ACall.start Try.func57 rfl rfl ?_
 (repeat (first|(with_reducible refine AWo.cons ?_)|((with_reducible refine Step.id ?_);first|((with_reducible apply Step.move);exact rfl;exact rfl)|((with_reducible apply Step.assign);exact rfl;exact rfl)|((with_reducible apply Step.load);exact rfl;((decide +kernel));exact rfl;((exact r2 _)))|((with_reducible apply Step.field0);exact rfl;((decide +kernel));exact rfl)|((with_reducible apply Step.field (k := 2));exact rfl;((decide +kernel));exact rfl)|((with_reducible apply Step.len);exact rfl;((assumption));((decide +kernel));exact rfl)|((with_reducible apply Step.nilp);exact rfl;exact rfl)|((with_reducible apply Step.callR fit);exact rfl;exact Try.func121;exact rfl;exact rfl;exact (hno _)))|(with_reducible first|apply AWo.nil|apply AW.seq|apply Then.n|apply AW.regL|apply AW.block|apply AW.skip)|((with_reducible apply AW.condF);exact rfl;((rfl)))))
 refine AW.midX 0 (fun t' M => ∃ pv, Pays M m.length pv L.c.recs ∧ (∃ N, M = m ++ N) ∧ All (fun i v => t' i = some v) [(3, pv)]) ?_ ?_
 ·refine AW.loopW (fun q t M => ∃ (k : Nat) (pv : Value), q = L.c.recs.length - k ∧ k ≤ L.c.recs.length ∧ Pays M m.length pv (L.c.recs.take k) ∧ (∃ N, M = m ++ N) ∧
   t = fr [(3, pv), (12, rv), (13, .int .i64 (L.c.recs.length : Nat)), (14, .int .i64 (k : Nat))]) ⟨_, _, (by repeat (first | exact trivial | (refine And.intro rfl ?_))), 0, .slice none 0 0, rfl, Nat.zero_le _, .nil, ⟨[], by simp⟩, rfl⟩ ?_
  rintro q t M ⟨k, pv, rfl, hk, ⟨pv', hpr, hpe⟩, ⟨N, rfl⟩, rfl⟩
  refine AW.rebase ?_
  rcases Nat.lt_or_ge k L.c.recs.length with hlt | hge
  ·obtain ⟨uk, w1, w2, w3⟩ := hel k hlt
   have rk : ∀ T, Rd (m ++ N ++ T) ar (orr + k) uk := fun T => by rw [List.append_assoc]; exact hrd _ k uk w1
   have hsn2 : L.c.recs.take (k + 1) = L.c.recs.take k ++ [L.c.recs.getD k []] := by rw [List.take_succ_eq_append_getElem hlt]; simp [hlt]
   have hpl := hl (L.c.recs.getD k []) (by rw [List.getD_eq_getElem?_getD, List.getElem?_eq_getElem hlt]; exact List.getElem_mem hlt)
   have htl : (L.c.recs.take k).length = k := by rw [List.length_take]; omega
   generalize L.c.recs.getD k [] = p at *
   obtain ⟨X, hX⟩ : ∃ X : AM, X = m ++ N := ⟨_, rfl⟩
   have hXl : m.length ≤ X.length := by rw [hX, List.length_append]; omega
   have hcl := clone_ok (m := X) (by rw [hX]; exact (w2.old N).byts (by rw [List.length_append]; omega)) hpl
   rw [← hX] at hpr hpe rk ⊢
   (repeat (first|(with_reducible refine AWo.cons ?_)|((with_reducible refine Step.id ?_);first|((with_reducible apply Step.move);exact rfl;exact rfl)|((with_reducible apply Step.assign);exact rfl;exact rfl)|((with_reducible apply Step.load);exact rfl;((decide +kernel));exact rfl;((exact rk _)))|((with_reducible apply Step.ix1);exact rfl;((assumption));exact rfl;((decide +kernel));exact rfl;((omega)))|((with_reducible apply Step.lss);exact rfl;exact rfl;exact rfl))|(with_reducible first|apply AWo.nil|apply AW.seq|apply Then.n|apply AW.regL|apply AW.block|apply AW.skip)|((with_reducible apply AW.condT);exact rfl;(((simp only [zq1, zq2, zq3, zq4, zq5, zq6];first|assumption|omega))))))
   ((with_reducible apply Step.callX fit);exact rfl;exact Try.func73;exact rfl;exact rfl;((rw [List.append_nil];exact hcl)))
   rintro u M1 ⟨N1, hN1⟩ hu
   rw [List.append_nil] at hN1
   have hus : SlV u := hu.slv
   have hM1l : X.length ≤ M1.length := by rw [hN1, List.length_append]; omega
   (repeat (first|(with_reducible refine AWo.cons ?_)|((with_reducible refine Step.id ?_);((with_reducible apply Step.buildS 0);exact rfl;exact rfl;exact (fun _ _ => bs27);exact rfl;((first|(simp only [zq7, zq8, zq9, zq0, iv_set, bv_set, iv_rep, bv_rep] <;> rfl)|rfl))))))
   ((with_reducible apply Step.appRow2 (s := 1) (n := (L.c.recs.take k).length) (xl := 1) (b0 := m.length) (c := pv') (new := [u]));exact rfl;exact rfl;((rw [hN1];exact (hpr.old N1).old _));exact (Sl.mk (Nat.le_refl _));exact (fun _ => RdL.new rfl rfl);exact el27;exact un27;exact rfl;((rw [List.all_cons, hus.one.1];rfl));exact rfl;((omega));exact rfl;((rw [List.length_append];omega)))
   intro pv2 M2 hr2 hml2 hk2 hn2
   rw [List.length_append] at hml2
   have hp2 := Pays.push (p := p) hpr hpe ⟨N1 ++ [some { cells := [u] }], by rw [hN1, List.append_assoc]⟩ (hu.old [some { cells := [u] }]) hXl hr2 hk2 hn2
   obtain ⟨N2, hN2⟩ := pre_keep (m0 := m) (M := M1 ++ [some { cells := [u] }]) ⟨N ++ (N1 ++ [some { cells := [u] }]), by rw [hN1, hX]; simp⟩ (by rw [List.length_append]; exact hml2) fun j hj => hk2 j (by rw [List.length_append]; omega) (NotOf.row hpr hj)
   (repeat (first|(with_reducible refine AWo.cons ?_)|((with_reducible refine Step.id ?_);first|((with_reducible apply Step.move);exact rfl;exact rfl)|((with_reducible apply Step.assign);exact rfl;exact rfl)|((with_reducible apply Step.add);exact rfl;exact rfl;((omega));exact rfl))|(with_reducible first|apply AWo.nil|apply Then.n|apply AW.regL|apply InBlk.n)))
   exact ⟨_, [(3, pv2), (12, rv), (13, .int .i64 (L.c.recs.length : Nat)), (14, .int .i64 (k + 1 : Nat))], by omega, (by repeat (first | exact trivial | (refine And.intro rfl ?_))), k + 1, pv2, rfl, by omega, by rw [hsn2]; exact hp2, ⟨N2, hN2⟩, rfl⟩
  ·obtain rfl : k = L.c.recs.length := by omega
   rw [List.take_of_length_le (Nat.le_refl _)] at hpr hpe
   (repeat (first|(with_reducible refine AWo.cons ?_)|((with_reducible refine Step.id ?_);((with_reducible apply Step.lss);exact rfl;exact rfl;exact rfl))|(with_reducible first|apply AWo.nil|apply AW.seq|apply Then.n|apply AW.regL|apply AW.exit|apply Then.e)|((with_reducible apply AW.condF);exact rfl;(((simp only [zq1, zq2, zq3, zq4, zq5, zq6];first|assumption|omega))))))
   exact ⟨rfl, pv, by rw [List.append_nil]; exact ⟨pv', hpr, hpe⟩, ⟨N, by simp⟩, (by repeat (first | exact trivial | (refine And.intro rfl ?_)))⟩
 ·rintro t' M ⟨pv, hp, ⟨N, rfl⟩, hsl⟩
  refine InBlk.hit ?_
  refine Then.n ?_
  refine AW.weak (fr_all hsl) ?_
  clear hsl
  refine AW.rebase ?_
  (repeat (first|(with_reducible refine AWo.cons ?_)|((with_reducible refine Step.id ?_);first|((with_reducible apply Step.move);exact rfl;exact rfl)|((with_reducible apply Step.assign);exact rfl;exact rfl))|(with_reducible first|apply AWo.nil|apply AW.seq|apply Then.n|apply AW.regL)))
  (refine AW.ret ?_; (repeat (first | refine Then.r ?_ | refine InBlk.r ?_)))
  exact ⟨_, rfl, N, by rw [List.append_nil], by rw [List.append_nil]; exact hp⟩
def rdyF (L : Lg) (p : List UInt8) : Int := if L.down = true then 9 else if 65536 < p.length then 3 else 0
set_option maxRecDepth 100000 in
theorem ready_ok {m : AM} {lg dk : Nat} {L : Lg} {sv rv w : Value} {p : List UInt8} (h : LogAt m lg dk L sv rv) (hp : Byts m w p) : ACall Try.prog 119 #[.pointer (some ⟨lg, 0, none⟩), w] m (Ret (.int .i64 (rdyF L p)) m) := by
 have hll := h.lt
 have hno := fun T => lnone_ok (h.old T)
 have r5 := fun T => h.rd T (0 + 5) _ rfl
 obtain ⟨a, o, hs, _, _⟩ := hp
 refine ACall.start Try.func119 rfl rfl ?_
 unfold rdyF
 cases hd : L.down with
 | true =>
  rw [hd] at r5
  (repeat (first|(with_reducible refine AWo.cons ?_)|((with_reducible refine Step.id ?_);first|((with_reducible apply Step.move);exact rfl;exact rfl)|((with_reducible apply Step.assign);exact rfl;exact rfl)|((with_reducible apply Step.load);exact rfl;((decide +kernel));exact rfl;((exact r5 _)))|((with_reducible apply Step.field (k := 5));exact rfl;((decide +kernel));exact rfl)|((with_reducible apply Step.nilp);exact rfl;exact rfl)|((with_reducible apply Step.callR fit);exact rfl;exact Try.func121;exact rfl;exact rfl;exact (hno _)))|(with_reducible first|apply AWo.nil|apply AW.seq|apply Then.n|apply AW.regL|apply AW.block)|((with_reducible apply AW.condT);exact rfl;((rfl)))|((with_reducible apply AW.condF);exact rfl;((rfl)))))
  (refine AW.retD (l := [(4, _)]) (by repeat (first | exact trivial | (refine And.intro ⟨rfl, by (exact .int _ _)⟩ ?_))) ?_; (repeat (first | refine Then.r ?_ | refine InBlk.r ?_)))
  exact ⟨_, rfl, rfl, rfl⟩
 | false =>
  rw [hd] at r5
  rw [if_neg (by simp)]
  by_cases c : 65536 < p.length
  ·rw [if_pos c]
   (repeat (first|(with_reducible refine AWo.cons ?_)|((with_reducible refine Step.id ?_);first|((with_reducible apply Step.move);exact rfl;exact rfl)|((with_reducible apply Step.assign);exact rfl;exact rfl)|((with_reducible apply Step.load);exact rfl;((decide +kernel));exact rfl;((exact r5 _)))|((with_reducible apply Step.field (k := 5));exact rfl;((decide +kernel));exact rfl)|((with_reducible apply Step.gtr);exact rfl;exact rfl;exact rfl)|((with_reducible apply Step.len);exact rfl;((assumption));((decide +kernel));exact rfl)|((with_reducible apply Step.nilp);exact rfl;exact rfl)|((with_reducible apply Step.callR fit);exact rfl;exact Try.func121;exact rfl;exact rfl;exact (hno _)))|(with_reducible first|apply AWo.nil|apply AW.seq|apply Then.n|apply AW.regL|apply AW.block)|((with_reducible apply AW.condT);exact rfl;(((simp only [zq1, zq2, zq3, zq4, zq5, zq6];first|assumption|omega))))|((with_reducible apply AW.condF);exact rfl;((rfl)))))
   (refine AW.retD (l := [(4, _)]) (by repeat (first | exact trivial | (refine And.intro ⟨rfl, by (exact .int _ _)⟩ ?_))) ?_; (repeat (first | refine Then.r ?_ | refine InBlk.r ?_)))
   exact ⟨_, rfl, rfl, rfl⟩
  ·rw [if_neg c]
   (repeat (first|(with_reducible refine AWo.cons ?_)|((with_reducible refine Step.id ?_);first|((with_reducible apply Step.move);exact rfl;exact rfl)|((with_reducible apply Step.assign);exact rfl;exact rfl)|((with_reducible apply Step.load);exact rfl;((decide +kernel));exact rfl;((exact r5 _)))|((with_reducible apply Step.field (k := 5));exact rfl;((decide +kernel));exact rfl)|((with_reducible apply Step.gtr);exact rfl;exact rfl;exact rfl)|((with_reducible apply Step.len);exact rfl;((assumption));((decide +kernel));exact rfl)|((with_reducible apply Step.nilp);exact rfl;exact rfl)|((with_reducible apply Step.callR fit);exact rfl;exact Try.func121;exact rfl;exact rfl;exact (hno _)))|(with_reducible first|apply AWo.nil|apply AW.seq|apply Then.n|apply AW.regL|apply AW.block|apply InBlk.n|apply AW.skip)|((with_reducible apply AW.condF);exact rfl;((first|rfl|(simp only [zq1, zq2, zq3, zq4, zq5, zq6];first|assumption|omega))))))
   (refine AW.retD (l := [(4, _)]) (by repeat (first | exact trivial | (refine And.intro ⟨rfl, by (exact .int _ _)⟩ ?_))) ?_; (repeat (first | refine Then.r ?_ | refine InBlk.r ?_)))
   exact ⟨_, rfl, rfl, rfl⟩
def metF (L : Lg) (e : Int) : Lg := { L with down := L.down || decide (e = 14) }
set_option maxRecDepth 100000 in
theorem met_ok {m : AM} {lg dk : Nat} {L : Lg} {sv rv : Value} (e : Int) (h : LogAt m lg dk L sv rv) : ACall Try.prog 120 #[.pointer (some ⟨lg, 0, none⟩), .int .i64 e] m (fun r M => r = .int .i64 e ∧ M = m.set lg (some { cells := lgc (L.c.gen : Nat) sv rv dk (L.at_ : Nat) (metF L e).down })) := by
 have hll := h.lt
 have r5 := fun T => h.rd T (0 + 5) _ rfl
 refine ACall.start Try.func120 rfl rfl ?_
 unfold metF
 cases hd : L.down with
 | true =>
  rw [hd] at r5
  (repeat (first|(with_reducible refine AWo.cons ?_)|((with_reducible refine Step.id ?_);first|((with_reducible apply Step.gdF);exact rfl;exact rfl;((rfl)))|((with_reducible apply Step.move);exact rfl;exact rfl)|((with_reducible apply Step.assign);exact rfl;exact rfl)|((with_reducible apply Step.load);exact rfl;((decide +kernel));exact rfl;((exact r5 _)))|((with_reducible apply Step.field (k := 5));exact rfl;((decide +kernel));exact rfl)|((with_reducible apply Step.nilp);exact rfl;exact rfl)|((with_reducible apply Step.pickT);exact rfl;exact rfl;exact rfl;exact rfl;((rfl))))|(with_reducible first|apply AWo.nil|apply AW.seq|apply Then.n|apply AW.regL)))
  ((with_reducible apply Step.storeAt);exact rfl;exact rfl;exact (get_old [] h.cells);exact sz4d;exact rfl;((show 0 + 5 < 6;omega));exact rfl;exact rfl)
  (repeat (first|(with_reducible refine AWo.cons ?_)|((with_reducible refine Step.id ?_);first|((with_reducible apply Step.move);exact rfl;exact rfl)|((with_reducible apply Step.assign);exact rfl;exact rfl))|(with_reducible first|apply AWo.nil|apply AW.seq|apply Then.n|apply AW.regL)))
  (refine AW.ret ?_; (repeat (first | refine Then.r ?_ | refine InBlk.r ?_)))
  rw [List.append_nil]
  exact ⟨_, rfl, rfl, rfl⟩
 | false =>
  rw [hd] at r5
  (repeat (first|(with_reducible refine AWo.cons ?_)|((with_reducible refine Step.id ?_);first|((with_reducible apply Step.gdT);exact rfl;exact rfl;((rfl)))|((with_reducible apply Step.move);exact rfl;exact rfl)|((with_reducible apply Step.assign);exact rfl;exact rfl)|((with_reducible apply Step.load);exact rfl;((decide +kernel));exact rfl;((exact r5 _)))|((with_reducible apply Step.field (k := 5));exact rfl;((decide +kernel));exact rfl)|((with_reducible apply Step.eql);exact rfl;exact rfl;exact rfl)|((with_reducible apply Step.nilp);exact rfl;exact rfl)|((with_reducible apply Step.pickF);exact rfl;exact rfl;exact rfl;exact rfl;((rfl))))|(with_reducible first|apply AWo.nil|apply AW.seq|apply Then.n|apply AW.regL)))
  ((with_reducible apply Step.storeAt);exact rfl;exact rfl;exact (get_old [] h.cells);exact sz4d;exact rfl;((show 0 + 5 < 6;omega));exact rfl;exact rfl)
  (repeat (first|(with_reducible refine AWo.cons ?_)|((with_reducible refine Step.id ?_);first|((with_reducible apply Step.move);exact rfl;exact rfl)|((with_reducible apply Step.assign);exact rfl;exact rfl))|(with_reducible first|apply AWo.nil|apply AW.seq|apply Then.n|apply AW.regL)))
  (refine AW.ret ?_; (repeat (first | refine Then.r ?_ | refine InBlk.r ?_)))
  rw [List.append_nil]
  exact ⟨_, rfl, rfl, rfl⟩
def addF (D : Dk) (L : Lg) (p : List UInt8) : Int × Dk × Lg :=
 if rdyF L p ≠ 0 then (rdyF L p, D, L)
 else if (apF D (L.at_ : Nat) (frB p)).1 ≠ 0 then ((apF D (L.at_ : Nat) (frB p)).1, (apF D (L.at_ : Nat) (frB p)).2, metF L (apF D (L.at_ : Nat) (frB p)).1)
 else if (syF (apF D (L.at_ : Nat) (frB p)).2 (L.at_ : Nat)).1 ≠ 0 then ((syF (apF D (L.at_ : Nat) (frB p)).2 (L.at_ : Nat)).1, (syF (apF D (L.at_ : Nat) (frB p)).2 (L.at_ : Nat)).2, metF L (syF (apF D (L.at_ : Nat) (frB p)).2 (L.at_ : Nat)).1)
 else (0, (syF (apF D (L.at_ : Nat) (frB p)).2 (L.at_ : Nat)).2, ⟨⟨L.c.gen, L.c.snap, L.c.recs ++ [p]⟩, L.at_, L.down⟩)
def DLQ (D' : Dk) (L' : Lg) (b0 dk lg : Nat) (u0 u1 : Value) (S : Nat → Prop) (m M : AM) : Prop :=
 ∃ (w0 w1 sv rv : Value) (S' : Nat → Prop), DiskAt M b0 dk D' w0 w1 ∧ LogAt (vw S' M) lg dk L' sv rv ∧ (∀ j, S' j → ¬ dkD dk w0 w1 j) ∧ (∀ j, S' j → S j ∨ m.length ≤ j) ∧ Keep (fun j => dkD dk u0 u1 j ∨ S j) m M ∧ ∀ j, j < m.length → ¬ dkD dk u0 u1 j → ¬ dkD dk w0 w1 j
theorem LogAt.disk {S : Nat → Prop} {m M : AM} {lg dk : Nat} {u0 u1 : Value} {L : Lg} {sv rv : Value} (h : LogAt (vw S m) lg dk L sv rv) (hS : ∀ j, dkD dk u0 u1 j → ¬ S j) (hk : Keep (dkD dk u0 u1) m M) : LogAt (vw (fun j => S j ∧ j < m.length) M) lg dk L sv rv := by
 refine h.msub ⟨by rw [vw_len, vw_len]; exact hk.len, fun j b _ hj => ?_⟩
 obtain ⟨q1, q2⟩ := vw_some.1 hj
 have hl := (List.getElem?_eq_some_iff.1 q2).1
 exact vw_some.2 ⟨⟨q1, hl⟩, by rw [hk.get j hl fun e => hS j e q1]; exact q2⟩
theorem DLQ.of {S : Nat → Prop} {m M : AM} {b0 lg dk : Nat} {u0 u1 : Value} {D' : Dk} {L : Lg} {sv rv : Value} (h : LogAt (vw S m) lg dk L sv rv) (hS : ∀ j, dkD dk u0 u1 j → ¬ S j) (hq : DkQ D' b0 dk u0 u1 m M) : DLQ D' L b0 dk lg u0 u1 S m M := by
 obtain ⟨w0, w1, a1, a2, a3⟩ := hq
 exact ⟨w0, w1, sv, rv, _, a1, h.disk hS a2, fun j hj => a3 j hj.2 fun e => hS j e hj.1, fun j hj => .inl hj.1, a2.mono fun _ e => .inl e, a3⟩
theorem DLQ.met {S : Nat → Prop} {m M : AM} {b0 lg dk : Nat} {u0 u1 : Value} {D' : Dk} {L : Lg} {sv rv : Value} (e : Int) (h : LogAt (vw S m) lg dk L sv rv) (hS : ∀ j, dkD dk u0 u1 j → ¬ S j) (hq : DkQ D' b0 dk u0 u1 m M) :
  LogAt M lg dk L sv rv ∧ DLQ D' (metF L e) b0 dk lg u0 u1 S m (M.set lg (some { cells := lgc (L.c.gen : Nat) sv rv dk (L.at_ : Nat) (metF L e).down })) := by
 obtain ⟨w0, w1, a1, a2, a3⟩ := hq
 have hL := h.disk hS a2
 have hlg := vw_some.1 hL.cells
 have hll := (List.getElem?_eq_some_iff.1 hlg.2).1
 have hnd : ¬ dkD dk w0 w1 lg := a3 lg hlg.1.2 fun e => hS lg e hlg.1.1
 refine ⟨hL.all, w0, w1, sv, rv, fun j => S j ∧ j < m.length, ?_, ⟨vw_some.2 ⟨hlg.1, List.getElem?_set_self hll⟩, ?_, by rw [vw_len, List.length_set]; have := hL.lb; rw [vw_len] at this; exact this, hL.a2⟩, fun j hj => a3 j hj.2 fun e => hS j e hj.1, fun j hj => .inl hj.1, ⟨by rw [List.length_set]; exact a2.len, fun j hj hn => ?_⟩, a3⟩
 ·exact a1.keep fun j b hb hj _ => by rw [List.getElem?_set_ne (fun e => hnd (by rw [e]; exact hj))]; exact hb
 ·refine hL.cont.keep fun j b hb hj _ => ?_
  obtain ⟨q1, q2⟩ := vw_some.1 hb
  exact vw_some.2 ⟨q1, by rw [List.getElem?_set_ne (by omega)]; exact q2⟩
 ·have hne : j ≠ lg := fun e => hn (.inr (by rw [e]; exact hlg.1.1))
  rw [List.getElem?_set_ne (Ne.symm hne), a2.get j hj fun e => hn (.inl e)]
theorem PaysS.push {S : Nat → Prop} {X M1 M3 : AM} {b1 : Nat} {rv rv' u : Value} {pc : List Value} {ps : List (List UInt8)} {p : List UInt8} (hseg : Seg (vw S X) b1 1 rv pc ps.length) (hel : ∀ k, k < ps.length → ∃ u, pc[k]? = some u ∧ Row (vw S X) b1 1 u (by8 (ps.getD k [])) (ps.getD k []).length ∧ ∀ j, ¬ NotOf u j → NotB rv j)
  (h1 : ∃ N, M1 = X ++ N) (hu : Row M1 X.length 1 u (by8 p) p.length) (hb : b1 ≤ X.length) (hr : Row M3 b1 1 rv' (pc ++ [u]) (ps.length + 1)) (hl : M1.length ≤ M3.length) (hk : ∀ j, j < M1.length → NotB rv j → M3[j]? = M1[j]?) (hn : ∀ j, j < M1.length → NotOf rv' j) :
  PaysS (vw (fun j => S j ∧ j < X.length ∨ X.length ≤ j) M3) b1 rv' (ps ++ [p]) := by
 obtain ⟨N, rfl⟩ := h1
 have hpcl := hseg.len
 rw [Nat.mul_one] at hpcl
 have hrvX : ∀ j, ¬ NotB rv j → j < X.length := fun j hj => by
  obtain ⟨_, b, hb, _⟩ := hseg.at_ hj
  have := (List.getElem?_eq_some_iff.1 hb).1
  rwa [vw_len] at this
 have hN : ∀ j, j < (X ++ N).length → NotB rv' j := fun j hj => NotB.row hr (hn j hj)
 have hfar : ∀ j, ¬ NotOf u j → NotB rv j := fun j hj => Classical.byContradiction fun hc => by
  have := hu.ge_of hj
  have := hrvX j hc
  omega
 refine ⟨pc ++ [u], ?_, fun k hlt => ?_⟩
 ·rw [List.length_append]
  refine Row.seg (Row.vw2 hr fun a ha => ?_)
  rcases Nat.lt_or_ge a (X ++ N).length with h | h
  ·exact absurd (hn a h) ha
  ·exact .inr (by rw [List.length_append] at h; omega)
 ·rw [List.length_append, List.length_singleton] at hlt
  by_cases e : k < ps.length
  ·obtain ⟨x, q1, q2, q3⟩ := hel k e
   have eg : (ps ++ [p]).getD k [] = ps.getD k [] := by simp only [List.getD_eq_getElem?_getD]; rw [List.getElem?_append_left e]
   rw [eg]
   refine ⟨x, by rw [List.getElem?_append_left (by omega)]; exact q1, ?_, fun j hj => hN j ?_⟩
   ·rcases q2 with q2 | ⟨a, kd, sz, w1, w2, w3, w4, w5⟩
    ·exact .inl q2
    ·obtain ⟨z1, z2⟩ := vw_some.1 w3
     have hal := (List.getElem?_eq_some_iff.1 z2).1
     refine .inr ⟨a, kd, sz, w1, w2, vw_some.2 ⟨.inl ⟨z1, hal⟩, ?_⟩, w4, w5⟩
     rw [hk a (by rw [List.length_append]; omega) (q3 a fun hn => hn _ _ w2), List.getElem?_append_left hal]
     exact z2
   ·have := q2.lt_of hj
    rw [vw_len] at this
    rw [List.length_append]; omega
  ·obtain rfl : k = ps.length := by omega
   have eg : (ps ++ [p]).getD ps.length [] = p := by simp
   rw [eg]
   refine ⟨u, by rw [← hpcl, List.getElem?_append_right (Nat.le_refl _), Nat.sub_self]; rfl, ?_, fun j hj => hN j (hu.lt_of hj)⟩
   refine Row.vw2 ((hu.low hb).keep fun j hj hnj => hk j hj (hfar j hnj)) fun a ha => .inr (hu.ge_of ha)
set_option maxHeartbeats 16000000 in
set_option maxRecDepth 100000 in
theorem Add_ok {m : AM} {S : Nat → Prop} {b0 dk lg : Nat} {D : Dk} {u0 u1 sv rv w : Value} {L : Lg} {p : List UInt8} (hD : DiskAt m b0 dk D u0 u1) (hb0 : b0 ≤ m.length) (hL : LogAt (vw S m) lg dk L sv rv) (hS : ∀ j, dkD dk u0 u1 j → ¬ S j) (hw : ∀ M, Keep (fun j => dkD dk u0 u1 j ∨ S j) m M → Byts M w p) (hlen : p.length ≤ 1000000) (hcnt : L.c.recs.length ≤ 1000000) :
  ACall Try.prog 51 #[.pointer (some ⟨lg, 0, none⟩), w] m (fun r M => r = .int .i64 (addF D L p).1 ∧ DLQ (addF D L p).2.1 (addF D L p).2.2 b0 dk lg u0 u1 S m M) := by
 have hL0 := hL.all
 have hll := hL0.lt
 have hdl := hD.lt
 have hrd := fun T => ready_ok (hL0.old T) ((hw m (Keep.refl _ _)).old T)
 refine ACall.start Try.func51 rfl rfl ?_
 unfold addF
 by_cases z0 : rdyF L p = 0
 ·rw [if_neg (fun e => e z0)]
  rw [z0] at hrd
  have hpl : p.length ≤ 65536 := by
   unfold rdyF at z0
   split at z0
   ·cases z0
   ·split at z0
    ·cases z0
    ·omega
  have r3 := fun (N : AM) T => (hL0.old N).rd T (0 + 3) _ rfl
  have r4 := fun (N : AM) T => (hL0.old N).rd T (0 + 4) _ rfl
  (repeat (first|(with_reducible refine AWo.cons ?_)|((with_reducible refine Step.id ?_);first|((with_reducible apply Step.move);exact rfl;exact rfl)|((with_reducible apply Step.assign);exact rfl;exact rfl)|((with_reducible apply Step.neq);exact rfl;exact rfl;exact rfl)|((with_reducible apply Step.callR fit);exact rfl;exact Try.func119;exact rfl;exact rfl;exact (hrd _)))|(with_reducible apply AWo.nil)|((fail_if_success (with_reducible refine AW.atR (id := 4) ?_));(with_reducible apply AW.seq))|(with_reducible first|apply Then.n|apply AW.regL|apply AW.skip)|((with_reducible apply AW.condF);exact rfl;((rfl)))))
  refine AW.seq ?_
  refine AW.join (fun t' M' => DkQ (apF D (L.at_ : Nat) (frB p)).2 b0 dk u0 u1 m M' ∧ All (fun i v => t' i = some v) [(0, .pointer (some ⟨lg, 0, none⟩)), (1, w), (6, .int .i64 (apF D (L.at_ : Nat) (frB p)).1)]) ?_ ?_
  ·have q3 := r3 []
   have q4 := r4 []
   rw [List.append_nil] at q3 q4
   (repeat' (first|((with_reducible refine Step.id ?_);first|((with_reducible apply Step.move);exact rfl;exact rfl)|((with_reducible apply Step.load);exact rfl;((decide +kernel));exact rfl;((first|exact q3 _|exact q4 _)))|((with_reducible apply Step.field (k := 3));exact rfl;((decide +kernel));exact rfl)|((with_reducible apply Step.field (k := 4));exact rfl;((decide +kernel));exact rfl)|((with_reducible apply Step.nilp);exact rfl;exact rfl))|((with_reducible apply AW.drawT fit (T := (.step 0 (.step 1 (.step 2 (.step 4 (.step 5 (.step 6 (.step 8 (.both (.step 3 (.both (.step 7 (.step 9 (.step 10 (.step 11 .done)))) (.step 9 (.step 7 (.step 10 (.step 11 .done)))))) (.both (.step 7 (.both (.step 3 (.step 9 (.step 10 (.step 11 .done)))) (.step 9 (.step 3 (.step 10 (.step 11 .done)))))) (.step 9 (.step 3 (.step 7 (.step 10 (.step 11 .done))))))))))))))));((decide +kernel)))|((with_reducible apply AWt.step);exact rfl)|refine AWt.both ?_ ?_))
   all_goals
    ((with_reducible apply Step.callF fit);exact rfl;exact Try.func70;exact rfl;exact rfl;((rw [List.append_nil];exact frame_ok (b0 := m.length) (b := []) (p := p) Row.nil (Nat.le_refl _) (fun M r h => hw M ⟨h.1, fun j hj _ => h.2.1 j hj NotOf.nil⟩) (by simp;omega))))
    rintro r1 M1 ⟨hr1, ha1⟩
    rw [List.nil_append] at hr1
    obtain ⟨N1, hN1⟩ := Add.grow (M1 := m) ⟨[], by simp⟩ (Row.nil (s := 1)) ha1
    have q31 := r3 N1
    have q41 := r4 N1
    rw [← hN1] at q31 q41
    have hD1 : DiskAt M1 b0 dk D u0 u1 := by rw [hN1]; exact hD.old _
    rw [← List.append_nil M1]
    (repeat' (first|((with_reducible refine Step.id ?_);((with_reducible apply Step.load);exact rfl;((decide +kernel));exact rfl;((first|exact q31 _|exact q41 _))))|((with_reducible apply AWt.step);exact rfl)))
    all_goals
     ((with_reducible apply Step.callF fit);exact rfl;exact Try.func48;exact rfl;exact rfl;((rw [List.append_nil];exact DAppend_ok (p := frB p) (L.at_ : Nat) hD1 (by rw [hN1, List.length_append];omega) (fun M' hk => (Row.keep hr1 fun j hj hn => hk.get j hj (fun e => by have := hr1.ge_of hn;omega)).byts (by have := hk.len;have := ha1.1;omega)) (by rw [frB_len];omega))))
     rintro r7 M7 ⟨rfl, hQ7⟩
     rw [← List.append_nil M7]
     (repeat' (first|((with_reducible refine Step.id ?_);((with_reducible apply Step.assign);exact rfl;exact rfl))|(with_reducible apply Then.n)|((with_reducible apply AWt.step);exact rfl)|(with_reducible apply AWt.done)))
     exact ⟨by rw [List.append_nil]; exact DkQ.after (by rw [hN1]; exact Keep.app _ _ _) hQ7, (by repeat (first | exact trivial | (refine And.intro rfl ?_)))⟩
  ·rintro t' M1 ⟨hQ1, hsl⟩
   refine AW.weak (fr_all hsl) ?_
   clear hsl
   by_cases z1 : (apF D (L.at_ : Nat) (frB p)).1 = 0
   ·rw [if_neg (fun e => e z1), z1]
    have hL1 := hL.disk hS (by obtain ⟨_, _, _, k, _⟩ := hQ1; exact k)
    obtain ⟨w0, w1, hD1, hk1, hf1⟩ := hQ1
    have q3 := fun T => hL1.all.rd T (0 + 3) _ rfl
    have q4 := fun T => hL1.all.rd T (0 + 4) _ rfl
    rw [← List.append_nil M1]
    (repeat (first|(with_reducible refine AWo.cons ?_)|((with_reducible refine Step.id ?_);first|((with_reducible apply Step.move);exact rfl;exact rfl)|((with_reducible apply Step.load);exact rfl;((decide +kernel));exact rfl;((first|exact q3 _|exact q4 _)))|((with_reducible apply Step.field (k := 3));exact rfl;((decide +kernel));exact rfl)|((with_reducible apply Step.field (k := 4));exact rfl;((decide +kernel));exact rfl)|((with_reducible apply Step.neq);exact rfl;exact rfl;exact rfl)|((with_reducible apply Step.nilp);exact rfl;exact rfl))|(with_reducible first|apply AWo.nil|apply AW.seq|apply Then.n|apply AW.regL)|((with_reducible apply AW.drawL fit);((decide +kernel)))|(with_reducible apply AW.skip)|((with_reducible apply AW.condF);exact rfl;((rfl)))))
    ((with_reducible apply Step.callF fit);exact rfl;exact Try.func66;exact rfl;exact rfl;((rw [List.append_nil];exact DSync_ok (L.at_ : Nat) hD1)))
    rintro r2 M2 ⟨rfl, hQ2⟩
    have hQ2 := DkQ.next hk1 hf1 hQ2
    by_cases z2 : (syF (apF D (L.at_ : Nat) (frB p)).2 (L.at_ : Nat)).1 = 0
    ·rw [if_neg (fun e => e z2), z2]
     obtain ⟨x0, x1, hD2, hk2, hf2⟩ := hQ2
     have hL2 := hL.disk hS hk2
     obtain ⟨X, hX⟩ : ∃ X, X = M2 := ⟨_, rfl⟩
     subst hX
     have hml := hk2.len
     have hLa := hL2.all
     have hlg := vw_some.1 hL2.cells
     have hlX := (List.getElem?_eq_some_iff.1 hlg.2).1
     have hwX : Byts X w p := hw X (hk2.mono fun _ e => .inl e)
     have hcl := clone_ok hwX (by omega)
     have q2 := fun (N : AM) T => (hLa.old N).rd T (0 + 2) _ rfl
     have q20 := q2 []
     rw [List.append_nil] at q20
     obtain ⟨pc, hseg, hel⟩ := hL2.cont.recs
     have hsegX := hseg.msub (Sub.vw _ X).m
     rw [← List.append_nil X]
     (repeat' (first|(with_reducible refine AWo.cons ?_)|((with_reducible refine Step.id ?_);first|((with_reducible apply Step.move);exact rfl;exact rfl)|((with_reducible apply Step.assign);exact rfl;exact rfl)|((with_reducible apply Step.load);exact rfl;((decide +kernel));exact rfl;((exact q20 _)))|((with_reducible apply Step.field0);exact rfl;((decide +kernel));exact rfl)|((with_reducible apply Step.field (k := 2));exact rfl;((decide +kernel));exact rfl)|((with_reducible apply Step.neq);exact rfl;exact rfl;exact rfl)|((with_reducible apply Step.nilp);exact rfl;exact rfl))|(with_reducible first|apply AWo.nil|apply AW.seq|apply Then.n|apply AW.regL)|((with_reducible apply AW.drawT fit (T := (.step 0 (.step 1 (.step 2 (.step 3 (.step 4 (.step 6 (.both (.step 5 (.step 7 (.step 8 (.step 9 (.step 10 (.step 11 (.step 12 (.step 13 .done)))))))) (.step 7 (.both (.step 5 (.step 8 (.step 9 (.step 10 (.step 11 (.step 12 (.step 13 .done))))))) (.step 8 (.step 5 (.step 9 (.step 10 (.step 11 (.step 12 (.step 13 .done))))))))))))))))));((decide +kernel)))|((with_reducible apply AWt.step);exact rfl)|(with_reducible apply AW.skip)|((with_reducible apply AW.condF);exact rfl;((rfl)))|refine AWt.both ?_ ?_))
     all_goals
      ((with_reducible apply Step.callX fit);exact rfl;exact Try.func73;exact rfl;exact rfl;((rw [List.append_nil];exact hcl)))
      rintro u M3 ⟨N3, hN3⟩ hu
      rw [List.append_nil] at hN3
      have hus : SlV u := hu.slv
      have q23 := q2 N3
      rw [← hN3] at q23
      (repeat' (first|((with_reducible refine Step.id ?_);first|((with_reducible apply Step.load);exact rfl;((decide +kernel));exact rfl;((exact q23 _)))|((with_reducible apply Step.buildS 0);exact rfl;exact rfl;exact (fun _ _ => bs27);exact rfl;((first|(simp only [zq7, zq8, zq9, zq0, iv_set, bv_set, iv_rep, bv_rep] <;> rfl)|rfl))))|((with_reducible apply AWt.step);exact rfl)|refine AWt.both ?_ ?_))
      all_goals
       ((with_reducible apply Step.appSeg (s := 1) (n := L.c.recs.length) (xl := 1) (b0 := lg + 1) (c := pc) (new := [u]));exact rfl;exact rfl;((rw [hN3];exact (hsegX.old N3).old _));exact (Sl.mk (Nat.le_refl _));exact (fun _ => RdL.new rfl rfl);exact el27;exact un27;exact rfl;((omega));((rw [List.all_cons, hus.one.1];rfl));exact rfl;((omega));exact rfl;((rw [hN3];simp only [List.length_append];omega)))
       intro rv2 M4 hr4 hml4 hk4 hn4
       have hus4 := hr4.slv.one
       have hlg3 : (M3 ++ [some { cells := [u] }])[lg]? = some (some { cells := lgc (L.c.gen : Nat) sv rv dk (L.at_ : Nat) L.down }) := by rw [hN3]; exact get_old _ (get_old _ hlg.2)
       have hnrv : NotB rv lg := Classical.byContradiction fun hc => by have := (hsegX.at_ hc).1; omega
       have hlg4 : M4[lg]? = some (some { cells := lgc (L.c.gen : Nat) sv rv dk (L.at_ : Nat) L.down }) := by rw [hk4 lg (by rw [hN3]; simp only [List.length_append]; omega) hnrv]; exact hlg3
       rw [← List.append_nil M4]
       (repeat' (first|((with_reducible refine Step.id ?_);first|((with_reducible apply Step.field0);exact rfl;((decide +kernel));exact rfl)|((with_reducible apply Step.field (k := 2));exact rfl;((decide +kernel));exact rfl)|((with_reducible apply Step.nilp);exact rfl;exact rfl))|((with_reducible apply AWt.step);exact rfl)))
       ((with_reducible apply Step.storeAt);exact rfl;exact rfl;exact (get_old [] hlg4);((decide +kernel));exact rfl;((show 0 + 2 < 6;omega));exact hus4.2;exact hus4.1)
       (repeat' (first|(with_reducible refine AWo.cons ?_)|((with_reducible refine Step.id ?_);((with_reducible apply Step.assign);exact rfl;exact rfl))|(with_reducible first|apply AWo.nil|apply AW.seq|apply Then.n|apply AW.regL|apply AWt.done)))
       (refine AW.ret ?_; (repeat (first | refine Then.r ?_ | refine InBlk.r ?_)))
       rw [List.append_nil]
       refine ⟨_, rfl, rfl, ?_⟩
       have hM3l : M3.length = X.length + N3.length := by rw [hN3, List.length_append]
       rw [List.length_append] at hml4
       have hkX : ∀ j, j < X.length → NotB rv j → M4[j]? = X[j]? := fun j hj hn => by rw [hk4 j (by rw [List.length_append]; omega) hn, hN3, List.append_assoc, List.getElem?_append_left hj]
       have hps := PaysS.push (p := p) hseg hel ⟨N3 ++ [some { cells := [u] }], by rw [hN3, List.append_assoc]⟩ (hu.old [some { cells := [u] }]) (by omega) hr4 (by rw [List.length_append]; exact hml4) hk4 hn4
       have hlgn : ∀ j, j ≠ lg → (M4.set lg (some { cells := (lgc (L.c.gen : Nat) sv rv dk (L.at_ : Nat) L.down).set (0 + 2) rv2 }))[j]? = M4[j]? := fun j hj => List.getElem?_set_ne (Ne.symm hj)
       have hdX : ∀ j, dkD dk x0 x1 j → j < X.length ∧ ¬ (S j ∧ j < m.length) := fun j hj => by
        obtain ⟨_, b, hb, _⟩ := hD2.at_ hj
        refine ⟨(List.getElem?_eq_some_iff.1 hb).1, fun e => ?_⟩
        exact hf2 j e.2 (fun e2 => hS j e2 e.1) hj
       have hrvS : ∀ j, ¬ NotB rv j → S j ∧ j < m.length := fun j hj => by
        obtain ⟨_, b, hb, _⟩ := hseg.at_ hj
        exact (vw_some.1 hb).1
       refine ⟨x0, x1, sv, rv2, fun j => (S j ∧ j < m.length) ∧ j < X.length ∨ X.length ≤ j, ?_, ⟨vw_some.2 ⟨.inl ⟨hlg.1, hlX⟩, List.getElem?_set_self (by omega)⟩, ⟨?_, ?_, ?_⟩, ?_, hL2.a2⟩, ?_, ?_, ?_, hf2⟩
       ·refine hD2.keep fun j b hb hj _ => ?_
        obtain ⟨d1, d2⟩ := hdX j hj
        rw [hlgn j (fun e => d2 (by rw [e]; exact hlg.1)), hkX j d1 (Classical.byContradiction fun e => d2 (hrvS j e))]
        exact hb
       ·have hsn := hL2.cont.snap
        rcases hsn with hsn | ⟨a, kd, sz, y1, y2, y3, y4, y5⟩
        ·exact .inl hsn
        ·obtain ⟨z3, z4⟩ := vw_some.1 y3
         have hal := (List.getElem?_eq_some_iff.1 z4).1
         refine .inr ⟨a, kd, sz, y1, y2, vw_some.2 ⟨.inl ⟨z3, hal⟩, ?_⟩, y4, y5⟩
         rw [hlgn a (by omega), hkX a hal (hL2.cont.sep a fun hn => hn _ _ y2)]
         exact z4
       ·refine hps.keep fun j b hb hj _ => ?_
        obtain ⟨z3, z4⟩ := vw_some.1 hb
        exact vw_some.2 ⟨z3, by rw [hlgn j (by omega)]; exact z4⟩
       ·intro j hj
        have hjl := hL2.cont.snap.lt_of hj
        rw [vw_len] at hjl
        exact NotB.row hr4 (hn4 j (by rw [List.length_append]; omega))
       ·rw [vw_len, List.length_set]
        have := hL2.lb
        rw [vw_len] at this
        omega
       ·rintro j (hj | hj) hd
        ·exact (hdX j hd).2 hj.1
        ·have := (hdX j hd).1; omega
       ·rintro j (hj | hj)
        ·exact .inl hj.1.1
        ·exact .inr (by omega)
       ·refine ⟨by rw [List.length_set]; omega, fun j hj hn => ?_⟩
        rw [hlgn j (fun e => hn (.inr (by rw [e]; exact hlg.1.1))), hkX j (by omega) (Classical.byContradiction fun e => hn (.inr (hrvS j e).1)), hk2.get j hj fun e => hn (.inl e)]
    ·rw [if_pos z2]
     obtain ⟨hL2, hF⟩ := DLQ.met (syF (apF D (L.at_ : Nat) (frB p)).2 (L.at_ : Nat)).1 hL hS hQ2
     generalize (syF (apF D (L.at_ : Nat) (frB p)).2 (L.at_ : Nat)).1 = e at *
     rw [← List.append_nil M2]
     (repeat (first|(with_reducible refine AWo.cons ?_)|((with_reducible refine Step.id ?_);first|((with_reducible apply Step.move);exact rfl;exact rfl)|((with_reducible apply Step.assign);exact rfl;exact rfl)|((with_reducible apply Step.neq);exact rfl;exact rfl;exact rfl))|(with_reducible first|apply AWo.nil|apply AW.seq|apply Then.n|apply AW.regL)|((with_reducible apply AW.condT);exact rfl;(((simp only [zq1, zq2, zq3, zq4, zq5, zq6];first|assumption|omega))))))
     ((with_reducible apply Step.callF fit);exact rfl;exact Try.func120;exact rfl;exact rfl;((rw [List.append_nil];exact met_ok e hL2)))
     rintro r3 M3 ⟨rfl, rfl⟩
     rw [← List.append_nil (M2.set _ _)]
     (repeat (first|(with_reducible refine AWo.cons ?_)|((with_reducible refine Step.id ?_);((with_reducible apply Step.assign);exact rfl;exact rfl))|(with_reducible first|apply AWo.nil|apply Then.n)))
     (refine AW.ret ?_; (repeat (first | refine Then.r ?_ | refine InBlk.r ?_)))
     rw [List.append_nil]
     exact ⟨_, rfl, rfl, hF⟩
   ·rw [if_pos z1]
    obtain ⟨hL1, hF⟩ := DLQ.met (apF D (L.at_ : Nat) (frB p)).1 hL hS hQ1
    generalize (apF D (L.at_ : Nat) (frB p)).1 = e at *
    rw [← List.append_nil M1]
    (repeat (first|(with_reducible refine AWo.cons ?_)|((with_reducible refine Step.id ?_);first|((with_reducible apply Step.move);exact rfl;exact rfl)|((with_reducible apply Step.neq);exact rfl;exact rfl;exact rfl))|(with_reducible first|apply AWo.nil|apply AW.seq|apply Then.n|apply AW.regL)|((with_reducible apply AW.condT);exact rfl;(((simp only [zq1, zq2, zq3, zq4, zq5, zq6];first|assumption|omega))))))
    ((with_reducible apply Step.callF fit);exact rfl;exact Try.func120;exact rfl;exact rfl;((rw [List.append_nil];exact met_ok e hL1)))
    rintro r2 M2 ⟨rfl, rfl⟩
    rw [← List.append_nil (M1.set _ _)]
    (repeat (first|(with_reducible refine AWo.cons ?_)|((with_reducible refine Step.id ?_);((with_reducible apply Step.assign);exact rfl;exact rfl))|(with_reducible first|apply AWo.nil|apply Then.n)))
    (refine AW.ret ?_; (repeat (first | refine Then.r ?_ | refine InBlk.r ?_)))
    rw [List.append_nil]
    exact ⟨_, rfl, rfl, hF⟩
 ·rw [if_pos z0]
  generalize rdyF L p = e at *
  (repeat (first|(with_reducible refine AWo.cons ?_)|((with_reducible refine Step.id ?_);first|((with_reducible apply Step.move);exact rfl;exact rfl)|((with_reducible apply Step.assign);exact rfl;exact rfl)|((with_reducible apply Step.neq);exact rfl;exact rfl;exact rfl)|((with_reducible apply Step.callR fit);exact rfl;exact Try.func119;exact rfl;exact rfl;exact (hrd _)))|(with_reducible first|apply AWo.nil|apply AW.seq|apply Then.n|apply AW.regL)|((with_reducible apply AW.condT);exact rfl;(((simp only [zq1, zq2, zq3, zq4, zq5, zq6];first|assumption|omega))))))
  (refine AW.ret ?_; (repeat (first | refine Then.r ?_ | refine InBlk.r ?_)))
  rw [List.append_nil]
  exact ⟨_, rfl, rfl, DLQ.of hL hS (by have := DkQ.refl hD []; rwa [List.append_nil] at this)⟩
def rwF (D : Dk) (L : Lg) (p : List UInt8) : Int × Dk × Lg :=
 if rdyF L p ≠ 0 then (rdyF L p, D, L)
 else if L.c.gen = 4611686018427387904 then (5, D, L)
 else if (wrF D ((1 - L.at_ : Nat) : Int) ⟨L.c.gen + 1, p, []⟩).1 ≠ 0 then ((wrF D ((1 - L.at_ : Nat) : Int) ⟨L.c.gen + 1, p, []⟩).1, (wrF D ((1 - L.at_ : Nat) : Int) ⟨L.c.gen + 1, p, []⟩).2, metF L (wrF D ((1 - L.at_ : Nat) : Int) ⟨L.c.gen + 1, p, []⟩).1)
 else (0, (wrF D ((1 - L.at_ : Nat) : Int) ⟨L.c.gen + 1, p, []⟩).2, ⟨⟨L.c.gen + 1, p, []⟩, 1 - L.at_, L.down⟩)
theorem bl124r {g : Int} {u : Value} (hu : SlV u) : abuild Try.prog 124 [(0, .int .i64 g), (1, u)] = some (.agg #[.int .i64 g, u, .slice none 0 0]) := by
 rcases hu with rfl | ⟨q, n, c, rfl⟩ <;> kernel_rfl
set_option maxHeartbeats 16000000 in
set_option maxRecDepth 100000 in
theorem Rewrite_ok {m : AM} {S : Nat → Prop} {b0 dk lg : Nat} {D : Dk} {u0 u1 sv rv w : Value} {L : Lg} {p : List UInt8} (hD : DiskAt m b0 dk D u0 u1) (hb0 : b0 ≤ m.length) (hL : LogAt (vw S m) lg dk L sv rv) (hS : ∀ j, dkD dk u0 u1 j → ¬ S j) (hw : Byts m w p) (hlen : p.length ≤ 1000000) (hg : L.c.gen ≤ 4611686018427387904) :
  ACall Try.prog 60 #[.pointer (some ⟨lg, 0, none⟩), w] m (fun r M => r = .int .i64 (rwF D L p).1 ∧ DLQ (rwF D L p).2.1 (rwF D L p).2.2 b0 dk lg u0 u1 S m M) := by
 have hL0 := hL.all
 have hll := hL0.lt
 have hdl := hD.lt
 have hrd := fun T => ready_ok (hL0.old T) (hw.old T)
 have hlg0 := vw_some.1 hL.cells
 have hnb : ∀ j, dkD dk u0 u1 j → j < m.length := fun j hj => by
  obtain ⟨_, b, hb, _⟩ := hD.at_ hj
  exact (List.getElem?_eq_some_iff.1 hb).1
 refine ACall.start Try.func60 rfl rfl ?_
 unfold rwF
 by_cases z0 : rdyF L p = 0
 ·rw [if_neg (fun e => e z0)]
  rw [z0] at hrd
  have hpl : p.length ≤ 65536 := by
   unfold rdyF at z0
   split at z0
   ·cases z0
   ·split at z0
    ·cases z0
    ·omega
  have r0 := fun (N : AM) T => (hL0.old N).rd T 0 _ rfl
  have r00 := r0 []
  rw [List.append_nil] at r00
  by_cases zg : L.c.gen = 4611686018427387904
  ·rw [if_pos zg]
   (repeat (first|(with_reducible refine AWo.cons ?_)|((with_reducible refine Step.id ?_);first|((with_reducible apply Step.move);exact rfl;exact rfl)|((with_reducible apply Step.assign);exact rfl;exact rfl)|((with_reducible apply Step.load);exact rfl;((decide +kernel));exact rfl;((exact r00 _)))|((with_reducible apply Step.field0);exact rfl;((decide +kernel));exact rfl)|((with_reducible apply Step.eql);exact rfl;exact rfl;exact rfl)|((with_reducible apply Step.neq);exact rfl;exact rfl;exact rfl)|((with_reducible apply Step.nilp);exact rfl;exact rfl)|((with_reducible apply Step.callR fit);exact rfl;exact Try.func119;exact rfl;exact rfl;exact (hrd _)))|(with_reducible first|apply AWo.nil|apply AW.seq|apply Then.n|apply AW.regL|apply AW.skip)|((with_reducible apply AW.condT);exact rfl;(((simp only [zq1, zq2, zq3, zq4, zq5, zq6];first|assumption|omega))))|((with_reducible apply AW.condF);exact rfl;((rfl)))))
   (refine AW.ret ?_; (repeat (first | refine Then.r ?_ | refine InBlk.r ?_)))
   rw [List.append_nil]
   exact ⟨_, rfl, rfl, DLQ.of hL hS (by have := DkQ.refl hD []; rwa [List.append_nil] at this)⟩
  ·rw [if_neg zg]
   (repeat (first|(with_reducible refine AWo.cons ?_)|((with_reducible refine Step.id ?_);first|((with_reducible apply Step.move);exact rfl;exact rfl)|((with_reducible apply Step.assign);exact rfl;exact rfl)|((with_reducible apply Step.load);exact rfl;((decide +kernel));exact rfl;((exact r00 _)))|((with_reducible apply Step.field0);exact rfl;((decide +kernel));exact rfl)|((with_reducible apply Step.eql);exact rfl;exact rfl;exact rfl)|((with_reducible apply Step.neq);exact rfl;exact rfl;exact rfl)|((with_reducible apply Step.nilp);exact rfl;exact rfl)|((with_reducible apply Step.callR fit);exact rfl;exact Try.func119;exact rfl;exact rfl;exact (hrd _)))|(with_reducible apply AWo.nil)|((fail_if_success (with_reducible refine AW.atR (id := 6) ?_));(with_reducible apply AW.seq))|(with_reducible first|apply Then.n|apply AW.regL|apply AW.skip)|((with_reducible apply AW.condF);exact rfl;((first|rfl|(simp only [zq1, zq2, zq3, zq4, zq5, zq6];first|assumption|omega))))))
   refine AW.seq ?_
   refine AW.join (fun t' M' => ∃ u bk, (∃ N, M' = m ++ N) ∧ m.length ≤ bk ∧ M'[bk]? = some (some { cells := [.int .i64 ((L.c.gen + 1 : Nat) : Int), u, .slice none 0 0] }) ∧ Row M' m.length 1 u (by8 p) p.length ∧ All (fun i v => t' i = some v) [(0, .pointer (some ⟨lg, 0, none⟩)), (6, .pointer (some ⟨bk, 0, none⟩))]) ?_ ?_
   ·(repeat' (first|((with_reducible refine Step.id ?_);first|((with_reducible apply Step.move);exact rfl;exact rfl)|((with_reducible apply Step.load);exact rfl;((decide +kernel));exact rfl;((exact r00 _)))|((with_reducible apply Step.field0);exact rfl;((decide +kernel));exact rfl)|((with_reducible apply Step.add);exact rfl;exact rfl;((omega));exact rfl)|((with_reducible apply Step.nilp);exact rfl;exact rfl)|((with_reducible apply Step.alloc 0);exact rfl;exact ze124;exact rfl;((first|(simp only [zq7, zq8, zq9, zq0, iv_set, bv_set, iv_rep, bv_rep] <;> rfl)|rfl))))|((with_reducible apply AW.drawT fit (T := (.step 0 (.step 1 (.step 2 (.step 3 (.step 6 (.both (.step 4 (.step 5 (.both (.step 7 (.step 8 (.step 9 (.step 10 .done)))) (.step 9 (.step 7 (.step 8 (.step 10 .done))))))) (.both (.step 7 (.both (.step 4 (.step 5 (.step 8 (.step 9 (.step 10 .done))))) (.step 9 (.step 4 (.step 5 (.step 8 (.step 10 .done))))))) (.step 9 (.both (.step 4 (.step 5 (.step 7 (.step 8 (.step 10 .done))))) (.step 7 (.step 4 (.step 5 (.step 8 (.step 10 .done))))))))))))))));((decide +kernel)))|((with_reducible apply AWt.step);exact rfl)|refine AWt.both ?_ ?_))
    all_goals
     ((with_reducible apply Step.callX fit);exact rfl;exact Try.func73;exact rfl;exact rfl;((first|exact clone_ok (hw.old _) (by omega)|(rw [List.append_nil];exact clone_ok hw (by omega)))))
     rintro u M1 ⟨N1, hN1⟩ hu
     have hus : SlV u := hu.slv
     have hbl := bl124r (g := (L.c.gen : Int) + 1) hus
     have hw1 : (Value.agg #[.int .i64 ((L.c.gen : Int) + 1), u, .slice none 0 0]).cells.all (·.oneCell') = true := SlV.agg3 hus (.inl rfl)
     have r0M : ∀ T, Rd (M1 ++ T) lg 0 (.int .i64 (L.c.gen : Nat)) := fun T => by rw [hN1]; exact ((hL0.old _).old N1).rd T 0 _ rfl
     (repeat' (first|((with_reducible refine Step.id ?_);first|((with_reducible apply Step.load);exact rfl;((decide +kernel));exact rfl;((exact r0M _)))|((with_reducible apply Step.add);exact rfl;exact rfl;((omega));exact rfl)|((with_reducible apply Step.alloc 0);exact rfl;exact ze124;exact rfl;((first|(simp only [zq7, zq8, zq9, zq0, iv_set, bv_set, iv_rep, bv_rep] <;> rfl)|rfl))))|((with_reducible apply AWt.step);exact rfl)|refine AWt.both ?_ ?_))
    all_goals
     ((with_reducible apply Step.build);exact rfl;exact hbl;exact rfl)
     (repeat' (first|((with_reducible refine Step.id ?_);first|((with_reducible apply Step.alloc 0);exact rfl;exact ze124;exact rfl;((first|(simp only [zq7, zq8, zq9, zq0, iv_set, bv_set, iv_rep, bv_rep] <;> rfl)|rfl)))|((with_reducible apply Step.storeA (k := 0) (n := 3));exact rfl;exact rfl;exact rfl;exact rfl;((decide +kernel));exact rfl;((first|assumption|exact hw1));exact rfl;((first|(simp only [zq7, zq8, zq9, zq0, iv_set, bv_set, iv_rep, bv_rep] <;> rfl)|rfl))))|(with_reducible apply Then.n)|((with_reducible apply AWt.step);exact rfl)|(with_reducible apply AWt.done)))
     first
     | exact ⟨u, M1.length + 0, ⟨N1 ++ [some { cells := [.int .i64 ((L.c.gen : Int) + 1), u, .slice none 0 0] }], by rw [hN1, List.append_nil, List.append_assoc]; rfl⟩, by rw [hN1]; simp, by rw [get_app]; rfl, (hu.low (by simp)).old _, (by repeat (first | exact trivial | (refine And.intro rfl ?_)))⟩
     | skip
    all_goals
     have hzb : M1[m.length + 0]? = some (some { cells := [.int .i64 0, .slice none 0 0, .slice none 0 0] }) := by rw [hN1, List.append_assoc, get_app]; rfl
     ((with_reducible apply Step.storeL (n := 3) (v := [.int .i64 ((L.c.gen : Int) + 1), u, .slice none 0 0]));exact rfl;exact rfl;exact (get_old [] hzb);exact rfl;exact sz124;exact rfl;exact (SlV.all3 hus (.inl rfl));((show 0 + 3 ≤ 3;omega)))
     rw [List.append_nil]
     have hzl := (List.getElem?_eq_some_iff.1 hzb).1
     obtain ⟨N9, hN9⟩ := set_high (m0 := m) (N := [some { cells := [.int .i64 0, .slice none 0 0, .slice none 0 0] }] ++ N1) (a := m.length + 0) (by omega) (some { cells := [.int .i64 ((L.c.gen : Int) + 1), u, .slice none 0 0] })
     rw [← List.append_assoc, ← hN1] at hN9
     have hu9 : Row (M1.set (m.length + 0) (some { cells := [.int .i64 ((L.c.gen : Int) + 1), u, .slice none 0 0] })) m.length 1 u (by8 p) p.length := (Row.keep hu fun j hj hn => List.getElem?_set_ne (by have := hu.ge_of hn; simp at this; omega)).low (by simp)
     rw [← List.append_nil (M1.set _ _)]
     (repeat' (first|(with_reducible first|apply Then.n|apply AWt.done)))
     rw [List.append_nil]
     exact ⟨u, m.length + 0, ⟨N9, hN9⟩, by omega, List.getElem?_set_self hzl, hu9, (by repeat (first | exact trivial | (refine And.intro rfl ?_)))⟩
   ·rintro t' M' ⟨u, bk, ⟨N, hX⟩, hbk, hcb, hu, hsl⟩
    refine AW.weak (fr_all hsl) ?_
    clear hsl
    have ha2 := hL.a2
    have hd : (1 : Int) - (L.at_ : Nat) = ((1 - L.at_ : Nat) : Int) := by omega
    have hus : SlV u := hu.slv
    have hXl : M'.length = m.length + N.length := by rw [hX, List.length_append]
    have hDX : DiskAt M' b0 dk D u0 u1 := by rw [hX]; exact hD.old _
    have hbl := (List.getElem?_eq_some_iff.1 hcb).1
    have hct : ContAt M' m.length u (.slice none 0 0) ⟨L.c.gen + 1, p, []⟩ := ⟨hu, PaysS.nil, fun _ _ => NotB.nil⟩
    have hencl : (encB ⟨L.c.gen + 1, p, []⟩).length ≤ 100000000 := by rw [encB_len]; show 20 + (p.length + 8) + 0 ≤ _; omega
    have hwr := write_ok (bc := m.length) (c := ⟨L.c.gen + 1, p, []⟩) ((1 - L.at_ : Nat) : Int) hDX (by omega) (S := fun j => m.length ≤ j ∧ j < M'.length) (ContAt.keep hct fun j b hb hj _ => vw_some.2 ⟨⟨hj, (List.getElem?_eq_some_iff.1 hb).1⟩, hb⟩) (fun j hj e => by have := hnb j hj; omega) (by show L.c.gen + 1 ≤ _; omega) hencl (Nat.zero_le _)
    have rdl : ∀ (Y : AM), Y[bk]? = some (some { cells := [.int .i64 ((L.c.gen + 1 : Nat) : Int), u, .slice none 0 0] }) → ∀ T, RdL (Y ++ T) bk 0 [.int .i64 ((L.c.gen + 1 : Nat) : Int), u, .slice none 0 0] := fun Y hY T => RdL.old T ⟨_, hY, fun j v hv => by
     rw [Nat.zero_add]
     exact hv⟩
    have q0 := rdl M' hcb
    have hLX : LogAt M' lg dk L sv rv := by rw [hX]; exact hL0.old N
    have q3 := fun T => hLX.rd T (0 + 3) _ rfl
    have q4 := fun T => hLX.rd T (0 + 4) _ rfl
    rw [← List.append_nil M']
    (repeat (first|(with_reducible refine AWo.cons ?_)|((with_reducible refine Step.id ?_);first|((with_reducible apply Step.move);exact rfl;exact rfl)|((with_reducible apply Step.load);exact rfl;((decide +kernel));exact rfl;((first|exact q3 _|exact q4 _)))|((with_reducible apply Step.loadL (n := 3));exact rfl;((decide +kernel));((decide +kernel));exact rfl;((exact q0 _));exact rfl;exact rfl)|((with_reducible apply Step.field (k := 3));exact rfl;((decide +kernel));exact rfl)|((with_reducible apply Step.field (k := 4));exact rfl;((decide +kernel));exact rfl)|((with_reducible apply Step.sub);exact rfl;exact rfl;((omega));exact rfl)|((with_reducible apply Step.nilp);exact rfl;exact rfl))|(with_reducible apply AW.seq)|((with_reducible apply AW.drawL fit);((decide +kernel)))))
    rw [hd]
    ((with_reducible apply Step.callF fit);exact rfl;exact Try.func118;exact rfl;exact rfl;((rw [List.append_nil];exact hwr)))
    rintro r1 M1 ⟨rfl, hQ1⟩
    by_cases he : (wrF D ((1 - L.at_ : Nat) : Int) ⟨L.c.gen + 1, p, []⟩).1 = 0
    ·rw [if_neg (fun e => e he), he]
     obtain ⟨w0, w1, a1, k1, f1⟩ := hQ1
     have hk1 : ∀ j, j < M'.length → ¬ dkD dk u0 u1 j → M1[j]? = M'[j]? := fun j h1 h2 => k1.get j h1 h2
     have hM1l := k1.len
     have hlS := hlg0.1
     have hlg1 : M1[lg]? = some (some { cells := lgc (L.c.gen : Nat) sv rv dk (L.at_ : Nat) L.down }) := by rw [hk1 lg (by omega) fun e => hS _ e hlS]; exact hLX.cells
     have hbk1 : M1[bk]? = some (some { cells := [.int .i64 ((L.c.gen + 1 : Nat) : Int), u, .slice none 0 0] }) := by rw [hk1 bk hbl fun e => by have := hnb _ e; omega]; exact hcb
     have q0 := rdl M1 hbk1
     have q4 := fun T => Rd.old T (show Rd M1 lg (0 + 4) (.int .i64 (L.at_ : Nat)) from ⟨_, hlg1, rfl⟩)
     rw [← List.append_nil M1]
     (repeat (first|(with_reducible refine AWo.cons ?_)|((with_reducible refine Step.id ?_);first|((with_reducible apply Step.move);exact rfl;exact rfl)|((with_reducible apply Step.assign);exact rfl;exact rfl)|((with_reducible apply Step.load);exact rfl;((decide +kernel));exact rfl;((exact q4 _)))|((with_reducible apply Step.loadL (n := 3));exact rfl;((decide +kernel));((decide +kernel));exact rfl;((exact q0 _));exact rfl;exact rfl)|((with_reducible apply Step.field0);exact rfl;((decide +kernel));exact rfl)|((with_reducible apply Step.field (k := 4));exact rfl;((decide +kernel));exact rfl)|((with_reducible apply Step.sub);exact rfl;exact rfl;((omega));exact rfl)|((with_reducible apply Step.neq);exact rfl;exact rfl;exact rfl)|((with_reducible apply Step.nilp);exact rfl;exact rfl))|(with_reducible first|apply AWo.nil|apply AW.seq|apply Then.n|apply AW.regL)|((with_reducible apply AW.drawL fit);((decide +kernel)))|(with_reducible apply AW.skip)|((with_reducible apply AW.condF);exact rfl;((rfl)))))
     rw [hd]
     ((with_reducible apply Step.storeL (n := 3) (v := [.int .i64 ((L.c.gen + 1 : Nat) : Int), u, .slice none 0 0]));exact rfl;exact rfl;exact (get_old [] hlg1);exact rfl;exact sz124;exact rfl;exact (SlV.all3 hus (.inl rfl));((show 0 + 3 ≤ 6;omega)))
     have hl1 := (List.getElem?_eq_some_iff.1 hlg1).1
     obtain ⟨Z, hZ⟩ : ∃ Z : AM, Z = M1.set lg (some { cells := lgc ((L.c.gen + 1 : Nat) : Int) u (.slice none 0 0) dk (L.at_ : Nat) L.down }) := ⟨_, rfl⟩
     have hZ1 : Z[lg]? = some (some { cells := lgc ((L.c.gen + 1 : Nat) : Int) u (.slice none 0 0) dk (L.at_ : Nat) L.down }) := by rw [hZ]; exact List.getElem?_set_self hl1
     have eZ : (M1 ++ []).set lg (some { cells := splice (lgc (L.c.gen : Nat) sv rv dk (L.at_ : Nat) L.down) 0 [.int .i64 ((L.c.gen + 1 : Nat) : Int), u, .slice none 0 0] }) = Z := by rw [hZ, List.append_nil]; rfl
     rw [eZ, ← List.append_nil Z]
     (repeat (first|(with_reducible refine AWo.cons ?_)|((with_reducible refine Step.id ?_);first|((with_reducible apply Step.field (k := 4));exact rfl;((decide +kernel));exact rfl)|((with_reducible apply Step.nilp);exact rfl;exact rfl))))
     ((with_reducible apply Step.storeAt);exact rfl;exact rfl;exact (get_old [] hZ1);exact sz3d;exact rfl;((show 0 + 4 < 6;omega));exact rfl;exact rfl)
     obtain ⟨W, hW⟩ : ∃ W : AM, W = M1.set lg (some { cells := lgc ((L.c.gen + 1 : Nat) : Int) u (.slice none 0 0) dk (1 - L.at_ : Nat) L.down }) := ⟨_, rfl⟩
     have eW : (Z ++ []).set lg (some { cells := (lgc ((L.c.gen + 1 : Nat) : Int) u (.slice none 0 0) dk (L.at_ : Nat) L.down).set (0 + 4) (.int .i64 ((1 - L.at_ : Nat) : Int)) }) = W := by rw [hZ, hW, List.append_nil, List.set_set]; rfl
     rw [eW, ← List.append_nil W]
     (repeat (first|(with_reducible refine AWo.cons ?_)|((with_reducible refine Step.id ?_);((with_reducible apply Step.assign);exact rfl;exact rfl))|(with_reducible first|apply AWo.nil|apply AW.seq|apply Then.n|apply AW.regL)))
     (refine AW.ret ?_; (repeat (first | refine Then.r ?_ | refine InBlk.r ?_)))
     rw [List.append_nil]
     have hWg : ∀ j, j ≠ lg → W[j]? = M1[j]? := fun j hj => by rw [hW]; exact List.getElem?_set_ne (Ne.symm hj)
     have hWl : W.length = M1.length := by rw [hW, List.length_set]
     have hdl2 : ∀ j, dkD dk w0 w1 j → j < M'.length → dkD dk u0 u1 j := fun j hj hl => Classical.byContradiction fun e => f1 j hl e hj
     refine ⟨_, rfl, rfl, w0, w1, u, .slice none 0 0, fun j => j = lg ∨ m.length ≤ j ∧ j < M'.length, ?_, ⟨vw_some.2 ⟨.inl rfl, by rw [hW]; exact List.getElem?_set_self hl1⟩, ?_, by rw [vw_len, hWl]; show dk < M1.length; omega, by show 1 - L.at_ < 2; omega⟩, ?_, ?_, ⟨by rw [hWl]; omega, fun j hj hn => ?_⟩, fun j hj hn => f1 j (by omega) hn⟩
     ·refine a1.keep fun j b hb hj _ => ?_
      rw [hWg j fun e => by subst e; exact hS j (hdl2 j hj (by omega)) hlS]
      exact hb
     ·refine ⟨?_, PaysS.nil, fun _ _ => NotB.nil⟩
      refine Row.vw2 ((Row.keep hu fun j hj hn => ?_).low (by omega)) fun j hj => .inr ⟨hu.ge_of hj, hu.lt_of hj⟩
      have := hu.ge_of hn
      rw [hWg j (by omega), hk1 j hj fun e => by have := hnb _ e; omega]
     ·rintro j (rfl | hj) hd2
      ·exact hS j (hdl2 j hd2 (by omega)) hlS
      ·have := hnb j (hdl2 j hd2 hj.2)
       omega
     ·rintro j (rfl | hj)
      ·exact .inl hlS
      ·exact .inr hj.1
     ·rw [hWg j fun e => hn (.inr (by rw [e]; exact hlS)), hk1 j (by omega) fun e => hn (.inl e), hX, List.getElem?_append_left hj]
    ·rw [if_pos he]
     have hQm : DkQ (wrF D ((1 - L.at_ : Nat) : Int) ⟨L.c.gen + 1, p, []⟩).2 b0 dk u0 u1 m M1 := DkQ.after (Keep.app _ m N) (by rw [← hX]; exact hQ1)
     obtain ⟨hL1, hF⟩ := DLQ.met (wrF D ((1 - L.at_ : Nat) : Int) ⟨L.c.gen + 1, p, []⟩).1 hL hS hQm
     generalize (wrF D ((1 - L.at_ : Nat) : Int) ⟨L.c.gen + 1, p, []⟩).1 = e at *
     rw [← List.append_nil M1]
     (repeat (first|(with_reducible refine AWo.cons ?_)|((with_reducible refine Step.id ?_);first|((with_reducible apply Step.move);exact rfl;exact rfl)|((with_reducible apply Step.assign);exact rfl;exact rfl)|((with_reducible apply Step.neq);exact rfl;exact rfl;exact rfl))|(with_reducible first|apply AWo.nil|apply AW.seq|apply Then.n|apply AW.regL)|((with_reducible apply AW.condT);exact rfl;(((simp only [zq1, zq2, zq3, zq4, zq5, zq6];first|assumption|omega))))))
     ((with_reducible apply Step.callF fit);exact rfl;exact Try.func120;exact rfl;exact rfl;((rw [List.append_nil];exact met_ok e hL1)))
     rintro r2 M2 ⟨rfl, rfl⟩
     rw [← List.append_nil (M1.set _ _)]
     (repeat (first|(with_reducible refine AWo.cons ?_)|((with_reducible refine Step.id ?_);((with_reducible apply Step.assign);exact rfl;exact rfl))|(with_reducible first|apply AWo.nil|apply Then.n)))
     (refine AW.ret ?_; (repeat (first | refine Then.r ?_ | refine InBlk.r ?_)))
     rw [List.append_nil]
     exact ⟨_, rfl, rfl, hF⟩
 ·rw [if_pos z0]
  generalize rdyF L p = e at *
  (repeat (first|(with_reducible refine AWo.cons ?_)|((with_reducible refine Step.id ?_);first|((with_reducible apply Step.move);exact rfl;exact rfl)|((with_reducible apply Step.assign);exact rfl;exact rfl)|((with_reducible apply Step.neq);exact rfl;exact rfl;exact rfl)|((with_reducible apply Step.callR fit);exact rfl;exact Try.func119;exact rfl;exact rfl;exact (hrd _)))|(with_reducible first|apply AWo.nil|apply AW.seq|apply Then.n|apply AW.regL)|((with_reducible apply AW.condT);exact rfl;(((simp only [zq1, zq2, zq3, zq4, zq5, zq6];first|assumption|omega))))))
  (refine AW.ret ?_; (repeat (first | refine Then.r ?_ | refine InBlk.r ?_)))
  rw [List.append_nil]
  exact ⟨_, rfl, rfl, DLQ.of hL hS (by have := DkQ.refl hD []; rwa [List.append_nil] at this)⟩
set_option maxRecDepth 100000 in
theorem small_ok {m : AM} {kd n k : Int} {w : Value} {l : List UInt8} (h : Byts m w l) (hl : l.length ≤ 9223372036854775807) :
  ACall Try.prog 49 #[.agg #[.int .i64 kd, .int .i64 n, .int .i64 k, w]] m (More (fun M u => Row M m.length 1 u (by8 (l.take 3000)) (l.take 3000).length) m) := by
 obtain ⟨a, o, hs, ha, hr⟩ := h
 have hw1 : (Value.agg #[.int .i64 kd, .int .i64 n, .int .i64 k, w]).cells.all (·.oneCell') = true := by
  show (#[Value.int .i64 kd, .int .i64 n, .int .i64 k, w]).all (·.oneCell') = true
  simp only [← Array.all_toList, List.all_cons]
  rcases hs with ⟨rfl, _⟩ | ⟨c, _, rfl⟩ | ⟨_, _, _, rfl⟩ <;> rfl
 have hmin : min ((l.length : Nat) : Int) 3000 = ((min l.length 3000 : Nat) : Int) := by omega
 refine ACall.start Try.func49 rfl rfl ?_
 (repeat (first|(with_reducible refine AWo.cons ?_)|((with_reducible refine Step.id ?_);first|((with_reducible apply Step.assign);exact rfl;exact rfl)|((with_reducible apply Step.load);exact rfl;((decide +kernel));exact rfl;((exact Rd.new rfl rfl)))|((with_reducible apply Step.field (k := 3));exact rfl;((decide +kernel));exact rfl)|((with_reducible apply Step.len);exact rfl;((assumption));((decide +kernel));exact rfl)|((with_reducible apply Step.min);exact rfl;exact rfl;exact rfl)|((with_reducible apply Step.box 0);exact rfl;exact rfl;((first|assumption|exact hw1));exact rfl;((first|(simp only [zq7, zq8, zq9, zq0, iv_set, bv_set, iv_rep, bv_rep] <;> rfl)|rfl))))|(with_reducible first|apply AWo.nil|apply AW.seq|apply Then.n|apply AW.regL)))
 rw [hmin]
 ((with_reducible apply Step.sliceS (l := 0) (h := min l.length 3000));exact rfl;exact hs;exact un22;exact sz5;exact rfl;exact (bndO_nat rfl);((omega));((omega));((omega));exact rfl)
 intro v' hv' _
 have hb : Byts (m ++ [some { cells := [.int .i64 kd, .int .i64 n, .int .i64 k, w] }]) v' (l.take 3000) := by
  have hlt : (l.take 3000).length = min l.length 3000 := by rw [List.length_take]; omega
  refine ⟨a, o, by rw [hlt]; simpa using hv', by simp; omega, fun j hj => ?_⟩
  have := hr j (by omega)
  rw [List.getD_eq_getElem?_getD, List.getElem?_take_of_lt (by omega), ← List.getD_eq_getElem?_getD]
  exact this.old _
 have hcl := clone_ok hb (by rw [List.length_take]; omega)
 (repeat ((with_reducible refine AWo.cons ?_)))
 ((with_reducible apply Step.callX fit);exact rfl;exact Try.func73;exact rfl;exact rfl;exact hcl)
 rintro u M1 ⟨N1, hN1⟩ hu
 (repeat (first|(with_reducible refine AWo.cons ?_)|((with_reducible refine Step.id ?_);((with_reducible apply Step.assign);exact rfl;exact rfl))|(with_reducible first|apply AWo.nil|apply Then.n)))
 (refine AW.ret ?_; (repeat (first | refine Then.r ?_ | refine InBlk.r ?_)))
 exact ⟨_, rfl, [some { cells := [.int .i64 kd, .int .i64 n, .int .i64 k, w] }] ++ N1, by rw [List.append_nil, hN1, List.append_assoc]; rfl, by rw [List.append_nil]; exact hu.low (by simp)⟩
def PaysR (M : AM) (v : Value) (ps : List (List UInt8)) : Prop := ∃ a o, Sl v a o ps.length ∧ a < M.length ∧ ∀ k, k < ps.length → ∃ u, Rd M a (o + k) u ∧ Byts M u (ps.getD k [])
theorem PaysR.old {M : AM} {v : Value} {ps : List (List UInt8)} (h : PaysR M v ps) (T : AM) : PaysR (M ++ T) v ps := by
 obtain ⟨a, o, h1, h2, h3⟩ := h
 refine ⟨a, o, h1, by simp; omega, fun k hk => ?_⟩
 obtain ⟨u, q1, q2⟩ := h3 k hk
 exact ⟨u, Rd.old T q1, q2.old T⟩
theorem PaysS.r {M : AM} {b0 : Nat} {v : Value} {ps : List (List UInt8)} (h : PaysS M b0 v ps) (hM : 0 < M.length) : PaysR M v ps := by
 obtain ⟨pc, hseg, hel⟩ := h
 obtain ⟨a, o, h1, h2, h3⟩ := hseg.rd hM
 refine ⟨a, o, h1, h2, fun k hk => ?_⟩
 obtain ⟨u, q1, q2, _⟩ := hel k hk
 have := h3 [] k u q1
 rw [List.append_nil] at this
 exact ⟨u, this, q2.byts hM⟩
theorem Pays.s {M : AM} {b0 : Nat} {v : Value} {ps : List (List UInt8)} (h : Pays M b0 v ps) : PaysS M b0 v ps := by
 obtain ⟨pc, hr, hel⟩ := h
 refine ⟨pc, Row.seg hr, fun k hk => ?_⟩
 obtain ⟨u, q1, q2, q3⟩ := hel k hk
 exact ⟨u, q1, q2, fun j hj => NotB.row hr (q3 j hj)⟩
theorem Pays.r {M : AM} {b0 : Nat} {v : Value} {ps : List (List UInt8)} (h : Pays M b0 v ps) (hM : 0 < M.length) : PaysR M v ps := h.s.r hM
theorem eq_take {α : Type} {l k : List α} (h : l.length = k.length) (he : ∀ j, j < l.length → l[j]? = k[j]?) : l = k := by
 refine List.ext_getElem? fun j => ?_
 rcases Nat.lt_or_ge j l.length with hj | hj
 ·exact he j hj
 ·rw [List.getElem?_eq_none hj, List.getElem?_eq_none (by omega)]
set_option maxHeartbeats 4000000 in
set_option maxRecDepth 100000 in
theorem EqualF_ok {m : AM} {v w : Value} {ps qs : List (List UInt8)} (hv : PaysR m v ps) (hw : PaysR m w qs) (hp : ps.length ≤ 4611686018427387904) (hq : qs.length ≤ 4611686018427387904) :
  ACall Try.prog 22 #[v, w, .func (.func 19) #[] #[]] m (Ret (.bool (decide (ps = qs))) m) := by
 obtain ⟨a1, o1, s1, l1, r1⟩ := hv
 obtain ⟨a2, o2, s2, l2, r2⟩ := hw
 refine ACall.drop (.bool _) ?_
 refine ACall.start Try.func22 rfl rfl ?_
 by_cases hl : ps.length = qs.length
 ·(repeat (first|(with_reducible refine AWo.cons ?_)|((with_reducible refine Step.id ?_);first|((with_reducible apply Step.move);exact rfl;exact rfl)|((with_reducible apply Step.assign);exact rfl;exact rfl)|((with_reducible apply Step.neq);exact rfl;exact rfl;exact rfl)|((with_reducible apply Step.len);exact rfl;((assumption));((decide +kernel));exact rfl))|(with_reducible first|apply AWo.nil|apply AW.seq|apply Then.n|apply AW.regL|apply AW.block|apply AW.skip)|((with_reducible apply AW.condF);exact rfl;(((simp only [zq1, zq2, zq3, zq4, zq5, zq6];first|assumption|omega))))))
  refine AW.midR 0 (fun t' M => ps = qs ∧ M = m) ?_ ?_
  ·refine AW.loopW (fun q t M => ∃ k, q = ps.length - k ∧ k ≤ ps.length ∧ (∀ j, j < k → ps[j]? = qs[j]?) ∧ M = m ∧
    t = fr [(1, w), (2, .func (.func 19) #[] #[]), (15, v), (16, .int .i64 (ps.length : Nat)), (17, .int .i64 (k : Nat))]) ⟨_, _, (by repeat (first | exact trivial | (refine And.intro rfl ?_))), 0, rfl, Nat.zero_le _, fun j hj => absurd hj (Nat.not_lt_zero _), by simp, rfl⟩ ?_
   rintro q t M ⟨k, rfl, hk, he, rfl, rfl⟩
   refine AW.rebase ?_
   rcases Nat.lt_or_ge k ps.length with hlt | hge
   ·obtain ⟨u1, x1, b1⟩ := r1 k hlt
    obtain ⟨u2, x2, b2⟩ := r2 k (by omega)
    have y1 := fun T => Rd.old T x1
    have y2 := fun T => Rd.old T x2
    have hE := Equal_ok b1 b2
    have e1 : ps[k]? = some (ps.getD k []) := by rw [List.getD_eq_getElem?_getD, List.getElem?_eq_getElem hlt]; rfl
    have e2 : qs[k]? = some (qs.getD k []) := by rw [List.getD_eq_getElem?_getD, List.getElem?_eq_getElem (by omega)]; rfl
    generalize ps.getD k [] = p at *
    generalize qs.getD k [] = q at *
    (repeat (first|(with_reducible refine AWo.cons ?_)|((with_reducible refine Step.id ?_);first|((with_reducible apply Step.move);exact rfl;exact rfl)|((with_reducible apply Step.assign);exact rfl;exact rfl)|((with_reducible apply Step.load);exact rfl;((decide +kernel));exact rfl;((first|exact y1 _|exact y2 _)))|((with_reducible apply Step.ix1);exact rfl;((assumption));exact rfl;((decide +kernel));exact rfl;((omega)))|((with_reducible apply Step.lss);exact rfl;exact rfl;exact rfl))|(with_reducible first|apply AWo.nil|apply AW.seq|apply Then.n|apply AW.regL|apply AW.block|apply AW.skip)|((with_reducible apply AW.condT);exact rfl;(((simp only [zq1, zq2, zq3, zq4, zq5, zq6];first|assumption|omega))))))
    ((with_reducible apply Step.callV fit);exact rfl;exact rfl;exact Try.func19;exact rfl;exact rfl;((rw [List.append_nil];exact hE)))
    by_cases e : p = q
    ·have eb : (p == q) = true := by rw [e]; simp
     rw [eb]
     (repeat (first|(with_reducible refine AWo.cons ?_)|((with_reducible refine Step.id ?_);first|((with_reducible apply Step.move);exact rfl;exact rfl)|((with_reducible apply Step.add);exact rfl;exact rfl;((omega));exact rfl)|((with_reducible apply Step.not);exact rfl;exact rfl))|(with_reducible first|apply AWo.nil|apply Then.n|apply AW.regL|apply InBlk.n|apply AW.skip)|((with_reducible apply AW.condF);exact rfl;((rfl)))))
     exact ⟨_, [(1, w), (2, .func (.func 19) #[] #[]), (15, v), (16, .int .i64 (ps.length : Nat)), (17, .int .i64 (k + 1 : Nat))], by omega, (by repeat (first | exact trivial | (refine And.intro rfl ?_))), k + 1, rfl, by omega, fun j hj => by
      rcases Nat.lt_succ_iff_lt_or_eq.1 hj with h | h
      ·exact he j h
      ·rw [h, e1, e2, e], by simp, rfl⟩
    ·have eb : (p == q) = false := by simp [e]
     rw [eb]
     (repeat (first|(with_reducible refine AWo.cons ?_)|((with_reducible refine Step.id ?_);first|((with_reducible apply Step.assign);exact rfl;exact rfl)|((with_reducible apply Step.not);exact rfl;exact rfl))|(with_reducible first|apply AWo.nil|apply AW.seq|apply Then.n|apply AW.regL)|((with_reducible apply AW.condT);exact rfl;((rfl)))))
     (refine AW.ret ?_; (repeat (first | refine Then.r ?_ | refine InBlk.r ?_)))
     refine MidR.r ?_
     exact ⟨_, rfl, by
      have : ps ≠ qs := fun h => e (by rw [h] at e1; rw [e1] at e2; injection e2)
      simp [this], _, rfl⟩
   ·obtain rfl : k = ps.length := by omega
    (repeat (first|(with_reducible refine AWo.cons ?_)|((with_reducible refine Step.id ?_);((with_reducible apply Step.lss);exact rfl;exact rfl;exact rfl))|(with_reducible first|apply AWo.nil|apply AW.seq|apply Then.n|apply AW.regL|apply AW.exit|apply Then.e)|((with_reducible apply AW.condF);exact rfl;(((simp only [zq1, zq2, zq3, zq4, zq5, zq6];first|assumption|omega))))))
    refine MidR.e ?_
    exact ⟨eq_take hl he, by simp⟩
  ·rintro t' M ⟨rfl, rfl⟩
   refine InBlk.hit ?_
   refine Then.n ?_
   (repeat (first|(with_reducible refine AWo.cons ?_)|((with_reducible refine Step.id ?_);((with_reducible apply Step.assign);exact rfl;exact rfl))|(with_reducible first|apply AWo.nil|apply AW.seq|apply Then.n|apply AW.regL)))
   (refine AW.ret ?_; (repeat (first | refine Then.r ?_ | refine InBlk.r ?_)))
   exact ⟨_, rfl, by simp, [], by simp⟩
 ·(repeat (first|(with_reducible refine AWo.cons ?_)|((with_reducible refine Step.id ?_);first|((with_reducible apply Step.move);exact rfl;exact rfl)|((with_reducible apply Step.assign);exact rfl;exact rfl)|((with_reducible apply Step.neq);exact rfl;exact rfl;exact rfl)|((with_reducible apply Step.len);exact rfl;((assumption));((decide +kernel));exact rfl))|(with_reducible first|apply AWo.nil|apply AW.seq|apply Then.n|apply AW.regL)|((with_reducible apply AW.condT);exact rfl;(((simp only [zq1, zq2, zq3, zq4, zq5, zq6];first|assumption|omega))))))
  (refine AW.ret ?_; (repeat (first | refine Then.r ?_ | refine InBlk.r ?_)))
  exact ⟨_, rfl, by
   have : ps ≠ qs := fun h => hl (by rw [h])
   simp [this], _, rfl⟩
theorem frames_nil : frames [] = ([], []) := rfl
theorem parseF_whole {c : Cont} (h1 : 1 ≤ c.gen) (h2 : c.gen ≤ 4611686018427387904) (hs : c.snap.length ≤ 65536) (hr : ∀ p ∈ c.recs, p.length ≤ 65536) (hc : c.recs.length ≤ 4000000000) : parseF (encB c) = some (c, 0) := by
 have := parseF_enc h1 h2 hs hr hc [] (fun _ _ => trivial)
 rw [List.append_nil, frames_nil] at this
 simpa using this
set_option maxHeartbeats 16000000 in
set_option maxRecDepth 100000 in
theorem Written_ok {m : AM} {S : Nat → Prop} {b0 bc dk n : Nat} {D : Dk} {u0 u1 sv rv : Value} {c : Cont} {d : Bool} (hD : RDiskAt m b0 dk D u0 u1) (hb0 : b0 ≤ m.length) (hC : ContAt (Abs.vw S m) bc sv rv c) (hS : ∀ j, dkD dk u0 u1 j → ¬ S j) (hg : c.gen ≤ 9223372036854775807) (hlen : (encB c).length ≤ 100000000) (hcnt : c.recs.length ≤ 100000000) :
  ACall Try.prog 123 #[.agg #[.pointer (some ⟨dk, 0, none⟩), .int .i64 (n : Nat), .int .i64 (c.gen : Nat), sv, rv, .bool d]] m (fun r M => r = .int .i64 (wrF D (n : Nat) c).1 ∧ RkQ (wrF D (n : Nat) c).2 b0 dk u0 u1 m M) := by
 have hdl := hD.lt
 have hssv := hC.snap.slv
 obtain ⟨pc, hseg, hel⟩ := hC.recs
 have hsrv := hseg.slv
 have hw1 : (Value.agg #[.pointer (some ⟨dk, 0, none⟩), .int .i64 (n : Nat), .int .i64 (c.gen : Nat), sv, rv, .bool d]).cells.all (·.oneCell') = true := by
  show (#[Value.pointer (some ⟨dk, 0, none⟩), .int .i64 (n : Nat), .int .i64 (c.gen : Nat), sv, rv, .bool d]).all (·.oneCell') = true
  simp only [← Array.all_toList, List.all_cons, hssv.one.1, hsrv.one.1]
  rfl
 refine ACall.start Try.func123 rfl rfl ?_
 (repeat (first|(with_reducible refine AWo.cons ?_)|((with_reducible refine Step.id ?_);first|((with_reducible apply Step.assign);exact rfl;exact rfl)|((with_reducible apply Step.load);exact rfl;((decide +kernel));exact rfl;((exact Rd.new rfl rfl)))|((with_reducible apply Step.field0);exact rfl;((decide +kernel));exact rfl)|((with_reducible apply Step.field (k := 1));exact rfl;((decide +kernel));exact rfl)|((with_reducible apply Step.box 0);exact rfl;exact rfl;((first|assumption|exact hw1));exact rfl;((first|(simp only [zq7, zq8, zq9, zq0, iv_set, bv_set, iv_rep, bv_rep] <;> rfl)|rfl))))|(with_reducible first|apply AWo.nil|apply AW.seq|apply Then.n|apply AW.regL)))
 obtain ⟨X, hX⟩ : ∃ X, X = m ++ [some { cells := [Value.pointer (some ⟨dk, 0, none⟩), .int .i64 (n : Nat), .int .i64 (c.gen : Nat), sv, rv, .bool d] }] := ⟨_, rfl⟩
 have hDX : RDiskAt X b0 dk D u0 u1 := by rw [hX]; exact hD.old _
 have hcl := RClear_ok (n : Nat) hDX
 rw [show (m ++ [some { cells := (Value.agg #[.pointer (some ⟨dk, 0, none⟩), .int .i64 (n : Nat), .int .i64 (c.gen : Nat), sv, rv, .bool d]).cells.toList }] : AM) = X from hX.symm]
 have hbX : X[m.length]? = some (some { cells := [.pointer (some ⟨dk, 0, none⟩), .int .i64 (n : Nat), .int .i64 (c.gen : Nat), sv, rv, .bool d] }) := by rw [hX, List.getElem?_append_right (Nat.le_refl _), Nat.sub_self]; rfl
 have hXl : X.length = m.length + 1 := by rw [hX, List.length_append]; rfl
 have hkXm : Keep (dkD dk u0 u1) m X := by rw [hX]; exact Keep.app _ _ _
 have hrX : ∀ T, Rd (X ++ T) (m.length + 0) 0 (.pointer (some ⟨dk, 0, none⟩)) ∧ Rd (X ++ T) (m.length + 0) 1 (.int .i64 (n : Nat)) := fun T => ⟨Rd.old T ⟨_, hbX, rfl⟩, Rd.old T ⟨_, hbX, rfl⟩⟩
 rw [← List.append_nil X]
 (repeat ((with_reducible refine AWo.cons ?_)))
 ((with_reducible apply Step.callF fit);exact rfl;exact Try.func79;exact rfl;exact rfl;((rw [List.append_nil];exact hcl)))
 rintro r1 M1 ⟨rfl, hQ1⟩
 have hQ1' := hQ1
 obtain ⟨v0, v1, hD1, hk1, hf1⟩ := hQ1
 have hM1l := hk1.len
 have hnb : ∀ j, dkD dk u0 u1 j → j < m.length := fun j hj => by
  obtain ⟨_, b, hb, _⟩ := hD.at_ hj
  exact (List.getElem?_eq_some_iff.1 hb).1
 have hbM1 : M1[m.length]? = some (some { cells := [.pointer (some ⟨dk, 0, none⟩), .int .i64 (n : Nat), .int .i64 (c.gen : Nat), sv, rv, .bool d] }) := by rw [hk1.get _ (by omega) fun e => by have := hnb _ e; omega]; exact hbX
 unfold wrF
 by_cases z1 : (clF D (n : Nat)).1 = 0
 ·rw [if_neg (fun e => e z1)]
  have hrd : ∀ (Y T : AM), (∃ N, Y = M1 ++ N) → Rd (Y ++ T) (m.length + 0) 0 (.pointer (some ⟨dk, 0, none⟩)) ∧ Rd (Y ++ T) (m.length + 0) 1 (.int .i64 (n : Nat)) ∧ Rd (Y ++ T) (m.length + 0) 2 (.int .i64 (c.gen : Nat)) ∧ Rd (Y ++ T) (m.length + 0) 3 sv ∧ Rd (Y ++ T) (m.length + 0) 4 rv := fun Y T hY => by
   obtain ⟨N, rfl⟩ := hY
   have hb := get_old N hbM1
   exact ⟨Rd.old T ⟨_, hb, rfl⟩, Rd.old T ⟨_, hb, rfl⟩, Rd.old T ⟨_, hb, rfl⟩, Rd.old T ⟨_, hb, rfl⟩, Rd.old T ⟨_, hb, rfl⟩⟩
  have hC1 : ContAt (Abs.vw S M1) bc sv rv c := by
   refine hC.msub ⟨by rw [vw_len, vw_len]; omega, fun j b _ hj => ?_⟩
   obtain ⟨q1, q2⟩ := vw_some.1 hj
   have hl := (List.getElem?_eq_some_iff.1 q2).1
   exact vw_some.2 ⟨q1, by rw [hk1.get j (by omega) (fun e => hS j e q1), hX, List.getElem?_append_left hl]; exact q2⟩
  have hsn := hC1.snap.vwM
  obtain ⟨pc, hseg, hel⟩ := hC1.recs
  obtain ⟨ar, orr, hsl, har, hrd3⟩ := hseg.sl (by rw [vw_len]; omega)
  rw [vw_len] at har
  have hb1 : b0 ≤ M1.length := by omega
  have h1 : 0 < M1.length := by omega
  have hr1 := fun T => hrd M1 T ⟨[], by simp⟩
  have hhl := hdB_len c
  have hel1 : (encB c).length = (frB (hdB c)).length + (frB c.snap).length + (c.recs.flatMap frB).length := by simp [encB]; omega
  have hfl1 := frB_len (hdB c)
  have hfl2 := frB_len c.snap
  have hb8 := be_len c.gen 8
  have hb4 := be_len c.recs.length 4
  rw [z1, ← List.append_nil M1]
  (repeat (first|(with_reducible refine AWo.cons ?_)|((with_reducible refine Step.id ?_);first|((with_reducible apply Step.move);exact rfl;exact rfl)|((with_reducible apply Step.assign);exact rfl;exact rfl)|((with_reducible apply Step.neq);exact rfl;exact rfl;exact rfl))|(with_reducible apply AWo.nil)|((fail_if_success (with_reducible refine AW.atR (id := 4) ?_));(with_reducible apply AW.seq))|(with_reducible first|apply Then.n|apply AW.regL|apply AW.skip)|((with_reducible apply AW.condF);exact rfl;((rfl)))))
  refine AW.seq ?_
  refine AW.join (fun t' M' => ∃ r4, Row M' M1.length 1 r4 (by8 (frB (hdB c) ++ frB c.snap)) (frB (hdB c) ++ frB c.snap).length ∧ (∃ N, M' = M1 ++ N) ∧ All (fun i v => t' i = some v) [(1, .pointer (some ⟨m.length + 0, 0, none⟩)), (4, r4)]) ?_ ?_
  ·(repeat' (first|((with_reducible refine Step.id ?_);first|((with_reducible apply Step.load);exact rfl;((decide +kernel));exact rfl;((first|exact (hr1 _).2.2.1|exact (hr1 _).2.2.2.1|exact (hr1 _).2.2.2.2)))|((with_reducible apply Step.field (k := 2));exact rfl;((decide +kernel));exact rfl)|((with_reducible apply Step.field (k := 3));exact rfl;((decide +kernel));exact rfl)|((with_reducible apply Step.field (k := 4));exact rfl;((decide +kernel));exact rfl)|((with_reducible apply Step.len);exact rfl;((assumption));((decide +kernel));exact rfl))|((with_reducible apply AW.drawT fit (T := (.step 0 (.step 1 (.step 3 (.step 9 (.both (.step 2 (.step 4 (.step 5 (.both (.step 6 (.both (.step 7 (.both (.step 8 (.step 10 (.step 11 (.step 12 (.step 13 .done))))) (.step 10 (.step 8 (.step 11 (.step 12 (.step 13 .done))))))) (.step 10 (.step 7 (.step 8 (.step 11 (.step 12 (.step 13 .done)))))))) (.step 10 (.step 6 (.step 7 (.step 8 (.step 11 (.step 12 (.step 13 .done))))))))))) (.both (.step 4 (.step 5 (.both (.step 2 (.both (.step 6 (.both (.step 7 (.both (.step 8 (.step 10 (.step 11 (.step 12 (.step 13 .done))))) (.step 10 (.step 8 (.step 11 (.step 12 (.step 13 .done))))))) (.step 10 (.step 7 (.step 8 (.step 11 (.step 12 (.step 13 .done)))))))) (.step 10 (.step 6 (.step 7 (.step 8 (.step 11 (.step 12 (.step 13 .done))))))))) (.step 10 (.step 2 (.step 6 (.step 7 (.step 8 (.step 11 (.step 12 (.step 13 .done))))))))))) (.step 10 (.both (.step 2 (.step 4 (.step 5 (.step 6 (.step 7 (.step 8 (.step 11 (.step 12 (.step 13 .done))))))))) (.step 4 (.step 5 (.step 2 (.step 6 (.step 7 (.step 8 (.step 11 (.step 12 (.step 13 .done)))))))))))))))))));((decide +kernel)))|((with_reducible apply AWt.step);exact rfl)|refine AWt.both ?_ ?_))
   all_goals ((with_reducible apply Step.callX fit);exact rfl;exact Try.func104;exact rfl;exact rfl;exact (number_ok (s := 8) hg (by omega)))
   all_goals rintro r2 M2 ⟨N2, hN2⟩ hr2
   all_goals have hM2 : ∃ N, M2 = M1 ++ N := ⟨[] ++ N2, by rw [hN2, List.append_assoc]⟩
   all_goals have hr2' := fun T => hrd M2 T hM2
   all_goals have hM2l : M1.length ≤ M2.length := by obtain ⟨N, rfl⟩ := hM2; rw [List.length_append]; omega
   all_goals rw [List.append_nil] at hr2
   all_goals (repeat' (first|((with_reducible refine Step.id ?_);first|((with_reducible apply Step.load);exact rfl;((decide +kernel));exact rfl;((first|exact (hr2' _).2.2.2.1|exact (hr2' _).2.2.2.2)))|((with_reducible apply Step.len);exact rfl;((assumption));((decide +kernel));exact rfl))|((with_reducible apply AWt.step);exact rfl)|refine AWt.both ?_ ?_))
   all_goals ((with_reducible apply Step.callX fit);exact rfl;exact Try.func104;exact rfl;exact rfl;exact (number_ok (s := 4) (by omega) (by omega)))
   all_goals rintro r3 M3 ⟨N3, hN3⟩ hr3
   all_goals have hM3 : ∃ N, M3 = M1 ++ N := by obtain ⟨N, hN⟩ := hM2; exact ⟨N ++ ([] ++ N3), by rw [hN3, hN]; simp only [List.append_assoc]⟩
   all_goals have hr23 : Row M3 M1.length 1 r2 (by8 (be c.gen 8)) (be c.gen 8).length := by rw [hN3]; exact (hr2.old _).old _
   all_goals have hr3' := fun T => hrd M3 T hM3
   all_goals have hM3l : M1.length ≤ M3.length := by obtain ⟨N, rfl⟩ := hM3; rw [List.length_append]; omega
   all_goals obtain ⟨a3, q1, q2, q3⟩ := hr3.sl (by omega)
   all_goals have q3' := fun T h => (q3 h).old T
   all_goals (repeat' (first|((with_reducible refine Step.id ?_);((with_reducible apply Step.load);exact rfl;((decide +kernel));exact rfl;((exact (hr3' _).2.2.2.1))))|((with_reducible apply AWt.step);exact rfl)|refine AWt.both ?_ ?_))
   all_goals ((with_reducible apply Step.appRow2 (n := (be c.gen 8).length) (xl := (be c.recs.length 4).length) (b0 := M1.length) (new := by8 (be c.recs.length 4)));exact rfl;exact rfl;exact (hr23.old _);exact q1;exact (fun h => q3' _ h);exact el22;exact un22;((rw [by8_len, Nat.mul_one]));exact (by8_all _);exact rfl;((omega));exact rfl;((rw [List.length_append];omega)))
   all_goals intro r4 M4 hr4 hml4 hk4 _
   all_goals have hM4 := pre_keep (m0 := M1) (M := M3 ++ []) (by obtain ⟨N, hN⟩ := hM3; exact ⟨N, by rw [List.append_nil]; exact hN⟩) hml4 fun j hj => hk4 j (by rw [List.length_append]; omega) (NotOf.row hr23 hj)
   all_goals have hr4 := Row.app8 hr4
   all_goals change Row M4 M1.length 1 r4 (by8 (hdB c)) (hdB c).length at hr4
   all_goals have hM4l : M1.length ≤ M4.length := by obtain ⟨N, rfl⟩ := hM4; rw [List.length_append]; omega
   all_goals have hr4' := fun T => hrd M4 T hM4
   all_goals clear hk4 hml4 hr23 hr3 q1 q2 q3 q3' hr2
   all_goals rw [← List.append_nil M4]
   all_goals (repeat' (first|((with_reducible refine Step.id ?_);((with_reducible apply Step.load);exact rfl;((decide +kernel));exact rfl;((exact (hr4' _).2.2.2.1))))|((with_reducible apply AWt.step);exact rfl)|refine AWt.both ?_ ?_))
   all_goals ((with_reducible apply Step.callX fit);exact rfl;exact Try.func74;exact rfl;exact rfl;((rw [List.append_nil];exact rframe_ok (hr4.byts (by omega)) (by omega))))
   all_goals rintro r5 M5 ⟨N5, hN5⟩ hr5
   all_goals rw [List.append_nil] at hN5
   all_goals have hM5 : ∃ N, M5 = M1 ++ N := by obtain ⟨N, hN⟩ := hM4; exact ⟨N ++ N5, by rw [hN5, hN, List.append_assoc]⟩
   all_goals have hM5l : M4.length ≤ M5.length := by rw [hN5, List.length_append]; omega
   all_goals have hr5' := fun T => hrd M5 T hM5
   all_goals (repeat' (first|((with_reducible refine Step.id ?_);((with_reducible apply Step.load);exact rfl;((decide +kernel));exact rfl;((exact (hr5' _).2.2.2.1))))|((with_reducible apply AWt.step);exact rfl)))
   all_goals ((with_reducible apply Step.callX fit);exact rfl;exact Try.func74;exact rfl;exact rfl;((rw [List.append_nil];exact rframe_ok (p := c.snap) (by obtain ⟨N, hN⟩ := hM5;rw [hN];exact (hsn.old N).byts (by rw [List.length_append];omega)) (by omega))))
   all_goals rintro r6 M6 ⟨N6, hN6⟩ hr6
   all_goals rw [List.append_nil] at hN6
   all_goals have hM6 : ∃ N, M6 = M1 ++ N := by obtain ⟨N, hN⟩ := hM5; exact ⟨N ++ N6, by rw [hN6, hN, List.append_assoc]⟩
   all_goals have hM6l : M5.length ≤ M6.length := by rw [hN6, List.length_append]; omega
   all_goals have hr56 : Row M6 M1.length 1 r5 (by8 (frB (hdB c))) (frB (hdB c)).length := by rw [hN6]; exact (hr5.old _).low hM4l
   all_goals obtain ⟨a6, q1, q2, q3⟩ := hr6.sl (by omega)
   all_goals have q3' := fun T h => (q3 h).old T
   all_goals (repeat' (((with_reducible apply AWt.step);exact rfl)))
   all_goals ((with_reducible apply Step.appRow2 (n := (frB (hdB c)).length) (xl := (frB c.snap).length) (b0 := M1.length) (new := by8 (frB c.snap)));exact rfl;exact rfl;exact (hr56.old _);exact q1;exact (fun h => q3' _ h);exact el22;exact un22;((rw [by8_len, Nat.mul_one]));exact (by8_all _);exact rfl;((omega));exact rfl;((rw [List.length_append];omega)))
   all_goals intro r7 M7 hr7 hml7 hk7 _
   all_goals have hM7 := pre_keep (m0 := M1) (M := M6 ++ []) (by obtain ⟨N, hN⟩ := hM6; exact ⟨N, by rw [List.append_nil]; exact hN⟩) hml7 fun j hj => hk7 j (by rw [List.length_append]; omega) (NotOf.row hr56 hj)
   all_goals have hr7 := Row.app8 hr7
   all_goals rw [← List.append_nil M7]
   all_goals (repeat' (first|((with_reducible refine Step.id ?_);((with_reducible apply Step.assign);exact rfl;exact rfl))|(with_reducible apply Then.n)|((with_reducible apply AWt.step);exact rfl)|(with_reducible apply AWt.done)))
   all_goals exact ⟨r7, by rw [List.append_nil]; exact hr7, by rw [List.append_nil]; exact hM7, (by repeat (first | exact trivial | (refine And.intro rfl ?_)))⟩
  ·rintro t' M4 ⟨r5, hr5, hM5, hsl4⟩
   refine AW.weak (fr_all hsl4) ?_
   clear hsl4
   have hr4' := fun T => hrd M4 T hM5
   rw [← List.append_nil M4]
   (repeat (first|(with_reducible refine AWo.cons ?_)|((with_reducible refine Step.id ?_);first|((with_reducible apply Step.move);exact rfl;exact rfl)|((with_reducible apply Step.load);exact rfl;((decide +kernel));exact rfl;((exact (hr4' _).2.2.2.2)))|((with_reducible apply Step.field (k := 4));exact rfl;((decide +kernel));exact rfl)|((with_reducible apply Step.len);exact rfl;((assumption));((decide +kernel));exact rfl))|(with_reducible first|apply AWo.nil|apply AW.seq|apply Then.n|apply AW.regL|apply AW.block)))
   refine AW.midX 0 (fun t' M => ∃ r, Row M M1.length 1 r (by8 (encB c)) (encB c).length ∧ (∃ N, M = M1 ++ N) ∧ All (fun i v => t' i = some v) [(1, .pointer (some ⟨m.length + 0, 0, none⟩)), (4, r)]) ?_ ?_
   ·refine AW.loopW (fun q t M => ∃ (k : Nat) (r : Value), q = c.recs.length - k ∧ k ≤ c.recs.length ∧ Row M M1.length 1 r (by8 (frB (hdB c) ++ frB c.snap ++ (c.recs.take k).flatMap frB)) (frB (hdB c) ++ frB c.snap ++ (c.recs.take k).flatMap frB).length ∧ (∃ N, M = M1 ++ N) ∧
     t = fr [(1, .pointer (some ⟨m.length + 0, 0, none⟩)), (4, r), (30, rv), (31, .int .i64 (c.recs.length : Nat)), (32, .int .i64 (k : Nat))]) ⟨_, _, (by repeat (first | exact trivial | (refine And.intro rfl ?_))), 0, r5, rfl, Nat.zero_le _, by rw [List.append_nil]; simpa using hr5, by rw [List.append_nil]; exact hM5, rfl⟩ ?_
    rintro q t M ⟨k, r, rfl, hk, hrk, hMk, rfl⟩
    rcases Nat.lt_or_ge k c.recs.length with hlt | hge
    ·obtain ⟨uk, w1, w2, w3⟩ := hel k hlt
     have rk : ∀ T, Rd (M ++ T) ar (orr + k) uk := fun T => Rd.old T (by
      obtain ⟨N, rfl⟩ := hMk
      obtain ⟨b, x1, x2⟩ := hrd3 (by omega)
      exact ⟨b, get_old N (vw_some.1 x1).2, x2 k uk w1⟩)
     have hsn2 : c.recs.take (k + 1) = c.recs.take k ++ [c.recs.getD k []] := by rw [List.take_succ_eq_append_getElem hlt]; simp [hlt]
     have hft := flat_take frB c.recs (k + 1)
     rw [hsn2] at hft
     have hfr := frB_len (c.recs.getD k [])
     simp only [List.flatMap_append, List.flatMap_cons, List.flatMap_nil, List.append_nil, List.length_append] at hft
     have hbl : (frB (hdB c) ++ frB c.snap ++ (c.recs.take k).flatMap frB).length = (frB (hdB c)).length + (frB c.snap).length + ((c.recs.take k).flatMap frB).length := by simp only [List.length_append]
     have hw2 := w2.vwM
     have hMl : M1.length ≤ M.length := by obtain ⟨N, rfl⟩ := hMk; rw [List.length_append]; omega
     have hwb : Byts M uk (c.recs.getD k []) := by obtain ⟨N, rfl⟩ := hMk; exact (hw2.old N).byts (by omega)
     generalize c.recs.getD k [] = rec at *
     refine AW.rebase ?_
     (repeat (first|(with_reducible refine AWo.cons ?_)|((with_reducible refine Step.id ?_);first|((with_reducible apply Step.move);exact rfl;exact rfl)|((with_reducible apply Step.assign);exact rfl;exact rfl)|((with_reducible apply Step.load);exact rfl;((decide +kernel));exact rfl;((exact rk _)))|((with_reducible apply Step.ix1);exact rfl;((assumption));exact rfl;((decide +kernel));exact rfl;((omega)))|((with_reducible apply Step.lss);exact rfl;exact rfl;exact rfl))|(with_reducible first|apply AWo.nil|apply AW.seq|apply Then.n|apply AW.regL|apply AW.block|apply AW.skip)|((with_reducible apply AW.condT);exact rfl;(((simp only [zq1, zq2, zq3, zq4, zq5, zq6];first|assumption|omega))))))
     ((with_reducible apply Step.callX fit);exact rfl;exact Try.func74;exact rfl;exact rfl;((rw [List.append_nil];exact rframe_ok (p := rec) hwb (by omega))))
     rintro r6 M6 ⟨N6, hN6⟩ hr6
     rw [List.append_nil] at hN6
     have hM6l : M.length ≤ M6.length := by rw [hN6, List.length_append]; omega
     have hrk6 : Row M6 M1.length 1 r (by8 (frB (hdB c) ++ frB c.snap ++ (c.recs.take k).flatMap frB)) (frB (hdB c) ++ frB c.snap ++ (c.recs.take k).flatMap frB).length := by rw [hN6]; exact hrk.old _
     obtain ⟨a6, q1, q2, q3⟩ := hr6.sl (by omega)
     have q3' := fun T h => (q3 h).old T
     (repeat ((with_reducible refine AWo.cons ?_)))
     ((with_reducible apply Step.appRow2 (n := (frB (hdB c) ++ frB c.snap ++ (c.recs.take k).flatMap frB).length) (xl := (frB rec).length) (b0 := M1.length) (new := by8 (frB rec)));exact rfl;exact rfl;exact (hrk6.old _);exact q1;exact (fun h => q3' _ h);exact el22;exact un22;((rw [by8_len, Nat.mul_one]));exact (by8_all _);exact rfl;((omega));exact rfl;((rw [List.length_append];omega)))
     intro r7 M7 hr7 hml7 hk7 _
     have hM7 := pre_keep (m0 := M1) (M := M6 ++ []) (by obtain ⟨N, hN⟩ := hMk; exact ⟨N ++ N6, by rw [List.append_nil, hN6, hN, List.append_assoc]⟩) hml7 fun j hj => hk7 j (by rw [List.length_append]; omega) (NotOf.row hrk6 hj)
     have hr7 := Row.app8 hr7
     rw [← List.append_nil M7]
     (repeat (first|(with_reducible refine AWo.cons ?_)|((with_reducible refine Step.id ?_);first|((with_reducible apply Step.move);exact rfl;exact rfl)|((with_reducible apply Step.assign);exact rfl;exact rfl)|((with_reducible apply Step.add);exact rfl;exact rfl;((omega));exact rfl))|(with_reducible first|apply AWo.nil|apply Then.n|apply AW.regL|apply InBlk.n)))
     exact ⟨_, [(1, .pointer (some ⟨m.length + 0, 0, none⟩)), (4, r7), (30, rv), (31, .int .i64 (c.recs.length : Nat)), (32, .int .i64 (k + 1 : Nat))], by omega, (by repeat (first | exact trivial | (refine And.intro rfl ?_))), k + 1, r7, rfl, by omega, by rw [List.append_nil, hsn2]; simpa using hr7, by rw [List.append_nil]; exact hM7, rfl⟩
    ·obtain rfl : k = c.recs.length := by omega
     rw [List.take_of_length_le (Nat.le_refl _)] at hrk
     refine AW.rebase ?_
     (repeat (first|(with_reducible refine AWo.cons ?_)|((with_reducible refine Step.id ?_);((with_reducible apply Step.lss);exact rfl;exact rfl;exact rfl))|(with_reducible first|apply AWo.nil|apply AW.seq|apply Then.n|apply AW.regL|apply AW.exit|apply Then.e)|((with_reducible apply AW.condF);exact rfl;(((simp only [zq1, zq2, zq3, zq4, zq5, zq6];first|assumption|omega))))))
     exact ⟨rfl, r, by rw [List.append_nil]; exact hrk, by rw [List.append_nil]; exact hMk, (by repeat (first | exact trivial | (refine And.intro rfl ?_)))⟩
   ·rintro t' M ⟨r, hrE, hME, hsl5⟩
    refine InBlk.hit ?_
    refine Then.n ?_
    refine AW.weak (fr_all hsl5) ?_
    clear hsl5
    have hrM := fun T => hrd M T hME
    obtain ⟨N, hN⟩ := hME
    have hDM : RDiskAt M b0 dk (clF D (n : Nat)).2 v0 v1 := by rw [hN]; exact hD1.old N
    have hml := hD1.lt
    have hMl : M.length = M1.length + N.length := by rw [hN]; exact List.length_append
    have hkM : Keep (dkD dk v0 v1) M1 M := by rw [hN]; exact Keep.app _ _ _
    refine AW.rebase ?_
    (repeat (first|(with_reducible refine AWo.cons ?_)|((with_reducible refine Step.id ?_);first|((with_reducible apply Step.move);exact rfl;exact rfl)|((with_reducible apply Step.load);exact rfl;((decide +kernel));exact rfl;((first|exact (hrM _).1|exact (hrM _).2.1)))|((with_reducible apply Step.field0);exact rfl;((decide +kernel));exact rfl)|((with_reducible apply Step.field (k := 1));exact rfl;((decide +kernel));exact rfl))|(with_reducible first|apply AW.seq|apply AW.regL)))
    ((with_reducible apply Step.callF fit);exact rfl;exact Try.func77;exact rfl;exact rfl;((rw [List.append_nil];exact RAppend_ok (p := encB c) (n : Nat) hDM (by omega) (fun M' hk => (Row.keep hrE fun j hj hn => hk.get j hj (fun e => by have := hrE.ge_of hn;omega)).byts (by have := hk.len;omega)) (by omega))))
    rintro r7 M7 ⟨rfl, hQ7⟩
    have hQ7' := RkQ.next hk1 hf1 (RkQ.after hkM hQ7)
    have hb7 : M7[m.length]? = some (some { cells := [.pointer (some ⟨dk, 0, none⟩), .int .i64 (n : Nat), .int .i64 (c.gen : Nat), sv, rv, .bool d] }) := by
     obtain ⟨_, _, _, hk7, _⟩ := hQ7'
     have h7 := hk7.get m.length (by omega) fun e => by have := hnb _ e; omega
     rw [h7]; exact hbX
    have hr7 : ∀ T, Rd (M7 ++ T) (m.length + 0) 0 (.pointer (some ⟨dk, 0, none⟩)) ∧ Rd (M7 ++ T) (m.length + 0) 1 (.int .i64 (n : Nat)) := fun T => ⟨Rd.old T ⟨_, hb7, rfl⟩, Rd.old T ⟨_, hb7, rfl⟩⟩
    by_cases z2 : (apF (clF D (n : Nat)).2 (n : Nat) (encB c)).1 = 0
    ·rw [if_neg (fun e => e z2), z2]
     obtain ⟨w0, w1, hD7, hk7, hf7⟩ := hQ7'
     rw [← List.append_nil M7]
     (repeat (first|(with_reducible refine AWo.cons ?_)|((with_reducible refine Step.id ?_);first|((with_reducible apply Step.move);exact rfl;exact rfl)|((with_reducible apply Step.assign);exact rfl;exact rfl)|((with_reducible apply Step.load);exact rfl;((decide +kernel));exact rfl;((first|exact (hr7 _).1|exact (hr7 _).2)))|((with_reducible apply Step.field0);exact rfl;((decide +kernel));exact rfl)|((with_reducible apply Step.field (k := 1));exact rfl;((decide +kernel));exact rfl)|((with_reducible apply Step.neq);exact rfl;exact rfl;exact rfl))|(with_reducible first|apply AWo.nil|apply AW.seq|apply Then.n|apply AW.regL|apply AW.skip)|((with_reducible apply AW.condF);exact rfl;((rfl)))))
     ((with_reducible apply Step.callF fit);exact rfl;exact Try.func78;exact rfl;exact rfl;((rw [List.append_nil];exact RSync_ok (n : Nat) hD7)))
     rintro r8 M8 ⟨rfl, hQ8⟩
     rw [← List.append_nil M8]
     (repeat (first|(with_reducible refine AWo.cons ?_)|((with_reducible refine Step.id ?_);((with_reducible apply Step.assign);exact rfl;exact rfl))|(with_reducible first|apply AWo.nil|apply Then.n)))
     (refine AW.ret ?_; (repeat (first | refine Then.r ?_ | refine InBlk.r ?_)))
     rw [List.append_nil]
     exact ⟨_, rfl, rfl, RkQ.after hkXm (RkQ.next hk7 hf7 hQ8)⟩
    ·rw [if_pos z2]
     generalize (apF (clF D (n : Nat)).2 (n : Nat) (encB c)).1 = e2 at *
     rw [← List.append_nil M7]
     (repeat (first|(with_reducible refine AWo.cons ?_)|((with_reducible refine Step.id ?_);first|((with_reducible apply Step.move);exact rfl;exact rfl)|((with_reducible apply Step.assign);exact rfl;exact rfl)|((with_reducible apply Step.neq);exact rfl;exact rfl;exact rfl))|(with_reducible first|apply AWo.nil|apply AW.seq|apply Then.n|apply AW.regL)|((with_reducible apply AW.condT);exact rfl;(((simp only [zq1, zq2, zq3, zq4, zq5, zq6];first|assumption|omega))))))
     (refine AW.ret ?_; (repeat (first | refine Then.r ?_ | refine InBlk.r ?_)))
     rw [List.append_nil]
     exact ⟨_, rfl, rfl, RkQ.after hkXm hQ7'⟩
 ·rw [if_pos z1]
  generalize (clF D (n : Nat)).1 = e1 at *
  rw [← List.append_nil M1]
  (repeat (first|(with_reducible refine AWo.cons ?_)|((with_reducible refine Step.id ?_);first|((with_reducible apply Step.move);exact rfl;exact rfl)|((with_reducible apply Step.assign);exact rfl;exact rfl)|((with_reducible apply Step.neq);exact rfl;exact rfl;exact rfl))|(with_reducible first|apply AWo.nil|apply AW.seq|apply Then.n|apply AW.regL)|((with_reducible apply AW.condT);exact rfl;(((simp only [zq1, zq2, zq3, zq4, zq5, zq6];first|assumption|omega))))))
  (refine AW.ret ?_; (repeat (first | refine Then.r ?_ | refine InBlk.r ?_)))
  rw [List.append_nil]
  exact ⟨_, rfl, rfl, RkQ.after hkXm hQ1'⟩
def rlc (dk : Nat) (a g : Int) (sv rv : Value) (d : Bool) : List Value := [.pointer (some ⟨dk, 0, none⟩), .int .i64 a, .int .i64 g, sv, rv, .bool d]
structure RLogIn (S : Nat → Prop) (M : AM) (lg dk : Nat) (L : Lg) (sv rv : Value) : Prop where
 cells : M[lg]? = some (some { cells := rlc dk (L.at_ : Nat) (L.c.gen : Nat) sv rv L.down })
 ins : S lg
 cont : ContAt (vw (fun j => S j ∧ j ≠ lg) M) 0 sv rv L.c
 lb : dk < M.length
 a2 : L.at_ < 2
theorem RLogIn.sub {S S' : Nat → Prop} {M M' : AM} {lg dk : Nat} {L : Lg} {sv rv : Value} (h : RLogIn S M lg dk L sv rv) (hl : M.length ≤ M'.length) (hs : ∀ j, S j → j < M.length → S' j ∧ M'[j]? = M[j]?) : RLogIn S' M' lg dk L sv rv := by
 have hll := (List.getElem?_eq_some_iff.1 h.cells).1
 refine ⟨by rw [(hs lg h.ins hll).2]; exact h.cells, (hs lg h.ins hll).1, h.cont.msub ⟨by rw [vw_len, vw_len]; exact hl, fun j b _ hj => ?_⟩, by have := h.lb; omega, h.a2⟩
 obtain ⟨q1, q2⟩ := vw_some.1 hj
 obtain ⟨g1, g2⟩ := hs j q1.1 (List.getElem?_eq_some_iff.1 q2).1
 exact vw_some.2 ⟨⟨g1, q1.2⟩, by rw [g2]; exact q2⟩
theorem RLogIn.lt {S : Nat → Prop} {M : AM} {lg dk : Nat} {L : Lg} {sv rv : Value} (h : RLogIn S M lg dk L sv rv) : lg < M.length := (List.getElem?_eq_some_iff.1 h.cells).1
theorem RLogIn.rd {S : Nat → Prop} {M : AM} {lg dk : Nat} {L : Lg} {sv rv : Value} (h : RLogIn S M lg dk L sv rv) (N T : AM) (j : Nat) (v : Value) (hv : (rlc dk (L.at_ : Nat) (L.c.gen : Nat) sv rv L.down)[j]? = some v) : Rd ((M ++ N) ++ T) lg j v := Rd.old T (Rd.old N ⟨_, h.cells, hv⟩)
def RDLQ (D' : Dk) (L' : Lg) (b0 dk lg : Nat) (u0 u1 : Value) (S : Nat → Prop) (m M : AM) : Prop :=
 ∃ (w0 w1 sv rv : Value) (S' : Nat → Prop), RDiskAt M b0 dk D' w0 w1 ∧ RLogIn S' M lg dk L' sv rv ∧ (∀ j, S' j → ¬ dkD dk w0 w1 j) ∧ (∀ j, S' j → S j ∨ m.length ≤ j) ∧ Keep (fun j => dkD dk u0 u1 j ∨ S j) m M ∧ ∀ j, j < m.length → ¬ dkD dk u0 u1 j → ¬ dkD dk w0 w1 j
theorem RLogIn.disk {S : Nat → Prop} {m M : AM} {lg dk : Nat} {u0 u1 : Value} {L : Lg} {sv rv : Value} (h : RLogIn S m lg dk L sv rv) (hS : ∀ j, dkD dk u0 u1 j → ¬ S j) (hk : Keep (dkD dk u0 u1) m M) : RLogIn (fun j => S j ∧ j < m.length) M lg dk L sv rv :=
 h.sub hk.len fun j hj hl => ⟨⟨hj, hl⟩, hk.get j hl fun e => hS j e hj⟩
theorem RDLQ.of {S : Nat → Prop} {m M : AM} {b0 lg dk : Nat} {u0 u1 : Value} {D' : Dk} {L : Lg} {sv rv : Value} (h : RLogIn S m lg dk L sv rv) (hS : ∀ j, dkD dk u0 u1 j → ¬ S j) (hq : RkQ D' b0 dk u0 u1 m M) : RDLQ D' L b0 dk lg u0 u1 S m M := by
 obtain ⟨w0, w1, a1, a2, a3⟩ := hq
 exact ⟨w0, w1, sv, rv, _, a1, h.disk hS a2, fun j hj => a3 j hj.2 fun e => hS j e hj.1, fun j hj => .inl hj.1, a2.mono fun _ e => .inl e, a3⟩
theorem RDLQ.met {S : Nat → Prop} {m M : AM} {b0 lg dk : Nat} {u0 u1 : Value} {D' : Dk} {L : Lg} {sv rv : Value} (e : Int) (h : RLogIn S m lg dk L sv rv) (hS : ∀ j, dkD dk u0 u1 j → ¬ S j) (hq : RkQ D' b0 dk u0 u1 m M) :
  M[lg]? = some (some { cells := rlc dk (L.at_ : Nat) (L.c.gen : Nat) sv rv L.down }) ∧ RDLQ D' (metF L e) b0 dk lg u0 u1 S m (M.set lg (some { cells := rlc dk (L.at_ : Nat) (L.c.gen : Nat) sv rv (metF L e).down })) := by
 obtain ⟨w0, w1, a1, a2, a3⟩ := hq
 have hL := h.disk hS a2
 have hll := hL.lt
 have hnd : ¬ dkD dk w0 w1 lg := a3 lg hL.ins.2 fun e => hS lg e hL.ins.1
 refine ⟨hL.cells, w0, w1, sv, rv, fun j => S j ∧ j < m.length, ?_, ⟨List.getElem?_set_self hll, hL.ins, ?_, by rw [List.length_set]; exact hL.lb, hL.a2⟩, fun j hj => a3 j hj.2 fun e => hS j e hj.1, fun j hj => .inl hj.1, ⟨by rw [List.length_set]; exact a2.len, fun j hj hn => ?_⟩, a3⟩
 ·exact a1.keep fun j b hb hj _ => by rw [List.getElem?_set_ne (fun e => hnd (by rw [e]; exact hj))]; exact hb
 ·refine hL.cont.keep fun j b hb hj _ => ?_
  obtain ⟨q1, q2⟩ := vw_some.1 hb
  exact vw_some.2 ⟨q1, by rw [List.getElem?_set_ne (Ne.symm q1.2)]; exact q2⟩
 ·have hne : j ≠ lg := fun e => hn (.inr (by rw [e]; exact hL.ins.1))
  rw [List.getElem?_set_ne (Ne.symm hne), a2.get j hj fun e => hn (.inl e)]
set_option maxRecDepth 100000 in
theorem RFrame_ok {m : AM} {w : Value} {p : List UInt8} (hp : Byts m w p) (hlen : p.length ≤ 900000000) :
  ACall Try.prog 20 #[w] m (fun r M => (65536 < p.length ∧ r = .tuple #[.slice none 0 0, .int .i64 3] ∧ M = m ++ []) ∨ (p.length ≤ 65536 ∧ ∃ u, r = .tuple #[u, .int .i64 0] ∧ (∃ N, M = m ++ N) ∧ Row M m.length 1 u (by8 (frB p)) (frB p).length)) := by
 have hf := rframe_ok hp hlen
 obtain ⟨a, o, hs, ha, hr⟩ := hp
 refine ACall.start Try.func20 rfl rfl ?_
 by_cases c : 65536 < p.length
 ·(repeat (first|(with_reducible refine AWo.cons ?_)|((with_reducible refine Step.id ?_);first|((with_reducible apply Step.move);exact rfl;exact rfl)|((with_reducible apply Step.assign);exact rfl;exact rfl)|((with_reducible apply Step.gtr);exact rfl;exact rfl;exact rfl)|((with_reducible apply Step.len);exact rfl;((assumption));((decide +kernel));exact rfl))|(with_reducible first|apply AWo.nil|apply AW.seq|apply Then.n|apply AW.regL)|((with_reducible apply AW.condT);exact rfl;(((simp only [zq1, zq2, zq3, zq4, zq5, zq6];first|assumption|omega))))))
  (refine AW.ret ?_; (repeat (first | refine Then.r ?_ | refine InBlk.r ?_)))
  exact ⟨_, rfl, .inl ⟨c, rfl, rfl⟩⟩
 ·(repeat (first|(with_reducible refine AWo.cons ?_)|((with_reducible refine Step.id ?_);first|((with_reducible apply Step.move);exact rfl;exact rfl)|((with_reducible apply Step.assign);exact rfl;exact rfl)|((with_reducible apply Step.gtr);exact rfl;exact rfl;exact rfl)|((with_reducible apply Step.len);exact rfl;((assumption));((decide +kernel));exact rfl))|(with_reducible first|apply AWo.nil|apply AW.seq|apply Then.n|apply AW.regL|apply AW.skip)|((with_reducible apply AW.condF);exact rfl;(((simp only [zq1, zq2, zq3, zq4, zq5, zq6];first|assumption|omega))))))
  ((with_reducible apply Step.callX fit);exact rfl;exact Try.func74;exact rfl;exact rfl;((rw [List.append_nil];exact hf)))
  rintro u M1 ⟨N1, hN1⟩ hu
  rw [List.append_nil] at hN1
  (repeat (first|(with_reducible refine AWo.cons ?_)|((with_reducible refine Step.id ?_);((with_reducible apply Step.assign);exact rfl;exact rfl))|(with_reducible first|apply AWo.nil|apply Then.n)))
  (refine AW.ret ?_; (repeat (first | refine Then.r ?_ | refine InBlk.r ?_)))
  exact ⟨_, rfl, .inr ⟨by omega, u, rfl, ⟨N1, by rw [List.append_nil]; exact hN1⟩, by rw [List.append_nil]; exact hu⟩⟩
theorem un108 : Try.prog.underlying 108 = some (.pointer 188) := by kernel_rfl
set_option maxRecDepth 100000 in
theorem ends_ok {m : AM} {lg dk : Nat} {a g : Int} {sv rv : Value} {d : Bool} (e : Int) (h : m[lg]? = some (some { cells := rlc dk a g sv rv d })) : ACall Try.prog 124 #[.pointer (some ⟨lg, 0, none⟩), .int .i64 e] m (fun r M => r = .int .i64 e ∧ M = m.set lg (some { cells := rlc dk a g sv rv (d || decide (e = 14)) })) := by
 have r5 : ∀ T, Rd (m ++ T) lg (0 + 5) (.bool d) := fun T => Rd.old T ⟨_, h, rfl⟩
 refine ACall.start Try.func124 rfl rfl ?_
 cases d
 ·(repeat (first|(with_reducible refine AWo.cons ?_)|((with_reducible refine Step.id ?_);first|((with_reducible apply Step.gdT);exact rfl;exact rfl;((rfl)))|((with_reducible apply Step.move);exact rfl;exact rfl)|((with_reducible apply Step.assign);exact rfl;exact rfl)|((with_reducible apply Step.load);exact rfl;((decide +kernel));exact rfl;((exact r5 _)))|((with_reducible apply Step.field (k := 5));exact rfl;((decide +kernel));exact rfl)|((with_reducible apply Step.eql);exact rfl;exact rfl;exact rfl)|((with_reducible apply Step.nilp);exact rfl;exact rfl)|((with_reducible apply Step.pickF);exact rfl;exact rfl;exact rfl;exact rfl;((rfl))))|(with_reducible first|apply AWo.nil|apply AW.seq|apply Then.n|apply AW.regL)))
  ((with_reducible apply Step.storeAt);exact rfl;exact rfl;exact (get_old [] h);exact sz4d;exact rfl;((show 0 + 5 < 6;omega));exact rfl;exact rfl)
  (repeat (first|(with_reducible refine AWo.cons ?_)|((with_reducible refine Step.id ?_);first|((with_reducible apply Step.move);exact rfl;exact rfl)|((with_reducible apply Step.assign);exact rfl;exact rfl))|(with_reducible first|apply AWo.nil|apply AW.seq|apply Then.n|apply AW.regL)))
  (refine AW.ret ?_; (repeat (first | refine Then.r ?_ | refine InBlk.r ?_)))
  rw [List.append_nil]
  exact ⟨_, rfl, rfl, rfl⟩
 ·(repeat (first|(with_reducible refine AWo.cons ?_)|((with_reducible refine Step.id ?_);first|((with_reducible apply Step.gdF);exact rfl;exact rfl;((rfl)))|((with_reducible apply Step.move);exact rfl;exact rfl)|((with_reducible apply Step.assign);exact rfl;exact rfl)|((with_reducible apply Step.load);exact rfl;((decide +kernel));exact rfl;((exact r5 _)))|((with_reducible apply Step.field (k := 5));exact rfl;((decide +kernel));exact rfl)|((with_reducible apply Step.nilp);exact rfl;exact rfl)|((with_reducible apply Step.pickT);exact rfl;exact rfl;exact rfl;exact rfl;((rfl))))|(with_reducible first|apply AWo.nil|apply AW.seq|apply Then.n|apply AW.regL)))
  ((with_reducible apply Step.storeAt);exact rfl;exact rfl;exact (get_old [] h);exact sz4d;exact rfl;((show 0 + 5 < 6;omega));exact rfl;exact rfl)
  (repeat (first|(with_reducible refine AWo.cons ?_)|((with_reducible refine Step.id ?_);first|((with_reducible apply Step.move);exact rfl;exact rfl)|((with_reducible apply Step.assign);exact rfl;exact rfl))|(with_reducible first|apply AWo.nil|apply AW.seq|apply Then.n|apply AW.regL)))
  (refine AW.ret ?_; (repeat (first | refine Then.r ?_ | refine InBlk.r ?_)))
  rw [List.append_nil]
  exact ⟨_, rfl, rfl, rfl⟩
theorem rdyF_cases (L : Lg) (p : List UInt8) : (L.down = true ∧ rdyF L p = 9) ∨ (L.down = false ∧ 65536 < p.length ∧ rdyF L p = 3) ∨ (L.down = false ∧ p.length ≤ 65536 ∧ rdyF L p = 0) := by
 unfold rdyF
 cases L.down with
 | true => exact .inl ⟨rfl, rfl⟩
 | false =>
  by_cases h : 65536 < p.length
  ·exact .inr (.inl ⟨rfl, h, by simp [h]⟩)
  ·exact .inr (.inr ⟨rfl, by omega, by simp [h]⟩)
set_option maxHeartbeats 16000000 in
set_option maxRecDepth 100000 in
theorem RAdd_ok {m : AM} {S : Nat → Prop} {b0 dk lg : Nat} {D : Dk} {u0 u1 sv rv w : Value} {L : Lg} {p : List UInt8} (hD : RDiskAt m b0 dk D u0 u1) (hb0 : b0 ≤ m.length) (hL : RLogIn S m lg dk L sv rv) (hS : ∀ j, dkD dk u0 u1 j → ¬ S j) (hw : ∀ M, Keep (fun j => dkD dk u0 u1 j ∨ S j) m M → Byts M w p) (hlen : p.length ≤ 1000000) (hcnt : L.c.recs.length ≤ 1000000) :
  ACall Try.prog 63 #[.pointer (some ⟨lg, 0, none⟩), w] m (fun r M => r = .int .i64 (addF D L p).1 ∧ RDLQ (addF D L p).2.1 (addF D L p).2.2 b0 dk lg u0 u1 S m M) := by
 have hll := hL.lt
 have hdl := hD.lt
 have hfr := RFrame_ok (hw m (Keep.refl _ _)) (by omega)
 have r5 : ∀ T, Rd (m ++ T) lg (0 + 5) (.bool L.down) := fun T => Rd.old T ⟨_, hL.cells, rfl⟩
 refine ACall.start Try.func63 rfl rfl ?_
 unfold addF
 rcases rdyF_cases L p with ⟨hd, hr⟩ | ⟨hd, hpl, hr⟩ | ⟨hd, hpl, hr⟩
 ·rw [hr, if_pos (by decide)]
  rw [hd] at r5
  (repeat (first|(with_reducible refine AWo.cons ?_)|((with_reducible refine Step.id ?_);first|((with_reducible apply Step.move);exact rfl;exact rfl)|((with_reducible apply Step.assign);exact rfl;exact rfl)|((with_reducible apply Step.load);exact rfl;((decide +kernel));exact rfl;((exact r5 _)))|((with_reducible apply Step.field (k := 5));exact rfl;((decide +kernel));exact rfl)|((with_reducible apply Step.nilp);exact rfl;exact rfl))|(with_reducible first|apply AWo.nil|apply AW.seq|apply Then.n|apply AW.regL)|((with_reducible apply AW.condT);exact rfl;((rfl)))))
  (refine AW.ret ?_; (repeat (first | refine Then.r ?_ | refine InBlk.r ?_)))
  rw [List.append_nil]
  exact ⟨_, rfl, rfl, RDLQ.of hL hS (RkQ.refl' hD)⟩
 ·rw [hr, if_pos (by decide)]
  rw [hd] at r5
  (repeat (first|(with_reducible refine AWo.cons ?_)|((with_reducible refine Step.id ?_);first|((with_reducible apply Step.move);exact rfl;exact rfl)|((with_reducible apply Step.assign);exact rfl;exact rfl)|((with_reducible apply Step.load);exact rfl;((decide +kernel));exact rfl;((exact r5 _)))|((with_reducible apply Step.field (k := 5));exact rfl;((decide +kernel));exact rfl)|((with_reducible apply Step.nilp);exact rfl;exact rfl))|(with_reducible first|apply AWo.nil|apply AW.seq|apply Then.n|apply AW.regL|apply AW.skip)|((with_reducible apply AW.condF);exact rfl;((rfl)))))
  ((with_reducible apply Step.callF fit);exact rfl;exact Try.func20;exact rfl;exact rfl;((rw [List.append_nil];exact hfr)))
  rintro r1 M1 (⟨_, rfl, rfl⟩ | ⟨hc, _⟩)
  ·(repeat (first|(with_reducible refine AWo.cons ?_)|((with_reducible refine Step.id ?_);first|((with_reducible apply Step.move);exact rfl;exact rfl)|((with_reducible apply Step.assign);exact rfl;exact rfl)|((with_reducible apply Step.neq);exact rfl;exact rfl;exact rfl)|((with_reducible apply Step.extract);exact rfl;exact rfl;exact rfl))|(with_reducible first|apply AWo.nil|apply AW.seq|apply Then.n|apply AW.regL)|((with_reducible apply AW.condT);exact rfl;((rfl)))))
   (refine AW.ret ?_; (repeat (first | refine Then.r ?_ | refine InBlk.r ?_)))
   rw [List.append_nil]
   exact ⟨_, rfl, rfl, RDLQ.of hL hS (RkQ.refl' hD)⟩
  ·omega
 ·rw [hr, if_neg (fun e => e rfl)]
  rw [hd] at r5
  (repeat (first|(with_reducible refine AWo.cons ?_)|((with_reducible refine Step.id ?_);first|((with_reducible apply Step.move);exact rfl;exact rfl)|((with_reducible apply Step.assign);exact rfl;exact rfl)|((with_reducible apply Step.load);exact rfl;((decide +kernel));exact rfl;((exact r5 _)))|((with_reducible apply Step.field (k := 5));exact rfl;((decide +kernel));exact rfl)|((with_reducible apply Step.nilp);exact rfl;exact rfl))|(with_reducible first|apply AWo.nil|apply AW.seq|apply Then.n|apply AW.regL|apply AW.skip)|((with_reducible apply AW.condF);exact rfl;((rfl)))))
  ((with_reducible apply Step.callF fit);exact rfl;exact Try.func20;exact rfl;exact rfl;((rw [List.append_nil];exact hfr)))
  rintro r1 M1 (⟨hc, _⟩ | ⟨_, u, rfl, ⟨N1, hN1⟩, hu⟩)
  ·omega
  have hus : SlV u := hu.slv
  have hD1 : RDiskAt M1 b0 dk D u0 u1 := by rw [hN1]; exact hD.old _
  have hM1l : m.length ≤ M1.length := by rw [hN1, List.length_append]; omega
  have q0 := fun T => hL.rd N1 T 0 _ rfl
  have q1 := fun T => hL.rd N1 T (0 + 1) _ rfl
  rw [← hN1] at q0 q1
  rw [← List.append_nil M1]
  (repeat' (first|(with_reducible refine AWo.cons ?_)|((with_reducible refine Step.id ?_);first|((with_reducible apply Step.move);exact rfl;exact rfl)|((with_reducible apply Step.assign);exact rfl;exact rfl)|((with_reducible apply Step.load);exact rfl;((decide +kernel));exact rfl;((first|exact q0 _|exact q1 _)))|((with_reducible apply Step.field0);exact rfl;((decide +kernel));exact rfl)|((with_reducible apply Step.field (k := 1));exact rfl;((decide +kernel));exact rfl)|((with_reducible apply Step.neq);exact rfl;exact rfl;exact rfl)|((with_reducible apply Step.nilp);exact rfl;exact rfl)|((with_reducible apply Step.extract);exact rfl;exact rfl;exact rfl))|(with_reducible first|apply AWo.nil|apply AW.seq|apply Then.n|apply AW.regL)|((with_reducible apply AW.drawL fit);((decide +kernel)))|(with_reducible apply AW.skip)|((with_reducible apply AW.condF);exact rfl;((rfl)))))
  all_goals
   ((with_reducible apply Step.callF fit);exact rfl;exact Try.func77;exact rfl;exact rfl;((rw [List.append_nil];exact RAppend_ok (p := frB p) (L.at_ : Nat) hD1 (by omega) (fun M' hk => (Row.keep hu fun j hj hn => hk.get j hj (fun e => by have := hu.ge_of hn;omega)).byts (by have := hk.len;omega)) (by rw [frB_len];omega))))
   rintro r7 M7 ⟨rfl, hQ7⟩
   have hQ7 := RkQ.after (show Keep (dkD dk u0 u1) m M1 by rw [hN1]; exact Keep.app _ _ _) hQ7
   by_cases z1 : (apF D (L.at_ : Nat) (frB p)).1 = 0
   ·rw [if_neg (fun e => e z1), z1]
    have hL1 := hL.disk hS (by obtain ⟨_, _, _, k, _⟩ := hQ7; exact k)
    obtain ⟨w0, w1, hD7, hk7, hf7⟩ := hQ7
    have q0 := fun T => hL1.rd [] T 0 _ rfl
    have q1 := fun T => hL1.rd [] T (0 + 1) _ rfl
    rw [List.append_nil] at q0 q1
    rw [← List.append_nil M7]
    (repeat' (first|(with_reducible refine AWo.cons ?_)|((with_reducible refine Step.id ?_);first|((with_reducible apply Step.move);exact rfl;exact rfl)|((with_reducible apply Step.assign);exact rfl;exact rfl)|((with_reducible apply Step.load);exact rfl;((decide +kernel));exact rfl;((first|exact q0 _|exact q1 _)))|((with_reducible apply Step.field0);exact rfl;((decide +kernel));exact rfl)|((with_reducible apply Step.field (k := 1));exact rfl;((decide +kernel));exact rfl)|((with_reducible apply Step.neq);exact rfl;exact rfl;exact rfl)|((with_reducible apply Step.nilp);exact rfl;exact rfl))|(with_reducible first|apply AWo.nil|apply AW.seq|apply Then.n|apply AW.regL)|((with_reducible apply AW.drawL fit);((decide +kernel)))|(with_reducible apply AW.skip)|((with_reducible apply AW.condF);exact rfl;((rfl)))))
    ((with_reducible apply Step.callF fit);exact rfl;exact Try.func78;exact rfl;exact rfl;((rw [List.append_nil];exact RSync_ok (L.at_ : Nat) hD7)))
    rintro r2 M2 ⟨rfl, hQ2⟩
    have hQ2 := RkQ.next hk7 hf7 hQ2
    by_cases z2 : (syF (apF D (L.at_ : Nat) (frB p)).2 (L.at_ : Nat)).1 = 0
    ·rw [if_neg (fun e => e z2), z2]
     obtain ⟨x0, x1, hD2, hk2, hf2⟩ := hQ2
     have hL2 := hL.disk hS hk2
     obtain ⟨X, hX⟩ : ∃ X, X = M2 := ⟨_, rfl⟩
     subst hX
     have hml := hk2.len
     have hlX := hL2.lt
     have hwX : Byts X w p := hw X (hk2.mono fun _ e => .inl e)
     obtain ⟨aw, ow, hws, hwd⟩ := hwX.row
     have q4 := fun (N : AM) T => hL2.rd N T (0 + 4) _ rfl
     have q40 := q4 []
     rw [List.append_nil] at q40
     obtain ⟨pc, hseg, hel⟩ := hL2.cont.recs
     have hsegX := hseg.msub (Sub.vw _ X).m
     rw [← List.append_nil X]
     (repeat' (first|(with_reducible refine AWo.cons ?_)|((with_reducible refine Step.id ?_);first|((with_reducible apply Step.move);exact rfl;exact rfl)|((with_reducible apply Step.assign);exact rfl;exact rfl)|((with_reducible apply Step.load);exact rfl;((decide +kernel));exact rfl;((exact q40 _)))|((with_reducible apply Step.field (k := 4));exact rfl;((decide +kernel));exact rfl)|((with_reducible apply Step.neq);exact rfl;exact rfl;exact rfl)|((with_reducible apply Step.nilp);exact rfl;exact rfl)|((with_reducible apply Step.buildS 0);exact rfl;exact rfl;exact (fun _ _ => bs22z);exact rfl;((first|(simp only [zq7, zq8, zq9, zq0, iv_set, bv_set, iv_rep, bv_rep] <;> rfl)|rfl))))|(with_reducible first|apply AWo.nil|apply AW.seq|apply Then.n|apply AW.regL)|((with_reducible apply AW.drawT fit (T := (.step 0 (.step 1 (.step 2 (.step 3 (.step 6 (.both (.step 4 (.step 5 (.step 7 (.step 8 (.step 9 (.step 10 (.step 11 (.step 12 .done)))))))) (.step 5 (.both (.step 4 (.step 7 (.step 8 (.step 9 (.step 10 (.step 11 (.step 12 .done))))))) (.step 7 (.both (.step 4 (.step 8 (.step 9 (.step 10 (.step 11 (.step 12 .done)))))) (.step 8 (.step 4 (.step 9 (.step 10 (.step 11 (.step 12 .done))))))))))))))))));((decide +kernel)))|((with_reducible apply AWt.step);exact rfl)|(with_reducible apply AW.skip)|((with_reducible apply AW.condF);exact rfl;((rfl)))|refine AWt.both ?_ ?_))
     all_goals
      ((with_reducible apply Step.appRow2 (s := 1) (n := 0) (xl := p.length) (b0 := X.length) (c := []) (new := by8 p));exact rfl;exact rfl;exact (.inr ⟨X.length + 0, .own, 1, by omega, rfl, by rw [get_app];rfl, by simp, .inl rfl⟩);exact hws;exact (fun h => RdL.old _ (hwd h));exact el22;exact un22;((rw [by8_len, Nat.mul_one]));exact (by8_all _);exact rfl;((omega));exact rfl;((simp)))
      intro u2 M3 hu2 hml3 hk3 _
      rw [List.nil_append, Nat.zero_add] at hu2
      obtain ⟨N3, hN3⟩ := pre_keep (m0 := X) ⟨_, rfl⟩ hml3 fun j hj => hk3 j (by simp; omega) (by intro n' c' e; simp only [Value.slice.injEq, Option.some.injEq, Addr.mk.injEq] at e; omega)
      have hus2 : SlV u2 := hu2.slv
      clear hml3 hk3
      have q43 := q4 N3
      rw [← hN3] at q43
      rw [← List.append_nil M3]
      (repeat' (first|((with_reducible refine Step.id ?_);first|((with_reducible apply Step.load);exact rfl;((decide +kernel));exact rfl;((exact q43 _)))|((with_reducible apply Step.buildS 0);exact rfl;exact rfl;exact (fun _ _ => bs27);exact rfl;((first|(simp only [zq7, zq8, zq9, zq0, iv_set, bv_set, iv_rep, bv_rep] <;> rfl)|rfl))))|((with_reducible apply AWt.step);exact rfl)|refine AWt.both ?_ ?_))
      all_goals
       ((with_reducible apply Step.appSeg (s := 1) (n := L.c.recs.length) (xl := 1) (b0 := 0) (c := pc) (new := [u2]));exact rfl;exact rfl;((rw [hN3];exact (hsegX.old N3).old _));exact (Sl.mk (Nat.le_refl _));exact (fun _ => RdL.new rfl rfl);exact el27;exact un27;exact rfl;((omega));((rw [List.all_cons, hus2.one.1];rfl));exact rfl;((omega));exact rfl;((omega)))
       intro rv2 M4 hr4 hml4 hk4 hn4
       have hus4 := hr4.slv.one
       have hlg3 : (M3 ++ [some { cells := [u2] }])[lg]? = some (some { cells := rlc dk (L.at_ : Nat) (L.c.gen : Nat) sv rv L.down }) := by rw [hN3]; exact get_old _ (get_old _ hL2.cells)
       have hrvS : ∀ j, ¬ NotB rv j → (S j ∧ j < m.length) ∧ j ≠ lg := fun j hj => by
        obtain ⟨_, b, hb, _⟩ := hseg.at_ hj
        exact (vw_some.1 hb).1
       have hnrv : NotB rv lg := Classical.byContradiction fun hc => (hrvS lg hc).2 rfl
       have hM3l : M3.length = X.length + N3.length := by rw [hN3, List.length_append]
       have hlg4 : M4[lg]? = some (some { cells := rlc dk (L.at_ : Nat) (L.c.gen : Nat) sv rv L.down }) := by rw [hk4 lg (by simp only [List.length_append]; omega) hnrv]; exact hlg3
       rw [← List.append_nil M4]
       (repeat' (first|((with_reducible refine Step.id ?_);first|((with_reducible apply Step.field (k := 4));exact rfl;((decide +kernel));exact rfl)|((with_reducible apply Step.nilp);exact rfl;exact rfl))|((with_reducible apply AWt.step);exact rfl)))
       ((with_reducible apply Step.storeAt);exact rfl;exact rfl;exact (get_old [] hlg4);((decide +kernel));exact rfl;((show 0 + 4 < 6;omega));exact hus4.2;exact hus4.1)
       (repeat' (first|(with_reducible refine AWo.cons ?_)|((with_reducible refine Step.id ?_);((with_reducible apply Step.assign);exact rfl;exact rfl))|(with_reducible first|apply AWo.nil|apply AW.seq|apply Then.n|apply AW.regL|apply AWt.done)))
       (refine AW.ret ?_; (repeat (first | refine Then.r ?_ | refine InBlk.r ?_)))
       rw [List.append_nil]
       refine ⟨_, rfl, rfl, ?_⟩
       rw [List.length_append] at hml4
       have hkX : ∀ j, j < X.length → NotB rv j → M4[j]? = X[j]? := fun j hj hn => by rw [hk4 j (by rw [List.length_append]; omega) hn, hN3, List.append_assoc, List.getElem?_append_left hj]
       have hps := PaysS.push (p := p) hseg hel ⟨N3 ++ [some { cells := [u2] }], by rw [hN3, List.append_assoc]⟩ (hu2.old [some { cells := [u2] }]) (by omega) hr4 (by rw [List.length_append]; exact hml4) hk4 hn4
       have hlgn : ∀ j, j ≠ lg → (M4.set lg (some { cells := (rlc dk (L.at_ : Nat) (L.c.gen : Nat) sv rv L.down).set (0 + 4) rv2 }))[j]? = M4[j]? := fun j hj => List.getElem?_set_ne (Ne.symm hj)
       have hdX : ∀ j, dkD dk x0 x1 j → j < X.length ∧ ¬ (S j ∧ j < m.length) := fun j hj => by
        obtain ⟨_, b, hb, _⟩ := hD2.at_ hj
        refine ⟨(List.getElem?_eq_some_iff.1 hb).1, fun e => ?_⟩
        exact hf2 j e.2 (fun e2 => hS j e2 e.1) hj
       have hlb := hL2.lb
       refine ⟨x0, x1, sv, rv2, fun j => (S j ∧ j < m.length) ∧ j < X.length ∨ X.length ≤ j, ?_, ⟨List.getElem?_set_self (by omega), .inl ⟨hL2.ins, hlX⟩, ⟨?_, ?_, ?_⟩, ?_, hL2.a2⟩, ?_, ?_, ?_, hf2⟩
       ·refine hD2.keep fun j b hb hj _ => ?_
        obtain ⟨d1, d2⟩ := hdX j hj
        rw [hlgn j (fun e => d2 (by rw [e]; exact hL2.ins)), hkX j d1 (Classical.byContradiction fun e => d2 (hrvS j e).1)]
        exact hb
       ·have hsn := hL2.cont.snap
        rcases hsn with hsn | ⟨a, kd, sz, y1, y2, y3, y4, y5⟩
        ·exact .inl hsn
        ·obtain ⟨z3, z4⟩ := vw_some.1 y3
         have hal := (List.getElem?_eq_some_iff.1 z4).1
         refine .inr ⟨a, kd, sz, y1, y2, vw_some.2 ⟨⟨.inl ⟨z3.1, hal⟩, z3.2⟩, ?_⟩, y4, y5⟩
         rw [hlgn a z3.2, hkX a hal (hL2.cont.sep a fun hn => hn _ _ y2)]
         exact z4
       ·refine hps.keep fun j b hb hj _ => ?_
        obtain ⟨z3, z4⟩ := vw_some.1 hb
        have hjl : j ≠ lg := by
         rcases z3 with z3 | z3
         ·exact z3.1.2
         ·omega
        refine vw_some.2 ⟨⟨z3.imp (fun e => ⟨e.1.1, e.2⟩) id, hjl⟩, by rw [hlgn j hjl]; exact z4⟩
       ·intro j hj
        have hjl := hL2.cont.snap.lt_of hj
        rw [vw_len] at hjl
        exact NotB.row hr4 (hn4 j (by rw [List.length_append]; omega))
       ·rw [List.length_set]
        omega
       ·rintro j (hj | hj) hd
        ·exact (hdX j hd).2 hj.1
        ·have := (hdX j hd).1; omega
       ·rintro j (hj | hj)
        ·exact .inl hj.1.1
        ·exact .inr (by omega)
       ·refine ⟨by rw [List.length_set]; omega, fun j hj hn => ?_⟩
        rw [hlgn j (fun e => hn (.inr (by rw [e]; exact hL2.ins.1))), hkX j (by omega) (Classical.byContradiction fun e => hn (.inr (hrvS j e).1.1)), hk2.get j hj fun e => hn (.inl e)]
    ·rw [if_pos z2]
     obtain ⟨hL2, hF⟩ := RDLQ.met (syF (apF D (L.at_ : Nat) (frB p)).2 (L.at_ : Nat)).1 hL hS hQ2
     generalize (syF (apF D (L.at_ : Nat) (frB p)).2 (L.at_ : Nat)).1 = e at *
     rw [← List.append_nil M2]
     (repeat (first|(with_reducible refine AWo.cons ?_)|((with_reducible refine Step.id ?_);first|((with_reducible apply Step.move);exact rfl;exact rfl)|((with_reducible apply Step.assign);exact rfl;exact rfl)|((with_reducible apply Step.neq);exact rfl;exact rfl;exact rfl))|(with_reducible first|apply AWo.nil|apply AW.seq|apply Then.n|apply AW.regL)|((with_reducible apply AW.condT);exact rfl;(((simp only [zq1, zq2, zq3, zq4, zq5, zq6];first|assumption|omega))))))
     ((with_reducible apply Step.callF fit);exact rfl;exact Try.func124;exact rfl;exact rfl;((rw [List.append_nil];exact ends_ok e hL2)))
     rintro r3 M3 ⟨rfl, rfl⟩
     rw [← List.append_nil (M2.set _ _)]
     (repeat (first|(with_reducible refine AWo.cons ?_)|((with_reducible refine Step.id ?_);((with_reducible apply Step.assign);exact rfl;exact rfl))|(with_reducible first|apply AWo.nil|apply Then.n)))
     (refine AW.ret ?_; (repeat (first | refine Then.r ?_ | refine InBlk.r ?_)))
     rw [List.append_nil]
     exact ⟨_, rfl, rfl, hF⟩
   ·rw [if_pos z1]
    obtain ⟨hL1, hF⟩ := RDLQ.met (apF D (L.at_ : Nat) (frB p)).1 hL hS hQ7
    generalize (apF D (L.at_ : Nat) (frB p)).1 = e at *
    rw [← List.append_nil M7]
    (repeat (first|(with_reducible refine AWo.cons ?_)|((with_reducible refine Step.id ?_);first|((with_reducible apply Step.move);exact rfl;exact rfl)|((with_reducible apply Step.assign);exact rfl;exact rfl)|((with_reducible apply Step.neq);exact rfl;exact rfl;exact rfl))|(with_reducible first|apply AWo.nil|apply AW.seq|apply Then.n|apply AW.regL)|((with_reducible apply AW.condT);exact rfl;(((simp only [zq1, zq2, zq3, zq4, zq5, zq6];first|assumption|omega))))))
    ((with_reducible apply Step.callF fit);exact rfl;exact Try.func124;exact rfl;exact rfl;((rw [List.append_nil];exact ends_ok e hL1)))
    rintro r2 M2 ⟨rfl, rfl⟩
    rw [← List.append_nil (M7.set _ _)]
    (repeat (first|(with_reducible refine AWo.cons ?_)|((with_reducible refine Step.id ?_);((with_reducible apply Step.assign);exact rfl;exact rfl))|(with_reducible first|apply AWo.nil|apply Then.n)))
    (refine AW.ret ?_; (repeat (first | refine Then.r ?_ | refine InBlk.r ?_)))
    rw [List.append_nil]
    exact ⟨_, rfl, rfl, hF⟩
structure WI (m0 : AM) (base : List (Nat × Value)) (pv : Nat → Option Value) (p : List UInt8) (cs : Value → List Value) (u : Value) (a b : Nat) (L : Nat → Bool) (t : Fm) (M : AM) : Prop where
 len : m0.length ≤ M.length
 keep : ∀ j, j < m0.length → M[j]? = m0[j]?
 old : ∀ e ∈ base, t e.1 = some e.2
 pure : ∀ j v, pv j = some v → L j = true → t (22 + j) = some v
 lit : L 14 = true → t 36 = some (.slice (some ⟨a, 0, none⟩) 0 0) ∧ m0.length ≤ a ∧ a < M.length
 lit7 : L 14 = true → L 16 = false → M[a]? = some (some { cells := [] })
 app : L 16 = true → t 38 = some u ∧ Row M m0.length 1 u (by8 p) p.length
 bld : L 17 = true → t 39 = some (.agg (cs u).toArray) ∧ L 16 = true
 box : L 18 = true → t 5 = some (.pointer (some ⟨b, 0, none⟩)) ∧ m0.length ≤ b ∧ b < M.length
 box0 : L 18 = true → L 19 = false → M[b]? = some (some { cells := [.pointer none, .int .i64 0, .int .i64 0, .slice none 0 0, .slice none 0 0, .bool false] })
 box1 : L 19 = true → M[b]? = some (some { cells := cs u }) ∧ L 18 = true ∧ L 17 = true
 bx14 : L 18 = true → L 14 = true → L 16 = false → a ≠ b
 bx16 : L 18 = true → L 16 = true → NotOf u b
 c16 : L 16 = true → L 14 = true
section
variable {m0 M : AM} {base : List (Nat × Value)} {pv : Nat → Option Value} {p : List UInt8} {cs : Value → List Value} {u : Value} {a b : Nat} {L : Nat → Bool} {t : Fm}
theorem WI.start (h : ∀ e ∈ base, t e.1 = some e.2) : WI m0 base pv p cs u a b (fun _ => false) t m0 where
 len := Nat.le_refl _
 keep := fun _ _ => rfl
 old := h
 pure := fun _ _ _ q => by cases q
 lit := fun q => by cases q
 lit7 := fun q => by cases q
 app := fun q => by cases q
 bld := fun q => by cases q
 box := fun q => by cases q
 box0 := fun q => by cases q
 box1 := fun q => by cases q
 bx14 := fun q => by cases q
 bx16 := fun q => by cases q
 c16 := fun q => by cases q
theorem WI.put (h : WI m0 base pv p cs u a b L t M) (hb : ∀ e ∈ base, e.1 < 22 ∧ e.1 ≠ 5) {j : Nat} {v : Value} (hv : pv j = some v) (hj : j < 14 ∨ j = 15) : WI m0 base pv p cs u a b (upL L j) (Abs.put t (22 + j) v) M where
 len := h.len
 keep := h.keep
 old := fun e he => by rw [put_ne t v (by have := (hb e he).1; omega)]; exact h.old e he
 pure := fun k w hw hk => by
  by_cases e : k = j
  ·subst e
   rw [hv] at hw
   injection hw with hw
   rw [put_same, hw]
  ·rw [upL_ne L e] at hk
   rw [put_ne t v (by omega)]
   exact h.pure k w hw hk
 lit := fun q => by rw [upL_ne L (by omega)] at q; rw [put_ne t v (by omega)]; exact h.lit q
 lit7 := fun q r => by rw [upL_ne L (by omega)] at q r; exact h.lit7 q r
 app := fun q => by rw [upL_ne L (by omega)] at q; rw [put_ne t v (by omega)]; exact h.app q
 bld := fun q => by rw [upL_ne L (by omega)] at q; rw [put_ne t v (by omega), upL_ne L (by omega)]; exact h.bld q
 box := fun q => by rw [upL_ne L (by omega)] at q; rw [put_ne t v (by omega)]; exact h.box q
 box0 := fun q r => by rw [upL_ne L (by omega)] at q r; exact h.box0 q r
 box1 := fun q => by rw [upL_ne L (by omega)] at q; rw [upL_ne L (by omega), upL_ne L (by omega)]; exact h.box1 q
 bx14 := fun q r s => by rw [upL_ne L (by omega)] at q r s; exact h.bx14 q r s
 bx16 := fun q r => by rw [upL_ne L (by omega)] at q r; exact h.bx16 q r
 c16 := fun q => by rw [upL_ne L (by omega)] at q; rw [upL_ne L (by omega)]; exact h.c16 q
theorem WI.setLit (h : WI m0 base pv p cs u a b L t M) (hb : ∀ e ∈ base, e.1 < 22 ∧ e.1 ≠ 5) (hp : pv 14 = none) (h7 : L 16 = false) : WI m0 base pv p cs u M.length b (upL L 14) (Abs.put t 36 (.slice (some ⟨M.length, 0, none⟩) 0 0)) (M ++ [some { cells := [] }]) := by
 have hl := h.len
 exact {
  len := by rw [List.length_append]; omega
  keep := fun j hj => by rw [List.getElem?_append_left (by omega)]; exact h.keep j hj
  old := fun e he => by rw [put_ne t _ (by have := (hb e he).1; omega)]; exact h.old e he
  pure := fun k w hw hk => by
   have e : k ≠ 14 := fun e => by rw [e, hp] at hw; cases hw
   rw [upL_ne L e] at hk
   rw [put_ne t _ (by omega)]
   exact h.pure k w hw hk
  lit := fun _ => ⟨put_same .., hl, by rw [List.length_append]; exact Nat.lt_succ_self _⟩
  lit7 := fun _ _ => by simp
  app := fun q => by rw [upL_ne L (by omega), h7] at q; cases q
  bld := fun q => by rw [upL_ne L (by omega)] at q; have := (h.bld q).2; rw [h7] at this; cases this
  box := fun q => by
   rw [upL_ne L (by omega)] at q
   rw [put_ne t _ (by omega), List.length_append]
   obtain ⟨b1, b2, b3⟩ := h.box q
   exact ⟨b1, b2, by omega⟩
  box0 := fun q r => by rw [upL_ne L (by omega)] at q r; exact get_old _ (h.box0 q r)
  box1 := fun q => by rw [upL_ne L (by omega)] at q; have := (h.bld (h.box1 q).2.2).2; rw [h7] at this; cases this
  bx14 := fun q _ _ => by rw [upL_ne L (by omega)] at q; have := (h.box q).2.2; omega
  bx16 := fun _ q => by rw [upL_ne L (by omega), h7] at q; cases q
  c16 := fun q => by rw [upL_ne L (by omega), h7] at q; cases q }
theorem WI.setApp (h : WI m0 base pv p cs u a b L t M) (hb : ∀ e ∈ base, e.1 < 22 ∧ e.1 ≠ 5) (hp : pv 16 = none) (h4 : L 14 = true) (h7 : L 16 = false) {M' : AM} {u' : Value} (hr : Row M' m0.length 1 u' (by8 p) p.length) (hml : M.length ≤ M'.length) (hk : ∀ j, j < M.length → NotOf (.slice (some ⟨a, 0, none⟩) 0 0) j → M'[j]? = M[j]?) (hk2 : ∀ j, j < M.length → NotOf (.slice (some ⟨a, 0, none⟩) 0 0) j → NotOf u' j) : WI m0 base pv p cs u' a b (upL L 16) (Abs.put t 38 u') M' := by
 have hl := h.len
 have hna : ∀ j, j ≠ a → NotOf (.slice (some ⟨a, 0, none⟩) 0 0) j := fun j hj n c e => by
  simp only [Value.slice.injEq, Option.some.injEq, Addr.mk.injEq] at e
  exact hj e.1.1.symm
 obtain ⟨l1, l2, l3⟩ := h.lit h4
 have h8 : L 17 = false := by
  cases e : L 17 with
  | false => rfl
  | true => have := (h.bld e).2; rw [h7] at this; cases this
 have h10 : L 19 = false := by
  cases e : L 19 with
  | false => rfl
  | true => have := (h.box1 e).2.2; rw [h8] at this; cases this
 exact {
  len := by omega
  keep := fun j hj => by rw [hk j (by omega) (hna j (by omega))]; exact h.keep j hj
  old := fun e he => by rw [put_ne t _ (by have := (hb e he).1; omega)]; exact h.old e he
  pure := fun k w hw hk => by
   have e : k ≠ 16 := fun e => by rw [e, hp] at hw; cases hw
   rw [upL_ne L e] at hk
   rw [put_ne t _ (by omega)]
   exact h.pure k w hw hk
  lit := fun q => by rw [upL_ne L (by omega)] at q; rw [put_ne t _ (by omega)]; exact ⟨l1, l2, by omega⟩
  lit7 := fun _ r => by rw [upL_same] at r; cases r
  app := fun _ => ⟨put_same .., hr⟩
  bld := fun q => by rw [upL_ne L (by omega), h8] at q; cases q
  box := fun q => by
   rw [upL_ne L (by omega)] at q
   rw [put_ne t _ (by omega)]
   obtain ⟨b1, b2, b3⟩ := h.box q
   exact ⟨b1, b2, by omega⟩
  box0 := fun q r => by
   rw [upL_ne L (by omega)] at q r
   rw [hk b (h.box q).2.2 (hna b (Ne.symm (h.bx14 q h4 h7)))]
   exact h.box0 q r
  box1 := fun q => by rw [upL_ne L (by omega), h10] at q; cases q
  bx14 := fun _ _ r => by rw [upL_same] at r; cases r
  bx16 := fun q _ => by rw [upL_ne L (by omega)] at q; exact hk2 b (h.box q).2.2 (hna b (Ne.symm (h.bx14 q h4 h7)))
  c16 := fun _ => by rw [upL_ne L (by omega)]; exact h4 }
theorem WI.setBld (h : WI m0 base pv p cs u a b L t M) (hb : ∀ e ∈ base, e.1 < 22 ∧ e.1 ≠ 5) (hp : pv 17 = none) (h7 : L 16 = true) : WI m0 base pv p cs u a b (upL L 17) (Abs.put t 39 (.agg (cs u).toArray)) M := by
 exact {
  len := h.len
  keep := h.keep
  old := fun e he => by rw [put_ne t _ (by have := (hb e he).1; omega)]; exact h.old e he
  pure := fun k w hw hk => by
   have e : k ≠ 17 := fun e => by rw [e, hp] at hw; cases hw
   rw [upL_ne L e] at hk
   rw [put_ne t _ (by omega)]
   exact h.pure k w hw hk
  lit := fun q => by rw [upL_ne L (by omega)] at q; rw [put_ne t _ (by omega)]; exact h.lit q
  lit7 := fun q r => by rw [upL_ne L (by omega)] at q r; exact h.lit7 q r
  app := fun q => by rw [upL_ne L (by omega)] at q; rw [put_ne t _ (by omega)]; exact h.app q
  bld := fun _ => ⟨put_same .., by rw [upL_ne L (by omega)]; exact h7⟩
  box := fun q => by rw [upL_ne L (by omega)] at q; rw [put_ne t _ (by omega)]; exact h.box q
  box0 := fun q r => by rw [upL_ne L (by omega)] at q r; exact h.box0 q r
  box1 := fun q => by
   rw [upL_ne L (by omega)] at q
   obtain ⟨b1, b2, _⟩ := h.box1 q
   exact ⟨b1, by rw [upL_ne L (by omega)]; exact b2, upL_same ..⟩
  bx14 := fun q r s => by rw [upL_ne L (by omega)] at q r s; exact h.bx14 q r s
  bx16 := fun q r => by rw [upL_ne L (by omega)] at q r; exact h.bx16 q r
  c16 := fun q => by rw [upL_ne L (by omega)] at q; rw [upL_ne L (by omega)]; exact h.c16 q }
theorem WI.setBox (h : WI m0 base pv p cs u a b L t M) (hb : ∀ e ∈ base, e.1 < 22 ∧ e.1 ≠ 5) (hp : pv 18 = none) (h9 : L 18 = false) : WI m0 base pv p cs u a M.length (upL L 18) (Abs.put t 5 (.pointer (some ⟨M.length, 0, none⟩))) (M ++ [some { cells := [.pointer none, .int .i64 0, .int .i64 0, .slice none 0 0, .slice none 0 0, .bool false] }]) := by
 have hl := h.len
 have h10 : L 19 = false := by
  cases e : L 19 with
  | false => rfl
  | true => have := (h.box1 e).2.1; rw [h9] at this; cases this
 exact {
  len := by rw [List.length_append]; omega
  keep := fun j hj => by rw [List.getElem?_append_left (by omega)]; exact h.keep j hj
  old := fun e he => by rw [put_ne t _ (hb e he).2]; exact h.old e he
  pure := fun k w hw hk => by
   have e : k ≠ 18 := fun e => by rw [e, hp] at hw; cases hw
   rw [upL_ne L e] at hk
   rw [put_ne t _ (by omega)]
   exact h.pure k w hw hk
  lit := fun q => by
   rw [upL_ne L (by omega)] at q
   rw [put_ne t _ (by omega), List.length_append]
   obtain ⟨b1, b2, b3⟩ := h.lit q
   exact ⟨b1, b2, by omega⟩
  lit7 := fun q r => by rw [upL_ne L (by omega)] at q r; exact get_old _ (h.lit7 q r)
  app := fun q => by
   rw [upL_ne L (by omega)] at q
   rw [put_ne t _ (by omega)]
   exact ⟨(h.app q).1, (h.app q).2.old _⟩
  bld := fun q => by rw [upL_ne L (by omega)] at q; rw [put_ne t _ (by omega), upL_ne L (by omega)]; exact h.bld q
  box := fun _ => ⟨put_same .., hl, by rw [List.length_append]; exact Nat.lt_succ_self _⟩
  box0 := fun _ _ => by simp
  box1 := fun q => by rw [upL_ne L (by omega), h10] at q; cases q
  bx14 := fun _ r _ => by rw [upL_ne L (by omega)] at r; have := (h.lit r).2.2; omega
  bx16 := fun _ r => by rw [upL_ne L (by omega)] at r; exact (h.app r).2.far (Nat.le_refl _)
  c16 := fun q => by rw [upL_ne L (by omega)] at q; rw [upL_ne L (by omega)]; exact h.c16 q }
theorem WI.setSto (h : WI m0 base pv p cs u a b L t M) (hp : pv 19 = none) (h8 : L 17 = true) (h9 : L 18 = true) : WI m0 base pv p cs u a b (upL L 19) t (M.set b (some { cells := cs u })) := by
 have hl := h.len
 have h7 := (h.bld h8).2
 obtain ⟨x1, x2, x3⟩ := h.box h9
 exact {
  len := by rw [List.length_set]; exact hl
  keep := fun j hj => by rw [List.getElem?_set_ne (by omega)]; exact h.keep j hj
  old := h.old
  pure := fun k w hw hk => by
   have e : k ≠ 19 := fun e => by rw [e, hp] at hw; cases hw
   rw [upL_ne L e] at hk
   exact h.pure k w hw hk
  lit := fun q => by rw [upL_ne L (by omega)] at q; rw [List.length_set]; exact h.lit q
  lit7 := fun _ r => by rw [upL_ne L (by omega), h7] at r; cases r
  app := fun _ => ⟨(h.app h7).1, (h.app h7).2.set (h.bx16 h9 h7)⟩
  bld := fun _ => ⟨(h.bld h8).1, by rw [upL_ne L (by omega)]; exact h7⟩
  box := fun _ => ⟨x1, x2, by rw [List.length_set]; exact x3⟩
  box0 := fun _ r => by rw [upL_same] at r; cases r
  box1 := fun _ => ⟨List.getElem?_set_self x3, by rw [upL_ne L (by omega)]; exact h9, by rw [upL_ne L (by omega)]; exact h8⟩
  bx14 := fun _ _ r => by rw [upL_ne L (by omega), h7] at r; cases r
  bx16 := fun _ _ => h.bx16 h9 h7
  c16 := fun q => by rw [upL_ne L (by omega)] at q; rw [upL_ne L (by omega)]; exact h.c16 q }
end
def wiV (lg dk : Nat) (a g : Int) (w : Value) : Nat → Option Value
 | 0 => some (.pointer (some ⟨lg, 0, none⟩))
 | 1 => some (.pointer (some ⟨lg, 0, none⟩))
 | 2 => some (.pointer (some ⟨lg, 0, none⟩))
 | 3 => some (.pointer (some ⟨dk, 0, none⟩))
 | 4 => some (.pointer (some ⟨lg, 0, none⟩))
 | 5 => some (.pointer (some ⟨lg, 0, none⟩))
 | 6 => some (.pointer (some ⟨lg, 0 + 1, none⟩))
 | 7 => some (.int .i64 a)
 | 8 => some (.int .i64 (1 - a))
 | 9 => some (.pointer (some ⟨lg, 0, none⟩))
 | 10 => some (.pointer (some ⟨lg, 0, none⟩))
 | 11 => some (.pointer (some ⟨lg, 0 + 2, none⟩))
 | 12 => some (.int .i64 g)
 | 13 => some (.int .i64 (g + 1))
 | 15 => some w
 | _ => none
theorem bl188r {d : Nat} {n g : Int} {a : Value} (ha : SlV a) : abuild Try.prog 188 [(0, .pointer (some ⟨d, 0, none⟩)), (1, .int .i64 n), (2, .int .i64 g), (3, a)] = some (.agg #[.pointer (some ⟨d, 0, none⟩), .int .i64 n, .int .i64 g, a, .slice none 0 0, .bool false]) := by
 rcases ha with rfl | ⟨q, n, c, rfl⟩ <;> kernel_rfl
theorem fo188a : foB Try.prog 188 0 = some 0 := by kernel_rfl
theorem fo188b : foB Try.prog 188 1 = some 1 := by kernel_rfl
theorem fo188c : foB Try.prog 188 2 = some 2 := by kernel_rfl
theorem rlc_one {dk : Nat} {a g : Int} {u v : Value} {d : Bool} (hu : SlV u) (hv : SlV v) : (rlc dk a g u v d).all (·.oneCell') = true := by
 simp only [rlc, List.all_cons, hu.one.1, hv.one.1]
 rfl
theorem RLogIn.cellsK {S : Nat → Prop} {m M : AM} {lg dk : Nat} {L : Lg} {sv rv : Value} (h : RLogIn S m lg dk L sv rv) (hk : ∀ j, j < m.length → M[j]? = m[j]?) (j : Nat) (v : Value) (hv : (rlc dk (L.at_ : Nat) (L.c.gen : Nat) sv rv L.down)[j]? = some v) : Rd M lg j v := ⟨_, by rw [hk lg h.lt]; exact h.cells, hv⟩
set_option maxHeartbeats 16000000 in
set_option maxRecDepth 100000 in
theorem RRewrite_ok {m : AM} {S : Nat → Prop} {b0 dk lg : Nat} {D : Dk} {u0 u1 sv rv w : Value} {L : Lg} {p : List UInt8} (hD : RDiskAt m b0 dk D u0 u1) (hb0 : b0 ≤ m.length) (hL : RLogIn S m lg dk L sv rv) (hS : ∀ j, dkD dk u0 u1 j → ¬ S j) (hw : Byts m w p) (hlen : p.length ≤ 1000000) (hg : L.c.gen ≤ 4611686018427387904) :
  ACall Try.prog 64 #[.pointer (some ⟨lg, 0, none⟩), w] m (fun r M => r = .int .i64 (rwF D L p).1 ∧ RDLQ (rwF D L p).2.1 (rwF D L p).2.2 b0 dk lg u0 u1 S m M) := by
 have hll := hL.lt
 have hdl := hD.lt
 have ha2 := hL.a2
 have hnb : ∀ j, dkD dk u0 u1 j → j < m.length := fun j hj => by
  obtain ⟨_, b, hb, _⟩ := hD.at_ hj
  exact (List.getElem?_eq_some_iff.1 hb).1
 have r5 : ∀ T, Rd (m ++ T) lg (0 + 5) (.bool L.down) := fun T => Rd.old T ⟨_, hL.cells, rfl⟩
 have r2 : ∀ T, Rd (m ++ T) lg (0 + 2) (.int .i64 (L.c.gen : Nat)) := fun T => Rd.old T ⟨_, hL.cells, rfl⟩
 obtain ⟨aw, ow, hws, hwd⟩ := hw.row
 refine ACall.start Try.func64 rfl rfl ?_
 unfold rwF
 rcases rdyF_cases L p with ⟨hd, hr⟩ | ⟨hd, hpl, hr⟩ | ⟨hd, hpl, hr⟩
 ·rw [hr, if_pos (by decide)]
  rw [hd] at r5
  (repeat (first|(with_reducible refine AWo.cons ?_)|((with_reducible refine Step.id ?_);first|((with_reducible apply Step.move);exact rfl;exact rfl)|((with_reducible apply Step.assign);exact rfl;exact rfl)|((with_reducible apply Step.load);exact rfl;((decide +kernel));exact rfl;((exact r5 _)))|((with_reducible apply Step.field (k := 5));exact rfl;((decide +kernel));exact rfl)|((with_reducible apply Step.nilp);exact rfl;exact rfl))|(with_reducible first|apply AWo.nil|apply AW.seq|apply Then.n|apply AW.regL|apply AW.block)|((with_reducible apply AW.condT);exact rfl;((rfl)))))
  (refine AW.ret ?_; (repeat (first | refine Then.r ?_ | refine InBlk.r ?_)))
  rw [List.append_nil]
  exact ⟨_, rfl, rfl, RDLQ.of hL hS (RkQ.refl' hD)⟩
 ·rw [hr, if_pos (by decide)]
  rw [hd] at r5
  (repeat (first|(with_reducible refine AWo.cons ?_)|((with_reducible refine Step.id ?_);first|((with_reducible apply Step.move);exact rfl;exact rfl)|((with_reducible apply Step.assign);exact rfl;exact rfl)|((with_reducible apply Step.load);exact rfl;((decide +kernel));exact rfl;((exact r5 _)))|((with_reducible apply Step.field (k := 5));exact rfl;((decide +kernel));exact rfl)|((with_reducible apply Step.gtr);exact rfl;exact rfl;exact rfl)|((with_reducible apply Step.len);exact rfl;((assumption));((decide +kernel));exact rfl)|((with_reducible apply Step.nilp);exact rfl;exact rfl))|(with_reducible first|apply AWo.nil|apply AW.seq|apply Then.n|apply AW.regL|apply AW.block)|((with_reducible apply AW.condT);exact rfl;(((simp only [zq1, zq2, zq3, zq4, zq5, zq6];first|assumption|omega))))|((with_reducible apply AW.condF);exact rfl;((rfl)))))
  (refine AW.ret ?_; (repeat (first | refine Then.r ?_ | refine InBlk.r ?_)))
  rw [List.append_nil]
  exact ⟨_, rfl, rfl, RDLQ.of hL hS (RkQ.refl' hD)⟩
 ·rw [hr, if_neg (fun e => e rfl)]
  rw [hd] at r5
  by_cases zg : L.c.gen = 4611686018427387904
  ·rw [if_pos zg]
   (repeat (first|(with_reducible refine AWo.cons ?_)|((with_reducible refine Step.id ?_);first|((with_reducible apply Step.move);exact rfl;exact rfl)|((with_reducible apply Step.assign);exact rfl;exact rfl)|((with_reducible apply Step.load);exact rfl;((decide +kernel));exact rfl;((first|exact r5 _|exact r2 _)))|((with_reducible apply Step.field (k := 2));exact rfl;((decide +kernel));exact rfl)|((with_reducible apply Step.field (k := 5));exact rfl;((decide +kernel));exact rfl)|((with_reducible apply Step.gtr);exact rfl;exact rfl;exact rfl)|((with_reducible apply Step.eql);exact rfl;exact rfl;exact rfl)|((with_reducible apply Step.len);exact rfl;((assumption));((decide +kernel));exact rfl)|((with_reducible apply Step.nilp);exact rfl;exact rfl))|(with_reducible first|apply AWo.nil|apply AW.seq|apply Then.n|apply AW.regL|apply AW.block)|((with_reducible apply AW.condT);exact rfl;(((simp only [zq1, zq2, zq3, zq4, zq5, zq6];first|assumption|omega))))|((with_reducible apply AW.condF);exact rfl;((first|rfl|(simp only [zq1, zq2, zq3, zq4, zq5, zq6];first|assumption|omega))))))
   (refine AW.ret ?_; (repeat (first | refine Then.r ?_ | refine InBlk.r ?_)))
   rw [List.append_nil]
   exact ⟨_, rfl, rfl, RDLQ.of hL hS (RkQ.refl' hD)⟩
  ·rw [if_neg zg]
   (repeat (first|(with_reducible refine AWo.cons ?_)|((with_reducible refine Step.id ?_);first|((with_reducible apply Step.move);exact rfl;exact rfl)|((with_reducible apply Step.assign);exact rfl;exact rfl)|((with_reducible apply Step.load);exact rfl;((decide +kernel));exact rfl;((first|exact r5 _|exact r2 _)))|((with_reducible apply Step.field (k := 2));exact rfl;((decide +kernel));exact rfl)|((with_reducible apply Step.field (k := 5));exact rfl;((decide +kernel));exact rfl)|((with_reducible apply Step.gtr);exact rfl;exact rfl;exact rfl)|((with_reducible apply Step.eql);exact rfl;exact rfl;exact rfl)|((with_reducible apply Step.len);exact rfl;((assumption));((decide +kernel));exact rfl)|((with_reducible apply Step.nilp);exact rfl;exact rfl))|(with_reducible apply AWo.nil)|((fail_if_success (with_reducible refine AW.atR (id := 7) ?_));(with_reducible apply AW.seq))|(with_reducible first|apply Then.n|apply AW.regL|apply AW.block|apply InBlk.n|apply AW.skip)|((with_reducible apply AW.condF);exact rfl;((first|rfl|(simp only [zq1, zq2, zq3, zq4, zq5, zq6];first|assumption|omega))))))
   rw [List.append_nil]
   refine AW.seq ?_
   refine AW.join (fun t' M' => ∃ u b, m.length ≤ b ∧ m.length ≤ M'.length ∧ (∀ j, j < m.length → M'[j]? = m[j]?) ∧ M'[b]? = some (some { cells := rlc dk (1 - (L.at_ : Nat)) ((L.c.gen : Nat) + 1) u (.slice none 0 0) false }) ∧ Row M' m.length 1 u (by8 p) p.length ∧ NotOf u b ∧ All (fun i v => t' i = some v) [(5, .pointer (some ⟨b, 0, none⟩)), (0, .pointer (some ⟨lg, 0, none⟩))]) ?_ ?_
   ·refine AW.anyI fit (fun L' t' M' => ∃ u a b, WI m [(0, .pointer (some ⟨lg, 0, none⟩)), (1, w)] (wiV lg dk (L.at_ : Nat) (L.c.gen : Nat) w) p (fun u => rlc dk (1 - (L.at_ : Nat)) ((L.c.gen : Nat) + 1) u (.slice none 0 0) false) u a b L' t' M') (by decide +kernel) ⟨.bool true, 0, 0, WI.start (fun e he => ?_)⟩ ?_ ?_
    ·simp only [List.mem_cons, List.not_mem_nil, or_false] at he
     rcases he with rfl | rfl <;> rfl
    ·have hbs : ∀ e ∈ [(0, Value.pointer (some ⟨lg, 0, none⟩)), (1, w)], e.1 < 22 ∧ e.1 ≠ 5 := fun e he => by
      simp only [List.mem_cons, List.not_mem_nil, or_false] at he
      rcases he with rfl | rfl <;> simp
     rintro j o ho L' t' M' ⟨u, a, b, hI⟩ hLi hdep
     have rc := hL.cellsK hI.keep
     rcases j with _ | _ | _ | _ | _ | _ | _ | _ | _ | _ | _ | _ | _ | _ | _ | _ | _ | _ | _ | _ | j
     ·injection ho with ho; subst ho
      exact Step.move (x := .tmp 0) (hI.old (0, _) (.head _)) rfl ⟨u, a, b, hI.put hbs (j := 0) rfl (.inl (by decide))⟩
     ·injection ho with ho; subst ho
      have d1 : t' 22 = _ := hI.pure 0 _ rfl (hdep 0 (by decide))
      exact Step.nilp (x := .tmp 22) d1 rfl ⟨u, a, b, hI.put hbs (j := 1) rfl (.inl (by decide))⟩
     ·injection ho with ho; subst ho
      have d1 : t' 23 = _ := hI.pure 1 _ rfl (hdep 1 (by decide))
      exact Step.field0 (x := .tmp 23) d1 fo188a rfl ⟨u, a, b, hI.put hbs (j := 2) rfl (.inl (by decide))⟩
     ·injection ho with ho; subst ho
      have d1 : t' 24 = _ := hI.pure 2 _ rfl (hdep 2 (by decide))
      exact Step.load (x := .tmp 24) d1 (by decide +kernel) rfl (rc 0 _ rfl) ⟨u, a, b, hI.put hbs (j := 3) rfl (.inl (by decide))⟩
     ·injection ho with ho; subst ho
      exact Step.move (x := .tmp 0) (hI.old (0, _) (.head _)) rfl ⟨u, a, b, hI.put hbs (j := 4) rfl (.inl (by decide))⟩
     ·injection ho with ho; subst ho
      have d1 : t' 26 = _ := hI.pure 4 _ rfl (hdep 4 (by decide))
      exact Step.nilp (x := .tmp 26) d1 rfl ⟨u, a, b, hI.put hbs (j := 5) rfl (.inl (by decide))⟩
     ·injection ho with ho; subst ho
      have d1 : t' 27 = _ := hI.pure 5 _ rfl (hdep 5 (by decide))
      exact Step.field (x := .tmp 27) (k := 1) d1 fo188b rfl ⟨u, a, b, hI.put hbs (j := 6) rfl (.inl (by decide))⟩
     ·injection ho with ho; subst ho
      have d1 : t' 28 = _ := hI.pure 6 _ rfl (hdep 6 (by decide))
      exact Step.load (x := .tmp 28) d1 (by decide +kernel) rfl (rc 1 _ rfl) ⟨u, a, b, hI.put hbs (j := 7) rfl (.inl (by decide))⟩
     ·injection ho with ho; subst ho
      have d1 : t' 29 = _ := hI.pure 7 _ rfl (hdep 7 (by decide))
      exact Step.sub rfl d1 (by omega) rfl ⟨u, a, b, hI.put hbs (j := 8) rfl (.inl (by decide))⟩
     ·injection ho with ho; subst ho
      exact Step.move (x := .tmp 0) (hI.old (0, _) (.head _)) rfl ⟨u, a, b, hI.put hbs (j := 9) rfl (.inl (by decide))⟩
     ·injection ho with ho; subst ho
      have d1 : t' 31 = _ := hI.pure 9 _ rfl (hdep 9 (by decide))
      exact Step.nilp (x := .tmp 31) d1 rfl ⟨u, a, b, hI.put hbs (j := 10) rfl (.inl (by decide))⟩
     ·injection ho with ho; subst ho
      have d1 : t' 32 = _ := hI.pure 10 _ rfl (hdep 10 (by decide))
      exact Step.field (x := .tmp 32) (k := 2) d1 fo188c rfl ⟨u, a, b, hI.put hbs (j := 11) rfl (.inl (by decide))⟩
     ·injection ho with ho; subst ho
      have d1 : t' 33 = _ := hI.pure 11 _ rfl (hdep 11 (by decide))
      exact Step.load (x := .tmp 33) d1 (by decide +kernel) rfl (rc 2 _ rfl) ⟨u, a, b, hI.put hbs (j := 12) rfl (.inl (by decide))⟩
     ·injection ho with ho; subst ho
      have d1 : t' 34 = _ := hI.pure 12 _ rfl (hdep 12 (by decide))
      exact Step.add d1 rfl (by omega) rfl ⟨u, a, b, hI.put hbs (j := 13) rfl (.inl (by decide))⟩
     ·injection ho with ho; subst ho
      have h7 : L' 16 = false := by
       cases e : L' 16 with
       | false => rfl
       | true => have := hI.c16 e; rw [hLi] at this; cases this
      exact Step.buildG (ws := []) (by simp [evL]) (fun _ _ => bs22z) rfl ⟨u, _, b, hI.setLit hbs rfl h7⟩
     ·injection ho with ho; subst ho
      exact Step.move (x := .tmp 1) (hI.old (1, _) (.tail _ (.head _))) rfl ⟨u, a, b, hI.put hbs (j := 15) rfl (.inr rfl)⟩
     ·injection ho with ho; subst ho
      have g14 := hdep 14 (by decide)
      have d1 : t' 37 = _ := hI.pure 15 _ rfl (hdep 15 (by decide))
      obtain ⟨l1, l2, l3⟩ := hI.lit g14
      have hwd' : 0 < p.length → RdL M' aw ow (by8 p) := fun h0 => by
       obtain ⟨x, y1, y2⟩ := hwd h0
       exact ⟨x, by rw [hI.keep aw (List.getElem?_eq_some_iff.1 y1).1]; exact y1, y2⟩
      refine Step.appRow2 (x := .tmp 36) (y := .tmp 37) (s := 1) (n := 0) (xl := p.length) (b0 := m.length) (c := []) (new := by8 p) l1 d1 (.inr ⟨a, .own, 1, l2, rfl, hI.lit7 g14 hLi, rfl, .inl rfl⟩) hws hwd' el22 un22 (by rw [by8_len, Nat.mul_one]) (by8_all _) rfl (by omega) rfl hI.len fun u2 M2 g1 g2 g3 g5 => ⟨u2, a, b, hI.setApp hbs rfl g14 hLi (by rw [List.nil_append, Nat.zero_add] at g1; exact g1) g2 g3 g5⟩
     ·injection ho with ho; subst ho
      have d1 : t' 25 = _ := hI.pure 3 _ rfl (hdep 3 (by decide))
      have d2 : t' 30 = _ := hI.pure 8 _ rfl (hdep 8 (by decide))
      have d3 : t' 35 = _ := hI.pure 13 _ rfl (hdep 13 (by decide))
      have g7 := hdep 16 (by decide)
      have d4 := (hI.app g7).1
      exact Step.build (ws := [.pointer (some ⟨dk, 0, none⟩), .int .i64 (1 - (L.at_ : Nat)), .int .i64 ((L.c.gen : Nat) + 1), u]) (by simp [evL, evo, d1, d2, d3, d4]) (bl188r (hI.app g7).2.slv) rfl ⟨u, a, b, hI.setBld hbs rfl g7⟩
     ·injection ho with ho; subst ho
      exact Step.allocG ze188 rfl ⟨u, a, _, hI.setBox hbs rfl hLi⟩
     ·injection ho with ho; subst ho
      have g8 := hdep 17 (by decide)
      have g9 := hdep 18 (by decide)
      exact Step.storeL (x := .tmp 5) (y := .tmp 39) (n := 6) (v := rlc dk (1 - (L.at_ : Nat)) ((L.c.gen : Nat) + 1) u (.slice none 0 0) false) (hI.box g9).1 (hI.bld g8).1 (hI.box0 g9 hLi) rfl sz188 rfl (rlc_one (hI.app (hI.bld g8).2).2.slv (.inl rfl)) (by show 0 + 6 ≤ 6; omega) ⟨u, a, b, hI.setSto rfl g8 g9⟩
     ·simp at ho
    ·rintro L' t' M' hall ⟨u, a, b, hI⟩
     refine Then.n ?_
     obtain ⟨x1, x2, x3⟩ := hI.box (hall 18 (by decide))
     exact ⟨u, b, x2, hI.len, hI.keep, (hI.box1 (hall 19 (by decide))).1, (hI.app (hall 16 (by decide))).2, hI.bx16 (hall 18 (by decide)) (hall 16 (by decide)), x1, hI.old (0, _) (.head _), trivial⟩
   ·rintro t' M' ⟨u, b, hb, hM'l, hkm, hbc, hu, hnu, hsl⟩
    refine AW.weak (fr_all hsl) ?_
    clear hsl
    have hd1 : (1 : Int) - (L.at_ : Nat) = ((1 - L.at_ : Nat) : Int) := by omega
    have hg1 : ((L.c.gen : Nat) : Int) + 1 = ((L.c.gen + 1 : Nat) : Int) := by omega
    rw [hd1, hg1] at hbc
    have hus : SlV u := hu.slv
    obtain ⟨N, hX⟩ := pre_keep (m0 := m) (M := m) ⟨[], (List.append_nil _).symm⟩ hM'l hkm
    have hDX : RDiskAt M' b0 dk D u0 u1 := by rw [hX]; exact hD.old _
    have hbl := (List.getElem?_eq_some_iff.1 hbc).1
    have hct : ContAt M' m.length u (.slice none 0 0) ⟨L.c.gen + 1, p, []⟩ := ⟨hu, PaysS.nil, fun _ _ => NotB.nil⟩
    have hencl : (encB ⟨L.c.gen + 1, p, []⟩).length ≤ 100000000 := by rw [encB_len]; show 20 + (p.length + 8) + 0 ≤ _; omega
    have hwr := Written_ok (d := false) (bc := m.length) (n := 1 - L.at_) (c := ⟨L.c.gen + 1, p, []⟩) hDX (by omega) (S := fun j => m.length ≤ j ∧ j < M'.length) (ContAt.keep hct fun j b hb hj _ => vw_some.2 ⟨⟨hj, (List.getElem?_eq_some_iff.1 hb).1⟩, hb⟩) (fun j hj e => by have := hnb j hj; omega) (by show L.c.gen + 1 ≤ _; omega) hencl (Nat.zero_le _)
    have rdl : ∀ (Y : AM), Y[b]? = some (some { cells := rlc dk ((1 - L.at_ : Nat) : Int) ((L.c.gen + 1 : Nat) : Int) u (.slice none 0 0) false }) → ∀ T, RdL (Y ++ T) b 0 (rlc dk ((1 - L.at_ : Nat) : Int) ((L.c.gen + 1 : Nat) : Int) u (.slice none 0 0) false) := fun Y hY T => RdL.old T ⟨_, hY, fun j v hv => by
     rw [Nat.zero_add]
     exact hv⟩
    have q0 := rdl M' hbc
    rw [← List.append_nil M']
    (repeat (first|(with_reducible refine AWo.cons ?_)|((with_reducible refine Step.id ?_);((with_reducible apply Step.loadL (n := 6));exact rfl;((decide +kernel));((decide +kernel));exact rfl;((exact q0 _));exact rfl;exact rfl))|(with_reducible first|apply AW.seq|apply AW.regL)))
    ((with_reducible apply Step.callF fit);exact rfl;exact Try.func123;exact rfl;exact rfl;((rw [List.append_nil];exact hwr)))
    rintro r1 M1 ⟨rfl, hQ1⟩
    by_cases he : (wrF D ((1 - L.at_ : Nat) : Int) ⟨L.c.gen + 1, p, []⟩).1 = 0
    ·rw [if_neg (fun e => e he), he]
     obtain ⟨w0, w1, a1, k1, f1⟩ := hQ1
     have hk1 : ∀ j, j < M'.length → ¬ dkD dk u0 u1 j → M1[j]? = M'[j]? := fun j h1 h2 => k1.get j h1 h2
     have hM1l := k1.len
     have hlg1 : M1[lg]? = some (some { cells := rlc dk (L.at_ : Nat) (L.c.gen : Nat) sv rv L.down }) := by rw [hk1 lg (by omega) fun e => hS _ e hL.ins, hkm lg hll]; exact hL.cells
     have hb1 : M1[b]? = some (some { cells := rlc dk ((1 - L.at_ : Nat) : Int) ((L.c.gen + 1 : Nat) : Int) u (.slice none 0 0) false }) := by rw [hk1 b hbl fun e => by have := hnb _ e; omega]; exact hbc
     have q0 := rdl M1 hb1
     rw [← List.append_nil M1]
     (repeat (first|(with_reducible refine AWo.cons ?_)|((with_reducible refine Step.id ?_);first|((with_reducible apply Step.move);exact rfl;exact rfl)|((with_reducible apply Step.assign);exact rfl;exact rfl)|((with_reducible apply Step.loadL (n := 6));exact rfl;((decide +kernel));((decide +kernel));exact rfl;((exact q0 _));exact rfl;exact rfl)|((with_reducible apply Step.neq);exact rfl;exact rfl;exact rfl)|((with_reducible apply Step.nilp);exact rfl;exact rfl))|(with_reducible first|apply AWo.nil|apply AW.seq|apply Then.n|apply AW.regL|apply AW.skip)|((with_reducible apply AW.condF);exact rfl;((rfl)))))
     ((with_reducible apply Step.storeL (n := 6) (v := rlc dk ((1 - L.at_ : Nat) : Int) ((L.c.gen + 1 : Nat) : Int) u (.slice none 0 0) false));exact rfl;exact rfl;exact (get_old [] hlg1);exact rfl;exact sz188;exact rfl;exact (rlc_one hus (.inl rfl));((show 0 + 6 ≤ 6;omega)))
     have hl1 := (List.getElem?_eq_some_iff.1 hlg1).1
     obtain ⟨W, hW⟩ : ∃ W : AM, W = M1.set lg (some { cells := rlc dk ((1 - L.at_ : Nat) : Int) ((L.c.gen + 1 : Nat) : Int) u (.slice none 0 0) false }) := ⟨_, rfl⟩
     have eW : (M1 ++ []).set lg (some { cells := splice (rlc dk (L.at_ : Nat) (L.c.gen : Nat) sv rv L.down) 0 (rlc dk ((1 - L.at_ : Nat) : Int) ((L.c.gen + 1 : Nat) : Int) u (.slice none 0 0) false) }) = W := by rw [hW, List.append_nil]; rfl
     rw [eW, ← List.append_nil W]
     (repeat (first|(with_reducible refine AWo.cons ?_)|((with_reducible refine Step.id ?_);((with_reducible apply Step.assign);exact rfl;exact rfl))|(with_reducible first|apply AWo.nil|apply AW.seq|apply Then.n|apply AW.regL)))
     (refine AW.ret ?_; (repeat (first | refine Then.r ?_ | refine InBlk.r ?_)))
     rw [List.append_nil]
     have hWg : ∀ j, j ≠ lg → W[j]? = M1[j]? := fun j hj => by rw [hW]; exact List.getElem?_set_ne (Ne.symm hj)
     have hWl : W.length = M1.length := by rw [hW, List.length_set]
     have hdl2 : ∀ j, dkD dk w0 w1 j → j < M'.length → dkD dk u0 u1 j := fun j hj hl => Classical.byContradiction fun e => f1 j hl e hj
     have hlS := hL.ins
     refine ⟨_, rfl, rfl, w0, w1, u, .slice none 0 0, fun j => j = lg ∨ m.length ≤ j ∧ j < M'.length, ?_, ⟨by rw [hW, hd]; exact List.getElem?_set_self hl1, .inl rfl, ?_, by rw [hWl]; omega, by show 1 - L.at_ < 2; omega⟩, ?_, ?_, ⟨by rw [hWl]; omega, fun j hj hn => ?_⟩, fun j hj hn => f1 j (by omega) hn⟩
     ·refine a1.keep fun j b hb hj _ => ?_
      rw [hWg j fun e => by subst e; exact hS j (hdl2 j hj (by omega)) hlS]
      exact hb
     ·refine ⟨?_, PaysS.nil, fun _ _ => NotB.nil⟩
      refine Row.vw2 ((Row.keep hu fun j hj hn => ?_).low (Nat.zero_le _)) fun j hj => ⟨.inr ⟨hu.ge_of hj, hu.lt_of hj⟩, by have := hu.ge_of hj; omega⟩
      have := hu.ge_of hn
      rw [hWg j (by omega), hk1 j hj fun e => by have := hnb _ e; omega]
     ·rintro j (rfl | hj) hd2
      ·exact hS j (hdl2 j hd2 (by omega)) hlS
      ·have := hnb j (hdl2 j hd2 hj.2)
       omega
     ·rintro j (rfl | hj)
      ·exact .inl hlS
      ·exact .inr hj.1
     ·rw [hWg j fun e => hn (.inr (by rw [e]; exact hlS)), hk1 j (by omega) fun e => hn (.inl e), hkm j hj]
    ·rw [if_pos he]
     have hQm : RkQ (wrF D ((1 - L.at_ : Nat) : Int) ⟨L.c.gen + 1, p, []⟩).2 b0 dk u0 u1 m M1 := RkQ.after (Keep.app _ m N) (by rw [← hX]; exact hQ1)
     obtain ⟨hL1, hF⟩ := RDLQ.met (wrF D ((1 - L.at_ : Nat) : Int) ⟨L.c.gen + 1, p, []⟩).1 hL hS hQm
     generalize (wrF D ((1 - L.at_ : Nat) : Int) ⟨L.c.gen + 1, p, []⟩).1 = e at *
     rw [← List.append_nil M1]
     (repeat (first|(with_reducible refine AWo.cons ?_)|((with_reducible refine Step.id ?_);first|((with_reducible apply Step.move);exact rfl;exact rfl)|((with_reducible apply Step.assign);exact rfl;exact rfl)|((with_reducible apply Step.neq);exact rfl;exact rfl;exact rfl))|(with_reducible first|apply AWo.nil|apply AW.seq|apply Then.n|apply AW.regL)|((with_reducible apply AW.condT);exact rfl;(((simp only [zq1, zq2, zq3, zq4, zq5, zq6];first|assumption|omega))))))
     ((with_reducible apply Step.callF fit);exact rfl;exact Try.func124;exact rfl;exact rfl;((rw [List.append_nil];exact ends_ok e hL1)))
     rintro r2 M2 ⟨rfl, rfl⟩
     rw [← List.append_nil (M1.set _ _)]
     (repeat (first|(with_reducible refine AWo.cons ?_)|((with_reducible refine Step.id ?_);((with_reducible apply Step.assign);exact rfl;exact rfl))|(with_reducible first|apply AWo.nil|apply Then.n)))
     (refine AW.ret ?_; (repeat (first | refine Then.r ?_ | refine InBlk.r ?_)))
     rw [List.append_nil]
     exact ⟨_, rfl, rfl, hF⟩
def ROpQ (o : Int × Option (Cont × Nat) × Dk) (b0 dk : Nat) (u0 u1 : Value) (m : AM) (r : Value) (M : AM) : Prop :=
 (o.2.1 = none ∧ r = .tuple #[.pointer none, .int .i64 o.1] ∧ o.1 ≠ 0 ∧ RkQ o.2.2 b0 dk u0 u1 m M) ∨
 ∃ (c : Cont) (n lg : Nat) (w0 w1 sv rv : Value) (S : Nat → Prop), o.2.1 = some (c, n) ∧ o.1 = 0 ∧ r = .tuple #[.pointer (some ⟨lg, 0, none⟩), .int .i64 0] ∧ RDiskAt M b0 dk o.2.2 w0 w1 ∧ Keep (dkD dk u0 u1) m M ∧ (∀ j, j < m.length → ¬ dkD dk u0 u1 j → ¬ dkD dk w0 w1 j) ∧
   RLogIn S M lg dk ⟨c, n, false⟩ sv rv ∧ ∀ j, S j → m.length ≤ j ∧ ¬ dkD dk w0 w1 j
theorem ROpQ.err {D : Dk} {o : Int × Option (Cont × Nat) × Dk} {b0 dk : Nat} {u0 u1 : Value} {m M : AM} {e : Int} (ho : o = (e, none, D)) (he : e ≠ 0) (h : RkQ D b0 dk u0 u1 m M) : ROpQ o b0 dk u0 u1 m (.tuple #[.pointer none, .int .i64 e]) M := by
 subst ho
 exact .inl ⟨rfl, rfl, he, h⟩
theorem ROpQ.made {m W M : AM} {b0 dk n b4 : Nat} {D : Dk} {u0 u1 sv rv : Value} {c : Cont} (h : RDiskAt m b0 dk D u0 u1) (hW : ∃ N, W = m ++ N) (hb4 : m.length ≤ b4) (hlg : W[b4]? = some (some { cells := rlc dk (n : Nat) (c.gen : Nat) sv rv false })) (hct : ContAt (vw (fun j => j ≠ b4) W) m.length sv rv c) (hn : n < 2)
  (hq : RkQ (wrF D (n : Nat) c).2 b0 dk u0 u1 W M) (he : (wrF D (n : Nat) c).1 = 0) : ROpQ (wrO D c n) b0 dk u0 u1 m (.tuple #[.pointer (some ⟨b4, 0, none⟩), .int .i64 0]) M := by
 obtain ⟨N, hW⟩ := hW
 have hq2 := RkQ.after (Keep.app _ m N) (by rw [← hW]; exact hq)
 obtain ⟨w0, w1, a1, a2, a3⟩ := hq2
 obtain ⟨x0, x1, b1, b2, b3⟩ := hq
 have hnb : ∀ j, dkD dk u0 u1 j → j < m.length := fun j hj => by
  obtain ⟨_, b, hb, _⟩ := h.at_ hj
  exact (List.getElem?_eq_some_iff.1 hb).1
 have hkeep : ∀ j, m.length ≤ j → j < W.length → M[j]? = W[j]? := fun j h1 h2 => b2.get j h2 fun e => by have := hnb j e; omega
 have hlw := (List.getElem?_eq_some_iff.1 hlg).1
 have hml := b2.len
 have hdl := h.lt
 have hWl : m.length ≤ W.length := by rw [hW, List.length_append]; omega
 unfold wrO
 rw [if_pos he]
 refine .inr ⟨c, n, b4, x0, x1, sv, rv, fun j => m.length ≤ j ∧ j < W.length ∧ ¬ dkD dk x0 x1 j, rfl, rfl, rfl, b1, a2, fun j hj hnj => b3 j (by omega) hnj, ⟨by rw [hkeep b4 hb4 hlw]; exact hlg, ⟨hb4, hlw, b3 b4 hlw fun e => by have := hnb _ e; omega⟩, ?_, by omega, hn⟩, fun j hj => ⟨hj.1, hj.2.2⟩⟩
 refine (hct.keep fun j b hb hj _ => ?_).low (Nat.zero_le _)
 obtain ⟨q1, q2⟩ := vw_some.1 hb
 have hl := (List.getElem?_eq_some_iff.1 q2).1
 exact vw_some.2 ⟨⟨⟨hj, hl, b3 j hl fun e => by have := hnb j e; omega⟩, q1⟩, by rw [hkeep j hj hl]; exact q2⟩
theorem ROpQ.kept {m W : AM} {b0 dk n b4 : Nat} {D : Dk} {u0 u1 sv rv : Value} {c : Cont} {o : Int × Option (Cont × Nat) × Dk} (h : RDiskAt m b0 dk D u0 u1) (hW : ∃ N, W = m ++ N) (hb4 : m.length ≤ b4) (hlg : W[b4]? = some (some { cells := rlc dk (n : Nat) (c.gen : Nat) sv rv false })) (hct : ContAt (vw (fun j => j ≠ b4) W) m.length sv rv c) (hn : n < 2) (ho : o = (0, some (c, n), D)) : ROpQ o b0 dk u0 u1 m (.tuple #[.pointer (some ⟨b4, 0, none⟩), .int .i64 0]) W := by
 subst ho
 obtain ⟨N, hW⟩ := hW
 have hnb : ∀ j, dkD dk u0 u1 j → j < m.length := fun j hj => by
  obtain ⟨_, b, hb, _⟩ := h.at_ hj
  exact (List.getElem?_eq_some_iff.1 hb).1
 have hdl := h.lt
 have hWl : m.length ≤ W.length := by rw [hW, List.length_append]; omega
 refine .inr ⟨c, n, b4, u0, u1, sv, rv, fun j => m.length ≤ j, rfl, rfl, rfl, by rw [hW]; exact h.old N, by rw [hW]; exact Keep.app _ _ _, fun j _ hnj => hnj, ⟨hlg, hb4, ?_, by omega, hn⟩, fun j hj => ⟨hj, fun e => by have := hnb j e; omega⟩⟩
 refine (hct.keep fun j b hb hj _ => ?_).low (Nat.zero_le _)
 obtain ⟨q1, q2⟩ := vw_some.1 hb
 exact vw_some.2 ⟨⟨hj, q1⟩, q2⟩
def selF (x y : Option (Cont × Nat)) : Bool := match y with
 | none => false
 | some (c, _) => match x with
  | none => true
  | some (c0, _) => decide (c0.gen < c.gen)
theorem selF_t {x y : Option (Cont × Nat)} (h : selF x y = true) : ∃ c r, y = some (c, r) ∧ nxF (nxF none 0 x) 1 y = some (c, 1, decide (0 < r)) := by
 match x, y, h with
 | none, some (c, r), _ => exact ⟨c, r, rfl, rfl⟩
 | some (c0, r0), some (c, r), h => exact ⟨c, r, rfl, if_pos (of_decide_eq_true h)⟩
theorem selF_f {x y : Option (Cont × Nat)} (h : selF x y = false) : nxF (nxF none 0 x) 1 y = x.map fun z => (z.1, 0, decide (0 < z.2)) := by
 match x, y, h with
 | none, none, _ => rfl
 | some (c0, r0), none, _ => rfl
 | some (c0, r0), some (c, r), h => exact if_neg (of_decide_eq_false h)
def wlc (dk n : Nat) (x : Option (Cont × Nat)) (sv rv : Value) : List Value := match x with
 | none => [.pointer none, .int .i64 0, .int .i64 0, .slice none 0 0, .slice none 0 0, .bool false]
 | some (c, _) => rlc dk (n : Nat) (c.gen : Nat) sv rv false
def plc (dk : Nat) (x : Option (Cont × Nat × Bool)) (sv rv : Value) : List Value := match x with
 | none => [.pointer none, .int .i64 0, .int .i64 0, .slice none 0 0, .slice none 0 0, .bool false]
 | some (c, n, _) => rlc dk (n : Nat) (c.gen : Nat) sv rv false
theorem ContAt.vwOld {M : AM} {P : Nat → Prop} {b0 : Nat} {sv rv : Value} {c : Cont} (h : ContAt (vw P M) b0 sv rv c) (N : AM) : ContAt (vw P (M ++ N)) b0 sv rv c := h.keep fun j b hb _ _ => by
 obtain ⟨q1, q2⟩ := vw_some.1 hb
 exact vw_some.2 ⟨q1, get_old N q2⟩
theorem ContAt.vwSet {M : AM} {b4 b0 : Nat} {sv rv : Value} {c : Cont} (h : ContAt (vw (fun j => j ≠ b4) M) b0 sv rv c) (x : Option Blk) : ContAt (vw (fun j => j ≠ b4) (M.set b4 x)) b0 sv rv c := h.keep fun j b hb _ _ => by
 obtain ⟨q1, q2⟩ := vw_some.1 hb
 exact vw_some.2 ⟨q1, by rw [List.getElem?_set_ne (Ne.symm q1)]; exact q2⟩
theorem ContAt.slv2 {M : AM} {b0 : Nat} {sv rv : Value} {c : Cont} (h : ContAt M b0 sv rv c) : SlV sv ∧ SlV rv := ⟨h.snap.slv, by obtain ⟨pc, w1, _⟩ := h.recs; exact w1.slv⟩
theorem bl188o {d : Nat} : abuild Try.prog 188 [(0, .pointer (some ⟨d, 0, none⟩)), (2, .int .i64 1)] = some (.agg #[.pointer (some ⟨d, 0, none⟩), .int .i64 0, .int .i64 1, .slice none 0 0, .slice none 0 0, .bool false]) := by kernel_rfl
set_option maxHeartbeats 16000000 in
set_option maxRecDepth 100000 in
theorem ROpen_ok {m : AM} {b0 dk : Nat} {D : Dk} {u0 u1 : Value} (h : RDiskAt m b0 dk D u0 u1) (hb0 : b0 ≤ m.length) : ACall Try.prog 61 #[.pointer (some ⟨dk, 0, none⟩)] m (ROpQ (openF D) b0 dk u0 u1 m) := by
 have hdl := h.lt
 have hlo := h.ok.lo
 have hhi := h.ok.hi
 have r5 := fun T => h.rd T (0 + 5) _ rfl
 refine ACall.start Try.func61 rfl rfl ?_
 cases ho : D.off with
 | true =>
  rw [ho] at r5
  (repeat (first|(with_reducible refine AWo.cons ?_)|((with_reducible refine Step.id ?_);first|((with_reducible apply Step.move);exact rfl;exact rfl)|((with_reducible apply Step.assign);exact rfl;exact rfl)|((with_reducible apply Step.load);exact rfl;((decide +kernel));exact rfl;((exact r5 _)))|((with_reducible apply Step.field (k := 5));exact rfl;((decide +kernel));exact rfl)|((with_reducible apply Step.nilp);exact rfl;exact rfl))|(with_reducible first|apply AWo.nil|apply AW.seq|apply Then.n|apply AW.regL)|((with_reducible apply AW.condT);exact rfl;((rfl)))))
  (refine AW.ret ?_; (repeat (first | refine Then.r ?_ | refine InBlk.r ?_)))
  have e : openF D = (14, none, D) := by unfold openF; rw [if_pos ho]
  rw [List.append_nil]
  exact ⟨_, rfl, ROpQ.err e (by decide) (RkQ.refl' h)⟩
 | false =>
  rw [ho] at r5
  (repeat (first|(with_reducible refine AWo.cons ?_)|((with_reducible refine Step.id ?_);first|((with_reducible apply Step.move);exact rfl;exact rfl)|((with_reducible apply Step.assign);exact rfl;exact rfl)|((with_reducible apply Step.load);exact rfl;((decide +kernel));exact rfl;((exact r5 _)))|((with_reducible apply Step.field (k := 5));exact rfl;((decide +kernel));exact rfl)|((with_reducible apply Step.nilp);exact rfl;exact rfl))|(with_reducible apply AWo.nil)|((fail_if_success (with_reducible refine AW.atR (id := 3) ?_));(with_reducible apply AW.seq))|(with_reducible first|apply Then.n|apply AW.regL|apply AW.skip)|((with_reducible apply AW.condF);exact rfl;((rfl)))))
  refine AW.seq ?_
  refine AW.join (fun t' M' => ∃ b4 sv rv q, (∃ N, M' = m ++ N) ∧ m.length ≤ b4 ∧ M'[b4]? = some (some { cells := wlc dk 0 (parseF D.a0.b) sv rv }) ∧ (∀ c r, parseF D.a0.b = some (c, r) → q = r ∧ ContAt (vw (fun j => j ≠ b4) M') m.length sv rv c) ∧ All (fun i v => t' i = some v) [(0, .pointer (some ⟨dk, 0, none⟩)), (4, .pointer (some ⟨b4, 0, none⟩)), (5, .int .i64 (q : Nat)), (6, .bool (parseF D.a0.b).isSome)]) ?_ ?_
  ·(repeat (first|(with_reducible refine AWo.cons ?_)|((with_reducible refine Step.id ?_);((with_reducible apply Step.move);exact rfl;exact rfl))|(with_reducible apply AW.regL)))
   ((with_reducible apply Step.callF fit);exact rfl;exact Try.func122;exact rfl;exact rfl;((rw [List.append_nil];exact whole_ok (n := 0) h (by omega))))
   rintro r1 M1 ⟨hq1, N1, hN1⟩
   have hM1l : m.length ≤ M1.length := by rw [hN1, List.length_append]; omega
   rcases hq1 with ⟨e1, rfl⟩ | ⟨c, r, sv, rv, e1, rfl, hc⟩
   ·change parseF D.a0.b = none at e1
    rw [← List.append_nil M1]
    (repeat (first|(with_reducible refine AWo.cons ?_)|((with_reducible refine Step.id ?_);first|((with_reducible apply Step.move);exact rfl;exact rfl)|((with_reducible apply Step.assign);exact rfl;exact rfl)|((with_reducible apply Step.extract);exact rfl;exact rfl;exact rfl)|((with_reducible apply Step.alloc 0);exact rfl;exact ze188;exact rfl;((first|(simp only [zq7, zq8, zq9, zq0, iv_set, bv_set, iv_rep, bv_rep] <;> rfl)|rfl)))|((with_reducible apply Step.storeA (k := 0) (n := 6));exact rfl;exact rfl;exact rfl;exact rfl;((decide +kernel));exact rfl;((kernel_rfl));exact rfl;((first|(simp only [zq7, zq8, zq9, zq0, iv_set, bv_set, iv_rep, bv_rep] <;> rfl)|rfl))))|(with_reducible first|apply AWo.nil|apply Then.n)))
    exact ⟨M1.length + 0, .slice none 0 0, .slice none 0 0, 0, ⟨N1 ++ _, by rw [hN1, List.append_assoc]⟩, by omega, by rw [e1, get_app]; rfl, fun c r e => (by rw [e1] at e; cases e), by rw [e1]; exact (by repeat (first | exact trivial | (refine And.intro rfl ?_)))⟩
   ·change parseF D.a0.b = some (c, r) at e1
    obtain ⟨hs1, hs2⟩ := hc.slv2
    have hw1 : (Value.agg #[.pointer (some ⟨dk, 0, none⟩), .int .i64 ((0 : Nat) : Int), .int .i64 (c.gen : Nat), sv, rv, .bool false]).cells.all (·.oneCell') = true := by
     show (#[Value.pointer (some ⟨dk, 0, none⟩), .int .i64 ((0 : Nat) : Int), .int .i64 (c.gen : Nat), sv, rv, .bool false]).all (·.oneCell') = true
     simp only [← Array.all_toList, List.all_cons, hs1.one.1, hs2.one.1]
     rfl
    rw [← List.append_nil M1]
    (repeat (first|(with_reducible refine AWo.cons ?_)|((with_reducible refine Step.id ?_);first|((with_reducible apply Step.move);exact rfl;exact rfl)|((with_reducible apply Step.assign);exact rfl;exact rfl)|((with_reducible apply Step.extract);exact rfl;exact rfl;exact rfl)|((with_reducible apply Step.alloc 0);exact rfl;exact ze188;exact rfl;((first|(simp only [zq7, zq8, zq9, zq0, iv_set, bv_set, iv_rep, bv_rep] <;> rfl)|rfl)))|((with_reducible apply Step.storeA (k := 0) (n := 6));exact rfl;exact rfl;exact rfl;exact rfl;((decide +kernel));exact rfl;((first|assumption|exact hw1));exact rfl;((first|(simp only [zq7, zq8, zq9, zq0, iv_set, bv_set, iv_rep, bv_rep] <;> rfl)|rfl))))|(with_reducible first|apply AWo.nil|apply Then.n)))
    exact ⟨M1.length + 0, sv, rv, r, ⟨N1 ++ _, by rw [hN1, List.append_assoc]⟩, by omega, by rw [e1, get_app]; rfl, fun c' r' e => by
     rw [e1] at e
     injection e with e
     simp only [Prod.mk.injEq] at e
     obtain ⟨rfl, rfl⟩ := e
     exact ⟨rfl, hc.keep fun j b hb _ _ => vw_some.2 ⟨by have := (List.getElem?_eq_some_iff.1 hb).1; omega, get_old _ hb⟩⟩, by rw [e1]; exact (by repeat (first | exact trivial | (refine And.intro rfl ?_)))⟩
  ·rintro t' M1 ⟨b4, sv, rv, q, hM1, hb4, hc4, hp4, hsl⟩
   refine AW.weak (fr_all hsl) ?_
   clear hsl
   have hM1l : m.length ≤ M1.length := by obtain ⟨N, rfl⟩ := hM1; rw [List.length_append]; omega
   have hD1 : RDiskAt M1 b0 dk D u0 u1 := by obtain ⟨N, rfl⟩ := hM1; exact h.old N
   have hb4l := (List.getElem?_eq_some_iff.1 hc4).1
   have hwc : (wlc dk 0 (parseF D.a0.b) sv rv).all (·.oneCell') = true ∧ (wlc dk 0 (parseF D.a0.b) sv rv).length = 6 := by
    cases e : parseF D.a0.b with
    | none => exact ⟨rfl, rfl⟩
    | some x =>
     obtain ⟨c, r⟩ := x
     obtain ⟨_, hc⟩ := hp4 c r e
     exact ⟨rlc_one hc.slv2.1 hc.slv2.2, rfl⟩
   rw [← List.append_nil M1]
   (repeat ((with_reducible refine AWo.cons ?_)))
   rw [List.append_nil]
   refine AW.seq ?_
   refine AW.join (fun t' M' => ∃ b7 sv' rv' q', (∃ N, M' = M1 ++ N) ∧ b4 < b7 ∧ M'[b7]? = some (some { cells := wlc dk 1 (parseF D.a1.b) sv' rv' }) ∧ (∀ c r, parseF D.a1.b = some (c, r) → q' = r ∧ ContAt M' (b4 + 1) sv' rv' c) ∧ All (fun i v => t' i = some v) [(0, .pointer (some ⟨dk, 0, none⟩)), (4, .pointer (some ⟨b4, 0, none⟩)), (5, .int .i64 (q : Nat)), (6, .bool (parseF D.a0.b).isSome), (7, .pointer (some ⟨b7, 0, none⟩)), (8, .int .i64 (q' : Nat)), (9, .bool (parseF D.a1.b).isSome)]) ?_ ?_
   ·rw [← List.append_nil M1]
    (repeat (first|(with_reducible refine AWo.cons ?_)|((with_reducible refine Step.id ?_);((with_reducible apply Step.move);exact rfl;exact rfl))|(with_reducible apply AW.regL)))
    ((with_reducible apply Step.callF fit);exact rfl;exact Try.func122;exact rfl;exact rfl;((rw [List.append_nil];exact whole_ok (n := 1) hD1 (by omega))))
    rintro r2 M2 ⟨hq2, N2, hN2⟩
    have hM2l : M1.length ≤ M2.length := by rw [hN2, List.length_append]; omega
    rcases hq2 with ⟨e1, rfl⟩ | ⟨c, r, sv', rv', e1, rfl, hc⟩
    ·change parseF D.a1.b = none at e1
     rw [← List.append_nil M2]
     (repeat (first|(with_reducible refine AWo.cons ?_)|((with_reducible refine Step.id ?_);first|((with_reducible apply Step.move);exact rfl;exact rfl)|((with_reducible apply Step.assign);exact rfl;exact rfl)|((with_reducible apply Step.extract);exact rfl;exact rfl;exact rfl)|((with_reducible apply Step.alloc 0);exact rfl;exact ze188;exact rfl;((first|(simp only [zq7, zq8, zq9, zq0, iv_set, bv_set, iv_rep, bv_rep] <;> rfl)|rfl)))|((with_reducible apply Step.storeA (k := 0) (n := 6));exact rfl;exact rfl;exact rfl;exact rfl;((decide +kernel));exact rfl;((kernel_rfl));exact rfl;((first|(simp only [zq7, zq8, zq9, zq0, iv_set, bv_set, iv_rep, bv_rep] <;> rfl)|rfl))))|(with_reducible first|apply AWo.nil|apply Then.n)))
     exact ⟨M2.length + 0, .slice none 0 0, .slice none 0 0, 0, ⟨N2 ++ _, by rw [hN2, List.append_nil, List.append_assoc]⟩, by omega, by rw [e1, get_app]; rfl, fun c r e => (by rw [e1] at e; cases e), by rw [e1]; exact (by repeat (first | exact trivial | (refine And.intro rfl ?_)))⟩
    ·change parseF D.a1.b = some (c, r) at e1
     obtain ⟨hs1, hs2⟩ := hc.slv2
     have hw1 : (Value.agg #[.pointer (some ⟨dk, 0, none⟩), .int .i64 ((1 : Nat) : Int), .int .i64 (c.gen : Nat), sv', rv', .bool false]).cells.all (·.oneCell') = true := by
      show (#[Value.pointer (some ⟨dk, 0, none⟩), .int .i64 ((1 : Nat) : Int), .int .i64 (c.gen : Nat), sv', rv', .bool false]).all (·.oneCell') = true
      simp only [← Array.all_toList, List.all_cons, hs1.one.1, hs2.one.1]
      rfl
     rw [← List.append_nil M2]
     (repeat (first|(with_reducible refine AWo.cons ?_)|((with_reducible refine Step.id ?_);first|((with_reducible apply Step.move);exact rfl;exact rfl)|((with_reducible apply Step.assign);exact rfl;exact rfl)|((with_reducible apply Step.extract);exact rfl;exact rfl;exact rfl)|((with_reducible apply Step.alloc 0);exact rfl;exact ze188;exact rfl;((first|(simp only [zq7, zq8, zq9, zq0, iv_set, bv_set, iv_rep, bv_rep] <;> rfl)|rfl)))|((with_reducible apply Step.storeA (k := 0) (n := 6));exact rfl;exact rfl;exact rfl;exact rfl;((decide +kernel));exact rfl;((first|assumption|exact hw1));exact rfl;((first|(simp only [zq7, zq8, zq9, zq0, iv_set, bv_set, iv_rep, bv_rep] <;> rfl)|rfl))))|(with_reducible first|apply AWo.nil|apply Then.n)))
     exact ⟨M2.length + 0, sv', rv', r, ⟨N2 ++ _, by rw [hN2, List.append_nil, List.append_assoc]⟩, by omega, by rw [e1, get_app]; rfl, fun c' r' e => by
      rw [e1] at e
      injection e with e
      simp only [Prod.mk.injEq] at e
      obtain ⟨rfl, rfl⟩ := e
      exact ⟨rfl, (hc.low (by omega)).old _⟩, by rw [e1]; exact (by repeat (first | exact trivial | (refine And.intro rfl ?_)))⟩
   ·rintro t' M2 ⟨b7, sv', rv', q', hM2, hb47, hc7, hp7, hsl⟩
    refine AW.weak (fr_all hsl) ?_
    clear hsl
    have hpk : pickF D = nxF (nxF none 0 (parseF D.a0.b)) 1 (parseF D.a1.b) := rfl
    have hc42 : M2[b4]? = some (some { cells := wlc dk 0 (parseF D.a0.b) sv rv }) := by obtain ⟨N, rfl⟩ := hM2; exact get_old N hc4
    have hp42 : ∀ c r, parseF D.a0.b = some (c, r) → q = r ∧ ContAt (vw (fun j => j ≠ b4) M2) m.length sv rv c := fun c r e => ⟨(hp4 c r e).1, by obtain ⟨N, rfl⟩ := hM2; exact (hp4 c r e).2.vwOld N⟩
    have hp72 : ∀ c r, parseF D.a1.b = some (c, r) → q' = r ∧ ContAt (vw (fun j => j ≠ b4) M2) m.length sv' rv' c := fun c r e => ⟨(hp7 c r e).1, ((hp7 c r e).2.keep fun j b hb hj _ => vw_some.2 ⟨by omega, hb⟩).low (by omega)⟩
    have hM2m : ∃ N, M2 = m ++ N := by obtain ⟨N, rfl⟩ := hM1; obtain ⟨N', rfl⟩ := hM2; exact ⟨N ++ N', by rw [List.append_assoc]⟩
    clear hp4 hp7 hc4 hM2 hM1 hD1
    have hb42 := (List.getElem?_eq_some_iff.1 hc42).1
    have r42 : ∀ T g, (wlc dk 0 (parseF D.a0.b) sv rv)[2]? = some g → Rd (M2 ++ T) b4 (0 + 2) g := fun T g hg => Rd.old T ⟨_, hc42, hg⟩
    have r72 : ∀ T g, (wlc dk 1 (parseF D.a1.b) sv' rv')[2]? = some g → Rd (M2 ++ T) b7 (0 + 2) g := fun T g hg => Rd.old T ⟨_, hc7, hg⟩
    have rl7 : ∀ T, RdL (M2 ++ T) b7 0 (wlc dk 1 (parseF D.a1.b) sv' rv') := fun T => RdL.old T ⟨_, hc7, fun j v hv => by
     rw [Nat.zero_add]
     exact hv⟩
    rw [← List.append_nil M2]
    (repeat (((fail_if_success (with_reducible refine AW.atR (id := 5) ?_));(with_reducible apply AW.seq))))
    rw [List.append_nil]
    refine AW.seq ?_
    refine AW.join (fun t' M' => M' = M2 ∧ All (fun i v => t' i = some v) [(0, .pointer (some ⟨dk, 0, none⟩)), (4, .pointer (some ⟨b4, 0, none⟩)), (5, .int .i64 (q : Nat)), (6, .bool (parseF D.a0.b).isSome), (7, .pointer (some ⟨b7, 0, none⟩)), (8, .int .i64 (q' : Nat)), (38, .bool (selF (parseF D.a0.b) (parseF D.a1.b)))]) ?_ ?_
    ·clear hp42 hp72 hpk hc7 hc42 hwc rl7
     cases hx1 : parseF D.a1.b with
     | none =>
      rw [← List.append_nil M2]
      (repeat (first|(with_reducible refine AWo.cons ?_)|((with_reducible refine Step.id ?_);first|((with_reducible apply Step.gdU);exact rfl;exact rfl)|((with_reducible apply Step.gdF);exact rfl;exact rfl;((rfl)))|((with_reducible apply Step.move);exact rfl;exact rfl)|((with_reducible apply Step.pickF);exact rfl;exact rfl;exact rfl;exact rfl;((rfl))))|(with_reducible first|apply AWo.nil|apply Then.n|apply AW.regL)))
      exact ⟨rfl, (by repeat (first | exact trivial | (refine And.intro rfl ?_)))⟩
     | some y =>
      obtain ⟨c1, r1⟩ := y
      rw [hx1] at r72
      cases hx0 : parseF D.a0.b with
      | none =>
       rw [← List.append_nil M2]
       (repeat (first|(with_reducible refine AWo.cons ?_)|((with_reducible refine Step.id ?_);first|((with_reducible apply Step.gdT);exact rfl;exact rfl;((rfl)))|((with_reducible apply Step.gdF);exact rfl;exact rfl;((rfl)))|((with_reducible apply Step.move);exact rfl;exact rfl)|((with_reducible apply Step.not);exact rfl;exact rfl)|((with_reducible apply Step.pickT);exact rfl;exact rfl;exact rfl;exact rfl;((rfl))))|(with_reducible first|apply AWo.nil|apply Then.n|apply AW.regL)))
       exact ⟨rfl, (by repeat (first | exact trivial | (refine And.intro rfl ?_)))⟩
      | some x =>
       obtain ⟨c0, r0⟩ := x
       rw [hx0] at r42
       have g4 := fun T => r42 T _ rfl
       have g7 := fun T => r72 T _ rfl
       rw [← List.append_nil M2]
       (repeat (first|(with_reducible refine AWo.cons ?_)|((with_reducible refine Step.id ?_);first|((with_reducible apply Step.gdT);exact rfl;exact rfl;((rfl)))|((with_reducible apply Step.move);exact rfl;exact rfl)|((with_reducible apply Step.load);exact rfl;((decide +kernel));exact rfl;((first|exact g4 _|exact g7 _)))|((with_reducible apply Step.field (k := 2));exact rfl;((decide +kernel));exact rfl)|((with_reducible apply Step.gtr);exact rfl;exact rfl;exact rfl)|((with_reducible apply Step.not);exact rfl;exact rfl)|((with_reducible apply Step.pickT);exact rfl;exact rfl;exact rfl;exact rfl;((rfl)))|((with_reducible apply Step.pickF);exact rfl;exact rfl;exact rfl;exact rfl;((rfl))))|(with_reducible first|apply AWo.nil|apply Then.n|apply AW.regL)))
       refine ⟨rfl, ?_⟩
       rw [show selF (some (c0, r0)) (some (c1, r1)) = decide (c0.gen < c1.gen) from rfl, show decide (c0.gen < c1.gen) = decide (((c0.gen : Nat) : Int) < ((c1.gen : Nat) : Int)) by simp]
       exact (by repeat (first | exact trivial | (refine And.intro rfl ?_)))
    ·rintro t' M' ⟨rfl, hsl⟩
     refine AW.weak (fr_all hsl) ?_
     clear hsl
     refine AW.join (fun t' M3 => ∃ sv rv q, (∃ N, M3 = m ++ N) ∧ M3[b4]? = some (some { cells := plc dk (pickF D) sv rv }) ∧ (∀ c n t, pickF D = some (c, n, t) → t = decide (0 < q) ∧ ContAt (vw (fun j => j ≠ b4) M3) m.length sv rv c) ∧ All (fun i v => t' i = some v) [(0, .pointer (some ⟨dk, 0, none⟩)), (4, .pointer (some ⟨b4, 0, none⟩)), (5, .int .i64 (q : Nat)), (6, .bool (pickF D).isSome)]) ?_ ?_
     ·cases hsel : selF (parseF D.a0.b) (parseF D.a1.b) with
      | true =>
       obtain ⟨c, r, e1, e2⟩ := selF_t hsel
       obtain ⟨rfl, hct⟩ := hp72 c r e1
       rw [e1] at rl7
       rw [← List.append_nil M']
       refine AW.condT rfl rfl ?_
       (repeat (first|(with_reducible refine AWo.cons ?_)|((with_reducible refine Step.id ?_);first|((with_reducible apply Step.move);exact rfl;exact rfl)|((with_reducible apply Step.loadL (n := 6));exact rfl;((decide +kernel));((decide +kernel));exact rfl;((exact rl7 _));exact rfl;exact rfl))|(with_reducible apply AW.regL)))
       ((with_reducible apply Step.storeL (n := 6) (v := rlc dk ((1 : Nat) : Int) (c.gen : Nat) sv' rv' false));exact rfl;exact rfl;exact (get_old [] hc42);exact rfl;exact sz188;exact rfl;exact (rlc_one hct.slv2.1 hct.slv2.2);((rw [hwc.2];exact Nat.le_refl _)))
       rw [List.append_nil]
       obtain ⟨Z, hZ⟩ : ∃ Z : AM, Z = M'.set b4 (some { cells := rlc dk ((1 : Nat) : Int) (c.gen : Nat) sv' rv' false }) := ⟨_, rfl⟩
       have eZ : M'.set b4 (some { cells := splice (wlc dk 0 (parseF D.a0.b) sv rv) 0 (rlc dk ((1 : Nat) : Int) (c.gen : Nat) sv' rv' false) }) = Z := by
        rw [hZ]
        cases parseF D.a0.b <;> rfl
       rw [eZ, ← List.append_nil Z]
       (repeat (first|(with_reducible refine AWo.cons ?_)|((with_reducible refine Step.id ?_);((with_reducible apply Step.assign);exact rfl;exact rfl))|(with_reducible first|apply AWo.nil|apply Then.n)))
       refine ⟨sv', rv', q', ?_, by rw [List.append_nil, hZ, hpk, e2]; exact List.getElem?_set_self hb42, fun c' n' t' e => ?_, by rw [hpk, e2]; exact (by repeat (first | exact trivial | (refine And.intro rfl ?_)))⟩
       ·obtain ⟨N, hN⟩ := hM2m
        rw [List.append_nil, hZ, hN]
        exact set_high hb4 _
       ·rw [hpk, e2] at e
        injection e with e
        simp only [Prod.mk.injEq] at e
        obtain ⟨rfl, rfl, rfl⟩ := e
        exact ⟨rfl, by rw [List.append_nil, hZ]; exact hct.vwSet _⟩
      | false =>
       have e2 := selF_f hsel
       rw [← List.append_nil M']
       refine AW.condF rfl rfl ?_
       (repeat (first|(with_reducible first|apply Then.n|apply AW.skip)))
       refine ⟨sv, rv, q, by rw [List.append_nil]; exact hM2m, ?_, fun c' n' t' e => ?_, ?_⟩
       ·rw [List.append_nil, hc42, hpk, e2]
        cases parseF D.a0.b <;> rfl
       ·rw [hpk, e2] at e
        cases hx : parseF D.a0.b with
        | none => rw [hx] at e; cases e
        | some x =>
         obtain ⟨c, r⟩ := x
         rw [hx] at e
         injection e with e
         simp only [Prod.mk.injEq] at e
         obtain ⟨rfl, rfl, rfl⟩ := e
         obtain ⟨rfl, g2⟩ := hp42 c r hx
         exact ⟨rfl, by rw [List.append_nil]; exact g2⟩
       ·rw [hpk, e2]
        cases parseF D.a0.b <;> exact (by repeat (first | exact trivial | (refine And.intro rfl ?_)))
     ·rintro t' M3 ⟨sv3, rv3, q3, hM3, hc3, hp3, hsl⟩
      refine AW.weak (fr_all hsl) ?_
      clear hsl
      clear hc42 hp42 hp72 hc7 hwc rl7 r42 r72 hM2m hpk
      have hM3l : m.length ≤ M3.length := by obtain ⟨N, rfl⟩ := hM3; rw [List.length_append]; omega
      have hnb : ∀ j, dkD dk u0 u1 j → j < m.length := fun j hj => by
       obtain ⟨_, b, hb, _⟩ := h.at_ hj
       exact (List.getElem?_eq_some_iff.1 hb).1
      have hb43 := (List.getElem?_eq_some_iff.1 hc3).1
      cases hpk : pickF D with
      | none =>
       have hop : openF D = wrO D ⟨1, [], []⟩ 0 := by unfold openF; rw [if_neg (by rw [ho]; simp), hpk]
       rw [hpk] at hc3
       change M3[b4]? = some (some { cells := [.pointer none, .int .i64 0, .int .i64 0, .slice none 0 0, .slice none 0 0, .bool false] }) at hc3
       rw [← List.append_nil M3]
       (repeat (first|(with_reducible refine AWo.cons ?_)|((with_reducible refine Step.id ?_);first|((with_reducible apply Step.move);exact rfl;exact rfl)|((with_reducible apply Step.assign);exact rfl;exact rfl)|((with_reducible apply Step.not);exact rfl;exact rfl)|((with_reducible apply Step.build);exact rfl;exact bl188o;exact rfl))|(with_reducible first|apply AWo.nil|apply AW.seq|apply Then.n|apply AW.regL|apply AW.block)|((with_reducible apply AW.condT);exact rfl;((rfl)))))
       ((with_reducible apply Step.storeL (n := 6) (v := rlc dk ((0 : Nat) : Int) ((1 : Nat) : Int) (.slice none 0 0) (.slice none 0 0) false));exact rfl;exact rfl;exact (get_old [] hc3);exact rfl;exact sz188;exact rfl;exact rfl;((show 0 + 6 ≤ 6;omega)))
       rw [List.append_nil]
       obtain ⟨M5, hM5e⟩ : ∃ Z : AM, Z = M3.set b4 (some { cells := rlc dk ((0 : Nat) : Int) ((1 : Nat) : Int) (.slice none 0 0) (.slice none 0 0) false }) := ⟨_, rfl⟩
       rw [show M3.set b4 (some { cells := splice [.pointer none, .int .i64 0, .int .i64 0, .slice none 0 0, .slice none 0 0, .bool false] 0 (rlc dk ((0 : Nat) : Int) ((1 : Nat) : Int) (.slice none 0 0) (.slice none 0 0) false) }) = M5 from hM5e.symm]
       have hM5 : ∃ N, M5 = m ++ N := by obtain ⟨N, hN⟩ := hM3; rw [hM5e, hN]; exact set_high hb4 _
       have hD5 : RDiskAt M5 b0 dk D u0 u1 := by obtain ⟨N, hN⟩ := hM5; rw [hN]; exact h.old N
       have hb5 : M5[b4]? = some (some { cells := rlc dk ((0 : Nat) : Int) ((1 : Nat) : Int) (.slice none 0 0) (.slice none 0 0) false }) := by rw [hM5e]; exact List.getElem?_set_self hb43
       have hct5 : ContAt (vw (fun j => j ≠ b4) M5) m.length (.slice none 0 0) (.slice none 0 0) ⟨1, [], []⟩ := ContAt.none
       have hgen5 : (⟨1, [], []⟩ : Cont).gen ≤ 9223372036854775807 := by show 1 ≤ _; omega
       have henc5 : (encB ⟨1, [], []⟩).length ≤ 100000000 := by rw [encB_len]; show 20 + (0 + 8) + 0 ≤ _; omega
       have hcnt5 : (⟨1, [], []⟩ : Cont).recs.length ≤ 100000000 := Nat.zero_le _
       have hM5l : m.length ≤ M5.length := by obtain ⟨N, rfl⟩ := hM5; rw [List.length_append]; omega
       have hwr := Written_ok (d := false) (bc := m.length) (n := 0) (c := ⟨1, [], []⟩) (S := fun j => (m.length ≤ j ∧ j < M5.length) ∧ j ≠ b4) hD5 (by omega) (ContAt.keep hct5 fun j b hb hj _ => vw_some.2 ⟨⟨⟨hj, by have := (List.getElem?_eq_some_iff.1 hb).1; rwa [vw_len] at this⟩, (vw_some.1 hb).1⟩, (vw_some.1 hb).2⟩) (fun j hj e => by have := hnb j hj; omega) hgen5 henc5 hcnt5
       have q5 : ∀ T, RdL (M5 ++ T) b4 0 (rlc dk (0 : Nat) ((1 : Nat) : Int) (.slice none 0 0) (.slice none 0 0) false) := fun T => RdL.old T ⟨_, hb5, fun j v hv => by
        rw [Nat.zero_add]
        exact hv⟩
       rw [← List.append_nil M5]
       (repeat (first|(with_reducible refine AWo.cons ?_)|((with_reducible refine Step.id ?_);((with_reducible apply Step.loadL (n := 6));exact rfl;((decide +kernel));((decide +kernel));exact rfl;((exact q5 _));exact rfl;exact rfl))|(with_reducible first|apply AWo.nil|apply AW.seq|apply Then.n|apply AW.regL|apply InBlk.n)))
       ((with_reducible apply Step.callF fit);exact rfl;exact Try.func123;exact rfl;exact rfl;((rw [List.append_nil];exact hwr)))
       rintro r6 M6 ⟨rfl, hQ6⟩
       by_cases he : (wrF D (0 : Nat) ⟨1, [], []⟩).1 = 0
       ·rw [he, ← List.append_nil M6]
        (repeat (first|(with_reducible refine AWo.cons ?_)|((with_reducible refine Step.id ?_);first|((with_reducible apply Step.move);exact rfl;exact rfl)|((with_reducible apply Step.assign);exact rfl;exact rfl)|((with_reducible apply Step.neq);exact rfl;exact rfl;exact rfl))|(with_reducible first|apply AWo.nil|apply AW.seq|apply Then.n|apply AW.regL|apply AW.skip)|((with_reducible apply AW.condF);exact rfl;((rfl)))))
        (refine AW.ret ?_; (repeat (first | refine Then.r ?_ | refine InBlk.r ?_)))
        rw [List.append_nil, hop]
        exact ⟨_, rfl, ROpQ.made h hM5 hb4 hb5 hct5 (by omega) hQ6 he⟩
       ·have hQm : RkQ (wrF D (0 : Nat) ⟨1, [], []⟩).2 b0 dk u0 u1 m M6 := by obtain ⟨N, hN⟩ := hM5; exact RkQ.after (Keep.app _ m N) (by rw [← hN]; exact hQ6)
        have hob := wrO_bad he
        generalize (wrF D (0 : Nat) ⟨1, [], []⟩).1 = e at *
        rw [← List.append_nil M6]
        (repeat (first|(with_reducible refine AWo.cons ?_)|((with_reducible refine Step.id ?_);first|((with_reducible apply Step.move);exact rfl;exact rfl)|((with_reducible apply Step.assign);exact rfl;exact rfl)|((with_reducible apply Step.neq);exact rfl;exact rfl;exact rfl))|(with_reducible first|apply AWo.nil|apply AW.seq|apply Then.n|apply AW.regL)|((with_reducible apply AW.condT);exact rfl;(((simp only [zq1, zq2, zq3, zq4, zq5, zq6];first|assumption|omega))))))
        (refine AW.ret ?_; (repeat (first | refine Then.r ?_ | refine InBlk.r ?_)))
        rw [List.append_nil, hop]
        exact ⟨_, rfl, ROpQ.err hob he hQm⟩
      | some x =>
       obtain ⟨c, n, tt⟩ := x
       obtain ⟨htt, hct⟩ := hp3 c n tt hpk
       obtain ⟨r, hpar, hn2, _⟩ := pick_ok hpk
       obtain ⟨l1, l2, l3, l4, l5⟩ := parseF_len hpar
       have hal := (h.ok.arl n).1
       have hcn := flat_cnt c.recs
       have hel := encB_len c
       have hel2 := encB_len ⟨c.gen + 1, c.snap, c.recs⟩
       simp only at hel2
       rw [hpk] at hc3
       change M3[b4]? = some (some { cells := rlc dk (n : Nat) (c.gen : Nat) sv3 rv3 false }) at hc3
       have g2 : ∀ T, Rd (M3 ++ T) b4 (0 + 2) (.int .i64 (c.gen : Nat)) := fun T => Rd.old T ⟨_, hc3, rfl⟩
       by_cases hq0 : q3 = 0
       ·have hop : openF D = (0, some (c, n), D) := by
         unfold openF
         rw [if_neg (by rw [ho]; simp), hpk, htt, hq0]
         rfl
        subst hq0
        rw [← List.append_nil M3]
        (repeat (first|(with_reducible refine AWo.cons ?_)|((with_reducible refine Step.id ?_);first|((with_reducible apply Step.move);exact rfl;exact rfl)|((with_reducible apply Step.assign);exact rfl;exact rfl)|((with_reducible apply Step.eql);exact rfl;exact rfl;exact rfl)|((with_reducible apply Step.not);exact rfl;exact rfl))|(with_reducible first|apply AWo.nil|apply AW.seq|apply Then.n|apply AW.regL|apply AW.block)|((with_reducible apply AW.condT);exact rfl;((rfl)))|((with_reducible apply AW.condF);exact rfl;((rfl)))))
        (refine AW.ret ?_; (repeat (first | refine Then.r ?_ | refine InBlk.r ?_)))
        rw [List.append_nil]
        exact ⟨_, rfl, ROpQ.kept h hM3 hb4 hc3 hct hn2 hop⟩
       ·have htt2 : tt = true := by rw [htt]; exact decide_eq_true (by omega)
        by_cases hg : c.gen = 4611686018427387904
        ·have hop : openF D = (5, none, D) := by
          unfold openF
          rw [if_neg (by rw [ho]; simp), hpk, htt2]
          exact if_pos hg
         rw [← List.append_nil M3]
         (repeat (first|(with_reducible refine AWo.cons ?_)|((with_reducible refine Step.id ?_);first|((with_reducible apply Step.move);exact rfl;exact rfl)|((with_reducible apply Step.assign);exact rfl;exact rfl)|((with_reducible apply Step.load);exact rfl;((decide +kernel));exact rfl;((exact g2 _)))|((with_reducible apply Step.field (k := 2));exact rfl;((decide +kernel));exact rfl)|((with_reducible apply Step.eql);exact rfl;exact rfl;exact rfl)|((with_reducible apply Step.not);exact rfl;exact rfl))|(with_reducible first|apply AWo.nil|apply AW.seq|apply Then.n|apply AW.regL|apply AW.block)|((with_reducible apply AW.condT);exact rfl;(((simp only [zq1, zq2, zq3, zq4, zq5, zq6];first|assumption|omega))))|((with_reducible apply AW.condF);exact rfl;((first|rfl|(simp only [zq1, zq2, zq3, zq4, zq5, zq6];first|assumption|omega))))))
         (refine AW.ret ?_; (repeat (first | refine Then.r ?_ | refine InBlk.r ?_)))
         rw [List.append_nil]
         exact ⟨_, rfl, ROpQ.err hop (by decide) (by obtain ⟨N, hN⟩ := hM3; rw [hN]; exact RkQ.refl h N)⟩
        ·have hop : openF D = wrO D ⟨c.gen + 1, c.snap, c.recs⟩ (1 - n) := by
          unfold openF
          rw [if_neg (by rw [ho]; simp), hpk, htt2]
          exact if_neg hg
         have hd1 : (1 : Int) - (n : Nat) = ((1 - n : Nat) : Int) := by omega
         have hg1 : ((c.gen : Nat) : Int) + 1 = ((c.gen + 1 : Nat) : Int) := by omega
         rw [← List.append_nil M3]
         (repeat (first|(with_reducible refine AWo.cons ?_)|((with_reducible refine Step.id ?_);first|((with_reducible apply Step.move);exact rfl;exact rfl)|((with_reducible apply Step.assign);exact rfl;exact rfl)|((with_reducible apply Step.load);exact rfl;((decide +kernel));exact rfl;((exact g2 _)))|((with_reducible apply Step.field (k := 2));exact rfl;((decide +kernel));exact rfl)|((with_reducible apply Step.add);exact rfl;exact rfl;((omega));exact rfl)|((with_reducible apply Step.eql);exact rfl;exact rfl;exact rfl)|((with_reducible apply Step.not);exact rfl;exact rfl))|(with_reducible first|apply AWo.nil|apply AW.seq|apply Then.n|apply AW.regL|apply AW.block)|((with_reducible apply AW.condF);exact rfl;((first|rfl|(simp only [zq1, zq2, zq3, zq4, zq5, zq6];first|assumption|omega))))))
         ((with_reducible apply Step.storeAt);exact rfl;exact rfl;exact (get_old [] hc3);exact sz3d;exact rfl;((show 0 + 2 < 6;omega));exact rfl;exact rfl)
         rw [List.append_nil, hg1]
         obtain ⟨M4, hM4e⟩ : ∃ Z : AM, Z = M3.set b4 (some { cells := rlc dk (n : Nat) ((c.gen + 1 : Nat) : Int) sv3 rv3 false }) := ⟨_, rfl⟩
         rw [show M3.set b4 (some { cells := (rlc dk (n : Nat) (c.gen : Nat) sv3 rv3 false).set (0 + 2) (.int .i64 ((c.gen + 1 : Nat) : Int)) }) = M4 from hM4e.symm]
         have hc4 : M4[b4]? = some (some { cells := rlc dk (n : Nat) ((c.gen + 1 : Nat) : Int) sv3 rv3 false }) := by rw [hM4e]; exact List.getElem?_set_self hb43
         have g1 : ∀ T, Rd (M4 ++ T) b4 (0 + 1) (.int .i64 (n : Nat)) := fun T => Rd.old T ⟨_, hc4, rfl⟩
         rw [← List.append_nil M4]
         (repeat (first|(with_reducible refine AWo.cons ?_)|((with_reducible refine Step.id ?_);first|((with_reducible apply Step.load);exact rfl;((decide +kernel));exact rfl;((exact g1 _)))|((with_reducible apply Step.field (k := 1));exact rfl;((decide +kernel));exact rfl)|((with_reducible apply Step.sub);exact rfl;exact rfl;((omega));exact rfl))|(with_reducible first|apply AWo.nil|apply Then.n|apply AW.regL)))
         ((with_reducible apply Step.storeAt);exact rfl;exact rfl;exact (get_old [] hc4);exact sz3d;exact rfl;((show 0 + 1 < 6;omega));exact rfl;exact rfl)
         rw [List.append_nil, hd1]
         obtain ⟨M5, hM5e⟩ : ∃ Z : AM, Z = M3.set b4 (some { cells := rlc dk ((1 - n : Nat) : Int) ((c.gen + 1 : Nat) : Int) sv3 rv3 false }) := ⟨_, rfl⟩
         rw [show M4.set b4 (some { cells := (rlc dk (n : Nat) ((c.gen + 1 : Nat) : Int) sv3 rv3 false).set (0 + 1) (.int .i64 ((1 - n : Nat) : Int)) }) = M5 by rw [hM4e, hM5e, List.set_set]; rfl]
         have hM5 : ∃ N, M5 = m ++ N := by obtain ⟨N, hN⟩ := hM3; rw [hM5e, hN]; exact set_high hb4 _
         have hD5 : RDiskAt M5 b0 dk D u0 u1 := by obtain ⟨N, hN⟩ := hM5; rw [hN]; exact h.old N
         have hb5 : M5[b4]? = some (some { cells := rlc dk ((1 - n : Nat) : Int) ((c.gen + 1 : Nat) : Int) sv3 rv3 false }) := by rw [hM5e]; exact List.getElem?_set_self hb43
         have hct5 : ContAt (vw (fun j => j ≠ b4) M5) m.length sv3 rv3 ⟨c.gen + 1, c.snap, c.recs⟩ := by rw [hM5e]; exact hct.gen.vwSet _
         have hgen5 : (⟨c.gen + 1, c.snap, c.recs⟩ : Cont).gen ≤ 9223372036854775807 := by show c.gen + 1 ≤ _; omega
         have henc5 : (encB ⟨c.gen + 1, c.snap, c.recs⟩).length ≤ 100000000 := by omega
         have hcnt5 : (⟨c.gen + 1, c.snap, c.recs⟩ : Cont).recs.length ≤ 100000000 := by show c.recs.length ≤ _; omega
         have hM5l : m.length ≤ M5.length := by obtain ⟨N, rfl⟩ := hM5; rw [List.length_append]; omega
         have hwr := Written_ok (d := false) (bc := m.length) (n := (1 - n)) (c := ⟨c.gen + 1, c.snap, c.recs⟩) (S := fun j => (m.length ≤ j ∧ j < M5.length) ∧ j ≠ b4) hD5 (by omega) (ContAt.keep hct5 fun j b hb hj _ => vw_some.2 ⟨⟨⟨hj, by have := (List.getElem?_eq_some_iff.1 hb).1; rwa [vw_len] at this⟩, (vw_some.1 hb).1⟩, (vw_some.1 hb).2⟩) (fun j hj e => by have := hnb j hj; omega) hgen5 henc5 hcnt5
         have q5 : ∀ T, RdL (M5 ++ T) b4 0 (rlc dk ((1 - n) : Nat) ((c.gen + 1 : Nat) : Int) sv3 rv3 false) := fun T => RdL.old T ⟨_, hb5, fun j v hv => by
          rw [Nat.zero_add]
          exact hv⟩
         rw [← List.append_nil M5]
         (repeat (first|(with_reducible refine AWo.cons ?_)|((with_reducible refine Step.id ?_);((with_reducible apply Step.loadL (n := 6));exact rfl;((decide +kernel));((decide +kernel));exact rfl;((exact q5 _));exact rfl;exact rfl))|(with_reducible first|apply AWo.nil|apply AW.seq|apply Then.n|apply AW.regL|apply InBlk.n)))
         ((with_reducible apply Step.callF fit);exact rfl;exact Try.func123;exact rfl;exact rfl;((rw [List.append_nil];exact hwr)))
         rintro r6 M6 ⟨rfl, hQ6⟩
         by_cases he : (wrF D ((1 - n) : Nat) ⟨c.gen + 1, c.snap, c.recs⟩).1 = 0
         ·rw [he, ← List.append_nil M6]
          (repeat (first|(with_reducible refine AWo.cons ?_)|((with_reducible refine Step.id ?_);first|((with_reducible apply Step.move);exact rfl;exact rfl)|((with_reducible apply Step.assign);exact rfl;exact rfl)|((with_reducible apply Step.neq);exact rfl;exact rfl;exact rfl))|(with_reducible first|apply AWo.nil|apply AW.seq|apply Then.n|apply AW.regL|apply AW.skip)|((with_reducible apply AW.condF);exact rfl;((rfl)))))
          (refine AW.ret ?_; (repeat (first | refine Then.r ?_ | refine InBlk.r ?_)))
          rw [List.append_nil, hop]
          exact ⟨_, rfl, ROpQ.made h hM5 hb4 hb5 hct5 (by omega) hQ6 he⟩
         ·have hQm : RkQ (wrF D ((1 - n) : Nat) ⟨c.gen + 1, c.snap, c.recs⟩).2 b0 dk u0 u1 m M6 := by obtain ⟨N, hN⟩ := hM5; exact RkQ.after (Keep.app _ m N) (by rw [← hN]; exact hQ6)
          have hob := wrO_bad he
          generalize (wrF D ((1 - n) : Nat) ⟨c.gen + 1, c.snap, c.recs⟩).1 = e at *
          rw [← List.append_nil M6]
          (repeat (first|(with_reducible refine AWo.cons ?_)|((with_reducible refine Step.id ?_);first|((with_reducible apply Step.move);exact rfl;exact rfl)|((with_reducible apply Step.assign);exact rfl;exact rfl)|((with_reducible apply Step.neq);exact rfl;exact rfl;exact rfl))|(with_reducible first|apply AWo.nil|apply AW.seq|apply Then.n|apply AW.regL)|((with_reducible apply AW.condT);exact rfl;(((simp only [zq1, zq2, zq3, zq4, zq5, zq6];first|assumption|omega))))))
          (refine AW.ret ?_; (repeat (first | refine Then.r ?_ | refine InBlk.r ?_)))
          rw [List.append_nil, hop]
          exact ⟨_, rfl, ROpQ.err hob he hQm⟩
theorem frStep_part {p : List UInt8} (h : p.length ≤ 65536) {j : Nat} (hj : j < (frB p).length) : frStep ((frB p).take j) = none := by
 rw [frB_len] at hj
 have hl : ((frB p).take j).length = j := by rw [List.length_take, frB_len]; omega
 unfold frStep
 by_cases h8 : j < 8
 ·rw [if_pos (by omega)]
 ·have e4 : ((frB p).take j).take 4 = be p.length 4 := by
   have := frB_take4 p []
   rw [List.append_nil] at this
   rw [List.take_take, show min 4 j = 4 by omega]
   exact this
  rw [if_neg (by omega), e4, numB_len4 h, if_neg (by omega), if_pos (by omega)]
theorem frames_take : ∀ (ps : List (List UInt8)) (k : Nat), (∀ p ∈ ps, p.length ≤ 65536) → ∃ i, (frames ((ps.flatMap frB).take k)).1 = ps.take i ∧ (k < (ps.flatMap frB).length → i < ps.length)
 | [], k, _ => ⟨0, by simp [frames_nil], fun h => by simp at h⟩
 | p :: ps, k, h => by
  have hp := h p List.mem_cons_self
  rw [List.flatMap_cons]
  by_cases hk : k < (frB p).length
  ·rw [List.take_append_of_le_length (by omega), frames_none (frStep_part hp hk)]
   exact ⟨0, by simp, fun _ => by simp⟩
  ·obtain ⟨i, h1, h2⟩ := frames_take ps (k - (frB p).length) fun q hq => h q (List.mem_cons_of_mem _ hq)
   rw [List.take_append, List.take_of_length_le (by omega), frames_cons hp, h1]
   refine ⟨i + 1, by simp, fun hl => ?_⟩
   rw [List.length_append] at hl
   have := h2 (by omega)
   simp; omega
theorem encB_flat (c : Cont) : encB c = (hdB c :: c.snap :: c.recs).flatMap frB := by simp [encB]
theorem hdB_drop (c : Cont) : (hdB c).drop 8 = be c.recs.length 4 := by
 unfold hdB
 rw [List.drop_append_of_le_length (by rw [be_len]; omega), List.drop_eq_nil_of_le (by rw [be_len]; omega), List.nil_append]
theorem parseF_cut {c : Cont} (hs : c.snap.length ≤ 65536) (hr : ∀ p ∈ c.recs, p.length ≤ 65536) (hc : c.recs.length ≤ 4000000000) {k : Nat} (hk : k < (encB c).length) : parseF ((encB c).take k) = none := by
 have hh := hdB_len c
 have hall : ∀ p ∈ hdB c :: c.snap :: c.recs, p.length ≤ 65536 := by
  intro p hp
  rcases List.mem_cons.1 hp with rfl | hp
  ·omega
  ·rcases List.mem_cons.1 hp with rfl | hp
   ·exact hs
   ·exact hr p hp
 rw [encB_flat] at hk ⊢
 obtain ⟨i, h1, h2⟩ := frames_take _ k hall
 have hi := h2 hk
 simp only [List.length_cons] at hi
 have n2 : numB (be c.recs.length 4) = c.recs.length := numB_be 4 _ (by omega)
 unfold parseF
 rw [h1]
 match i, hi with
 | 0, _ => rfl
 | 1, _ => rfl
 | i + 2, hi =>
  simp only [List.take_succ_cons]
  rw [hdB_drop, n2, if_neg]
  rintro ⟨_, _, _, e⟩
  rw [List.length_take] at e
  omega
theorem parseF_nil : parseF [] = none := rfl
def Cont.cc (c : Cont) : List UInt8 × List (List UInt8) := (c.snap, c.recs)
theorem ar_put {D : Dk} {n : Nat} {x : Ar} : (D.put n x).ar n = x := by
 unfold Dk.put Dk.ar
 split <;> rfl
theorem ar_put2 {D : Dk} {n : Nat} {x : Ar} (hn : n < 2) : (D.put n x).ar (1 - n) = D.ar (1 - n) := by
 rcases (show n = 0 ∨ n = 1 by omega) with rfl | rfl <;> rfl
theorem put_off {D : Dk} {n : Nat} {x : Ar} : (D.put n x).off = D.off ∧ (D.put n x).fused = D.fused ∧ (D.put n x).most = D.most := by
 unfold Dk.put
 split <;> exact ⟨rfl, rfl, rfl⟩
structure Same (D E : Dk) : Prop where
 a : ∀ n, E.ar n = D.ar n
 m : E.most = D.most
 f : E.fused = D.fused
theorem Same.of {D E : Dk} (h0 : E.a0 = D.a0) (h1 : E.a1 = D.a1) (m : E.most = D.most) (f : E.fused = D.fused) : Same D E := ⟨fun n => by unfold Dk.ar; rw [h0, h1], m, f⟩
theorem spF_cases {D : Dk} (ho : D.off = false) : (∃ E, spF D = (true, E) ∧ E.off = false ∧ Same D E) ∨ ∃ E, spF D = (false, E) ∧ E.off = true ∧ Same D E ∧ D.fused = true := by
 unfold spF
 rw [if_neg (by rw [ho]; simp)]
 by_cases hf : D.fused = true
 ·rw [if_pos hf]
  split
  ·exact .inr ⟨_, rfl, rfl, .of rfl rfl rfl rfl, hf⟩
  ·exact .inl ⟨_, rfl, ho, .of rfl rfl rfl rfl⟩
 ·rw [if_neg hf]
  exact .inl ⟨_, rfl, ho, .of rfl rfl rfl rfl⟩
theorem wr_cases {D : Dk} (ho : D.off = false) {n : Nat} (hn : n < 2) (c : Cont) :
  ((wrF D (n : Nat) c).1 = 0 ∧ (wrF D (n : Nat) c).2.off = false ∧ (wrF D (n : Nat) c).2.ar n = ⟨encB c, (encB c).length⟩ ∧ (wrF D (n : Nat) c).2.ar (1 - n) = D.ar (1 - n)) ∨
  ((wrF D (n : Nat) c).1 = 13 ∧ D.most < (encB c).length ∧ (wrF D (n : Nat) c).2.off = false ∧ (wrF D (n : Nat) c).2.ar n = ⟨[], 0⟩ ∧ (wrF D (n : Nat) c).2.ar (1 - n) = D.ar (1 - n)) ∨
  ((wrF D (n : Nat) c).1 = 14 ∧ D.fused = true ∧ ((wrF D (n : Nat) c).2.ar n = D.ar n ∨ (wrF D (n : Nat) c).2.ar n = ⟨[], 0⟩ ∨ (wrF D (n : Nat) c).2.ar n = ⟨encB c, 0⟩) ∧ (wrF D (n : Nat) c).2.ar (1 - n) = D.ar (1 - n)) := by
 have hi : inA ((n : Nat) : Int) := ⟨by omega, by omega⟩
 have hnn : ((n : Nat) : Int).toNat = n := rfl
 rcases spF_cases ho with ⟨E, e1, e2, e3⟩ | ⟨E, e1, e2, e3, e4⟩
 ·have c1 : clF D (n : Nat) = (0, E.put n ⟨[], 0⟩) := by unfold clF; rw [if_pos hi, e1, if_pos rfl, hnn]
  obtain ⟨p1, p2, p3⟩ := put_off (D := E) (n := n) (x := ⟨[], 0⟩)
  have q1 : (E.put n ⟨[], 0⟩).ar n = ⟨[], 0⟩ := ar_put
  have q2 : (E.put n ⟨[], 0⟩).ar (1 - n) = D.ar (1 - n) := by rw [ar_put2 hn, e3.a]
  generalize E.put n ⟨[], 0⟩ = D1 at *
  by_cases hsz : D.most < (encB c).length
  ·refine .inr (.inl ?_)
   have a1 : apF D1 (n : Nat) (encB c) = (13, D1) := by unfold apF; rw [if_pos hi, hnn, q1, if_pos (by show D1.most - 0 < _; rw [p3, e3.m]; omega)]
   unfold wrF
   rw [c1]
   simp only
   rw [if_neg (fun e => e rfl), a1]
   simp only
   rw [if_pos (by decide)]
   exact ⟨rfl, hsz, by rw [p1]; exact e2, q1, q2⟩
  ·rcases spF_cases (D := D1) (by rw [p1]; exact e2) with ⟨F, f1, f2, f3⟩ | ⟨F, f1, f2, f3, f4⟩
   ·have a1 : apF D1 (n : Nat) (encB c) = (0, F.put n ⟨encB c, 0⟩) := by unfold apF; rw [if_pos hi, hnn, q1, if_neg (by show ¬ D1.most - 0 < _; rw [p3, e3.m]; omega), f1, if_pos rfl]; rfl
    obtain ⟨r1, r2, r3⟩ := put_off (D := F) (n := n) (x := ⟨encB c, 0⟩)
    have s1 : (F.put n ⟨encB c, 0⟩).ar n = ⟨encB c, 0⟩ := ar_put
    have s2 : (F.put n ⟨encB c, 0⟩).ar (1 - n) = D.ar (1 - n) := by rw [ar_put2 hn, f3.a, q2]
    generalize F.put n ⟨encB c, 0⟩ = D2 at *
    rcases spF_cases (D := D2) (by rw [r1]; exact f2) with ⟨G, g1, g2, g3⟩ | ⟨G, g1, g2, g3, g4⟩
    ·refine .inl ?_
     have b1 : syF D2 (n : Nat) = (0, G.put n ⟨encB c, (encB c).length⟩) := by unfold syF; rw [if_pos hi, hnn, s1, g1, if_pos rfl]
     unfold wrF
     rw [c1]
     simp only
     rw [if_neg (fun e => e rfl), a1]
     simp only
     rw [if_neg (fun e => e rfl), b1]
     exact ⟨rfl, by rw [put_off.1]; exact g2, ar_put, by rw [ar_put2 hn, g3.a, s2]⟩
    ·refine .inr (.inr ?_)
     have b1 : syF D2 (n : Nat) = (14, G) := by unfold syF; rw [if_pos hi, g1, if_neg (by simp)]
     unfold wrF
     rw [c1]
     simp only
     rw [if_neg (fun e => e rfl), a1]
     simp only
     rw [if_neg (fun e => e rfl), b1]
     exact ⟨rfl, by rw [← e3.f, ← p2, ← f3.f, ← r2]; exact g4, .inr (.inr (by rw [g3.a, s1])), by rw [g3.a, s2]⟩
   ·refine .inr (.inr ?_)
    have a1 : apF D1 (n : Nat) (encB c) = (14, F) := by unfold apF; rw [if_pos hi, hnn, q1, if_neg (by show ¬ D1.most - 0 < _; rw [p3, e3.m]; omega), f1, if_neg (by simp)]
    unfold wrF
    rw [c1]
    simp only
    rw [if_neg (fun e => e rfl), a1]
    simp only
    rw [if_pos (by decide)]
    exact ⟨rfl, by rw [← e3.f, ← p2]; exact f4, .inr (.inl (by rw [f3.a, q1])), by rw [f3.a, q2]⟩
 ·refine .inr (.inr ?_)
  have c1 : clF D (n : Nat) = (14, E) := by unfold clF; rw [if_pos hi, e1, if_neg (by simp)]
  unfold wrF
  rw [c1]
  simp only
  rw [if_pos (by decide)]
  exact ⟨rfl, e4, .inl (e3.a n), e3.a _⟩
structure Clean (D : Dk) (L : Lg) : Prop where
 n2 : L.at_ < 2
 on : D.off = false
 s : (D.ar L.at_).s = (D.ar L.at_).b.length
 p : parseF (D.ar L.at_).b = some (L.c, 0)
 o : ∀ k, (D.ar (1 - L.at_)).s ≤ k → ∀ c r, parseF ((D.ar (1 - L.at_)).b.take k) = some (c, r) → c.gen < L.c.gen
structure Dirty (D : Dk) (L : Lg) (mb : List UInt8 × List (List UInt8)) : Prop where
 n2 : L.at_ < 2
 p : ∀ k, (D.ar L.at_).s ≤ k → ∃ c r, parseF ((D.ar L.at_).b.take k) = some (c, r) ∧ c.gen = L.c.gen ∧ (c.cc = L.c.cc ∨ c.cc = mb)
 o : ∀ k, (D.ar (1 - L.at_)).s ≤ k → ∀ c r, parseF ((D.ar (1 - L.at_)).b.take k) = some (c, r) → c.gen < L.c.gen ∨ c.gen = L.c.gen + 1 ∧ c.cc = mb
structure Stl (D : Dk) (n : Nat) (c : Cont) (r : Nat) : Prop where
 n2 : n < 2
 s : ∀ i, i < 2 → (D.ar i).s = (D.ar i).b.length
 p : parseF (D.ar n).b = some (c, r)
 o : ∀ c' r', parseF (D.ar (1 - n)).b = some (c', r') → c'.gen < c.gen
theorem crA_cut {x : Ar} (keep : Int) (h : x.s ≤ x.b.length) : ∃ K, x.s ≤ K ∧ K ≤ x.b.length ∧ crA x keep = ⟨x.b.take K, K⟩ :=
 ⟨(crA x keep).s, (crA_le h).2.2, (crA_le h).1, rfl⟩
theorem crF_ar (D : Dk) (k0 k1 : Int) (n : Nat) : (crF D k0 k1).ar n = crA (D.ar n) (if n = 0 then k0 else k1) := by
 unfold Dk.ar
 split <;> rfl
theorem OkD.s2 {D : Dk} (h : OkD D) (n : Nat) : (D.ar n).s ≤ (D.ar n).b.length ∧ (D.ar n).b.length ≤ D.most := by
 unfold Dk.ar
 split
 ·exact ⟨h.s0, h.l0⟩
 ·exact ⟨h.s1, h.l1⟩
theorem Stl.pick {D : Dk} {n : Nat} {c : Cont} {r : Nat} (h : Stl D n c r) : pickF D = some (c, n, decide (0 < r)) := by
 have hp := h.p
 have ho := h.o
 rcases (show n = 0 ∨ n = 1 by have := h.n2; omega) with rfl | rfl
 ·have h0 : pick0 D = some (c, 0, decide (0 < r)) := by
   unfold pick0
   rw [show D.a0.b = (D.ar 0).b from rfl, hp]
   rfl
  unfold pickF
  rw [h0, show D.a1.b = (D.ar (1 - 0)).b from rfl]
  cases e : parseF (D.ar (1 - 0)).b with
  | none => rfl
  | some y =>
   obtain ⟨c', r'⟩ := y
   have := ho c' r' e
   exact if_neg (by omega)
 ·unfold pickF
  rw [show D.a1.b = (D.ar 1).b from rfl, hp]
  unfold pick0
  rw [show D.a0.b = (D.ar (1 - 1)).b from rfl]
  cases e : parseF (D.ar (1 - 1)).b with
  | none => rfl
  | some y =>
   obtain ⟨c', r'⟩ := y
   have := ho c' r' e
   exact if_pos (by omega)
theorem openF_on {E : Dk} (h : E.off = false) : openF E = (match pickF E with
   | none => wrO E ⟨1, [], []⟩ 0
   | some (c, n, true) => if c.gen = 4611686018427387904 then (5, none, E) else wrO E ⟨c.gen + 1, c.snap, c.recs⟩ (1 - n)
   | some (c, n, false) => (0, some (c, n), E)) := by unfold openF; rw [if_neg (by rw [h]; simp)]; rfl
theorem Stl.open {D : Dk} {n : Nat} {c : Cont} {r : Nat} (hD : OkD D) (ho : D.off = false) (h : Stl D n c r) (hg : c.gen < 4611686018427387904) :
  (∃ c' n' D', openF D = (0, some (c', n'), D') ∧ Clean D' ⟨c', n', false⟩ ∧ c'.cc = c.cc ∧ c'.gen ≤ c.gen + 1) ∨
  ∃ D', openF D = (14, none, D') ∧ D.fused = true ∧ (OkD D' → ∀ k0 k1, ∃ n' c' r', Stl (crF D' k0 k1) n' c' r' ∧ c'.cc = c.cc ∧ c'.gen ≤ c.gen + 1) := by
 have hpk := h.pick
 have hop := openF_on ho
 rw [hpk] at hop
 have n2 := h.n2
 have hs := h.s
 by_cases hr : 0 < r
 ·rw [show decide (0 < r) = true by simp [hr]] at hop
  simp only at hop
  rw [if_neg (by omega)] at hop
  obtain ⟨l1, l2, l3, l4, l5⟩ := parseF_len h.p
  have hal := (hD.s2 n).2
  have hhi := hD.hi
  have hcn := flat_cnt c.recs
  have hel := encB_len c
  have hel2 := encB_len ⟨c.gen + 1, c.snap, c.recs⟩
  simp only at hel2
  have hpw := parseF_whole (c := ⟨c.gen + 1, c.snap, c.recs⟩) (by simp) (by show c.gen + 1 ≤ _; omega) l4 l5 (by show c.recs.length ≤ _; omega)
  have hcut := fun k => parseF_cut (c := ⟨c.gen + 1, c.snap, c.recs⟩) l4 l5 (by show c.recs.length ≤ _; omega) (k := k)
  have nn : 1 - (1 - n) = n := by omega
  rcases wr_cases ho (n := 1 - n) (by omega) ⟨c.gen + 1, c.snap, c.recs⟩ with ⟨w1, w2, w3, w4⟩ | ⟨_, w2, _⟩ | ⟨w1, w2, w3, w4⟩
  ·rw [nn] at w4
   refine .inl ⟨⟨c.gen + 1, c.snap, c.recs⟩, 1 - n, _, by rw [hop]; unfold wrO; rw [if_pos w1], ⟨by show 1 - n < 2; omega, w2, ?_, ?_, ?_⟩, rfl, Nat.le_refl _⟩
   ·show ((wrF D ((1 - n : Nat) : Int) ⟨c.gen + 1, c.snap, c.recs⟩).2.ar (1 - n)).s = _
    rw [w3]
   ·show parseF ((wrF D ((1 - n : Nat) : Int) ⟨c.gen + 1, c.snap, c.recs⟩).2.ar (1 - n)).b = _
    rw [w3]
    exact hpw
   ·show ∀ k, ((wrF D ((1 - n : Nat) : Int) ⟨c.gen + 1, c.snap, c.recs⟩).2.ar (1 - (1 - n))).s ≤ k → ∀ c' r', parseF (((wrF D ((1 - n : Nat) : Int) ⟨c.gen + 1, c.snap, c.recs⟩).2.ar (1 - (1 - n))).b.take k) = some (c', r') → c'.gen < c.gen + 1
    rw [nn, w4]
    intro k hk c' r' e
    rw [List.take_of_length_le (by rw [← hs n n2]; exact hk), h.p] at e
    simp only [Option.some.injEq, Prod.mk.injEq] at e
    rw [← e.1]; omega
  ·omega
  ·rw [nn] at w4
   refine .inr ⟨(wrF D ((1 - n : Nat) : Int) ⟨c.gen + 1, c.snap, c.recs⟩).2, by rw [hop]; unfold wrO; rw [if_neg (by rw [w1]; decide), w1], w2, fun hD' k0 k1 => ?_⟩
   generalize (wrF D ((1 - n : Nat) : Int) ⟨c.gen + 1, c.snap, c.recs⟩).2 = E at *
   have cut : ∀ i, ∃ K, (E.ar i).s ≤ K ∧ K ≤ (E.ar i).b.length ∧ (crF E k0 k1).ar i = ⟨(E.ar i).b.take K, K⟩ := fun i => by
    rw [crF_ar]
    exact crA_cut _ (hD'.s2 i).1
   have hs' : ∀ i, i < 2 → ((crF E k0 k1).ar i).s = ((crF E k0 k1).ar i).b.length := fun i _ => by
    obtain ⟨K, _, h2, h3⟩ := cut i
    rw [h3]
    show K = ((E.ar i).b.take K).length
    rw [List.length_take]; omega
   obtain ⟨K, g1, g2, g3⟩ := cut n
   rw [w4] at g1 g2 g3
   have hsn := hs n n2
   rw [List.take_of_length_le (by omega)] at g3
   have ep : parseF ((crF E k0 k1).ar n).b = some (c, r) := by rw [g3]; exact h.p
   obtain ⟨J, j1, j2, j3⟩ := cut (1 - n)
   have quick : (∀ c' r', parseF ((crF E k0 k1).ar (1 - n)).b = some (c', r') → c'.gen < c.gen) → ∃ n' c' r', Stl (crF E k0 k1) n' c' r' ∧ c'.cc = c.cc ∧ c'.gen ≤ c.gen + 1 := fun q => ⟨n, c, r, ⟨n2, hs', ep, q⟩, rfl, by omega⟩
   rcases w3 with w3 | w3 | w3
   ·rw [w3] at j1 j2 j3
    have hso := hs (1 - n) (by omega)
    rw [List.take_of_length_le (by omega)] at j3
    exact quick fun c' r' e => h.o c' r' (by rw [j3] at e; exact e)
   ·rw [w3] at j3
    exact quick fun c' r' e => by
     rw [j3, show (⟨(⟨[], 0⟩ : Ar).b.take J, J⟩ : Ar).b = [] from List.take_nil, parseF_nil] at e
     cases e
   ·rw [w3] at j1 j2 j3
    by_cases hJ : J < (encB ⟨c.gen + 1, c.snap, c.recs⟩).length
    ·exact quick fun c' r' e => by
      rw [j3] at e
      rw [show (⟨(⟨encB ⟨c.gen + 1, c.snap, c.recs⟩, 0⟩ : Ar).b.take J, J⟩ : Ar).b = (encB ⟨c.gen + 1, c.snap, c.recs⟩).take J from rfl, hcut J hJ] at e
      cases e
    ·have e2 : ((crF E k0 k1).ar (1 - n)).b = encB ⟨c.gen + 1, c.snap, c.recs⟩ := by
      rw [j3]
      exact List.take_of_length_le (by show (encB ⟨c.gen + 1, c.snap, c.recs⟩).length ≤ J; omega)
     refine ⟨1 - n, ⟨c.gen + 1, c.snap, c.recs⟩, 0, ⟨by omega, hs', by rw [e2]; exact hpw, fun c' r' e => ?_⟩, rfl, Nat.le_refl _⟩
     rw [nn, ep] at e
     simp only [Option.some.injEq, Prod.mk.injEq] at e
     rw [← e.1]
     show c.gen < c.gen + 1
     omega
 ·obtain rfl : r = 0 := by omega
  refine .inl ⟨c, n, D, ?_, ⟨n2, ho, hs n n2, h.p, fun k hk c' r' e => ?_⟩, rfl, by omega⟩
  ·rw [hop]
   rfl
  ·change (D.ar (1 - n)).s ≤ k at hk
   rw [hs (1 - n) (by omega)] at hk
   change parseF ((D.ar (1 - n)).b.take k) = _ at e
   rw [List.take_of_length_le hk] at e
   exact h.o c' r' e
def KInv (D : Dk) (L : Lg) (mb : List UInt8 × List (List UInt8)) : Prop := L.down = false ∧ Clean D L ∨ L.down = true ∧ Dirty D L mb
def KQ (L : Lg) (nx : List UInt8 × List (List UInt8)) (mb : List UInt8 × List (List UInt8)) (o : Int × Dk × Lg) : Prop :=
 (o.1 = 0 ∧ o.2.2.c.cc = nx ∧ o.2.2.c.gen ≤ L.c.gen + 1 ∧ ∀ m', KInv o.2.1 o.2.2 m') ∨
 (o.1 ≠ 0 ∧ o.1 ≠ 14 ∧ o.2.2.c = L.c ∧ KInv o.2.1 o.2.2 mb) ∨
 (o.1 = 14 ∧ o.2.2.c = L.c ∧ KInv o.2.1 o.2.2 nx)
section
variable {P : Program} {nt : Nat} {ops : Array Oper} {t : Fm} {m : AM} {K : Fm → AM → Prop} {d T : Nat} {p : String} {af : Array Edge}
end
structure Act9 where
 kd : Int
 n : Int
 m : Int
 l : List UInt8
instance : Inhabited Act9 := ⟨⟨0, 0, 0, []⟩⟩
def Act9.cells (x : Act9) (w : Value) : List Value := [.int .i64 x.kd, .int .i64 x.n, .int .i64 x.m, w]
def Acts9 (M : AM) (v : Value) (ds : List Act9) : Prop := ∃ a o, Sl v a o ds.length ∧ a < M.length ∧ ∀ k, k < ds.length → ∃ w, RdL M a (o + k * 4) ((ds.getD k default).cells w) ∧ Byts M w (ds.getD k default).l
theorem Byts.one {M : AM} {w : Value} {l : List UInt8} (h : Byts M w l) : w.oneCell' = true := by
 obtain ⟨_, _, h, _⟩ := h
 rcases h with ⟨rfl, _⟩ | ⟨c, _, rfl⟩ | ⟨_, _, _, rfl⟩ <;> rfl
theorem Act9.one {M : AM} {x : Act9} {w : Value} (h : Byts M w x.l) : (Value.agg (x.cells w).toArray).cells.all (·.oneCell') = true := by
 show ((x.cells w).toArray).all (·.oneCell') = true
 simp only [← Array.all_toList, Act9.cells, List.all_cons, h.one]
 rfl
def AgS (m0 : AM) (bk : Nat) (cs : List Value) (D : Dk) (M : AM) : Prop := ∃ u0 u1, DiskAt M m0.length m0.length D u0 u1 ∧ (∃ N, M = m0 ++ N) ∧ M[bk]? = some (some { cells := cs }) ∧ ¬ dkD m0.length u0 u1 bk
theorem AgS.old {m0 M : AM} {bk : Nat} {cs : List Value} {D : Dk} (h : AgS m0 bk cs D M) (T : AM) : AgS m0 bk cs D (M ++ T) := by
 obtain ⟨u0, u1, h1, ⟨N, rfl⟩, h3, h4⟩ := h
 exact ⟨u0, u1, h1.old T, ⟨N ++ T, List.append_assoc ..⟩, get_old T h3, h4⟩
theorem AgS.dk {m0 X M : AM} {bk : Nat} {cs : List Value} {D D' : Dk} {u0 u1 : Value} (hd : DiskAt X m0.length m0.length D u0 u1) (hN : ∃ N, X = m0 ++ N) (hb : X[bk]? = some (some { cells := cs })) (hn : ¬ dkD m0.length u0 u1 bk) (hq : DkQ D' m0.length m0.length u0 u1 X M) : AgS m0 bk cs D' M := by
 obtain ⟨w0, w1, a, k, f⟩ := hq
 have hbl := (List.getElem?_eq_some_iff.1 hb).1
 have hml : m0.length ≤ X.length := by obtain ⟨N, rfl⟩ := hN; rw [List.length_append]; omega
 exact ⟨w0, w1, a, pre_keep hN k.len fun j hj => k.get j (by omega) fun e => by have := (hd.at_ e).1; omega, by rw [k.get bk hbl hn]; exact hb, f bk hbl hn⟩
theorem AgS.dl {m0 X M : AM} {bk lg : Nat} {cs : List Value} {D D' : Dk} {L' : Lg} {u0 u1 : Value} {S : Nat → Prop} (hd : DiskAt X m0.length m0.length D u0 u1) (hN : ∃ N, X = m0 ++ N) (hb : X[bk]? = some (some { cells := cs })) (hn : ¬ dkD m0.length u0 u1 bk) (hS : ∀ j, S j → m0.length ≤ j) (hbS : ¬ S bk) (hq : DLQ D' L' m0.length m0.length lg u0 u1 S X M) : AgS m0 bk cs D' M := by
 obtain ⟨w0, w1, sv, rv, S', a, _, _, _, k, f⟩ := hq
 have hbl := (List.getElem?_eq_some_iff.1 hb).1
 have hml : m0.length ≤ X.length := by obtain ⟨N, rfl⟩ := hN; rw [List.length_append]; omega
 exact ⟨w0, w1, a, pre_keep hN k.len fun j hj => k.get j (by omega) fun e => by
  rcases e with e | e
  ·have := (hd.at_ e).1
   omega
  ·have := hS j e
   omega, by rw [k.get bk hbl fun e => e.elim hn hbS]; exact hb, f bk hbl hn⟩
theorem openF_len {D : Dk} {c : Cont} {n : Nat} (hD : OkD D) (h : (openF D).2.1 = some (c, n)) : c.gen ≤ 4611686018427387904 ∧ 1 ≤ c.gen ∧ c.snap.length ≤ 65536 ∧ c.recs.length ≤ 131072 ∧ (∀ p ∈ c.recs, p.length ≤ 65536) ∧ n < 2 := by
 have hhi := hD.hi
 have key : ∀ c n, pickF D = some (c, n, true) ∨ pickF D = some (c, n, false) → c.gen ≤ 4611686018427387904 ∧ 1 ≤ c.gen ∧ c.snap.length ≤ 65536 ∧ c.recs.length ≤ 131072 ∧ (∀ p ∈ c.recs, p.length ≤ 65536) ∧ n < 2 := fun c n hp => by
  have : ∃ t, pickF D = some (c, n, t) := by rcases hp with h | h <;> exact ⟨_, h⟩
  obtain ⟨t, hp⟩ := this
  obtain ⟨r, hpr, hn2, _⟩ := pick_ok hp
  obtain ⟨l1, l2, l3, l4, l5⟩ := parseF_len hpr
  have hal : (D.ar n).b.length ≤ D.most := by
   rcases (show n = 0 ∨ n = 1 by omega) with rfl | rfl
   ·exact hD.l0
   ·exact hD.l1
  have hcn := flat_cnt c.recs
  have hel := encB_len c
  exact ⟨l3, l2, l4, by omega, l5, hn2⟩
 have hwr : ∀ c' n', (wrO D c' n').2.1 = some (c, n) → c = c' ∧ n = n' := fun c' n' e => by
  unfold wrO at e
  split at e
  ·simp only [Option.some.injEq, Prod.mk.injEq] at e
   exact ⟨e.1.symm, e.2.symm⟩
  ·cases e
 unfold openF at h
 split at h
 ·cases h
 ·split at h
  ·obtain ⟨rfl, rfl⟩ := hwr _ _ h
   exact ⟨by simp, by simp, by simp, by simp, by simp, by omega⟩
  ·rename_i c' n' hp
   split at h
   ·cases h
   ·rename_i hg
    obtain ⟨q1, q2, q3, q4, q5, q6⟩ := key _ _ (.inl hp)
    obtain ⟨rfl, rfl⟩ := hwr _ _ h
    exact ⟨by show c'.gen + 1 ≤ _; omega, by show 1 ≤ c'.gen + 1; omega, q3, q4, q5, by omega⟩
  ·rename_i c' n' hp
   simp only [Option.some.injEq, Prod.mk.injEq] at h
   obtain ⟨rfl, rfl⟩ := h
   exact key _ _ (.inr hp)
theorem ze43 : zeroB Try.prog 43 = some #[.int .i64 0, .int .i64 0, .int .i64 0, .slice none 0 0] := by kernel_rfl
theorem Byts.sub {M M' : AM} {v : Value} {l : List UInt8} (h : Byts M v l) (hs : Sub M M') : Byts M' v l := by
 obtain ⟨a, o, h1, h2, h3⟩ := h
 refine ⟨a, o, h1, by have := hs.len; omega, fun k hk => ?_⟩
 obtain ⟨b, q1, q2⟩ := h3 k hk
 exact ⟨b, hs.get _ _ q1, q2⟩
def PaysL (M : AM) (v : Value) (pc : List Value) (ps : List (List UInt8)) : Prop := pc.length = ps.length ∧ (∃ a o, Sl v a o ps.length ∧ a < M.length ∧ (0 < ps.length → RdL M a o pc)) ∧ ∀ k u, pc[k]? = some u → Byts M u (ps.getD k [])
theorem PaysL.sub {M M' : AM} {v : Value} {pc : List Value} {ps : List (List UInt8)} (h : PaysL M v pc ps) (hs : Sub M M') : PaysL M' v pc ps := by
 obtain ⟨h1, ⟨a, o, h2, h3, h4⟩, h5⟩ := h
 exact ⟨h1, ⟨a, o, h2, by have := hs.len; omega, fun h0 => (h4 h0).sub hs⟩, fun k u hu => (h5 k u hu).sub hs⟩
theorem PaysL.r {M : AM} {v : Value} {pc : List Value} {ps : List (List UInt8)} (h : PaysL M v pc ps) : PaysR M v ps := by
 obtain ⟨h1, ⟨a, o, h2, h3, h4⟩, h5⟩ := h
 refine ⟨a, o, h2, h3, fun k hk => ?_⟩
 have hu : pc[k]? = some (pc[k]'(by omega)) := List.getElem?_eq_getElem (by omega)
 obtain ⟨b, q1, q2⟩ := h4 (by omega)
 exact ⟨_, ⟨b, q1, q2 k _ hu⟩, h5 k _ hu⟩
theorem PaysL.one {M : AM} {v : Value} {pc : List Value} {ps : List (List UInt8)} (h : PaysL M v pc ps) : pc.all (·.oneCell') = true := by
 rw [List.all_eq_true]
 intro u hu
 obtain ⟨k, hk⟩ := List.mem_iff_getElem?.1 hu
 exact (h.2.2 k u hk).one
theorem PaysL.nil {M : AM} (h : 0 < M.length) : PaysL M (.slice none 0 0) [] [] := ⟨rfl, ⟨0, 0, .inl ⟨rfl, rfl⟩, h, fun h => absurd h (by simp)⟩, fun k u hu => by simp at hu⟩
def CnAt (M : AM) (s r : Value) (cc : List UInt8 × List (List UInt8)) : Prop := Byts M s cc.1 ∧ ∃ pc, PaysL M r pc cc.2
theorem CnAt.sub {M M' : AM} {s r : Value} {cc : List UInt8 × List (List UInt8)} (h : CnAt M s r cc) (hs : Sub M M') : CnAt M' s r cc := ⟨h.1.sub hs, by obtain ⟨pc, h2⟩ := h.2; exact ⟨pc, h2.sub hs⟩⟩
def KDL (m0 M : AM) (K : Nat → Prop) (lg : Nat) (D : Dk) (L : Lg) : Prop := ∃ u0 u1 sv rv S, DiskAt M m0.length m0.length D u0 u1 ∧ LogAt (vw S M) lg m0.length L sv rv ∧ (∃ N, M = m0 ++ N) ∧ (∀ j, S j → ¬ dkD m0.length u0 u1 j ∧ m0.length ≤ j) ∧ ∀ j, K j → ¬ dkD m0.length u0 u1 j ∧ ¬ S j ∧ j < M.length
structure Pre (K : Nat → Prop) (M M' : AM) : Prop where
 len : M.length ≤ M'.length
 get : ∀ j, K j → M'[j]? = M[j]?
theorem Pre.sub {K : Nat → Prop} {M M' : AM} (h : Pre K M M') : Sub (vw K M) (vw K M') := ⟨by rw [vw_len, vw_len]; exact h.len, fun j b hb => by
 obtain ⟨h1, h2⟩ := vw_some.1 hb
 exact vw_some.2 ⟨h1, by rw [h.get j h1]; exact h2⟩⟩
theorem Pre.refl (K : Nat → Prop) (M : AM) : Pre K M M := ⟨Nat.le_refl _, fun _ _ => rfl⟩
theorem Keep.vwK {K : Nat → Prop} {Q : Nat → Prop} {M M' : AM} (hk : Keep Q M M') (h : ∀ j, K j → ¬ Q j ∧ j < M.length) : Sub (vw K M) M' := ⟨by rw [vw_len]; exact hk.len, fun j b hb => by
 obtain ⟨h1, h2⟩ := vw_some.1 hb
 rw [hk.get j (h j h1).2 (h j h1).1]; exact h2⟩
theorem KDL.grow {m0 M : AM} {K : Nat → Prop} {lg : Nat} {D : Dk} {L : Lg} (h : KDL m0 M K lg D L) (N : AM) : KDL m0 (M ++ N) (fun j => K j ∨ M.length ≤ j ∧ j < (M ++ N).length) lg D L := by
 obtain ⟨u0, u1, sv, rv, S, h1, h2, ⟨Y, hY⟩, h4, h5⟩ := h
 have hdl : ∀ j, dkD m0.length u0 u1 j → j < M.length := fun j hj => by
  obtain ⟨_, b, hb, _⟩ := h1.at_ hj
  exact (List.getElem?_eq_some_iff.1 hb).1
 refine ⟨u0, u1, sv, rv, fun j => S j ∧ j < M.length, h1.old N, h2.msub ⟨by rw [vw_len, vw_len, List.length_append]; omega, fun j b _ hj => ?_⟩, ⟨Y ++ N, by rw [hY, List.append_assoc]⟩, fun j hj => h4 j hj.1, fun j hj => ?_⟩
 ·obtain ⟨q1, q2⟩ := vw_some.1 hj
  exact vw_some.2 ⟨⟨q1, (List.getElem?_eq_some_iff.1 q2).1⟩, get_old N q2⟩
 ·rcases hj with hj | hj
  ·exact ⟨(h5 j hj).1, fun e => (h5 j hj).2.1 e.1, by rw [List.length_append]; have := (h5 j hj).2.2; omega⟩
  ·exact ⟨fun e => by have := hdl j e; omega, fun e => by omega, hj.2⟩
theorem KDL.set {m0 M : AM} {K : Nat → Prop} {lg : Nat} {D : Dk} {L : Lg} (h : KDL m0 M K lg D L) {a : Nat} (ha : K a) (hm : m0.length ≤ a) (b : Option Blk) : KDL m0 (M.set a b) K lg D L := by
 obtain ⟨u0, u1, sv, rv, S, h1, h2, ⟨N, hN⟩, h4, h5⟩ := h
 have hne : ∀ j, j ≠ a → (M.set a b)[j]? = M[j]? := fun j hj => List.getElem?_set_ne (Ne.symm hj)
 refine ⟨u0, u1, sv, rv, S, h1.keep fun j x hx hj _ => by rw [hne j fun e => (h5 a ha).1 (by rw [← e]; exact hj)]; exact hx, h2.msub ⟨by rw [vw_len, vw_len, List.length_set]; exact Nat.le_refl _, fun j x _ hj => ?_⟩, by rw [hN]; exact set_high hm b, h4, fun j hj => ⟨(h5 j hj).1, (h5 j hj).2.1, by rw [List.length_set]; exact (h5 j hj).2.2⟩⟩
 obtain ⟨q1, q2⟩ := vw_some.1 hj
 exact vw_some.2 ⟨q1, by rw [hne j fun e => (h5 a ha).2.1 (by rw [← e]; exact q1)]; exact q2⟩
structure TwoD (m0 M : AM) (K : Nat → Prop) (dk rk : Nat) (D E : Dk) (u0 u1 v0 v1 : Value) (S R : Nat → Prop) : Prop where
 d : DiskAt M m0.length dk D u0 u1
 e : RDiskAt M m0.length rk E v0 v1
 pre : ∃ N, M = m0 ++ N
 de : ∀ j, dkD dk u0 u1 j → ¬ dkD rk v0 v1 j
 s : ∀ j, S j → m0.length ≤ j ∧ j < M.length ∧ ¬ dkD dk u0 u1 j ∧ ¬ dkD rk v0 v1 j
 r : ∀ j, R j → m0.length ≤ j ∧ j < M.length ∧ ¬ dkD dk u0 u1 j ∧ ¬ dkD rk v0 v1 j ∧ ¬ S j
 k : ∀ j, K j → j < M.length ∧ ¬ dkD dk u0 u1 j ∧ ¬ dkD rk v0 v1 j ∧ ¬ S j ∧ ¬ R j
def LgO (M : AM) (S : Nat → Prop) (dk : Nat) : Option (Nat × Lg) → Prop
 | none => True
 | some (lg, L) => ∃ sv rv, LogAt (vw S M) lg dk L sv rv
def RLgO (M : AM) (R : Nat → Prop) (rk : Nat) : Option (Nat × Lg) → Prop
 | none => True
 | some (lg, L) => ∃ sv rv, RLogIn R M lg rk L sv rv
def TwoS (m0 M : AM) (K : Nat → Prop) (dk rk : Nat) (D E : Dk) (o1 o2 : Option (Nat × Lg)) : Prop := ∃ u0 u1 v0 v1 S R, TwoD m0 M K dk rk D E u0 u1 v0 v1 S R ∧ LgO M S dk o1 ∧ RLgO M R rk o2
theorem LgO.sub {M M' : AM} {S S' : Nat → Prop} {dk : Nat} {o : Option (Nat × Lg)} (h : LgO M S dk o) (hl : M.length ≤ M'.length) (hs : ∀ j, S j → j < M.length → S' j ∧ M'[j]? = M[j]?) : LgO M' S' dk o := by
 match o, h with
 | none, _ => trivial
 | some (lg, L), ⟨sv, rv, h⟩ =>
  refine ⟨sv, rv, h.msub ⟨by rw [vw_len, vw_len]; exact hl, fun j b _ hj => ?_⟩⟩
  obtain ⟨q1, q2⟩ := vw_some.1 hj
  obtain ⟨g1, g2⟩ := hs j q1 (List.getElem?_eq_some_iff.1 q2).1
  exact vw_some.2 ⟨g1, by rw [g2]; exact q2⟩
theorem RLgO.sub {M M' : AM} {S S' : Nat → Prop} {dk : Nat} {o : Option (Nat × Lg)} (h : RLgO M S dk o) (hl : M.length ≤ M'.length) (hs : ∀ j, S j → j < M.length → S' j ∧ M'[j]? = M[j]?) : RLgO M' S' dk o := by
 match o, h with
 | none, _ => trivial
 | some (lg, L), ⟨sv, rv, h⟩ => exact ⟨sv, rv, h.sub hl hs⟩
section
variable {m0 M M' : AM} {K : Nat → Prop} {dk rk : Nat} {D E D' E' : Dk} {u0 u1 v0 v1 : Value} {S R : Nat → Prop} {o1 o2 : Option (Nat × Lg)}
theorem TwoD.le (h : TwoD m0 M K dk rk D E u0 u1 v0 v1 S R) : m0.length ≤ M.length := by obtain ⟨N, rfl⟩ := h.pre; rw [List.length_append]; omega
theorem TwoD.dlt (h : TwoD m0 M K dk rk D E u0 u1 v0 v1 S R) {j : Nat} (hj : dkD dk u0 u1 j) : m0.length ≤ j ∧ j < M.length := by
 obtain ⟨q, b, hb, _⟩ := h.d.at_ hj
 exact ⟨q, (List.getElem?_eq_some_iff.1 hb).1⟩
theorem TwoD.elt (h : TwoD m0 M K dk rk D E u0 u1 v0 v1 S R) {j : Nat} (hj : dkD rk v0 v1 j) : m0.length ≤ j ∧ j < M.length := by
 obtain ⟨q, b, hb, _⟩ := h.e.at_ hj
 exact ⟨q, (List.getElem?_eq_some_iff.1 hb).1⟩
theorem TwoD.dq (h : TwoD m0 M K dk rk D E u0 u1 v0 v1 S R) (h1 : LgO M S dk o1) (h2 : RLgO M R rk o2) (hq : DkQ D' m0.length dk u0 u1 M M') : TwoS m0 M' K dk rk D' E o1 o2 ∧ Pre K M M' := by
 obtain ⟨w0, w1, a, k, f⟩ := hq
 have hkl := k.len
 refine ⟨⟨w0, w1, v0, v1, S, R, ⟨a, h.e.keep fun j b hb hj _ => by rw [k.get j (h.elt hj).2 fun e => h.de j e hj]; exact hb, pre_keep h.pre k.len fun j hj => k.get j (by have := h.le; omega) fun e => by have := (h.dlt e).1; omega, fun j hj e => f j (h.elt e).2 (fun q => h.de j q e) hj, fun j hj => ?_, fun j hj => ?_, fun j hj => ?_⟩, h1.sub k.len fun j hj hl => ⟨hj, k.get j hl (h.s j hj).2.2.1⟩, h2.sub k.len fun j hj hl => ⟨hj, k.get j hl (h.r j hj).2.2.1⟩⟩, k.len, fun j hj => k.get j (h.k j hj).1 (h.k j hj).2.1⟩
 ·obtain ⟨q1, q2, q3, q4⟩ := h.s j hj
  exact ⟨q1, by omega, f j q2 q3, q4⟩
 ·obtain ⟨q1, q2, q3, q4, q5⟩ := h.r j hj
  exact ⟨q1, by omega, f j q2 q3, q4, q5⟩
 ·obtain ⟨q1, q2, q3, q4, q5⟩ := h.k j hj
  exact ⟨by omega, f j q1 q2, q3, q4, q5⟩
theorem TwoD.rq (h : TwoD m0 M K dk rk D E u0 u1 v0 v1 S R) (h1 : LgO M S dk o1) (h2 : RLgO M R rk o2) (hq : RkQ E' m0.length rk v0 v1 M M') : TwoS m0 M' K dk rk D E' o1 o2 ∧ Pre K M M' := by
 obtain ⟨w0, w1, a, k, f⟩ := hq
 have hkl := k.len
 refine ⟨⟨u0, u1, w0, w1, S, R, ⟨h.d.keep fun j b hb hj _ => by rw [k.get j (h.dlt hj).2 fun e => h.de j hj e]; exact hb, a, pre_keep h.pre k.len fun j hj => k.get j (by have := h.le; omega) fun e => by have := (h.elt e).1; omega, fun j hj e => f j (h.dlt hj).2 (h.de j hj) e, fun j hj => ?_, fun j hj => ?_, fun j hj => ?_⟩, h1.sub k.len fun j hj hl => ⟨hj, k.get j hl (h.s j hj).2.2.2⟩, h2.sub k.len fun j hj hl => ⟨hj, k.get j hl (h.r j hj).2.2.2.1⟩⟩, k.len, fun j hj => k.get j (h.k j hj).1 (h.k j hj).2.2.1⟩
 ·obtain ⟨q1, q2, q3, q4⟩ := h.s j hj
  exact ⟨q1, by omega, q3, f j q2 q4⟩
 ·obtain ⟨q1, q2, q3, q4, q5⟩ := h.r j hj
  exact ⟨q1, by omega, q3, f j q2 q4, q5⟩
 ·obtain ⟨q1, q2, q3, q4, q5⟩ := h.k j hj
  exact ⟨by omega, q2, f j q1 q3, q4, q5⟩
theorem TwoD.lq {lg : Nat} {L' : Lg} (h : TwoD m0 M K dk rk D E u0 u1 v0 v1 S R) (h2 : RLgO M R rk o2) (hq : DLQ D' L' m0.length dk lg u0 u1 S M M') : TwoS m0 M' K dk rk D' E (some (lg, L')) o2 ∧ Pre K M M' := by
 obtain ⟨w0, w1, sv, rv, S', a, hL, s1, s2, k, f⟩ := hq
 have hkl := k.len
 have hg : ∀ j, j < M.length → ¬ dkD dk u0 u1 j → ¬ S j → M'[j]? = M[j]? := fun j h1 h2 h3 => k.get j h1 fun e => e.elim h2 h3
 refine ⟨⟨w0, w1, v0, v1, fun j => S' j ∧ j < M'.length, R, ⟨a, h.e.keep fun j b hb hj _ => by rw [hg j (h.elt hj).2 (fun e => h.de j e hj) fun e => (h.s j e).2.2.2 hj]; exact hb, pre_keep h.pre k.len fun j hj => hg j (by have := h.le; omega) (fun e => by have := (h.dlt e).1; omega) fun e => by have := (h.s j e).1; omega, fun j hj e => f j (h.elt e).2 (fun q => h.de j q e) hj, fun j hj => ?_, fun j hj => ?_, fun j hj => ?_⟩, ⟨sv, rv, hL.msub ⟨by rw [vw_len, vw_len]; exact Nat.le_refl _, fun j b _ hj => ?_⟩⟩, h2.sub k.len fun j hj hl => ⟨hj, hg j hl (h.r j hj).2.2.1 (h.r j hj).2.2.2.2⟩⟩, k.len, fun j hj => hg j (h.k j hj).1 (h.k j hj).2.1 (h.k j hj).2.2.2.1⟩
 ·have hml := h.le
  rcases s2 j hj.1 with e | e
  ·exact ⟨(h.s j e).1, hj.2, s1 j hj.1, (h.s j e).2.2.2⟩
  ·exact ⟨by omega, hj.2, s1 j hj.1, fun q => by have := (h.elt q).2; omega⟩
 ·obtain ⟨q1, q2, q3, q4, q5⟩ := h.r j hj
  exact ⟨q1, by omega, f j q2 q3, q4, fun e => (s2 j e.1).elim q5 fun e => by omega⟩
 ·obtain ⟨q1, q2, q3, q4, q5⟩ := h.k j hj
  exact ⟨by omega, f j q1 q2, q3, fun e => (s2 j e.1).elim q4 fun e => by omega, q5⟩
 ·obtain ⟨q1, q2⟩ := vw_some.1 hj
  exact vw_some.2 ⟨⟨q1, (List.getElem?_eq_some_iff.1 q2).1⟩, q2⟩
theorem TwoD.rlq {lg : Nat} {L' : Lg} (h : TwoD m0 M K dk rk D E u0 u1 v0 v1 S R) (h1 : LgO M S dk o1) (hq : RDLQ E' L' m0.length rk lg v0 v1 R M M') : TwoS m0 M' K dk rk D E' o1 (some (lg, L')) ∧ Pre K M M' := by
 obtain ⟨w0, w1, sv, rv, R', a, hL, s1, s2, k, f⟩ := hq
 have hkl := k.len
 have hg : ∀ j, j < M.length → ¬ dkD rk v0 v1 j → ¬ R j → M'[j]? = M[j]? := fun j h1 h2 h3 => k.get j h1 fun e => e.elim h2 h3
 refine ⟨⟨u0, u1, w0, w1, S, fun j => R' j ∧ j < M'.length, ⟨h.d.keep fun j b hb hj _ => by rw [hg j (h.dlt hj).2 (h.de j hj) fun e => (h.r j e).2.2.1 hj]; exact hb, a, pre_keep h.pre k.len fun j hj => hg j (by have := h.le; omega) (fun e => by have := (h.elt e).1; omega) fun e => by have := (h.r j e).1; omega, fun j hj e => f j (h.dlt hj).2 (h.de j hj) e, fun j hj => ?_, fun j hj => ?_, fun j hj => ?_⟩, h1.sub k.len fun j hj hl => ⟨hj, hg j hl (h.s j hj).2.2.2 fun e => (h.r j e).2.2.2.2 hj⟩, ⟨sv, rv, hL.sub (Nat.le_refl _) fun j hj hl => ⟨⟨hj, hl⟩, rfl⟩⟩⟩, k.len, fun j hj => hg j (h.k j hj).1 (h.k j hj).2.2.1 (h.k j hj).2.2.2.2⟩
 ·obtain ⟨q1, q2, q3, q4⟩ := h.s j hj
  exact ⟨q1, by omega, q3, f j q2 q4⟩
 ·have hml := h.le
  rcases s2 j hj.1 with e | e
  ·exact ⟨(h.r j e).1, hj.2, (h.r j e).2.2.1, s1 j hj.1, (h.r j e).2.2.2.2⟩
  ·exact ⟨by omega, hj.2, fun q => by have := (h.dlt q).2; omega, s1 j hj.1, fun q => by have := (h.s j q).2.1; omega⟩
 ·obtain ⟨q1, q2, q3, q4, q5⟩ := h.k j hj
  exact ⟨by omega, q2, f j q1 q3, q4, fun e => (s2 j e.1).elim q5 fun e => by omega⟩
theorem TwoD.op {r : Value} {o : Int × Option (Cont × Nat) × Dk} (h : TwoD m0 M K dk rk D E u0 u1 v0 v1 S R) (h1 : LgO M S dk o1) (h2 : RLgO M R rk o2) (hq : OpQ o m0.length dk u0 u1 M r M') : Pre K M M' ∧ ((o.2.1 = none ∧ r = .tuple #[.pointer none, .int .i64 o.1] ∧ o.1 ≠ 0 ∧ TwoS m0 M' K dk rk o.2.2 E o1 o2) ∨
  ∃ c n lg, o.2.1 = some (c, n) ∧ o.1 = 0 ∧ r = .tuple #[.pointer (some ⟨lg, 0, none⟩), .int .i64 0] ∧ TwoS m0 M' K dk rk o.2.2 E (some (lg, ⟨c, n, false⟩)) o2) := by
 rcases hq with ⟨e0, e1, e2, hq⟩ | ⟨c, n, lg, w0, w1, sv, rv, S', e0, e1, e2, a, k, f, hL, hS⟩
 ·obtain ⟨q1, q2⟩ := h.dq h1 h2 hq
  exact ⟨q2, .inl ⟨e0, e1, e2, q1⟩⟩
 ·have hkl := k.len
  refine ⟨⟨k.len, fun j hj => k.get j (h.k j hj).1 (h.k j hj).2.1⟩, .inr ⟨c, n, lg, e0, e1, e2, w0, w1, v0, v1, fun j => S' j ∧ j < M'.length, R, ⟨a, h.e.keep fun j b hb hj _ => by rw [k.get j (h.elt hj).2 fun e => h.de j e hj]; exact hb, pre_keep h.pre k.len fun j hj => k.get j (by have := h.le; omega) fun e => by have := (h.dlt e).1; omega, fun j hj e => f j (h.elt e).2 (fun q => h.de j q e) hj, fun j hj => ?_, fun j hj => ?_, fun j hj => ?_⟩, ⟨sv, rv, hL.msub ⟨by rw [vw_len, vw_len]; exact Nat.le_refl _, fun j b _ hj => ?_⟩⟩, h2.sub k.len fun j hj hl => ⟨hj, k.get j hl (h.r j hj).2.2.1⟩⟩⟩
  ·have hml := h.le
   obtain ⟨q1, q2⟩ := hS j hj.1
   exact ⟨by omega, hj.2, q2, fun q => by have := (h.elt q).2; omega⟩
  ·obtain ⟨q1, q2, q3, q4, q5⟩ := h.r j hj
   exact ⟨q1, by omega, f j q2 q3, q4, fun e => by have := (hS j e.1).1; omega⟩
  ·obtain ⟨q1, q2, q3, q4, q5⟩ := h.k j hj
   exact ⟨by omega, f j q1 q2, q3, fun e => by have := (hS j e.1).1; omega, q5⟩
  ·obtain ⟨q1, q2⟩ := vw_some.1 hj
   exact vw_some.2 ⟨⟨q1, (List.getElem?_eq_some_iff.1 q2).1⟩, q2⟩
theorem TwoD.rop {r : Value} {o : Int × Option (Cont × Nat) × Dk} (h : TwoD m0 M K dk rk D E u0 u1 v0 v1 S R) (h1 : LgO M S dk o1) (h2 : RLgO M R rk o2) (hq : ROpQ o m0.length rk v0 v1 M r M') : Pre K M M' ∧ ((o.2.1 = none ∧ r = .tuple #[.pointer none, .int .i64 o.1] ∧ o.1 ≠ 0 ∧ TwoS m0 M' K dk rk D o.2.2 o1 o2) ∨
  ∃ c n lg, o.2.1 = some (c, n) ∧ o.1 = 0 ∧ r = .tuple #[.pointer (some ⟨lg, 0, none⟩), .int .i64 0] ∧ TwoS m0 M' K dk rk D o.2.2 o1 (some (lg, ⟨c, n, false⟩))) := by
 rcases hq with ⟨e0, e1, e2, hq⟩ | ⟨c, n, lg, w0, w1, sv, rv, R', e0, e1, e2, a, k, f, hL, hS⟩
 ·obtain ⟨q1, q2⟩ := h.rq h1 h2 hq
  exact ⟨q2, .inl ⟨e0, e1, e2, q1⟩⟩
 ·have hkl := k.len
  refine ⟨⟨k.len, fun j hj => k.get j (h.k j hj).1 (h.k j hj).2.2.1⟩, .inr ⟨c, n, lg, e0, e1, e2, u0, u1, w0, w1, S, fun j => R' j ∧ j < M'.length, ⟨h.d.keep fun j b hb hj _ => by rw [k.get j (h.dlt hj).2 fun e => h.de j hj e]; exact hb, a, pre_keep h.pre k.len fun j hj => k.get j (by have := h.le; omega) fun e => by have := (h.elt e).1; omega, fun j hj e => f j (h.dlt hj).2 (h.de j hj) e, fun j hj => ?_, fun j hj => ?_, fun j hj => ?_⟩, h1.sub k.len fun j hj hl => ⟨hj, k.get j hl (h.s j hj).2.2.2⟩, ⟨sv, rv, hL.sub (Nat.le_refl _) fun j hj hl => ⟨⟨hj, hl⟩, rfl⟩⟩⟩⟩
  ·obtain ⟨q1, q2, q3, q4⟩ := h.s j hj
   exact ⟨q1, by omega, q3, f j q2 q4⟩
  ·have hml := h.le
   obtain ⟨q1, q2⟩ := hS j hj.1
   exact ⟨by omega, hj.2, fun q => by have := (h.dlt q).2; omega, q2, fun q => by have := (h.s j q).2.1; omega⟩
  ·obtain ⟨q1, q2, q3, q4, q5⟩ := h.k j hj
   exact ⟨by omega, q2, f j q1 q3, q4, fun e => by have := (hS j e.1).1; omega⟩
theorem TwoS.grow (h : TwoS m0 M K dk rk D E o1 o2) (N : AM) : TwoS m0 (M ++ N) (fun j => K j ∨ M.length ≤ j ∧ j < (M ++ N).length) dk rk D E o1 o2 := by
 obtain ⟨u0, u1, v0, v1, S, R, h, h1, h2⟩ := h
 have hl : M.length ≤ (M ++ N).length := by rw [List.length_append]; omega
 refine ⟨u0, u1, v0, v1, S, R, ⟨h.d.old N, h.e.old N, by obtain ⟨Y, hY⟩ := h.pre; exact ⟨Y ++ N, by rw [hY, List.append_assoc]⟩, h.de, fun j hj => ?_, fun j hj => ?_, fun j hj => ?_⟩, h1.sub hl fun j hj hl => ⟨hj, List.getElem?_append_left hl⟩, h2.sub hl fun j hj hl => ⟨hj, List.getElem?_append_left hl⟩⟩
 ·obtain ⟨q1, q2, q3, q4⟩ := h.s j hj
  exact ⟨q1, by omega, q3, q4⟩
 ·obtain ⟨q1, q2, q3, q4, q5⟩ := h.r j hj
  exact ⟨q1, by omega, q3, q4, q5⟩
 ·rcases hj with hj | hj
  ·obtain ⟨q1, q2, q3, q4, q5⟩ := h.k j hj
   exact ⟨by omega, q2, q3, q4, q5⟩
  ·exact ⟨hj.2, fun e => by have := (h.dlt e).2; omega, fun e => by have := (h.elt e).2; omega, fun e => by have := (h.s j e).2.1; omega, fun e => by have := (h.r j e).2.1; omega⟩
theorem TwoS.less {K' : Nat → Prop} (h : TwoS m0 M K dk rk D E o1 o2) (hK : ∀ j, K' j → K j) : TwoS m0 M K' dk rk D E o1 o2 := by
 obtain ⟨u0, u1, v0, v1, S, R, h, h1, h2⟩ := h
 exact ⟨u0, u1, v0, v1, S, R, ⟨h.d, h.e, h.pre, h.de, h.s, h.r, fun j hj => h.k j (hK j hj)⟩, h1, h2⟩
theorem TwoS.set {a : Nat} (h : TwoS m0 M K dk rk D E o1 o2) (ha : K a) (hm : m0.length ≤ a) (b : Option Blk) : TwoS m0 (M.set a b) K dk rk D E o1 o2 := by
 obtain ⟨u0, u1, v0, v1, S, R, h, h1, h2⟩ := h
 obtain ⟨k1, k2, k3, k4, k5⟩ := h.k a ha
 have hne : ∀ j, j ≠ a → (M.set a b)[j]? = M[j]? := fun j hj => List.getElem?_set_ne (Ne.symm hj)
 have hl : (M.set a b).length = M.length := List.length_set
 refine ⟨u0, u1, v0, v1, S, R, ⟨h.d.keep fun j x hx hj _ => by rw [hne j fun e => k2 (by rw [← e]; exact hj)]; exact hx, h.e.keep fun j x hx hj _ => by rw [hne j fun e => k3 (by rw [← e]; exact hj)]; exact hx, by obtain ⟨N, hN⟩ := h.pre; rw [hN]; exact set_high hm b, h.de, fun j hj => by rw [hl]; exact h.s j hj, fun j hj => by rw [hl]; exact h.r j hj, fun j hj => by rw [hl]; exact h.k j hj⟩, h1.sub (by omega) fun j hj _ => ⟨hj, hne j fun e => k4 (by rw [← e]; exact hj)⟩, h2.sub (by omega) fun j hj _ => ⟨hj, hne j fun e => k5 (by rw [← e]; exact hj)⟩⟩
theorem TwoS.pre (h : TwoS m0 M K dk rk D E o1 o2) : ∃ N, M = m0 ++ N := by
 obtain ⟨u0, u1, v0, v1, S, R, h, _⟩ := h
 exact h.pre
theorem TwoS.klt (h : TwoS m0 M K dk rk D E o1 o2) {j : Nat} (hj : K j) : j < M.length := by
 obtain ⟨u0, u1, v0, v1, S, R, h, _⟩ := h
 exact (h.k j hj).1
end
section
variable {m0 M : AM} {K : Nat → Prop} {dk rk : Nat} {D E : Dk} {o1 o2 : Option (Nat × Lg)}
theorem TwoD.apart {u0 u1 v0 v1 : Value} {S R : Nat → Prop} (h : TwoD m0 M K dk rk D E u0 u1 v0 v1 S R) {w : Value} {p : List UInt8} (hw : Byts (vw K M) w p) {Q : Nat → Prop} (hQ : ∀ j, K j → ¬ Q j) : ∀ M', Keep Q M M' → Byts M' w p := fun M' hk => hw.sub (hk.vwK fun j hj => ⟨hQ j hj, (h.k j hj).1⟩)
theorem T_append (h : TwoS m0 M K dk rk D E o1 o2) (n : Int) {w : Value} {p : List UInt8} (hw : Byts (vw K M) w p) (hlen : p.length ≤ 1000000000) : ACall Try.prog 48 #[.pointer (some ⟨dk, 0, none⟩), .int .i64 n, w] M (fun r M' => r = .int .i64 (apF D n p).1 ∧ TwoS m0 M' K dk rk (apF D n p).2 E o1 o2 ∧ Pre K M M') := by
 obtain ⟨u0, u1, v0, v1, S, R, h, h1, h2⟩ := h
 exact (DAppend_ok n h.d h.le (h.apart hw fun j hj e => (h.k j hj).2.1 (.inl e)) hlen).mono fun r M' ⟨hr, hq⟩ => ⟨hr, h.dq h1 h2 hq⟩
theorem RT_append (h : TwoS m0 M K dk rk D E o1 o2) (n : Int) {w : Value} {p : List UInt8} (hw : Byts (vw K M) w p) (hlen : p.length ≤ 1000000000) : ACall Try.prog 77 #[.pointer (some ⟨rk, 0, none⟩), .int .i64 n, w] M (fun r M' => r = .int .i64 (apF E n p).1 ∧ TwoS m0 M' K dk rk D (apF E n p).2 o1 o2 ∧ Pre K M M') := by
 obtain ⟨u0, u1, v0, v1, S, R, h, h1, h2⟩ := h
 exact (RAppend_ok n h.e h.le (h.apart hw fun j hj e => (h.k j hj).2.2.1 (.inl e)) hlen).mono fun r M' ⟨hr, hq⟩ => ⟨hr, h.rq h1 h2 hq⟩
theorem T_sync (h : TwoS m0 M K dk rk D E o1 o2) (n : Int) : ACall Try.prog 66 #[.pointer (some ⟨dk, 0, none⟩), .int .i64 n] M (fun r M' => r = .int .i64 (syF D n).1 ∧ TwoS m0 M' K dk rk (syF D n).2 E o1 o2 ∧ Pre K M M') := by
 obtain ⟨u0, u1, v0, v1, S, R, h, h1, h2⟩ := h
 exact (DSync_ok n h.d).mono fun r M' ⟨hr, hq⟩ => ⟨hr, h.dq h1 h2 hq⟩
theorem RT_sync (h : TwoS m0 M K dk rk D E o1 o2) (n : Int) : ACall Try.prog 78 #[.pointer (some ⟨rk, 0, none⟩), .int .i64 n] M (fun r M' => r = .int .i64 (syF E n).1 ∧ TwoS m0 M' K dk rk D (syF E n).2 o1 o2 ∧ Pre K M M') := by
 obtain ⟨u0, u1, v0, v1, S, R, h, h1, h2⟩ := h
 exact (RSync_ok n h.e).mono fun r M' ⟨hr, hq⟩ => ⟨hr, h.rq h1 h2 hq⟩
theorem T_clear (h : TwoS m0 M K dk rk D E o1 o2) (n : Int) : ACall Try.prog 67 #[.pointer (some ⟨dk, 0, none⟩), .int .i64 n] M (fun r M' => r = .int .i64 (clF D n).1 ∧ TwoS m0 M' K dk rk (clF D n).2 E o1 o2 ∧ Pre K M M') := by
 obtain ⟨u0, u1, v0, v1, S, R, h, h1, h2⟩ := h
 exact (DClear_ok n h.d).mono fun r M' ⟨hr, hq⟩ => ⟨hr, h.dq h1 h2 hq⟩
theorem RT_clear (h : TwoS m0 M K dk rk D E o1 o2) (n : Int) : ACall Try.prog 79 #[.pointer (some ⟨rk, 0, none⟩), .int .i64 n] M (fun r M' => r = .int .i64 (clF E n).1 ∧ TwoS m0 M' K dk rk D (clF E n).2 o1 o2 ∧ Pre K M M') := by
 obtain ⟨u0, u1, v0, v1, S, R, h, h1, h2⟩ := h
 exact (RClear_ok n h.e).mono fun r M' ⟨hr, hq⟩ => ⟨hr, h.rq h1 h2 hq⟩
theorem T_fuse (h : TwoS m0 M K dk rk D E o1 o2) (k : Int) (hk : k ≤ 9223372036854775807) : ACall Try.prog 58 #[.pointer (some ⟨dk, 0, none⟩), .int .i64 k] M (fun r M' => r = .tuple #[] ∧ TwoS m0 M' K dk rk (fuF D k) E o1 o2 ∧ Pre K M M') := by
 obtain ⟨u0, u1, v0, v1, S, R, h, h1, h2⟩ := h
 exact (DFuse_ok k hk h.d).mono fun r M' ⟨hr, hq⟩ => ⟨hr, h.dq h1 h2 hq⟩
theorem RT_fuse (h : TwoS m0 M K dk rk D E o1 o2) (k : Int) (hk : k ≤ 9223372036854775807) : ACall Try.prog 81 #[.pointer (some ⟨rk, 0, none⟩), .int .i64 k] M (fun r M' => r = .tuple #[] ∧ TwoS m0 M' K dk rk D (fuF E k) o1 o2 ∧ Pre K M M') := by
 obtain ⟨u0, u1, v0, v1, S, R, h, h1, h2⟩ := h
 exact (RFuse_ok k hk h.e).mono fun r M' ⟨hr, hq⟩ => ⟨hr, h.rq h1 h2 hq⟩
theorem T_crash (h : TwoS m0 M K dk rk D E o1 o2) (k0 k1 : Int) : ACall Try.prog 52 #[.pointer (some ⟨dk, 0, none⟩), .int .i64 k0, .int .i64 k1] M (fun r M' => r = .tuple #[] ∧ TwoS m0 M' K dk rk (crF D k0 k1) E o1 o2 ∧ Pre K M M') := by
 obtain ⟨u0, u1, v0, v1, S, R, h, h1, h2⟩ := h
 exact (DCrash_ok k0 k1 h.d).mono fun r M' ⟨hr, hq⟩ => ⟨hr, h.dq h1 h2 hq⟩
theorem RT_crash (h : TwoS m0 M K dk rk D E o1 o2) (k0 k1 : Int) : ACall Try.prog 82 #[.pointer (some ⟨rk, 0, none⟩), .int .i64 k0, .int .i64 k1] M (fun r M' => r = .tuple #[] ∧ TwoS m0 M' K dk rk D (crF E k0 k1) o1 o2 ∧ Pre K M M') := by
 obtain ⟨u0, u1, v0, v1, S, R, h, h1, h2⟩ := h
 exact (RCrash_ok k0 k1 h.le h.e).mono fun r M' ⟨hr, hq⟩ => ⟨hr, h.rq h1 h2 hq⟩
theorem T_read (h : TwoS m0 M K dk rk D E o1 o2) (n : Int) : ACall Try.prog 53 #[.pointer (some ⟨dk, 0, none⟩), .int .i64 n] M (More (fun M' r => ∃ u, r = .tuple #[u, .int .i64 (rdF D n).2] ∧ Row M' M.length 1 u (by8 (rdF D n).1) (rdF D n).1.length) M) := by
 obtain ⟨u0, u1, v0, v1, S, R, h, _⟩ := h
 exact DRead_ok n h.d
theorem RT_read (h : TwoS m0 M K dk rk D E o1 o2) (n : Int) : ACall Try.prog 80 #[.pointer (some ⟨rk, 0, none⟩), .int .i64 n] M (More (fun M' r => ∃ u, r = .tuple #[u, .int .i64 (rdF E n).2] ∧ Row M' M.length 1 u (by8 (rdF E n).1) (rdF E n).1.length) M) := by
 obtain ⟨u0, u1, v0, v1, S, R, h, _⟩ := h
 exact RRead_ok n h.e
end
section
variable {m0 M : AM} {K : Nat → Prop} {dk rk : Nat} {D E : Dk} {o1 o2 : Option (Nat × Lg)} {lg : Nat} {L : Lg} {w : Value} {p : List UInt8}
theorem T_add (h : TwoS m0 M K dk rk D E (some (lg, L)) o2) (hw : Byts (vw K M) w p) (hlen : p.length ≤ 1000000) (hc : L.c.recs.length ≤ 1000000) : ACall Try.prog 51 #[.pointer (some ⟨lg, 0, none⟩), w] M (fun r M' => r = .int .i64 (addF D L p).1 ∧ TwoS m0 M' K dk rk (addF D L p).2.1 E (some (lg, (addF D L p).2.2)) o2 ∧ Pre K M M') := by
 obtain ⟨u0, u1, v0, v1, S, R, h, ⟨sv, rv, h1⟩, h2⟩ := h
 exact (Add_ok h.d h.le h1 (fun j hj e => (h.s j e).2.2.1 hj) (h.apart hw fun j hj e => e.elim (h.k j hj).2.1 (h.k j hj).2.2.2.1) hlen hc).mono fun r M' ⟨hr, hq⟩ => ⟨hr, h.lq h2 hq⟩
theorem RT_add (h : TwoS m0 M K dk rk D E o1 (some (lg, L))) (hw : Byts (vw K M) w p) (hlen : p.length ≤ 1000000) (hc : L.c.recs.length ≤ 1000000) : ACall Try.prog 63 #[.pointer (some ⟨lg, 0, none⟩), w] M (fun r M' => r = .int .i64 (addF E L p).1 ∧ TwoS m0 M' K dk rk D (addF E L p).2.1 o1 (some (lg, (addF E L p).2.2)) ∧ Pre K M M') := by
 obtain ⟨u0, u1, v0, v1, S, R, h, h1, sv, rv, h2⟩ := h
 exact (RAdd_ok h.e h.le h2 (fun j hj e => (h.r j e).2.2.2.1 hj) (h.apart hw fun j hj e => e.elim (h.k j hj).2.2.1 (h.k j hj).2.2.2.2) hlen hc).mono fun r M' ⟨hr, hq⟩ => ⟨hr, h.rlq h1 hq⟩
theorem T_rw (h : TwoS m0 M K dk rk D E (some (lg, L)) o2) (hw : Byts (vw K M) w p) (hlen : p.length ≤ 1000000) (hg : L.c.gen ≤ 4611686018427387904) : ACall Try.prog 60 #[.pointer (some ⟨lg, 0, none⟩), w] M (fun r M' => r = .int .i64 (rwF D L p).1 ∧ TwoS m0 M' K dk rk (rwF D L p).2.1 E (some (lg, (rwF D L p).2.2)) o2 ∧ Pre K M M') := by
 obtain ⟨u0, u1, v0, v1, S, R, h, ⟨sv, rv, h1⟩, h2⟩ := h
 exact (Rewrite_ok h.d h.le h1 (fun j hj e => (h.s j e).2.2.1 hj) (hw.sub (Sub.vw _ _)) hlen hg).mono fun r M' ⟨hr, hq⟩ => ⟨hr, h.lq h2 hq⟩
theorem RT_rw (h : TwoS m0 M K dk rk D E o1 (some (lg, L))) (hw : Byts (vw K M) w p) (hlen : p.length ≤ 1000000) (hg : L.c.gen ≤ 4611686018427387904) : ACall Try.prog 64 #[.pointer (some ⟨lg, 0, none⟩), w] M (fun r M' => r = .int .i64 (rwF E L p).1 ∧ TwoS m0 M' K dk rk D (rwF E L p).2.1 o1 (some (lg, (rwF E L p).2.2)) ∧ Pre K M M') := by
 obtain ⟨u0, u1, v0, v1, S, R, h, h1, sv, rv, h2⟩ := h
 exact (RRewrite_ok h.e h.le h2 (fun j hj e => (h.r j e).2.2.2.1 hj) (hw.sub (Sub.vw _ _)) hlen hg).mono fun r M' ⟨hr, hq⟩ => ⟨hr, h.rlq h1 hq⟩
theorem T_open (h : TwoS m0 M K dk rk D E o1 o2) : ACall Try.prog 50 #[.pointer (some ⟨dk, 0, none⟩)] M (fun r M' => Pre K M M' ∧ (((openF D).2.1 = none ∧ r = .tuple #[.pointer none, .int .i64 (openF D).1] ∧ (openF D).1 ≠ 0 ∧ TwoS m0 M' K dk rk (openF D).2.2 E o1 o2) ∨
  ∃ c n lg, (openF D).2.1 = some (c, n) ∧ (openF D).1 = 0 ∧ r = .tuple #[.pointer (some ⟨lg, 0, none⟩), .int .i64 0] ∧ TwoS m0 M' K dk rk (openF D).2.2 E (some (lg, ⟨c, n, false⟩)) o2)) := by
 obtain ⟨u0, u1, v0, v1, S, R, h, h1, h2⟩ := h
 exact (Open_ok h.d h.le).mono fun r M' hq => h.op h1 h2 hq
theorem RT_open (h : TwoS m0 M K dk rk D E o1 o2) : ACall Try.prog 61 #[.pointer (some ⟨rk, 0, none⟩)] M (fun r M' => Pre K M M' ∧ (((openF E).2.1 = none ∧ r = .tuple #[.pointer none, .int .i64 (openF E).1] ∧ (openF E).1 ≠ 0 ∧ TwoS m0 M' K dk rk D (openF E).2.2 o1 o2) ∨
  ∃ c n lg, (openF E).2.1 = some (c, n) ∧ (openF E).1 = 0 ∧ r = .tuple #[.pointer (some ⟨lg, 0, none⟩), .int .i64 0] ∧ TwoS m0 M' K dk rk D (openF E).2.2 o1 (some (lg, ⟨c, n, false⟩)))) := by
 obtain ⟨u0, u1, v0, v1, S, R, h, h1, h2⟩ := h
 exact (ROpen_ok h.e h.le).mono fun r M' hq => h.rop h1 h2 hq
end
def BoxAt (M : AM) (T : Nat → Prop) (b : Nat) (cc : List UInt8 × List (List UInt8)) : Prop := ∃ s r, M[b]? = some (some { cells := [s, r] }) ∧ CnAt (vw T M) s r cc
theorem BoxAt.pre {M M' : AM} {K T : Nat → Prop} {b : Nat} {cc : List UInt8 × List (List UInt8)} (h : BoxAt M T b cc) (hT : ∀ j, T j → K j) (hb : K b) (hp : Pre K M M') : BoxAt M' T b cc := by
 obtain ⟨s, r, h1, h2⟩ := h
 exact ⟨s, r, by rw [hp.get b hb]; exact h1, h2.sub (Pre.sub ⟨hp.len, fun j hj => hp.get j (hT j hj)⟩)⟩
theorem vw_sub_app {T T' : Nat → Prop} {M : AM} (N : AM) (h : ∀ j, T j → T' j) : Sub (vw T M) (vw T' (M ++ N)) := ⟨by rw [vw_len, vw_len, List.length_append]; omega, fun j b hb => by
 obtain ⟨h1, h2⟩ := vw_some.1 hb
 exact vw_some.2 ⟨h j h1, get_old N h2⟩⟩
theorem BoxAt.app {M : AM} {T T' : Nat → Prop} {b : Nat} {cc : List UInt8 × List (List UInt8)} (h : BoxAt M T b cc) (N : AM) (hT : ∀ j, T j → T' j) : BoxAt (M ++ N) T' b cc := by
 obtain ⟨s, r, h1, h2⟩ := h
 exact ⟨s, r, get_old N h1, h2.sub (vw_sub_app N hT)⟩
theorem vw_sub_set {T : Nat → Prop} {M : AM} {a : Nat} (ha : ¬ T a) (b : Option Blk) : Sub (vw T M) (vw T (M.set a b)) := ⟨by rw [vw_len, vw_len, List.length_set]; exact Nat.le_refl _, fun j x hb => by
 obtain ⟨h1, h2⟩ := vw_some.1 hb
 exact vw_some.2 ⟨h1, by rw [List.getElem?_set_ne (fun e => ha (by rw [e]; exact h1))]; exact h2⟩⟩
theorem BoxAt.put {M : AM} {T : Nat → Prop} {b : Nat} {s r : Value} {cc : List UInt8 × List (List UInt8)} (h : CnAt (vw T M) s r cc) (hb : ¬ T b) (hl : b < M.length) : BoxAt (M.set b (some { cells := [s, r] })) T b cc :=
 ⟨s, r, List.getElem?_set_self hl, h.sub (vw_sub_set hb _)⟩
theorem BoxAt.other {M : AM} {T : Nat → Prop} {a b : Nat} {cc : List UInt8 × List (List UInt8)} (h : BoxAt M T b cc) (ha : ¬ T a) (hab : b ≠ a) (x : Option Blk) : BoxAt (M.set a x) T b cc := by
 obtain ⟨s, r, h1, h2⟩ := h
 exact ⟨s, r, by rw [List.getElem?_set_ne (Ne.symm hab)]; exact h1, h2.sub (vw_sub_set ha _)⟩
theorem CnAt.one {M : AM} {s r : Value} {cc : List UInt8 × List (List UInt8)} (h : CnAt M s r cc) : s.oneCell' = true ∧ r.oneCell' = true := by
 refine ⟨h.1.one, ?_⟩
 obtain ⟨_, pc, _, ⟨_, _, h2, _⟩, _⟩ := h
 rcases h2 with ⟨rfl, _⟩ | ⟨c, _, rfl⟩ | ⟨_, _, _, rfl⟩ <;> rfl
def Bnd (cc : List UInt8 × List (List UInt8)) (k : Nat) : Prop := cc.1.length ≤ 65536 ∧ cc.2.length ≤ k ∧ ∀ p ∈ cc.2, p.length ≤ 65536
theorem Bnd.mono {cc : List UInt8 × List (List UInt8)} {k j : Nat} (h : Bnd cc k) (hk : k ≤ j) : Bnd cc j := ⟨h.1, by have := h.2.1; omega, h.2.2⟩
structure KLoop (m M : AM) (K T : Nat → Prop) (b7 b8 lg : Nat) (D : Dk) (L : Lg) (mb : List UInt8 × List (List UInt8)) (k : Nat) : Prop where
 kd : KDL m M K lg D L
 iv : KInv D L mb
 g : L.c.gen ≤ 4 * k + 1
 k7 : K b7 ∧ ¬ T b7 ∧ m.length ≤ b7
 k8 : K b8 ∧ ¬ T b8 ∧ m.length ≤ b8
 ne : b7 ≠ b8
 tk : ∀ j, T j → K j
 x7 : BoxAt M T b7 L.c.cc
 x8 : BoxAt M T b8 mb
 z7 : Bnd L.c.cc k
 z8 : Bnd mb k
theorem KDL.ok {m M : AM} {K : Nat → Prop} {lg : Nat} {D : Dk} {L : Lg} (h : KDL m M K lg D L) : OkD D := by
 obtain ⟨_, _, _, _, _, h1, _⟩ := h
 exact h1.ok
theorem KDL.lt {m M : AM} {K : Nat → Prop} {lg : Nat} {D : Dk} {L : Lg} (h : KDL m M K lg D L) {j : Nat} (hj : K j) : j < M.length := by
 obtain ⟨_, _, _, _, _, _, _, _, _, h5⟩ := h
 exact (h5 j hj).2.2
theorem KDL.pre {m M : AM} {K : Nat → Prop} {lg : Nat} {D : Dk} {L : Lg} (h : KDL m M K lg D L) : ∃ N, M = m ++ N := by
 obtain ⟨_, _, _, _, _, _, _, h3, _⟩ := h
 exact h3
theorem KDL.le {m M : AM} {K : Nat → Prop} {lg : Nat} {D : Dk} {L : Lg} (h : KDL m M K lg D L) : m.length < M.length := by
 obtain ⟨_, _, _, _, _, h1, _⟩ := h
 exact h1.lt
theorem BoxAt.rd {M : AM} {b : Nat} {s r : Value} (h : M[b]? = some (some { cells := [s, r] })) (T : AM) : RdL (M ++ T) b 0 [s, r] := RdL.old T ⟨_, h, fun j v hv => by rw [Nat.zero_add]; exact hv⟩
section
variable {P : Program} {nt : Nat} {ops : Array Oper} {t : Fm} {m : AM} {K : Fm → AM → Prop} {d T : Nat} {p : String} {af : Array Edge}
end
theorem Pre.trans {K : Nat → Prop} {A B C : AM} (h : Pre K A B) (g : Pre K B C) : Pre K A C := ⟨Nat.le_trans h.len g.len, fun j hj => by rw [g.get j hj, h.get j hj]⟩
theorem KLoop.app {m M : AM} {K T : Nat → Prop} {b7 b8 lg : Nat} {D : Dk} {L : Lg} {mb : List UInt8 × List (List UInt8)} {k : Nat} (h : KLoop m M K T b7 b8 lg D L mb k) (N : AM) : KLoop m (M ++ N) (fun j => K j ∨ M.length ≤ j ∧ j < (M ++ N).length) T b7 b8 lg D L mb k :=
 ⟨h.kd.grow N, h.iv, h.g, ⟨.inl h.k7.1, h.k7.2⟩, ⟨.inl h.k8.1, h.k8.2⟩, h.ne, fun j hj => .inl (h.tk j hj), h.x7.app N fun _ e => e, h.x8.app N fun _ e => e, h.z7, h.z8⟩
structure KI (m0 : AM) (base : List (Nat × Value)) (pv : Nat → Option Value) (s7 uv : Value) (pc : List Value) (rc r' : Value) (a b : Nat) (L : Nat → Bool) (t : Fm) (M : AM) : Prop where
 len : m0.length ≤ M.length
 keep : ∀ j, j < m0.length → M[j]? = m0[j]?
 old : ∀ e ∈ base, t e.1 = some e.2
 pure : ∀ j v, pv j = some v → L j = true → t (158 + j) = some v
 row : L 4 = true → t 162 = some rc
 row7 : L 4 = true → L 7 = false → Row M m0.length 1 rc pc pc.length
 lit : L 6 = true → t 164 = some (.slice (some ⟨a, 0, none⟩) 1 1)
 lit7 : L 6 = true → L 7 = false → RdL M a 0 [uv]
 app : L 7 = true → t 165 = some r' ∧ Row M m0.length 1 r' (pc ++ [uv]) (pc.length + 1)
 bld : L 8 = true → t 166 = some (.agg #[s7, r']) ∧ L 7 = true
 box : L 9 = true → t 15 = some (.pointer (some ⟨b, 0, none⟩)) ∧ m0.length ≤ b ∧ b < M.length
 box0 : L 9 = true → L 10 = false → M[b]? = some (some { cells := [.slice none 0 0, .slice none 0 0] })
 box1 : L 10 = true → M[b]? = some (some { cells := [s7, r'] }) ∧ L 9 = true ∧ L 8 = true
 bx4 : L 9 = true → L 4 = true → L 7 = false → NotOf rc b
 bx7 : L 9 = true → L 7 = true → NotOf r' b
 c7 : L 7 = true → L 4 = true ∧ L 6 = true
section
variable {m0 M : AM} {base : List (Nat × Value)} {pv : Nat → Option Value} {s7 uv rc r' : Value} {pc : List Value} {a b : Nat} {L : Nat → Bool} {t : Fm}
theorem KI.start (h : ∀ e ∈ base, t e.1 = some e.2) : KI m0 base pv s7 uv pc rc r' a b (fun _ => false) t m0 where
 len := Nat.le_refl _
 keep := fun _ _ => rfl
 old := h
 pure := fun _ _ _ q => by cases q
 row := fun q => by cases q
 row7 := fun q => by cases q
 lit := fun q => by cases q
 lit7 := fun q => by cases q
 app := fun q => by cases q
 bld := fun q => by cases q
 box := fun q => by cases q
 box0 := fun q => by cases q
 box1 := fun q => by cases q
 bx4 := fun q => by cases q
 bx7 := fun q => by cases q
 c7 := fun q => by cases q
theorem KI.put (h : KI m0 base pv s7 uv pc rc r' a b L t M) (hb : ∀ e ∈ base, e.1 < 158 ∧ e.1 ≠ 15) {j : Nat} {v : Value} (hv : pv j = some v) (hj : j < 4 ∨ j = 5) : KI m0 base pv s7 uv pc rc r' a b (upL L j) (Abs.put t (158 + j) v) M where
 len := h.len
 keep := h.keep
 old := fun e he => by rw [put_ne t v (by have := (hb e he).1; omega)]; exact h.old e he
 pure := fun k w hw hk => by
  by_cases e : k = j
  ·subst e
   rw [hv] at hw
   injection hw with hw
   rw [put_same, hw]
  ·rw [upL_ne L e] at hk
   rw [put_ne t v (by omega)]
   exact h.pure k w hw hk
 row := fun q => by rw [upL_ne L (by omega)] at q; rw [put_ne t v (by omega)]; exact h.row q
 row7 := fun q r => by rw [upL_ne L (by omega)] at q r; exact h.row7 q r
 lit := fun q => by rw [upL_ne L (by omega)] at q; rw [put_ne t v (by omega)]; exact h.lit q
 lit7 := fun q r => by rw [upL_ne L (by omega)] at q r; exact h.lit7 q r
 app := fun q => by rw [upL_ne L (by omega)] at q; rw [put_ne t v (by omega)]; exact h.app q
 bld := fun q => by rw [upL_ne L (by omega)] at q; rw [put_ne t v (by omega), upL_ne L (by omega)]; exact h.bld q
 box := fun q => by rw [upL_ne L (by omega)] at q; rw [put_ne t v (by omega)]; exact h.box q
 box0 := fun q r => by rw [upL_ne L (by omega)] at q r; exact h.box0 q r
 box1 := fun q => by rw [upL_ne L (by omega)] at q; rw [upL_ne L (by omega), upL_ne L (by omega)]; exact h.box1 q
 bx4 := fun q r s => by rw [upL_ne L (by omega)] at q r s; exact h.bx4 q r s
 bx7 := fun q r => by rw [upL_ne L (by omega)] at q r; exact h.bx7 q r
 c7 := fun q => by rw [upL_ne L (by omega)] at q; rw [upL_ne L (by omega), upL_ne L (by omega)]; exact h.c7 q
theorem KI.setRow (h : KI m0 base pv s7 uv pc rc r' a b L t M) (hb : ∀ e ∈ base, e.1 < 158 ∧ e.1 ≠ 15) (hp : pv 4 = none) (h4 : L 4 = false) (h7 : L 7 = false) {M' : AM} {u : Value} (hM : ∃ N, M' = M ++ N) (hr : Row M' M.length 1 u pc pc.length) : KI m0 base pv s7 uv pc u r' a b (upL L 4) (Abs.put t 162 u) M' := by
 obtain ⟨N, rfl⟩ := hM
 have hl := h.len
 exact {
  len := by rw [List.length_append]; omega
  keep := fun j hj => by rw [List.getElem?_append_left (by omega)]; exact h.keep j hj
  old := fun e he => by rw [put_ne t _ (by have := (hb e he).1; omega)]; exact h.old e he
  pure := fun k w hw hk => by
   have e : k ≠ 4 := fun e => by rw [e, hp] at hw; cases hw
   rw [upL_ne L e] at hk
   rw [put_ne t _ (by omega)]
   exact h.pure k w hw hk
  row := fun _ => put_same ..
  row7 := fun _ _ => hr.low hl
  lit := fun q => by rw [upL_ne L (by omega)] at q; rw [put_ne t _ (by omega)]; exact h.lit q
  lit7 := fun q r => by rw [upL_ne L (by omega)] at q r; exact (h.lit7 q r).old N
  app := fun q => by rw [upL_ne L (by omega), h7] at q; cases q
  bld := fun q => by rw [upL_ne L (by omega)] at q; have := (h.bld q).2; rw [h7] at this; cases this
  box := fun q => by
   rw [upL_ne L (by omega)] at q
   rw [put_ne t _ (by omega), List.length_append]
   obtain ⟨b1, b2, b3⟩ := h.box q
   exact ⟨b1, b2, by omega⟩
  box0 := fun q r => by rw [upL_ne L (by omega)] at q r; exact get_old N (h.box0 q r)
  box1 := fun q => by rw [upL_ne L (by omega)] at q; have := (h.bld (h.box1 q).2.2).2; rw [h7] at this; cases this
  bx4 := fun q _ _ => by rw [upL_ne L (by omega)] at q; exact NotOf.row hr (h.box q).2.2
  bx7 := fun _ q => by rw [upL_ne L (by omega), h7] at q; cases q
  c7 := fun q => by rw [upL_ne L (by omega), h7] at q; cases q }
theorem KI.setLit (h : KI m0 base pv s7 uv pc rc r' a b L t M) (hb : ∀ e ∈ base, e.1 < 158 ∧ e.1 ≠ 15) (hp : pv 6 = none) (h7 : L 7 = false) : KI m0 base pv s7 uv pc rc r' M.length b (upL L 6) (Abs.put t 164 (.slice (some ⟨M.length, 0, none⟩) 1 1)) (M ++ [some { cells := [uv] }]) := by
 have hl := h.len
 exact {
  len := by rw [List.length_append]; omega
  keep := fun j hj => by rw [List.getElem?_append_left (by omega)]; exact h.keep j hj
  old := fun e he => by rw [put_ne t _ (by have := (hb e he).1; omega)]; exact h.old e he
  pure := fun k w hw hk => by
   have e : k ≠ 6 := fun e => by rw [e, hp] at hw; cases hw
   rw [upL_ne L e] at hk
   rw [put_ne t _ (by omega)]
   exact h.pure k w hw hk
  row := fun q => by rw [upL_ne L (by omega)] at q; rw [put_ne t _ (by omega)]; exact h.row q
  row7 := fun q r => by rw [upL_ne L (by omega)] at q r; exact (h.row7 q r).old _
  lit := fun _ => put_same ..
  lit7 := fun _ _ => ⟨{ cells := [uv] }, by simp, fun j v hj => by rw [Nat.zero_add]; exact hj⟩
  app := fun q => by rw [upL_ne L (by omega), h7] at q; cases q
  bld := fun q => by rw [upL_ne L (by omega)] at q; have := (h.bld q).2; rw [h7] at this; cases this
  box := fun q => by
   rw [upL_ne L (by omega)] at q
   rw [put_ne t _ (by omega), List.length_append]
   obtain ⟨b1, b2, b3⟩ := h.box q
   exact ⟨b1, b2, by omega⟩
  box0 := fun q r => by rw [upL_ne L (by omega)] at q r; exact get_old _ (h.box0 q r)
  box1 := fun q => by rw [upL_ne L (by omega)] at q; have := (h.bld (h.box1 q).2.2).2; rw [h7] at this; cases this
  bx4 := fun q r s => by rw [upL_ne L (by omega)] at q r s; exact h.bx4 q r s
  bx7 := fun _ q => by rw [upL_ne L (by omega), h7] at q; cases q
  c7 := fun q => by rw [upL_ne L (by omega), h7] at q; cases q }
theorem KI.setApp (h : KI m0 base pv s7 uv pc rc r' a b L t M) (hb : ∀ e ∈ base, e.1 < 158 ∧ e.1 ≠ 15) (hp : pv 7 = none) (h4 : L 4 = true) (h6 : L 6 = true) (h7 : L 7 = false) {M' : AM} {u : Value} (hr : Row M' m0.length 1 u (pc ++ [uv]) (pc.length + 1)) (hml : M.length ≤ M'.length) (hk : ∀ j, j < M.length → NotOf rc j → M'[j]? = M[j]?) (hk2 : ∀ j, j < M.length → NotOf rc j → NotOf u j) : KI m0 base pv s7 uv pc rc u a b (upL L 7) (Abs.put t 165 u) M' := by
 have hl := h.len
 have hrow := h.row7 h4 h7
 have h8 : L 8 = false := by
  cases e : L 8 with
  | false => rfl
  | true => have := (h.bld e).2; rw [h7] at this; cases this
 have h10 : L 10 = false := by
  cases e : L 10 with
  | false => rfl
  | true => have := (h.box1 e).2.2; rw [h8] at this; cases this
 exact {
  len := by omega
  keep := fun j hj => by rw [hk j (by omega) (NotOf.row hrow hj)]; exact h.keep j hj
  old := fun e he => by rw [put_ne t _ (by have := (hb e he).1; omega)]; exact h.old e he
  pure := fun k w hw hk => by
   have e : k ≠ 7 := fun e => by rw [e, hp] at hw; cases hw
   rw [upL_ne L e] at hk
   rw [put_ne t _ (by omega)]
   exact h.pure k w hw hk
  row := fun q => by rw [upL_ne L (by omega)] at q; rw [put_ne t _ (by omega)]; exact h.row q
  row7 := fun _ r => by rw [upL_same] at r; cases r
  lit := fun q => by rw [upL_ne L (by omega)] at q; rw [put_ne t _ (by omega)]; exact h.lit q
  lit7 := fun _ r => by rw [upL_same] at r; cases r
  app := fun _ => ⟨put_same .., hr⟩
  bld := fun q => by rw [upL_ne L (by omega), h8] at q; cases q
  box := fun q => by
   rw [upL_ne L (by omega)] at q
   rw [put_ne t _ (by omega)]
   obtain ⟨b1, b2, b3⟩ := h.box q
   exact ⟨b1, b2, by omega⟩
  box0 := fun q r => by
   rw [upL_ne L (by omega)] at q r
   rw [hk b (h.box q).2.2 (h.bx4 q h4 h7)]
   exact h.box0 q r
  box1 := fun q => by rw [upL_ne L (by omega), h10] at q; cases q
  bx4 := fun _ _ r => by rw [upL_same] at r; cases r
  bx7 := fun q _ => by rw [upL_ne L (by omega)] at q; exact hk2 b (h.box q).2.2 (h.bx4 q h4 h7)
  c7 := fun _ => by rw [upL_ne L (by omega), upL_ne L (by omega)]; exact ⟨h4, h6⟩ }
theorem KI.setBld (h : KI m0 base pv s7 uv pc rc r' a b L t M) (hb : ∀ e ∈ base, e.1 < 158 ∧ e.1 ≠ 15) (hp : pv 8 = none) (h7 : L 7 = true) : KI m0 base pv s7 uv pc rc r' a b (upL L 8) (Abs.put t 166 (.agg #[s7, r'])) M := by
 exact {
  len := h.len
  keep := h.keep
  old := fun e he => by rw [put_ne t _ (by have := (hb e he).1; omega)]; exact h.old e he
  pure := fun k w hw hk => by
   have e : k ≠ 8 := fun e => by rw [e, hp] at hw; cases hw
   rw [upL_ne L e] at hk
   rw [put_ne t _ (by omega)]
   exact h.pure k w hw hk
  row := fun q => by rw [upL_ne L (by omega)] at q; rw [put_ne t _ (by omega)]; exact h.row q
  row7 := fun q r => by rw [upL_ne L (by omega)] at q r; exact h.row7 q r
  lit := fun q => by rw [upL_ne L (by omega)] at q; rw [put_ne t _ (by omega)]; exact h.lit q
  lit7 := fun q r => by rw [upL_ne L (by omega)] at q r; exact h.lit7 q r
  app := fun q => by rw [upL_ne L (by omega)] at q; rw [put_ne t _ (by omega)]; exact h.app q
  bld := fun _ => ⟨put_same .., by rw [upL_ne L (by omega)]; exact h7⟩
  box := fun q => by rw [upL_ne L (by omega)] at q; rw [put_ne t _ (by omega)]; exact h.box q
  box0 := fun q r => by rw [upL_ne L (by omega)] at q r; exact h.box0 q r
  box1 := fun q => by
   rw [upL_ne L (by omega)] at q
   obtain ⟨b1, b2, _⟩ := h.box1 q
   exact ⟨b1, by rw [upL_ne L (by omega)]; exact b2, upL_same ..⟩
  bx4 := fun q r s => by rw [upL_ne L (by omega)] at q r s; exact h.bx4 q r s
  bx7 := fun q r => by rw [upL_ne L (by omega)] at q r; exact h.bx7 q r
  c7 := fun q => by rw [upL_ne L (by omega)] at q; rw [upL_ne L (by omega), upL_ne L (by omega)]; exact h.c7 q }
theorem KI.setBox (h : KI m0 base pv s7 uv pc rc r' a b L t M) (hb : ∀ e ∈ base, e.1 < 158 ∧ e.1 ≠ 15) (hp : pv 9 = none) (h9 : L 9 = false) : KI m0 base pv s7 uv pc rc r' a M.length (upL L 9) (Abs.put t 15 (.pointer (some ⟨M.length, 0, none⟩))) (M ++ [some { cells := [.slice none 0 0, .slice none 0 0] }]) := by
 have hl := h.len
 have h10 : L 10 = false := by
  cases e : L 10 with
  | false => rfl
  | true => have := (h.box1 e).2.1; rw [h9] at this; cases this
 exact {
  len := by rw [List.length_append]; omega
  keep := fun j hj => by rw [List.getElem?_append_left (by omega)]; exact h.keep j hj
  old := fun e he => by rw [put_ne t _ (hb e he).2]; exact h.old e he
  pure := fun k w hw hk => by
   have e : k ≠ 9 := fun e => by rw [e, hp] at hw; cases hw
   rw [upL_ne L e] at hk
   rw [put_ne t _ (by omega)]
   exact h.pure k w hw hk
  row := fun q => by rw [upL_ne L (by omega)] at q; rw [put_ne t _ (by omega)]; exact h.row q
  row7 := fun q r => by rw [upL_ne L (by omega)] at q r; exact (h.row7 q r).old _
  lit := fun q => by rw [upL_ne L (by omega)] at q; rw [put_ne t _ (by omega)]; exact h.lit q
  lit7 := fun q r => by rw [upL_ne L (by omega)] at q r; exact (h.lit7 q r).old _
  app := fun q => by
   rw [upL_ne L (by omega)] at q
   rw [put_ne t _ (by omega)]
   exact ⟨(h.app q).1, (h.app q).2.old _⟩
  bld := fun q => by rw [upL_ne L (by omega)] at q; rw [put_ne t _ (by omega), upL_ne L (by omega)]; exact h.bld q
  box := fun _ => ⟨put_same .., hl, by rw [List.length_append]; exact Nat.lt_succ_self _⟩
  box0 := fun _ _ => by simp
  box1 := fun q => by rw [upL_ne L (by omega), h10] at q; cases q
  bx4 := fun _ r s => by rw [upL_ne L (by omega)] at r s; exact (h.row7 r s).far (Nat.le_refl _)
  bx7 := fun _ r => by rw [upL_ne L (by omega)] at r; exact (h.app r).2.far (Nat.le_refl _)
  c7 := fun q => by rw [upL_ne L (by omega)] at q; rw [upL_ne L (by omega), upL_ne L (by omega)]; exact h.c7 q }
theorem KI.setSto (h : KI m0 base pv s7 uv pc rc r' a b L t M) (hp : pv 10 = none) (h8 : L 8 = true) (h9 : L 9 = true) : KI m0 base pv s7 uv pc rc r' a b (upL L 10) t (M.set b (some { cells := [s7, r'] })) := by
 have hl := h.len
 have h7 := (h.bld h8).2
 obtain ⟨x1, x2, x3⟩ := h.box h9
 exact {
  len := by rw [List.length_set]; exact hl
  keep := fun j hj => by rw [List.getElem?_set_ne (by omega)]; exact h.keep j hj
  old := h.old
  pure := fun k w hw hk => by
   have e : k ≠ 10 := fun e => by rw [e, hp] at hw; cases hw
   rw [upL_ne L e] at hk
   exact h.pure k w hw hk
  row := fun q => by rw [upL_ne L (by omega)] at q; exact h.row q
  row7 := fun _ r => by rw [upL_ne L (by omega), h7] at r; cases r
  lit := fun q => by rw [upL_ne L (by omega)] at q; exact h.lit q
  lit7 := fun _ r => by rw [upL_ne L (by omega), h7] at r; cases r
  app := fun _ => ⟨(h.app h7).1, (h.app h7).2.set (h.bx7 h9 h7)⟩
  bld := fun _ => ⟨(h.bld h8).1, by rw [upL_ne L (by omega)]; exact h7⟩
  box := fun _ => ⟨x1, x2, by rw [List.length_set]; exact x3⟩
  box0 := fun _ r => by rw [upL_same] at r; cases r
  box1 := fun _ => ⟨List.getElem?_set_self x3, by rw [upL_ne L (by omega)]; exact h9, by rw [upL_ne L (by omega)]; exact h8⟩
  bx4 := fun _ _ r => by rw [upL_ne L (by omega), h7] at r; cases r
  bx7 := fun _ _ => h.bx7 h9 h7
  c7 := fun q => by rw [upL_ne L (by omega)] at q; rw [upL_ne L (by omega), upL_ne L (by omega)]; exact h.c7 q }
end
end Go.Proofs.Ytabdnepfcohncaa.Abs
