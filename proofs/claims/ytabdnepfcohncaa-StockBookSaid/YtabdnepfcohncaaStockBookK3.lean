/- Proved here: what the proof of StockBook rests on, part 3 of 6. Conditions: those that each theorem names. -/
import Derived.Test.YtabdnepfcohncaaStockBookK2
namespace Go.Proofs.Ytabdnepfcohncaa.Abs
set_option linter.unusedSimpArgs false
set_option linter.unusedVariables false
open Go.RowKit
open Go.Proofs.Ytabdnepfcohncaa.Sim
open Go.Proofs
/-- What a transfer adds to a count. -/
def dl (p i : Int) (x : Tr) : Int := (if x.i = i ∧ x.t = p then x.n else 0) - (if x.i = i ∧ x.f = p then x.n else 0)
def hsum (p i : Int) : List Tr → Int
  | [] => 0
  | x :: l => dl p i x + hsum p i l
theorem hsum_app (p i : Int) : ∀ (a b : List Tr), hsum p i (a ++ b) = hsum p i a + hsum p i b
  | [], b => by simp [hsum]
  | x :: a, b => by
    show dl p i x + hsum p i (a ++ b) = dl p i x + hsum p i a + hsum p i b
    rw [hsum_app p i a b]; omega
theorem hsum_one (p i : Int) (x : Tr) : hsum p i [x] = dl p i x := by simp [hsum]
def smallT (l : List Tr) : Prop := ∀ x ∈ l, 0 ≤ x.n ∧ x.n ≤ 1000000
theorem dl_bd {p i : Int} {x : Tr} (h : 0 ≤ x.n ∧ x.n ≤ 1000000) : -1000000 ≤ dl p i x ∧ dl p i x ≤ 1000000 := by
  unfold dl
  split <;> split <;> omega
theorem hsum_bd (p i : Int) : ∀ (l : List Tr), smallT l → -(1000000 * l.length) ≤ hsum p i l ∧ hsum p i l ≤ 1000000 * l.length
  | [], _ => by simp [hsum]
  | x :: l, h => by
    have h1 := dl_bd (p := p) (i := i) (h x (by simp))
    have h2 := hsum_bd p i l fun y hy => h y (by simp [hy])
    have e : hsum p i (x :: l) = dl p i x + hsum p i l := rfl
    rw [e, List.length_cons]
    push_cast
    omega
theorem ok_small {l : List Tr} (h : l.all okT = true) : smallT l := fun x hx => by
  have := List.all_eq_true.1 h x hx
  simp only [okT, decide_eq_true_eq] at this
  omega
/-- Rows of posts. -/
def PostsAt (M : AM) (b0 : Nat) (pv : Value) (P : List (List Tr)) : Prop := ∃ pc, Row M b0 1 pv pc P.length ∧ ∀ k, k < P.length → ∃ u, pc[k]? = some u ∧ PostAt M b0 u (P.getD k [])
theorem PostAt.old {M : AM} {b0 : Nat} {u : Value} {l : List Tr} (h : PostAt M b0 u l) (T : AM) : PostAt (M ++ T) b0 u l := by
  obtain ⟨a, k2, k3, k4, ⟨b, k5, k7, k8⟩, k6⟩ := h
  exact ⟨a, k2, by rw [List.length_append]; omega, k4, ⟨b, get_old T k5, k7, k8⟩, k6⟩
theorem PostsAt.old {M : AM} {b0 : Nat} {pv : Value} {P : List (List Tr)} (h : PostsAt M b0 pv P) (T : AM) : PostsAt (M ++ T) b0 pv P := by
  obtain ⟨pc, h5, h6⟩ := h
  refine ⟨pc, h5.old T, fun k hk => ?_⟩
  obtain ⟨u, k1, k2⟩ := h6 k hk
  exact ⟨u, k1, k2.old T⟩
/-- The reference's book in memory. -/
structure RBook (M : AM) (b0 xk : Nat) (P : List (List Tr)) (pv : Value) : Prop where
  lo : b0 ≤ xk
  cells : M[xk]? = some (some { cells := [pv] })
  posts : PostsAt M b0 pv P
theorem RBook.old {M : AM} {b0 xk : Nat} {P : List (List Tr)} {pv : Value} (h : RBook M b0 xk P pv) (T : AM) : RBook (M ++ T) b0 xk P pv := ⟨h.lo, get_old _ h.cells, h.posts.old T⟩
theorem RBook.lt {M : AM} {b0 xk : Nat} {P : List (List Tr)} {pv : Value} (h : RBook M b0 xk P pv) : xk < M.length := (List.getElem?_eq_some_iff.1 h.cells).1
/-- A slice that is nil or names a block. -/
def SlV (v : Value) : Prop := v = .slice none 0 0 ∨ ∃ q n c, v = .slice (some q) n c
theorem PostAt.slv {M : AM} {b0 : Nat} {u : Value} {l : List Tr} (h : PostAt M b0 u l) : SlV u := by
  obtain ⟨a, _, _, rfl, _⟩ := h
  exact .inr ⟨_, _, _, rfl⟩
theorem SlV.one {v : Value} (h : SlV v) : v.oneCell' = true ∧ v.cells = #[v] := by
  rcases h with rfl | ⟨q, n, c, rfl⟩ <;> exact ⟨rfl, rfl⟩
theorem bs86z {m : AM} {k : Nat} : abuildSlice Try.prog m k 86 0 [] = some (.slice (some ⟨k, 0, none⟩) 0 0, m.set k (some { cells := [] })) := by kernel_rfl
theorem bs86 {m : AM} {k : Nat} {v : Value} (h : SlV v := by assumption) : abuildSlice Try.prog m k 86 1 [(0, v)] = some (.slice (some ⟨k, 0, none⟩) 1 1, m.set k (some { cells := [v] })) := by
  rcases h with rfl | ⟨q, n, c, rfl⟩ <;> kernel_rfl
theorem el86 : elemB Try.prog 86 = some (48, 1, 24, #[.slice none 0 0]) := by kernel_rfl
theorem un86 : Try.prog.underlying 86 = some (.slice 48) := by kernel_rfl
theorem sz86 : szB Try.prog 86 = some 1 := by kernel_rfl
/-- Of all posts and of more the count behind k of them, of which those from n on are left out. -/
def accH (p i : Int) (P : List (List Tr)) (n : Nat) (more : List Tr) (k : Nat) : Int := hsum p i ((P.take (min k n)).flatten ++ if P.length < k then more else [])
theorem accH_0 (p i : Int) (P : List (List Tr)) (n : Nat) (more : List Tr) : accH p i P n more 0 = 0 := by simp [accH, hsum]
theorem accH_skip {p i : Int} {P : List (List Tr)} {n : Nat} {more : List Tr} {k : Nat} (h1 : n ≤ k) (h2 : k < P.length) : accH p i P n more (k + 1) = accH p i P n more k := by
  unfold accH
  rw [Nat.min_eq_right (by omega), Nat.min_eq_right h1, if_neg (by omega), if_neg (by omega)]
theorem accH_in {p i : Int} {P : List (List Tr)} {n : Nat} {more : List Tr} {k : Nat} (h1 : k < n) (h2 : k < P.length) : accH p i P n more (k + 1) = accH p i P n more k + hsum p i (P.getD k []) := by
  unfold accH
  have : P.take (k + 1) = P.take k ++ [P.getD k []] := by rw [List.take_succ_eq_append_getElem h2]; simp [h2]
  rw [Nat.min_eq_left (by omega), Nat.min_eq_left (by omega), if_neg (by omega), if_neg (by omega), List.append_nil, List.append_nil, this, List.flatten_append, hsum_app]
  simp
theorem accH_more {p i : Int} {P : List (List Tr)} {n : Nat} {more : List Tr} (h1 : n ≤ P.length) : accH p i P n more (P.length + 1) = accH p i P n more P.length + hsum p i more := by
  unfold accH
  rw [Nat.min_eq_right (by omega), Nat.min_eq_right h1, if_pos (by omega), if_neg (by omega), List.append_nil, hsum_app]
theorem accH_end {p i : Int} {P : List (List Tr)} {n : Nat} {more : List Tr} (h1 : n ≤ P.length) : accH p i P n more (P.length + 1) = hsum p i ((P.take n).flatten ++ more) := by
  unfold accH
  rw [Nat.min_eq_right (by omega), if_pos (by omega)]
theorem accH_bd {p i : Int} {P : List (List Tr)} {n : Nat} {more : List Tr} {k : Nat} (h1 : smallT P.flatten) (h2 : smallT more) (h3 : P.flatten.length + more.length ≤ 1000000000) : -1000000000000000 ≤ accH p i P n more k ∧ accH p i P n more k ≤ 1000000000000000 := by
  unfold accH
  have hs : smallT ((P.take (min k n)).flatten ++ if P.length < k then more else []) := by
    intro x hx
    rcases List.mem_append.1 hx with hx | hx
    · obtain ⟨l, hl, hx⟩ := List.mem_flatten.1 hx
      exact h1 x (List.mem_flatten.2 ⟨l, List.mem_of_mem_take hl, hx⟩)
    · split at hx
      · exact h2 x hx
      · simp at hx
  have hlen : ((P.take (min k n)).flatten ++ if P.length < k then more else []).length ≤ P.flatten.length + more.length := by
    have e : P.flatten = (P.take (min k n)).flatten ++ (P.drop (min k n)).flatten := by rw [← List.flatten_append, List.take_append_drop]
    rw [List.length_append, e, List.length_append]
    have : (if P.length < k then more else []).length ≤ more.length := by split <;> simp
    omega
  have := hsum_bd p i _ hs
  omega
set_option maxHeartbeats 8000000 in
set_option maxRecDepth 100000 in
theorem held_ok {m : AM} {b0 xk : Nat} {P : List (List Tr)} {pv mv : Value} {p i : Int} {n : Nat} {more : List Tr} (h : RBook m b0 xk P pv) (hm : Trs m mv more) (hv : SlV mv) (hn : n ≤ P.length) (hP : smallT P.flatten) (hmo : smallT more) (hlen : P.flatten.length + more.length ≤ 1000000000) (hpl : P.length ≤ 1000000000) :
    ACall Try.prog 103 #[.pointer (some ⟨xk, 0, none⟩), .int .i64 p, .int .i64 i, .int .i64 (n : Nat), mv] m (Ret (.int .i64 (hsum p i ((P.take n).flatten ++ more))) m) := by
  refine ACall.drop (.int _ _) ?_
  obtain ⟨pc, hrow, hps⟩ := h.posts
  have hml := h.lt
  obtain ⟨ar, r1, r2, r3⟩ := hrow.sl (by omega)
  have rx := fun T => Rd.old T (show Rd m xk 0 pv from ⟨_, h.cells, rfl⟩)
  have r3' := fun T (h : 0 < P.length) => (r3 h).old T
  have hpc1 : pc.all (·.oneCell') = true := by
    rw [List.all_eq_true]
    intro v hv
    obtain ⟨k, hk, rfl⟩ := List.getElem_of_mem hv
    have hpl := hrow.len
    obtain ⟨u, q1, q2⟩ := hps k (by omega)
    rw [List.getElem?_eq_getElem hk] at q1
    injection q1 with q1
    rw [q1]
    exact q2.slv.one.1
  refine ACall.start Try.func103 rfl rfl ?_
  (repeat (first | (with_reducible refine AWo.cons ?_) | ((with_reducible refine Step.id ?_); first | ((with_reducible apply Step.move); exact rfl; exact rfl) | ((with_reducible apply Step.assign); exact rfl; exact rfl) | ((with_reducible apply Step.load); exact rfl; (focus (decide +kernel)); exact rfl; (focus (exact rx _))) | ((with_reducible apply Step.field0); exact rfl; (focus (decide +kernel)); exact rfl) | ((with_reducible apply Step.nilp); exact rfl; exact rfl) | ((with_reducible apply Step.buildS 0); exact rfl; exact rfl; exact (fun _ _ => bs86z); exact rfl; (focus (first | (simp only [List.nil_append, List.cons_append, List.set_cons_zero, List.set_cons_succ, iv_set, bv_set, iv_rep, bv_rep]; done) | (simp only [List.nil_append, List.cons_append, List.set_cons_zero, List.set_cons_succ, iv_set, bv_set, iv_rep, bv_rep]; rfl) | rfl)))) | (with_reducible refine AWo.nil ?_) | ((with_reducible apply AW.seq)) | ((with_reducible apply Then.n)) | ((with_reducible apply AW.regL))))
  ((with_reducible apply Step.appRow2 (b0 := m.length) (n := 0) (c := [])); exact rfl; exact rfl; exact (.inr ⟨m.length + 0, .own, 1, by omega, rfl, by rw [get_app]; rfl, by simp, .inl rfl⟩); exact r1; exact (fun h => r3' _ h); exact el86; exact un86; exact hrow.len; exact hpc1; exact rfl; (focus (omega)); exact rfl; (focus (simp)))
  intro u1 M1 hr1 hml1 hk1 _
  rw [List.nil_append, Nat.zero_add] at hr1
  obtain ⟨N1, hN1⟩ := pre_keep (m0 := m) ⟨_, rfl⟩ hml1 fun j hj => hk1 j (by simp; omega) (by intro n' c' e; simp only [Value.slice.injEq, Option.some.injEq, Addr.mk.injEq] at e; omega)
  clear hk1
  rw [← List.append_nil M1]
  (repeat (first | (with_reducible refine AWo.cons ?_) | ((with_reducible refine Step.id ?_); first | ((with_reducible apply Step.move); exact rfl; exact rfl) | ((with_reducible apply Step.buildS 0); exact rfl; exact rfl; exact (fun _ _ => bs86); exact rfl; (focus (first | (simp only [List.nil_append, List.cons_append, List.set_cons_zero, List.set_cons_succ, iv_set, bv_set, iv_rep, bv_rep]; done) | (simp only [List.nil_append, List.cons_append, List.set_cons_zero, List.set_cons_succ, iv_set, bv_set, iv_rep, bv_rep]; rfl) | rfl))))))
  ((with_reducible apply Step.appRow2 (n := P.length) (xl := 1) (b0 := m.length) (new := [mv])); exact rfl; exact rfl; exact (hr1.old _); exact (Sl.mk (Nat.le_refl _)); exact (fun _ => RdL.new rfl rfl); exact el86; exact un86; exact rfl; (focus (simp [hv.one.1])); exact rfl; (focus (omega)); exact rfl; (focus (rw [hN1]; simp only [List.length_append]; omega)))
  intro u2 M2 hr2 hml2 hk2 _
  obtain ⟨N2, hN2⟩ := pre_keep (m0 := m) (M' := M2) ⟨N1 ++ _, by rw [hN1, List.append_assoc]⟩ hml2 fun j hj => hk2 j (by rw [hN1]; simp only [List.length_append]; omega) (NotOf.row hr1 hj)
  clear hk2
  obtain ⟨a2, t1, t2, t3⟩ := hr2.sl (by rw [hN2, List.length_append]; omega)
  have t3 := t3 (by omega)
  have hel : ∀ k, k < P.length + 1 → ∃ u l, (pc ++ [mv])[k]? = some u ∧ Trs M2 u l ∧ l = (if k < P.length then P.getD k [] else more) ∧ smallT l ∧ l.length ≤ 1000000000 := fun k hk => by
    rcases Nat.lt_or_ge k P.length with h1 | h1
    · obtain ⟨u, q1, q2⟩ := hps k h1
      have hmem : P.getD k [] ∈ P := by rw [List.getD_eq_getElem?_getD, List.getElem?_eq_getElem h1]; exact List.getElem_mem h1
      refine ⟨u, P.getD k [], by rw [List.getElem?_append_left (by have := hrow.len; omega)]; exact q1, by rw [hN2]; exact (q2.old _).trs, by rw [if_pos h1], fun x hx => hP x (List.mem_flatten.2 ⟨_, hmem, hx⟩), ?_⟩
      have : (P.getD k []).length ≤ P.flatten.length := by
        obtain ⟨s, t, e⟩ := List.append_of_mem hmem
        generalize P.getD k [] = l at e
        rw [e]; simp; omega
      omega
    · obtain rfl : k = P.length := by omega
      exact ⟨mv, more, by rw [List.getElem?_append_right (by have := hrow.len; omega), show P.length - pc.length = 0 by have := hrow.len; omega]; rfl, by rw [hN2]; exact hm.old _, by rw [if_neg (by omega)], hmo, by omega⟩
  have hb := fun k => accH_bd (p := p) (i := i) (n := n) (k := k) hP hmo hlen
  have h0 := accH_0 p i P n more
  have hE := accH_end (p := p) (i := i) (more := more) hn
  have rx2 : Rd M2 xk 0 pv := by rw [hN2]; exact rx _
  (repeat (first | (with_reducible refine AWo.cons ?_) | ((with_reducible refine Step.id ?_); first | ((with_reducible apply Step.move); exact rfl; exact rfl) | ((with_reducible apply Step.len); exact rfl; (focus (assumption)); (focus (decide +kernel)); exact rfl)) | (with_reducible refine AWo.nil ?_) | ((with_reducible apply Then.n)) | ((with_reducible apply AW.block))))
  refine AW.loopW (fun q t M => ∃ k : Nat, q = P.length + 1 - k ∧ k ≤ P.length + 1 ∧ M = M2 ∧
    t = fr [(0, .pointer (some ⟨xk, 0, none⟩)), (1, .int .i64 p), (2, .int .i64 i), (3, .int .i64 (n : Nat)), (11, .int .i64 (accH p i P n more k)), (24, u2), (25, .int .i64 (P.length + 1 : Nat)), (26, .int .i64 (k : Nat))]) ⟨_, [(0, .pointer (some ⟨xk, 0, none⟩)), (1, .int .i64 p), (2, .int .i64 i), (3, .int .i64 (n : Nat)), (11, .int .i64 0), (24, u2), (25, .int .i64 (P.length + 1 : Nat)), (26, .int .i64 (0 : Nat))], (by repeat (first | exact trivial | (refine And.intro rfl ?_))), 0, rfl, Nat.zero_le _, rfl, by rw [h0]⟩ ?_
  rintro q t M ⟨k, rfl, hk, rfl, rfl⟩
  refine AW.rebase ?_
  rcases Nat.lt_or_ge k (P.length + 1) with hlt | hge
  · obtain ⟨u, l, e1, e2, e3, e4, e5⟩ := hel k hlt
    have rk : Rd M a2 (0 + k) u := by
      obtain ⟨b, w1, w2⟩ := t3
      exact ⟨b, w1, w2 k u e1⟩
    rw [Nat.zero_add] at rk
    by_cases c1 : n ≤ k
    · by_cases c2 : k < P.length
      · have ha := accH_skip (p := p) (i := i) (more := more) c1 c2
        (repeat (first | (with_reducible refine AWo.cons ?_) | ((with_reducible refine Step.id ?_); first | ((with_reducible apply Step.gdT); exact rfl; exact rfl; (focus ((simp only [decide_eq_true_eq, decide_eq_false_iff_not, Bool.not_eq_true', Bool.not_eq_false', Bool.not_true, Bool.not_false]; first | assumption | omega)))) | ((with_reducible apply Step.move); exact rfl; exact rfl) | ((with_reducible apply Step.assign); exact rfl; exact rfl) | ((with_reducible apply Step.load); exact rfl; (focus (decide +kernel)); exact rfl; (focus (exact Rd.old _ (by assumption)))) | ((with_reducible apply Step.ix1z); exact rfl; (focus (assumption)); exact rfl; (focus (decide +kernel)); exact rfl; (focus (omega))) | ((with_reducible apply Step.field0); exact rfl; (focus (decide +kernel)); exact rfl) | ((with_reducible apply Step.add); exact rfl; exact rfl; (focus (omega)); exact rfl) | ((with_reducible apply Step.lss); exact rfl; exact rfl; exact rfl) | ((with_reducible apply Step.geq); exact rfl; exact rfl; exact rfl) | ((with_reducible apply Step.len); exact rfl; (focus (assumption)); (focus (decide +kernel)); exact rfl) | ((with_reducible apply Step.nilp); exact rfl; exact rfl) | ((with_reducible apply Step.pickT); exact rfl; exact rfl; exact rfl; exact rfl; (focus ((simp only [decide_eq_true_eq, decide_eq_false_iff_not, Bool.not_eq_true', Bool.not_eq_false', Bool.not_true, Bool.not_false]; first | assumption | omega))))) | (with_reducible refine AWo.nil ?_) | ((with_reducible apply AW.seq)) | ((with_reducible apply Then.n)) | ((with_reducible apply AW.regL)) | ((with_reducible apply AW.block)) | ((with_reducible apply AW.exit)) | ((with_reducible apply InBlk.hit)) | ((with_reducible apply Then.e)) | ((with_reducible apply AW.skip)) | ((with_reducible apply AW.condT); exact rfl; (focus ((simp only [decide_eq_true_eq, decide_eq_false_iff_not, Bool.not_eq_true', Bool.not_eq_false', Bool.not_true, Bool.not_false]; first | assumption | omega))))))
        exact ⟨_, [(0, .pointer (some ⟨xk, 0, none⟩)), (1, .int .i64 p), (2, .int .i64 i), (3, .int .i64 (n : Nat)), (11, .int .i64 (accH p i P n more k)), (24, u2), (25, .int .i64 (P.length + 1 : Nat)), (26, .int .i64 (k + 1 : Nat))], by omega, (by repeat (first | exact trivial | (refine And.intro rfl ?_))), k + 1, rfl, by omega, by rw [List.append_nil], by rw [ha]⟩
      · have hkP : k = P.length := by omega
        have ha : accH p i P n more (k + 1) = accH p i P n more k + hsum p i l := by rw [e3, if_neg c2, hkP, accH_more hn]
        have hbk := hb k
        generalize accH p i P n more k = S at *
        obtain ⟨a3, o3, s1, s2, s3⟩ := id e2
        have hxl : xk < M.length := by rw [hN2, List.length_append]; omega
        clear e1 hel hps hP hmo e3 hb
        (repeat (first | (with_reducible refine AWo.cons ?_) | ((with_reducible refine Step.id ?_); first | ((with_reducible apply Step.gdT); exact rfl; exact rfl; (focus ((simp only [decide_eq_true_eq, decide_eq_false_iff_not, Bool.not_eq_true', Bool.not_eq_false', Bool.not_true, Bool.not_false]; first | assumption | omega)))) | ((with_reducible apply Step.move); exact rfl; exact rfl) | ((with_reducible apply Step.assign); exact rfl; exact rfl) | ((with_reducible apply Step.load); exact rfl; (focus (decide +kernel)); exact rfl; (focus (exact Rd.old _ (by assumption)))) | ((with_reducible apply Step.ix1z); exact rfl; (focus (assumption)); exact rfl; (focus (decide +kernel)); exact rfl; (focus (omega))) | ((with_reducible apply Step.field0); exact rfl; (focus (decide +kernel)); exact rfl) | ((with_reducible apply Step.lss); exact rfl; exact rfl; exact rfl) | ((with_reducible apply Step.geq); exact rfl; exact rfl; exact rfl) | ((with_reducible apply Step.len); exact rfl; (focus (assumption)); (focus (decide +kernel)); exact rfl) | ((with_reducible apply Step.nilp); exact rfl; exact rfl) | ((with_reducible apply Step.pickT); exact rfl; exact rfl; exact rfl; exact rfl; (focus ((simp only [decide_eq_true_eq, decide_eq_false_iff_not, Bool.not_eq_true', Bool.not_eq_false', Bool.not_true, Bool.not_false]; first | assumption | omega))))) | (with_reducible refine AWo.nil ?_) | ((with_reducible apply AW.seq)) | ((with_reducible apply Then.n)) | ((with_reducible apply AW.regL)) | ((with_reducible apply AW.block)) | ((with_reducible apply AW.skip)) | ((with_reducible apply AW.condT); exact rfl; (focus ((simp only [decide_eq_true_eq, decide_eq_false_iff_not, Bool.not_eq_true', Bool.not_eq_false', Bool.not_true, Bool.not_false]; first | assumption | omega)))) | ((with_reducible apply AW.condF); exact rfl; (focus ((simp only [decide_eq_true_eq, decide_eq_false_iff_not, Bool.not_eq_true', Bool.not_eq_false', Bool.not_true, Bool.not_false]; first | assumption | omega))))))
        refine AW.loopT (fun q t L => ∃ (j : Nat) (s : Int), q = l.length - j ∧ j ≤ l.length ∧ s = S + hsum p i (l.take j) ∧ L = [] ∧
          t = [(0, .pointer (some ⟨xk, 0, none⟩)), (1, .int .i64 p), (2, .int .i64 i), (3, .int .i64 (n : Nat)), (11, .int .i64 s), (24, u2), (25, .int .i64 (P.length + 1 : Nat)), (26, .int .i64 (k : Nat)), (43, u), (44, .int .i64 (l.length : Nat)), (45, .int .i64 (j : Nat))]) ⟨_, _, _, (Or.inl ⟨rfl, (by repeat (first | exact trivial | (refine And.intro rfl ?_)))⟩), 0, _, rfl, Nat.zero_le _, by simp [hsum], rfl, rfl⟩ ?_
        rintro q t L ⟨j, s, rfl, hj, hs, rfl, rfl⟩
        rcases Nat.lt_or_ge j l.length with hlt' | hge'
        · have hr := s3 j hlt'
          have ts := take_snocT l j hlt'
          have hmem : l.getD j default ∈ l := by rw [List.getD_eq_getElem?_getD, List.getElem?_eq_getElem hlt']; exact List.getElem_mem hlt'
          have hx := e4 _ hmem
          have hsb := hsum_bd p i (l.take j) fun y hy => e4 y (List.mem_of_mem_take hy)
          rw [List.length_take, Nat.min_eq_left hj] at hsb
          have hstep : S + hsum p i (l.take (j + 1)) = s + dl p i (l.getD j default) := by rw [ts, hsum_app, hsum_one, hs]; omega
          have hsr : -3000000000000000 ≤ s ∧ s ≤ 3000000000000000 := by omega
          generalize l.getD j default = x at hr hx hstep
          obtain ⟨xi, xf, xt, xn⟩ := x
          simp only [Tr.c] at hr
          simp only at hx
          simp only [dl] at hstep
          clear hsb hs hmem ts
          by_cases d1 : xi = i
          · by_cases d2 : xt = p
            · by_cases d3 : xf = p
              · rw [if_pos ⟨d1, d2⟩, if_pos ⟨d1, d3⟩] at hstep
                (repeat (first | (with_reducible refine AWo.cons ?_) | ((with_reducible refine Step.id ?_); first | ((with_reducible apply Step.gdT); exact rfl; exact rfl; (focus ((simp only [decide_eq_true_eq, decide_eq_false_iff_not, Bool.not_eq_true', Bool.not_eq_false', Bool.not_true, Bool.not_false]; first | assumption | omega)))) | ((with_reducible apply Step.move); exact rfl; exact rfl) | ((with_reducible apply Step.assign); exact rfl; exact rfl) | ((with_reducible apply Step.load); exact rfl; (focus (decide +kernel)); exact rfl; (focus (exact Rd.new rfl rfl))) | ((with_reducible apply Step.loadL (n := 4)); exact rfl; (focus (decide +kernel)); (focus (decide +kernel)); exact rfl; (focus (exact RdL.old _ (by assumption))); exact rfl; exact rfl) | ((with_reducible apply Step.ix (s := 4)); exact rfl; (focus (assumption)); exact rfl; (focus (decide +kernel)); exact rfl; (focus (omega))) | ((with_reducible apply Step.field0); exact rfl; (focus (decide +kernel)); exact rfl) | ((with_reducible apply Step.field (k := 1)); exact rfl; (focus (decide +kernel)); exact rfl) | ((with_reducible apply Step.field (k := 2)); exact rfl; (focus (decide +kernel)); exact rfl) | ((with_reducible apply Step.field (k := 3)); exact rfl; (focus (decide +kernel)); exact rfl) | ((with_reducible apply Step.add); exact rfl; exact rfl; (focus (omega)); exact rfl) | ((with_reducible apply Step.sub); exact rfl; exact rfl; (focus (omega)); exact rfl) | ((with_reducible apply Step.lss); exact rfl; exact rfl; exact rfl) | ((with_reducible apply Step.eql); exact rfl; exact rfl; exact rfl) | ((with_reducible apply Step.pickT); exact rfl; exact rfl; exact rfl; exact rfl; (focus ((simp only [decide_eq_true_eq, decide_eq_false_iff_not, Bool.not_eq_true', Bool.not_eq_false', Bool.not_true, Bool.not_false]; first | assumption | omega)))) | ((with_reducible apply Step.alloc 0); exact rfl; exact ze61; exact rfl; (focus (first | (simp only [List.nil_append, List.cons_append, List.set_cons_zero, List.set_cons_succ, iv_set, bv_set, iv_rep, bv_rep]; done) | (simp only [List.nil_append, List.cons_append, List.set_cons_zero, List.set_cons_succ, iv_set, bv_set, iv_rep, bv_rep]; rfl) | rfl))) | ((with_reducible apply Step.storeA (k := 0) (n := 4)); exact rfl; exact rfl; exact rfl; exact rfl; (focus (decide +kernel)); exact rfl; (focus (kernel_rfl)); exact rfl; (focus (first | (simp only [List.nil_append, List.cons_append, List.set_cons_zero, List.set_cons_succ, iv_set, bv_set, iv_rep, bv_rep]; done) | (simp only [List.nil_append, List.cons_append, List.set_cons_zero, List.set_cons_succ, iv_set, bv_set, iv_rep, bv_rep]; rfl) | rfl)))) | (with_reducible refine AWo.nil ?_) | ((with_reducible apply AW.seq)) | ((with_reducible apply Then.n)) | ((with_reducible apply AW.regL)) | ((with_reducible apply AW.block)) | ((with_reducible apply InBlk.n)) | ((with_reducible apply AW.skip)) | ((with_reducible apply AW.condT); exact rfl; (focus ((simp only [decide_eq_true_eq, decide_eq_false_iff_not, Bool.not_eq_true', Bool.not_eq_false', Bool.not_true, Bool.not_false]; first | assumption | omega))))))
                exact ⟨_, _, _, by omega, (Back.trim rfl rfl (by repeat (exact CellsOk.nil)) (by repeat (first | exact trivial | (refine And.intro ⟨rfl, by (first | exact .int _ _ | exact .ptr _ _ (by first | (simp; done) | omega | (simp; omega)) | exact Ren.of_sl (by assumption) (by first | omega | (simp; omega)))⟩ ?_)))), j + 1, _, rfl, by omega, by rw [hstep]; omega, rfl, rfl⟩
              · rw [if_pos ⟨d1, d2⟩, if_neg (fun e => d3 e.2)] at hstep
                (repeat (first | (with_reducible refine AWo.cons ?_) | ((with_reducible refine Step.id ?_); first | ((with_reducible apply Step.gdT); exact rfl; exact rfl; (focus ((simp only [decide_eq_true_eq, decide_eq_false_iff_not, Bool.not_eq_true', Bool.not_eq_false', Bool.not_true, Bool.not_false]; first | assumption | omega)))) | ((with_reducible apply Step.move); exact rfl; exact rfl) | ((with_reducible apply Step.assign); exact rfl; exact rfl) | ((with_reducible apply Step.load); exact rfl; (focus (decide +kernel)); exact rfl; (focus (exact Rd.new rfl rfl))) | ((with_reducible apply Step.loadL (n := 4)); exact rfl; (focus (decide +kernel)); (focus (decide +kernel)); exact rfl; (focus (exact RdL.old _ (by assumption))); exact rfl; exact rfl) | ((with_reducible apply Step.ix (s := 4)); exact rfl; (focus (assumption)); exact rfl; (focus (decide +kernel)); exact rfl; (focus (omega))) | ((with_reducible apply Step.field0); exact rfl; (focus (decide +kernel)); exact rfl) | ((with_reducible apply Step.field (k := 1)); exact rfl; (focus (decide +kernel)); exact rfl) | ((with_reducible apply Step.field (k := 2)); exact rfl; (focus (decide +kernel)); exact rfl) | ((with_reducible apply Step.field (k := 3)); exact rfl; (focus (decide +kernel)); exact rfl) | ((with_reducible apply Step.add); exact rfl; exact rfl; (focus (omega)); exact rfl) | ((with_reducible apply Step.lss); exact rfl; exact rfl; exact rfl) | ((with_reducible apply Step.eql); exact rfl; exact rfl; exact rfl) | ((with_reducible apply Step.pickT); exact rfl; exact rfl; exact rfl; exact rfl; (focus ((simp only [decide_eq_true_eq, decide_eq_false_iff_not, Bool.not_eq_true', Bool.not_eq_false', Bool.not_true, Bool.not_false]; first | assumption | omega)))) | ((with_reducible apply Step.alloc 0); exact rfl; exact ze61; exact rfl; (focus (first | (simp only [List.nil_append, List.cons_append, List.set_cons_zero, List.set_cons_succ, iv_set, bv_set, iv_rep, bv_rep]; done) | (simp only [List.nil_append, List.cons_append, List.set_cons_zero, List.set_cons_succ, iv_set, bv_set, iv_rep, bv_rep]; rfl) | rfl))) | ((with_reducible apply Step.storeA (k := 0) (n := 4)); exact rfl; exact rfl; exact rfl; exact rfl; (focus (decide +kernel)); exact rfl; (focus (kernel_rfl)); exact rfl; (focus (first | (simp only [List.nil_append, List.cons_append, List.set_cons_zero, List.set_cons_succ, iv_set, bv_set, iv_rep, bv_rep]; done) | (simp only [List.nil_append, List.cons_append, List.set_cons_zero, List.set_cons_succ, iv_set, bv_set, iv_rep, bv_rep]; rfl) | rfl)))) | (with_reducible refine AWo.nil ?_) | ((with_reducible apply AW.seq)) | ((with_reducible apply Then.n)) | ((with_reducible apply AW.regL)) | ((with_reducible apply AW.block)) | ((with_reducible apply InBlk.n)) | ((with_reducible apply AW.skip)) | ((with_reducible apply AW.condT); exact rfl; (focus ((simp only [decide_eq_true_eq, decide_eq_false_iff_not, Bool.not_eq_true', Bool.not_eq_false', Bool.not_true, Bool.not_false]; first | assumption | omega)))) | ((with_reducible apply AW.condF); exact rfl; (focus ((simp only [decide_eq_true_eq, decide_eq_false_iff_not, Bool.not_eq_true', Bool.not_eq_false', Bool.not_true, Bool.not_false]; first | assumption | omega))))))
                exact ⟨_, _, _, by omega, (Back.trim rfl rfl (by repeat (exact CellsOk.nil)) (by repeat (first | exact trivial | (refine And.intro ⟨rfl, by (first | exact .int _ _ | exact .ptr _ _ (by first | (simp; done) | omega | (simp; omega)) | exact Ren.of_sl (by assumption) (by first | omega | (simp; omega)))⟩ ?_)))), j + 1, _, rfl, by omega, by rw [hstep]; omega, rfl, rfl⟩
            · by_cases d3 : xf = p
              · rw [if_neg (fun e => d2 e.2), if_pos ⟨d1, d3⟩] at hstep
                (repeat (first | (with_reducible refine AWo.cons ?_) | ((with_reducible refine Step.id ?_); first | ((with_reducible apply Step.gdT); exact rfl; exact rfl; (focus ((simp only [decide_eq_true_eq, decide_eq_false_iff_not, Bool.not_eq_true', Bool.not_eq_false', Bool.not_true, Bool.not_false]; first | assumption | omega)))) | ((with_reducible apply Step.move); exact rfl; exact rfl) | ((with_reducible apply Step.assign); exact rfl; exact rfl) | ((with_reducible apply Step.load); exact rfl; (focus (decide +kernel)); exact rfl; (focus (exact Rd.new rfl rfl))) | ((with_reducible apply Step.loadL (n := 4)); exact rfl; (focus (decide +kernel)); (focus (decide +kernel)); exact rfl; (focus (exact RdL.old _ (by assumption))); exact rfl; exact rfl) | ((with_reducible apply Step.ix (s := 4)); exact rfl; (focus (assumption)); exact rfl; (focus (decide +kernel)); exact rfl; (focus (omega))) | ((with_reducible apply Step.field0); exact rfl; (focus (decide +kernel)); exact rfl) | ((with_reducible apply Step.field (k := 1)); exact rfl; (focus (decide +kernel)); exact rfl) | ((with_reducible apply Step.field (k := 2)); exact rfl; (focus (decide +kernel)); exact rfl) | ((with_reducible apply Step.field (k := 3)); exact rfl; (focus (decide +kernel)); exact rfl) | ((with_reducible apply Step.add); exact rfl; exact rfl; (focus (omega)); exact rfl) | ((with_reducible apply Step.sub); exact rfl; exact rfl; (focus (omega)); exact rfl) | ((with_reducible apply Step.lss); exact rfl; exact rfl; exact rfl) | ((with_reducible apply Step.eql); exact rfl; exact rfl; exact rfl) | ((with_reducible apply Step.pickT); exact rfl; exact rfl; exact rfl; exact rfl; (focus ((simp only [decide_eq_true_eq, decide_eq_false_iff_not, Bool.not_eq_true', Bool.not_eq_false', Bool.not_true, Bool.not_false]; first | assumption | omega)))) | ((with_reducible apply Step.alloc 0); exact rfl; exact ze61; exact rfl; (focus (first | (simp only [List.nil_append, List.cons_append, List.set_cons_zero, List.set_cons_succ, iv_set, bv_set, iv_rep, bv_rep]; done) | (simp only [List.nil_append, List.cons_append, List.set_cons_zero, List.set_cons_succ, iv_set, bv_set, iv_rep, bv_rep]; rfl) | rfl))) | ((with_reducible apply Step.storeA (k := 0) (n := 4)); exact rfl; exact rfl; exact rfl; exact rfl; (focus (decide +kernel)); exact rfl; (focus (kernel_rfl)); exact rfl; (focus (first | (simp only [List.nil_append, List.cons_append, List.set_cons_zero, List.set_cons_succ, iv_set, bv_set, iv_rep, bv_rep]; done) | (simp only [List.nil_append, List.cons_append, List.set_cons_zero, List.set_cons_succ, iv_set, bv_set, iv_rep, bv_rep]; rfl) | rfl)))) | (with_reducible refine AWo.nil ?_) | ((with_reducible apply AW.seq)) | ((with_reducible apply Then.n)) | ((with_reducible apply AW.regL)) | ((with_reducible apply AW.block)) | ((with_reducible apply InBlk.n)) | ((with_reducible apply AW.skip)) | ((with_reducible apply AW.condT); exact rfl; (focus ((simp only [decide_eq_true_eq, decide_eq_false_iff_not, Bool.not_eq_true', Bool.not_eq_false', Bool.not_true, Bool.not_false]; first | assumption | omega)))) | ((with_reducible apply AW.condF); exact rfl; (focus ((simp only [decide_eq_true_eq, decide_eq_false_iff_not, Bool.not_eq_true', Bool.not_eq_false', Bool.not_true, Bool.not_false]; first | assumption | omega))))))
                exact ⟨_, _, _, by omega, (Back.trim rfl rfl (by repeat (exact CellsOk.nil)) (by repeat (first | exact trivial | (refine And.intro ⟨rfl, by (first | exact .int _ _ | exact .ptr _ _ (by first | (simp; done) | omega | (simp; omega)) | exact Ren.of_sl (by assumption) (by first | omega | (simp; omega)))⟩ ?_)))), j + 1, _, rfl, by omega, by rw [hstep]; omega, rfl, rfl⟩
              · rw [if_neg (fun e => d2 e.2), if_neg (fun e => d3 e.2)] at hstep
                (repeat (first | (with_reducible refine AWo.cons ?_) | ((with_reducible refine Step.id ?_); first | ((with_reducible apply Step.gdT); exact rfl; exact rfl; (focus ((simp only [decide_eq_true_eq, decide_eq_false_iff_not, Bool.not_eq_true', Bool.not_eq_false', Bool.not_true, Bool.not_false]; first | assumption | omega)))) | ((with_reducible apply Step.move); exact rfl; exact rfl) | ((with_reducible apply Step.load); exact rfl; (focus (decide +kernel)); exact rfl; (focus (exact Rd.new rfl rfl))) | ((with_reducible apply Step.loadL (n := 4)); exact rfl; (focus (decide +kernel)); (focus (decide +kernel)); exact rfl; (focus (exact RdL.old _ (by assumption))); exact rfl; exact rfl) | ((with_reducible apply Step.ix (s := 4)); exact rfl; (focus (assumption)); exact rfl; (focus (decide +kernel)); exact rfl; (focus (omega))) | ((with_reducible apply Step.field0); exact rfl; (focus (decide +kernel)); exact rfl) | ((with_reducible apply Step.field (k := 1)); exact rfl; (focus (decide +kernel)); exact rfl) | ((with_reducible apply Step.field (k := 2)); exact rfl; (focus (decide +kernel)); exact rfl) | ((with_reducible apply Step.add); exact rfl; exact rfl; (focus (omega)); exact rfl) | ((with_reducible apply Step.lss); exact rfl; exact rfl; exact rfl) | ((with_reducible apply Step.eql); exact rfl; exact rfl; exact rfl) | ((with_reducible apply Step.pickT); exact rfl; exact rfl; exact rfl; exact rfl; (focus ((simp only [decide_eq_true_eq, decide_eq_false_iff_not, Bool.not_eq_true', Bool.not_eq_false', Bool.not_true, Bool.not_false]; first | assumption | omega)))) | ((with_reducible apply Step.alloc 0); exact rfl; exact ze61; exact rfl; (focus (first | (simp only [List.nil_append, List.cons_append, List.set_cons_zero, List.set_cons_succ, iv_set, bv_set, iv_rep, bv_rep]; done) | (simp only [List.nil_append, List.cons_append, List.set_cons_zero, List.set_cons_succ, iv_set, bv_set, iv_rep, bv_rep]; rfl) | rfl))) | ((with_reducible apply Step.storeA (k := 0) (n := 4)); exact rfl; exact rfl; exact rfl; exact rfl; (focus (decide +kernel)); exact rfl; (focus (kernel_rfl)); exact rfl; (focus (first | (simp only [List.nil_append, List.cons_append, List.set_cons_zero, List.set_cons_succ, iv_set, bv_set, iv_rep, bv_rep]; done) | (simp only [List.nil_append, List.cons_append, List.set_cons_zero, List.set_cons_succ, iv_set, bv_set, iv_rep, bv_rep]; rfl) | rfl)))) | (with_reducible refine AWo.nil ?_) | ((with_reducible apply AW.seq)) | ((with_reducible apply Then.n)) | ((with_reducible apply AW.regL)) | ((with_reducible apply AW.block)) | ((with_reducible apply InBlk.n)) | ((with_reducible apply AW.skip)) | ((with_reducible apply AW.condT); exact rfl; (focus ((simp only [decide_eq_true_eq, decide_eq_false_iff_not, Bool.not_eq_true', Bool.not_eq_false', Bool.not_true, Bool.not_false]; first | assumption | omega)))) | ((with_reducible apply AW.condF); exact rfl; (focus ((simp only [decide_eq_true_eq, decide_eq_false_iff_not, Bool.not_eq_true', Bool.not_eq_false', Bool.not_true, Bool.not_false]; first | assumption | omega))))))
                exact ⟨_, _, _, by omega, (Back.trim rfl rfl (by repeat (exact CellsOk.nil)) (by repeat (first | exact trivial | (refine And.intro ⟨rfl, by (first | exact .int _ _ | exact .ptr _ _ (by first | (simp; done) | omega | (simp; omega)) | exact Ren.of_sl (by assumption) (by first | omega | (simp; omega)))⟩ ?_)))), j + 1, _, rfl, by omega, by rw [hstep]; omega, rfl, rfl⟩
          · rw [if_neg (fun e => d1 e.1), if_neg (fun e => d1 e.1)] at hstep
            (repeat (first | (with_reducible refine AWo.cons ?_) | ((with_reducible refine Step.id ?_); first | ((with_reducible apply Step.gdF); exact rfl; exact rfl; (focus ((simp only [decide_eq_true_eq, decide_eq_false_iff_not, Bool.not_eq_true', Bool.not_eq_false', Bool.not_true, Bool.not_false]; first | assumption | omega)))) | ((with_reducible apply Step.move); exact rfl; exact rfl) | ((with_reducible apply Step.load); exact rfl; (focus (decide +kernel)); exact rfl; (focus (exact Rd.new rfl rfl))) | ((with_reducible apply Step.loadL (n := 4)); exact rfl; (focus (decide +kernel)); (focus (decide +kernel)); exact rfl; (focus (exact RdL.old _ (by assumption))); exact rfl; exact rfl) | ((with_reducible apply Step.ix (s := 4)); exact rfl; (focus (assumption)); exact rfl; (focus (decide +kernel)); exact rfl; (focus (omega))) | ((with_reducible apply Step.field0); exact rfl; (focus (decide +kernel)); exact rfl) | ((with_reducible apply Step.add); exact rfl; exact rfl; (focus (omega)); exact rfl) | ((with_reducible apply Step.lss); exact rfl; exact rfl; exact rfl) | ((with_reducible apply Step.eql); exact rfl; exact rfl; exact rfl) | ((with_reducible apply Step.pickF); exact rfl; exact rfl; exact rfl; exact rfl; (focus ((simp only [decide_eq_true_eq, decide_eq_false_iff_not, Bool.not_eq_true', Bool.not_eq_false', Bool.not_true, Bool.not_false]; first | assumption | omega)))) | ((with_reducible apply Step.alloc 0); exact rfl; exact ze61; exact rfl; (focus (first | (simp only [List.nil_append, List.cons_append, List.set_cons_zero, List.set_cons_succ, iv_set, bv_set, iv_rep, bv_rep]; done) | (simp only [List.nil_append, List.cons_append, List.set_cons_zero, List.set_cons_succ, iv_set, bv_set, iv_rep, bv_rep]; rfl) | rfl))) | ((with_reducible apply Step.storeA (k := 0) (n := 4)); exact rfl; exact rfl; exact rfl; exact rfl; (focus (decide +kernel)); exact rfl; (focus (kernel_rfl)); exact rfl; (focus (first | (simp only [List.nil_append, List.cons_append, List.set_cons_zero, List.set_cons_succ, iv_set, bv_set, iv_rep, bv_rep]; done) | (simp only [List.nil_append, List.cons_append, List.set_cons_zero, List.set_cons_succ, iv_set, bv_set, iv_rep, bv_rep]; rfl) | rfl)))) | (with_reducible refine AWo.nil ?_) | ((with_reducible apply AW.seq)) | ((with_reducible apply Then.n)) | ((with_reducible apply AW.regL)) | ((with_reducible apply AW.block)) | ((with_reducible apply InBlk.n)) | ((with_reducible apply AW.skip)) | ((with_reducible apply AW.condT); exact rfl; (focus ((simp only [decide_eq_true_eq, decide_eq_false_iff_not, Bool.not_eq_true', Bool.not_eq_false', Bool.not_true, Bool.not_false]; first | assumption | omega)))) | ((with_reducible apply AW.condF); exact rfl; (focus (rfl)))))
            exact ⟨_, _, _, by omega, (Back.trim rfl rfl (by repeat (exact CellsOk.nil)) (by repeat (first | exact trivial | (refine And.intro ⟨rfl, by (first | exact .int _ _ | exact .ptr _ _ (by first | (simp; done) | omega | (simp; omega)) | exact Ren.of_sl (by assumption) (by first | omega | (simp; omega)))⟩ ?_)))), j + 1, _, rfl, by omega, by rw [hstep]; omega, rfl, rfl⟩
        · obtain rfl : j = l.length := by omega
          rw [List.take_length] at hs
          subst hs
          (repeat (first | (with_reducible refine AWo.cons ?_) | ((with_reducible refine Step.id ?_); first | ((with_reducible apply Step.move); exact rfl; exact rfl) | ((with_reducible apply Step.add); exact rfl; exact rfl; (focus (omega)); exact rfl) | ((with_reducible apply Step.lss); exact rfl; exact rfl; exact rfl)) | (with_reducible refine AWo.nil ?_) | ((with_reducible apply AW.seq)) | ((with_reducible apply Then.n)) | ((with_reducible apply AW.regL)) | ((with_reducible apply AW.exit)) | ((with_reducible apply InBlk.n)) | ((with_reducible apply InBlk.hit)) | ((with_reducible apply Then.e)) | ((with_reducible apply AW.condF); exact rfl; (focus ((simp only [decide_eq_true_eq, decide_eq_false_iff_not, Bool.not_eq_true', Bool.not_eq_false', Bool.not_true, Bool.not_false]; first | assumption | omega))))))
          exact ⟨_, [(0, .pointer (some ⟨xk, 0, none⟩)), (1, .int .i64 p), (2, .int .i64 i), (3, .int .i64 (n : Nat)), (11, .int .i64 (S + hsum p i l)), (24, u2), (25, .int .i64 (P.length + 1 : Nat)), (26, .int .i64 (k + 1 : Nat))], by omega, (by repeat (first | exact trivial | (refine And.intro rfl ?_))), k + 1, rfl, by omega, by rw [List.append_nil], by rw [ha]⟩
    · have c2 : k < P.length := by omega
      have ha : accH p i P n more (k + 1) = accH p i P n more k + hsum p i l := by rw [accH_in (by omega) c2, e3, if_pos c2]
      have hbk := hb k
      generalize accH p i P n more k = S at *
      obtain ⟨a3, o3, s1, s2, s3⟩ := id e2
      have hxl : xk < M.length := by rw [hN2, List.length_append]; omega
      clear e1 hel hps hP hmo e3 hb
      (repeat (first | (with_reducible refine AWo.cons ?_) | ((with_reducible refine Step.id ?_); first | ((with_reducible apply Step.gdF); exact rfl; exact rfl; (focus ((simp only [decide_eq_true_eq, decide_eq_false_iff_not, Bool.not_eq_true', Bool.not_eq_false', Bool.not_true, Bool.not_false]; first | assumption | omega)))) | ((with_reducible apply Step.move); exact rfl; exact rfl) | ((with_reducible apply Step.assign); exact rfl; exact rfl) | ((with_reducible apply Step.load); exact rfl; (focus (decide +kernel)); exact rfl; (focus (exact Rd.old _ (by assumption)))) | ((with_reducible apply Step.ix1z); exact rfl; (focus (assumption)); exact rfl; (focus (decide +kernel)); exact rfl; (focus (omega))) | ((with_reducible apply Step.lss); exact rfl; exact rfl; exact rfl) | ((with_reducible apply Step.geq); exact rfl; exact rfl; exact rfl) | ((with_reducible apply Step.len); exact rfl; (focus (assumption)); (focus (decide +kernel)); exact rfl) | ((with_reducible apply Step.pickF); exact rfl; exact rfl; exact rfl; exact rfl; (focus ((simp only [decide_eq_true_eq, decide_eq_false_iff_not, Bool.not_eq_true', Bool.not_eq_false', Bool.not_true, Bool.not_false]; first | assumption | omega))))) | (with_reducible refine AWo.nil ?_) | ((with_reducible apply AW.seq)) | ((with_reducible apply Then.n)) | ((with_reducible apply AW.regL)) | ((with_reducible apply AW.block)) | ((with_reducible apply AW.skip)) | ((with_reducible apply AW.condT); exact rfl; (focus ((simp only [decide_eq_true_eq, decide_eq_false_iff_not, Bool.not_eq_true', Bool.not_eq_false', Bool.not_true, Bool.not_false]; first | assumption | omega)))) | ((with_reducible apply AW.condF); exact rfl; (focus (rfl)))))
      refine AW.loopT (fun q t L => ∃ (j : Nat) (s : Int), q = l.length - j ∧ j ≤ l.length ∧ s = S + hsum p i (l.take j) ∧ L = [] ∧
        t = [(0, .pointer (some ⟨xk, 0, none⟩)), (1, .int .i64 p), (2, .int .i64 i), (3, .int .i64 (n : Nat)), (11, .int .i64 s), (24, u2), (25, .int .i64 (P.length + 1 : Nat)), (26, .int .i64 (k : Nat)), (43, u), (44, .int .i64 (l.length : Nat)), (45, .int .i64 (j : Nat))]) ⟨_, _, _, (Or.inl ⟨rfl, (by repeat (first | exact trivial | (refine And.intro rfl ?_)))⟩), 0, _, rfl, Nat.zero_le _, by simp [hsum], rfl, rfl⟩ ?_
      rintro q t L ⟨j, s, rfl, hj, hs, rfl, rfl⟩
      rcases Nat.lt_or_ge j l.length with hlt' | hge'
      · have hr := s3 j hlt'
        have ts := take_snocT l j hlt'
        have hmem : l.getD j default ∈ l := by rw [List.getD_eq_getElem?_getD, List.getElem?_eq_getElem hlt']; exact List.getElem_mem hlt'
        have hx := e4 _ hmem
        have hsb := hsum_bd p i (l.take j) fun y hy => e4 y (List.mem_of_mem_take hy)
        rw [List.length_take, Nat.min_eq_left hj] at hsb
        have hstep : S + hsum p i (l.take (j + 1)) = s + dl p i (l.getD j default) := by rw [ts, hsum_app, hsum_one, hs]; omega
        have hsr : -3000000000000000 ≤ s ∧ s ≤ 3000000000000000 := by omega
        generalize l.getD j default = x at hr hx hstep
        obtain ⟨xi, xf, xt, xn⟩ := x
        simp only [Tr.c] at hr
        simp only at hx
        simp only [dl] at hstep
        clear hsb hs hmem ts
        by_cases d1 : xi = i
        · by_cases d2 : xt = p
          · by_cases d3 : xf = p
            · rw [if_pos ⟨d1, d2⟩, if_pos ⟨d1, d3⟩] at hstep
              (repeat (first | (with_reducible refine AWo.cons ?_) | ((with_reducible refine Step.id ?_); first | ((with_reducible apply Step.gdT); exact rfl; exact rfl; (focus ((simp only [decide_eq_true_eq, decide_eq_false_iff_not, Bool.not_eq_true', Bool.not_eq_false', Bool.not_true, Bool.not_false]; first | assumption | omega)))) | ((with_reducible apply Step.move); exact rfl; exact rfl) | ((with_reducible apply Step.assign); exact rfl; exact rfl) | ((with_reducible apply Step.load); exact rfl; (focus (decide +kernel)); exact rfl; (focus (exact Rd.new rfl rfl))) | ((with_reducible apply Step.loadL (n := 4)); exact rfl; (focus (decide +kernel)); (focus (decide +kernel)); exact rfl; (focus (exact RdL.old _ (by assumption))); exact rfl; exact rfl) | ((with_reducible apply Step.ix (s := 4)); exact rfl; (focus (assumption)); exact rfl; (focus (decide +kernel)); exact rfl; (focus (omega))) | ((with_reducible apply Step.field0); exact rfl; (focus (decide +kernel)); exact rfl) | ((with_reducible apply Step.field (k := 1)); exact rfl; (focus (decide +kernel)); exact rfl) | ((with_reducible apply Step.field (k := 2)); exact rfl; (focus (decide +kernel)); exact rfl) | ((with_reducible apply Step.field (k := 3)); exact rfl; (focus (decide +kernel)); exact rfl) | ((with_reducible apply Step.add); exact rfl; exact rfl; (focus (omega)); exact rfl) | ((with_reducible apply Step.sub); exact rfl; exact rfl; (focus (omega)); exact rfl) | ((with_reducible apply Step.lss); exact rfl; exact rfl; exact rfl) | ((with_reducible apply Step.eql); exact rfl; exact rfl; exact rfl) | ((with_reducible apply Step.pickT); exact rfl; exact rfl; exact rfl; exact rfl; (focus ((simp only [decide_eq_true_eq, decide_eq_false_iff_not, Bool.not_eq_true', Bool.not_eq_false', Bool.not_true, Bool.not_false]; first | assumption | omega)))) | ((with_reducible apply Step.alloc 0); exact rfl; exact ze61; exact rfl; (focus (first | (simp only [List.nil_append, List.cons_append, List.set_cons_zero, List.set_cons_succ, iv_set, bv_set, iv_rep, bv_rep]; done) | (simp only [List.nil_append, List.cons_append, List.set_cons_zero, List.set_cons_succ, iv_set, bv_set, iv_rep, bv_rep]; rfl) | rfl))) | ((with_reducible apply Step.storeA (k := 0) (n := 4)); exact rfl; exact rfl; exact rfl; exact rfl; (focus (decide +kernel)); exact rfl; (focus (kernel_rfl)); exact rfl; (focus (first | (simp only [List.nil_append, List.cons_append, List.set_cons_zero, List.set_cons_succ, iv_set, bv_set, iv_rep, bv_rep]; done) | (simp only [List.nil_append, List.cons_append, List.set_cons_zero, List.set_cons_succ, iv_set, bv_set, iv_rep, bv_rep]; rfl) | rfl)))) | (with_reducible refine AWo.nil ?_) | ((with_reducible apply AW.seq)) | ((with_reducible apply Then.n)) | ((with_reducible apply AW.regL)) | ((with_reducible apply AW.block)) | ((with_reducible apply InBlk.n)) | ((with_reducible apply AW.skip)) | ((with_reducible apply AW.condT); exact rfl; (focus ((simp only [decide_eq_true_eq, decide_eq_false_iff_not, Bool.not_eq_true', Bool.not_eq_false', Bool.not_true, Bool.not_false]; first | assumption | omega))))))
              exact ⟨_, _, _, by omega, (Back.trim rfl rfl (by repeat (exact CellsOk.nil)) (by repeat (first | exact trivial | (refine And.intro ⟨rfl, by (first | exact .int _ _ | exact .ptr _ _ (by first | (simp; done) | omega | (simp; omega)) | exact Ren.of_sl (by assumption) (by first | omega | (simp; omega)))⟩ ?_)))), j + 1, _, rfl, by omega, by rw [hstep]; omega, rfl, rfl⟩
            · rw [if_pos ⟨d1, d2⟩, if_neg (fun e => d3 e.2)] at hstep
              (repeat (first | (with_reducible refine AWo.cons ?_) | ((with_reducible refine Step.id ?_); first | ((with_reducible apply Step.gdT); exact rfl; exact rfl; (focus ((simp only [decide_eq_true_eq, decide_eq_false_iff_not, Bool.not_eq_true', Bool.not_eq_false', Bool.not_true, Bool.not_false]; first | assumption | omega)))) | ((with_reducible apply Step.move); exact rfl; exact rfl) | ((with_reducible apply Step.assign); exact rfl; exact rfl) | ((with_reducible apply Step.load); exact rfl; (focus (decide +kernel)); exact rfl; (focus (exact Rd.new rfl rfl))) | ((with_reducible apply Step.loadL (n := 4)); exact rfl; (focus (decide +kernel)); (focus (decide +kernel)); exact rfl; (focus (exact RdL.old _ (by assumption))); exact rfl; exact rfl) | ((with_reducible apply Step.ix (s := 4)); exact rfl; (focus (assumption)); exact rfl; (focus (decide +kernel)); exact rfl; (focus (omega))) | ((with_reducible apply Step.field0); exact rfl; (focus (decide +kernel)); exact rfl) | ((with_reducible apply Step.field (k := 1)); exact rfl; (focus (decide +kernel)); exact rfl) | ((with_reducible apply Step.field (k := 2)); exact rfl; (focus (decide +kernel)); exact rfl) | ((with_reducible apply Step.field (k := 3)); exact rfl; (focus (decide +kernel)); exact rfl) | ((with_reducible apply Step.add); exact rfl; exact rfl; (focus (omega)); exact rfl) | ((with_reducible apply Step.lss); exact rfl; exact rfl; exact rfl) | ((with_reducible apply Step.eql); exact rfl; exact rfl; exact rfl) | ((with_reducible apply Step.pickT); exact rfl; exact rfl; exact rfl; exact rfl; (focus ((simp only [decide_eq_true_eq, decide_eq_false_iff_not, Bool.not_eq_true', Bool.not_eq_false', Bool.not_true, Bool.not_false]; first | assumption | omega)))) | ((with_reducible apply Step.alloc 0); exact rfl; exact ze61; exact rfl; (focus (first | (simp only [List.nil_append, List.cons_append, List.set_cons_zero, List.set_cons_succ, iv_set, bv_set, iv_rep, bv_rep]; done) | (simp only [List.nil_append, List.cons_append, List.set_cons_zero, List.set_cons_succ, iv_set, bv_set, iv_rep, bv_rep]; rfl) | rfl))) | ((with_reducible apply Step.storeA (k := 0) (n := 4)); exact rfl; exact rfl; exact rfl; exact rfl; (focus (decide +kernel)); exact rfl; (focus (kernel_rfl)); exact rfl; (focus (first | (simp only [List.nil_append, List.cons_append, List.set_cons_zero, List.set_cons_succ, iv_set, bv_set, iv_rep, bv_rep]; done) | (simp only [List.nil_append, List.cons_append, List.set_cons_zero, List.set_cons_succ, iv_set, bv_set, iv_rep, bv_rep]; rfl) | rfl)))) | (with_reducible refine AWo.nil ?_) | ((with_reducible apply AW.seq)) | ((with_reducible apply Then.n)) | ((with_reducible apply AW.regL)) | ((with_reducible apply AW.block)) | ((with_reducible apply InBlk.n)) | ((with_reducible apply AW.skip)) | ((with_reducible apply AW.condT); exact rfl; (focus ((simp only [decide_eq_true_eq, decide_eq_false_iff_not, Bool.not_eq_true', Bool.not_eq_false', Bool.not_true, Bool.not_false]; first | assumption | omega)))) | ((with_reducible apply AW.condF); exact rfl; (focus ((simp only [decide_eq_true_eq, decide_eq_false_iff_not, Bool.not_eq_true', Bool.not_eq_false', Bool.not_true, Bool.not_false]; first | assumption | omega))))))
              exact ⟨_, _, _, by omega, (Back.trim rfl rfl (by repeat (exact CellsOk.nil)) (by repeat (first | exact trivial | (refine And.intro ⟨rfl, by (first | exact .int _ _ | exact .ptr _ _ (by first | (simp; done) | omega | (simp; omega)) | exact Ren.of_sl (by assumption) (by first | omega | (simp; omega)))⟩ ?_)))), j + 1, _, rfl, by omega, by rw [hstep]; omega, rfl, rfl⟩
          · by_cases d3 : xf = p
            · rw [if_neg (fun e => d2 e.2), if_pos ⟨d1, d3⟩] at hstep
              (repeat (first | (with_reducible refine AWo.cons ?_) | ((with_reducible refine Step.id ?_); first | ((with_reducible apply Step.gdT); exact rfl; exact rfl; (focus ((simp only [decide_eq_true_eq, decide_eq_false_iff_not, Bool.not_eq_true', Bool.not_eq_false', Bool.not_true, Bool.not_false]; first | assumption | omega)))) | ((with_reducible apply Step.move); exact rfl; exact rfl) | ((with_reducible apply Step.assign); exact rfl; exact rfl) | ((with_reducible apply Step.load); exact rfl; (focus (decide +kernel)); exact rfl; (focus (exact Rd.new rfl rfl))) | ((with_reducible apply Step.loadL (n := 4)); exact rfl; (focus (decide +kernel)); (focus (decide +kernel)); exact rfl; (focus (exact RdL.old _ (by assumption))); exact rfl; exact rfl) | ((with_reducible apply Step.ix (s := 4)); exact rfl; (focus (assumption)); exact rfl; (focus (decide +kernel)); exact rfl; (focus (omega))) | ((with_reducible apply Step.field0); exact rfl; (focus (decide +kernel)); exact rfl) | ((with_reducible apply Step.field (k := 1)); exact rfl; (focus (decide +kernel)); exact rfl) | ((with_reducible apply Step.field (k := 2)); exact rfl; (focus (decide +kernel)); exact rfl) | ((with_reducible apply Step.field (k := 3)); exact rfl; (focus (decide +kernel)); exact rfl) | ((with_reducible apply Step.add); exact rfl; exact rfl; (focus (omega)); exact rfl) | ((with_reducible apply Step.sub); exact rfl; exact rfl; (focus (omega)); exact rfl) | ((with_reducible apply Step.lss); exact rfl; exact rfl; exact rfl) | ((with_reducible apply Step.eql); exact rfl; exact rfl; exact rfl) | ((with_reducible apply Step.pickT); exact rfl; exact rfl; exact rfl; exact rfl; (focus ((simp only [decide_eq_true_eq, decide_eq_false_iff_not, Bool.not_eq_true', Bool.not_eq_false', Bool.not_true, Bool.not_false]; first | assumption | omega)))) | ((with_reducible apply Step.alloc 0); exact rfl; exact ze61; exact rfl; (focus (first | (simp only [List.nil_append, List.cons_append, List.set_cons_zero, List.set_cons_succ, iv_set, bv_set, iv_rep, bv_rep]; done) | (simp only [List.nil_append, List.cons_append, List.set_cons_zero, List.set_cons_succ, iv_set, bv_set, iv_rep, bv_rep]; rfl) | rfl))) | ((with_reducible apply Step.storeA (k := 0) (n := 4)); exact rfl; exact rfl; exact rfl; exact rfl; (focus (decide +kernel)); exact rfl; (focus (kernel_rfl)); exact rfl; (focus (first | (simp only [List.nil_append, List.cons_append, List.set_cons_zero, List.set_cons_succ, iv_set, bv_set, iv_rep, bv_rep]; done) | (simp only [List.nil_append, List.cons_append, List.set_cons_zero, List.set_cons_succ, iv_set, bv_set, iv_rep, bv_rep]; rfl) | rfl)))) | (with_reducible refine AWo.nil ?_) | ((with_reducible apply AW.seq)) | ((with_reducible apply Then.n)) | ((with_reducible apply AW.regL)) | ((with_reducible apply AW.block)) | ((with_reducible apply InBlk.n)) | ((with_reducible apply AW.skip)) | ((with_reducible apply AW.condT); exact rfl; (focus ((simp only [decide_eq_true_eq, decide_eq_false_iff_not, Bool.not_eq_true', Bool.not_eq_false', Bool.not_true, Bool.not_false]; first | assumption | omega)))) | ((with_reducible apply AW.condF); exact rfl; (focus ((simp only [decide_eq_true_eq, decide_eq_false_iff_not, Bool.not_eq_true', Bool.not_eq_false', Bool.not_true, Bool.not_false]; first | assumption | omega))))))
              exact ⟨_, _, _, by omega, (Back.trim rfl rfl (by repeat (exact CellsOk.nil)) (by repeat (first | exact trivial | (refine And.intro ⟨rfl, by (first | exact .int _ _ | exact .ptr _ _ (by first | (simp; done) | omega | (simp; omega)) | exact Ren.of_sl (by assumption) (by first | omega | (simp; omega)))⟩ ?_)))), j + 1, _, rfl, by omega, by rw [hstep]; omega, rfl, rfl⟩
            · rw [if_neg (fun e => d2 e.2), if_neg (fun e => d3 e.2)] at hstep
              (repeat (first | (with_reducible refine AWo.cons ?_) | ((with_reducible refine Step.id ?_); first | ((with_reducible apply Step.gdT); exact rfl; exact rfl; (focus ((simp only [decide_eq_true_eq, decide_eq_false_iff_not, Bool.not_eq_true', Bool.not_eq_false', Bool.not_true, Bool.not_false]; first | assumption | omega)))) | ((with_reducible apply Step.move); exact rfl; exact rfl) | ((with_reducible apply Step.load); exact rfl; (focus (decide +kernel)); exact rfl; (focus (exact Rd.new rfl rfl))) | ((with_reducible apply Step.loadL (n := 4)); exact rfl; (focus (decide +kernel)); (focus (decide +kernel)); exact rfl; (focus (exact RdL.old _ (by assumption))); exact rfl; exact rfl) | ((with_reducible apply Step.ix (s := 4)); exact rfl; (focus (assumption)); exact rfl; (focus (decide +kernel)); exact rfl; (focus (omega))) | ((with_reducible apply Step.field0); exact rfl; (focus (decide +kernel)); exact rfl) | ((with_reducible apply Step.field (k := 1)); exact rfl; (focus (decide +kernel)); exact rfl) | ((with_reducible apply Step.field (k := 2)); exact rfl; (focus (decide +kernel)); exact rfl) | ((with_reducible apply Step.add); exact rfl; exact rfl; (focus (omega)); exact rfl) | ((with_reducible apply Step.lss); exact rfl; exact rfl; exact rfl) | ((with_reducible apply Step.eql); exact rfl; exact rfl; exact rfl) | ((with_reducible apply Step.pickT); exact rfl; exact rfl; exact rfl; exact rfl; (focus ((simp only [decide_eq_true_eq, decide_eq_false_iff_not, Bool.not_eq_true', Bool.not_eq_false', Bool.not_true, Bool.not_false]; first | assumption | omega)))) | ((with_reducible apply Step.alloc 0); exact rfl; exact ze61; exact rfl; (focus (first | (simp only [List.nil_append, List.cons_append, List.set_cons_zero, List.set_cons_succ, iv_set, bv_set, iv_rep, bv_rep]; done) | (simp only [List.nil_append, List.cons_append, List.set_cons_zero, List.set_cons_succ, iv_set, bv_set, iv_rep, bv_rep]; rfl) | rfl))) | ((with_reducible apply Step.storeA (k := 0) (n := 4)); exact rfl; exact rfl; exact rfl; exact rfl; (focus (decide +kernel)); exact rfl; (focus (kernel_rfl)); exact rfl; (focus (first | (simp only [List.nil_append, List.cons_append, List.set_cons_zero, List.set_cons_succ, iv_set, bv_set, iv_rep, bv_rep]; done) | (simp only [List.nil_append, List.cons_append, List.set_cons_zero, List.set_cons_succ, iv_set, bv_set, iv_rep, bv_rep]; rfl) | rfl)))) | (with_reducible refine AWo.nil ?_) | ((with_reducible apply AW.seq)) | ((with_reducible apply Then.n)) | ((with_reducible apply AW.regL)) | ((with_reducible apply AW.block)) | ((with_reducible apply InBlk.n)) | ((with_reducible apply AW.skip)) | ((with_reducible apply AW.condT); exact rfl; (focus ((simp only [decide_eq_true_eq, decide_eq_false_iff_not, Bool.not_eq_true', Bool.not_eq_false', Bool.not_true, Bool.not_false]; first | assumption | omega)))) | ((with_reducible apply AW.condF); exact rfl; (focus ((simp only [decide_eq_true_eq, decide_eq_false_iff_not, Bool.not_eq_true', Bool.not_eq_false', Bool.not_true, Bool.not_false]; first | assumption | omega))))))
              exact ⟨_, _, _, by omega, (Back.trim rfl rfl (by repeat (exact CellsOk.nil)) (by repeat (first | exact trivial | (refine And.intro ⟨rfl, by (first | exact .int _ _ | exact .ptr _ _ (by first | (simp; done) | omega | (simp; omega)) | exact Ren.of_sl (by assumption) (by first | omega | (simp; omega)))⟩ ?_)))), j + 1, _, rfl, by omega, by rw [hstep]; omega, rfl, rfl⟩
        · rw [if_neg (fun e => d1 e.1), if_neg (fun e => d1 e.1)] at hstep
          (repeat (first | (with_reducible refine AWo.cons ?_) | ((with_reducible refine Step.id ?_); first | ((with_reducible apply Step.gdF); exact rfl; exact rfl; (focus ((simp only [decide_eq_true_eq, decide_eq_false_iff_not, Bool.not_eq_true', Bool.not_eq_false', Bool.not_true, Bool.not_false]; first | assumption | omega)))) | ((with_reducible apply Step.move); exact rfl; exact rfl) | ((with_reducible apply Step.load); exact rfl; (focus (decide +kernel)); exact rfl; (focus (exact Rd.new rfl rfl))) | ((with_reducible apply Step.loadL (n := 4)); exact rfl; (focus (decide +kernel)); (focus (decide +kernel)); exact rfl; (focus (exact RdL.old _ (by assumption))); exact rfl; exact rfl) | ((with_reducible apply Step.ix (s := 4)); exact rfl; (focus (assumption)); exact rfl; (focus (decide +kernel)); exact rfl; (focus (omega))) | ((with_reducible apply Step.field0); exact rfl; (focus (decide +kernel)); exact rfl) | ((with_reducible apply Step.add); exact rfl; exact rfl; (focus (omega)); exact rfl) | ((with_reducible apply Step.lss); exact rfl; exact rfl; exact rfl) | ((with_reducible apply Step.eql); exact rfl; exact rfl; exact rfl) | ((with_reducible apply Step.pickF); exact rfl; exact rfl; exact rfl; exact rfl; (focus ((simp only [decide_eq_true_eq, decide_eq_false_iff_not, Bool.not_eq_true', Bool.not_eq_false', Bool.not_true, Bool.not_false]; first | assumption | omega)))) | ((with_reducible apply Step.alloc 0); exact rfl; exact ze61; exact rfl; (focus (first | (simp only [List.nil_append, List.cons_append, List.set_cons_zero, List.set_cons_succ, iv_set, bv_set, iv_rep, bv_rep]; done) | (simp only [List.nil_append, List.cons_append, List.set_cons_zero, List.set_cons_succ, iv_set, bv_set, iv_rep, bv_rep]; rfl) | rfl))) | ((with_reducible apply Step.storeA (k := 0) (n := 4)); exact rfl; exact rfl; exact rfl; exact rfl; (focus (decide +kernel)); exact rfl; (focus (kernel_rfl)); exact rfl; (focus (first | (simp only [List.nil_append, List.cons_append, List.set_cons_zero, List.set_cons_succ, iv_set, bv_set, iv_rep, bv_rep]; done) | (simp only [List.nil_append, List.cons_append, List.set_cons_zero, List.set_cons_succ, iv_set, bv_set, iv_rep, bv_rep]; rfl) | rfl)))) | (with_reducible refine AWo.nil ?_) | ((with_reducible apply AW.seq)) | ((with_reducible apply Then.n)) | ((with_reducible apply AW.regL)) | ((with_reducible apply AW.block)) | ((with_reducible apply InBlk.n)) | ((with_reducible apply AW.skip)) | ((with_reducible apply AW.condT); exact rfl; (focus ((simp only [decide_eq_true_eq, decide_eq_false_iff_not, Bool.not_eq_true', Bool.not_eq_false', Bool.not_true, Bool.not_false]; first | assumption | omega)))) | ((with_reducible apply AW.condF); exact rfl; (focus (rfl)))))
          exact ⟨_, _, _, by omega, (Back.trim rfl rfl (by repeat (exact CellsOk.nil)) (by repeat (first | exact trivial | (refine And.intro ⟨rfl, by (first | exact .int _ _ | exact .ptr _ _ (by first | (simp; done) | omega | (simp; omega)) | exact Ren.of_sl (by assumption) (by first | omega | (simp; omega)))⟩ ?_)))), j + 1, _, rfl, by omega, by rw [hstep]; omega, rfl, rfl⟩
      · obtain rfl : j = l.length := by omega
        rw [List.take_length] at hs
        subst hs
        (repeat (first | (with_reducible refine AWo.cons ?_) | ((with_reducible refine Step.id ?_); first | ((with_reducible apply Step.move); exact rfl; exact rfl) | ((with_reducible apply Step.add); exact rfl; exact rfl; (focus (omega)); exact rfl) | ((with_reducible apply Step.lss); exact rfl; exact rfl; exact rfl)) | (with_reducible refine AWo.nil ?_) | ((with_reducible apply AW.seq)) | ((with_reducible apply Then.n)) | ((with_reducible apply AW.regL)) | ((with_reducible apply AW.exit)) | ((with_reducible apply InBlk.n)) | ((with_reducible apply InBlk.hit)) | ((with_reducible apply Then.e)) | ((with_reducible apply AW.condF); exact rfl; (focus ((simp only [decide_eq_true_eq, decide_eq_false_iff_not, Bool.not_eq_true', Bool.not_eq_false', Bool.not_true, Bool.not_false]; first | assumption | omega))))))
        exact ⟨_, [(0, .pointer (some ⟨xk, 0, none⟩)), (1, .int .i64 p), (2, .int .i64 i), (3, .int .i64 (n : Nat)), (11, .int .i64 (S + hsum p i l)), (24, u2), (25, .int .i64 (P.length + 1 : Nat)), (26, .int .i64 (k + 1 : Nat))], by omega, (by repeat (first | exact trivial | (refine And.intro rfl ?_))), k + 1, rfl, by omega, by rw [List.append_nil], by rw [ha]⟩
  · obtain rfl : k = P.length + 1 := by omega
    (repeat (first | (with_reducible refine AWo.cons ?_) | ((with_reducible refine Step.id ?_); first | ((with_reducible apply Step.move); exact rfl; exact rfl) | ((with_reducible apply Step.assign); exact rfl; exact rfl) | ((with_reducible apply Step.lss); exact rfl; exact rfl; exact rfl)) | (with_reducible refine AWo.nil ?_) | ((with_reducible apply AW.seq)) | ((with_reducible apply Then.n)) | ((with_reducible apply AW.regL)) | ((with_reducible apply AW.exit)) | ((with_reducible apply InBlk.hit)) | ((with_reducible apply Then.e)) | ((with_reducible apply AW.condF); exact rfl; (focus ((simp only [decide_eq_true_eq, decide_eq_false_iff_not, Bool.not_eq_true', Bool.not_eq_false', Bool.not_true, Bool.not_false]; first | assumption | omega))))))
    (refine AW.ret ?_; (repeat (first | refine Then.r ?_ | refine InBlk.r ?_)))
    exact ⟨_, rfl, by rw [hE], N2, by rw [List.append_nil]; exact hN2⟩
end Go.Proofs.Ytabdnepfcohncaa.Abs
namespace Go.Proofs.Ytabdnepfcohncaa.Abs
set_option linter.unusedSimpArgs false
set_option linter.unusedVariables false
open Go.RowKit
open Go.Proofs.Ytabdnepfcohncaa.Sim
open Go.Proofs
def shAt (P : List (List Tr)) (l : List Tr) (i p : Int) : Bool := !decide (p = 0) && decide (hsum p i (P.flatten ++ l) < 0)
def faAt (P : List (List Tr)) (l : List Tr) (i p : Int) : Bool := decide (1000000000 < hsum p i (P.flatten ++ l)) || decide (hsum p i (P.flatten ++ l) < -1000000000)
def shL (P : List (List Tr)) (l q : List Tr) : Bool := q.any fun x => [x.f, x.t].any (shAt P l x.i)
def faL (P : List (List Tr)) (l q : List Tr) : Bool := q.any fun x => [x.f, x.t].any (faAt P l x.i)
/-- The reference's Post: the posts behind it, the number, the error. -/
def rpostF (P : List (List Tr)) (l : List Tr) : List (List Tr) × Int × Int :=
  if postB l = false then (P, 0, 2)
  else if shL P l l = true then (P, 0, 11)
  else if faL P l l = true then (P, 0, 5)
  else (P ++ [l], (P.length + 1 : Nat), 0)
theorem un145 : Try.prog.underlying 145 = some (.array 2 3) := by kernel_rfl
theorem bl145 {a b : Int} : abuild Try.prog 145 [(0, .int .i64 a), (1, .int .i64 b)] = some (.agg #[.int .i64 a, .int .i64 b]) := by kernel_rfl
theorem held_full {m : AM} {b0 xk : Nat} {P : List (List Tr)} {pv mv : Value} {p i : Int} {more : List Tr} (h : RBook m b0 xk P pv) (hm : Trs m mv more) (hv : SlV mv) (hP : smallT P.flatten) (hmo : smallT more) (hlen : P.flatten.length + more.length ≤ 1000000000) (hpl : P.length ≤ 1000000000) :
    ACall Try.prog 103 #[.pointer (some ⟨xk, 0, none⟩), .int .i64 p, .int .i64 i, .int .i64 (P.length : Nat), mv] m (Ret (.int .i64 (hsum p i (P.flatten ++ more))) m) := by
  have := held_ok (p := p) (i := i) (n := P.length) h hm hv (Nat.le_refl _) hP hmo hlen hpl
  rwa [List.take_length] at this
theorem Trs.slv {m : AM} {v : Value} {l : List Tr} (h : Trs m v l) (hl : 0 < l.length) : SlV v := by
  obtain ⟨a, o, h1, _⟩ := h
  rcases h1 with ⟨_, e⟩ | ⟨c, _, rfl⟩ | ⟨e, _⟩
  · omega
  · exact .inr ⟨_, _, _, rfl⟩
  · omega
theorem RBook.sep {M : AM} {b0 xk : Nat} {P : List (List Tr)} {pv : Value} (h : RBook M b0 xk P pv) {a : Nat} {x : Int} (hr : Rd M a 0 (.int .i64 x)) : (SlV pv → a ≠ xk) ∧ (0 < P.length → NotOf pv a) := by
  obtain ⟨b, r1, r2⟩ := hr
  constructor
  · rintro hs rfl
    have := h.cells
    rw [r1] at this
    injection this with this; injection this with this; subst this
    have e : some pv = some (Value.int .i64 x) := r2
    injection e with e
    rcases hs with rfl | ⟨_, _, _, rfl⟩ <;> cases e
  · intro hp n c e
    obtain ⟨pc, hrow, hps⟩ := h.posts
    rcases hrow with ⟨_, _, h0⟩ | ⟨a', kd, sz, k1, k2, k3, k4, k5⟩
    · omega
    · rw [k2] at e
      simp only [Value.slice.injEq, Option.some.injEq, Addr.mk.injEq] at e
      obtain ⟨rfl, _⟩ := e.1
      rw [r1] at k3
      injection k3 with k3; injection k3 with k3; subst k3
      obtain ⟨u, q1, a'', _, _, q4, _⟩ := hps 0 hp
      simp only at r2
      rw [r2] at q1
      injection q1 with q1
      rw [q4] at q1
      cases q1
theorem Row.slv {M : AM} {b0 s : Nat} {u : Value} {c : List Value} {n : Nat} (h : Row M b0 s u c n) : SlV u := by
  rcases h with ⟨rfl, _⟩ | ⟨_, _, _, _, rfl, _⟩
  · exact .inl rfl
  · exact .inr ⟨_, _, _, rfl⟩
theorem RBook.slv {M : AM} {b0 xk : Nat} {P : List (List Tr)} {pv : Value} (h : RBook M b0 xk P pv) : SlV pv := by
  obtain ⟨pc, hrow, _⟩ := h.posts
  exact hrow.slv
theorem RBook.notbk {M : AM} {b0 xk : Nat} {P : List (List Tr)} {pv : Value} (h : RBook M b0 xk P pv) : NotOf pv xk := by
  intro n c e
  obtain ⟨pc, hrow, hps⟩ := h.posts
  rcases hrow with ⟨h0, _⟩ | ⟨a', kd, sz, k1, k2, k3, k4, k5⟩
  · rw [e] at h0; cases h0
  · have e' := e
    rw [k2] at e
    simp only [Value.slice.injEq, Option.some.injEq, Addr.mk.injEq] at e
    obtain ⟨rfl, _⟩ := e.1
    rw [h.cells] at k3
    injection k3 with k3; injection k3 with k3
    injection k3 with k3 _ _
    subst k3
    have hp : 0 < P.length := by simp at k4; omega
    obtain ⟨u, q1, a'', _, _, q4, ⟨b, q5, _, q6⟩, q7⟩ := hps 0 hp
    have q1' : some pv = some u := q1
    injection q1' with q1'
    rw [← q1', e'] at q4
    simp only [Value.slice.injEq, Option.some.injEq, Addr.mk.injEq] at q4
    obtain ⟨rfl, _⟩ := q4.1
    rw [h.cells] at q5
    injection q5 with q5; injection q5 with q5; subst q5
    have := q6 0 (.int .i64 ((P.getD 0 []).getD 0 default).i) (by simpa using tcs_get (P.getD 0 []) 0 q7 0 _ rfl)
    have this : some pv = some (Value.int .i64 ((P.getD 0 []).getD 0 default).i) := this
    injection this with this
    rw [e'] at this
    cases this
theorem RBook.push {X M2 M' : AM} {b0 xk : Nat} {P : List (List Tr)} {pv u' : Value} {pc : List Value} {l : List Tr} {a1 sz1 : Nat} {kd1 : Kind} (hB : RBook X b0 xk P pv) (hM : ∃ N, M2 = X ++ N) (hrow : Row X b0 1 pv pc P.length)
    (hps : ∀ k, k < P.length → ∃ u, pc[k]? = some u ∧ PostAt X b0 u (P.getD k [])) (hr : Row M' b0 1 u' (pc ++ [.slice (some ⟨a1, 0, none⟩) l.length l.length]) (P.length + 1)) (hml : M2.length ≤ M'.length) (hk : ∀ j, j < M2.length → NotOf pv j → M'[j]? = M2[j]?)
    (hk2 : ∀ j, j < M2.length → NotOf pv j → NotOf u' j) (e1 : X.length ≤ a1) (e4 : M2[a1]? = some (some { cells := tcs l, kind := kd1, size := sz1 })) (hl0 : 0 < l.length) (hkm : kd1.mine = true) :
    ∃ u, RBook (M'.set xk (some { cells := [u'] })) b0 xk (P ++ [l]) u ∧ X.length ≤ (M'.set xk (some { cells := [u'] })).length ∧ (∀ j, j < X.length → j ≠ xk → NotOf pv j → (M'.set xk (some { cells := [u'] }))[j]? = X[j]?) ∧ (∀ j, j < X.length → NotOf pv j → NotOf u j) := by
  have hnb := hB.notbk
  have hbl := hB.lt
  have hsv := hB.slv
  obtain ⟨N, rfl⟩ := hM
  rw [List.length_append] at hml hk hk2
  have hM'b : M'[xk]? = some (some { cells := [pv] }) := by
    rw [hk xk (by omega) hnb, List.getElem?_append_left hbl]; exact hB.cells
  have hnbu : NotOf u' xk := hk2 xk (by omega) hnb
  have ha1l := (List.getElem?_eq_some_iff.1 e4).1
  rw [List.length_append] at ha1l
  have hM'a : M'[a1]? = some (some { cells := tcs l, kind := kd1, size := sz1 }) := by rw [hk a1 ha1l (hrow.far e1)]; exact e4
  have keepX : ∀ j, j < X.length → j ≠ xk → NotOf pv j → (M'.set xk (some { cells := [u'] }))[j]? = X[j]? := fun j hj hne hn => by
    rw [List.getElem?_set_ne (Ne.symm hne), hk j (by omega) hn, List.getElem?_append_left hj]
  refine ⟨u', ⟨hB.lo, set_hit hM'b, pc ++ [.slice (some ⟨a1, 0, none⟩) l.length l.length], ?_, ?_⟩, by rw [List.length_set]; omega, keepX, fun j hj hn => hk2 j (by omega) hn⟩
  · rw [List.length_append]
    exact hr.set hnbu
  · intro k hkl
    rw [List.length_append, List.length_singleton] at hkl
    have hpcl : pc.length = P.length := by rw [hrow.len, Nat.mul_one]
    rcases Nat.lt_or_ge k P.length with h1 | h1
    · obtain ⟨u, q1, q2⟩ := hps k h1
      refine ⟨u, by rw [List.getElem?_append_left (by omega)]; exact q1, ?_⟩
      have : (P ++ [l]).getD k [] = P.getD k [] := by
        simp only [List.getD_eq_getElem?_getD]; rw [List.getElem?_append_left h1]
      rw [this]
      refine q2.keep (by rw [List.length_set]; omega) fun a ha hrd => ?_
      have hs := hB.sep hrd
      exact keepX a ha (hs.1 hsv) (hs.2 (by omega))
    · obtain rfl : k = P.length := by omega
      refine ⟨.slice (some ⟨a1, 0, none⟩) l.length l.length, by rw [List.getElem?_append_right (by omega), hpcl]; simp, ?_⟩
      have : (P ++ [l]).getD P.length [] = l := by simp
      rw [this]
      have hlo := hB.lo
      refine ⟨a1, by omega, by rw [List.length_set]; omega, rfl, ⟨_, by rw [List.getElem?_set_ne (by omega)]; exact hM'a, hkm, fun j v hj => by simpa using hj⟩, hl0⟩
set_option maxHeartbeats 16000000 in
set_option maxRecDepth 100000 in
theorem RPost_ok {m : AM} {b0 xk : Nat} {P : List (List Tr)} {pv v : Value} {l : List Tr} (h : RBook m b0 xk P pv) (hl : ∀ M, Fr m M xk pv → Trs M v l) (hllen : l.length ≤ 9223372036854775807) (hP : smallT P.flatten) (hlen : P.flatten.length ≤ 100000000) (hpl : P.length ≤ 1000000) :
    ACall Try.prog 44 #[.pointer (some ⟨xk, 0, none⟩), v] m (fun r M => ∃ u, r = .tuple #[.int .i64 (rpostF P l).2.1, .int .i64 (rpostF P l).2.2] ∧ RBook M b0 xk (rpostF P l).1 u ∧ Fr m M xk pv ∧ (∀ j, j < m.length → NotOf pv j → NotOf u j) ∧ ((rpostF P l).2.2 ≠ 0 → M = m ∧ u = pv)) := by
  have hlm := hl m (Fr.refl _ _ _)
  have hpo := fun T b e => Posted_ok (hlm.old T) (by omega) (b := b) e
  obtain ⟨a, o, h1, h2, h3⟩ := id hlm
  have hxl := h.lt
  have rx := fun T => Rd.old T (show Rd m xk 0 pv from ⟨_, h.cells, rfl⟩)
  obtain ⟨pc, hrow, hps⟩ := id h.posts
  obtain ⟨ar, r1, r2, r3⟩ := hrow.sl (by omega)
  refine ACall.start Try.func44 rfl rfl ?_
  cases hp : postB l with
  | false =>
    have e : rpostF P l = (P, 0, 2) := by unfold rpostF; rw [if_pos hp]
    rw [e]
    (repeat (first | (with_reducible refine AWo.cons ?_) | ((with_reducible refine Step.id ?_); first | ((with_reducible apply Step.move); exact rfl; exact rfl) | ((with_reducible apply Step.assign); exact rfl; exact rfl) | ((with_reducible apply Step.not); exact rfl; exact rfl) | ((with_reducible apply Step.callR fit); exact rfl; exact Try.func102; exact rfl; exact rfl; exact (hpo _ _ hp))) | (with_reducible refine AWo.nil ?_) | ((with_reducible apply AW.seq)) | ((with_reducible apply Then.n)) | ((with_reducible apply AW.regL)) | ((with_reducible apply AW.condT); exact rfl; (focus (rfl)))))
    (refine AW.retD (l := [(4, _), (5, _)]) (by repeat (first | exact trivial | (refine And.intro ⟨rfl, by (exact .int _ _)⟩ ?_))) ?_; (repeat (first | refine Then.r ?_ | refine InBlk.r ?_)))
    exact ⟨_, rfl, pv, rfl, h, Fr.refl _ _ _, fun j hj hn => hn, fun _ => ⟨rfl, rfl⟩⟩
  | true =>
    have hp' := hp
    simp only [postB, Bool.and_eq_true, decide_eq_true_eq] at hp'
    obtain ⟨⟨p1, p2⟩, p3⟩ := hp'
    have hsl := ok_small p3
    have hvs := hlm.slv (by omega)
    have hheld := fun T p i => held_full (p := p) (i := i) (h.old T) (hlm.old T) hvs hP hsl (by omega) (by omega)
    (repeat (first | (with_reducible refine AWo.cons ?_) | ((with_reducible refine Step.id ?_); first | ((with_reducible apply Step.move); exact rfl; exact rfl) | ((with_reducible apply Step.assign); exact rfl; exact rfl) | ((with_reducible apply Step.len); exact rfl; (focus (assumption)); (focus (decide +kernel)); exact rfl) | ((with_reducible apply Step.not); exact rfl; exact rfl) | ((with_reducible apply Step.callR fit); exact rfl; exact Try.func102; exact rfl; exact rfl; exact (hpo _ _ hp))) | (with_reducible refine AWo.nil ?_) | ((with_reducible apply AW.seq)) | ((with_reducible apply Then.n)) | ((with_reducible apply AW.regL)) | ((with_reducible apply AW.block)) | ((with_reducible apply AW.skip)) | ((with_reducible apply AW.condF); exact rfl; (focus (rfl)))))
    refine AW.loopT (fun q t L => ∃ k : Nat, q = l.length - k ∧ k ≤ l.length ∧ L = [] ∧
      t = [(0, .pointer (some ⟨xk, 0, none⟩)), (1, v), (6, .bool (shL P l (l.take k))), (7, .bool (faL P l (l.take k))), (16, v), (17, .int .i64 (l.length : Nat)), (18, .int .i64 (k : Nat))]) ⟨_, _, _, (Or.inl ⟨rfl, (by repeat (first | exact trivial | (refine And.intro rfl ?_)))⟩), 0, rfl, Nat.zero_le _, rfl, rfl⟩ ?_
    rintro q t L ⟨k, rfl, hk, rfl, rfl⟩
    rcases Nat.lt_or_ge k l.length with hlt | hge
    · have hr := h3 k hlt
      have ts := take_snocT l k hlt
      have eS : shL P l (l.take (k + 1)) = (shL P l (l.take k) || [(l.getD k default).f, (l.getD k default).t].any (shAt P l (l.getD k default).i)) := by rw [ts]; unfold shL; rw [List.any_append]; simp only [List.any_cons, List.any_nil, Bool.or_false]
      have eF : faL P l (l.take (k + 1)) = (faL P l (l.take k) || [(l.getD k default).f, (l.getD k default).t].any (faAt P l (l.getD k default).i)) := by rw [ts]; unfold faL; rw [List.any_append]; simp only [List.any_cons, List.any_nil, Bool.or_false]
      generalize shL P l (l.take k) = S at *
      generalize faL P l (l.take k) = F at *
      generalize l.getD k default = x at hr eS eF
      obtain ⟨xi, xf, xt, xn⟩ := x
      simp only [Tr.c] at hr
      simp only at eS eF
      (repeat (first | (with_reducible refine AWo.cons ?_) | ((with_reducible refine Step.id ?_); first | ((with_reducible apply Step.move); exact rfl; exact rfl) | ((with_reducible apply Step.load); exact rfl; (focus (decide +kernel)); exact rfl; (focus (exact Rd.new rfl rfl))) | ((with_reducible apply Step.loadL (n := 4)); exact rfl; (focus (decide +kernel)); (focus (decide +kernel)); exact rfl; (focus (exact RdL.old _ (by assumption))); exact rfl; exact rfl) | ((with_reducible apply Step.ix (s := 4)); exact rfl; (focus (assumption)); exact rfl; (focus (decide +kernel)); exact rfl; (focus (omega))) | ((with_reducible apply Step.field (k := 1)); exact rfl; (focus (decide +kernel)); exact rfl) | ((with_reducible apply Step.field (k := 2)); exact rfl; (focus (decide +kernel)); exact rfl) | ((with_reducible apply Step.lss); exact rfl; exact rfl; exact rfl) | ((with_reducible apply Step.alloc 0); exact rfl; exact ze61; exact rfl; (focus (first | (simp only [List.nil_append, List.cons_append, List.set_cons_zero, List.set_cons_succ, iv_set, bv_set, iv_rep, bv_rep]; done) | (simp only [List.nil_append, List.cons_append, List.set_cons_zero, List.set_cons_succ, iv_set, bv_set, iv_rep, bv_rep]; rfl) | rfl))) | ((with_reducible apply Step.storeA (k := 0) (n := 4)); exact rfl; exact rfl; exact rfl; exact rfl; (focus (decide +kernel)); exact rfl; (focus (kernel_rfl)); exact rfl; (focus (first | (simp only [List.nil_append, List.cons_append, List.set_cons_zero, List.set_cons_succ, iv_set, bv_set, iv_rep, bv_rep]; done) | (simp only [List.nil_append, List.cons_append, List.set_cons_zero, List.set_cons_succ, iv_set, bv_set, iv_rep, bv_rep]; rfl) | rfl))) | ((with_reducible apply Step.build); exact rfl; exact bl145; exact rfl)) | (with_reducible refine AWo.nil ?_) | ((with_reducible apply AW.seq)) | ((with_reducible apply Then.n)) | ((with_reducible apply AW.regL)) | ((with_reducible apply AW.block)) | ((with_reducible apply AW.skip)) | ((with_reducible apply AW.condT); exact rfl; (focus ((simp only [decide_eq_true_eq, decide_eq_false_iff_not, Bool.not_eq_true', Bool.not_eq_false', Bool.not_true, Bool.not_false]; first | assumption | omega))))))
      refine AW.loopT (fun q t L => ∃ c : Nat, q = 2 - c ∧ c ≤ 2 ∧ L = [some { cells := [.int .i64 xi, .int .i64 xf, .int .i64 xt, .int .i64 xn] }] ∧
        t = [(0, .pointer (some ⟨xk, 0, none⟩)), (1, v), (6, .bool (S || ([xf, xt].take c).any (shAt P l xi))), (7, .bool (F || ([xf, xt].take c).any (faAt P l xi))), (9, .pointer (some ⟨m.length + 0, 0, none⟩)), (16, v), (17, .int .i64 (l.length : Nat)), (18, .int .i64 (k : Nat)), (26, .agg #[.int .i64 xf, .int .i64 xt]), (27, .int .i64 (c : Nat))])
        ⟨_, [(0, .pointer (some ⟨xk, 0, none⟩)), (1, v), (6, .bool S), (7, .bool F), (9, .pointer (some ⟨m.length + 0, 0, none⟩)), (16, v), (17, .int .i64 (l.length : Nat)), (18, .int .i64 (k : Nat)), (26, .agg #[.int .i64 xf, .int .i64 xt]), (27, .int .i64 (0 : Nat))], _, (Or.inl ⟨rfl, (by repeat (first | exact trivial | (refine And.intro rfl ?_)))⟩), 0, rfl, Nat.zero_le _, rfl, by simp⟩ ?_
      rintro q t L ⟨c, rfl, hc, rfl, rfl⟩
      rcases Nat.lt_or_ge c 2 with hcl | hcg
      · obtain ⟨pl, hpl1, hpl2⟩ : ∃ pl, (#[Value.int .i64 xf, .int .i64 xt] : Array Value)[c]? = some (.int .i64 pl) ∧ [xf, xt].take (c + 1) = [xf, xt].take c ++ [pl] := by
          rcases (show c = 0 ∨ c = 1 by omega) with rfl | rfl
          · exact ⟨xf, rfl, rfl⟩
          · exact ⟨xt, rfl, rfl⟩
        have eS1 : (S || ([xf, xt].take (c + 1)).any (shAt P l xi)) = ((S || ([xf, xt].take c).any (shAt P l xi)) || (!decide (pl = 0) && decide (hsum pl xi (P.flatten ++ l) < 0))) := by
          rw [hpl2, List.any_append, ← Bool.or_assoc]; simp [shAt]
        have eF1 : (F || ([xf, xt].take (c + 1)).any (faAt P l xi)) = ((F || ([xf, xt].take c).any (faAt P l xi)) || (decide (1000000000 < hsum pl xi (P.flatten ++ l)) || decide (hsum pl xi (P.flatten ++ l) < -1000000000))) := by
          rw [hpl2, List.any_append, ← Bool.or_assoc]; simp [faAt]
        have hhd := fun T => hheld T pl xi
        generalize (S || ([xf, xt].take c).any (shAt P l xi)) = S1 at *
        generalize (F || ([xf, xt].take c).any (faAt P l xi)) = F1 at *
        generalize hsum pl xi (P.flatten ++ l) = hq at *
        (repeat (first | (with_reducible refine AWo.cons ?_) | ((with_reducible refine Step.id ?_); first | ((with_reducible apply Step.move); exact rfl; exact rfl) | ((with_reducible apply Step.assign); exact rfl; exact rfl) | ((with_reducible apply Step.load); exact rfl; (focus (decide +kernel)); exact rfl; (focus (first | exact rx _ | exact Rd.new rfl rfl))) | ((with_reducible apply Step.field0); exact rfl; (focus (decide +kernel)); exact rfl) | ((with_reducible apply Step.indexV); exact rfl; exact rfl; exact un145; exact sz3; (focus (decide +kernel)); (focus (omega)); (focus (assumption)); exact rfl) | ((with_reducible apply Step.lss); exact rfl; exact rfl; exact rfl) | ((with_reducible apply Step.len); exact rfl; (focus (assumption)); (focus (decide +kernel)); exact rfl) | ((with_reducible apply Step.nilp); exact rfl; exact rfl) | ((with_reducible apply Step.callR fit); exact rfl; exact Try.func103; exact rfl; exact rfl; exact (hhd _))) | (with_reducible refine AWo.nil ?_) | ((fail_if_success (with_reducible refine AW.atR (id := 11) ?_)); ((with_reducible apply AW.seq))) | ((with_reducible apply Then.n)) | ((with_reducible apply AW.regL)) | ((with_reducible apply AW.block)) | ((with_reducible apply AW.drawL fit); (focus (decide +kernel))) | ((with_reducible apply AW.skip)) | ((with_reducible apply AW.condT); exact rfl; (focus ((simp only [decide_eq_true_eq, decide_eq_false_iff_not, Bool.not_eq_true', Bool.not_eq_false', Bool.not_true, Bool.not_false]; first | assumption | omega))))))
        refine AW.seq ?_
        refine AW.join (fun t' M' => M' = m ++ [some { cells := [.int .i64 xi, .int .i64 xf, .int .i64 xt, .int .i64 xn] }] ∧ All (fun i v => t' i = some v) [(0, .pointer (some ⟨xk, 0, none⟩)), (1, v), (6, .bool (S1 || (!decide (pl = 0) && decide (hq < 0)))), (7, .bool F1), (9, .pointer (some ⟨m.length + 0, 0, none⟩)), (11, .int .i64 pl), (12, .int .i64 hq), (16, v), (17, .int .i64 (l.length : Nat)), (18, .int .i64 (k : Nat)), (26, .agg #[.int .i64 xf, .int .i64 xt]), (27, .int .i64 (c : Nat))]) ?_ ?_
        · cases S1 with
          | true =>
            (repeat (first | (with_reducible refine AWo.cons ?_) | ((with_reducible refine Step.id ?_); first | ((with_reducible apply Step.gdU); exact rfl; exact rfl) | ((with_reducible apply Step.gdF); exact rfl; exact rfl; (focus (rfl))) | ((with_reducible apply Step.move); exact rfl; exact rfl) | ((with_reducible apply Step.assign); exact rfl; exact rfl) | ((with_reducible apply Step.pickT); exact rfl; exact rfl; exact rfl; exact rfl; (focus (rfl)))) | (with_reducible refine AWo.nil ?_) | ((with_reducible apply Then.n)) | ((with_reducible apply AW.regL))))
            exact ⟨rfl, (by repeat (first | exact trivial | (refine And.intro rfl ?_)))⟩
          | false =>
            by_cases c1 : pl = 0
            · rw [decide_eq_true c1]
              (repeat (first | (with_reducible refine AWo.cons ?_) | ((with_reducible refine Step.id ?_); first | ((with_reducible apply Step.gdT); exact rfl; exact rfl; (focus (rfl))) | ((with_reducible apply Step.gdF); exact rfl; exact rfl; (focus ((simp only [decide_eq_true_eq, decide_eq_false_iff_not, Bool.not_eq_true', Bool.not_eq_false', Bool.not_true, Bool.not_false]; first | assumption | omega)))) | ((with_reducible apply Step.move); exact rfl; exact rfl) | ((with_reducible apply Step.assign); exact rfl; exact rfl) | ((with_reducible apply Step.neq); exact rfl; exact rfl; exact rfl) | ((with_reducible apply Step.pickF); exact rfl; exact rfl; exact rfl; exact rfl; (focus (first | rfl | (simp only [decide_eq_true_eq, decide_eq_false_iff_not, Bool.not_eq_true', Bool.not_eq_false', Bool.not_true, Bool.not_false]; first | assumption | omega))))) | (with_reducible refine AWo.nil ?_) | ((with_reducible apply Then.n)) | ((with_reducible apply AW.regL))))
              exact ⟨rfl, (by repeat (first | exact trivial | (refine And.intro rfl ?_)))⟩
            · rw [decide_eq_false c1]
              (repeat (first | (with_reducible refine AWo.cons ?_) | ((with_reducible refine Step.id ?_); first | ((with_reducible apply Step.gdT); exact rfl; exact rfl; (focus (first | rfl | (simp only [decide_eq_true_eq, decide_eq_false_iff_not, Bool.not_eq_true', Bool.not_eq_false', Bool.not_true, Bool.not_false]; first | assumption | omega)))) | ((with_reducible apply Step.move); exact rfl; exact rfl) | ((with_reducible apply Step.assign); exact rfl; exact rfl) | ((with_reducible apply Step.lss); exact rfl; exact rfl; exact rfl) | ((with_reducible apply Step.neq); exact rfl; exact rfl; exact rfl) | ((with_reducible apply Step.pickT); exact rfl; exact rfl; exact rfl; exact rfl; (focus ((simp only [decide_eq_true_eq, decide_eq_false_iff_not, Bool.not_eq_true', Bool.not_eq_false', Bool.not_true, Bool.not_false]; first | assumption | omega)))) | ((with_reducible apply Step.pickF); exact rfl; exact rfl; exact rfl; exact rfl; (focus (rfl)))) | (with_reducible refine AWo.nil ?_) | ((with_reducible apply Then.n)) | ((with_reducible apply AW.regL))))
              exact ⟨rfl, (by repeat (first | exact trivial | (refine And.intro rfl ?_)))⟩
        · rintro t' _ ⟨rfl, hsl'⟩
          refine AW.weak (fr_all hsl') ?_
          clear hsl'
          generalize (S1 || (!decide (pl = 0) && decide (hq < 0))) = S2 at *
          (repeat ((with_reducible refine AWo.cons ?_)))
          refine AW.via [(0, .pointer (some ⟨xk, 0, none⟩)), (1, v), (6, .bool S2), (7, .bool (F1 || (decide (1000000000 < hq) || decide (hq < -1000000000)))), (9, .pointer (some ⟨m.length + 0, 0, none⟩)), (16, v), (17, .int .i64 (l.length : Nat)), (18, .int .i64 (k : Nat)), (26, .agg #[.int .i64 xf, .int .i64 xt]), (27, .int .i64 (c : Nat))] (m ++ [some { cells := [.int .i64 xi, .int .i64 xf, .int .i64 xt, .int .i64 xn] }]) ?_ ?_
          · cases F1 with
            | true =>
              (repeat (first | (with_reducible refine AWo.cons ?_) | ((with_reducible refine Step.id ?_); first | ((with_reducible apply Step.gdF); exact rfl; exact rfl; (focus (rfl))) | ((with_reducible apply Step.move); exact rfl; exact rfl) | ((with_reducible apply Step.assign); exact rfl; exact rfl) | ((with_reducible apply Step.pickT); exact rfl; exact rfl; exact rfl; exact rfl; (focus (rfl)))) | (with_reducible refine AWo.nil ?_) | ((with_reducible apply AW.regL))))
              exact ⟨rfl, rfl, (by repeat (first | exact trivial | (refine And.intro rfl ?_)))⟩
            | false =>
              by_cases c1 : 1000000000 < hq
              · rw [decide_eq_true c1]
                (repeat (first | (with_reducible refine AWo.cons ?_) | ((with_reducible refine Step.id ?_); first | ((with_reducible apply Step.gdT); exact rfl; exact rfl; (focus (rfl))) | ((with_reducible apply Step.gdF); exact rfl; exact rfl; (focus ((simp only [decide_eq_true_eq, decide_eq_false_iff_not, Bool.not_eq_true', Bool.not_eq_false', Bool.not_true, Bool.not_false]; first | assumption | omega)))) | ((with_reducible apply Step.move); exact rfl; exact rfl) | ((with_reducible apply Step.assign); exact rfl; exact rfl) | ((with_reducible apply Step.gtr); exact rfl; exact rfl; exact rfl) | ((with_reducible apply Step.pickT); exact rfl; exact rfl; exact rfl; exact rfl; (focus ((simp only [decide_eq_true_eq, decide_eq_false_iff_not, Bool.not_eq_true', Bool.not_eq_false', Bool.not_true, Bool.not_false]; first | assumption | omega)))) | ((with_reducible apply Step.pickF); exact rfl; exact rfl; exact rfl; exact rfl; (focus (rfl)))) | (with_reducible refine AWo.nil ?_) | ((with_reducible apply AW.regL))))
                exact ⟨rfl, rfl, (by repeat (first | exact trivial | (refine And.intro rfl ?_)))⟩
              · rw [decide_eq_false c1]
                (repeat (first | (with_reducible refine AWo.cons ?_) | ((with_reducible refine Step.id ?_); first | ((with_reducible apply Step.gdT); exact rfl; exact rfl; (focus (first | rfl | (simp only [decide_eq_true_eq, decide_eq_false_iff_not, Bool.not_eq_true', Bool.not_eq_false', Bool.not_true, Bool.not_false]; first | assumption | omega)))) | ((with_reducible apply Step.move); exact rfl; exact rfl) | ((with_reducible apply Step.assign); exact rfl; exact rfl) | ((with_reducible apply Step.lss); exact rfl; exact rfl; exact rfl) | ((with_reducible apply Step.gtr); exact rfl; exact rfl; exact rfl) | ((with_reducible apply Step.pickF); exact rfl; exact rfl; exact rfl; exact rfl; (focus (first | rfl | (simp only [decide_eq_true_eq, decide_eq_false_iff_not, Bool.not_eq_true', Bool.not_eq_false', Bool.not_true, Bool.not_false]; first | assumption | omega))))) | (with_reducible refine AWo.nil ?_) | ((with_reducible apply AW.regL))))
                exact ⟨rfl, rfl, (by repeat (first | exact trivial | (refine And.intro rfl ?_)))⟩
          · intro t' hsl'
            refine InBlk.n ?_
            refine Then.n ?_
            refine AW.weak hsl' ?_
            clear hsl'
            (repeat (first | (with_reducible refine AWo.cons ?_) | ((with_reducible refine Step.id ?_); first | ((with_reducible apply Step.move); exact rfl; exact rfl) | ((with_reducible apply Step.add); exact rfl; exact rfl; (focus (omega)); exact rfl)) | (with_reducible refine AWo.nil ?_) | ((with_reducible apply Then.n)) | ((with_reducible apply AW.regL))))
            exact ⟨_, [(0, .pointer (some ⟨xk, 0, none⟩)), (1, v), (6, .bool S2), (7, .bool (F1 || (decide (1000000000 < hq) || decide (hq < -1000000000)))), (9, .pointer (some ⟨m.length + 0, 0, none⟩)), (16, v), (17, .int .i64 (l.length : Nat)), (18, .int .i64 (k : Nat)), (26, .agg #[.int .i64 xf, .int .i64 xt]), (27, .int .i64 (c + 1 : Nat))], _, by omega, (Or.inl ⟨rfl, (by repeat (first | exact trivial | (refine And.intro rfl ?_)))⟩), c + 1, rfl, by omega, rfl, by rw [eS1, eF1]⟩
      · obtain rfl : c = 2 := by omega
        have e2 : [xf, xt].take 2 = [xf, xt] := rfl
        rw [e2, ← eS, ← eF]
        (repeat (first | (with_reducible refine AWo.cons ?_) | ((with_reducible refine Step.id ?_); first | ((with_reducible apply Step.move); exact rfl; exact rfl) | ((with_reducible apply Step.add); exact rfl; exact rfl; (focus (omega)); exact rfl) | ((with_reducible apply Step.lss); exact rfl; exact rfl; exact rfl)) | (with_reducible refine AWo.nil ?_) | ((with_reducible apply AW.seq)) | ((with_reducible apply Then.n)) | ((with_reducible apply AW.regL)) | ((with_reducible apply AW.exit)) | ((with_reducible apply InBlk.n)) | ((with_reducible apply InBlk.hit)) | ((with_reducible apply Then.e)) | ((with_reducible apply AW.condF); exact rfl; (focus (rfl)))))
        exact ⟨_, _, _, by omega, (Back.trim rfl rfl (by repeat (exact CellsOk.nil)) (by repeat (first | exact trivial | (refine And.intro ⟨rfl, by (first | exact .int _ _ | exact .bool _ | exact .ptr _ _ (by first | (simp; done) | omega | (simp; omega)) | exact Ren.of_sl (by assumption) (by first | omega | (simp; omega)))⟩ ?_)))), k + 1, rfl, by omega, rfl, rfl⟩
    · obtain rfl : k = l.length := by omega
      rw [List.take_length]
      cases hsh : shL P l l with
      | true =>
        have e : rpostF P l = (P, 0, 11) := by unfold rpostF; rw [if_neg (by rw [hp]; simp), if_pos hsh]
        rw [e]
        (repeat (first | (with_reducible refine AWo.cons ?_) | ((with_reducible refine Step.id ?_); first | ((with_reducible apply Step.move); exact rfl; exact rfl) | ((with_reducible apply Step.assign); exact rfl; exact rfl) | ((with_reducible apply Step.lss); exact rfl; exact rfl; exact rfl)) | (with_reducible refine AWo.nil ?_) | ((with_reducible apply AW.seq)) | ((with_reducible apply Then.n)) | ((with_reducible apply AW.regL)) | ((with_reducible apply AW.exit)) | ((with_reducible apply InBlk.hit)) | ((with_reducible apply Then.e)) | ((with_reducible apply AW.condT); exact rfl; (focus (rfl))) | ((with_reducible apply AW.condF); exact rfl; (focus ((simp only [decide_eq_true_eq, decide_eq_false_iff_not, Bool.not_eq_true', Bool.not_eq_false', Bool.not_true, Bool.not_false]; first | assumption | omega))))))
        (refine AW.retD (l := [(4, _), (5, _)]) (by repeat (first | exact trivial | (refine And.intro ⟨rfl, by (exact .int _ _)⟩ ?_))) ?_; (repeat (first | refine Then.r ?_ | refine InBlk.r ?_)))
        exact ⟨_, rfl, pv, rfl, h, Fr.refl _ _ _, fun j hj hn => hn, fun _ => ⟨rfl, rfl⟩⟩
      | false =>
        cases hfa : faL P l l with
        | true =>
          have e : rpostF P l = (P, 0, 5) := by unfold rpostF; rw [if_neg (by rw [hp]; simp), if_neg (by rw [hsh]; simp), if_pos hfa]
          rw [e]
          (repeat (first | (with_reducible refine AWo.cons ?_) | ((with_reducible refine Step.id ?_); first | ((with_reducible apply Step.move); exact rfl; exact rfl) | ((with_reducible apply Step.assign); exact rfl; exact rfl) | ((with_reducible apply Step.lss); exact rfl; exact rfl; exact rfl)) | (with_reducible refine AWo.nil ?_) | ((with_reducible apply AW.seq)) | ((with_reducible apply Then.n)) | ((with_reducible apply AW.regL)) | ((with_reducible apply AW.exit)) | ((with_reducible apply InBlk.hit)) | ((with_reducible apply Then.e)) | ((with_reducible apply AW.skip)) | ((with_reducible apply AW.condT); exact rfl; (focus (rfl))) | ((with_reducible apply AW.condF); exact rfl; (focus (first | rfl | (simp only [decide_eq_true_eq, decide_eq_false_iff_not, Bool.not_eq_true', Bool.not_eq_false', Bool.not_true, Bool.not_false]; first | assumption | omega))))))
          (refine AW.retD (l := [(4, _), (5, _)]) (by repeat (first | exact trivial | (refine And.intro ⟨rfl, by (exact .int _ _)⟩ ?_))) ?_; (repeat (first | refine Then.r ?_ | refine InBlk.r ?_)))
          exact ⟨_, rfl, pv, rfl, h, Fr.refl _ _ _, fun j hj hn => hn, fun _ => ⟨rfl, rfl⟩⟩
        | false =>
          have e : rpostF P l = (P ++ [l], ((P.length + 1 : Nat) : Int), 0) := by unfold rpostF; rw [if_neg (by rw [hp]; simp), if_neg (by rw [hsh]; simp), if_neg (by rw [hfa]; simp)]
          rw [e]
          clear hheld hpo e
          (repeat (first | (with_reducible refine AWo.cons ?_) | ((with_reducible refine Step.id ?_); first | ((with_reducible apply Step.move); exact rfl; exact rfl) | ((with_reducible apply Step.lss); exact rfl; exact rfl; exact rfl)) | (with_reducible refine AWo.nil ?_) | ((fail_if_success (with_reducible refine AW.atR (id := 19) ?_)); ((with_reducible apply AW.seq))) | ((with_reducible apply Then.n)) | ((with_reducible apply AW.regL)) | ((with_reducible apply AW.exit)) | ((with_reducible apply InBlk.hit)) | ((with_reducible apply Then.e)) | ((with_reducible apply AW.skip)) | ((with_reducible apply AW.condF); exact rfl; (focus (first | rfl | (simp only [decide_eq_true_eq, decide_eq_false_iff_not, Bool.not_eq_true', Bool.not_eq_false', Bool.not_true, Bool.not_false]; first | assumption | omega))))))
          refine AW.seq ?_
          refine AW.join (fun t' M' => ∃ u, RBook M' b0 xk (P ++ [l]) u ∧ m.length ≤ M'.length ∧ (∀ j, j < m.length → j ≠ xk → NotOf pv j → M'[j]? = m[j]?) ∧ (∀ j, j < m.length → NotOf pv j → NotOf u j) ∧
            All (fun i v => t' i = some v) [(0, .pointer (some ⟨xk, 0, none⟩))]) ?_ ?_
          · have hnbX := h.notbk
            obtain ⟨al, ol, w1, w2⟩ := hlm.row
            have w2' := fun T h => (w2 h).old T
            (repeat' (first | ((with_reducible refine Step.id ?_); first | ((with_reducible apply Step.move); exact rfl; exact rfl) | ((with_reducible apply Step.load); exact rfl; (focus (decide +kernel)); exact rfl; (focus (exact rx _))) | ((with_reducible apply Step.field0); exact rfl; (focus (decide +kernel)); exact rfl) | ((with_reducible apply Step.nilp); exact rfl; exact rfl) | ((with_reducible apply Step.buildS 0); exact rfl; exact rfl; exact (fun _ _ => bs48z); exact rfl; (focus (first | (simp only [List.nil_append, List.cons_append, List.set_cons_zero, List.set_cons_succ, iv_set, bv_set, iv_rep, bv_rep]; done) | (simp only [List.nil_append, List.cons_append, List.set_cons_zero, List.set_cons_succ, iv_set, bv_set, iv_rep, bv_rep]; rfl) | rfl)))) | ((with_reducible apply AW.drawT fit (T := (.step 0 (.step 1 (.step 2 (.step 3 (.step 6 (.both (.step 4 (.step 5 (.step 7 (.step 8 (.step 9 (.step 10 (.step 11 (.step 12 .done)))))))) (.step 5 (.both (.step 4 (.step 7 (.step 8 (.step 9 (.step 10 (.step 11 (.step 12 .done))))))) (.step 7 (.both (.step 4 (.step 8 (.step 9 (.step 10 (.step 11 (.step 12 .done)))))) (.step 8 (.step 4 (.step 9 (.step 10 (.step 11 (.step 12 .done)))))))))))))))))); (focus (decide +kernel))) | ((with_reducible apply AWt.step); exact rfl) | refine AWt.both ?_ ?_))
            all_goals ((with_reducible apply Step.appRow2 (b0 := m.length) (n := 0) (c := [])); exact rfl; exact rfl; exact (.inr ⟨m.length + 0, .own, 1, by omega, rfl, by rw [get_app]; rfl, by simp, .inl rfl⟩); exact w1; exact (fun h => w2' _ h); exact el48; exact un48; exact (tcs_len l); exact (tcs_one l); exact rfl; (focus (omega)); exact rfl; (focus (simp)))
            all_goals intro uc M1 hrc hml1 hk1 _
            all_goals rw [List.nil_append, Nat.zero_add] at hrc
            all_goals have hM1 : ∃ N, M1 = m ++ N := pre_keep (m0 := m) ⟨_, rfl⟩ hml1 fun j hj => hk1 j (by simp; omega) (by intro n' c' e; simp only [Value.slice.injEq, Option.some.injEq, Addr.mk.injEq] at e; omega)
            all_goals clear hk1
            all_goals obtain ⟨a1, kd1, sz1, e1, e2, rfl, e4, hkm⟩ := hrc.pos2 (by omega)
            all_goals have rp1 : ∀ T, Rd (M1 ++ T) xk 0 pv := fun T => by obtain ⟨N, rfl⟩ := hM1; exact (rx N).old T
            all_goals have hs1 : SlV (.slice (some ⟨a1, 0, none⟩) l.length l.length) := .inr ⟨_, _, _, rfl⟩
            all_goals rw [← List.append_nil M1]
            all_goals (repeat' (first | ((with_reducible refine Step.id ?_); first | ((with_reducible apply Step.load); exact rfl; (focus (decide +kernel)); exact rfl; (focus (exact rp1 _))) | ((with_reducible apply Step.buildS 0); exact rfl; exact rfl; exact (fun _ _ => bs86); exact rfl; (focus (first | (simp only [List.nil_append, List.cons_append, List.set_cons_zero, List.set_cons_succ, iv_set, bv_set, iv_rep, bv_rep]; done) | (simp only [List.nil_append, List.cons_append, List.set_cons_zero, List.set_cons_succ, iv_set, bv_set, iv_rep, bv_rep]; rfl) | rfl)))) | ((with_reducible apply AWt.step); exact rfl) | refine AWt.both ?_ ?_))
            all_goals ((with_reducible apply Step.appRow2 (n := P.length) (xl := 1) (b0 := b0) (new := [.slice (some ⟨a1, 0, none⟩) l.length l.length])); exact rfl; exact rfl; exact ((show Row M1 b0 1 pv pc P.length by obtain ⟨N, rfl⟩ := hM1; exact hrow.old N).old _); exact (Sl.mk (Nat.le_refl _)); exact (fun _ => RdL.new rfl rfl); exact el86; exact un86; exact rfl; exact rfl; exact rfl; (focus (omega)); exact rfl; (focus (have := h.lo; obtain ⟨N, rfl⟩ := hM1; simp only [List.length_append]; omega)))
            all_goals intro u' M' hr hml hk hk2
            all_goals obtain ⟨a9, kd9, sz9, _, _, rfl, _⟩ := hr.pos (by omega)
            all_goals have hpush := RBook.push h (by obtain ⟨N, rfl⟩ := hM1; rw [List.append_assoc]; exact ⟨_, rfl⟩) hrow hps hr hml hk hk2 e1 (get_old _ e4) (by omega) hkm
            all_goals have hM'b : M'[xk]? = some (some { cells := [pv] }) := by rw [hk xk (by obtain ⟨N, rfl⟩ := hM1; simp only [List.length_append]; omega) hnbX]; obtain ⟨N, rfl⟩ := hM1; exact get_old _ (get_old _ h.cells)
            all_goals (repeat' (first | ((with_reducible refine Step.id ?_); first | ((with_reducible apply Step.field0); exact rfl; (focus (decide +kernel)); exact rfl) | ((with_reducible apply Step.nilp); exact rfl; exact rfl) | ((with_reducible apply Step.storeAt); exact rfl; exact rfl; (focus (first | assumption | exact get_old _ (by assumption) | exact set_hit (get_old _ (by assumption)) | exact set_hit (by assumption))); exact sz86; exact rfl; (focus ((try simp only [List.length_set]); first | omega | (rw [bkc_len (by assumption) (by assumption)]; omega) | (simp; done) | (simp; omega))); exact rfl; exact rfl)) | ((with_reducible apply Then.n)) | ((with_reducible apply AWt.step); exact rfl) | ((with_reducible apply AWt.done))))
            all_goals obtain ⟨u, z1, z2, z3, z4⟩ := hpush
            all_goals exact ⟨u, z1, z2, z3, z4, (by repeat (first | exact trivial | (refine And.intro rfl ?_)))⟩
          · rintro t' M2 ⟨u, hB2, hM2l, hM2k, hu2, hsl'⟩
            refine AW.weak (fr_all hsl') ?_
            clear hsl'
            obtain ⟨pc2, hrow2, _⟩ := hB2.posts
            obtain ⟨ar2, q1, _⟩ := hrow2.sl (by omega)
            rw [List.length_append, List.length_singleton] at q1
            have rp : Rd M2 xk 0 u := ⟨_, hB2.cells, rfl⟩
            refine AW.rebase ?_
            (repeat (first | (with_reducible refine AWo.cons ?_) | ((with_reducible refine Step.id ?_); first | ((with_reducible apply Step.move); exact rfl; exact rfl) | ((with_reducible apply Step.assign); exact rfl; exact rfl) | ((with_reducible apply Step.load); exact rfl; (focus (decide +kernel)); exact rfl; (focus (exact Rd.old _ (by assumption)))) | ((with_reducible apply Step.field0); exact rfl; (focus (decide +kernel)); exact rfl) | ((with_reducible apply Step.len); exact rfl; (focus (assumption)); (focus (decide +kernel)); exact rfl) | ((with_reducible apply Step.nilp); exact rfl; exact rfl)) | (with_reducible refine AWo.nil ?_) | ((with_reducible apply AW.seq)) | ((with_reducible apply Then.n)) | ((with_reducible apply AW.regL))))
            (refine AW.ret ?_; (repeat (first | refine Then.r ?_ | refine InBlk.r ?_)))
            refine ⟨_, rfl, u, rfl, by rw [List.append_nil]; exact hB2, ?_, hu2, fun e => absurd rfl e⟩
            rw [List.append_nil]
            exact ⟨hM2l, hM2k⟩
end Go.Proofs.Ytabdnepfcohncaa.Abs
namespace Go.Proofs.Ytabdnepfcohncaa.Abs
set_option linter.unusedSimpArgs false
set_option linter.unusedVariables false
open Go.RowKit
open Go.Proofs.Ytabdnepfcohncaa.Sim
open Go.Proofs
def inB (p i : Int) : Bool := decide (0 ≤ p ∧ p < 16 ∧ 0 ≤ i ∧ i < 16)
theorem bl155 {a b : Int} : abuild Try.prog 155 [(0, .int .i64 a), (1, .int .i64 b)] = some (.agg #[.int .i64 a, .int .i64 b]) := by kernel_rfl
theorem Ren.tupII {ρ : Nat → Nat} {n : Nat} (a b : Int) : Ren ρ n (.tuple #[.int .i64 a, .int .i64 b]) (.tuple #[.int .i64 a, .int .i64 b]) := .tuple _ _ rfl fun i hi => by
  simp at hi
  rcases (show i = 0 ∨ i = 1 by omega) with rfl | rfl
  · exact .int _ _
  · exact .int _ _
set_option maxRecDepth 100000 in
theorem there_ok {m : AM} (p i : Int) {b : Bool} (hb : inB p i = b) : ACall Try.prog 92 #[.agg #[.int .i64 p, .int .i64 i]] m (Ret (.bool b) m) := by
  subst hb
  refine ACall.start Try.func92 rfl rfl ?_
  rw [show inB p i = decide (0 ≤ Min.min p i ∧ Max.max p i < 16) from decide_eq_decide.2 (by omega)]
  (repeat (first | (with_reducible refine AWo.cons ?_) | ((with_reducible refine Step.id ?_); first | ((with_reducible apply Step.move); exact rfl; exact rfl) | ((with_reducible apply Step.assign); exact rfl; exact rfl) | ((with_reducible apply Step.load); exact rfl; (focus (decide +kernel)); exact rfl; (focus (exact Rd.new rfl rfl))) | ((with_reducible apply Step.field0); exact rfl; (focus (decide +kernel)); exact rfl) | ((with_reducible apply Step.field (k := 1)); exact rfl; (focus (decide +kernel)); exact rfl) | ((with_reducible apply Step.geq); exact rfl; exact rfl; exact rfl) | ((with_reducible apply Step.min); exact rfl; exact rfl; exact rfl) | ((with_reducible apply Step.box 0); exact rfl; exact rfl; (focus (kernel_rfl)); exact rfl; (focus (first | (simp only [List.nil_append, List.cons_append, List.set_cons_zero, List.set_cons_succ, iv_set, bv_set, iv_rep, bv_rep]; done) | (simp only [List.nil_append, List.cons_append, List.set_cons_zero, List.set_cons_succ, iv_set, bv_set, iv_rep, bv_rep]; rfl) | rfl)))) | (with_reducible refine AWo.nil ?_) | ((with_reducible apply AW.seq)) | ((with_reducible apply Then.n)) | ((with_reducible apply AW.regL))))
  generalize Min.min p i = mn
  by_cases c1 : 0 ≤ mn
  · (repeat (first | (with_reducible refine AWo.cons ?_) | ((with_reducible refine Step.id ?_); first | ((with_reducible apply Step.gdT); exact rfl; exact rfl; (focus ((simp only [decide_eq_true_eq, decide_eq_false_iff_not, Bool.not_eq_true', Bool.not_eq_false', Bool.not_true, Bool.not_false]; first | assumption | omega)))) | ((with_reducible apply Step.assign); exact rfl; exact rfl) | ((with_reducible apply Step.load); exact rfl; (focus (decide +kernel)); exact rfl; (focus (exact Rd.new rfl rfl))) | ((with_reducible apply Step.field0); exact rfl; (focus (decide +kernel)); exact rfl) | ((with_reducible apply Step.field (k := 1)); exact rfl; (focus (decide +kernel)); exact rfl) | ((with_reducible apply Step.lss); exact rfl; exact rfl; exact rfl) | ((with_reducible apply Step.max); exact rfl; exact rfl; exact rfl) | ((with_reducible apply Step.pickT); exact rfl; exact rfl; exact rfl; exact rfl; (focus ((simp only [decide_eq_true_eq, decide_eq_false_iff_not, Bool.not_eq_true', Bool.not_eq_false', Bool.not_true, Bool.not_false]; first | assumption | omega))))) | (with_reducible refine AWo.nil ?_) | ((with_reducible apply Then.n))))
    generalize Max.max p i = mx
    (refine AW.retD (l := [(2, _)]) (by repeat (first | exact trivial | (refine And.intro ⟨rfl, by (exact .bool _)⟩ ?_))) ?_; (repeat (first | refine Then.r ?_ | refine InBlk.r ?_)))
    exact ⟨_, rfl, by simp [c1], rfl⟩
  · (repeat (first | (with_reducible refine AWo.cons ?_) | ((with_reducible refine Step.id ?_); first | ((with_reducible apply Step.gdF); exact rfl; exact rfl; (focus ((simp only [decide_eq_true_eq, decide_eq_false_iff_not, Bool.not_eq_true', Bool.not_eq_false', Bool.not_true, Bool.not_false]; first | assumption | omega)))) | ((with_reducible apply Step.assign); exact rfl; exact rfl) | ((with_reducible apply Step.pickF); exact rfl; exact rfl; exact rfl; exact rfl; (focus ((simp only [decide_eq_true_eq, decide_eq_false_iff_not, Bool.not_eq_true', Bool.not_eq_false', Bool.not_true, Bool.not_false]; first | assumption | omega))))) | (with_reducible refine AWo.nil ?_) | ((with_reducible apply Then.n))))
    (refine AW.retD (l := [(2, _)]) (by repeat (first | exact trivial | (refine And.intro ⟨rfl, by (exact .bool _)⟩ ?_))) ?_; (repeat (first | refine Then.r ?_ | refine InBlk.r ?_)))
    exact ⟨_, rfl, by simp [c1], rfl⟩
def lookF (X : List Int) (p i : Int) : Int × Int := if inB p i = true then (X.getD (p.toNat * 16 + i.toNat) 0, 0) else (0, 2)
set_option maxHeartbeats 4000000 in
set_option maxRecDepth 100000 in
theorem look_ok {m : AM} {bk off : Nat} {X : List Int} {g : FuncId} {fn : Func} {bd : Code} {cap : Array Value} {p i : Int} (h0 : Rd m bk 0 (.bool true)) (hX : ∀ k, k < 256 → Rd m bk (off + k) (.int .i64 (X.getD k 0))) (hf : Try.prog.funcs[g]? = some fn) (hb : fn.body = some bd)
    (hg : ∀ T, ACall Try.prog g (#[] ++ #[] ++ cap) (m ++ T) (Ret (.pointer (some ⟨bk, off, none⟩)) (m ++ T))) :
    ACall Try.prog 93 #[.pointer (some ⟨bk, 0, none⟩), .func (.func g) #[] cap, .agg #[.int .i64 p, .int .i64 i]] m (Ret (.tuple #[.int .i64 (lookF X p i).1, .int .i64 (lookF X p i).2]) m) := by
  have hnone := fun T => none_ok (h0.old T)
  have hth := fun T b e => there_ok (m := m ++ T) p i (b := b) e
  refine ACall.start Try.func93 rfl rfl ?_
  cases hin : inB p i with
  | false =>
    have e : lookF X p i = (0, 2) := by unfold lookF; rw [if_neg (by rw [hin]; simp)]
    rw [e]
    (repeat (first | (with_reducible refine AWo.cons ?_) | ((with_reducible refine Step.id ?_); first | ((with_reducible apply Step.move); exact rfl; exact rfl) | ((with_reducible apply Step.assign); exact rfl; exact rfl) | ((with_reducible apply Step.loadL (n := 2)); exact rfl; (focus (decide +kernel)); (focus (decide +kernel)); exact rfl; (focus (exact RdL.new rfl rfl)); exact rfl; exact rfl) | ((with_reducible apply Step.not); exact rfl; exact rfl) | ((with_reducible apply Step.callR fit); exact rfl; exact Try.func83; exact rfl; exact rfl; exact (hnone _)) | ((with_reducible apply Step.callR fit); exact rfl; exact Try.func92; exact rfl; exact rfl; exact (hth _ _ hin)) | ((with_reducible apply Step.box 0); exact rfl; exact rfl; (focus (kernel_rfl)); exact rfl; (focus (first | (simp only [List.nil_append, List.cons_append, List.set_cons_zero, List.set_cons_succ, iv_set, bv_set, iv_rep, bv_rep]; done) | (simp only [List.nil_append, List.cons_append, List.set_cons_zero, List.set_cons_succ, iv_set, bv_set, iv_rep, bv_rep]; rfl) | rfl)))) | (with_reducible refine AWo.nil ?_) | ((with_reducible apply AW.seq)) | ((with_reducible apply Then.n)) | ((with_reducible apply AW.regL)) | ((with_reducible apply AW.block)) | ((with_reducible apply AW.condT); exact rfl; (focus (rfl))) | ((with_reducible apply AW.condF); exact rfl; (focus (rfl)))))
    (refine AW.retD (l := [(6, _), (7, _)]) (by repeat (first | exact trivial | (refine And.intro ⟨rfl, by (exact .int _ _)⟩ ?_))) ?_; (repeat (first | refine Then.r ?_ | refine InBlk.r ?_)))
    exact ⟨_, rfl, rfl, rfl⟩
  | true =>
    have e : lookF X p i = (X.getD (p.toNat * 16 + i.toNat) 0, 0) := by unfold lookF; rw [if_pos hin]
    rw [e]
    have hin' := hin
    simp only [inB, decide_eq_true_eq] at hin'
    obtain ⟨x1, x2, x3, x4⟩ := hin'
    obtain ⟨p, rfl⟩ := Int.eq_ofNat_of_zero_le x1
    obtain ⟨i, rfl⟩ := Int.eq_ofNat_of_zero_le x3
    simp only [Int.toNat_natCast]
    have hr := fun T => (hX (p * 16 + i) (by omega)).old T
    simp only [← Nat.add_assoc] at hr
    generalize X.getD (p * 16 + i) 0 = q at *
    (repeat' (first | (with_reducible refine AWo.cons ?_) | ((with_reducible refine Step.id ?_); first | ((with_reducible apply Step.move); exact rfl; exact rfl) | ((with_reducible apply Step.assign); exact rfl; exact rfl) | ((with_reducible apply Step.load); exact rfl; (focus (decide +kernel)); exact rfl; (focus (first | exact hr _ | exact Rd.new rfl rfl))) | ((with_reducible apply Step.loadL (n := 2)); exact rfl; (focus (decide +kernel)); (focus (decide +kernel)); exact rfl; (focus (exact RdL.new rfl rfl)); exact rfl; exact rfl) | ((with_reducible apply Step.field0); exact rfl; (focus (decide +kernel)); exact rfl) | ((with_reducible apply Step.field (k := 1)); exact rfl; (focus (decide +kernel)); exact rfl) | ((with_reducible apply Step.ixA (s := 16) (n := 16)); exact rfl; exact rfl; exact ar130; exact rfl; (focus (omega))) | ((with_reducible apply Step.ixC (n := 16)); exact rfl; exact rfl; exact ar128; exact rfl; (focus (omega))) | ((with_reducible apply Step.not); exact rfl; exact rfl) | ((with_reducible apply Step.nilp); exact rfl; exact rfl) | ((with_reducible apply Step.callR fit); exact rfl; exact Try.func83; exact rfl; exact rfl; exact (hnone _)) | ((with_reducible apply Step.callR fit); exact rfl; exact Try.func92; exact rfl; exact rfl; exact (hth _ _ hin)) | ((with_reducible apply Step.callV fit); exact rfl; exact rfl; exact hf; exact hb; exact rfl; exact (hg _)) | ((with_reducible apply Step.box 0); exact rfl; exact rfl; (focus (kernel_rfl)); exact rfl; (focus (first | (simp only [List.nil_append, List.cons_append, List.set_cons_zero, List.set_cons_succ, iv_set, bv_set, iv_rep, bv_rep]; done) | (simp only [List.nil_append, List.cons_append, List.set_cons_zero, List.set_cons_succ, iv_set, bv_set, iv_rep, bv_rep]; rfl) | rfl)))) | (with_reducible refine AWo.nil ?_) | ((with_reducible apply AW.seq)) | ((with_reducible apply Then.n)) | ((with_reducible apply AW.regL)) | ((with_reducible apply AW.block)) | ((with_reducible apply AW.drawT fit (T := (.step 0 (.step 2 (.step 4 (.both (.step 1 (.step 3 (.step 5 (.step 6 (.step 7 (.step 8 (.step 9 (.step 10 (.step 11 .done))))))))) (.both (.step 3 (.both (.step 1 (.step 5 (.step 6 (.step 7 (.step 8 (.step 9 (.step 10 (.step 11 .done)))))))) (.step 5 (.step 1 (.step 6 (.step 7 (.step 8 (.step 9 (.step 10 (.step 11 .done)))))))))) (.step 5 (.both (.step 1 (.step 3 (.step 6 (.step 7 (.step 8 (.step 9 (.step 10 (.step 11 .done)))))))) (.step 3 (.step 1 (.step 6 (.step 7 (.step 8 (.step 9 (.step 10 (.step 11 .done))))))))))))))))); (focus (decide +kernel))) | ((with_reducible apply AWt.step); exact rfl) | ((with_reducible apply AWt.done)) | ((with_reducible apply InBlk.n)) | ((with_reducible apply AW.skip)) | ((with_reducible apply AW.condF); exact rfl; (focus (rfl))) | refine AWt.both ?_ ?_))
    all_goals (refine AW.retD (l := [(6, _), (7, _)]) (by repeat (first | exact trivial | (refine And.intro ⟨rfl, by (exact .int _ _)⟩ ?_))) ?_; (repeat (first | refine Then.r ?_ | refine InBlk.r ?_)))
    all_goals exact ⟨_, rfl, rfl, rfl⟩
set_option maxRecDepth 100000 in
theorem f94_ok {m : AM} {q bk : Nat} (h : Rd m q 0 (.pointer (some ⟨bk, 0, none⟩))) (hl : bk < m.length) : ACall Try.prog 94 #[.pointer (some ⟨q, 0, none⟩)] m (Ret (.pointer (some ⟨bk, 1, none⟩)) m) := by
  refine ACall.start Try.func94 rfl rfl ?_
  (repeat (first | (with_reducible refine AWo.cons ?_) | ((with_reducible refine Step.id ?_); first | ((with_reducible apply Step.assign); exact rfl; exact rfl) | ((with_reducible apply Step.load); exact rfl; (focus (decide +kernel)); exact rfl; (focus (exact h.old _))) | ((with_reducible apply Step.field (k := 1)); exact rfl; (focus (decide +kernel)); exact rfl) | ((with_reducible apply Step.nilp); exact rfl; exact rfl)) | (with_reducible refine AWo.nil ?_) | ((with_reducible apply AW.seq)) | ((with_reducible apply Then.n)) | ((with_reducible apply AW.regL))))
  (refine AW.retD (l := [(1, _)]) (by repeat (first | exact trivial | (refine And.intro ⟨rfl, by (exact .ptr _ _ (by first | (simp; done) | omega | (simp; omega)))⟩ ?_))) ?_; (repeat (first | refine Then.r ?_ | refine InBlk.r ?_)))
  exact ⟨_, rfl, rfl, rfl⟩
set_option maxRecDepth 100000 in
theorem f129_ok {m : AM} {q bk : Nat} (h : Rd m q 0 (.pointer (some ⟨bk, 0, none⟩))) (hl : bk < m.length) : ACall Try.prog 129 #[.pointer (some ⟨q, 0, none⟩)] m (Ret (.pointer (some ⟨bk, 257, none⟩)) m) := by
  refine ACall.start Try.func129 rfl rfl ?_
  (repeat (first | (with_reducible refine AWo.cons ?_) | ((with_reducible refine Step.id ?_); first | ((with_reducible apply Step.assign); exact rfl; exact rfl) | ((with_reducible apply Step.load); exact rfl; (focus (decide +kernel)); exact rfl; (focus (exact h.old _))) | ((with_reducible apply Step.field (k := 257)); exact rfl; (focus (decide +kernel)); exact rfl) | ((with_reducible apply Step.nilp); exact rfl; exact rfl)) | (with_reducible refine AWo.nil ?_) | ((with_reducible apply AW.seq)) | ((with_reducible apply Then.n)) | ((with_reducible apply AW.regL))))
  (refine AW.retD (l := [(1, _)]) (by repeat (first | exact trivial | (refine And.intro ⟨rfl, by (exact .ptr _ _ (by first | (simp; done) | omega | (simp; omega)))⟩ ?_))) ?_; (repeat (first | refine Then.r ?_ | refine InBlk.r ?_)))
  exact ⟨_, rfl, rfl, rfl⟩
theorem BookAt.rdH {M : AM} {b0 bk : Nat} {B : Bk} {pv : Value} (h : BookAt M b0 bk B pv) (k : Nat) (hk : k < 256) : Rd M bk (1 + k) (.int .i64 (B.H.getD k 0)) := ⟨_, h.cells, bkc_H (by rw [h.lH]; exact hk)⟩
theorem BookAt.rdC {M : AM} {b0 bk : Nat} {B : Bk} {pv : Value} (h : BookAt M b0 bk B pv) (k : Nat) (hk : k < 256) : Rd M bk (257 + k) (.int .i64 (B.C.getD k 0)) := ⟨_, h.cells, bkc_C h.lH (by rw [h.lC]; exact hk)⟩
set_option maxRecDepth 100000 in
theorem Held_ok {m : AM} {b0 bk : Nat} {B : Bk} {pv : Value} (p i : Int) (h : BookAt m b0 bk B pv) : ACall Try.prog 32 #[.pointer (some ⟨bk, 0, none⟩), .int .i64 p, .int .i64 i] m (Ret (.tuple #[.int .i64 (lookF B.H p i).1, .int .i64 (lookF B.H p i).2]) m) := by
  refine ACall.drop (Ren.tupII _ _) ?_
  have hbl := h.lt
  have hlk := fun (T : AM) (hT : T = [some { cells := [.pointer (some ⟨bk, 0, none⟩)] }]) => look_ok (m := m ++ T) (bk := bk) (off := 1) (X := B.H) (g := 94) (cap := #[.pointer (some ⟨m.length + 0, 0, none⟩)]) (p := p) (i := i) (Rd.old T ⟨_, h.cells, bkc_0⟩) (fun k hk => (h.rdH k hk).old T) Try.func94 rfl
    (fun T' => f94_ok (Rd.old T' (by subst hT; exact Rd.new rfl rfl)) (by simp only [List.length_append]; omega))
  refine ACall.start Try.func32 rfl rfl ?_
  (repeat (first | (with_reducible refine AWo.cons ?_) | ((with_reducible refine Step.id ?_); first | ((with_reducible apply Step.move); exact rfl; exact rfl) | ((with_reducible apply Step.assign); exact rfl; exact rfl) | ((with_reducible apply Step.load); exact rfl; (focus (decide +kernel)); exact rfl; (focus (exact Rd.new rfl rfl))) | ((with_reducible apply Step.extract); exact rfl; exact rfl; exact rfl) | ((with_reducible apply Step.fn); exact rfl; exact rfl; exact rfl) | ((with_reducible apply Step.callR fit); exact rfl; exact Try.func93; exact rfl; exact rfl; exact (hlk _ rfl)) | ((with_reducible apply Step.box 0); exact rfl; exact rfl; (focus (kernel_rfl)); exact rfl; (focus (first | (simp only [List.nil_append, List.cons_append, List.set_cons_zero, List.set_cons_succ, iv_set, bv_set, iv_rep, bv_rep]; done) | (simp only [List.nil_append, List.cons_append, List.set_cons_zero, List.set_cons_succ, iv_set, bv_set, iv_rep, bv_rep]; rfl) | rfl))) | ((with_reducible apply Step.build); exact rfl; exact bl155; exact rfl)) | (with_reducible refine AWo.nil ?_) | ((with_reducible apply AW.seq)) | ((with_reducible apply Then.n)) | ((with_reducible apply AW.regL))))
  (refine AW.ret ?_; (repeat (first | refine Then.r ?_ | refine InBlk.r ?_)))
  exact ⟨_, rfl, rfl, _, rfl⟩
set_option maxRecDepth 100000 in
theorem Changed_ok {m : AM} {b0 bk : Nat} {B : Bk} {pv : Value} (p i : Int) (h : BookAt m b0 bk B pv) : ACall Try.prog 98 #[.pointer (some ⟨bk, 0, none⟩), .int .i64 p, .int .i64 i] m (Ret (.tuple #[.int .i64 (lookF B.C p i).1, .int .i64 (lookF B.C p i).2]) m) := by
  refine ACall.drop (Ren.tupII _ _) ?_
  have hbl := h.lt
  have hlk := fun (T : AM) (hT : T = [some { cells := [.pointer (some ⟨bk, 0, none⟩)] }]) => look_ok (m := m ++ T) (bk := bk) (off := 257) (X := B.C) (g := 129) (cap := #[.pointer (some ⟨m.length + 0, 0, none⟩)]) (p := p) (i := i) (Rd.old T ⟨_, h.cells, bkc_0⟩) (fun k hk => (h.rdC k hk).old T) Try.func129 rfl
    (fun T' => f129_ok (Rd.old T' (by subst hT; exact Rd.new rfl rfl)) (by simp only [List.length_append]; omega))
  refine ACall.start Try.func98 rfl rfl ?_
  (repeat (first | (with_reducible refine AWo.cons ?_) | ((with_reducible refine Step.id ?_); first | ((with_reducible apply Step.move); exact rfl; exact rfl) | ((with_reducible apply Step.assign); exact rfl; exact rfl) | ((with_reducible apply Step.load); exact rfl; (focus (decide +kernel)); exact rfl; (focus (exact Rd.new rfl rfl))) | ((with_reducible apply Step.extract); exact rfl; exact rfl; exact rfl) | ((with_reducible apply Step.fn); exact rfl; exact rfl; exact rfl) | ((with_reducible apply Step.callR fit); exact rfl; exact Try.func93; exact rfl; exact rfl; exact (hlk _ rfl)) | ((with_reducible apply Step.box 0); exact rfl; exact rfl; (focus (kernel_rfl)); exact rfl; (focus (first | (simp only [List.nil_append, List.cons_append, List.set_cons_zero, List.set_cons_succ, iv_set, bv_set, iv_rep, bv_rep]; done) | (simp only [List.nil_append, List.cons_append, List.set_cons_zero, List.set_cons_succ, iv_set, bv_set, iv_rep, bv_rep]; rfl) | rfl))) | ((with_reducible apply Step.build); exact rfl; exact bl155; exact rfl)) | (with_reducible refine AWo.nil ?_) | ((with_reducible apply AW.seq)) | ((with_reducible apply Then.n)) | ((with_reducible apply AW.regL))))
  (refine AW.ret ?_; (repeat (first | refine Then.r ?_ | refine InBlk.r ?_)))
  exact ⟨_, rfl, rfl, _, rfl⟩
theorem inB_and (p i : Int) : inB p i = (decide (0 ≤ p ∧ p < 16) && decide (0 ≤ i ∧ i < 16)) := by
  unfold inB
  rw [← Bool.decide_and]
  exact decide_eq_decide.2 (by omega)
def rheldF (P : List (List Tr)) (p i : Int) : Int × Int := if inB p i = true then (hsum p i P.flatten, 0) else (0, 2)
set_option maxRecDepth 100000 in
theorem RHeld_ok {m : AM} {b0 xk : Nat} {P : List (List Tr)} {pv : Value} (p i : Int) (h : RBook m b0 xk P pv) (hP : smallT P.flatten) (hlen : P.flatten.length ≤ 100000000) (hpl : P.length ≤ 1000000) :
    ACall Try.prog 97 #[.pointer (some ⟨xk, 0, none⟩), .int .i64 p, .int .i64 i] m (Ret (.tuple #[.int .i64 (rheldF P p i).1, .int .i64 (rheldF P p i).2]) m) := by
  have hip := fun T b e => in_ok (m := m ++ T) p (b := b) e
  have hii := fun T b e => in_ok (m := m ++ T) i (b := b) e
  have hxl := h.lt
  have rx := fun T => Rd.old T (show Rd m xk 0 pv from ⟨_, h.cells, rfl⟩)
  obtain ⟨pc, hrow, hps⟩ := id h.posts
  obtain ⟨ar, r1, r2, r3⟩ := hrow.sl (by omega)
  have hh := fun T => held_full (p := p) (i := i) (more := []) (h.old T) (Trs.nil (by rw [List.length_append]; omega)) (.inl rfl) hP (fun x hx => by simp at hx) (by rw [List.length_nil]; omega) (by omega)
  simp only [List.append_nil] at hh
  refine ACall.start Try.func97 rfl rfl ?_
  by_cases c1 : 0 ≤ p ∧ p < 16
  · by_cases c2 : 0 ≤ i ∧ i < 16
    · have e : rheldF P p i = (hsum p i P.flatten, 0) := by unfold rheldF; rw [if_pos (by rw [inB_and, decide_eq_true c1, decide_eq_true c2]; rfl)]
      rw [e]
      (repeat (first | (with_reducible refine AWo.cons ?_) | ((with_reducible refine Step.id ?_); first | ((with_reducible apply Step.gdT); exact rfl; exact rfl; (focus (rfl))) | ((with_reducible apply Step.move); exact rfl; exact rfl) | ((with_reducible apply Step.assign); exact rfl; exact rfl) | ((with_reducible apply Step.load); exact rfl; (focus (decide +kernel)); exact rfl; (focus (exact rx _))) | ((with_reducible apply Step.field0); exact rfl; (focus (decide +kernel)); exact rfl) | ((with_reducible apply Step.len); exact rfl; (focus (assumption)); (focus (decide +kernel)); exact rfl) | ((with_reducible apply Step.not); exact rfl; exact rfl) | ((with_reducible apply Step.nilp); exact rfl; exact rfl) | ((with_reducible apply Step.pickF); exact rfl; exact rfl; exact rfl; exact rfl; (focus (rfl))) | ((with_reducible apply Step.callR fit); exact rfl; exact Try.func128; exact rfl; exact rfl; exact (hip _ _ (decide_eq_true c1))) | ((with_reducible apply Step.callR fit); exact rfl; exact Try.func128; exact rfl; exact rfl; exact (hii _ _ (decide_eq_true c2))) | ((with_reducible apply Step.callR fit); exact rfl; exact Try.func103; exact rfl; exact rfl; exact (hh _))) | (with_reducible refine AWo.nil ?_) | ((with_reducible apply AW.seq)) | ((with_reducible apply Then.n)) | ((with_reducible apply AW.regL)) | ((with_reducible apply AW.skip)) | ((with_reducible apply AW.condF); exact rfl; (focus (rfl)))))
      (refine AW.retD (l := [(6, _), (7, _)]) (by repeat (first | exact trivial | (refine And.intro ⟨rfl, by (exact .int _ _)⟩ ?_))) ?_; (repeat (first | refine Then.r ?_ | refine InBlk.r ?_)))
      exact ⟨_, rfl, rfl, rfl⟩
    · have e : rheldF P p i = (0, 2) := by unfold rheldF; rw [if_neg (by rw [inB_and, decide_eq_true c1, decide_eq_false c2]; simp)]
      rw [e]
      (repeat (first | (with_reducible refine AWo.cons ?_) | ((with_reducible refine Step.id ?_); first | ((with_reducible apply Step.gdT); exact rfl; exact rfl; (focus (rfl))) | ((with_reducible apply Step.move); exact rfl; exact rfl) | ((with_reducible apply Step.assign); exact rfl; exact rfl) | ((with_reducible apply Step.not); exact rfl; exact rfl) | ((with_reducible apply Step.pickF); exact rfl; exact rfl; exact rfl; exact rfl; (focus (rfl))) | ((with_reducible apply Step.callR fit); exact rfl; exact Try.func128; exact rfl; exact rfl; exact (hip _ _ (decide_eq_true c1))) | ((with_reducible apply Step.callR fit); exact rfl; exact Try.func128; exact rfl; exact rfl; exact (hii _ _ (decide_eq_false c2)))) | (with_reducible refine AWo.nil ?_) | ((with_reducible apply AW.seq)) | ((with_reducible apply Then.n)) | ((with_reducible apply AW.regL)) | ((with_reducible apply AW.condT); exact rfl; (focus (rfl)))))
      (refine AW.retD (l := [(6, _), (7, _)]) (by repeat (first | exact trivial | (refine And.intro ⟨rfl, by (exact .int _ _)⟩ ?_))) ?_; (repeat (first | refine Then.r ?_ | refine InBlk.r ?_)))
      exact ⟨_, rfl, rfl, rfl⟩
  · have e : rheldF P p i = (0, 2) := by unfold rheldF; rw [if_neg (by rw [inB_and, decide_eq_false c1]; simp)]
    rw [e]
    (repeat (first | (with_reducible refine AWo.cons ?_) | ((with_reducible refine Step.id ?_); first | ((with_reducible apply Step.gdF); exact rfl; exact rfl; (focus (rfl))) | ((with_reducible apply Step.move); exact rfl; exact rfl) | ((with_reducible apply Step.assign); exact rfl; exact rfl) | ((with_reducible apply Step.not); exact rfl; exact rfl) | ((with_reducible apply Step.pickT); exact rfl; exact rfl; exact rfl; exact rfl; (focus (rfl))) | ((with_reducible apply Step.callR fit); exact rfl; exact Try.func128; exact rfl; exact rfl; exact (hip _ _ (decide_eq_false c1)))) | (with_reducible refine AWo.nil ?_) | ((with_reducible apply AW.seq)) | ((with_reducible apply Then.n)) | ((with_reducible apply AW.regL)) | ((with_reducible apply AW.condT); exact rfl; (focus (rfl)))))
    (refine AW.retD (l := [(6, _), (7, _)]) (by repeat (first | exact trivial | (refine And.intro ⟨rfl, by (exact .int _ _)⟩ ?_))) ?_; (repeat (first | refine Then.r ?_ | refine InBlk.r ?_)))
    exact ⟨_, rfl, rfl, rfl⟩
/-- A transfer touches a count. -/
def tchB (p i : Int) (x : Tr) : Bool := decide (x.i = i) && (decide (x.f = p) || decide (x.t = p))
def lcK (p i : Int) (P : List (List Tr)) : Nat → Nat
  | 0 => 0
  | k + 1 => if (P.getD k []).any (tchB p i) = true then k + 1 else lcK p i P k
def rchgF (P : List (List Tr)) (p i : Int) : Int × Int := if inB p i = true then (((lcK p i P P.length : Nat) : Int), 0) else (0, 2)
set_option maxHeartbeats 4000000 in
set_option maxRecDepth 100000 in
theorem RChanged_ok {m : AM} {b0 xk : Nat} {P : List (List Tr)} {pv : Value} (p i : Int) (h : RBook m b0 xk P pv) (hlen : P.flatten.length ≤ 100000000) (hpl : P.length ≤ 1000000) :
    ACall Try.prog 99 #[.pointer (some ⟨xk, 0, none⟩), .int .i64 p, .int .i64 i] m (Ret (.tuple #[.int .i64 (rchgF P p i).1, .int .i64 (rchgF P p i).2]) m) := by
  have hip := fun T b e => in_ok (m := m ++ T) p (b := b) e
  have hii := fun T b e => in_ok (m := m ++ T) i (b := b) e
  have hxl := h.lt
  have rx := fun T => Rd.old T (show Rd m xk 0 pv from ⟨_, h.cells, rfl⟩)
  obtain ⟨pc, hrow, hps⟩ := id h.posts
  obtain ⟨ar, r1, r2, r3⟩ := hrow.sl (by omega)
  refine ACall.start Try.func99 rfl rfl ?_
  by_cases c1 : 0 ≤ p ∧ p < 16
  · by_cases c2 : 0 ≤ i ∧ i < 16
    · have e : rchgF P p i = (((lcK p i P P.length : Nat) : Int), 0) := by unfold rchgF; rw [if_pos (by rw [inB_and, decide_eq_true c1, decide_eq_true c2]; rfl)]
      rw [e]
      (repeat (first | (with_reducible refine AWo.cons ?_) | ((with_reducible refine Step.id ?_); first | ((with_reducible apply Step.gdT); exact rfl; exact rfl; (focus (rfl))) | ((with_reducible apply Step.move); exact rfl; exact rfl) | ((with_reducible apply Step.assign); exact rfl; exact rfl) | ((with_reducible apply Step.load); exact rfl; (focus (decide +kernel)); exact rfl; (focus (exact rx _))) | ((with_reducible apply Step.field0); exact rfl; (focus (decide +kernel)); exact rfl) | ((with_reducible apply Step.len); exact rfl; (focus (assumption)); (focus (decide +kernel)); exact rfl) | ((with_reducible apply Step.not); exact rfl; exact rfl) | ((with_reducible apply Step.nilp); exact rfl; exact rfl) | ((with_reducible apply Step.pickF); exact rfl; exact rfl; exact rfl; exact rfl; (focus (rfl))) | ((with_reducible apply Step.callR fit); exact rfl; exact Try.func128; exact rfl; exact rfl; exact (hip _ _ (decide_eq_true c1))) | ((with_reducible apply Step.callR fit); exact rfl; exact Try.func128; exact rfl; exact rfl; exact (hii _ _ (decide_eq_true c2)))) | (with_reducible refine AWo.nil ?_) | ((with_reducible apply AW.seq)) | ((with_reducible apply Then.n)) | ((with_reducible apply AW.regL)) | ((with_reducible apply AW.block)) | ((with_reducible apply AW.skip)) | ((with_reducible apply AW.condF); exact rfl; (focus (rfl)))))
      clear hip hii
      refine AW.loopT (fun q t L => ∃ k : Nat, q = P.length - k ∧ k ≤ P.length ∧ L = [] ∧
        t = [(0, .pointer (some ⟨xk, 0, none⟩)), (1, .int .i64 p), (2, .int .i64 i), (8, .int .i64 (lcK p i P k : Nat)), (24, pv), (25, .int .i64 (P.length : Nat)), (26, .int .i64 (k : Nat))]) ⟨_, _, _, (Or.inl ⟨rfl, (by repeat (first | exact trivial | (refine And.intro rfl ?_)))⟩), 0, rfl, Nat.zero_le _, rfl, rfl⟩ ?_
      rintro q t L ⟨k, rfl, hk, rfl, rfl⟩
      rcases Nat.lt_or_ge k P.length with hlt | hge
      · obtain ⟨u, q1, q2⟩ := hps k hlt
        have rk : Rd m ar (0 + k) u := by
          obtain ⟨b, w1, w2⟩ := r3 (by omega)
          exact ⟨b, w1, w2 k u q1⟩
        rw [Nat.zero_add] at rk
        have eL : lcK p i P (k + 1) = if (P.getD k []).any (tchB p i) = true then k + 1 else lcK p i P k := rfl
        have hmemP : P.getD k [] ∈ P := by rw [List.getD_eq_getElem?_getD, List.getElem?_eq_getElem hlt]; exact List.getElem_mem hlt
        have hll : (P.getD k []).length ≤ P.flatten.length := by
          obtain ⟨s, t, e⟩ := List.append_of_mem hmemP
          generalize P.getD k [] = l at e
          rw [e]; simp; omega
        generalize P.getD k [] = l at *
        generalize lcK p i P k = S at *
        obtain ⟨a3, o3, s1, s2, s3⟩ := q2.trs
        clear q1 q2 hmemP
        (repeat (first | (with_reducible refine AWo.cons ?_) | ((with_reducible refine Step.id ?_); first | ((with_reducible apply Step.move); exact rfl; exact rfl) | ((with_reducible apply Step.assign); exact rfl; exact rfl) | ((with_reducible apply Step.load); exact rfl; (focus (decide +kernel)); exact rfl; (focus (exact Rd.old _ (by assumption)))) | ((with_reducible apply Step.ix1z); exact rfl; (focus (assumption)); exact rfl; (focus (decide +kernel)); exact rfl; (focus (omega))) | ((with_reducible apply Step.lss); exact rfl; exact rfl; exact rfl) | ((with_reducible apply Step.len); exact rfl; (focus (assumption)); (focus (decide +kernel)); exact rfl)) | (with_reducible refine AWo.nil ?_) | ((with_reducible apply AW.seq)) | ((with_reducible apply Then.n)) | ((with_reducible apply AW.regL)) | ((with_reducible apply AW.block)) | ((with_reducible apply AW.skip)) | ((with_reducible apply AW.condT); exact rfl; (focus ((simp only [decide_eq_true_eq, decide_eq_false_iff_not, Bool.not_eq_true', Bool.not_eq_false', Bool.not_true, Bool.not_false]; first | assumption | omega))))))
        refine AW.loopT (fun q t L => ∃ (j : Nat) (s : Nat), q = l.length - j ∧ j ≤ l.length ∧ s = (if (l.take j).any (tchB p i) = true then k + 1 else S) ∧ L = [] ∧
          t = [(0, .pointer (some ⟨xk, 0, none⟩)), (1, .int .i64 p), (2, .int .i64 i), (8, .int .i64 (s : Nat)), (9, .int .i64 (k : Nat)), (24, pv), (25, .int .i64 (P.length : Nat)), (26, .int .i64 (k : Nat)), (31, u), (32, .int .i64 (l.length : Nat)), (33, .int .i64 (j : Nat))]) ⟨_, _, _, (Or.inl ⟨rfl, (by repeat (first | exact trivial | (refine And.intro rfl ?_)))⟩), 0, _, rfl, Nat.zero_le _, by simp, rfl, rfl⟩ ?_
        rintro q t L ⟨j, s, rfl, hj, hs, rfl, rfl⟩
        rcases Nat.lt_or_ge j l.length with hlt' | hge'
        · have hr := s3 j hlt'
          have ts := take_snocT l j hlt'
          have hstep : (if (l.take (j + 1)).any (tchB p i) = true then k + 1 else S) = if tchB p i (l.getD j default) = true then k + 1 else s := by
            rw [ts, List.any_append, hs]
            simp only [List.any_cons, List.any_nil, Bool.or_false]
            generalize (l.take j).any (tchB p i) = A
            generalize tchB p i (l.getD j default) = C
            cases A <;> cases C <;> simp
          generalize l.getD j default = x at hr hstep
          obtain ⟨xi, xf, xt, xn⟩ := x
          simp only [Tr.c] at hr
          simp only [tchB] at hstep
          clear hs ts
          by_cases d1 : xi = i
          · by_cases d2 : xf = p
            · (repeat (first | (with_reducible refine AWo.cons ?_) | ((with_reducible refine Step.id ?_); first | ((with_reducible apply Step.gdT); exact rfl; exact rfl; (focus ((simp only [decide_eq_true_eq, decide_eq_false_iff_not, Bool.not_eq_true', Bool.not_eq_false', Bool.not_true, Bool.not_false]; first | assumption | omega)))) | ((with_reducible apply Step.gdF); exact rfl; exact rfl; (focus ((simp only [decide_eq_true_eq, decide_eq_false_iff_not, Bool.not_eq_true', Bool.not_eq_false', Bool.not_true, Bool.not_false]; first | assumption | omega)))) | ((with_reducible apply Step.move); exact rfl; exact rfl) | ((with_reducible apply Step.assign); exact rfl; exact rfl) | ((with_reducible apply Step.load); exact rfl; (focus (decide +kernel)); exact rfl; (focus (exact Rd.new rfl rfl))) | ((with_reducible apply Step.loadL (n := 4)); exact rfl; (focus (decide +kernel)); (focus (decide +kernel)); exact rfl; (focus (exact RdL.old _ (by assumption))); exact rfl; exact rfl) | ((with_reducible apply Step.ix (s := 4)); exact rfl; (focus (assumption)); exact rfl; (focus (decide +kernel)); exact rfl; (focus (omega))) | ((with_reducible apply Step.field0); exact rfl; (focus (decide +kernel)); exact rfl) | ((with_reducible apply Step.field (k := 1)); exact rfl; (focus (decide +kernel)); exact rfl) | ((with_reducible apply Step.add); exact rfl; exact rfl; (focus (omega)); exact rfl) | ((with_reducible apply Step.lss); exact rfl; exact rfl; exact rfl) | ((with_reducible apply Step.eql); exact rfl; exact rfl; exact rfl) | ((with_reducible apply Step.pickT); exact rfl; exact rfl; exact rfl; exact rfl; (focus ((simp only [decide_eq_true_eq, decide_eq_false_iff_not, Bool.not_eq_true', Bool.not_eq_false', Bool.not_true, Bool.not_false]; first | assumption | omega)))) | ((with_reducible apply Step.alloc 0); exact rfl; exact ze61; exact rfl; (focus (first | (simp only [List.nil_append, List.cons_append, List.set_cons_zero, List.set_cons_succ, iv_set, bv_set, iv_rep, bv_rep]; done) | (simp only [List.nil_append, List.cons_append, List.set_cons_zero, List.set_cons_succ, iv_set, bv_set, iv_rep, bv_rep]; rfl) | rfl))) | ((with_reducible apply Step.storeA (k := 0) (n := 4)); exact rfl; exact rfl; exact rfl; exact rfl; (focus (decide +kernel)); exact rfl; (focus (kernel_rfl)); exact rfl; (focus (first | (simp only [List.nil_append, List.cons_append, List.set_cons_zero, List.set_cons_succ, iv_set, bv_set, iv_rep, bv_rep]; done) | (simp only [List.nil_append, List.cons_append, List.set_cons_zero, List.set_cons_succ, iv_set, bv_set, iv_rep, bv_rep]; rfl) | rfl)))) | (with_reducible refine AWo.nil ?_) | ((with_reducible apply AW.seq)) | ((with_reducible apply Then.n)) | ((with_reducible apply AW.regL)) | ((with_reducible apply AW.block)) | ((with_reducible apply InBlk.n)) | ((with_reducible apply AW.skip)) | ((with_reducible apply AW.condT); exact rfl; (focus (first | rfl | (simp only [decide_eq_true_eq, decide_eq_false_iff_not, Bool.not_eq_true', Bool.not_eq_false', Bool.not_true, Bool.not_false]; first | assumption | omega))))))
              exact ⟨_, [(0, .pointer (some ⟨xk, 0, none⟩)), (1, .int .i64 p), (2, .int .i64 i), (8, .int .i64 (k + 1 : Nat)), (9, .int .i64 (k : Nat)), (24, pv), (25, .int .i64 (P.length : Nat)), (26, .int .i64 (k : Nat)), (31, u), (32, .int .i64 (l.length : Nat)), (33, .int .i64 (j + 1 : Nat))], _, by omega, (Back.trim rfl rfl (by repeat (exact CellsOk.nil)) (by repeat (first | exact trivial | (refine And.intro ⟨rfl, by (first | exact .int _ _ | exact .ptr _ _ (by first | (simp; done) | omega | (simp; omega)) | exact Ren.of_sl (by assumption) (by first | omega | (simp; omega)))⟩ ?_)))), j + 1, k + 1, rfl, by omega, by rw [hstep]; simp [d1, d2], rfl, rfl⟩
            · by_cases d3 : xt = p
              · (repeat (first | (with_reducible refine AWo.cons ?_) | ((with_reducible refine Step.id ?_); first | ((with_reducible apply Step.gdT); exact rfl; exact rfl; (focus ((simp only [decide_eq_true_eq, decide_eq_false_iff_not, Bool.not_eq_true', Bool.not_eq_false', Bool.not_true, Bool.not_false]; first | assumption | omega)))) | ((with_reducible apply Step.move); exact rfl; exact rfl) | ((with_reducible apply Step.assign); exact rfl; exact rfl) | ((with_reducible apply Step.load); exact rfl; (focus (decide +kernel)); exact rfl; (focus (exact Rd.new rfl rfl))) | ((with_reducible apply Step.loadL (n := 4)); exact rfl; (focus (decide +kernel)); (focus (decide +kernel)); exact rfl; (focus (exact RdL.old _ (by assumption))); exact rfl; exact rfl) | ((with_reducible apply Step.ix (s := 4)); exact rfl; (focus (assumption)); exact rfl; (focus (decide +kernel)); exact rfl; (focus (omega))) | ((with_reducible apply Step.field0); exact rfl; (focus (decide +kernel)); exact rfl) | ((with_reducible apply Step.field (k := 1)); exact rfl; (focus (decide +kernel)); exact rfl) | ((with_reducible apply Step.field (k := 2)); exact rfl; (focus (decide +kernel)); exact rfl) | ((with_reducible apply Step.add); exact rfl; exact rfl; (focus (omega)); exact rfl) | ((with_reducible apply Step.lss); exact rfl; exact rfl; exact rfl) | ((with_reducible apply Step.eql); exact rfl; exact rfl; exact rfl) | ((with_reducible apply Step.pickT); exact rfl; exact rfl; exact rfl; exact rfl; (focus ((simp only [decide_eq_true_eq, decide_eq_false_iff_not, Bool.not_eq_true', Bool.not_eq_false', Bool.not_true, Bool.not_false]; first | assumption | omega)))) | ((with_reducible apply Step.pickF); exact rfl; exact rfl; exact rfl; exact rfl; (focus ((simp only [decide_eq_true_eq, decide_eq_false_iff_not, Bool.not_eq_true', Bool.not_eq_false', Bool.not_true, Bool.not_false]; first | assumption | omega)))) | ((with_reducible apply Step.alloc 0); exact rfl; exact ze61; exact rfl; (focus (first | (simp only [List.nil_append, List.cons_append, List.set_cons_zero, List.set_cons_succ, iv_set, bv_set, iv_rep, bv_rep]; done) | (simp only [List.nil_append, List.cons_append, List.set_cons_zero, List.set_cons_succ, iv_set, bv_set, iv_rep, bv_rep]; rfl) | rfl))) | ((with_reducible apply Step.storeA (k := 0) (n := 4)); exact rfl; exact rfl; exact rfl; exact rfl; (focus (decide +kernel)); exact rfl; (focus (kernel_rfl)); exact rfl; (focus (first | (simp only [List.nil_append, List.cons_append, List.set_cons_zero, List.set_cons_succ, iv_set, bv_set, iv_rep, bv_rep]; done) | (simp only [List.nil_append, List.cons_append, List.set_cons_zero, List.set_cons_succ, iv_set, bv_set, iv_rep, bv_rep]; rfl) | rfl)))) | (with_reducible refine AWo.nil ?_) | ((with_reducible apply AW.seq)) | ((with_reducible apply Then.n)) | ((with_reducible apply AW.regL)) | ((with_reducible apply AW.block)) | ((with_reducible apply InBlk.n)) | ((with_reducible apply AW.skip)) | ((with_reducible apply AW.condT); exact rfl; (focus ((simp only [decide_eq_true_eq, decide_eq_false_iff_not, Bool.not_eq_true', Bool.not_eq_false', Bool.not_true, Bool.not_false]; first | assumption | omega))))))
                exact ⟨_, [(0, .pointer (some ⟨xk, 0, none⟩)), (1, .int .i64 p), (2, .int .i64 i), (8, .int .i64 (k + 1 : Nat)), (9, .int .i64 (k : Nat)), (24, pv), (25, .int .i64 (P.length : Nat)), (26, .int .i64 (k : Nat)), (31, u), (32, .int .i64 (l.length : Nat)), (33, .int .i64 (j + 1 : Nat))], _, by omega, (Back.trim rfl rfl (by repeat (exact CellsOk.nil)) (by repeat (first | exact trivial | (refine And.intro ⟨rfl, by (first | exact .int _ _ | exact .ptr _ _ (by first | (simp; done) | omega | (simp; omega)) | exact Ren.of_sl (by assumption) (by first | omega | (simp; omega)))⟩ ?_)))), j + 1, k + 1, rfl, by omega, by rw [hstep]; simp [d1, d3], rfl, rfl⟩
              · (repeat (first | (with_reducible refine AWo.cons ?_) | ((with_reducible refine Step.id ?_); first | ((with_reducible apply Step.gdT); exact rfl; exact rfl; (focus ((simp only [decide_eq_true_eq, decide_eq_false_iff_not, Bool.not_eq_true', Bool.not_eq_false', Bool.not_true, Bool.not_false]; first | assumption | omega)))) | ((with_reducible apply Step.move); exact rfl; exact rfl) | ((with_reducible apply Step.load); exact rfl; (focus (decide +kernel)); exact rfl; (focus (exact Rd.new rfl rfl))) | ((with_reducible apply Step.loadL (n := 4)); exact rfl; (focus (decide +kernel)); (focus (decide +kernel)); exact rfl; (focus (exact RdL.old _ (by assumption))); exact rfl; exact rfl) | ((with_reducible apply Step.ix (s := 4)); exact rfl; (focus (assumption)); exact rfl; (focus (decide +kernel)); exact rfl; (focus (omega))) | ((with_reducible apply Step.field0); exact rfl; (focus (decide +kernel)); exact rfl) | ((with_reducible apply Step.field (k := 1)); exact rfl; (focus (decide +kernel)); exact rfl) | ((with_reducible apply Step.field (k := 2)); exact rfl; (focus (decide +kernel)); exact rfl) | ((with_reducible apply Step.add); exact rfl; exact rfl; (focus (omega)); exact rfl) | ((with_reducible apply Step.lss); exact rfl; exact rfl; exact rfl) | ((with_reducible apply Step.eql); exact rfl; exact rfl; exact rfl) | ((with_reducible apply Step.pickT); exact rfl; exact rfl; exact rfl; exact rfl; (focus ((simp only [decide_eq_true_eq, decide_eq_false_iff_not, Bool.not_eq_true', Bool.not_eq_false', Bool.not_true, Bool.not_false]; first | assumption | omega)))) | ((with_reducible apply Step.pickF); exact rfl; exact rfl; exact rfl; exact rfl; (focus ((simp only [decide_eq_true_eq, decide_eq_false_iff_not, Bool.not_eq_true', Bool.not_eq_false', Bool.not_true, Bool.not_false]; first | assumption | omega)))) | ((with_reducible apply Step.alloc 0); exact rfl; exact ze61; exact rfl; (focus (first | (simp only [List.nil_append, List.cons_append, List.set_cons_zero, List.set_cons_succ, iv_set, bv_set, iv_rep, bv_rep]; done) | (simp only [List.nil_append, List.cons_append, List.set_cons_zero, List.set_cons_succ, iv_set, bv_set, iv_rep, bv_rep]; rfl) | rfl))) | ((with_reducible apply Step.storeA (k := 0) (n := 4)); exact rfl; exact rfl; exact rfl; exact rfl; (focus (decide +kernel)); exact rfl; (focus (kernel_rfl)); exact rfl; (focus (first | (simp only [List.nil_append, List.cons_append, List.set_cons_zero, List.set_cons_succ, iv_set, bv_set, iv_rep, bv_rep]; done) | (simp only [List.nil_append, List.cons_append, List.set_cons_zero, List.set_cons_succ, iv_set, bv_set, iv_rep, bv_rep]; rfl) | rfl)))) | (with_reducible refine AWo.nil ?_) | ((with_reducible apply AW.seq)) | ((with_reducible apply Then.n)) | ((with_reducible apply AW.regL)) | ((with_reducible apply AW.block)) | ((with_reducible apply InBlk.n)) | ((with_reducible apply AW.skip)) | ((with_reducible apply AW.condT); exact rfl; (focus ((simp only [decide_eq_true_eq, decide_eq_false_iff_not, Bool.not_eq_true', Bool.not_eq_false', Bool.not_true, Bool.not_false]; first | assumption | omega)))) | ((with_reducible apply AW.condF); exact rfl; (focus ((simp only [decide_eq_true_eq, decide_eq_false_iff_not, Bool.not_eq_true', Bool.not_eq_false', Bool.not_true, Bool.not_false]; first | assumption | omega))))))
                exact ⟨_, _, _, by omega, (Back.trim rfl rfl (by repeat (exact CellsOk.nil)) (by repeat (first | exact trivial | (refine And.intro ⟨rfl, by (first | exact .int _ _ | exact .ptr _ _ (by first | (simp; done) | omega | (simp; omega)) | exact Ren.of_sl (by assumption) (by first | omega | (simp; omega)))⟩ ?_)))), j + 1, s, rfl, by omega, by rw [hstep]; simp [d2, d3], rfl, rfl⟩
          · (repeat (first | (with_reducible refine AWo.cons ?_) | ((with_reducible refine Step.id ?_); first | ((with_reducible apply Step.gdU); exact rfl; exact rfl) | ((with_reducible apply Step.gdF); exact rfl; exact rfl; (focus ((simp only [decide_eq_true_eq, decide_eq_false_iff_not, Bool.not_eq_true', Bool.not_eq_false', Bool.not_true, Bool.not_false]; first | assumption | omega)))) | ((with_reducible apply Step.move); exact rfl; exact rfl) | ((with_reducible apply Step.load); exact rfl; (focus (decide +kernel)); exact rfl; (focus (exact Rd.new rfl rfl))) | ((with_reducible apply Step.loadL (n := 4)); exact rfl; (focus (decide +kernel)); (focus (decide +kernel)); exact rfl; (focus (exact RdL.old _ (by assumption))); exact rfl; exact rfl) | ((with_reducible apply Step.ix (s := 4)); exact rfl; (focus (assumption)); exact rfl; (focus (decide +kernel)); exact rfl; (focus (omega))) | ((with_reducible apply Step.field0); exact rfl; (focus (decide +kernel)); exact rfl) | ((with_reducible apply Step.add); exact rfl; exact rfl; (focus (omega)); exact rfl) | ((with_reducible apply Step.lss); exact rfl; exact rfl; exact rfl) | ((with_reducible apply Step.eql); exact rfl; exact rfl; exact rfl) | ((with_reducible apply Step.pickF); exact rfl; exact rfl; exact rfl; exact rfl; (focus ((simp only [decide_eq_true_eq, decide_eq_false_iff_not, Bool.not_eq_true', Bool.not_eq_false', Bool.not_true, Bool.not_false]; first | assumption | omega)))) | ((with_reducible apply Step.alloc 0); exact rfl; exact ze61; exact rfl; (focus (first | (simp only [List.nil_append, List.cons_append, List.set_cons_zero, List.set_cons_succ, iv_set, bv_set, iv_rep, bv_rep]; done) | (simp only [List.nil_append, List.cons_append, List.set_cons_zero, List.set_cons_succ, iv_set, bv_set, iv_rep, bv_rep]; rfl) | rfl))) | ((with_reducible apply Step.storeA (k := 0) (n := 4)); exact rfl; exact rfl; exact rfl; exact rfl; (focus (decide +kernel)); exact rfl; (focus (kernel_rfl)); exact rfl; (focus (first | (simp only [List.nil_append, List.cons_append, List.set_cons_zero, List.set_cons_succ, iv_set, bv_set, iv_rep, bv_rep]; done) | (simp only [List.nil_append, List.cons_append, List.set_cons_zero, List.set_cons_succ, iv_set, bv_set, iv_rep, bv_rep]; rfl) | rfl)))) | (with_reducible refine AWo.nil ?_) | ((with_reducible apply AW.seq)) | ((with_reducible apply Then.n)) | ((with_reducible apply AW.regL)) | ((with_reducible apply AW.block)) | ((with_reducible apply InBlk.n)) | ((with_reducible apply AW.skip)) | ((with_reducible apply AW.condT); exact rfl; (focus ((simp only [decide_eq_true_eq, decide_eq_false_iff_not, Bool.not_eq_true', Bool.not_eq_false', Bool.not_true, Bool.not_false]; first | assumption | omega)))) | ((with_reducible apply AW.condF); exact rfl; (focus (rfl)))))
            exact ⟨_, _, _, by omega, (Back.trim rfl rfl (by repeat (exact CellsOk.nil)) (by repeat (first | exact trivial | (refine And.intro ⟨rfl, by (first | exact .int _ _ | exact .ptr _ _ (by first | (simp; done) | omega | (simp; omega)) | exact Ren.of_sl (by assumption) (by first | omega | (simp; omega)))⟩ ?_)))), j + 1, s, rfl, by omega, by rw [hstep]; simp [d1], rfl, rfl⟩
        · obtain rfl : j = l.length := by omega
          rw [List.take_length] at hs
          rw [← eL] at hs
          subst hs
          (repeat (first | (with_reducible refine AWo.cons ?_) | ((with_reducible refine Step.id ?_); first | ((with_reducible apply Step.move); exact rfl; exact rfl) | ((with_reducible apply Step.add); exact rfl; exact rfl; (focus (omega)); exact rfl) | ((with_reducible apply Step.lss); exact rfl; exact rfl; exact rfl)) | (with_reducible refine AWo.nil ?_) | ((with_reducible apply AW.seq)) | ((with_reducible apply Then.n)) | ((with_reducible apply AW.regL)) | ((with_reducible apply AW.exit)) | ((with_reducible apply InBlk.n)) | ((with_reducible apply InBlk.hit)) | ((with_reducible apply Then.e)) | ((with_reducible apply AW.condF); exact rfl; (focus ((simp only [decide_eq_true_eq, decide_eq_false_iff_not, Bool.not_eq_true', Bool.not_eq_false', Bool.not_true, Bool.not_false]; first | assumption | omega))))))
          exact ⟨_, _, _, by omega, (Or.inl ⟨rfl, (by repeat (first | exact trivial | (refine And.intro rfl ?_)))⟩), k + 1, rfl, by omega, rfl, rfl⟩
      · obtain rfl : k = P.length := by omega
        (repeat (first | (with_reducible refine AWo.cons ?_) | ((with_reducible refine Step.id ?_); first | ((with_reducible apply Step.move); exact rfl; exact rfl) | ((with_reducible apply Step.assign); exact rfl; exact rfl) | ((with_reducible apply Step.lss); exact rfl; exact rfl; exact rfl)) | (with_reducible refine AWo.nil ?_) | ((with_reducible apply AW.seq)) | ((with_reducible apply Then.n)) | ((with_reducible apply AW.regL)) | ((with_reducible apply AW.exit)) | ((with_reducible apply InBlk.hit)) | ((with_reducible apply Then.e)) | ((with_reducible apply AW.condF); exact rfl; (focus ((simp only [decide_eq_true_eq, decide_eq_false_iff_not, Bool.not_eq_true', Bool.not_eq_false', Bool.not_true, Bool.not_false]; first | assumption | omega))))))
        (refine AW.retD (l := [(6, _), (7, _)]) (by repeat (first | exact trivial | (refine And.intro ⟨rfl, by (exact .int _ _)⟩ ?_))) ?_; (repeat (first | refine Then.r ?_ | refine InBlk.r ?_)))
        exact ⟨_, rfl, rfl, rfl⟩
    · have e : rchgF P p i = (0, 2) := by unfold rchgF; rw [if_neg (by rw [inB_and, decide_eq_true c1, decide_eq_false c2]; simp)]
      rw [e]
      (repeat (first | (with_reducible refine AWo.cons ?_) | ((with_reducible refine Step.id ?_); first | ((with_reducible apply Step.gdT); exact rfl; exact rfl; (focus (rfl))) | ((with_reducible apply Step.move); exact rfl; exact rfl) | ((with_reducible apply Step.assign); exact rfl; exact rfl) | ((with_reducible apply Step.not); exact rfl; exact rfl) | ((with_reducible apply Step.pickF); exact rfl; exact rfl; exact rfl; exact rfl; (focus (rfl))) | ((with_reducible apply Step.callR fit); exact rfl; exact Try.func128; exact rfl; exact rfl; exact (hip _ _ (decide_eq_true c1))) | ((with_reducible apply Step.callR fit); exact rfl; exact Try.func128; exact rfl; exact rfl; exact (hii _ _ (decide_eq_false c2)))) | (with_reducible refine AWo.nil ?_) | ((with_reducible apply AW.seq)) | ((with_reducible apply Then.n)) | ((with_reducible apply AW.regL)) | ((with_reducible apply AW.condT); exact rfl; (focus (rfl)))))
      (refine AW.retD (l := [(6, _), (7, _)]) (by repeat (first | exact trivial | (refine And.intro ⟨rfl, by (exact .int _ _)⟩ ?_))) ?_; (repeat (first | refine Then.r ?_ | refine InBlk.r ?_)))
      exact ⟨_, rfl, rfl, rfl⟩
  · have e : rchgF P p i = (0, 2) := by unfold rchgF; rw [if_neg (by rw [inB_and, decide_eq_false c1]; simp)]
    rw [e]
    (repeat (first | (with_reducible refine AWo.cons ?_) | ((with_reducible refine Step.id ?_); first | ((with_reducible apply Step.gdF); exact rfl; exact rfl; (focus (rfl))) | ((with_reducible apply Step.move); exact rfl; exact rfl) | ((with_reducible apply Step.assign); exact rfl; exact rfl) | ((with_reducible apply Step.not); exact rfl; exact rfl) | ((with_reducible apply Step.pickT); exact rfl; exact rfl; exact rfl; exact rfl; (focus (rfl))) | ((with_reducible apply Step.callR fit); exact rfl; exact Try.func128; exact rfl; exact rfl; exact (hip _ _ (decide_eq_false c1)))) | (with_reducible refine AWo.nil ?_) | ((with_reducible apply AW.seq)) | ((with_reducible apply Then.n)) | ((with_reducible apply AW.regL)) | ((with_reducible apply AW.condT); exact rfl; (focus (rfl)))))
    (refine AW.retD (l := [(6, _), (7, _)]) (by repeat (first | exact trivial | (refine And.intro ⟨rfl, by (exact .int _ _)⟩ ?_))) ?_; (repeat (first | refine Then.r ?_ | refine InBlk.r ?_)))
    exact ⟨_, rfl, rfl, rfl⟩
end Go.Proofs.Ytabdnepfcohncaa.Abs
namespace Go.Proofs.Ytabdnepfcohncaa.Abs
set_option linter.unusedSimpArgs false
set_option linter.unusedVariables false
open Go.RowKit
open Go.Proofs.Ytabdnepfcohncaa.Sim
open Go.Proofs
theorem wth1_get {H : List Int} (hH : H.length = 256) {x : Tr} (hx : okT x = true) {p i : Nat} (hp : p < 16) (hi : i < 16) : (wth1 H x).getD (p * 16 + i) 0 = H.getD (p * 16 + i) 0 + dl p i x := by
  obtain ⟨xi, f, t, n⟩ := x
  simp only [okT, decide_eq_true_eq] at hx
  obtain ⟨x1, x2, x3, x4, x5, x6, x7, x8, x9⟩ := hx
  obtain ⟨xi, rfl⟩ := Int.eq_ofNat_of_zero_le x1
  obtain ⟨f, rfl⟩ := Int.eq_ofNat_of_zero_le x3
  obtain ⟨t, rfl⟩ := Int.eq_ofNat_of_zero_le x5
  unfold wth1 dl
  simp only [Int.toNat_natCast]
  rw [getD_set, getD_set, getD_set, List.length_set, hH]
  by_cases e1 : xi = i
  · subst e1
    by_cases e2 : t = p
    · subst e2
      rw [if_pos ⟨rfl, by omega⟩, if_neg (by omega), if_pos ⟨rfl, rfl⟩, if_neg (by omega)]
      omega
    · rw [if_neg (by omega)]
      by_cases e3 : f = p
      · subst e3
        rw [if_pos ⟨rfl, by omega⟩, if_neg (by omega), if_pos ⟨rfl, rfl⟩]
        omega
      · rw [if_neg (by omega), if_neg (by omega), if_neg (by omega)]
        omega
  · rw [if_neg (by omega), if_neg (by omega), if_neg (by omega), if_neg (by omega)]
    omega
theorem wth_get {p i : Nat} (hp : p < 16) (hi : i < 16) : ∀ (l : List Tr) (H : List Int), H.length = 256 → l.all okT = true → (wth H l).getD (p * 16 + i) 0 = H.getD (p * 16 + i) 0 + hsum p i l
  | [], H, _, _ => by simp [wth, hsum]
  | x :: l, H, hH, hl => by
    simp only [List.all_cons, Bool.and_eq_true] at hl
    show (wth (wth1 H x) l).getD _ 0 = _
    rw [wth_get hp hi l (wth1 H x) (by rw [wth1_len, hH]) hl.2, wth1_get hH hl.1 hp hi]
    show _ = _ + (dl p i x + hsum p i l)
    omega
theorem chg1_get {C : List Int} (hC : C.length = 256) {x : Tr} (hx : okT x = true) {n : Int} {p i : Nat} (hp : p < 16) (hi : i < 16) : (chg1 C n x).getD (p * 16 + i) 0 = if tchB p i x = true then n else C.getD (p * 16 + i) 0 := by
  obtain ⟨xi, f, t, k⟩ := x
  simp only [okT, decide_eq_true_eq] at hx
  obtain ⟨x1, x2, x3, x4, x5, x6, x7, x8, x9⟩ := hx
  obtain ⟨xi, rfl⟩ := Int.eq_ofNat_of_zero_le x1
  obtain ⟨f, rfl⟩ := Int.eq_ofNat_of_zero_le x3
  obtain ⟨t, rfl⟩ := Int.eq_ofNat_of_zero_le x5
  unfold chg1 tchB
  simp only [Int.toNat_natCast, Bool.and_eq_true, Bool.or_eq_true, decide_eq_true_eq]
  rw [getD_set, getD_set, List.length_set, hC]
  by_cases e1 : xi = i
  · subst e1
    by_cases e2 : t = p
    · subst e2
      rw [if_pos ⟨rfl, by omega⟩, if_pos ⟨rfl, .inr rfl⟩]
    · rw [if_neg (by omega)]
      by_cases e3 : f = p
      · subst e3
        rw [if_pos ⟨rfl, by omega⟩, if_pos ⟨rfl, .inl rfl⟩]
      · rw [if_neg (by omega), if_neg (by omega)]
  · rw [if_neg (by omega), if_neg (by omega), if_neg (by omega)]
theorem chg_get {n : Int} {p i : Nat} (hp : p < 16) (hi : i < 16) : ∀ (l : List Tr) (C : List Int), C.length = 256 → l.all okT = true → (chg C n l).getD (p * 16 + i) 0 = if l.any (tchB p i) = true then n else C.getD (p * 16 + i) 0
  | [], C, _, _ => by simp [chg]
  | x :: l, C, hC, hl => by
    simp only [List.all_cons, Bool.and_eq_true] at hl
    show (chg (chg1 C n x) n l).getD _ 0 = _
    rw [chg_get hp hi l (chg1 C n x) (by simp [chg1, hC]) hl.2, chg1_get hC hl.1 hp hi, List.any_cons]
    generalize l.any (tchB p i) = A
    generalize tchB p i x = D
    cases A <;> cases D <;> simp
theorem hsum_zero {p i : Int} : ∀ {l : List Tr}, l.any (tchB p i) = false → hsum p i l = 0
  | [], _ => rfl
  | x :: l, h => by
    rw [List.any_cons, Bool.or_eq_false_iff] at h
    show dl p i x + hsum p i l = 0
    rw [hsum_zero h.2]
    have := h.1
    simp only [tchB, Bool.and_eq_false_iff, Bool.or_eq_false_iff, decide_eq_false_iff_not] at this
    unfold dl
    rcases this with e | ⟨e1, e2⟩
    · rw [if_neg (fun h => e h.1), if_neg (fun h => e h.1)]; rfl
    · rw [if_neg (fun h => e2 h.2), if_neg (fun h => e1 h.2)]; rfl
/-- What every book keeps. -/
structure Good (B : Bk) : Prop where
  lH : B.H.length = 256
  lC : B.C.length = 256
  H : ∀ p i : Nat, p < 16 → i < 16 → B.H.getD (p * 16 + i) 0 = hsum p i B.P.flatten
  C : ∀ p i : Nat, p < 16 → i < 16 → B.C.getD (p * 16 + i) 0 = lcK p i B.P B.P.length
  bd : Bd B.H 1000000000
  nn : ∀ k, 16 ≤ k → 0 ≤ B.H.getD k 0
  ok : ∀ l ∈ B.P, postB l = true
theorem getD_rep (n k : Nat) : (List.replicate n (0 : Int)).getD k 0 = 0 := by
  simp only [List.getD_eq_getElem?_getD, List.getElem?_replicate]
  split <;> rfl
theorem Good.new : Good Bk.new where
  lH := List.length_replicate
  lC := List.length_replicate
  H := fun p i _ _ => getD_rep _ _
  C := fun p i _ _ => getD_rep _ _
  bd := fun k => by rw [show Bk.new.H = List.replicate 256 0 from rfl, getD_rep]; omega
  nn := fun k _ => by rw [show Bk.new.H = List.replicate 256 0 from rfl, getD_rep]; omega
  ok := fun l hl => absurd hl List.not_mem_nil
theorem postB_all {l : List Tr} (h : postB l = true) : 1 ≤ l.length ∧ l.length ≤ 16 ∧ l.all okT = true := by
  simp only [postB, Bool.and_eq_true, decide_eq_true_eq] at h
  exact ⟨h.1.1, h.1.2, h.2⟩
theorem lcK_app (p i : Int) (P : List (List Tr)) (l : List Tr) : ∀ k, k ≤ P.length → lcK p i (P ++ [l]) k = lcK p i P k
  | 0, _ => rfl
  | k + 1, h => by
    have : (P ++ [l]).getD k [] = P.getD k [] := by simp only [List.getD_eq_getElem?_getD]; rw [List.getElem?_append_left (by omega)]
    unfold lcK
    rw [this, lcK_app p i P l k (by omega)]
theorem Good.post {B : Bk} (h : Good B) (l : List Tr) : Good (postF B l).1 := by
  unfold postF
  split
  · exact h
  · rename_i hp
    split
    · exact h
    · rename_i hs
      split
      · exact h
      · rename_i hf
        obtain ⟨p1, p2, p3⟩ := postB_all (by simpa using hp)
        have hlw : (wth B.H l).length = 256 := by rw [wth_len, h.lH]
        refine ⟨hlw, by rw [chg_len, h.lC], fun p i hpp hi => ?_, fun p i hpp hi => ?_, fun k => ?_, fun k hk => ?_, fun q hq => ?_⟩
        · show (wth B.H l).getD _ 0 = hsum p i (B.P ++ [l]).flatten
          rw [wth_get hpp hi l B.H h.lH p3, h.H p i hpp hi, List.flatten_append, hsum_app]
          simp
        · show (chg B.C _ l).getD _ 0 = ((lcK p i (B.P ++ [l]) (B.P ++ [l]).length : Nat) : Int)
          rw [chg_get hpp hi l B.C h.lC p3, h.C p i hpp hi, List.length_append, List.length_singleton]
          have e : lcK p i (B.P ++ [l]) (B.P.length + 1) = if l.any (tchB p i) = true then B.P.length + 1 else lcK p i B.P B.P.length := by
            show (if ((B.P ++ [l]).getD B.P.length []).any (tchB p i) = true then B.P.length + 1 else lcK p i (B.P ++ [l]) B.P.length) = _
            rw [lcK_app p i B.P l _ (Nat.le_refl _)]
            simp
          rw [e]
          split <;> rfl
        · show -1000000000 ≤ (wth B.H l).getD k 0 ∧ (wth B.H l).getD k 0 ≤ 1000000000
          by_cases hk : k < 256
          · have := mt (fun e => farB_iff.2 ⟨k, hk, e⟩) hf
            omega
          · rw [List.getD_eq_getElem?_getD, List.getElem?_eq_none (by omega)]
            exact ⟨by decide, by decide⟩
        · show 0 ≤ (wth B.H l).getD k 0
          by_cases hk2 : k < 256
          · have := mt (fun e => shortB_iff.2 ⟨k, hk2, hk, e⟩) hs
            omega
          · rw [List.getD_eq_getElem?_getD, List.getElem?_eq_none (by omega)]
            exact Int.le_refl _
        · rcases List.mem_append.1 hq with hq | hq
          · exact h.ok q hq
          · simp only [List.mem_singleton] at hq
            subst hq
            simpa using hp
theorem tch_of {p i : Int} {l : List Tr} (h : l.any (tchB p i) = true) : ∃ x ∈ l, x.i = i ∧ (x.f = p ∨ x.t = p) := by
  obtain ⟨x, hx, h⟩ := List.any_eq_true.1 h
  simp only [tchB, Bool.and_eq_true, Bool.or_eq_true, decide_eq_true_eq] at h
  exact ⟨x, hx, h⟩
theorem okT_in {l : List Tr} (h : l.all okT = true) {x : Tr} (hx : x ∈ l) : ∃ i f t : Nat, x.i = i ∧ x.f = f ∧ x.t = t ∧ i < 16 ∧ f < 16 ∧ t < 16 := by
  have := List.all_eq_true.1 h x hx
  simp only [okT, decide_eq_true_eq] at this
  exact ⟨x.i.toNat, x.f.toNat, x.t.toNat, by omega, by omega, by omega, by omega, by omega, by omega⟩
/-- A count that differs is one of a transfer's. -/
theorem Good.hit {B : Bk} (h : Good B) {l : List Tr} (hl : l.all okT = true) {k : Nat} (hk : k < 256) (hne : (wth B.H l).getD k 0 ≠ B.H.getD k 0) : ∃ x ∈ l, ∃ p ∈ [x.f, x.t], p = ((k / 16 : Nat) : Int) ∧ (wth B.H l).getD k 0 = hsum p x.i (B.P.flatten ++ l) := by
  have e : k = k / 16 * 16 + k % 16 := by omega
  have hw := wth_get (p := k / 16) (i := k % 16) (by omega) (by omega) l B.H h.lH hl
  rw [← e] at hw
  have ht : l.any (tchB (k / 16 : Nat) (k % 16 : Nat)) = true := by
    cases ha : l.any (tchB (k / 16 : Nat) (k % 16 : Nat)) with
    | true => rfl
    | false => rw [hsum_zero ha] at hw; omega
  obtain ⟨x, hx, q1, q2⟩ := tch_of ht
  have hH := h.H (k / 16) (k % 16) (by omega) (by omega)
  rw [← e] at hH
  refine ⟨x, hx, ((k / 16 : Nat) : Int), by rcases q2 with q2 | q2 <;> simp [q2], rfl, ?_⟩
  rw [hsum_app, hw, hH, q1]
theorem Good.val {B : Bk} (h : Good B) {l : List Tr} (hl : l.all okT = true) {p i : Nat} (hp : p < 16) (hi : i < 16) : (wth B.H l).getD (p * 16 + i) 0 = hsum p i (B.P.flatten ++ l) := by
  rw [wth_get hp hi l B.H h.lH hl, h.H p i hp hi, hsum_app]
theorem short_eq {B : Bk} (h : Good B) {l : List Tr} (hl : l.all okT = true) : shortB (wth B.H l) = shL B.P l l := by
  rw [Bool.eq_iff_iff, shortB_iff]
  unfold shL
  simp only [List.any_eq_true]
  constructor
  · rintro ⟨k, k1, k2, k3⟩
    have hn := h.nn k k2
    obtain ⟨x, hx, p, hp, hp2, hv⟩ := h.hit hl k1 (by omega)
    refine ⟨x, hx, p, hp, ?_⟩
    rw [hv] at k3
    simp only [shAt, Bool.and_eq_true, Bool.not_eq_true', decide_eq_false_iff_not, decide_eq_true_eq]
    exact ⟨by omega, k3⟩
  · rintro ⟨x, hx, p, hp, hs⟩
    simp only [shAt, Bool.and_eq_true, Bool.not_eq_true', decide_eq_false_iff_not, decide_eq_true_eq] at hs
    obtain ⟨i, f, t, e1, e2, e3, l1, l2, l3⟩ := okT_in hl hx
    obtain ⟨q, rfl, hq⟩ : ∃ q : Nat, p = q ∧ q < 16 := by
      simp only [List.mem_cons, List.not_mem_nil, or_false] at hp
      rcases hp with rfl | rfl
      · exact ⟨f, e2, l2⟩
      · exact ⟨t, e3, l3⟩
    refine ⟨q * 16 + i, by omega, by omega, ?_⟩
    rw [h.val hl hq l1, ← e1]
    exact hs.2
theorem far_eq {B : Bk} (h : Good B) {l : List Tr} (hl : l.all okT = true) : farB (wth B.H l) = faL B.P l l := by
  rw [Bool.eq_iff_iff, farB_iff]
  unfold faL
  simp only [List.any_eq_true]
  constructor
  · rintro ⟨k, k1, k3⟩
    have hn := h.bd k
    obtain ⟨x, hx, p, hp, hp2, hv⟩ := h.hit hl k1 (by omega)
    refine ⟨x, hx, p, hp, ?_⟩
    rw [hv] at k3
    simp only [faAt, Bool.or_eq_true, decide_eq_true_eq]
    exact k3
  · rintro ⟨x, hx, p, hp, hs⟩
    simp only [faAt, Bool.or_eq_true, decide_eq_true_eq] at hs
    obtain ⟨i, f, t, e1, e2, e3, l1, l2, l3⟩ := okT_in hl hx
    obtain ⟨q, rfl, hq⟩ : ∃ q : Nat, p = q ∧ q < 16 := by
      simp only [List.mem_cons, List.not_mem_nil, or_false] at hp
      rcases hp with rfl | rfl
      · exact ⟨f, e2, l2⟩
      · exact ⟨t, e3, l3⟩
    refine ⟨q * 16 + i, by omega, ?_⟩
    rw [h.val hl hq l1, ← e1]
    exact hs
/-- Post as the reference has it. -/
theorem post_eq {B : Bk} (h : Good B) (l : List Tr) : (postF B l).2 = (rpostF B.P l).2 ∧ (postF B l).1.P = (rpostF B.P l).1 := by
  unfold postF rpostF
  cases hp : postB l with
  | false => exact ⟨rfl, rfl⟩
  | true =>
    simp only [Bool.true_eq_false, if_false]
    obtain ⟨p1, p2, p3⟩ := postB_all hp
    rw [short_eq h p3, far_eq h p3]
    split
    · exact ⟨rfl, rfl⟩
    · split
      · exact ⟨rfl, rfl⟩
      · exact ⟨rfl, rfl⟩
theorem held_eq {B : Bk} (h : Good B) (p i : Int) : lookF B.H p i = rheldF B.P p i := by
  unfold lookF rheldF
  cases hin : inB p i with
  | false => rfl
  | true =>
    simp only [inB, decide_eq_true_eq] at hin
    obtain ⟨x1, x2, x3, x4⟩ := hin
    obtain ⟨p, rfl⟩ := Int.eq_ofNat_of_zero_le x1
    obtain ⟨i, rfl⟩ := Int.eq_ofNat_of_zero_le x3
    simp only [Int.toNat_natCast]
    rw [h.H p i (by omega) (by omega)]
theorem chg_eq {B : Bk} (h : Good B) (p i : Int) : lookF B.C p i = rchgF B.P p i := by
  unfold lookF rchgF
  cases hin : inB p i with
  | false => rfl
  | true =>
    simp only [inB, decide_eq_true_eq] at hin
    obtain ⟨x1, x2, x3, x4⟩ := hin
    obtain ⟨p, rfl⟩ := Int.eq_ofNat_of_zero_le x1
    obtain ⟨i, rfl⟩ := Int.eq_ofNat_of_zero_le x3
    simp only [Int.toNat_natCast]
    rw [h.C p i (by omega) (by omega)]
theorem Good.small {B : Bk} (h : Good B) : smallT B.P.flatten := fun x hx => by
  obtain ⟨l, hl, hx⟩ := List.mem_flatten.1 hx
  exact ok_small (postB_all (h.ok l hl)).2.2 x hx
theorem flat_len : ∀ {P : List (List Tr)}, (∀ l ∈ P, postB l = true) → P.flatten.length ≤ 16 * P.length
  | [], _ => by simp
  | l :: P, h => by
    have := flat_len (P := P) fun q hq => h q (by simp [hq])
    have := postB_all (h l (by simp))
    rw [List.flatten_cons, List.length_append, List.length_cons]
    omega
end Go.Proofs.Ytabdnepfcohncaa.Abs
namespace Go.Proofs.Ytabdnepfcohncaa.Abs
set_option linter.unusedSimpArgs false
set_option linter.unusedVariables false
open Go.RowKit
open Go.Proofs.Ytabdnepfcohncaa.Sim
def by8 (l : List UInt8) : List Value := l.map fun b => .int .u8 (b.toNat : Int)
theorem by8_len (l : List UInt8) : (by8 l).length = l.length := by simp [by8]
theorem by8_get {l : List UInt8} {j : Nat} (h : j < l.length) : (by8 l)[j]? = some (.int .u8 ((l[j]).toNat : Int)) := by simp [by8, h]
theorem by8_app (a b : List UInt8) : by8 (a ++ b) = by8 a ++ by8 b := by simp [by8]
section
variable {P : Program} {nt : Nat} {ops : Array Oper} {t : Fm} {m : AM} {K : Fm → AM → Prop} {d T : Nat} {p : String} {af : Array Edge}
end
end Go.Proofs.Ytabdnepfcohncaa.Abs
namespace Go.Proofs.Ytabdnepfcohncaa.Abs
set_option linter.unusedSimpArgs false
set_option linter.unusedVariables false
open Go.RowKit
open Go.Proofs.Ytabdnepfcohncaa.Sim
open Go.Proofs
theorem un5 : Try.prog.underlying 5 = some (.int .u8) := by kernel_rfl
theorem un3 : Try.prog.underlying 3 = some (.int .i64) := by kernel_rfl
theorem un22 : Try.prog.underlying 22 = some (.slice 5) := by kernel_rfl
theorem el22 : elemB Try.prog 22 = some (5, 1, 1, #[.int .u8 0]) := by kernel_rfl
/-- Bytes in memory. -/
def Byts (m : AM) (v : Value) (l : List UInt8) : Prop := ∃ a o, Sl v a o l.length ∧ a < m.length ∧ ∀ k, k < l.length → Rd m a (o + k) (.int .u8 ((l.getD k 0).toNat : Nat))
theorem Byts.old {m : AM} {v : Value} {l : List UInt8} (T : AM) (h : Byts m v l) : Byts (m ++ T) v l := by
  obtain ⟨a, o, h1, h2, h3⟩ := h
  exact ⟨a, o, h1, by simp; omega, fun k hk => (h3 k hk).old T⟩
section
variable {P : Program} {nt : Nat} {ops : Array Oper} {t : Fm} {m : AM} {K : Fm → AM → Prop} {d T : Nat} {p : String} {af : Array Edge}
end
end Go.Proofs.Ytabdnepfcohncaa.Abs
namespace Go.Proofs.Ytabdnepfcohncaa.Abs
set_option linter.unusedSimpArgs false
set_option linter.unusedVariables false
open Go.RowKit
open Go.Proofs.Ytabdnepfcohncaa.Sim
open Go.Proofs
section
variable {P : Program} {nt : Nat} {ops : Array Oper} {t : Fm} {m : AM} {K : Fm → AM → Prop} {d T : Nat} {p : String} {af : Array Edge}
theorem Step.toB {x : Operand} {S D : TypeId} {a : Nat} (hx : evo t x = some (.int .i64 ((a : Nat) : Int))) (hS : P.underlying S = some (.int .i64)) (hD : P.underlying D = some (.int .u8)) (hlt : Nat.blt d nt = true) (hK : K (put t d (.int .u8 ((UInt8.ofNat a).toNat : Nat))) m) :
    Step P nt ops ⟨some d, .convert S D x, T, p, af, none⟩ t m K := by
  refine .ground rfl rfl hlt (by simp [Op.operands, hx, g1, g0]) (fun h => by simpa [aquiet] using h) ?_ (by simp [g1, g0]) hK
  have hw : IntKind.u8.wrap ((a : Nat) : Int) = ((UInt8.ofNat a).toNat : Nat) := by
    rw [show IntKind.u8.wrap ((a : Nat) : Int) = ((a : Nat) : Int) % 256 from rfl, UInt8.toNat_ofNat']
    omega
  simp only [execOp, evD_of hx, bind]
  rw [still_bind]
  unfold convert
  simp only [bind]
  rw [still_bind, still_und hS]
  simp only
  rw [still_bind, still_und hD]
  simp [Conv.intToInt, hw, pure, Sim.still]
end
/-- A number as bytes, the highest first. -/
def be (n : Nat) : Nat → List UInt8
  | 0 => []
  | k + 1 => UInt8.ofNat (n / 2 ^ (8 * k)) :: be n k
theorem be_len (n : Nat) : ∀ k, (be n k).length = k
  | 0 => rfl
  | k + 1 => by simp [be, be_len n k]
theorem bs22 {m : AM} {k : Nat} {a : Int} : abuildSlice Try.prog m k 22 1 [(0, .int .u8 a)] = some (.slice (some ⟨k, 0, none⟩) 1 1, m.set k (some { cells := [.int .u8 a] })) := by kernel_rfl
theorem bs22b {m : AM} {k : Nat} {a b : Int} : abuildSlice Try.prog m k 22 2 [(0, .int .u8 a), (1, .int .u8 b)] = some (.slice (some ⟨k, 0, none⟩) 2 2, m.set k (some { cells := [.int .u8 a, .int .u8 b] })) := by kernel_rfl
/-- What an addition to a row leaves as it was. -/
def Add (m M : AM) (v r : Value) : Prop := m.length ≤ M.length ∧ (∀ j, j < m.length → NotOf v j → M[j]? = m[j]?) ∧ ∀ j, j < m.length → NotOf v j → NotOf r j
theorem Add.trans {m M M' : AM} {v r w : Value} (h : Add m M v r) (h' : Add M M' r w) : Add m M' v w :=
  ⟨Nat.le_trans h.1 h'.1, fun j hj hn => by rw [h'.2.1 j (by have := h.1; omega) (h.2.2 j hj hn), h.2.1 j hj hn], fun j hj hn => h'.2.2 j (by have := h.1; omega) (h.2.2 j hj hn)⟩
theorem Add.refl (m : AM) (v : Value) : Add m m v v := ⟨Nat.le_refl _, fun _ _ _ => rfl, fun _ _ h => h⟩
theorem Add.low {m M : AM} {v r : Value} (T : AM) (h : Add (m ++ T) M v r) : Add m M v r :=
  ⟨by have := h.1; rw [List.length_append] at this; omega, fun j hj hn => by rw [h.2.1 j (by rw [List.length_append]; omega) hn, List.getElem?_append_left hj], fun j hj hn => h.2.2 j (by rw [List.length_append]; omega) hn⟩
set_option maxHeartbeats 4000000 in
set_option maxRecDepth 100000 in
theorem put_ok {m : AM} {b0 : Nat} {v : Value} {l : List UInt8} {n s : Nat} (h : Row m b0 1 v (by8 l) l.length) (hb0 : b0 ≤ m.length) (hl : l.length ≤ 1000000000) (hn : n ≤ 9223372036854775807) (hs : s ≤ 8) :
    ACall Try.prog 96 #[v, .int .i64 (n : Nat), .int .i64 (s : Nat)] m (fun r M => Row M b0 1 r (by8 (l ++ be n s)) (l ++ be n s).length ∧ Add m M v r) := by
  refine ACall.start Try.func96 rfl rfl ?_
  (repeat (first | (with_reducible refine AWo.cons ?_) | ((with_reducible refine Step.id ?_); first | ((with_reducible apply Step.move); exact rfl; exact rfl) | ((with_reducible apply Step.assign); exact rfl; exact rfl) | ((with_reducible apply Step.sub); exact rfl; exact rfl; (focus (omega)); exact rfl)) | (with_reducible refine AWo.nil ?_) | ((with_reducible apply AW.seq)) | ((with_reducible apply Then.n)) | ((with_reducible apply AW.regL)) | ((with_reducible apply AW.block))))
  refine AW.loopW (fun q t M => ∃ (k : Nat) (z : Int) (pre : List UInt8) (r : Value), q = k ∧ k ≤ s ∧ z = (k : Int) - 1 ∧ pre ++ be n k = be n s ∧ pre.length + k = s ∧ Row M b0 1 r (by8 (l ++ pre)) (l ++ pre).length ∧ Add m M v r ∧
    t = fr [(0, r), (1, .int .i64 (n : Nat)), (7, .int .i64 z)]) ⟨_, _, (by repeat (first | exact trivial | (refine And.intro rfl ?_))), s, _, [], v, rfl, Nat.le_refl _, rfl, rfl, by simp, by rw [List.append_nil, List.append_nil]; exact h, by rw [List.append_nil]; exact Add.refl _ _, rfl⟩ ?_
  rintro q t M ⟨k, z, pre, r, rfl, hk, hz, hpre, hpl, hrow, hadd, rfl⟩
  have hbM : b0 ≤ M.length := by have := hadd.1; omega
  rcases q with _ | k
  · subst hz
    refine AW.rebase ?_
    (repeat (first | (with_reducible refine AWo.cons ?_) | ((with_reducible refine Step.id ?_); first | ((with_reducible apply Step.move); exact rfl; exact rfl) | ((with_reducible apply Step.assign); exact rfl; exact rfl) | ((with_reducible apply Step.geq); exact rfl; exact rfl; exact rfl)) | (with_reducible refine AWo.nil ?_) | ((with_reducible apply AW.seq)) | ((with_reducible apply Then.n)) | ((with_reducible apply AW.regL)) | ((with_reducible apply AW.exit)) | ((with_reducible apply InBlk.hit)) | ((with_reducible apply Then.e)) | ((with_reducible apply AW.condF); exact rfl; (focus (rfl)))))
    (refine AW.ret ?_; (repeat (first | refine Then.r ?_ | refine InBlk.r ?_)))
    rw [show be n 0 = [] from rfl, List.append_nil] at hpre
    subst hpre
    exact ⟨_, rfl, by rw [List.append_nil]; exact hrow, by rw [List.append_nil]; exact hadd⟩
  · obtain rfl : z = (k : Int) := by omega
    have h8 : (8 : Int) * (k : Int) = ((8 * k : Nat) : Int) := by omega
    have hprl : (l ++ pre).length = l.length + pre.length := List.length_append
    refine AW.rebase ?_
    (repeat (first | (with_reducible refine AWo.cons ?_) | ((with_reducible refine Step.id ?_); first | ((with_reducible apply Step.move); exact rfl; exact rfl) | ((with_reducible apply Step.mulE); exact rfl; exact rfl; (focus (assumption)); (focus (omega)); exact rfl) | ((with_reducible apply Step.shrN); exact rfl; exact rfl; (focus (omega)); exact rfl) | ((with_reducible apply Step.geq); exact rfl; exact rfl; exact rfl)) | (with_reducible refine AWo.nil ?_) | ((with_reducible apply AW.seq)) | ((with_reducible apply Then.n)) | ((with_reducible apply AW.regL)) | ((with_reducible apply AW.block)) | ((with_reducible apply AW.skip)) | ((with_reducible apply AW.condT); exact rfl; (focus (rfl)))))
    ((with_reducible apply Step.toB); exact rfl; exact un3; exact un5; exact rfl)
    (repeat (first | (with_reducible refine AWo.cons ?_) | ((with_reducible refine Step.id ?_); ((with_reducible apply Step.buildS 0); exact rfl; exact rfl; exact (fun _ _ => bs22); exact rfl; (focus (first | (simp only [List.nil_append, List.cons_append, List.set_cons_zero, List.set_cons_succ, iv_set, bv_set, iv_rep, bv_rep]; done) | (simp only [List.nil_append, List.cons_append, List.set_cons_zero, List.set_cons_succ, iv_set, bv_set, iv_rep, bv_rep]; rfl) | rfl))))))
    ((with_reducible apply Step.appRow2 (n := (l ++ pre).length) (xl := 1) (b0 := b0) (new := [.int .u8 ((UInt8.ofNat (n / 2 ^ (8 * k))).toNat : Nat)])); exact rfl; exact rfl; exact (hrow.old _); exact (Sl.mk (Nat.le_refl _)); exact (fun _ => RdL.new rfl rfl); exact el22; exact un22; exact rfl; exact rfl; exact rfl; (focus (omega)); exact rfl; (focus (rw [List.length_append]; omega)))
    intro r' M' hr' hml' hk' hk2'
    have hr2 : Row M' b0 1 r' (by8 (l ++ (pre ++ [UInt8.ofNat (n / 2 ^ (8 * k))]))) (l ++ (pre ++ [UInt8.ofNat (n / 2 ^ (8 * k))])).length := by
      have e1 : by8 (l ++ (pre ++ [UInt8.ofNat (n / 2 ^ (8 * k))])) = by8 (l ++ pre) ++ [.int .u8 ((UInt8.ofNat (n / 2 ^ (8 * k))).toNat : Nat)] := by simp [by8]
      have e2 : (l ++ (pre ++ [UInt8.ofNat (n / 2 ^ (8 * k))])).length = (l ++ pre).length + 1 := by simp; omega
      rw [e1, e2]
      exact hr'
    have hadd2 : Add m M' v r' := hadd.trans (Add.low _ ⟨hml', hk', hk2'⟩)
    (repeat (first | (with_reducible refine AWo.cons ?_) | ((with_reducible refine Step.id ?_); first | ((with_reducible apply Step.move); exact rfl; exact rfl) | ((with_reducible apply Step.assign); exact rfl; exact rfl) | ((with_reducible apply Step.sub); exact rfl; exact rfl; (focus (omega)); exact rfl)) | (with_reducible refine AWo.nil ?_) | ((with_reducible apply Then.n)) | ((with_reducible apply AW.regL)) | ((with_reducible apply InBlk.n))))
    exact ⟨_, [(0, r'), (1, .int .i64 (n : Nat)), (7, .int .i64 ((k : Int) - 1))], by omega, (by repeat (first | exact trivial | (refine And.intro rfl ?_))), k, _, _, _, rfl, by omega, rfl, by rw [List.append_assoc]; exact hpre, by rw [List.length_append]; simp; omega, hr2, hadd2, rfl⟩
end Go.Proofs.Ytabdnepfcohncaa.Abs
namespace Go.Proofs.Ytabdnepfcohncaa.Abs
set_option linter.unusedSimpArgs false
set_option linter.unusedVariables false
open Go.RowKit
open Go.Proofs.Ytabdnepfcohncaa.Sim
open Go.Proofs
def trB (x : Tr) : List UInt8 := UInt8.ofNat (x.i.toNat * 16 + x.f.toNat) :: UInt8.ofNat x.t.toNat :: be x.n.toNat 4
def postBy (l : List Tr) : List UInt8 := UInt8.ofNat l.length :: l.flatMap trB
def saveB (P : List (List Tr)) : List UInt8 := P.flatMap postBy
theorem trB_len (x : Tr) : (trB x).length = 6 := by simp [trB, be_len]
theorem trBs_len (l : List Tr) : (l.flatMap trB).length = 6 * l.length := by
  induction l with
  | nil => rfl
  | cons x l ih => rw [List.flatMap_cons, List.length_append, trB_len, ih, List.length_cons]; omega
theorem postBy_len (l : List Tr) : (postBy l).length = 6 * l.length + 1 := by
  show (UInt8.ofNat l.length :: l.flatMap trB).length = _
  rw [List.length_cons, trBs_len]
theorem saveB_len : ∀ {P : List (List Tr)}, (∀ l ∈ P, postB l = true) → (saveB P).length ≤ 97 * P.length
  | [], _ => by simp [saveB]
  | l :: P, h => by
    have := saveB_len (P := P) fun q hq => h q (by simp [hq])
    have := postB_all (h l (by simp))
    show (postBy l ++ saveB P).length ≤ _
    rw [List.length_append, postBy_len, List.length_cons]
    omega
theorem saveB_snoc (P : List (List Tr)) (l : List Tr) : saveB (P ++ [l]) = saveB P ++ postBy l := by simp [saveB]
theorem Row.byts {M : AM} {b0 : Nat} {u : Value} {l : List UInt8} (h : Row M b0 1 u (by8 l) l.length) (hM : 0 < M.length) : Byts M u l := by
  obtain ⟨a, h1, h2, h3⟩ := h.sl hM
  refine ⟨a, 0, h1, h2, fun k hk => ?_⟩
  obtain ⟨b, q1, q2⟩ := h3 (by omega)
  refine ⟨b, q1, q2 k _ ?_⟩
  rw [by8_get hk, List.getD_eq_getElem?_getD, List.getElem?_eq_getElem hk]
  rfl
/-- One more piece written behind a row of bytes. -/
theorem Row.app8 {M : AM} {b0 : Nat} {r : Value} {a b : List UInt8} (h : Row M b0 1 r (by8 a ++ by8 b) (a.length + b.length)) : Row M b0 1 r (by8 (a ++ b)) (a ++ b).length := by
  rw [by8_app, List.length_append]; exact h
set_option maxHeartbeats 8000000 in
set_option maxRecDepth 100000 in
theorem Save_row {m : AM} {b0 bk : Nat} {B : Bk} {pv : Value} (h : BookAt m b0 bk B pv) (hok : ∀ l ∈ B.P, postB l = true) (hpl : B.P.length ≤ 1000000) :
    ACall Try.prog 36 #[.pointer (some ⟨bk, 0, none⟩)] m (More (fun M r => Row M m.length 1 r (by8 (saveB B.P)) (saveB B.P).length) m) := by
  have hnone := fun T => none_ok (m := m ++ T) (bk := bk) (Rd.old T ⟨_, h.cells, bkc_0⟩)
  have hbl := h.lt
  have rp := fun T => Rd.old T (show Rd m bk 513 pv from ⟨_, h.cells, bkc_P h.lH h.lC⟩)
  obtain ⟨pc, hrow, hps⟩ := h.row
  obtain ⟨ar, r1, r2, r3⟩ := hrow.sl (by omega)
  refine ACall.start Try.func36 rfl rfl ?_
  (repeat (first | (with_reducible refine AWo.cons ?_) | ((with_reducible refine Step.id ?_); first | ((with_reducible apply Step.move); exact rfl; exact rfl) | ((with_reducible apply Step.assign); exact rfl; exact rfl) | ((with_reducible apply Step.load); exact rfl; (focus (decide +kernel)); exact rfl; (focus (exact rp _))) | ((with_reducible apply Step.field (k := 513)); exact rfl; (focus (decide +kernel)); exact rfl) | ((with_reducible apply Step.len); exact rfl; (focus (assumption)); (focus (decide +kernel)); exact rfl) | ((with_reducible apply Step.nilp); exact rfl; exact rfl) | ((with_reducible apply Step.callR fit); exact rfl; exact Try.func83; exact rfl; exact rfl; exact (hnone _))) | (with_reducible refine AWo.nil ?_) | ((with_reducible apply AW.seq)) | ((with_reducible apply Then.n)) | ((with_reducible apply AW.regL)) | ((with_reducible apply AW.block)) | ((with_reducible apply AW.skip)) | ((with_reducible apply AW.condF); exact rfl; (focus (rfl)))))
  refine AW.loopW (fun q t M => ∃ (k : Nat) (r : Value), q = B.P.length - k ∧ k ≤ B.P.length ∧ Row M m.length 1 r (by8 (saveB (B.P.take k))) (saveB (B.P.take k)).length ∧ (∃ N, M = m ++ N) ∧
    t = fr [(3, r), (13, pv), (14, .int .i64 (B.P.length : Nat)), (15, .int .i64 (k : Nat))]) ⟨_, _, (by repeat (first | exact trivial | (refine And.intro rfl ?_))), 0, _, rfl, Nat.zero_le _, Row.nil, ⟨_, rfl⟩, rfl⟩ ?_
  rintro q t M ⟨k, r, rfl, hk, hR, ⟨N, rfl⟩, rfl⟩
  rcases Nat.lt_or_ge k B.P.length with hlt | hge
  · obtain ⟨u, q1, q2⟩ := hps k hlt
    have rk : ∀ T, Rd (m ++ T) ar (0 + k) u := fun T => Rd.old T (by
      obtain ⟨b, w1, w2⟩ := r3 (by omega)
      exact ⟨b, w1, w2 k u q1⟩)
    simp only [Nat.zero_add] at rk
    have hmem : B.P.getD k [] ∈ B.P := by rw [List.getD_eq_getElem?_getD, List.getElem?_eq_getElem hlt]; exact List.getElem_mem hlt
    obtain ⟨p1, p2, p3⟩ := postB_all (hok _ hmem)
    have hsl := saveB_len (P := B.P.take k) fun q hq => hok q (List.mem_of_mem_take hq)
    rw [List.length_take, Nat.min_eq_left hk] at hsl
    have hsn : saveB (B.P.take (k + 1)) = saveB (B.P.take k) ++ postBy (B.P.getD k []) := by
      rw [List.take_succ_eq_append_getElem hlt, saveB_snoc]; simp [hlt]
    have q3 := fun T => (q2.trs).old T
    generalize B.P.getD k [] = l at *
    generalize saveB (B.P.take k) = S at *
    obtain ⟨a3, o3, s1, s2, s3⟩ := q2.trs
    have s3' := fun T j (hj : j < l.length) => (s3 j hj).old T
    have rk1 := fun T => rk (N ++ T)
    simp only [← List.append_assoc] at rk1
    refine AW.rebase ?_
    (repeat (first | (with_reducible refine AWo.cons ?_) | ((with_reducible refine Step.id ?_); first | ((with_reducible apply Step.move); exact rfl; exact rfl) | ((with_reducible apply Step.assign); exact rfl; exact rfl) | ((with_reducible apply Step.load); exact rfl; (focus (decide +kernel)); exact rfl; (focus (exact rk1 _))) | ((with_reducible apply Step.ix1z); exact rfl; (focus (assumption)); exact rfl; (focus (decide +kernel)); exact rfl; (focus (omega))) | ((with_reducible apply Step.lss); exact rfl; exact rfl; exact rfl) | ((with_reducible apply Step.len); exact rfl; (focus (assumption)); (focus (decide +kernel)); exact rfl)) | (with_reducible refine AWo.nil ?_) | ((with_reducible apply AW.seq)) | ((with_reducible apply Then.n)) | ((with_reducible apply AW.regL)) | ((with_reducible apply AW.block)) | ((with_reducible apply AW.skip)) | ((with_reducible apply AW.condT); exact rfl; (focus ((simp only [decide_eq_true_eq, decide_eq_false_iff_not, Bool.not_eq_true', Bool.not_eq_false', Bool.not_true, Bool.not_false]; first | assumption | omega))))))
    ((with_reducible apply Step.toB); exact rfl; exact un3; exact un5; exact rfl)
    (repeat (first | (with_reducible refine AWo.cons ?_) | ((with_reducible refine Step.id ?_); ((with_reducible apply Step.buildS 0); exact rfl; exact rfl; exact (fun _ _ => bs22); exact rfl; (focus (first | (simp only [List.nil_append, List.cons_append, List.set_cons_zero, List.set_cons_succ, iv_set, bv_set, iv_rep, bv_rep]; done) | (simp only [List.nil_append, List.cons_append, List.set_cons_zero, List.set_cons_succ, iv_set, bv_set, iv_rep, bv_rep]; rfl) | rfl))))))
    ((with_reducible apply Step.appRow2 (n := S.length) (xl := 1) (b0 := m.length) (new := by8 [UInt8.ofNat l.length])); exact rfl; exact rfl; exact (hR.old _); exact (Sl.mk (Nat.le_refl _)); exact (fun _ => RdL.new rfl rfl); exact el22; exact un22; exact rfl; exact rfl; exact rfl; (focus (omega)); exact rfl; (focus (simp only [List.length_append]; omega)))
    intro r1' M1 hr1 hml1 hk1 _
    have hM1 := pre_keep (m0 := m) ⟨N ++ _, (List.append_assoc _ _ _)⟩ hml1 fun j hj => hk1 j (by simp only [List.length_append]; omega) (NotOf.row hR hj)
    have hr1 := Row.app8 (b := [UInt8.ofNat l.length]) hr1
    clear hk1
    (repeat (first | (with_reducible refine AWo.cons ?_) | ((with_reducible refine Step.id ?_); first | ((with_reducible apply Step.move); exact rfl; exact rfl) | ((with_reducible apply Step.assign); exact rfl; exact rfl) | ((with_reducible apply Step.len); exact rfl; (focus (assumption)); (focus (decide +kernel)); exact rfl)) | (with_reducible refine AWo.nil ?_) | ((with_reducible apply AW.seq)) | ((with_reducible apply Then.n)) | ((with_reducible apply AW.regL)) | ((with_reducible apply AW.block))))
    refine AW.loopW (fun q t M => ∃ (j : Nat) (r : Value), q = l.length - j ∧ j ≤ l.length ∧ Row M m.length 1 r (by8 (S ++ UInt8.ofNat l.length :: (l.take j).flatMap trB)) (S ++ UInt8.ofNat l.length :: (l.take j).flatMap trB).length ∧ (∃ N, M = m ++ N) ∧
      t = fr [(3, r), (13, pv), (14, .int .i64 (B.P.length : Nat)), (15, .int .i64 (k : Nat)), (25, u), (26, .int .i64 (l.length : Nat)), (27, .int .i64 (j : Nat))]) ⟨_, _, (by repeat (first | exact trivial | (refine And.intro rfl ?_))), 0, _, rfl, Nat.zero_le _, hr1, hM1, rfl⟩ ?_
    clear hM1 hr1 hml1
    rintro q t M2 ⟨j, r', rfl, hj, hR2, ⟨N2, rfl⟩, rfl⟩
    rcases Nat.lt_or_ge j l.length with hlt' | hge'
    · have hr := fun T => s3' (N2 ++ T) j hlt'
      simp only [← List.append_assoc] at hr
      have ts := take_snocT l j hlt'
      have hmem' : l.getD j default ∈ l := by rw [List.getD_eq_getElem?_getD, List.getElem?_eq_getElem hlt']; exact List.getElem_mem hlt'
      have hx := List.all_eq_true.1 p3 _ hmem'
      have hlen2 : (S ++ UInt8.ofNat l.length :: (l.take j).flatMap trB).length ≤ 500000000 := by
        rw [List.length_append, List.length_cons, trBs_len, List.length_take]; omega
      have hnx : S ++ UInt8.ofNat l.length :: (l.take (j + 1)).flatMap trB = (S ++ UInt8.ofNat l.length :: (l.take j).flatMap trB) ++ trB (l.getD j default) := by
        rw [ts, List.flatMap_append]; simp
      generalize l.getD j default = x at *
      generalize S ++ UInt8.ofNat l.length :: (l.take j).flatMap trB = S2 at *
      obtain ⟨xi, xf, xt, xn⟩ := x
      simp only [Tr.c] at hr
      simp only [okT, decide_eq_true_eq] at hx
      obtain ⟨x1, x2, x3, x4, x5, x6, x7, x8, x9⟩ := hx
      obtain ⟨i, rfl⟩ := Int.eq_ofNat_of_zero_le x1
      obtain ⟨f, rfl⟩ := Int.eq_ofNat_of_zero_le x3
      obtain ⟨t, rfl⟩ := Int.eq_ofNat_of_zero_le x5
      obtain ⟨n, rfl⟩ := Int.eq_ofNat_of_zero_le (show 0 ≤ xn by omega)
      have w1 : ((i : Nat) : Int) * 16 = ((i * 16 : Nat) : Int) := by omega
      have w2 : ((i * 16 : Nat) : Int) + ((f : Nat) : Int) = ((i * 16 + f : Nat) : Int) := by omega
      have etr : trB ⟨i, f, t, n⟩ = [UInt8.ofNat (i * 16 + f), UInt8.ofNat t] ++ be n 4 := by simp [trB]
      rw [etr, ← List.append_assoc] at hnx
      refine AW.rebase ?_
      (repeat (first | (with_reducible refine AWo.cons ?_) | ((with_reducible refine Step.id ?_); first | ((with_reducible apply Step.move); exact rfl; exact rfl) | ((with_reducible apply Step.load); exact rfl; (focus (decide +kernel)); exact rfl; (focus (exact Rd.new rfl rfl))) | ((with_reducible apply Step.loadL (n := 4)); exact rfl; (focus (decide +kernel)); (focus (decide +kernel)); exact rfl; (focus (exact hr _)); exact rfl; exact rfl) | ((with_reducible apply Step.ix (s := 4)); exact rfl; (focus (assumption)); exact rfl; (focus (decide +kernel)); exact rfl; (focus (omega))) | ((with_reducible apply Step.field0); exact rfl; (focus (decide +kernel)); exact rfl) | ((with_reducible apply Step.field (k := 1)); exact rfl; (focus (decide +kernel)); exact rfl) | ((with_reducible apply Step.addE); exact rfl; exact rfl; (focus (assumption)); (focus (omega)); exact rfl) | ((with_reducible apply Step.mulE); exact rfl; exact rfl; (focus (assumption)); (focus (omega)); exact rfl) | ((with_reducible apply Step.lss); exact rfl; exact rfl; exact rfl) | ((with_reducible apply Step.alloc 0); exact rfl; exact ze63; exact rfl; (focus (first | (simp only [List.nil_append, List.cons_append, List.set_cons_zero, List.set_cons_succ, iv_set, bv_set, iv_rep, bv_rep]; done) | (simp only [List.nil_append, List.cons_append, List.set_cons_zero, List.set_cons_succ, iv_set, bv_set, iv_rep, bv_rep]; rfl) | rfl))) | ((with_reducible apply Step.storeA (k := 0) (n := 4)); exact rfl; exact rfl; exact rfl; exact rfl; (focus (decide +kernel)); exact rfl; (focus (kernel_rfl)); exact rfl; (focus (first | (simp only [List.nil_append, List.cons_append, List.set_cons_zero, List.set_cons_succ, iv_set, bv_set, iv_rep, bv_rep]; done) | (simp only [List.nil_append, List.cons_append, List.set_cons_zero, List.set_cons_succ, iv_set, bv_set, iv_rep, bv_rep]; rfl) | rfl)))) | (with_reducible refine AWo.nil ?_) | ((with_reducible apply AW.seq)) | ((with_reducible apply Then.n)) | ((with_reducible apply AW.regL)) | ((with_reducible apply AW.block)) | ((with_reducible apply AW.skip)) | ((with_reducible apply AW.condT); exact rfl; (focus ((simp only [decide_eq_true_eq, decide_eq_false_iff_not, Bool.not_eq_true', Bool.not_eq_false', Bool.not_true, Bool.not_false]; first | assumption | omega))))))
      ((with_reducible apply Step.toB); exact rfl; exact un3; exact un5; exact rfl)
      (repeat (first | (with_reducible refine AWo.cons ?_) | ((with_reducible refine Step.id ?_); first | ((with_reducible apply Step.load); exact rfl; (focus (decide +kernel)); exact rfl; (focus (exact Rd.new rfl rfl))) | ((with_reducible apply Step.field (k := 2)); exact rfl; (focus (decide +kernel)); exact rfl))))
      ((with_reducible apply Step.toB); exact rfl; exact un3; exact un5; exact rfl)
      (repeat (first | (with_reducible refine AWo.cons ?_) | ((with_reducible refine Step.id ?_); ((with_reducible apply Step.buildS 1); exact rfl; exact rfl; exact (fun _ _ => bs22b); exact rfl; (focus (first | (simp only [List.nil_append, List.cons_append, List.set_cons_zero, List.set_cons_succ, iv_set, bv_set, iv_rep, bv_rep]; done) | (simp only [List.nil_append, List.cons_append, List.set_cons_zero, List.set_cons_succ, iv_set, bv_set, iv_rep, bv_rep]; rfl) | rfl))))))
      ((with_reducible apply Step.appRow2 (n := S2.length) (xl := 2) (b0 := m.length) (new := by8 [UInt8.ofNat (i * 16 + f), UInt8.ofNat t])); exact rfl; exact rfl; exact (hR2.old _); exact (Sl.mk (Nat.le_refl _)); exact (fun _ => RdL.new rfl rfl); exact el22; exact un22; exact rfl; exact rfl; exact rfl; (focus (omega)); exact rfl; (focus (simp only [List.length_append]; omega)))
      intro r3' M3 hr3 hml3 hk3 _
      have hM3 := pre_keep (m0 := m) ⟨N2 ++ _, (List.append_assoc _ _ _)⟩ hml3 fun j hj => hk3 j (by simp only [List.length_append]; omega) (NotOf.row hR2 hj)
      have hr3 := Row.app8 (b := [UInt8.ofNat (i * 16 + f), UInt8.ofNat t]) hr3
      have rn : ∀ T, Rd (M3 ++ T) ((m ++ N2).length + 0) 3 (.int .i64 (n : Nat)) := fun T => Rd.old T (by
        refine ⟨{ cells := [.int .i64 i, .int .i64 f, .int .i64 t, .int .i64 n] }, ?_, rfl⟩
        rw [hk3 _ (by simp only [List.length_append]; simp) (hR2.far (by omega))]
        rw [get_app]; rfl)
      clear hk3
      obtain ⟨N3, hN3⟩ := hM3
      have hput := put_ok (n := n) (s := 4) hr3 (by rw [hN3, List.length_append]; omega) (by rw [List.length_append]; simp; omega) (by omega) (by omega)
      rw [← List.append_nil M3]
      (repeat (first | (with_reducible refine AWo.cons ?_) | ((with_reducible refine Step.id ?_); first | ((with_reducible apply Step.move); exact rfl; exact rfl) | ((with_reducible apply Step.assign); exact rfl; exact rfl) | ((with_reducible apply Step.load); exact rfl; (focus (decide +kernel)); exact rfl; (focus (exact rn _))) | ((with_reducible apply Step.field (k := 3)); exact rfl; (focus (decide +kernel)); exact rfl)) | (with_reducible refine AWo.nil ?_) | ((with_reducible apply Then.n)) | ((with_reducible apply AW.regL))))
      ((with_reducible apply Step.callF fit); exact rfl; exact Try.func96; exact rfl; exact rfl; (focus (rw [List.append_nil]; exact hput)))
      rintro r4 M4 ⟨hr4, hadd⟩
      have hM4 := pre_keep (m0 := m) ⟨N3, hN3⟩ hadd.1 fun j hj => hadd.2.1 j (by rw [hN3, List.length_append]; omega) (NotOf.row hr3 hj)
      rw [← List.append_nil M4]
      (repeat (first | (with_reducible refine AWo.cons ?_) | ((with_reducible refine Step.id ?_); first | ((with_reducible apply Step.move); exact rfl; exact rfl) | ((with_reducible apply Step.assign); exact rfl; exact rfl) | ((with_reducible apply Step.add); exact rfl; exact rfl; (focus (omega)); exact rfl)) | (with_reducible refine AWo.nil ?_) | ((with_reducible apply Then.n)) | ((with_reducible apply AW.regL)) | ((with_reducible apply InBlk.n))))
      exact ⟨_, [(3, r4), (13, pv), (14, .int .i64 (B.P.length : Nat)), (15, .int .i64 (k : Nat)), (25, u), (26, .int .i64 (l.length : Nat)), (27, .int .i64 (j + 1 : Nat))], by omega, (by repeat (first | exact trivial | (refine And.intro rfl ?_))), j + 1, _, rfl, by omega, by rw [hnx, List.append_nil]; exact hr4, by rw [List.append_nil]; exact hM4, rfl⟩
    · obtain rfl : j = l.length := by omega
      rw [List.take_length] at hR2
      refine AW.rebase ?_
      (repeat (first | (with_reducible refine AWo.cons ?_) | ((with_reducible refine Step.id ?_); first | ((with_reducible apply Step.move); exact rfl; exact rfl) | ((with_reducible apply Step.add); exact rfl; exact rfl; (focus (omega)); exact rfl) | ((with_reducible apply Step.lss); exact rfl; exact rfl; exact rfl)) | (with_reducible refine AWo.nil ?_) | ((with_reducible apply AW.seq)) | ((with_reducible apply Then.n)) | ((with_reducible apply AW.regL)) | ((with_reducible apply AW.exit)) | ((with_reducible apply InBlk.n)) | ((with_reducible apply InBlk.hit)) | ((with_reducible apply Then.e)) | ((with_reducible apply AW.condF); exact rfl; (focus ((simp only [decide_eq_true_eq, decide_eq_false_iff_not, Bool.not_eq_true', Bool.not_eq_false', Bool.not_true, Bool.not_false]; first | assumption | omega))))))
      exact ⟨_, [(3, r'), (13, pv), (14, .int .i64 (B.P.length : Nat)), (15, .int .i64 (k + 1 : Nat))], by omega, (by repeat (first | exact trivial | (refine And.intro rfl ?_))), k + 1, _, rfl, by omega, by rw [hsn, List.append_nil]; exact hR2, ⟨N2, by rw [List.append_nil]⟩, rfl⟩
  · obtain rfl : k = B.P.length := by omega
    rw [List.take_length] at hR
    refine AW.rebase ?_
    (repeat (first | (with_reducible refine AWo.cons ?_) | ((with_reducible refine Step.id ?_); first | ((with_reducible apply Step.move); exact rfl; exact rfl) | ((with_reducible apply Step.assign); exact rfl; exact rfl) | ((with_reducible apply Step.lss); exact rfl; exact rfl; exact rfl)) | (with_reducible refine AWo.nil ?_) | ((with_reducible apply AW.seq)) | ((with_reducible apply Then.n)) | ((with_reducible apply AW.regL)) | ((with_reducible apply AW.exit)) | ((with_reducible apply InBlk.hit)) | ((with_reducible apply Then.e)) | ((with_reducible apply AW.condF); exact rfl; (focus ((simp only [decide_eq_true_eq, decide_eq_false_iff_not, Bool.not_eq_true', Bool.not_eq_false', Bool.not_true, Bool.not_false]; first | assumption | omega))))))
    (refine AW.ret ?_; (repeat (first | refine Then.r ?_ | refine InBlk.r ?_)))
    exact ⟨_, rfl, N, by rw [List.append_nil], by rw [List.append_nil]; exact hR⟩
theorem Save_ok {m : AM} {b0 bk : Nat} {B : Bk} {pv : Value} (h : BookAt m b0 bk B pv) (hok : ∀ l ∈ B.P, postB l = true) (hpl : B.P.length ≤ 1000000) :
    ACall Try.prog 36 #[.pointer (some ⟨bk, 0, none⟩)] m (More (fun M r => Byts M r (saveB B.P)) m) :=
  (Save_row h hok hpl).mono fun r M ⟨N, hN, hr⟩ => ⟨N, hN, hr.byts (by have := h.lt; rw [hN, List.length_append]; omega)⟩
end Go.Proofs.Ytabdnepfcohncaa.Abs
namespace Go.Proofs.Ytabdnepfcohncaa.Abs
set_option linter.unusedSimpArgs false
set_option linter.unusedVariables false
open Go.RowKit
open Go.Proofs.Ytabdnepfcohncaa.Sim
open Go.Proofs
section
variable {P : Program} {nt : Nat} {ops : Array Oper} {t : Fm} {m : AM} {K : Fm → AM → Prop} {d T : Nat} {p : String} {af : Array Edge}
end
theorem upL_noT {L : Nat → Bool} {i j : Nat} (h : upL L i j = false) : L j = false := by
  by_cases e : j = i
  · subst e; rw [upL_same] at h; cases h
  · rwa [upL_ne L e] at h
/-- What holds whatever of the region was done: 0 to 18 reckon, 19 makes the element, 20 adds it, 21 stores the row (in block q, or in slot 6 where q is no block). -/
structure TI (m0 : AM) (b0 q s : Nat) (base : List (Nat × Value)) (pv : Nat → Option Value) (u0 : Value) (c new : List Value) (n : Nat) (L : Nat → Bool) (t : Fm) (M : AM) : Prop where
  len : m0.length ≤ M.length
  old : ∀ e ∈ base, t e.1 = some e.2
  pure : ∀ j v, pv j = some v → L j = true → t (s + j) = some v
  keep : ∀ j, j < m0.length → j ≠ q → NotOf u0 j → M[j]? = m0[j]?
  row : L 20 = false → Row M b0 4 u0 c n
  cell : q < m0.length → L 21 = false → M[q]? = some (some { cells := [u0] })
  six : m0.length ≤ q → L 21 = false → t 6 = some u0
  lit : L 19 = true → ∃ a, t (s + 19) = some (.slice (some ⟨a, 0, none⟩) 1 1) ∧ (L 20 = false → RdL M a 0 new)
  app : L 20 = true → ∃ u, t (s + 20) = some u ∧ SlV u ∧ Row M b0 4 u (c ++ new) (n + 1) ∧ ∀ j, j < m0.length → NotOf u0 j → NotOf u j
  map : ∀ (i : Nat) (b : Blk), M[i]? = some (some b) → isMapK b.kind = true → m0[i]? = some (some b)
  c0 : L 20 = true → L 0 = true
  c21 : L 21 = true → L 20 = true
  fin : L 21 = true → ∃ u, Row M b0 4 u (c ++ new) (n + 1) ∧ (∀ j, j < m0.length → NotOf u0 j → NotOf u j) ∧ (q < m0.length → M[q]? = some (some { cells := [u] })) ∧ (m0.length ≤ q → t 6 = some u)
section
variable {m0 M : AM} {b0 q s : Nat} {base : List (Nat × Value)} {pv : Nat → Option Value} {u0 : Value} {c new : List Value} {n : Nat} {L : Nat → Bool} {t : Fm}
theorem TI.start (h : ∀ e ∈ base, t e.1 = some e.2) (hr : Row m0 b0 4 u0 c n) (hc : q < m0.length → m0[q]? = some (some { cells := [u0] })) (h6 : m0.length ≤ q → t 6 = some u0) : TI m0 b0 q s base pv u0 c new n (fun _ => false) t m0 :=
  ⟨Nat.le_refl _, h, fun _ _ _ q => (by cases q), fun _ _ _ _ => rfl, fun _ => hr, fun h _ => hc h, fun h _ => h6 h, fun q => (by cases q), fun q => (by cases q), fun i b hi _ => hi, fun q => (by cases q), fun q => (by cases q), fun q => (by cases q)⟩
theorem TI.put (h : TI m0 b0 q s base pv u0 c new n L t M) (hb : ∀ e ∈ base, e.1 < s) (hs : 6 < s) {j : Nat} {v : Value} (hv : pv j = some v) (hj : j < 19) : TI m0 b0 q s base pv u0 c new n (upL L j) (Abs.put t (s + j) v) M where
  len := h.len
  old := fun e he => by rw [put_ne t v (by have := hb e he; omega)]; exact h.old e he
  pure := fun k w hw hk => by
    by_cases e : k = j
    · subst e
      rw [hv] at hw
      injection hw with hw
      rw [put_same, hw]
    · rw [upL_ne L e] at hk
      rw [put_ne t v (by omega)]
      exact h.pure k w hw hk
  keep := h.keep
  row := fun r => h.row (upL_noT r)
  cell := fun r r2 => h.cell r (upL_noT r2)
  six := fun r r2 => by rw [put_ne t v (by omega)]; exact h.six r (upL_noT r2)
  lit := fun r => by
    rw [upL_ne L (by omega)] at r
    obtain ⟨a, a1, a2⟩ := h.lit r
    exact ⟨a, by rw [put_ne t v (by omega)]; exact a1, fun r => a2 (upL_noT r)⟩
  app := fun r => by
    rw [upL_ne L (by omega)] at r
    obtain ⟨a, a1, a2⟩ := h.app r
    exact ⟨a, by rw [put_ne t v (by omega)]; exact a1, a2⟩
  map := h.map
  c0 := fun r => by
    rw [upL_ne L (by omega)] at r
    by_cases e : 0 = j
    · rw [← e]; exact upL_same _ _
    · rw [upL_ne L e]; exact h.c0 r
  c21 := fun r => by rw [upL_ne L (by omega)] at r ⊢; exact h.c21 r
  fin := fun r => by
    rw [upL_ne L (by omega)] at r
    obtain ⟨a, a1, a2, a3, a4⟩ := h.fin r
    exact ⟨a, a1, a2, a3, fun r => by rw [put_ne t v (by omega)]; exact a4 r⟩
end
end Go.Proofs.Ytabdnepfcohncaa.Abs
namespace Go.Proofs.Ytabdnepfcohncaa.Abs
set_option linter.unusedSimpArgs false
set_option linter.unusedVariables false
open Go.RowKit
open Go.Proofs.Ytabdnepfcohncaa.Sim
open Go.Proofs
/-- A place is named, nothing lies in it. -/
theorem Post.none_put {base : Nat} {R : Pl} {m : AM} {w : World} (h : MRep base R m w) (q : Sim.Place) : Post base m (m ++ [none]) R (R.put m.length q) w w := by
  have hle := Pl.le_put R m.length q (h.none_ _ (Nat.le_refl _))
  have old : ∀ (i : Nat) (b : Blk), (m ++ [none])[i]? = some (some b) → m[i]? = some (some b) := by
    intro i b hi
    rcases Nat.lt_or_ge i m.length with hl | hl
    · rwa [List.getElem?_append_left hl] at hi
    · rw [List.getElem?_append_right hl] at hi
      rcases Nat.eq_zero_or_pos (i - m.length) with e | e
      · rw [e] at hi; simp at hi
      · rw [List.getElem?_eq_none (by simp; omega)] at hi; cases hi
  have ne : ∀ (i : Nat) (b : Blk), m[i]? = some (some b) → i ≠ m.length := fun i b hi => by
    have := (List.getElem?_eq_some_iff.1 hi).1
    omega
  refine ⟨hle, ⟨fun j hj => ?_, fun j d hj => ?_, fun i j b c p r hi hj hb hc hij hp hr => ?_⟩, rfl, rfl, rfl, Nat.le_refl _, fun _ _ _ => rfl, fun k ho => .inr ?_⟩
  · simp at hj
    rw [Pl.put_other _ _ (by omega)]
    exact h.none_ j (by omega)
  · obtain ⟨r, h1, h2⟩ := h.rep j d (old j d hj)
    exact ⟨r, hle _ _ h1, h2.mono hle⟩
  · rw [Pl.put_other _ _ (ne i b (old i b hi))] at hp
    rw [Pl.put_other _ _ (ne j c (old j c hj))] at hr
    exact h.apart i j b c p r (old i b hi) (old j c hj) hb hc hij hp hr
  · obtain ⟨i, b, p, h1, h2, h3, h4⟩ := ho
    rw [Pl.put_other _ _ (ne i b (old i b h1))] at h3
    exact ⟨i, b, p, old i b h1, h2, h3, h4⟩
section
variable {P : Program} {nt : Nat} {ops : Array Oper} {t : Fm} {m : AM} {K : Fm → AM → Prop} {d T : Nat} {p : String} {af : Array Edge}
end
theorem bl88 : abuild Try.prog 88 [] = some (.agg #[.slice none 0 0]) := by kernel_rfl
theorem bl61 {a b c d : Int} : abuild Try.prog 61 [(0, .int .i64 a), (1, .int .i64 b), (2, .int .i64 c), (3, .int .i64 d)] = some (.agg #[.int .i64 a, .int .i64 b, .int .i64 c, .int .i64 d]) := by kernel_rfl
theorem bl63 {a b c d : Int} : abuild Try.prog 63 [(0, .int .i64 a), (1, .int .i64 b), (2, .int .i64 c), (3, .int .i64 d)] = some (.agg #[.int .i64 a, .int .i64 b, .int .i64 c, .int .i64 d]) := by kernel_rfl
theorem bs48 {m : AM} {k : Nat} {a b c d : Int} : abuildSlice Try.prog m k 48 1 [(0, .agg #[.int .i64 a, .int .i64 b, .int .i64 c, .int .i64 d])] = some (.slice (some ⟨k, 0, none⟩) 1 1, m.set k (some { cells := [.int .i64 a, .int .i64 b, .int .i64 c, .int .i64 d] })) := by kernel_rfl
theorem bs55 {m : AM} {k : Nat} {a b c d : Int} : abuildSlice Try.prog m k 55 1 [(0, .agg #[.int .i64 a, .int .i64 b, .int .i64 c, .int .i64 d])] = some (.slice (some ⟨k, 0, none⟩) 1 1, m.set k (some { cells := [.int .i64 a, .int .i64 b, .int .i64 c, .int .i64 d] })) := by kernel_rfl
/-- Bytes that come from elsewhere. -/
def BytsAt (m : AM) (v : Value) (a o : Nat) (l : List UInt8) : Prop := Sl v a o l.length ∧ ∀ k, k < l.length → Rd m a (o + k) (.int .u8 ((l.getD k 0).toNat : Nat))
theorem BytsAt.keep {m M : AM} {v : Value} {a o : Nat} {l : List UInt8} (h : BytsAt m v a o l) (hk : M[a]? = m[a]?) : BytsAt M v a o l := ⟨h.1, fun k hk' => by
  obtain ⟨b, q1, q2⟩ := h.2 k hk'
  exact ⟨b, by rw [hk]; exact q1, q2⟩⟩
theorem PostsAt.notOf {M : AM} {b0 a sz : Nat} {kd : Kind} {pv : Value} {P : List (List Tr)} {l : List Tr} (h : PostsAt M b0 pv P) (ha : M[a]? = some (some { cells := tcs l, kind := kd, size := sz })) (hl : 0 < l.length) : NotOf pv a := by
  intro n c e
  obtain ⟨pc, hrow, hps⟩ := h
  rcases hrow with ⟨h0, _⟩ | ⟨a', kd', sz', k1, k2, k3, k4, k5⟩
  · rw [e] at h0; cases h0
  · rw [k2] at e
    simp only [Value.slice.injEq, Option.some.injEq, Addr.mk.injEq] at e
    obtain ⟨rfl, _⟩ := e.1
    rw [ha] at k3
    injection k3 with k3; injection k3 with k3
    injection k3 with k3 _ _
    subst k3
    rw [tcs_len] at k4
    obtain ⟨u, q1, a'', _, _, q4, _⟩ := hps 0 (by omega)
    have := tcs_get l 0 hl 0 _ rfl
    simp only [Nat.zero_mul, Nat.zero_add] at this
    rw [this] at q1
    injection q1 with q1
    rw [q4] at q1
    cases q1
/-- A row just made stays a row of transfers whatever a book does. -/
theorem Row.trsKeep {M M' : AM} {b0 b1 xk : Nat} {pv u : Value} {P : List (List Tr)} {l : List Tr} (hX : PostsAt M b1 pv P) (hne : ∀ a x, Rd M a 0 (.int .i64 x) → a ≠ xk) (hr : Row M b0 4 u (tcs l) l.length) (h0 : 0 < M.length) (hF : Fr M M' xk pv) : Trs M' u l := by
  rcases hr with ⟨rfl, h1, h2⟩ | ⟨a, kd, sz, k1, rfl, k3, k4, k5⟩
  · obtain rfl := List.eq_nil_of_length_eq_zero h2
    exact Trs.nil (by have := hF.1; omega)
  · have hal := (List.getElem?_eq_some_iff.1 k3).1
    by_cases hl : 0 < l.length
    · have hrd : Rd M a 0 (.int .i64 (l.getD 0 default).i) := ⟨_, k3, by simpa using tcs_get l 0 hl 0 _ rfl⟩
      have e : M'[a]? = M[a]? := hF.2 a hal (hne a _ hrd) (hX.notOf k3 hl)
      exact ⟨a, 0, Sl.mk (Nat.le_refl _), by have := hF.1; omega, fun k hk => ⟨_, by rw [e]; exact k3, fun j v hj => by rw [Nat.zero_add]; exact tcs_get l k hk j v hj⟩⟩
    · obtain rfl := List.eq_nil_of_length_eq_zero (show l.length = 0 by omega)
      exact ⟨a, 0, Sl.mk (Nat.le_refl _), by have := hF.1; omega, fun k hk => by simp at hk⟩
end Go.Proofs.Ytabdnepfcohncaa.Abs
namespace Go.Proofs.Ytabdnepfcohncaa.Abs
set_option linter.unusedSimpArgs false
set_option linter.unusedVariables false
open Go.RowKit Go.Shelf
open Go.Proofs.Ytabdnepfcohncaa.Sim
open Go.Proofs
theorem bl133 : abuild Try.prog 133 [(0, .bool true)] = some (.agg (bkc (List.replicate 256 0) (List.replicate 256 0) (.slice none 0 0)).toArray) := by kernel_rfl
set_option maxRecDepth 100000 in
theorem NewBook_ok {m : AM} : ACall Try.prog 27 #[] m (NewL (fun k => .pointer (some ⟨k, 0, none⟩)) [some { cells := bkc (List.replicate 256 0) (List.replicate 256 0) (.slice none 0 0) }] m) := by
  refine ACall.start Try.func27 rfl rfl ?_
  (repeat (first | (with_reducible refine AWo.cons ?_) | ((with_reducible refine Step.id ?_); first | ((with_reducible apply Step.assign); exact rfl; exact rfl) | ((with_reducible apply Step.box 0); exact rfl; exact rfl; (focus (kernel_rfl)); exact rfl; (focus (first | (simp only [List.nil_append, List.cons_append, List.set_cons_zero, List.set_cons_succ, iv_set, bv_set, iv_rep, bv_rep]; done) | (simp only [List.nil_append, List.cons_append, List.set_cons_zero, List.set_cons_succ, iv_set, bv_set, iv_rep, bv_rep]; rfl) | rfl))) | ((with_reducible apply Step.build); exact rfl; exact bl133; exact rfl)) | (with_reducible refine AWo.nil ?_) | ((with_reducible apply AW.seq)) | ((with_reducible apply Then.n)) | ((with_reducible apply AW.regL))))
  (refine AW.ret ?_; (repeat (first | refine Then.r ?_ | refine InBlk.r ?_)))
  exact ⟨_, rfl, rfl, rfl⟩
theorem postF_len (B : Bk) (l : List Tr) : (postF B l).1.P.length ≤ B.P.length + 1 := by
  unfold postF
  split
  · exact Nat.le_succ _
  · split
    · exact Nat.le_succ _
    · split
      · exact Nat.le_succ _
      · simp
end Go.Proofs.Ytabdnepfcohncaa.Abs
namespace Go.Proofs.Ytabdnepfcohncaa.Abs
set_option linter.unusedSimpArgs false
set_option linter.unusedVariables false
open Go.RowKit
open Go.Proofs.Ytabdnepfcohncaa.Sim
open Go.Proofs
set_option maxHeartbeats 8000000 in
set_option maxRecDepth 100000 in
theorem counts_ok {m : AM} {b0 b1 bk xk : Nat} {B : Bk} {pv px : Value} (h : BookAt m b0 bk B pv) (hx : RBook m b1 xk B.P px) (hg : Good B) (hpl : B.P.length ≤ 1000000) :
    ACall Try.prog 37 #[.pointer (some ⟨bk, 0, none⟩), .pointer (some ⟨xk, 0, none⟩)] m (Ret (.bool true) m) := by
  have hfl := flat_len hg.ok
  have h1 := fun T p i => Held_ok p i (h.old T)
  have h2 := fun T p i => RHeld_ok p i (hx.old T) hg.small (by omega) hpl
  have h3 := fun T p i => Changed_ok p i (h.old T)
  have h4 := fun T p i => RChanged_ok p i (hx.old T) (by omega) hpl
  simp only [held_eq hg, chg_eq hg] at h1 h3
  have hbl := h.lt
  have hxl := hx.lt
  refine ACall.start Try.func37 rfl rfl ?_
  (repeat (first | (with_reducible refine AWo.cons ?_) | ((with_reducible refine Step.id ?_); ((with_reducible apply Step.assign); exact rfl; exact rfl)) | (with_reducible refine AWo.nil ?_) | ((with_reducible apply AW.seq)) | ((with_reducible apply Then.n)) | ((with_reducible apply AW.regL)) | ((with_reducible apply AW.block))))
  refine AW.loopT (fun n t L => ∃ z : Int, n = (17 - z).toNat ∧ -1 ≤ z ∧ z ≤ 17 ∧ L = [] ∧
    t = [(0, .pointer (some ⟨bk, 0, none⟩)), (1, .pointer (some ⟨xk, 0, none⟩)), (5, .int .i64 z)]) ⟨_, _, _, (Or.inl ⟨rfl, (by repeat (first | exact trivial | (refine And.intro rfl ?_)))⟩), -1, rfl, by omega, by omega, rfl, rfl⟩ ?_
  rintro n t L ⟨p, rfl, p1, p2, rfl, rfl⟩
  by_cases c0 : p ≤ 16
  · (repeat (first | (with_reducible refine AWo.cons ?_) | ((with_reducible refine Step.id ?_); first | ((with_reducible apply Step.move); exact rfl; exact rfl) | ((with_reducible apply Step.assign); exact rfl; exact rfl) | ((with_reducible apply Step.leq); exact rfl; exact rfl; exact rfl)) | (with_reducible refine AWo.nil ?_) | ((with_reducible apply AW.seq)) | ((with_reducible apply Then.n)) | ((with_reducible apply AW.regL)) | ((with_reducible apply AW.block)) | ((with_reducible apply AW.skip)) | ((with_reducible apply AW.condT); exact rfl; (focus ((simp only [decide_eq_true_eq, decide_eq_false_iff_not, Bool.not_eq_true', Bool.not_eq_false', Bool.not_true, Bool.not_false]; first | assumption | omega))))))
    refine AW.loopT (fun n t L => ∃ z : Int, n = (17 - z).toNat ∧ -1 ≤ z ∧ z ≤ 17 ∧ L = [] ∧
      t = [(0, .pointer (some ⟨bk, 0, none⟩)), (1, .pointer (some ⟨xk, 0, none⟩)), (5, .int .i64 p), (6, .int .i64 z)]) ⟨_, _, _, (Or.inl ⟨rfl, (by repeat (first | exact trivial | (refine And.intro rfl ?_)))⟩), -1, rfl, by omega, by omega, rfl, rfl⟩ ?_
    rintro n t L ⟨i, rfl, i1, i2, rfl, rfl⟩
    by_cases c1 : i ≤ 16
    · by_cases d1 : 4 < i
      · by_cases d2 : i < 15
        · (repeat (first | (with_reducible refine AWo.cons ?_) | ((with_reducible refine Step.id ?_); first | ((with_reducible apply Step.gdU); exact rfl; exact rfl) | ((with_reducible apply Step.gdT); exact rfl; exact rfl; (focus ((simp only [decide_eq_true_eq, decide_eq_false_iff_not, Bool.not_eq_true', Bool.not_eq_false', Bool.not_true, Bool.not_false]; first | assumption | omega)))) | ((with_reducible apply Step.gdF); exact rfl; exact rfl; (focus ((simp only [decide_eq_true_eq, decide_eq_false_iff_not, Bool.not_eq_true', Bool.not_eq_false', Bool.not_true, Bool.not_false]; first | assumption | omega)))) | ((with_reducible apply Step.move); exact rfl; exact rfl) | ((with_reducible apply Step.assign); exact rfl; exact rfl) | ((with_reducible apply Step.add); exact rfl; exact rfl; (focus (omega)); exact rfl) | ((with_reducible apply Step.lss); exact rfl; exact rfl; exact rfl) | ((with_reducible apply Step.leq); exact rfl; exact rfl; exact rfl) | ((with_reducible apply Step.gtr); exact rfl; exact rfl; exact rfl) | ((with_reducible apply Step.pickT); exact rfl; exact rfl; exact rfl; exact rfl; (focus ((simp only [decide_eq_true_eq, decide_eq_false_iff_not, Bool.not_eq_true', Bool.not_eq_false', Bool.not_true, Bool.not_false]; first | assumption | omega))))) | (with_reducible refine AWo.nil ?_) | ((with_reducible apply AW.seq)) | ((with_reducible apply Then.n)) | ((with_reducible apply AW.regL)) | ((with_reducible apply AW.block)) | ((with_reducible apply AW.exit)) | ((with_reducible apply InBlk.hit)) | ((with_reducible apply Then.e)) | ((with_reducible apply AW.skip)) | ((with_reducible apply AW.condT); exact rfl; (focus (first | rfl | (simp only [decide_eq_true_eq, decide_eq_false_iff_not, Bool.not_eq_true', Bool.not_eq_false', Bool.not_true, Bool.not_false]; first | assumption | omega))))))
          exact ⟨_, _, _, by omega, (Or.inl ⟨rfl, (by repeat (first | exact trivial | (refine And.intro rfl ?_)))⟩), i + 1, rfl, by omega, by omega, rfl, rfl⟩
        · by_cases d3 : 7 < p
          · by_cases d4 : p < 15
            · (repeat (first | (with_reducible refine AWo.cons ?_) | ((with_reducible refine Step.id ?_); first | ((with_reducible apply Step.gdT); exact rfl; exact rfl; (focus ((simp only [decide_eq_true_eq, decide_eq_false_iff_not, Bool.not_eq_true', Bool.not_eq_false', Bool.not_true, Bool.not_false]; first | assumption | omega)))) | ((with_reducible apply Step.move); exact rfl; exact rfl) | ((with_reducible apply Step.assign); exact rfl; exact rfl) | ((with_reducible apply Step.add); exact rfl; exact rfl; (focus (omega)); exact rfl) | ((with_reducible apply Step.lss); exact rfl; exact rfl; exact rfl) | ((with_reducible apply Step.leq); exact rfl; exact rfl; exact rfl) | ((with_reducible apply Step.gtr); exact rfl; exact rfl; exact rfl) | ((with_reducible apply Step.pickT); exact rfl; exact rfl; exact rfl; exact rfl; (focus ((simp only [decide_eq_true_eq, decide_eq_false_iff_not, Bool.not_eq_true', Bool.not_eq_false', Bool.not_true, Bool.not_false]; first | assumption | omega)))) | ((with_reducible apply Step.pickF); exact rfl; exact rfl; exact rfl; exact rfl; (focus ((simp only [decide_eq_true_eq, decide_eq_false_iff_not, Bool.not_eq_true', Bool.not_eq_false', Bool.not_true, Bool.not_false]; first | assumption | omega))))) | (with_reducible refine AWo.nil ?_) | ((with_reducible apply AW.seq)) | ((with_reducible apply Then.n)) | ((with_reducible apply AW.regL)) | ((with_reducible apply AW.block)) | ((with_reducible apply AW.exit)) | ((with_reducible apply InBlk.hit)) | ((with_reducible apply Then.e)) | ((with_reducible apply AW.skip)) | ((with_reducible apply AW.condT); exact rfl; (focus ((simp only [decide_eq_true_eq, decide_eq_false_iff_not, Bool.not_eq_true', Bool.not_eq_false', Bool.not_true, Bool.not_false]; first | assumption | omega))))))
              exact ⟨_, _, _, by omega, (Or.inl ⟨rfl, (by repeat (first | exact trivial | (refine And.intro rfl ?_)))⟩), i + 1, rfl, by omega, by omega, rfl, rfl⟩
            · (repeat (first | (with_reducible refine AWo.cons ?_) | ((with_reducible refine Step.id ?_); first | ((with_reducible apply Step.gdT); exact rfl; exact rfl; (focus (first | (simp only [decide_eq_true_eq, decide_eq_false_iff_not, Bool.not_eq_true', Bool.not_eq_false', Bool.not_true, Bool.not_false]; first | assumption | omega) | (simp; done)))) | ((with_reducible apply Step.move); exact rfl; exact rfl) | ((with_reducible apply Step.assign); exact rfl; exact rfl) | ((with_reducible apply Step.add); exact rfl; exact rfl; (focus (omega)); exact rfl) | ((with_reducible apply Step.lss); exact rfl; exact rfl; exact rfl) | ((with_reducible apply Step.leq); exact rfl; exact rfl; exact rfl) | ((with_reducible apply Step.gtr); exact rfl; exact rfl; exact rfl) | ((with_reducible apply Step.neq); exact rfl; exact rfl; exact rfl) | ((with_reducible apply Step.extract); exact rfl; exact rfl; exact rfl) | ((with_reducible apply Step.pickT); exact rfl; exact rfl; exact rfl; exact rfl; (focus ((simp only [decide_eq_true_eq, decide_eq_false_iff_not, Bool.not_eq_true', Bool.not_eq_false', Bool.not_true, Bool.not_false]; first | assumption | omega)))) | ((with_reducible apply Step.pickF); exact rfl; exact rfl; exact rfl; exact rfl; (focus (first | (simp only [decide_eq_true_eq, decide_eq_false_iff_not, Bool.not_eq_true', Bool.not_eq_false', Bool.not_true, Bool.not_false]; first | assumption | omega) | (simp; done)))) | ((with_reducible apply Step.callR fit); exact rfl; exact Try.func32; exact rfl; exact rfl; exact (h1 _ _ _)) | ((with_reducible apply Step.callR fit); exact rfl; exact Try.func97; exact rfl; exact rfl; exact (h2 _ _ _)) | ((with_reducible apply Step.callR fit); exact rfl; exact Try.func98; exact rfl; exact rfl; exact (h3 _ _ _)) | ((with_reducible apply Step.callR fit); exact rfl; exact Try.func99; exact rfl; exact rfl; exact (h4 _ _ _))) | (with_reducible refine AWo.nil ?_) | ((with_reducible apply AW.seq)) | ((with_reducible apply Then.n)) | ((with_reducible apply AW.regL)) | ((with_reducible apply AW.block)) | ((with_reducible apply InBlk.n)) | ((with_reducible apply AW.skip)) | ((with_reducible apply AW.condT); exact rfl; (focus ((simp only [decide_eq_true_eq, decide_eq_false_iff_not, Bool.not_eq_true', Bool.not_eq_false', Bool.not_true, Bool.not_false]; first | assumption | omega)))) | ((with_reducible apply AW.condF); exact rfl; (focus (first | (simp only [decide_eq_true_eq, decide_eq_false_iff_not, Bool.not_eq_true', Bool.not_eq_false', Bool.not_true, Bool.not_false]; first | assumption | omega) | (simp; done))))))
              exact ⟨_, _, _, by omega, (Or.inl ⟨rfl, (by repeat (first | exact trivial | (refine And.intro rfl ?_)))⟩), i + 1, rfl, by omega, by omega, rfl, rfl⟩
          · (repeat (first | (with_reducible refine AWo.cons ?_) | ((with_reducible refine Step.id ?_); first | ((with_reducible apply Step.gdT); exact rfl; exact rfl; (focus (first | (simp only [decide_eq_true_eq, decide_eq_false_iff_not, Bool.not_eq_true', Bool.not_eq_false', Bool.not_true, Bool.not_false]; first | assumption | omega) | (simp; done)))) | ((with_reducible apply Step.gdF); exact rfl; exact rfl; (focus ((simp only [decide_eq_true_eq, decide_eq_false_iff_not, Bool.not_eq_true', Bool.not_eq_false', Bool.not_true, Bool.not_false]; first | assumption | omega)))) | ((with_reducible apply Step.move); exact rfl; exact rfl) | ((with_reducible apply Step.assign); exact rfl; exact rfl) | ((with_reducible apply Step.add); exact rfl; exact rfl; (focus (omega)); exact rfl) | ((with_reducible apply Step.lss); exact rfl; exact rfl; exact rfl) | ((with_reducible apply Step.leq); exact rfl; exact rfl; exact rfl) | ((with_reducible apply Step.gtr); exact rfl; exact rfl; exact rfl) | ((with_reducible apply Step.neq); exact rfl; exact rfl; exact rfl) | ((with_reducible apply Step.extract); exact rfl; exact rfl; exact rfl) | ((with_reducible apply Step.pickT); exact rfl; exact rfl; exact rfl; exact rfl; (focus ((simp only [decide_eq_true_eq, decide_eq_false_iff_not, Bool.not_eq_true', Bool.not_eq_false', Bool.not_true, Bool.not_false]; first | assumption | omega)))) | ((with_reducible apply Step.pickF); exact rfl; exact rfl; exact rfl; exact rfl; (focus (first | (simp only [decide_eq_true_eq, decide_eq_false_iff_not, Bool.not_eq_true', Bool.not_eq_false', Bool.not_true, Bool.not_false]; first | assumption | omega) | (simp; done)))) | ((with_reducible apply Step.callR fit); exact rfl; exact Try.func32; exact rfl; exact rfl; exact (h1 _ _ _)) | ((with_reducible apply Step.callR fit); exact rfl; exact Try.func97; exact rfl; exact rfl; exact (h2 _ _ _)) | ((with_reducible apply Step.callR fit); exact rfl; exact Try.func98; exact rfl; exact rfl; exact (h3 _ _ _)) | ((with_reducible apply Step.callR fit); exact rfl; exact Try.func99; exact rfl; exact rfl; exact (h4 _ _ _))) | (with_reducible refine AWo.nil ?_) | ((with_reducible apply AW.seq)) | ((with_reducible apply Then.n)) | ((with_reducible apply AW.regL)) | ((with_reducible apply AW.block)) | ((with_reducible apply InBlk.n)) | ((with_reducible apply AW.skip)) | ((with_reducible apply AW.condT); exact rfl; (focus ((simp only [decide_eq_true_eq, decide_eq_false_iff_not, Bool.not_eq_true', Bool.not_eq_false', Bool.not_true, Bool.not_false]; first | assumption | omega)))) | ((with_reducible apply AW.condF); exact rfl; (focus (first | rfl | (simp; done))))))
            exact ⟨_, _, _, by omega, (Or.inl ⟨rfl, (by repeat (first | exact trivial | (refine And.intro rfl ?_)))⟩), i + 1, rfl, by omega, by omega, rfl, rfl⟩
      · by_cases d3 : 7 < p
        · by_cases d4 : p < 15
          · (repeat (first | (with_reducible refine AWo.cons ?_) | ((with_reducible refine Step.id ?_); first | ((with_reducible apply Step.gdT); exact rfl; exact rfl; (focus (first | rfl | (simp only [decide_eq_true_eq, decide_eq_false_iff_not, Bool.not_eq_true', Bool.not_eq_false', Bool.not_true, Bool.not_false]; first | assumption | omega)))) | ((with_reducible apply Step.gdF); exact rfl; exact rfl; (focus ((simp only [decide_eq_true_eq, decide_eq_false_iff_not, Bool.not_eq_true', Bool.not_eq_false', Bool.not_true, Bool.not_false]; first | assumption | omega)))) | ((with_reducible apply Step.move); exact rfl; exact rfl) | ((with_reducible apply Step.assign); exact rfl; exact rfl) | ((with_reducible apply Step.add); exact rfl; exact rfl; (focus (omega)); exact rfl) | ((with_reducible apply Step.lss); exact rfl; exact rfl; exact rfl) | ((with_reducible apply Step.leq); exact rfl; exact rfl; exact rfl) | ((with_reducible apply Step.gtr); exact rfl; exact rfl; exact rfl) | ((with_reducible apply Step.pickT); exact rfl; exact rfl; exact rfl; exact rfl; (focus ((simp only [decide_eq_true_eq, decide_eq_false_iff_not, Bool.not_eq_true', Bool.not_eq_false', Bool.not_true, Bool.not_false]; first | assumption | omega)))) | ((with_reducible apply Step.pickF); exact rfl; exact rfl; exact rfl; exact rfl; (focus (first | rfl | (simp only [decide_eq_true_eq, decide_eq_false_iff_not, Bool.not_eq_true', Bool.not_eq_false', Bool.not_true, Bool.not_false]; first | assumption | omega))))) | (with_reducible refine AWo.nil ?_) | ((with_reducible apply AW.seq)) | ((with_reducible apply Then.n)) | ((with_reducible apply AW.regL)) | ((with_reducible apply AW.block)) | ((with_reducible apply AW.exit)) | ((with_reducible apply InBlk.hit)) | ((with_reducible apply Then.e)) | ((with_reducible apply AW.skip)) | ((with_reducible apply AW.condT); exact rfl; (focus ((simp only [decide_eq_true_eq, decide_eq_false_iff_not, Bool.not_eq_true', Bool.not_eq_false', Bool.not_true, Bool.not_false]; first | assumption | omega))))))
            exact ⟨_, _, _, by omega, (Or.inl ⟨rfl, (by repeat (first | exact trivial | (refine And.intro rfl ?_)))⟩), i + 1, rfl, by omega, by omega, rfl, rfl⟩
          · (repeat (first | (with_reducible refine AWo.cons ?_) | ((with_reducible refine Step.id ?_); first | ((with_reducible apply Step.gdT); exact rfl; exact rfl; (focus (first | rfl | (simp only [decide_eq_true_eq, decide_eq_false_iff_not, Bool.not_eq_true', Bool.not_eq_false', Bool.not_true, Bool.not_false]; first | assumption | omega) | (simp; done)))) | ((with_reducible apply Step.gdF); exact rfl; exact rfl; (focus ((simp only [decide_eq_true_eq, decide_eq_false_iff_not, Bool.not_eq_true', Bool.not_eq_false', Bool.not_true, Bool.not_false]; first | assumption | omega)))) | ((with_reducible apply Step.move); exact rfl; exact rfl) | ((with_reducible apply Step.assign); exact rfl; exact rfl) | ((with_reducible apply Step.add); exact rfl; exact rfl; (focus (omega)); exact rfl) | ((with_reducible apply Step.lss); exact rfl; exact rfl; exact rfl) | ((with_reducible apply Step.leq); exact rfl; exact rfl; exact rfl) | ((with_reducible apply Step.gtr); exact rfl; exact rfl; exact rfl) | ((with_reducible apply Step.neq); exact rfl; exact rfl; exact rfl) | ((with_reducible apply Step.extract); exact rfl; exact rfl; exact rfl) | ((with_reducible apply Step.pickT); exact rfl; exact rfl; exact rfl; exact rfl; (focus ((simp only [decide_eq_true_eq, decide_eq_false_iff_not, Bool.not_eq_true', Bool.not_eq_false', Bool.not_true, Bool.not_false]; first | assumption | omega)))) | ((with_reducible apply Step.pickF); exact rfl; exact rfl; exact rfl; exact rfl; (focus (first | rfl | (simp only [decide_eq_true_eq, decide_eq_false_iff_not, Bool.not_eq_true', Bool.not_eq_false', Bool.not_true, Bool.not_false]; first | assumption | omega) | (simp; done)))) | ((with_reducible apply Step.callR fit); exact rfl; exact Try.func32; exact rfl; exact rfl; exact (h1 _ _ _)) | ((with_reducible apply Step.callR fit); exact rfl; exact Try.func97; exact rfl; exact rfl; exact (h2 _ _ _)) | ((with_reducible apply Step.callR fit); exact rfl; exact Try.func98; exact rfl; exact rfl; exact (h3 _ _ _)) | ((with_reducible apply Step.callR fit); exact rfl; exact Try.func99; exact rfl; exact rfl; exact (h4 _ _ _))) | (with_reducible refine AWo.nil ?_) | ((with_reducible apply AW.seq)) | ((with_reducible apply Then.n)) | ((with_reducible apply AW.regL)) | ((with_reducible apply AW.block)) | ((with_reducible apply InBlk.n)) | ((with_reducible apply AW.skip)) | ((with_reducible apply AW.condT); exact rfl; (focus ((simp only [decide_eq_true_eq, decide_eq_false_iff_not, Bool.not_eq_true', Bool.not_eq_false', Bool.not_true, Bool.not_false]; first | assumption | omega)))) | ((with_reducible apply AW.condF); exact rfl; (focus (first | (simp only [decide_eq_true_eq, decide_eq_false_iff_not, Bool.not_eq_true', Bool.not_eq_false', Bool.not_true, Bool.not_false]; first | assumption | omega) | (simp; done))))))
            exact ⟨_, _, _, by omega, (Or.inl ⟨rfl, (by repeat (first | exact trivial | (refine And.intro rfl ?_)))⟩), i + 1, rfl, by omega, by omega, rfl, rfl⟩
        · (repeat (first | (with_reducible refine AWo.cons ?_) | ((with_reducible refine Step.id ?_); first | ((with_reducible apply Step.gdT); exact rfl; exact rfl; (focus (first | rfl | (simp; done)))) | ((with_reducible apply Step.gdF); exact rfl; exact rfl; (focus ((simp only [decide_eq_true_eq, decide_eq_false_iff_not, Bool.not_eq_true', Bool.not_eq_false', Bool.not_true, Bool.not_false]; first | assumption | omega)))) | ((with_reducible apply Step.move); exact rfl; exact rfl) | ((with_reducible apply Step.assign); exact rfl; exact rfl) | ((with_reducible apply Step.add); exact rfl; exact rfl; (focus (omega)); exact rfl) | ((with_reducible apply Step.leq); exact rfl; exact rfl; exact rfl) | ((with_reducible apply Step.gtr); exact rfl; exact rfl; exact rfl) | ((with_reducible apply Step.neq); exact rfl; exact rfl; exact rfl) | ((with_reducible apply Step.extract); exact rfl; exact rfl; exact rfl) | ((with_reducible apply Step.pickF); exact rfl; exact rfl; exact rfl; exact rfl; (focus (first | rfl | (simp only [decide_eq_true_eq, decide_eq_false_iff_not, Bool.not_eq_true', Bool.not_eq_false', Bool.not_true, Bool.not_false]; first | assumption | omega) | (simp; done)))) | ((with_reducible apply Step.callR fit); exact rfl; exact Try.func32; exact rfl; exact rfl; exact (h1 _ _ _)) | ((with_reducible apply Step.callR fit); exact rfl; exact Try.func97; exact rfl; exact rfl; exact (h2 _ _ _)) | ((with_reducible apply Step.callR fit); exact rfl; exact Try.func98; exact rfl; exact rfl; exact (h3 _ _ _)) | ((with_reducible apply Step.callR fit); exact rfl; exact Try.func99; exact rfl; exact rfl; exact (h4 _ _ _))) | (with_reducible refine AWo.nil ?_) | ((with_reducible apply AW.seq)) | ((with_reducible apply Then.n)) | ((with_reducible apply AW.regL)) | ((with_reducible apply AW.block)) | ((with_reducible apply InBlk.n)) | ((with_reducible apply AW.skip)) | ((with_reducible apply AW.condT); exact rfl; (focus ((simp only [decide_eq_true_eq, decide_eq_false_iff_not, Bool.not_eq_true', Bool.not_eq_false', Bool.not_true, Bool.not_false]; first | assumption | omega)))) | ((with_reducible apply AW.condF); exact rfl; (focus (first | rfl | (simp; done))))))
          exact ⟨_, _, _, by omega, (Or.inl ⟨rfl, (by repeat (first | exact trivial | (refine And.intro rfl ?_)))⟩), i + 1, rfl, by omega, by omega, rfl, rfl⟩
    · (repeat (first | (with_reducible refine AWo.cons ?_) | ((with_reducible refine Step.id ?_); first | ((with_reducible apply Step.move); exact rfl; exact rfl) | ((with_reducible apply Step.assign); exact rfl; exact rfl) | ((with_reducible apply Step.add); exact rfl; exact rfl; (focus (omega)); exact rfl) | ((with_reducible apply Step.leq); exact rfl; exact rfl; exact rfl)) | (with_reducible refine AWo.nil ?_) | ((with_reducible apply AW.seq)) | ((with_reducible apply Then.n)) | ((with_reducible apply AW.regL)) | ((with_reducible apply AW.exit)) | ((with_reducible apply InBlk.n)) | ((with_reducible apply InBlk.hit)) | ((with_reducible apply Then.e)) | ((with_reducible apply AW.condF); exact rfl; (focus ((simp only [decide_eq_true_eq, decide_eq_false_iff_not, Bool.not_eq_true', Bool.not_eq_false', Bool.not_true, Bool.not_false]; first | assumption | omega))))))
      exact ⟨_, _, _, by omega, (Or.inl ⟨rfl, (by repeat (first | exact trivial | (refine And.intro rfl ?_)))⟩), p + 1, rfl, by omega, by omega, rfl, rfl⟩
  · (repeat (first | (with_reducible refine AWo.cons ?_) | ((with_reducible refine Step.id ?_); first | ((with_reducible apply Step.move); exact rfl; exact rfl) | ((with_reducible apply Step.assign); exact rfl; exact rfl) | ((with_reducible apply Step.leq); exact rfl; exact rfl; exact rfl)) | (with_reducible refine AWo.nil ?_) | ((with_reducible apply AW.seq)) | ((with_reducible apply Then.n)) | ((with_reducible apply AW.regL)) | ((with_reducible apply AW.exit)) | ((with_reducible apply InBlk.hit)) | ((with_reducible apply Then.e)) | ((with_reducible apply AW.condF); exact rfl; (focus ((simp only [decide_eq_true_eq, decide_eq_false_iff_not, Bool.not_eq_true', Bool.not_eq_false', Bool.not_true, Bool.not_false]; first | assumption | omega))))))
    (refine AW.retD (l := [(4, _)]) (by repeat (first | exact trivial | (refine And.intro ⟨rfl, by (exact .bool _)⟩ ?_))) ?_; (repeat (first | refine Then.r ?_ | refine InBlk.r ?_)))
    exact ⟨_, rfl, rfl, rfl⟩
end Go.Proofs.Ytabdnepfcohncaa.Abs
namespace Go.Proofs.Ytabdnepfcohncaa.Abs
set_option linter.unusedSimpArgs false
set_option linter.unusedVariables false
open Go.RowKit
open Go.Proofs.Ytabdnepfcohncaa.Sim
open Go.Proofs
section
variable {P : Program} {nt : Nat} {ops : Array Oper} {t : Fm} {m : AM} {K : Fm → AM → Prop} {d T : Nat} {p : String} {af : Array Edge}
theorem Step.toStrB {x : Operand} {S D e a o n : Nat} {v : Value} {l : List UInt8} (hx : evo t x = some v) (hs : Sl v a o n) (hn : l.length = n) (hrd : 0 < n → RdL m a o (by8 l)) (hS : P.underlying S = some (.slice e)) (he : P.underlying e = some (.int .u8)) (hD : P.underlying D = some .string)
    (hlt : Nat.blt d nt = true) (hK : K (put t d (.string ⟨l.toArray⟩)) m) : Step P nt ops ⟨some d, .convert S D x, T, p, af, none⟩ t m K := by
  refine .l rfl rfl hlt (by simp [stillB, hS]) (by simp [Op.operands, hx]) ?_
  intro base R w b Q next hb hm hev hn'
  have h1 := hev x (by simp [Op.operands])
  rw [evD_of hx] at h1
  have hrun : (convert S D (b.eval x)).run P w = .ok (.string ⟨l.toArray⟩) w := by
    generalize b.eval x = x' at h1
    rcases hs with ⟨rfl, h0⟩ | ⟨c, hc, rfl⟩ | ⟨h0, o', k, rfl⟩
    · obtain rfl : l = [] := List.eq_nil_of_length_eq_zero (by omega)
      cases h1
      rw [run_convert_bytes_string w S D e none 0 0 hS he hD]
      simp [Conv.bytesToString]
      rfl
    · cases h1 with
      | slice _ _ _ _ q hq hle =>
      subst hn
      refine run_convert_bytes_back w S D e _ _ l hS he hD fun j hj => ?_
      obtain ⟨blk, k1, k2⟩ := hrd (by omega)
      obtain ⟨v', r1, r2⟩ := (hm.of k1 hq).cell (k2 j _ (by8_get hj))
      rw [Addr.add_lit]
      cases r2
      rw [Nat.add_assoc]
      exact r1
    · obtain rfl : l = [] := List.eq_nil_of_length_eq_zero (by omega)
      subst h0
      cases h1 with
      | sliceSpot _ _ _ q hq => exact run_convert_bytes_back w S D e _ _ [] hS he hD fun j hj => by simp at hj
  exact wp_of_does rfl (.inl (by simp [execOp, hrun])) (hn' R (.string ⟨l.toArray⟩) _ m w (.string _) (.refl hm) hK)
theorem Step.eqlS {x y : Operand} {X Y : TypeId} {a b : ByteArray} (hx : evo t x = some (.string a)) (hy : evo t y = some (.string b)) (hX : P.underlying X = some .string) (hlt : Nat.blt d nt = true) (hK : K (put t d (.bool (a.toList == b.toList))) m) : Step P nt ops ⟨some d, .binOp .eql X x y Y, T, p, af, none⟩ t m K := by
  refine .ground rfl rfl hlt (by simp [Op.operands, hx, hy, g1, g0]) (fun h => by simp only [aquiet, evD_of hx, evD_of hy, aint, anil, hX]; simpa [evD_of hx, evD_of hy] using h) ?_ (by simp [g1, g0]) hK
  simp only [execOp, eqGuard, binOp, evD_of hx, evD_of hy, bind, Sem.bind, pure]
  rfl
end
theorem un9 : Try.prog.underlying 9 = some .string := by kernel_rfl
theorem Byts.row {m : AM} {v : Value} {l : List UInt8} (h : Byts m v l) : ∃ a o, Sl v a o l.length ∧ (0 < l.length → RdL m a o (by8 l)) := by
  obtain ⟨a, o, h1, h2, h3⟩ := h
  refine ⟨a, o, h1, fun h0 => ?_⟩
  obtain ⟨b, q1, _⟩ := h3 0 h0
  refine ⟨b, q1, fun j v hj => ?_⟩
  have hj1 := (List.getElem?_eq_some_iff.1 hj).1
  rw [by8_len] at hj1
  obtain ⟨b', r1, r2⟩ := h3 j hj1
  rw [q1] at r1; injection r1 with r1; injection r1 with r1; subst r1
  rw [by8_get hj1] at hj
  injection hj with hj
  rw [← hj, r2, List.getD_eq_getElem?_getD, List.getElem?_eq_getElem hj1]
  rfl
set_option maxRecDepth 100000 in
theorem Equal_ok {m : AM} {v w : Value} {l k : List UInt8} (hv : Byts m v l) (hw : Byts m w k) : ACall Try.prog 19 #[v, w] m (Ret (.bool (l == k)) m) := by
  obtain ⟨a1, o1, s1, r1⟩ := hv.row
  obtain ⟨a2, o2, s2, r2⟩ := hw.row
  refine ACall.start Try.func19 rfl rfl ?_
  (repeat (first | (with_reducible refine AWo.cons ?_) | ((with_reducible refine Step.id ?_); first | ((with_reducible apply Step.move); exact rfl; exact rfl) | ((with_reducible apply Step.assign); exact rfl; exact rfl)) | (with_reducible refine AWo.nil ?_) | ((with_reducible apply AW.seq)) | ((with_reducible apply Then.n)) | ((with_reducible apply AW.regL))))
  ((with_reducible apply Step.toStrB); exact rfl; exact s1; exact rfl; exact (fun h => (r1 h).old _); exact un22; exact un5; exact un9; exact rfl)
  (repeat (first | (with_reducible refine AWo.cons ?_) | ((with_reducible refine Step.id ?_); ((with_reducible apply Step.move); exact rfl; exact rfl))))
  ((with_reducible apply Step.toStrB); exact rfl; exact s2; exact rfl; exact (fun h => (r2 h).old _); exact un22; exact un5; exact un9; exact rfl)
  (repeat ((with_reducible refine AWo.cons ?_)))
  ((with_reducible apply Step.eqlS); exact rfl; exact rfl; exact un9; exact rfl)
  (repeat (first | (with_reducible refine AWo.cons ?_) | ((with_reducible refine Step.id ?_); ((with_reducible apply Step.assign); exact rfl; exact rfl)) | (with_reducible refine AWo.nil ?_) | ((with_reducible apply Then.n))))
  (refine AW.retD (l := [(4, _)]) (by repeat (first | exact trivial | (refine And.intro ⟨rfl, by (exact .bool _)⟩ ?_))) ?_; (repeat (first | refine Then.r ?_ | refine InBlk.r ?_)))
  exact ⟨_, rfl, by simp, rfl⟩
theorem BytsAt.byts {m : AM} {v : Value} {a o : Nat} {l : List UInt8} (h : BytsAt m v a o l) (ha : a < m.length) : Byts m v l := ⟨a, o, h.1, ha, h.2⟩
end Go.Proofs.Ytabdnepfcohncaa.Abs
namespace Go.Proofs.Ytabdnepfcohncaa.Abs
set_option linter.unusedSimpArgs false
set_option linter.unusedVariables false
open Go.RowKit
open Go.Proofs.Ytabdnepfcohncaa.Sim
open Go.Proofs
set_option maxRecDepth 100000 in
theorem Last_ok {m : AM} {b0 bk : Nat} {B : Bk} {pv : Value} (h : BookAt m b0 bk B pv) : ACall Try.prog 39 #[.pointer (some ⟨bk, 0, none⟩)] m (Ret (.int .i64 (B.P.length : Nat)) m) := by
  have hnone := fun T => none_ok (m := m ++ T) (bk := bk) (Rd.old T ⟨_, h.cells, bkc_0⟩)
  have hbl := h.lt
  have rp := fun T => Rd.old T (show Rd m bk 513 pv from ⟨_, h.cells, bkc_P h.lH h.lC⟩)
  obtain ⟨pc, hrow, hps⟩ := h.row
  obtain ⟨ar, r1, r2, r3⟩ := hrow.sl (by omega)
  refine ACall.start Try.func39 rfl rfl ?_
  (repeat (first | (with_reducible refine AWo.cons ?_) | ((with_reducible refine Step.id ?_); first | ((with_reducible apply Step.move); exact rfl; exact rfl) | ((with_reducible apply Step.assign); exact rfl; exact rfl) | ((with_reducible apply Step.load); exact rfl; (focus (decide +kernel)); exact rfl; (focus (exact rp _))) | ((with_reducible apply Step.field (k := 513)); exact rfl; (focus (decide +kernel)); exact rfl) | ((with_reducible apply Step.len); exact rfl; (focus (assumption)); (focus (decide +kernel)); exact rfl) | ((with_reducible apply Step.nilp); exact rfl; exact rfl) | ((with_reducible apply Step.callR fit); exact rfl; exact Try.func83; exact rfl; exact rfl; exact (hnone _))) | (with_reducible refine AWo.nil ?_) | ((with_reducible apply AW.seq)) | ((with_reducible apply Then.n)) | ((with_reducible apply AW.regL)) | ((with_reducible apply AW.skip)) | ((with_reducible apply AW.condF); exact rfl; (focus (rfl)))))
  (refine AW.retD (l := [(2, _)]) (by repeat (first | exact trivial | (refine And.intro ⟨rfl, by (exact .int _ _)⟩ ?_))) ?_; (repeat (first | refine Then.r ?_ | refine InBlk.r ?_)))
  exact ⟨_, rfl, rfl, rfl⟩
set_option maxHeartbeats 4000000 in
set_option maxRecDepth 100000 in
theorem Find_no {m : AM} {b0 bk : Nat} {B : Bk} {pv : Value} {n : Int} (h : BookAt m b0 bk B pv) (hn : ¬ (1 ≤ n ∧ n ≤ B.P.length)) : ACall Try.prog 40 #[.pointer (some ⟨bk, 0, none⟩), .int .i64 n] m (Ret (.tuple #[.slice none 0 0, .int .i64 7]) m) := by
  have hnone := fun T => none_ok (m := m ++ T) (bk := bk) (Rd.old T ⟨_, h.cells, bkc_0⟩)
  have hbl := h.lt
  have rp := fun T => Rd.old T (show Rd m bk 513 pv from ⟨_, h.cells, bkc_P h.lH h.lC⟩)
  obtain ⟨pc, hrow, hps⟩ := h.row
  obtain ⟨ar, r1, r2, r3⟩ := hrow.sl (by omega)
  refine ACall.start Try.func40 rfl rfl ?_
  by_cases c1 : n < 1
  · (repeat (first | (with_reducible refine AWo.cons ?_) | ((with_reducible refine Step.id ?_); first | ((with_reducible apply Step.gdF); exact rfl; exact rfl; (focus ((simp only [decide_eq_true_eq, decide_eq_false_iff_not, Bool.not_eq_true', Bool.not_eq_false', Bool.not_true, Bool.not_false]; first | assumption | omega)))) | ((with_reducible apply Step.move); exact rfl; exact rfl) | ((with_reducible apply Step.assign); exact rfl; exact rfl) | ((with_reducible apply Step.lss); exact rfl; exact rfl; exact rfl) | ((with_reducible apply Step.pickT); exact rfl; exact rfl; exact rfl; exact rfl; (focus ((simp only [decide_eq_true_eq, decide_eq_false_iff_not, Bool.not_eq_true', Bool.not_eq_false', Bool.not_true, Bool.not_false]; first | assumption | omega)))) | ((with_reducible apply Step.callR fit); exact rfl; exact Try.func83; exact rfl; exact rfl; exact (hnone _))) | (with_reducible refine AWo.nil ?_) | ((with_reducible apply AW.seq)) | ((with_reducible apply Then.n)) | ((with_reducible apply AW.regL)) | ((with_reducible apply AW.block)) | ((with_reducible apply AW.condT); exact rfl; (focus (rfl))) | ((with_reducible apply AW.condF); exact rfl; (focus (rfl)))))
    (refine AW.retD (l := [(4, _), (5, _)]) (by repeat (first | exact trivial | (refine And.intro ⟨rfl, by (first | exact .int _ _ | exact Ren.of_g0 rfl)⟩ ?_))) ?_; (repeat (first | refine Then.r ?_ | refine InBlk.r ?_)))
    exact ⟨_, rfl, rfl, rfl⟩
  · have c2 : (B.P.length : Int) < n := by omega
    (repeat (first | (with_reducible refine AWo.cons ?_) | ((with_reducible refine Step.id ?_); first | ((with_reducible apply Step.gdT); exact rfl; exact rfl; (focus ((simp only [decide_eq_true_eq, decide_eq_false_iff_not, Bool.not_eq_true', Bool.not_eq_false', Bool.not_true, Bool.not_false]; first | assumption | omega)))) | ((with_reducible apply Step.move); exact rfl; exact rfl) | ((with_reducible apply Step.assign); exact rfl; exact rfl) | ((with_reducible apply Step.load); exact rfl; (focus (decide +kernel)); exact rfl; (focus (exact rp _))) | ((with_reducible apply Step.field (k := 513)); exact rfl; (focus (decide +kernel)); exact rfl) | ((with_reducible apply Step.lss); exact rfl; exact rfl; exact rfl) | ((with_reducible apply Step.gtr); exact rfl; exact rfl; exact rfl) | ((with_reducible apply Step.len); exact rfl; (focus (assumption)); (focus (decide +kernel)); exact rfl) | ((with_reducible apply Step.nilp); exact rfl; exact rfl) | ((with_reducible apply Step.pickF); exact rfl; exact rfl; exact rfl; exact rfl; (focus ((simp only [decide_eq_true_eq, decide_eq_false_iff_not, Bool.not_eq_true', Bool.not_eq_false', Bool.not_true, Bool.not_false]; first | assumption | omega)))) | ((with_reducible apply Step.callR fit); exact rfl; exact Try.func83; exact rfl; exact rfl; exact (hnone _))) | (with_reducible refine AWo.nil ?_) | ((with_reducible apply AW.seq)) | ((with_reducible apply Then.n)) | ((with_reducible apply AW.regL)) | ((with_reducible apply AW.block)) | ((with_reducible apply AW.condT); exact rfl; (focus ((simp only [decide_eq_true_eq, decide_eq_false_iff_not, Bool.not_eq_true', Bool.not_eq_false', Bool.not_true, Bool.not_false]; first | assumption | omega)))) | ((with_reducible apply AW.condF); exact rfl; (focus (rfl)))))
    (refine AW.retD (l := [(4, _), (5, _)]) (by repeat (first | exact trivial | (refine And.intro ⟨rfl, by (first | exact .int _ _ | exact Ren.of_g0 rfl)⟩ ?_))) ?_; (repeat (first | refine Then.r ?_ | refine InBlk.r ?_)))
    exact ⟨_, rfl, rfl, rfl⟩
set_option maxHeartbeats 4000000 in
set_option maxRecDepth 100000 in
theorem Find_ok {m : AM} {b0 bk : Nat} {B : Bk} {pv : Value} {k : Nat} (h : BookAt m b0 bk B pv) (hk : k < B.P.length) (hok : ∀ l ∈ B.P, postB l = true) (hpl : B.P.length ≤ 1000000) : ACall Try.prog 40 #[.pointer (some ⟨bk, 0, none⟩), .int .i64 ((k : Nat) + 1)] m
    (More (fun M r => ∃ u, r = .tuple #[u, .int .i64 0] ∧ Row M m.length 4 u (tcs (B.P.getD k [])) (B.P.getD k []).length) m) := by
  have hnone := fun T => none_ok (m := m ++ T) (bk := bk) (Rd.old T ⟨_, h.cells, bkc_0⟩)
  have hbl := h.lt
  have rp := fun T => Rd.old T (show Rd m bk 513 pv from ⟨_, h.cells, bkc_P h.lH h.lC⟩)
  obtain ⟨pc, hrow, hps⟩ := h.row
  obtain ⟨ar, r1, r2, r3⟩ := hrow.sl (by omega)
  obtain ⟨u, q1, q2⟩ := hps k hk
  have rk : ∀ T, Rd (m ++ T) ar (0 + k) u := fun T => Rd.old T (by
    obtain ⟨b, w1, w2⟩ := r3 (by omega)
    exact ⟨b, w1, w2 k u q1⟩)
  simp only [Nat.zero_add] at rk
  have hmem : B.P.getD k [] ∈ B.P := by rw [List.getD_eq_getElem?_getD, List.getElem?_eq_getElem hk]; exact List.getElem_mem hk
  obtain ⟨p1, p2, p3⟩ := postB_all (hok _ hmem)
  have hC := Clone_ok q2.trs (by omega) (by omega)
  generalize B.P.getD k [] = l at *
  have e1 : ((k : Nat) : Int) + 1 - 1 = ((k : Nat) : Int) := by omega
  refine ACall.start Try.func40 rfl rfl ?_
  (repeat (first | (with_reducible refine AWo.cons ?_) | ((with_reducible refine Step.id ?_); first | ((with_reducible apply Step.gdT); exact rfl; exact rfl; (focus (rfl))) | ((with_reducible apply Step.move); exact rfl; exact rfl) | ((with_reducible apply Step.assign); exact rfl; exact rfl) | ((with_reducible apply Step.load); exact rfl; (focus (decide +kernel)); exact rfl; (focus (exact rp _))) | ((with_reducible apply Step.field (k := 513)); exact rfl; (focus (decide +kernel)); exact rfl) | ((with_reducible apply Step.sub); exact rfl; exact rfl; (focus (omega)); exact rfl) | ((with_reducible apply Step.lss); exact rfl; exact rfl; exact rfl) | ((with_reducible apply Step.gtr); exact rfl; exact rfl; exact rfl) | ((with_reducible apply Step.len); exact rfl; (focus (assumption)); (focus (decide +kernel)); exact rfl) | ((with_reducible apply Step.nilp); exact rfl; exact rfl) | ((with_reducible apply Step.pickF); exact rfl; exact rfl; exact rfl; exact rfl; (focus (rfl))) | ((with_reducible apply Step.callR fit); exact rfl; exact Try.func83; exact rfl; exact rfl; exact (hnone _))) | (with_reducible refine AWo.nil ?_) | ((with_reducible apply AW.seq)) | ((with_reducible apply Then.n)) | ((with_reducible apply AW.regL)) | ((with_reducible apply AW.block)) | ((with_reducible apply InBlk.n)) | ((with_reducible apply AW.skip)) | ((with_reducible apply AW.condF); exact rfl; (focus (first | rfl | (simp only [decide_eq_true_eq, decide_eq_false_iff_not, Bool.not_eq_true', Bool.not_eq_false', Bool.not_true, Bool.not_false]; first | assumption | omega))))))
  rw [e1]
  (repeat (first | (with_reducible refine AWo.cons ?_) | ((with_reducible refine Step.id ?_); first | ((with_reducible apply Step.load); exact rfl; (focus (decide +kernel)); exact rfl; (focus (exact rk _))) | ((with_reducible apply Step.ix1z); exact rfl; (focus (assumption)); exact rfl; (focus (decide +kernel)); exact rfl; (focus (omega))))))
  ((with_reducible apply Step.callX fit); exact rfl; exact Try.func90; exact rfl; exact rfl; (focus (rw [List.append_nil]; exact hC)))
  rintro w M1 ⟨N1, hN1⟩ hr
  rw [List.append_nil] at hN1
  (repeat (first | (with_reducible refine AWo.cons ?_) | ((with_reducible refine Step.id ?_); ((with_reducible apply Step.assign); exact rfl; exact rfl)) | (with_reducible refine AWo.nil ?_) | ((with_reducible apply Then.n))))
  (refine AW.ret ?_; (repeat (first | refine Then.r ?_ | refine InBlk.r ?_)))
  exact ⟨_, rfl, N1, by rw [List.append_nil]; exact hN1, w, rfl, by rw [List.append_nil]; exact hr⟩
set_option maxHeartbeats 4000000 in
set_option maxRecDepth 100000 in
theorem post_ok {m : AM} {v : Value} {l : List Tr} (h : Trs m v l) (hlen : l.length ≤ 9223372036854775807) : ACall Try.prog 29 #[v] m (More (fun M r => Row M m.length 4 r (tcs (l.take 18)) (l.take 18).length) m) := by
  obtain ⟨a, o, h1, h2, h3⟩ := h
  refine ACall.start Try.func29 rfl rfl ?_
  (repeat (first | (with_reducible refine AWo.cons ?_) | ((with_reducible refine Step.id ?_); first | ((with_reducible apply Step.move); exact rfl; exact rfl) | ((with_reducible apply Step.assign); exact rfl; exact rfl) | ((with_reducible apply Step.len); exact rfl; (focus (assumption)); (focus (decide +kernel)); exact rfl)) | (with_reducible refine AWo.nil ?_) | ((with_reducible apply AW.seq)) | ((with_reducible apply Then.n)) | ((with_reducible apply AW.regL)) | ((with_reducible apply AW.block))))
  refine AW.loopW (fun q t M => ∃ (k : Nat) (r : Value), q = l.length - k ∧ k ≤ l.length ∧ k ≤ 18 ∧ Row M m.length 4 r (tcs (l.take k)) k ∧ (∃ N, M = m ++ N) ∧
    t = fr [(3, r), (6, v), (7, .int .i64 (l.length : Nat)), (8, .int .i64 (k : Nat))]) ⟨_, _, (by repeat (first | exact trivial | (refine And.intro rfl ?_))), 0, _, rfl, Nat.zero_le _, Nat.zero_le _, Row.nil, ⟨_, rfl⟩, rfl⟩ ?_
  rintro q t M ⟨k, r, rfl, hk, hk18, hR, ⟨N, rfl⟩, rfl⟩
  refine AW.rebase ?_
  rcases Nat.lt_or_ge k l.length with hlt | hge
  · have hr := fun T => (h3 k hlt).old T
    have hr := fun T => hr (N ++ T)
    simp only [← List.append_assoc] at hr
    have ts := take_snocT l k hlt
    generalize l.getD k default = x at *
    obtain ⟨xi, xf, xt, xn⟩ := x
    simp only [Tr.c] at hr
    by_cases c1 : 17 < k
    · obtain rfl : k = 18 := by omega
      (repeat (first | (with_reducible refine AWo.cons ?_) | ((with_reducible refine Step.id ?_); first | ((with_reducible apply Step.move); exact rfl; exact rfl) | ((with_reducible apply Step.assign); exact rfl; exact rfl) | ((with_reducible apply Step.loadL (n := 4)); exact rfl; (focus (decide +kernel)); (focus (decide +kernel)); exact rfl; (focus (exact hr _)); exact rfl; exact rfl) | ((with_reducible apply Step.ix (s := 4)); exact rfl; (focus (assumption)); exact rfl; (focus (decide +kernel)); exact rfl; (focus (omega))) | ((with_reducible apply Step.lss); exact rfl; exact rfl; exact rfl) | ((with_reducible apply Step.gtr); exact rfl; exact rfl; exact rfl) | ((with_reducible apply Step.alloc 0); exact rfl; exact ze61; exact rfl; (focus (first | (simp only [List.nil_append, List.cons_append, List.set_cons_zero, List.set_cons_succ, iv_set, bv_set, iv_rep, bv_rep]; done) | (simp only [List.nil_append, List.cons_append, List.set_cons_zero, List.set_cons_succ, iv_set, bv_set, iv_rep, bv_rep]; rfl) | rfl))) | ((with_reducible apply Step.storeA (k := 0) (n := 4)); exact rfl; exact rfl; exact rfl; exact rfl; (focus (decide +kernel)); exact rfl; (focus (kernel_rfl)); exact rfl; (focus (first | (simp only [List.nil_append, List.cons_append, List.set_cons_zero, List.set_cons_succ, iv_set, bv_set, iv_rep, bv_rep]; done) | (simp only [List.nil_append, List.cons_append, List.set_cons_zero, List.set_cons_succ, iv_set, bv_set, iv_rep, bv_rep]; rfl) | rfl)))) | (with_reducible refine AWo.nil ?_) | ((with_reducible apply AW.seq)) | ((with_reducible apply Then.n)) | ((with_reducible apply AW.regL)) | ((with_reducible apply AW.block)) | ((with_reducible apply AW.exit)) | ((with_reducible apply InBlk.hit)) | ((with_reducible apply InBlk.miss); exact rfl) | ((with_reducible apply Then.e)) | ((with_reducible apply AW.skip)) | ((with_reducible apply AW.condT); exact rfl; (focus (first | rfl | (simp only [decide_eq_true_eq, decide_eq_false_iff_not, Bool.not_eq_true', Bool.not_eq_false', Bool.not_true, Bool.not_false]; first | assumption | omega))))))
      (refine AW.ret ?_; (repeat (first | refine Then.r ?_ | refine InBlk.r ?_)))
      refine ⟨_, rfl, N ++ _, by rw [List.append_assoc], ?_⟩
      have e : (l.take 18).length = 18 := by rw [List.length_take]; omega
      rw [e]
      exact hR.old _
    · (repeat (first | (with_reducible refine AWo.cons ?_) | ((with_reducible refine Step.id ?_); first | ((with_reducible apply Step.move); exact rfl; exact rfl) | ((with_reducible apply Step.assign); exact rfl; exact rfl) | ((with_reducible apply Step.load); exact rfl; (focus (decide +kernel)); exact rfl; (focus (exact Rd.new rfl rfl))) | ((with_reducible apply Step.loadL (n := 4)); exact rfl; (focus (decide +kernel)); (focus (decide +kernel)); exact rfl; (focus (exact hr _)); exact rfl; exact rfl) | ((with_reducible apply Step.ix (s := 4)); exact rfl; (focus (assumption)); exact rfl; (focus (decide +kernel)); exact rfl; (focus (omega))) | ((with_reducible apply Step.field0); exact rfl; (focus (decide +kernel)); exact rfl) | ((with_reducible apply Step.field (k := 1)); exact rfl; (focus (decide +kernel)); exact rfl) | ((with_reducible apply Step.field (k := 2)); exact rfl; (focus (decide +kernel)); exact rfl) | ((with_reducible apply Step.field (k := 3)); exact rfl; (focus (decide +kernel)); exact rfl) | ((with_reducible apply Step.lss); exact rfl; exact rfl; exact rfl) | ((with_reducible apply Step.gtr); exact rfl; exact rfl; exact rfl) | ((with_reducible apply Step.alloc 0); exact rfl; exact ze61; exact rfl; (focus (first | (simp only [List.nil_append, List.cons_append, List.set_cons_zero, List.set_cons_succ, iv_set, bv_set, iv_rep, bv_rep]; done) | (simp only [List.nil_append, List.cons_append, List.set_cons_zero, List.set_cons_succ, iv_set, bv_set, iv_rep, bv_rep]; rfl) | rfl))) | ((with_reducible apply Step.storeA (k := 0) (n := 4)); exact rfl; exact rfl; exact rfl; exact rfl; (focus (decide +kernel)); exact rfl; (focus (kernel_rfl)); exact rfl; (focus (first | (simp only [List.nil_append, List.cons_append, List.set_cons_zero, List.set_cons_succ, iv_set, bv_set, iv_rep, bv_rep]; done) | (simp only [List.nil_append, List.cons_append, List.set_cons_zero, List.set_cons_succ, iv_set, bv_set, iv_rep, bv_rep]; rfl) | rfl))) | ((with_reducible apply Step.buildS 1); exact rfl; exact rfl; exact (fun _ _ => bs55); exact rfl; (focus (first | (simp only [List.nil_append, List.cons_append, List.set_cons_zero, List.set_cons_succ, iv_set, bv_set, iv_rep, bv_rep]; done) | (simp only [List.nil_append, List.cons_append, List.set_cons_zero, List.set_cons_succ, iv_set, bv_set, iv_rep, bv_rep]; rfl) | rfl))) | ((with_reducible apply Step.build); exact rfl; exact bl63; exact rfl)) | (with_reducible refine AWo.nil ?_) | ((with_reducible apply AW.seq)) | ((with_reducible apply Then.n)) | ((with_reducible apply AW.regL)) | ((with_reducible apply AW.block)) | ((with_reducible apply AW.skip)) | ((with_reducible apply AW.condT); exact rfl; (focus ((simp only [decide_eq_true_eq, decide_eq_false_iff_not, Bool.not_eq_true', Bool.not_eq_false', Bool.not_true, Bool.not_false]; first | assumption | omega)))) | ((with_reducible apply AW.condF); exact rfl; (focus ((simp only [decide_eq_true_eq, decide_eq_false_iff_not, Bool.not_eq_true', Bool.not_eq_false', Bool.not_true, Bool.not_false]; first | assumption | omega))))))
      ((with_reducible apply Step.appRow2 (n := k) (xl := 1) (b0 := m.length) (new := [.int .i64 xi, .int .i64 xf, .int .i64 xt, .int .i64 xn])); exact rfl; exact rfl; exact (hR.old _); exact (Sl.mk (Nat.le_refl _)); exact (fun _ => RdL.new rfl rfl); exact el55; exact un55; exact rfl; exact rfl; exact rfl; (focus (omega)); exact rfl; (focus (simp only [List.length_append]; omega)))
      intro r' M1 hr1 hml1 hk1 _
      have hM1 := pre_keep (m0 := m) ⟨N ++ _, (List.append_assoc _ _ _)⟩ hml1 fun j hj => hk1 j (by simp only [List.length_append]; omega) (NotOf.row hR hj)
      (repeat (first | (with_reducible refine AWo.cons ?_) | ((with_reducible refine Step.id ?_); first | ((with_reducible apply Step.move); exact rfl; exact rfl) | ((with_reducible apply Step.assign); exact rfl; exact rfl) | ((with_reducible apply Step.add); exact rfl; exact rfl; (focus (omega)); exact rfl)) | (with_reducible refine AWo.nil ?_) | ((with_reducible apply Then.n)) | ((with_reducible apply AW.regL)) | ((with_reducible apply InBlk.n))))
      exact ⟨_, [(3, r'), (6, v), (7, .int .i64 (l.length : Nat)), (8, .int .i64 (k + 1 : Nat))], by omega, (by repeat (first | exact trivial | (refine And.intro rfl ?_))), k + 1, _, rfl, by omega, by omega, by rw [ts, tcs_app]; simpa [tcs, Tr.c] using hr1, hM1, rfl⟩
  · obtain rfl : k = l.length := by omega
    (repeat (first | (with_reducible refine AWo.cons ?_) | ((with_reducible refine Step.id ?_); first | ((with_reducible apply Step.move); exact rfl; exact rfl) | ((with_reducible apply Step.assign); exact rfl; exact rfl) | ((with_reducible apply Step.lss); exact rfl; exact rfl; exact rfl)) | (with_reducible refine AWo.nil ?_) | ((with_reducible apply AW.seq)) | ((with_reducible apply Then.n)) | ((with_reducible apply AW.regL)) | ((with_reducible apply AW.exit)) | ((with_reducible apply InBlk.hit)) | ((with_reducible apply Then.e)) | ((with_reducible apply AW.condF); exact rfl; (focus ((simp only [decide_eq_true_eq, decide_eq_false_iff_not, Bool.not_eq_true', Bool.not_eq_false', Bool.not_true, Bool.not_false]; first | assumption | omega))))))
    (refine AW.ret ?_; (repeat (first | refine Then.r ?_ | refine InBlk.r ?_)))
    refine ⟨_, rfl, N, by rw [List.append_nil], ?_⟩
    rw [List.append_nil, List.take_of_length_le hk18]
    rwa [List.take_length] at hR
end Go.Proofs.Ytabdnepfcohncaa.Abs
namespace Go.Proofs.Ytabdnepfcohncaa.Abs
set_option linter.unusedSimpArgs false
set_option linter.unusedVariables false
open Go.RowKit
open Go.Proofs.Ytabdnepfcohncaa.Sim
open Go.Proofs
section
variable {P : Program}
theorem still_eqI {X : TypeId} (hX : P.underlying X = some (.int .i64)) (n : Nat) (a b : Int) : Sim.still P (Op.equalIn (n + 1) X (.int .i64 a) (.int .i64 b)) = some (a == b) := by
  rw [Op.equalIn]
  show Sim.still P (Sem.bind (underlying X) _) = _
  rw [still_bind, still_und hX]
  rfl
end
theorem forIn4 {α σ : Type} (x y z u : α) (s : σ) (f : α → σ → Sem (ForInStep σ)) : (forIn #[x, y, z, u] s f : Sem σ) = (do match ← f x s with | .done b => pure b | .yield b => match ← f y b with | .done b => pure b | .yield b => match ← f z b with | .done b => pure b | .yield b => match ← f u b with | .done b => pure b | .yield b => pure b) := by
  simp [List.forIn_cons, List.forIn_nil]
  exact congrArg (fun g => f x s >>= g) (funext fun u' => by
    cases u' with
    | done b => rfl
    | yield b => exact congrArg (fun g => f y b >>= g) (funext fun v => by
        cases v with
        | done b => rfl
        | yield b => exact congrArg (fun g => f z b >>= g) (funext fun w => by
            cases w with
            | done b => rfl
            | yield b => exact congrArg (fun g => f u b >>= g) (funext fun w => by cases w <;> rfl))))
def trFU : Array Field := #[⟨"Item", 3, 0, false, "", "", 0⟩, ⟨"From", 3, 1, false, "", "", 8⟩, ⟨"To", 3, 2, false, "", "", 16⟩, ⟨"N", 3, 3, false, "", "", 24⟩]
theorem un61s : Try.prog.underlying 61 = some (.struct trFU) := by kernel_rfl
theorem part_tr {c : Array Value} {x : Int} {k : Nat} (hk : c[k]? = some (.int .i64 x)) : Sim.still Try.prog (part 3 c k) = some (.int .i64 x) := by
  unfold part
  have ha : Sim.still Try.prog (isAgg 3) = some false := by kernel_rfl
  show Sim.still Try.prog (Sem.bind (isAgg 3) _) = _
  rw [still_bind, ha]
  simp only [hk]
  rfl
section
variable {nt : Nat} {ops : Array Oper} {t : Fm} {m : AM} {K : Fm → AM → Prop} {d T : Nat} {p : String} {af : Array Edge}
end
set_option maxRecDepth 100000 in
theorem still_eqU (n : Nat) (a b c d : Int) : Sim.still Try.prog (Op.equalIn (n + 1 + 1) 61 (.agg #[.int .i64 a, .int .i64 b, .int .i64 c, .int .i64 d]) (.agg #[.int .i64 a, .int .i64 b, .int .i64 c, .int .i64 d])) = some true := by
  have hs : Try.prog.stoodInHeld 61 = false := by kernel_rfl
  have h3 := fun (x y : Int) => still_eqI (P := Try.prog) un3 n x y
  have p0 := part_tr (c := #[.int .i64 a, .int .i64 b, .int .i64 c, .int .i64 d]) (k := 0) rfl
  have p1 := part_tr (c := #[.int .i64 a, .int .i64 b, .int .i64 c, .int .i64 d]) (k := 1) rfl
  have p2 := part_tr (c := #[.int .i64 a, .int .i64 b, .int .i64 c, .int .i64 d]) (k := 2) rfl
  have p3 := part_tr (c := #[.int .i64 a, .int .i64 b, .int .i64 c, .int .i64 d]) (k := 3) rfl
  rw [Op.equalIn]
  show Sim.still Try.prog (Sem.bind (underlying 61) _) = _
  rw [still_bind, still_und un61s]
  show Sim.still Try.prog (Sem.bind program _) = _
  have hp : Sim.still Try.prog program = some Try.prog := rfl
  rw [still_bind, hp]
  simp only [hs]
  unfold trFU
  simp only [forIn4]
  simp [bind, still_bind, p0, p1, p2, p3, h3, pure, Sim.still]
section
variable {nt : Nat} {ops : Array Oper} {t : Fm} {m : AM} {K : Fm → AM → Prop} {d T : Nat} {p : String} {af : Array Edge}
set_option maxRecDepth 100000 in
theorem Step.neqU {x y : Operand} {Y : TypeId} {a b c e : Int} (hx : evo t x = some (.agg #[.int .i64 a, .int .i64 b, .int .i64 c, .int .i64 e])) (hy : evo t y = some (.agg #[.int .i64 a, .int .i64 b, .int .i64 c, .int .i64 e])) (hlt : Nat.blt d nt = true) (hK : K (put t d (.bool false)) m) : Step Try.prog nt ops ⟨some d, .binOp .neq 61 x y Y, T, p, af, none⟩ t m K := by
  refine .ground rfl rfl hlt (by simp [Op.operands, hx, hy, g1, g0]) (fun h => by simp only [aquiet, evD_of hx, evD_of hy, aint, anil, un61s]; simpa [evD_of hx, evD_of hy] using h) ?_ (by simp [g1, g0]) hK
  have he : Sim.still Try.prog (Op.equal 61 (.agg #[.int .i64 a, .int .i64 b, .int .i64 c, .int .i64 e]) (.agg #[.int .i64 a, .int .i64 b, .int .i64 c, .int .i64 e])) = some true := still_eqU 9998 a b c e
  have hgt : Try.prog.eqGuardType Try.prog.depth 61 = false := by kernel_rfl
  have hp : Sim.still Try.prog program = some Try.prog := rfl
  simp only [execOp, eqGuard, binOp, evD_of hx, evD_of hy, bind, Sem.bind, pure]
  simp [still_bind, hp, hgt, he, Sim.still]
end
set_option maxHeartbeats 4000000 in
set_option maxRecDepth 100000 in
theorem EqualU_ok {m : AM} {v w : Value} {l : List Tr} (hv : Trs m v l) (hw : Trs m w l) (hlen : l.length ≤ 1000000) : ACall Try.prog 108 #[v, w] m (Ret (.bool true) m) := by
  obtain ⟨a1, o1, s1, s2, s3⟩ := hv
  obtain ⟨a2, o2, z1, z2, z3⟩ := hw
  refine ACall.start Try.func108 rfl rfl ?_
  (repeat (first | (with_reducible refine AWo.cons ?_) | ((with_reducible refine Step.id ?_); first | ((with_reducible apply Step.move); exact rfl; exact rfl) | ((with_reducible apply Step.assign); exact rfl; exact rfl) | ((with_reducible apply Step.neq); exact rfl; exact rfl; exact rfl) | ((with_reducible apply Step.len); exact rfl; (focus (assumption)); (focus (decide +kernel)); exact rfl)) | (with_reducible refine AWo.nil ?_) | ((with_reducible apply AW.seq)) | ((with_reducible apply Then.n)) | ((with_reducible apply AW.regL)) | ((with_reducible apply AW.block)) | ((with_reducible apply AW.skip)) | ((with_reducible apply AW.condF); exact rfl; (focus ((simp; done))))))
  refine AW.loopT (fun q t L => ∃ k : Nat, q = l.length - k ∧ k ≤ l.length ∧ L = [] ∧
    t = [(0, v), (1, w), (11, v), (12, .int .i64 (l.length : Nat)), (13, .int .i64 (k : Nat))]) ⟨_, _, _, (Or.inl ⟨rfl, (by repeat (first | exact trivial | (refine And.intro rfl ?_)))⟩), 0, rfl, Nat.zero_le _, rfl, rfl⟩ ?_
  rintro q t L ⟨k, rfl, hk, rfl, rfl⟩
  rcases Nat.lt_or_ge k l.length with hlt | hge
  · have hr1 := s3 k hlt
    have hr2 := z3 k hlt
    generalize l.getD k default = x at *
    obtain ⟨xi, xf, xt, xn⟩ := x
    simp only [Tr.c] at hr1 hr2
    (repeat (first | (with_reducible refine AWo.cons ?_) | ((with_reducible refine Step.id ?_); first | ((with_reducible apply Step.move); exact rfl; exact rfl) | ((with_reducible apply Step.assign); exact rfl; exact rfl) | ((with_reducible apply Step.loadL (n := 4)); exact rfl; (focus (decide +kernel)); (focus (decide +kernel)); exact rfl; (focus (exact RdL.old _ (by assumption))); exact rfl; exact rfl) | ((with_reducible apply Step.ix (s := 4)); exact rfl; (focus (assumption)); exact rfl; (focus (decide +kernel)); exact rfl; (focus (omega))) | ((with_reducible apply Step.lss); exact rfl; exact rfl; exact rfl)) | (with_reducible refine AWo.nil ?_) | ((with_reducible apply AW.seq)) | ((with_reducible apply Then.n)) | ((with_reducible apply AW.regL)) | ((with_reducible apply AW.block)) | ((with_reducible apply AW.drawL fit); (focus (decide +kernel))) | ((with_reducible apply AW.skip)) | ((with_reducible apply AW.condT); exact rfl; (focus ((simp only [decide_eq_true_eq, decide_eq_false_iff_not, Bool.not_eq_true', Bool.not_eq_false', Bool.not_true, Bool.not_false]; first | assumption | omega))))))
    ((with_reducible apply Step.neqU); exact rfl; exact rfl; exact rfl)
    (repeat (first | (with_reducible refine AWo.cons ?_) | ((with_reducible refine Step.id ?_); first | ((with_reducible apply Step.move); exact rfl; exact rfl) | ((with_reducible apply Step.add); exact rfl; exact rfl; (focus (omega)); exact rfl)) | (with_reducible refine AWo.nil ?_) | ((with_reducible apply Then.n)) | ((with_reducible apply AW.regL)) | ((with_reducible apply InBlk.n)) | ((with_reducible apply AW.skip)) | ((with_reducible apply AW.condF); exact rfl; (focus (rfl)))))
    exact ⟨_, _, _, by omega, (Or.inl ⟨rfl, (by repeat (first | exact trivial | (refine And.intro rfl ?_)))⟩), k + 1, rfl, by omega, rfl, rfl⟩
  · obtain rfl : k = l.length := by omega
    (repeat (first | (with_reducible refine AWo.cons ?_) | ((with_reducible refine Step.id ?_); first | ((with_reducible apply Step.assign); exact rfl; exact rfl) | ((with_reducible apply Step.lss); exact rfl; exact rfl; exact rfl)) | (with_reducible refine AWo.nil ?_) | ((with_reducible apply AW.seq)) | ((with_reducible apply Then.n)) | ((with_reducible apply AW.regL)) | ((with_reducible apply AW.exit)) | ((with_reducible apply InBlk.hit)) | ((with_reducible apply Then.e)) | ((with_reducible apply AW.condF); exact rfl; (focus ((simp only [decide_eq_true_eq, decide_eq_false_iff_not, Bool.not_eq_true', Bool.not_eq_false', Bool.not_true, Bool.not_false]; first | assumption | omega))))))
    (refine AW.retD (l := [(4, _)]) (by repeat (first | exact trivial | (refine And.intro ⟨rfl, by (exact .bool _)⟩ ?_))) ?_; (repeat (first | refine Then.r ?_ | refine InBlk.r ?_)))
    exact ⟨_, rfl, rfl, rfl⟩
end Go.Proofs.Ytabdnepfcohncaa.Abs
