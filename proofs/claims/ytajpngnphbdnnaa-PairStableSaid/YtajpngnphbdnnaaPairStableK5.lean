/- Proved here: what the proof of PairStable rests on, part 5 of 5. Conditions: those that each theorem names. -/
import Derived.Test.YtajpngnphbdnnaaPairStableK4
namespace Go.Proofs.Ytajpngnphbdnnaa.Abs
set_option linter.unusedSimpArgs false
set_option linter.unusedVariables false
open Go.RowKit
open Go.Proofs.Ytajpngnphbdnnaa.Sim
open Go.Proofs
open Hung
set_option maxRecDepth 100000 in
theorem RStable_no {m : AM} {lv rv : Value} {u : Ru} {L R : List Gl} (hl : Gls m lv L) (hr : Gls m rv R) (h1 : L.length ≤ 9223372036854775807) (h2 : R.length ≤ 9223372036854775807) (hok : okB L R u = false) : ACall Try.prog 34 #[lv, rv, u.v] m (Ret (.tuple #[.slice none 0 0, .int .i64 2]) m) := by
  have r0 : ∀ T : AM, RdL (m ++ (some { cells := u.cells } :: T)) (m.length + 0) 0 u.cells := fun T => RdL.new rfl rfl
  have w2 := fun T => Good_ok (hl.old T) (hr.old T) h1 h2 hok
  refine ACall.start Try.func34 rfl rfl ?_
  (repeat (first | (with_reducible refine AWo.cons ?_) | ((with_reducible refine Step.id ?_); first | ((with_reducible apply Step.move); exact rfl; exact rfl) | ((with_reducible apply Step.assign); exact rfl; exact rfl) | ((with_reducible apply Step.loadL (n := 8)); exact rfl; (focus (decide +kernel)); (focus (decide +kernel)); exact rfl; (focus (exact RdL.new rfl rfl)); exact rfl; exact rfl) | ((with_reducible apply Step.not); exact rfl; exact rfl) | ((with_reducible apply Step.callR fit); exact rfl; exact Try.func26; exact rfl; exact rfl; exact (w2 _)) | ((with_reducible apply Step.box 0); exact rfl; exact rfl; (focus (kernel_rfl)); exact rfl; (focus (first | (simp only [List.nil_append, List.cons_append, List.set_cons_zero, List.set_cons_succ, iv_set, bv_set, iv_rep, bv_rep]; done) | (simp only [List.nil_append, List.cons_append, List.set_cons_zero, List.set_cons_succ, iv_set, bv_set, iv_rep, bv_rep]; rfl) | rfl)))) | (with_reducible refine AWo.nil ?_) | ((with_reducible apply AW.seq)) | ((with_reducible apply Then.n)) | ((with_reducible apply AW.regL)) | ((with_reducible apply AW.condT); exact rfl; (focus (rfl)))))
  (refine AW.retD (l := [(6, _), (7, _)]) (by repeat (first | exact trivial | (refine And.intro ⟨rfl, by (first | exact .int _ _ | exact Ren.of_g0 rfl)⟩ ?_))) ?_; (repeat (first | refine Then.r ?_ | refine InBlk.r ?_)))
  exact ⟨_, rfl, rfl, rfl⟩
theorem outF_succ {mt : Nat → Int} {J x : Nat} (hinj : ∀ j, j < J → mt j = (x : Nat) → mt J ≠ (x : Nat)) : outF mt (J + 1) x = if mt J = (x : Nat) then (J : Int) else outF mt J x := by
  by_cases e : mt J = (x : Nat)
  · rw [if_pos e]
    exact idxF_hit (by omega) (fun i hi => decide_eq_false fun h => hinj i hi h e) (decide_eq_true e)
  · rw [if_neg e]
    rcases outF_cases (mt := mt) (r := J) (i := x) with ⟨e1, e2⟩ | ⟨y, y1, y2, y3⟩
    · rw [e1]
      exact idxF_miss fun i hi => decide_eq_false (by
        by_cases h : i = J
        · subst h; exact e
        · exact e2 i (by omega))
    · rw [y2]
      exact idxF_hit (by omega) (fun i hi => decide_eq_false fun h => by
        unfold outF at y2
        obtain ⟨k, k1, k2, k3, k4⟩ := idxF_pos' (pr := fun j => decide (mt j = ((x : Nat) : Int))) (n := J) (by omega)
        have : k = y := by omega
        subst this
        have := k4 i hi
        simp at this
        exact this h) (decide_eq_true y3)
/-- The reference's test: it prefers one to the best so far. -/
theorem bst_prf {c : Nat → Int} {a : Nat → Bool} {j : Nat} : prf (c j) j (vI c (bstF a c j)) (bstF a c j) = decide (0 ≤ c j ∧ (bstF a c j < 0 ∨ c j < c (bstF a c j).toNat)) := by
  obtain ⟨b1, b2, b3⟩ := bstF_bd a c j
  generalize bstF a c j = b at *
  by_cases hb : b < 0
  · simp [prf, hb]
  · obtain ⟨q, rfl⟩ := Int.eq_ofNat_of_zero_le (show 0 ≤ b by omega)
    simp only [Int.toNat_natCast] at b3 ⊢
    have := (b3 (by omega)).2
    have e : vI c ((q : Nat) : Int) = c q := by unfold vI; rw [if_pos (by omega), Int.toNat_natCast]
    rw [e]
    by_cases h1 : 0 ≤ c j ∧ c j < c q
    · rw [decide_eq_true (by omega)]
      unfold prf
      simp only [Bool.and_eq_true, Bool.or_eq_true, decide_eq_true_eq]; omega
    · rw [decide_eq_false (by omega)]
      cases h : prf (c j) j (c q) q with
      | false => rfl
      | true =>
        unfold prf at h
        simp only [Bool.and_eq_true, Bool.or_eq_true, decide_eq_true_eq] at h; omega
/-- Who is refused: asked, and not the partner. -/
def rfd (A : Nat → Nat → Bool) (mt : Nat → Int) (i j : Nat) : Bool := A i j && decide (mt j ≠ (i : Nat))
theorem rfd_free {A : Nat → Nat → Bool} {mt : Nat → Int} {i : Nat} (h : ∀ j, mt j ≠ (i : Nat)) (j : Nat) : rfd A mt i j = A i j := by
  unfold rfd; rw [decide_eq_true (h j)]; simp
theorem rfd_ask {A : Nat → Nat → Bool} {mt : Nat → Int} {i q : Nat} (h : ∀ j, mt j ≠ (i : Nat)) : rfd (up2 A i q) mt = up2 (rfd A mt) i q := by
  funext x y
  by_cases e : x = i ∧ y = q
  · obtain ⟨rfl, rfl⟩ := e
    rw [up2_same]; unfold rfd; rw [up2_same, decide_eq_true (h y)]; rfl
  · rw [up2_ne e]; unfold rfd; rw [up2_ne e]
theorem rfd_take {A : Nat → Nat → Bool} {mt : Nat → Int} {i q : Nat} (h : ∀ j, mt j ≠ (i : Nat)) (hq : mt q = -1) (ha : A i q = false) (hA : ∀ x, A x q = false ∨ 0 ≤ mt q) : rfd (up2 A i q) (up mt q (i : Nat)) = rfd A mt := by
  funext x y
  by_cases ey : y = q
  · subst ey
    by_cases ex : x = i
    · subst ex
      unfold rfd; rw [up_same, ha]; simp
    · unfold rfd
      rw [up2_ne fun e => ex e.1]
      rcases hA x with e | e
      · rw [e]; rfl
      · omega
  · unfold rfd; rw [up2_ne fun e => ey e.2, up_ne _ _ ey]
theorem rfd_swap {A : Nat → Nat → Bool} {mt : Nat → Int} {i k q : Nat} (hki : k ≠ i) (hq : mt q = (k : Nat)) (hk : A k q = true) (ha : A i q = false) : rfd (up2 A i q) (up mt q (i : Nat)) = up2 (rfd A mt) k q := by
  funext x y
  by_cases ey : y = q
  · subst ey
    by_cases ex : x = i
    · subst ex
      rw [up2_ne fun e => hki e.1.symm]
      unfold rfd; rw [up_same, ha]; simp
    · by_cases ek : x = k
      · subst ek
        rw [up2_same]
        unfold rfd
        rw [up2_ne fun e => ex e.1, hk, up_same, decide_eq_true (by omega)]; rfl
      · rw [up2_ne fun e => ek e.1]
        unfold rfd
        rw [up2_ne fun e => ex e.1, up_same, hq, decide_eq_true (by omega), decide_eq_true (by omega)]
  · rw [up2_ne fun e => ey e.2]
    unfold rfd; rw [up2_ne fun e => ey e.2, up_ne _ _ ey]
/-- The rows while they are made. -/
structure RS (m M : AM) (T W Q : Nat) (P : Nat → Nat) (l r i : Nat) : Prop where
  t : M[T]? = some (some { cells := iv (tab (fun _ => -1) r) })
  w : M[W]? = some (some { cells := (List.range l).map fun x => if x < i then .slice (some ⟨P x, 0, none⟩) r r else .slice none 0 0 })
  rows : ∀ x, x < i → M[P x]? = some (some { cells := bv (tabB (fun _ => false) r) })
  q : (i = 0 ∧ M.length + 2 ≤ Q) ∨ (0 < i ∧ Q < M.length ∧ M[Q]? = some (some { cells := iv (nats (List.range i)), kind := .grow, size := 1 }))
  d1 : T ≠ W ∧ T ≠ Q ∧ W ≠ Q
  d2 : ∀ x, x < i → P x ≠ T ∧ P x ≠ W ∧ P x ≠ Q
  d3 : ∀ x y, x < i → y < i → P x = P y → x = y
  low : ∃ N, M = m ++ N
  dm : m.length ≤ T ∧ m.length ≤ W ∧ m.length ≤ Q
  dp : ∀ x, x < i → m.length ≤ P x ∧ P x < M.length
theorem keep3 {M : AM} {a W Q : Nat} {b v x : Option Blk} {r k g : AM} (h : M[a]? = some b) (h1 : W ≠ a) (h2 : Q ≠ a) : ((((M ++ r).set W v) ++ k).set Q x ++ g)[a]? = some b :=
  get_old _ (by rw [List.getElem?_set_ne h2]; exact get_old _ (by rw [List.getElem?_set_ne h1]; exact get_old _ h))
theorem RS.next {m M : AM} {T W Q : Nat} {P : Nat → Nat} {l r i : Nat} {k : Option Blk} (h : RS m M T W Q P l r i) (hi : i < l) :
    RS m ((((M ++ ([some { cells := bv (tabB (fun _ => false) r) }] : AM)).set W (some { cells := ((List.range l).map fun x => if x < i then Value.slice (some ⟨P x, 0, none⟩) r r else Value.slice none 0 0).set i (.slice (some ⟨M.length + 0, 0, none⟩) r r) }) ++ [k]).set Q none) ++ [some { cells := iv (nats (List.range i)) ++ [.int .i64 (i : Nat)], kind := .grow, size := 1 }])
      T W (M.length + 2) (up P i (M.length + 0)) l r (i + 1) := by
  obtain ⟨a1, a2, a3⟩ := h.d1
  have hT := (List.getElem?_eq_some_iff.1 h.t).1
  have hW := (List.getElem?_eq_some_iff.1 h.w).1
  obtain ⟨N, hN⟩ := h.low
  have hml : m.length ≤ M.length := by rw [hN]; simp
  have hQM : Q ≠ M.length := by rcases h.q with ⟨_, q⟩ | ⟨_, q, _⟩ <;> omega
  refine ⟨keep3 h.t (Ne.symm a1) (Ne.symm a2), ?_, fun x hx => ?_, .inr ⟨by omega, by simp, ?_⟩, by refine ⟨a1, ?_, ?_⟩ <;> omega, fun x hx => ?_, fun x y hx hy hxy => ?_, ?_, ⟨h.dm.1, h.dm.2.1, by omega⟩, fun x hx => ?_⟩
  · refine get_old _ ?_
    rw [List.getElem?_set_ne (Ne.symm a3)]
    refine get_old _ ?_
    rw [List.getElem?_set_self (by simp; omega)]
    congr 3
    apply List.ext_getElem?
    intro x
    by_cases hx : x < l
    · by_cases e : i = x
      · subst e; simp [hx, up]
      · rw [List.getElem?_set_ne e]
        simp only [List.getElem?_map, List.getElem?_range hx, Option.map_some]
        by_cases h : x < i
        · rw [if_pos h, if_pos (by omega), up_ne _ _ (Ne.symm e)]
        · rw [if_neg h, if_neg (by omega)]
    · rw [List.getElem?_eq_none (by simp; omega), List.getElem?_eq_none (by simp; omega)]
  · by_cases e : x = i
    · subst e
      rw [up_same]
      refine get_old _ ?_
      rw [List.getElem?_set_ne (by omega)]
      refine get_old _ ?_
      rw [List.getElem?_set_ne (by omega)]
      simp
    · rw [up_ne _ _ e]
      obtain ⟨e1, e2, e3⟩ := h.d2 x (by omega)
      exact keep3 (h.rows x (by omega)) (Ne.symm e2) (Ne.symm e3)
  · rw [List.getElem?_append_right (by simp)]
    simp [nats, iv, List.range_succ]
  · by_cases e : x = i
    · subst e; rw [up_same]; refine ⟨?_, ?_, ?_⟩ <;> omega
    · rw [up_ne _ _ e]
      obtain ⟨e1, e2, _⟩ := h.d2 x (by omega)
      have := (h.dp x (by omega)).2
      exact ⟨e1, e2, by omega⟩
  · by_cases e : x = i
    · by_cases e' : y = i
      · omega
      · subst e
        rw [up_same, up_ne _ _ e'] at hxy
        have := (h.dp y (by omega)).2
        omega
    · by_cases e' : y = i
      · subst e'
        rw [up_same, up_ne _ _ e] at hxy
        have := (h.dp x (by omega)).2
        omega
      · rw [up_ne _ _ e, up_ne _ _ e'] at hxy
        exact h.d3 x y (by omega) (by omega) hxy
  · exact app_low _ (set_low (app_low _ (set_low (app_low _ h.low) h.dm.2.1)) h.dm.2.2)
  · by_cases e : x = i
    · subst e; rw [up_same]; simp; omega
    · rw [up_ne _ _ e]
      obtain ⟨e1, e2⟩ := h.dp x (by omega)
      simp; omega
theorem RS.si {m M : AM} {T W Q : Nat} {P : Nat → Nat} {l r : Nat} (h : RS m M T W Q P l r l) : ∃ O, SI false m M O T W Q P l r .grow 1 (fun _ => -1) (fun _ => -1) (fun _ _ => false) (List.range l) := by
  obtain ⟨a1, a2, a3⟩ := h.d1
  have hT := (List.getElem?_eq_some_iff.1 h.t).1
  have hW := (List.getElem?_eq_some_iff.1 h.w).1
  obtain ⟨N, hN⟩ := h.low
  have hml : m.length ≤ M.length := by rw [hN]; simp
  refine ⟨M.length + Q + 1, fun h => (by cases h), h.t, ?_, h.rows, fun hp => ?_, by simp, by refine ⟨?_, ?_, ?_, ?_, ?_, ?_⟩ <;> omega, fun i hi => ?_, h.d3, h.low, ⟨by omega, h.dm.1, h.dm.2.1, h.dm.2.2⟩, fun i hi => (h.dp i hi).1⟩
  · rw [h.w]
    congr 3
    apply List.map_congr_left
    intro x hx
    rw [if_pos (List.mem_range.1 hx)]
  · rcases h.q with ⟨q, _⟩ | ⟨_, _, q⟩
    · omega
    · exact ⟨[], by rw [q, List.append_nil], by simp⟩
  · obtain ⟨e1, e2, e3⟩ := h.d2 i hi
    have := (h.dp i hi).2
    refine ⟨?_, e1, e2, e3⟩; omega
/-- The row of those that may ask. -/
def qv (Q n l : Nat) : Value := if l = 0 then .slice none 0 0 else .slice (some ⟨Q, 0, none⟩) n l
theorem qv_pos {Q n l : Nat} (h : 0 < l) : qv Q n l = .slice (some ⟨Q, 0, none⟩) n l := if_neg (by omega)
set_option maxHeartbeats 8000000 in
set_option maxRecDepth 100000 in
theorem RStable_ok {m : AM} {lv rv : Value} {u : Ru} {L R : List Gl} (hl : Gls m lv L) (hr : Gls m rv R) (h1 : L.length ≤ 9223372036854775807) (h2 : R.length ≤ 9223372036854775807) (hok : okB L R u = true) :
    ACall Try.prog 34 #[lv, rv, u.v] m (More (fun m' v => ∃ w, v = .tuple #[w, .int .i64 0] ∧ Ints m' w (tab (outF (stF (cT u L R) L.length R.length).mt R.length) L.length)) m) := by
  have r0 : ∀ T : AM, RdL (m ++ (some { cells := u.cells } :: T)) (m.length + 0) 0 u.cells := fun T => RdL.new rfl rfl
  have w2 := fun T => Good_ok (hl.old T) (hr.old T) h1 h2 hok
  obtain ⟨k1, k2, k3⟩ := okB_iff hok
  obtain ⟨hl32, hr32⟩ := okB_len hok
  obtain ⟨la, lo, l1, l2, _⟩ := id hl
  obtain ⟨ra, ro, r1, r2, _⟩ := id hr
  refine ACall.start Try.func34 rfl rfl ?_
  (repeat (first | (with_reducible refine AWo.cons ?_) | ((with_reducible refine Step.id ?_); first | ((with_reducible apply Step.move); exact rfl; exact rfl) | ((with_reducible apply Step.assign); exact rfl; exact rfl) | ((with_reducible apply Step.loadL (n := 8)); exact rfl; (focus (decide +kernel)); (focus (decide +kernel)); exact rfl; (focus (exact RdL.new rfl rfl)); exact rfl; exact rfl) | ((with_reducible apply Step.not); exact rfl; exact rfl) | ((with_reducible apply Step.callR fit); exact rfl; exact Try.func26; exact rfl; exact rfl; exact (w2 _)) | ((with_reducible apply Step.box 0); exact rfl; exact rfl; (focus (kernel_rfl)); exact rfl; (focus (first | (simp only [List.nil_append, List.cons_append, List.set_cons_zero, List.set_cons_succ, iv_set, bv_set, iv_rep, bv_rep]; done) | (simp only [List.nil_append, List.cons_append, List.set_cons_zero, List.set_cons_succ, iv_set, bv_set, iv_rep, bv_rep]; rfl) | rfl)))) | (with_reducible refine AWo.nil ?_) | ((with_reducible apply AW.seq)) | ((with_reducible apply Then.n)) | ((with_reducible apply AW.regL)) | ((with_reducible apply AW.skip)) | ((with_reducible apply AW.condF); exact rfl; (focus (rfl)))))
  ((with_reducible apply Step.callX fit); exact rfl; exact Try.func59; exact rfl; exact rfl; exact (table_ok (hl.old _) (hr.old _) k1 k2 k3))
  rintro cv m1 ⟨N0, hN0⟩ hT
  have hMN : ∃ N, m1 = m ++ N := ⟨_, by rw [hN0, List.append_assoc]⟩
  clear r0 hN0 w2
  generalize cT u L R = c at *
  generalize L.length = l at *
  generalize R.length = r at *
  obtain ⟨b, o, t5, t6, t7⟩ := id hT
  (repeat (first | (with_reducible refine AWo.cons ?_) | ((with_reducible refine Step.id ?_); ((with_reducible apply Step.assign); exact rfl; exact rfl)) | (with_reducible refine AWo.nil ?_) | ((with_reducible apply Then.n))))
  rw [List.append_nil]
  refine AW.rebase ?_
  (repeat (first | (with_reducible refine AWo.cons ?_) | ((with_reducible refine Step.id ?_); first | ((with_reducible apply Step.move); exact rfl; exact rfl) | ((with_reducible apply Step.assign); exact rfl; exact rfl) | ((with_reducible apply Step.len); exact rfl; (focus (first | assumption | exact Sl.mk (by omega))); (focus (decide +kernel)); exact rfl) | ((with_reducible apply Step.make1 0); exact rfl; exact rfl; exact rfl; exact el27; (focus (omega)); exact rfl; (focus (first | (simp only [List.nil_append, List.cons_append, List.set_cons_zero, List.set_cons_succ, iv_set, bv_set, iv_rep, bv_rep]; done) | (simp only [List.nil_append, List.cons_append, List.set_cons_zero, List.set_cons_succ, iv_set, bv_set, iv_rep, bv_rep]; rfl) | rfl)))) | (with_reducible refine AWo.nil ?_) | ((with_reducible apply AW.seq)) | ((with_reducible apply Then.n)) | ((with_reducible apply AW.regL)) | ((with_reducible apply AW.block))))
  refine AW.loopT (fun rk t L' => ∃ k : Nat, rk = r - k ∧ k ≤ r ∧ L' = [some { cells := iv (tab (fun x => if x < k then -1 else 0) r) }] ∧ t = [(0, lv), (1, rv), (8, cv), (9, .slice (some ⟨m1.length + 0, 0, none⟩) r r), (35, .int .i64 (r : Nat)), (36, .int .i64 (k : Nat))])
    ⟨_, _, [some { cells := iv (List.replicate r 0) }], (Or.inl ⟨rfl, (by repeat (first | exact trivial | (refine And.intro rfl ?_)))⟩), 0, rfl, Nat.zero_le _, by simp only [tab_rep]; simp, rfl⟩ ?_
  rintro rk t L' ⟨k, rfl, hk, rfl, rfl⟩
  rcases Nat.lt_or_ge k r with hkl | hkg
  · (repeat (first | (with_reducible refine AWo.cons ?_) | ((with_reducible refine Step.id ?_); first | ((with_reducible apply Step.move); exact rfl; exact rfl) | ((with_reducible apply Step.assign); exact rfl; exact rfl) | ((with_reducible apply Step.ix1z); exact rfl; (focus (exact Sl.mk (by omega))); exact rfl; (focus (decide +kernel)); exact rfl; (focus (omega))) | ((with_reducible apply Step.add); exact rfl; exact rfl; (focus (omega)); exact rfl) | ((with_reducible apply Step.lss); exact rfl; exact rfl; exact rfl) | ((with_reducible apply Step.store (k := 0)); exact rfl; exact rfl; exact rfl; exact rfl; (focus (decide +kernel)); exact rfl; exact rfl; (focus (first | omega | (simp [iv, bv]; done) | (simp [iv, bv]; omega))); (focus (first | (simp only [List.nil_append, List.cons_append, List.set_cons_zero, List.set_cons_succ, iv_set, bv_set, iv_rep, bv_rep]; done) | (simp only [List.nil_append, List.cons_append, List.set_cons_zero, List.set_cons_succ, iv_set, bv_set, iv_rep, bv_rep]; rfl) | rfl)))) | (with_reducible refine AWo.nil ?_) | ((with_reducible apply AW.seq)) | ((with_reducible apply Then.n)) | ((with_reducible apply AW.regL)) | ((with_reducible apply AW.block)) | ((with_reducible apply InBlk.n)) | ((with_reducible apply AW.skip)) | ((with_reducible apply AW.condT); exact rfl; (focus ((simp only [decide_eq_true_eq, decide_eq_false_iff_not, Bool.not_eq_true', Bool.not_eq_false', Bool.not_true, Bool.not_false]; first | assumption | omega))))))
    exact ⟨_, _, [some { cells := iv (tab (fun x => if x < k + 1 then -1 else 0) r) }], by omega, by rw [tab_set, fill_step]; exact (Or.inl ⟨rfl, (by repeat (first | exact trivial | (refine And.intro rfl ?_)))⟩), k + 1, rfl, by omega, rfl, rfl⟩
  obtain rfl : k = r := by omega
  rw [fill_all]
  (repeat (first | (with_reducible refine AWo.cons ?_) | ((with_reducible refine Step.id ?_); first | ((with_reducible apply Step.move); exact rfl; exact rfl) | ((with_reducible apply Step.assign); exact rfl; exact rfl) | ((with_reducible apply Step.lss); exact rfl; exact rfl; exact rfl) | ((with_reducible apply Step.len); exact rfl; (focus (assumption)); (focus (decide +kernel)); exact rfl) | ((with_reducible apply Step.make1 1); exact rfl; exact rfl; exact rfl; exact el98; (focus (omega)); exact rfl; (focus (first | (simp only [List.nil_append, List.cons_append, List.set_cons_zero, List.set_cons_succ, iv_set, bv_set, iv_rep, bv_rep]; done) | (simp only [List.nil_append, List.cons_append, List.set_cons_zero, List.set_cons_succ, iv_set, bv_set, iv_rep, bv_rep]; rfl) | rfl)))) | (with_reducible refine AWo.nil ?_) | ((with_reducible apply AW.seq)) | ((with_reducible apply Then.n)) | ((with_reducible apply AW.regL)) | ((with_reducible apply AW.block)) | ((with_reducible apply AW.exit)) | ((with_reducible apply InBlk.hit)) | ((with_reducible apply Then.e)) | ((with_reducible apply AW.condF); exact rfl; (focus ((simp only [decide_eq_true_eq, decide_eq_false_iff_not, Bool.not_eq_true', Bool.not_eq_false', Bool.not_true, Bool.not_false]; first | assumption | omega))))))
  have hrs : RS m1 (m1 ++ [some { cells := iv (tab (fun _ => -1) k) }, some { cells := List.replicate l (.slice none 0 0) }]) (m1.length + 0) (m1.length + 1) (m1.length + 4) (fun _ => 0) l k 0 := by
    refine ⟨by rw [get_app]; rfl, ?_, fun x hx => by omega, .inl ⟨rfl, by simp⟩, by refine ⟨?_, ?_, ?_⟩ <;> omega, fun x hx => by omega, fun x y hx => by omega, ⟨_, rfl⟩, ⟨by omega, by omega, by omega⟩, fun x hx => by omega⟩
    rw [get_app]
    simp [List.map_const']
  generalize m1 ++ [some { cells := iv (tab (fun _ => -1) k) }, some { cells := List.replicate l (Value.slice none 0 0) }] = M at hrs ⊢
  generalize m1.length + 0 = T at hrs ⊢
  generalize m1.length + 1 = W at hrs ⊢
  generalize m1.length + 4 = Q at hrs
  generalize k = r at *
  refine AW.loopW (fun n t M' => ∃ (i Q' : Nat) (P : Nat → Nat), n = l - i ∧ i ≤ l ∧ RS m1 M' T W Q' P l r i ∧ t = fr [(0, lv), (1, rv), (8, cv), (9, .slice (some ⟨T, 0, none⟩) r r), (11, .slice (some ⟨W, 0, none⟩) l l), (12, qv Q' i i), (47, .int .i64 (l : Nat)), (48, .int .i64 (i : Nat))])
    ⟨_, [(0, lv), (1, rv), (8, cv), (9, .slice (some ⟨T, 0, none⟩) r r), (11, .slice (some ⟨W, 0, none⟩) l l), (12, .slice none 0 0), (47, .int .i64 (l : Nat)), (48, .int .i64 ((0 : Nat) : Int))], (by repeat (first | exact trivial | (refine And.intro rfl ?_))), 0, Q, _, rfl, Nat.zero_le _, hrs, rfl⟩ ?_
  clear hrs
  rintro n t M' ⟨i, Q', P, rfl, hi, hrs, rfl⟩
  rcases Nat.lt_or_ge i l with hil | hig
  · refine AW.rebase ?_
    obtain ⟨v12, hv⟩ : ∃ v, qv Q' i i = v := ⟨_, rfl⟩
    rw [hv]
    (repeat (first | (with_reducible refine AWo.cons ?_) | ((with_reducible refine Step.id ?_); first | ((with_reducible apply Step.move); exact rfl; exact rfl) | ((with_reducible apply Step.assign); exact rfl; exact rfl) | ((with_reducible apply Step.ix1z); exact rfl; (focus (exact Sl.mk (by omega))); exact rfl; (focus (decide +kernel)); exact rfl; (focus (omega))) | ((with_reducible apply Step.lss); exact rfl; exact rfl; exact rfl) | ((with_reducible apply Step.len); exact rfl; (focus (assumption)); (focus (decide +kernel)); exact rfl) | ((with_reducible apply Step.make1 0); exact rfl; exact rfl; exact rfl; exact el88; (focus (omega)); exact rfl; (focus (first | (simp only [List.nil_append, List.cons_append, List.set_cons_zero, List.set_cons_succ, iv_set, bv_set, iv_rep, bv_rep]; done) | (simp only [List.nil_append, List.cons_append, List.set_cons_zero, List.set_cons_succ, iv_set, bv_set, iv_rep, bv_rep]; rfl) | rfl)))) | (with_reducible refine AWo.nil ?_) | ((with_reducible apply AW.seq)) | ((with_reducible apply Then.n)) | ((with_reducible apply AW.regL)) | ((with_reducible apply AW.block)) | ((with_reducible apply AW.skip)) | ((with_reducible apply AW.condT); exact rfl; (focus ((simp only [decide_eq_true_eq, decide_eq_false_iff_not, Bool.not_eq_true', Bool.not_eq_false', Bool.not_true, Bool.not_false]; first | assumption | omega))))))
    have hn := RS.next (k := some { cells := [.int .i64 (i : Nat)] }) hrs hil
    rw [← tabB_rep] at hn
    generalize hM2 : (M' ++ _).set W _ = M2 at hn
    have hM2l : M2.length = M'.length + 1 := by rw [← hM2]; simp
    have hQ2 : 0 < i → M2[Q']? = some (some { cells := iv (nats (List.range i)), kind := .grow, size := 1 }) := fun h0 => by
      rcases hrs.q with ⟨q, _⟩ | ⟨_, _, q⟩
      · omega
      · rw [← hM2, List.getElem?_set_ne hrs.d1.2.2]; exact get_old _ q
    have hQ1 : i = 0 → M'.length + 2 ≤ Q' := fun h0 => by
      rcases hrs.q with ⟨_, q⟩ | ⟨q, _, _⟩ <;> omega
    ((with_reducible apply Step.storeW); exact rfl; exact rfl; exact (get_old _ hrs.w); (focus (simp; omega)); (focus (decide +kernel)); exact rfl; exact rfl; exact hM2)
    (repeat (first | (with_reducible refine AWo.nil ?_) | ((with_reducible apply Then.n))))
    refine AW.rebase ?_
    (repeat (first | (with_reducible refine AWo.cons ?_) | ((with_reducible refine Step.id ?_); first | ((with_reducible apply Step.move); exact rfl; exact rfl) | ((with_reducible apply Step.buildS 0); exact rfl; exact rfl; exact (fun _ _ => bs27x); exact rfl; (focus (first | (simp only [List.nil_append, List.cons_append, List.set_cons_zero, List.set_cons_succ, iv_set, bv_set, iv_rep, bv_rep]; done) | (simp only [List.nil_append, List.cons_append, List.set_cons_zero, List.set_cons_succ, iv_set, bv_set, iv_rep, bv_rep]; rfl) | rfl)))) | ((with_reducible apply AW.regL))))
    rcases Nat.eq_zero_or_pos i with h0 | h0
    · subst h0
      obtain rfl : v12 = .slice none 0 0 := by rw [← hv]; rfl
      refine Step.appN (new := .int .i64 ((0 : Nat) : Int)) rfl rfl el27 un27 (by simp) rfl rfl rfl ?_
      rw [List.set_eq_of_length_le (by simp; have := hQ1 rfl; omega)] at hn
      (repeat (first | (with_reducible refine AWo.cons ?_) | ((with_reducible refine Step.id ?_); first | ((with_reducible apply Step.move); exact rfl; exact rfl) | ((with_reducible apply Step.assign); exact rfl; exact rfl) | ((with_reducible apply Step.add); exact rfl; exact rfl; (focus (omega)); exact rfl)) | (with_reducible refine AWo.nil ?_) | ((with_reducible apply Then.n)) | ((with_reducible apply AW.regL)) | ((with_reducible apply InBlk.n))))
      exact ⟨_, [(0, lv), (1, rv), (8, cv), (9, .slice (some ⟨T, 0, none⟩) r r), (11, .slice (some ⟨W, 0, none⟩) l l), (12, .slice (some ⟨(M2 ++ ([some { cells := [Value.int .i64 ((0 : Nat) : Int)] }] : AM)).length, 0, none⟩) 1 1), (47, .int .i64 (l : Nat)), (48, .int .i64 ((0 + 1 : Nat) : Int))], by omega, (by repeat (first | exact trivial | (refine And.intro rfl ?_))), 0 + 1, _, _, rfl, by omega, hn, by rw [qv_pos (by omega)]; simp [hM2l]⟩
    · obtain rfl : v12 = .slice (some ⟨Q', 0, none⟩) i i := by rw [← hv, qv_pos h0]
      refine Step.appB (c := iv (nats (List.range i))) (new := .int .i64 (i : Nat)) rfl rfl el27 un27 (get_old _ (hQ2 h0)) (by simp [iv, nats]) (by simp) rfl (by omega) rfl ?_
      (repeat (first | (with_reducible refine AWo.cons ?_) | ((with_reducible refine Step.id ?_); first | ((with_reducible apply Step.move); exact rfl; exact rfl) | ((with_reducible apply Step.assign); exact rfl; exact rfl) | ((with_reducible apply Step.add); exact rfl; exact rfl; (focus (omega)); exact rfl)) | (with_reducible refine AWo.nil ?_) | ((with_reducible apply Then.n)) | ((with_reducible apply AW.regL)) | ((with_reducible apply InBlk.n))))
      exact ⟨_, [(0, lv), (1, rv), (8, cv), (9, .slice (some ⟨T, 0, none⟩) r r), (11, .slice (some ⟨W, 0, none⟩) l l), (12, .slice (some ⟨(M2 ++ ([some { cells := [Value.int .i64 ((i : Nat) : Int)] }] : AM)).length, 0, none⟩) (i + 1) (i + 1)), (47, .int .i64 (l : Nat)), (48, .int .i64 ((i + 1 : Nat) : Int))], by omega, (by repeat (first | exact trivial | (refine And.intro rfl ?_))), i + 1, _, _, rfl, by omega, hn, by rw [qv_pos (by omega)]; simp [hM2l]⟩
  obtain rfl : i = l := by omega
  (repeat (first | (with_reducible refine AWo.cons ?_) | ((with_reducible refine Step.id ?_); ((with_reducible apply Step.lss); exact rfl; exact rfl; exact rfl)) | (with_reducible refine AWo.nil ?_) | ((with_reducible apply AW.seq)) | ((with_reducible apply Then.n)) | ((with_reducible apply AW.regL)) | ((with_reducible apply AW.block)) | ((with_reducible apply AW.exit)) | ((with_reducible apply InBlk.hit)) | ((with_reducible apply Then.e)) | ((with_reducible apply AW.condF); exact rfl; (focus ((simp only [decide_eq_true_eq, decide_eq_false_iff_not, Bool.not_eq_true', Bool.not_eq_false', Bool.not_true, Bool.not_false]; first | assumption | omega))))))
  obtain ⟨O, hs⟩ := hrs.si
  clear hrs
  generalize i = l at *
  have hfn := stF_fin c l r
  refine AW.loopW (fun n t M' => ∃ (A : Nat → Nat → Bool) (mt : Nat → Int) (st : List Nat), SI false m1 M' O T W Q' P l r .grow 1 (fun _ => -1) mt (rfd A mt) st ∧ GsI c l r ⟨A, mt, st⟩ ∧ gsM l r ⟨A, mt, st⟩ ≤ n ∧ gsRun c r n ⟨A, mt, st⟩ = stF c l r ∧
      t = fr [(0, lv), (1, rv), (8, cv), (9, .slice (some ⟨T, 0, none⟩) r r), (11, .slice (some ⟨W, 0, none⟩) l l), (12, qv Q' st.length l)])
    ⟨gsM l r (gs0 l), [(0, lv), (1, rv), (8, cv), (9, .slice (some ⟨T, 0, none⟩) r r), (11, .slice (some ⟨W, 0, none⟩) l l), (12, qv Q' l l)], (by repeat (first | exact trivial | (refine And.intro rfl ?_))), fun _ _ => false, fun _ => -1, List.range l, hs, gsi0 c l r, Nat.le_refl _, rfl, by rw [List.length_range]⟩ ?_
  clear hs
  generalize Q' = Q at *
  rintro n t M' ⟨A, mt, st, hs, hg, hm, hrun, rfl⟩
  obtain ⟨N, hN⟩ := id hs.low
  have hT' : RT M' cv c l r := by rw [hN]; exact hT.old _
  have hZ := hs.ln
  rcases List.eq_nil_or_concat st with rfl | ⟨S, i, rfl⟩
  · rw [gsRun_nil] at hrun
    obtain ⟨v12, hv⟩ : ∃ v, qv Q ([] : List Nat).length l = v := ⟨_, rfl⟩
    rw [hv]
    obtain ⟨qa, qo, hsl⟩ : ∃ qa qo, Sl v12 qa qo 0 := by
      rw [← hv]; unfold qv
      split
      · exact ⟨_, _, Sl.nil 0 0⟩
      · exact ⟨_, _, Sl.mk (Nat.zero_le _)⟩
    (repeat (first | (with_reducible refine AWo.cons ?_) | ((with_reducible refine Step.id ?_); first | ((with_reducible apply Step.move); exact rfl; exact rfl) | ((with_reducible apply Step.gtr); exact rfl; exact rfl; exact rfl) | ((with_reducible apply Step.len); exact rfl; (focus (assumption)); (focus (decide +kernel)); exact rfl)) | (with_reducible refine AWo.nil ?_) | ((fail_if_success (with_reducible refine AW.atR (id := 37) ?_)); ((with_reducible apply AW.seq))) | ((with_reducible apply Then.n)) | ((with_reducible apply AW.regL)) | ((with_reducible apply AW.exit)) | ((with_reducible apply InBlk.hit)) | ((with_reducible apply Then.e)) | ((with_reducible apply AW.condF); exact rfl; (focus (rfl)))))
    refine AW.rebase ?_
    (repeat (first | (with_reducible refine AWo.cons ?_) | ((with_reducible refine Step.id ?_); first | ((with_reducible apply Step.move); exact rfl; exact rfl) | ((with_reducible apply Step.assign); exact rfl; exact rfl) | ((with_reducible apply Step.len); exact rfl; (focus (first | assumption | exact Sl.mk (by omega))); (focus (decide +kernel)); exact rfl) | ((with_reducible apply Step.make1 0); exact rfl; exact rfl; exact rfl; exact el27; (focus (omega)); exact rfl; (focus (first | (simp only [List.nil_append, List.cons_append, List.set_cons_zero, List.set_cons_succ, iv_set, bv_set, iv_rep, bv_rep]; done) | (simp only [List.nil_append, List.cons_append, List.set_cons_zero, List.set_cons_succ, iv_set, bv_set, iv_rep, bv_rep]; rfl) | rfl)))) | (with_reducible refine AWo.nil ?_) | ((with_reducible apply AW.seq)) | ((with_reducible apply Then.n)) | ((with_reducible apply AW.regL)) | ((with_reducible apply AW.block))))
    refine AW.loopT (fun rk t L' => ∃ k : Nat, rk = l - k ∧ k ≤ l ∧ L' = [some { cells := iv (tab (fun x => if x < k then -1 else 0) l) }] ∧ t = [(9, .slice (some ⟨T, 0, none⟩) r r), (18, .slice (some ⟨M'.length + 0, 0, none⟩) l l), (148, .int .i64 (l : Nat)), (149, .int .i64 (k : Nat))])
      ⟨_, _, [some { cells := iv (List.replicate l 0) }], (Or.inl ⟨rfl, (by repeat (first | exact trivial | (refine And.intro rfl ?_)))⟩), 0, rfl, Nat.zero_le _, by simp only [tab_rep]; simp, rfl⟩ ?_
    rintro rk t L' ⟨k, rfl, hk, rfl, rfl⟩
    rcases Nat.lt_or_ge k l with hkl | hkg
    · (repeat (first | (with_reducible refine AWo.cons ?_) | ((with_reducible refine Step.id ?_); first | ((with_reducible apply Step.move); exact rfl; exact rfl) | ((with_reducible apply Step.assign); exact rfl; exact rfl) | ((with_reducible apply Step.ix1z); exact rfl; (focus (exact Sl.mk (by omega))); exact rfl; (focus (decide +kernel)); exact rfl; (focus (omega))) | ((with_reducible apply Step.add); exact rfl; exact rfl; (focus (omega)); exact rfl) | ((with_reducible apply Step.lss); exact rfl; exact rfl; exact rfl) | ((with_reducible apply Step.store (k := 0)); exact rfl; exact rfl; exact rfl; exact rfl; (focus (decide +kernel)); exact rfl; exact rfl; (focus (first | omega | (simp [iv, bv]; done) | (simp [iv, bv]; omega))); (focus (first | (simp only [List.nil_append, List.cons_append, List.set_cons_zero, List.set_cons_succ, iv_set, bv_set, iv_rep, bv_rep]; done) | (simp only [List.nil_append, List.cons_append, List.set_cons_zero, List.set_cons_succ, iv_set, bv_set, iv_rep, bv_rep]; rfl) | rfl)))) | (with_reducible refine AWo.nil ?_) | ((with_reducible apply AW.seq)) | ((with_reducible apply Then.n)) | ((with_reducible apply AW.regL)) | ((with_reducible apply AW.block)) | ((with_reducible apply InBlk.n)) | ((with_reducible apply AW.skip)) | ((with_reducible apply AW.condT); exact rfl; (focus ((simp only [decide_eq_true_eq, decide_eq_false_iff_not, Bool.not_eq_true', Bool.not_eq_false', Bool.not_true, Bool.not_false]; first | assumption | omega))))))
      exact ⟨_, _, [some { cells := iv (tab (fun x => if x < k + 1 then -1 else 0) l) }], by omega, by rw [tab_set, fill_step]; exact (Or.inl ⟨rfl, (by repeat (first | exact trivial | (refine And.intro rfl ?_)))⟩), k + 1, rfl, by omega, rfl, rfl⟩
    obtain rfl : k = l := by omega
    rw [fill_all]
    (repeat (first | (with_reducible refine AWo.cons ?_) | ((with_reducible refine Step.id ?_); first | ((with_reducible apply Step.move); exact rfl; exact rfl) | ((with_reducible apply Step.lss); exact rfl; exact rfl; exact rfl) | ((with_reducible apply Step.len); exact rfl; (focus (exact Sl.mk (by omega))); (focus (decide +kernel)); exact rfl)) | (with_reducible refine AWo.nil ?_) | ((with_reducible apply AW.seq)) | ((with_reducible apply Then.n)) | ((with_reducible apply AW.regL)) | ((with_reducible apply AW.block)) | ((with_reducible apply AW.exit)) | ((with_reducible apply InBlk.hit)) | ((with_reducible apply Then.e)) | ((with_reducible apply AW.condF); exact rfl; (focus ((simp only [decide_eq_true_eq, decide_eq_false_iff_not, Bool.not_eq_true', Bool.not_eq_false', Bool.not_true, Bool.not_false]; first | assumption | omega))))))
    refine AW.loopT (fun rk t L' => ∃ j : Nat, rk = r - j ∧ j ≤ r ∧ L' = [some { cells := iv (tab (outF mt j) k) }] ∧ t = [(9, .slice (some ⟨T, 0, none⟩) r r), (18, .slice (some ⟨M'.length + 0, 0, none⟩) k k), (156, .slice (some ⟨T, 0, none⟩) r r), (157, .int .i64 (r : Nat)), (158, .int .i64 (j : Nat))])
      ⟨_, _, [some { cells := iv (tab (fun _ => -1) k) }], (Or.inl ⟨rfl, (by repeat (first | exact trivial | (refine And.intro rfl ?_)))⟩), 0, rfl, Nat.zero_le _, by rw [show outF mt 0 = fun _ => -1 from rfl], rfl⟩ ?_
    rintro rk t L' ⟨j, rfl, hj, rfl, rfl⟩
    rcases Nat.lt_or_ge j r with hjr | hjg
    · have rt := hs.rdT hjr
      by_cases h0 : mt j < 0
      · have hto : tab (outF mt (j + 1)) k = tab (outF mt j) k := tab_congr fun x hx => by
          rw [outF_succ fun y hy e e' => by omega, if_neg (by omega)]
        (repeat (first | (with_reducible refine AWo.cons ?_) | ((with_reducible refine Step.id ?_); first | ((with_reducible apply Step.move); exact rfl; exact rfl) | ((with_reducible apply Step.assign); exact rfl; exact rfl) | ((with_reducible apply Step.load); exact rfl; (focus (decide +kernel)); exact rfl; (focus (exact Rd.old _ (by assumption)))) | ((with_reducible apply Step.ix1z); exact rfl; (focus (exact Sl.mk (by omega))); exact rfl; (focus (decide +kernel)); exact rfl; (focus (omega))) | ((with_reducible apply Step.add); exact rfl; exact rfl; (focus (omega)); exact rfl) | ((with_reducible apply Step.lss); exact rfl; exact rfl; exact rfl) | ((with_reducible apply Step.geq); exact rfl; exact rfl; exact rfl)) | (with_reducible refine AWo.nil ?_) | ((with_reducible apply AW.seq)) | ((with_reducible apply Then.n)) | ((with_reducible apply AW.regL)) | ((with_reducible apply AW.block)) | ((with_reducible apply InBlk.n)) | ((with_reducible apply AW.skip)) | ((with_reducible apply AW.condT); exact rfl; (focus ((simp only [decide_eq_true_eq, decide_eq_false_iff_not, Bool.not_eq_true', Bool.not_eq_false', Bool.not_true, Bool.not_false]; first | assumption | omega)))) | ((with_reducible apply AW.condF); exact rfl; (focus ((simp only [decide_eq_true_eq, decide_eq_false_iff_not, Bool.not_eq_true', Bool.not_eq_false', Bool.not_true, Bool.not_false]; first | assumption | omega))))))
        exact ⟨_, _, [some { cells := iv (tab (outF mt j) k) }], by omega, (Or.inl ⟨rfl, (by repeat (first | exact trivial | (refine And.intro rfl ?_)))⟩), j + 1, rfl, by omega, by rw [hto], rfl⟩
      · rcases hg.m1 j with e | ⟨q, y1, y2, y3, y4, y5⟩
        · simp only at e; omega
        simp only at y1
        rw [y1] at rt
        have hto : tab (outF mt (j + 1)) k = tab (up (outF mt j) q (j : Nat)) k := tab_congr fun x hx => by
          have hij : ∀ y, y < j → mt y = (x : Nat) → mt j ≠ (x : Nat) := fun y hy e e' => by
            have := hg.inj y j (by simp only; omega) (by simp only; omega)
            omega
          rw [outF_succ hij]
          by_cases e : x = q
          · subst e; rw [if_pos y1, up_same]
          · rw [if_neg (by omega), up_ne _ _ e]
        (repeat (first | (with_reducible refine AWo.cons ?_) | ((with_reducible refine Step.id ?_); first | ((with_reducible apply Step.move); exact rfl; exact rfl) | ((with_reducible apply Step.assign); exact rfl; exact rfl) | ((with_reducible apply Step.load); exact rfl; (focus (decide +kernel)); exact rfl; (focus (exact Rd.old _ (by assumption)))) | ((with_reducible apply Step.ix1z); exact rfl; (focus (exact Sl.mk (by omega))); exact rfl; (focus (decide +kernel)); exact rfl; (focus (omega))) | ((with_reducible apply Step.add); exact rfl; exact rfl; (focus (omega)); exact rfl) | ((with_reducible apply Step.lss); exact rfl; exact rfl; exact rfl) | ((with_reducible apply Step.geq); exact rfl; exact rfl; exact rfl) | ((with_reducible apply Step.store (k := 0)); exact rfl; exact rfl; exact rfl; exact rfl; (focus (decide +kernel)); exact rfl; exact rfl; (focus (first | omega | (simp [iv, bv]; done) | (simp [iv, bv]; omega))); (focus (first | (simp only [List.nil_append, List.cons_append, List.set_cons_zero, List.set_cons_succ, iv_set, bv_set, iv_rep, bv_rep]; done) | (simp only [List.nil_append, List.cons_append, List.set_cons_zero, List.set_cons_succ, iv_set, bv_set, iv_rep, bv_rep]; rfl) | rfl)))) | (with_reducible refine AWo.nil ?_) | ((with_reducible apply AW.seq)) | ((with_reducible apply Then.n)) | ((with_reducible apply AW.regL)) | ((with_reducible apply AW.block)) | ((with_reducible apply InBlk.n)) | ((with_reducible apply AW.skip)) | ((with_reducible apply AW.condT); exact rfl; (focus (first | rfl | (simp only [decide_eq_true_eq, decide_eq_false_iff_not, Bool.not_eq_true', Bool.not_eq_false', Bool.not_true, Bool.not_false]; first | assumption | omega))))))
        exact ⟨_, _, [some { cells := iv (tab (outF mt (j + 1)) k) }], by omega, by rw [hto, ← tab_set]; exact (Or.inl ⟨rfl, (by repeat (first | exact trivial | (refine And.intro rfl ?_)))⟩), j + 1, rfl, by omega, rfl, rfl⟩
    obtain rfl : j = r := by omega
    (repeat (first | (with_reducible refine AWo.cons ?_) | ((with_reducible refine Step.id ?_); first | ((with_reducible apply Step.move); exact rfl; exact rfl) | ((with_reducible apply Step.assign); exact rfl; exact rfl) | ((with_reducible apply Step.lss); exact rfl; exact rfl; exact rfl)) | (with_reducible refine AWo.nil ?_) | ((with_reducible apply AW.seq)) | ((with_reducible apply Then.n)) | ((with_reducible apply AW.regL)) | ((with_reducible apply AW.exit)) | ((with_reducible apply InBlk.hit)) | ((with_reducible apply Then.e)) | ((with_reducible apply AW.condF); exact rfl; (focus ((simp only [decide_eq_true_eq, decide_eq_false_iff_not, Bool.not_eq_true', Bool.not_eq_false', Bool.not_true, Bool.not_false]; first | assumption | omega))))))
    (refine AW.ret ?_; (repeat (first | refine Then.r ?_ | refine InBlk.r ?_)))
    obtain ⟨N1, hN1⟩ := hMN
    refine ⟨_, rfl, N1 ++ N ++ [some { cells := iv (tab (outF mt j) k) }], by rw [hN, hN1]; simp, _, rfl, ?_⟩
    rw [← hrun]
    exact ints_new (k := 0) rfl rfl _ (by simp)
  have hl0 : 0 < l := by simp at hZ; omega
  rw [qv_pos hl0]
  simp only [List.concat_eq_append, List.length_append, List.length_singleton] at hs hg hm hrun hZ ⊢
  obtain ⟨hg', hm'⟩ := gsi_step hg
  obtain ⟨hil, hif⟩ := hg.fr i (by simp)
  simp only at hif
  obtain ⟨n, rfl⟩ : ∃ n', n = n' + 1 := ⟨n - 1, by unfold gsM at hm; simp at hm; omega⟩
  rw [gsRun_snoc] at hrun
  have e1 : ((S.length + 1 : Nat) : Int) - 1 = ((S.length : Nat) : Int) := by omega
  have e2 : ((S.length : Nat) : Int) = ((S.length : Nat) : Int) := rfl
  have rq := hs.rdQ
  obtain ⟨cb, co, c1, c2, c3⟩ := id hT'
  obtain ⟨w, k1', k2'⟩ := c3 i hil
  have rw1 := hs.rdW hil
  (repeat (first | (with_reducible refine AWo.cons ?_) | ((with_reducible refine Step.id ?_); first | ((with_reducible apply Step.move); exact rfl; exact rfl) | ((with_reducible apply Step.assign); exact rfl; exact rfl) | ((with_reducible apply Step.load); exact rfl; (focus (decide +kernel)); exact rfl; (focus (assumption))) | ((with_reducible apply Step.ix1z); exact rfl; (focus (exact Sl.mk (by omega))); exact rfl; (focus (decide +kernel)); exact rfl; (focus (omega))) | ((with_reducible apply Step.subE); exact rfl; exact rfl; (focus (assumption)); (focus (omega)); exact rfl) | ((with_reducible apply Step.gtr); exact rfl; exact rfl; exact rfl) | ((with_reducible apply Step.len); exact rfl; (focus (first | assumption | exact Sl.mk (by omega))); (focus (decide +kernel)); exact rfl)) | (with_reducible refine AWo.nil ?_) | ((with_reducible apply AW.seq)) | ((with_reducible apply Then.n)) | ((with_reducible apply AW.regL)) | ((with_reducible apply AW.block)) | ((with_reducible apply AW.skip)) | ((with_reducible apply AW.condT); exact rfl; (focus ((simp only [decide_eq_true_eq, decide_eq_false_iff_not, Bool.not_eq_true', Bool.not_eq_false', Bool.not_true, Bool.not_false]; first | assumption | omega))))))
  refine AW.loopW (fun rk t M2 => ∃ j : Nat, rk = r - j ∧ j ≤ r ∧ M2 = M' ∧ t = fr [(0, lv), (1, rv), (8, cv), (9, .slice (some ⟨T, 0, none⟩) r r), (11, .slice (some ⟨W, 0, none⟩) l l), (12, .slice (some ⟨Q, 0, none⟩) (S.length + 1) l), (14, .int .i64 (i : Nat)), (15, .int .i64 (bstF (A i) (c i) j)), (72, .int .i64 (r : Nat)), (73, .int .i64 (j : Nat))])
    ⟨_, _, (by repeat (first | exact trivial | (refine And.intro rfl ?_))), 0, rfl, Nat.zero_le _, rfl, rfl⟩ ?_
  rintro rk t M' ⟨j, rfl, hj, rfl, rfl⟩
  have hbp := bst_prf (c := c i) (a := A i) (j := j)
  have hb1 : bstF (A i) (c i) (j + 1) = if A i j = false ∧ 0 ≤ c i j ∧ (bstF (A i) (c i) j < 0 ∨ c i j < c i (bstF (A i) (c i) j).toNat) then ((j : Nat) : Int) else bstF (A i) (c i) j := rfl
  obtain ⟨d1, d2, d3⟩ := bstF_bd (A i) (c i) j
  obtain ⟨b0, hb0⟩ : ∃ b0, bstF (A i) (c i) j = b0 := ⟨_, rfl⟩
  rw [hb0] at d1 d2 d3 hbp hb1 ⊢
  rcases Nat.lt_or_ge j r with hjr | hjg
  · have hp := rather_ok (k := b0) k2' hjr (by omega)
    rw [hbp] at hp
    cases ha : A i j with
    | true =>
      have ra' := hs.rdA hil hjr (b := true) (by rw [rfd_free hif, ha])
      rw [if_neg (by rw [ha]; simp)] at hb1
      (repeat (first | (with_reducible refine AWo.cons ?_) | ((with_reducible refine Step.id ?_); first | ((with_reducible apply Step.gdF); exact rfl; exact rfl; (focus (rfl))) | ((with_reducible apply Step.move); exact rfl; exact rfl) | ((with_reducible apply Step.assign); exact rfl; exact rfl) | ((with_reducible apply Step.load); exact rfl; (focus (decide +kernel)); exact rfl; (focus (assumption))) | ((with_reducible apply Step.ix1z); exact rfl; (focus (exact Sl.mk (by omega))); exact rfl; (focus (decide +kernel)); exact rfl; (focus (omega))) | ((with_reducible apply Step.add); exact rfl; exact rfl; (focus (omega)); exact rfl) | ((with_reducible apply Step.lss); exact rfl; exact rfl; exact rfl) | ((with_reducible apply Step.not); exact rfl; exact rfl) | ((with_reducible apply Step.pickF); exact rfl; exact rfl; exact rfl; exact rfl; (focus (rfl)))) | (with_reducible refine AWo.nil ?_) | ((with_reducible apply AW.seq)) | ((with_reducible apply Then.n)) | ((with_reducible apply AW.regL)) | ((with_reducible apply AW.block)) | ((with_reducible apply InBlk.n)) | ((with_reducible apply AW.skip)) | ((with_reducible apply AW.condT); exact rfl; (focus ((simp only [decide_eq_true_eq, decide_eq_false_iff_not, Bool.not_eq_true', Bool.not_eq_false', Bool.not_true, Bool.not_false]; first | assumption | omega)))) | ((with_reducible apply AW.condF); exact rfl; (focus (rfl)))))
      exact ⟨_, [(0, lv), (1, rv), (8, cv), (9, .slice (some ⟨T, 0, none⟩) r r), (11, .slice (some ⟨W, 0, none⟩) l l), (12, .slice (some ⟨Q, 0, none⟩) (S.length + 1) l), (14, .int .i64 (i : Nat)), (15, .int .i64 b0), (72, .int .i64 (r : Nat)), (73, .int .i64 (j + 1 : Nat))], by omega, (by repeat (first | exact trivial | (refine And.intro rfl ?_))), j + 1, rfl, by omega, rfl, by rw [hb1]⟩
    | false =>
      have ra' := hs.rdA hil hjr (b := false) (by rw [rfd_free hif, ha])
      by_cases hcd : 0 ≤ c i j ∧ (b0 < 0 ∨ c i j < c i b0.toNat)
      · rw [decide_eq_true hcd] at hp
        rw [if_pos ⟨ha, hcd⟩] at hb1
        (repeat (first | (with_reducible refine AWo.cons ?_) | ((with_reducible refine Step.id ?_); first | ((with_reducible apply Step.gdT); exact rfl; exact rfl; (focus (rfl))) | ((with_reducible apply Step.move); exact rfl; exact rfl) | ((with_reducible apply Step.assign); exact rfl; exact rfl) | ((with_reducible apply Step.load); exact rfl; (focus (decide +kernel)); exact rfl; (focus (assumption))) | ((with_reducible apply Step.ix1z); exact rfl; (focus (exact Sl.mk (by omega))); exact rfl; (focus (decide +kernel)); exact rfl; (focus (omega))) | ((with_reducible apply Step.ix1); exact rfl; (focus (assumption)); exact rfl; (focus (decide +kernel)); exact rfl; (focus (omega))) | ((with_reducible apply Step.add); exact rfl; exact rfl; (focus (omega)); exact rfl) | ((with_reducible apply Step.lss); exact rfl; exact rfl; exact rfl) | ((with_reducible apply Step.not); exact rfl; exact rfl) | ((with_reducible apply Step.pickT); exact rfl; exact rfl; exact rfl; exact rfl; (focus (rfl))) | ((with_reducible apply Step.callR fit); exact rfl; exact Try.func72; exact rfl; exact rfl; exact (hp))) | (with_reducible refine AWo.nil ?_) | ((with_reducible apply AW.seq)) | ((with_reducible apply Then.n)) | ((with_reducible apply AW.regL)) | ((with_reducible apply AW.block)) | ((with_reducible apply InBlk.n)) | ((with_reducible apply AW.skip)) | ((with_reducible apply AW.condT); exact rfl; (focus (first | rfl | (simp only [decide_eq_true_eq, decide_eq_false_iff_not, Bool.not_eq_true', Bool.not_eq_false', Bool.not_true, Bool.not_false]; first | assumption | omega))))))
        exact ⟨_, [(0, lv), (1, rv), (8, cv), (9, .slice (some ⟨T, 0, none⟩) r r), (11, .slice (some ⟨W, 0, none⟩) l l), (12, .slice (some ⟨Q, 0, none⟩) (S.length + 1) l), (14, .int .i64 (i : Nat)), (15, .int .i64 (j : Nat)), (72, .int .i64 (r : Nat)), (73, .int .i64 (j + 1 : Nat))], by omega, (by repeat (first | exact trivial | (refine And.intro rfl ?_))), j + 1, rfl, by omega, rfl, by rw [hb1]⟩
      · rw [decide_eq_false hcd] at hp
        rw [if_neg (fun h => hcd h.2)] at hb1
        (repeat (first | (with_reducible refine AWo.cons ?_) | ((with_reducible refine Step.id ?_); first | ((with_reducible apply Step.gdT); exact rfl; exact rfl; (focus (rfl))) | ((with_reducible apply Step.move); exact rfl; exact rfl) | ((with_reducible apply Step.assign); exact rfl; exact rfl) | ((with_reducible apply Step.load); exact rfl; (focus (decide +kernel)); exact rfl; (focus (assumption))) | ((with_reducible apply Step.ix1z); exact rfl; (focus (exact Sl.mk (by omega))); exact rfl; (focus (decide +kernel)); exact rfl; (focus (omega))) | ((with_reducible apply Step.ix1); exact rfl; (focus (assumption)); exact rfl; (focus (decide +kernel)); exact rfl; (focus (omega))) | ((with_reducible apply Step.add); exact rfl; exact rfl; (focus (omega)); exact rfl) | ((with_reducible apply Step.lss); exact rfl; exact rfl; exact rfl) | ((with_reducible apply Step.not); exact rfl; exact rfl) | ((with_reducible apply Step.pickT); exact rfl; exact rfl; exact rfl; exact rfl; (focus (rfl))) | ((with_reducible apply Step.callR fit); exact rfl; exact Try.func72; exact rfl; exact rfl; exact (hp))) | (with_reducible refine AWo.nil ?_) | ((with_reducible apply AW.seq)) | ((with_reducible apply Then.n)) | ((with_reducible apply AW.regL)) | ((with_reducible apply AW.block)) | ((with_reducible apply InBlk.n)) | ((with_reducible apply AW.skip)) | ((with_reducible apply AW.condT); exact rfl; (focus ((simp only [decide_eq_true_eq, decide_eq_false_iff_not, Bool.not_eq_true', Bool.not_eq_false', Bool.not_true, Bool.not_false]; first | assumption | omega)))) | ((with_reducible apply AW.condF); exact rfl; (focus (rfl)))))
        exact ⟨_, [(0, lv), (1, rv), (8, cv), (9, .slice (some ⟨T, 0, none⟩) r r), (11, .slice (some ⟨W, 0, none⟩) l l), (12, .slice (some ⟨Q, 0, none⟩) (S.length + 1) l), (14, .int .i64 (i : Nat)), (15, .int .i64 b0), (72, .int .i64 (r : Nat)), (73, .int .i64 (j + 1 : Nat))], by omega, (by repeat (first | exact trivial | (refine And.intro rfl ?_))), j + 1, rfl, by omega, rfl, by rw [hb1]⟩
  obtain rfl : j = r := by omega
  clear hb1 hbp
  by_cases hb : b0 < 0
  · have hto : gsTo c j A mt S i = ⟨A, mt, S⟩ := by unfold gsTo; rw [hb0, if_pos hb]
    rw [hto] at hg' hm' hrun
    (repeat (first | (with_reducible refine AWo.cons ?_) | ((with_reducible refine Step.id ?_); first | ((with_reducible apply Step.move); exact rfl; exact rfl) | ((with_reducible apply Step.assign); exact rfl; exact rfl) | ((with_reducible apply Step.subE); exact rfl; exact rfl; (focus (assumption)); (focus (omega)); exact rfl) | ((with_reducible apply Step.slTo); exact rfl; exact rfl; (focus (assumption)); (focus (omega)); exact un27; exact sz3; exact rfl) | ((with_reducible apply Step.lss); exact rfl; exact rfl; exact rfl) | ((with_reducible apply Step.len); exact rfl; (focus (exact Sl.mk (by omega))); (focus (decide +kernel)); exact rfl)) | (with_reducible refine AWo.nil ?_) | ((with_reducible apply AW.seq)) | ((with_reducible apply Then.n)) | ((with_reducible apply AW.regL)) | ((with_reducible apply AW.block)) | ((with_reducible apply AW.exit)) | ((with_reducible apply InBlk.n)) | ((with_reducible apply InBlk.hit)) | ((with_reducible apply Then.e)) | ((with_reducible apply AW.condT); exact rfl; (focus ((simp only [decide_eq_true_eq, decide_eq_false_iff_not, Bool.not_eq_true', Bool.not_eq_false', Bool.not_true, Bool.not_false]; first | assumption | omega)))) | ((with_reducible apply AW.condF); exact rfl; (focus ((simp only [decide_eq_true_eq, decide_eq_false_iff_not, Bool.not_eq_true', Bool.not_eq_false', Bool.not_true, Bool.not_false]; first | assumption | omega))))))
    exact ⟨n, [(0, lv), (1, rv), (8, cv), (9, .slice (some ⟨T, 0, none⟩) j j), (11, .slice (some ⟨W, 0, none⟩) l l), (12, .slice (some ⟨Q, 0, none⟩) S.length l)], by omega, (by repeat (first | exact trivial | (refine And.intro rfl ?_))), A, mt, S, hs.pop, hg', by omega, hrun, by rw [qv_pos hl0]⟩
  obtain ⟨q, rfl⟩ := Int.eq_ofNat_of_zero_le (show 0 ≤ b0 by omega)
  simp only [Int.toNat_natCast] at d3
  obtain ⟨d3, d4⟩ := d3 (by omega)
  have hqr : q < j := by omega
  have rt := hs.rdT hqr
  have hcol := fun T => column_ok (hT'.old T) hqr (by omega)
  have hmb : mt q < (l : Nat) := by
    rcases hg.m1 q with e | ⟨k, y1, y2, _⟩
    · simp only at e; omega
    · simp only at y1; omega
  have hp2 : ∀ T, ACall Try.prog 72 #[gv (M'.length + 0) l, .int .i64 (i : Nat), .int .i64 (mt q)] (M' ++ (gb (iv (tab (fun i => c i q) l)) 1 :: T)) (Ret (.bool (prf (c i q) i (vI (fun i => c i q) (mt q)) (mt q))) (M' ++ (gb (iv (tab (fun i => c i q) l)) 1 :: T))) := fun T => by
    exact rather_ok (m := M' ++ (gb (iv (tab (fun i => c i q) l)) 1 :: T)) (v := gv (M'.length + 0) l) (c := fun i => c i q) (n := l) (j := i) (k := mt q) (ints_gb (k := 0) rfl (by rw [tab_len]) (by simp only [List.length_append, List.length_cons]; omega)) hil hmb
  have hs1 := hs.old [gb (iv (tab (fun i => c i q) l)) 1]
  by_cases h0 : 0 ≤ mt q
  · rcases hg.m1 q with e | ⟨k, y1, y2, y3, y4, y5⟩
    · simp only at e; omega
    simp only at y1 y5
    have hvk : vI (fun i => c i q) ((k : Nat) : Int) = c k q := by unfold vI; rw [if_pos (by omega), Int.toNat_natCast]
    rw [y1, hvk] at hp2
    rw [y1] at rt
    cases hpf : prf (c i q) i (c k q) k with
    | false =>
      rw [hpf] at hp2
      have hto : gsTo c j A mt S i = ⟨up2 A i q, mt, S ++ [i]⟩ := by
        unfold gsTo
        rw [hb0, if_neg hb]
        simp only [Int.toNat_natCast]
        rw [y1]
        simp only [Int.toNat_natCast]
        rw [if_pos ⟨by omega, hpf⟩]
      rw [hto] at hg' hm' hrun
      (repeat (first | (with_reducible refine AWo.cons ?_) | ((with_reducible refine Step.id ?_); first | ((with_reducible apply Step.move); exact rfl; exact rfl) | ((with_reducible apply Step.assign); exact rfl; exact rfl) | ((with_reducible apply Step.lss); exact rfl; exact rfl; exact rfl)) | (with_reducible refine AWo.nil ?_) | ((fail_if_success (with_reducible refine AW.atR (id := 30) ?_)); ((with_reducible apply AW.seq))) | ((with_reducible apply Then.n)) | ((with_reducible apply AW.regL)) | ((with_reducible apply AW.block)) | ((with_reducible apply AW.exit)) | ((with_reducible apply InBlk.hit)) | ((with_reducible apply Then.e)) | ((with_reducible apply AW.condF); exact rfl; (focus (first | rfl | (simp only [decide_eq_true_eq, decide_eq_false_iff_not, Bool.not_eq_true', Bool.not_eq_false', Bool.not_true, Bool.not_false]; first | assumption | omega))))))
      refine AW.rebase ?_
      (repeat' (first | (with_reducible refine AWo.cons ?_) | ((with_reducible refine Step.id ?_); first | ((with_reducible apply Step.move); exact rfl; exact rfl) | ((with_reducible apply Step.assign); exact rfl; exact rfl) | ((with_reducible apply Step.load); exact rfl; (focus (decide +kernel)); exact rfl; (focus (exact Rd.old _ (by assumption)))) | ((with_reducible apply Step.ix1z); exact rfl; (focus (exact Sl.mk (by omega))); exact rfl; (focus (decide +kernel)); exact rfl; (focus (omega))) | ((with_reducible apply Step.callG fit (k := 0)); exact rfl; exact rfl; exact Try.func73; exact rfl; exact rfl; exact (hcol _); (focus (first | (simp only [List.nil_append, List.cons_append, List.set_cons_zero, List.set_cons_succ, iv_set, bv_set, iv_rep, bv_rep]; done) | (simp only [List.nil_append, List.cons_append, List.set_cons_zero, List.set_cons_succ, iv_set, bv_set, iv_rep, bv_rep]; rfl) | rfl))) | ((with_reducible apply Step.callR fit); exact rfl; exact Try.func72; exact rfl; exact rfl; exact (hp2 _))) | ((with_reducible apply AW.seq)) | ((with_reducible apply Then.n)) | ((with_reducible apply AW.regL)) | ((with_reducible apply AW.drawT fit (T := (.step 0 (.step 1 (.step 3 (.step 4 (.step 5 (.step 6 (.both (.step 2 (.step 7 (.step 8 (.step 9 .done)))) (.step 7 (.step 2 (.step 8 (.step 9 .done))))))))))))); (focus (decide +kernel))) | ((with_reducible apply AWt.step); exact rfl) | ((with_reducible apply AWt.done)) | ((with_reducible apply AW.condF); exact rfl; (focus (rfl))) | refine AWt.both ?_ ?_))
      all_goals
        generalize M' ++ [gb (iv (tab (fun i => c i q) l)) 1] = M1 at hs1 ⊢
        have rw1' := hs1.rdW hil
        (repeat ((with_reducible refine AWo.cons ?_)))
        have h2 := hs1.setA hil q
        rw [← rfd_ask hif] at h2
        ((with_reducible apply Step.storeW); exact rfl; exact rfl; exact (hs1.rows i hil); (focus (rw [bv_len, tabB_len]; exact hqr)); (focus (decide +kernel)); exact rfl; exact rfl; exact rfl)
        (repeat (first | (with_reducible refine AWo.nil ?_) | ((with_reducible apply Then.n)) | ((with_reducible apply InBlk.n))))
        exact ⟨n, [(0, lv), (1, rv), (8, cv), (9, .slice (some ⟨T, 0, none⟩) j j), (11, .slice (some ⟨W, 0, none⟩) l l), (12, .slice (some ⟨Q, 0, none⟩) (S.length + 1) l)], by omega, (by repeat (first | exact trivial | (refine And.intro rfl ?_))), _, _, S ++ [i], h2, hg', by omega, hrun, by rw [qv_pos hl0, List.length_append, List.length_singleton]⟩
    | true =>
      rw [hpf] at hp2
      have hto : gsTo c j A mt S i = ⟨up2 A i q, up mt q (i : Nat), S ++ [k]⟩ := by
        unfold gsTo
        rw [hb0, if_neg hb]
        simp only [Int.toNat_natCast]
        rw [y1]
        simp only [Int.toNat_natCast]
        rw [if_neg (by rw [hpf]; simp), if_pos (by omega)]
      rw [hto] at hg' hm' hrun
      have hki : k ≠ i := fun e => hif q (by rw [y1, e])
      (repeat (first | (with_reducible refine AWo.cons ?_) | ((with_reducible refine Step.id ?_); first | ((with_reducible apply Step.move); exact rfl; exact rfl) | ((with_reducible apply Step.assign); exact rfl; exact rfl) | ((with_reducible apply Step.lss); exact rfl; exact rfl; exact rfl)) | (with_reducible refine AWo.nil ?_) | ((fail_if_success (with_reducible refine AW.atR (id := 30) ?_)); ((with_reducible apply AW.seq))) | ((with_reducible apply Then.n)) | ((with_reducible apply AW.regL)) | ((with_reducible apply AW.block)) | ((with_reducible apply AW.exit)) | ((with_reducible apply InBlk.hit)) | ((with_reducible apply Then.e)) | ((with_reducible apply AW.condF); exact rfl; (focus (first | rfl | (simp only [decide_eq_true_eq, decide_eq_false_iff_not, Bool.not_eq_true', Bool.not_eq_false', Bool.not_true, Bool.not_false]; first | assumption | omega))))))
      refine AW.rebase ?_
      (repeat' (first | (with_reducible refine AWo.cons ?_) | ((with_reducible refine Step.id ?_); first | ((with_reducible apply Step.move); exact rfl; exact rfl) | ((with_reducible apply Step.assign); exact rfl; exact rfl) | ((with_reducible apply Step.load); exact rfl; (focus (decide +kernel)); exact rfl; (focus (exact Rd.old _ (by assumption)))) | ((with_reducible apply Step.ix1z); exact rfl; (focus (exact Sl.mk (by omega))); exact rfl; (focus (decide +kernel)); exact rfl; (focus (omega))) | ((with_reducible apply Step.subE); exact rfl; exact rfl; (focus (assumption)); (focus (omega)); exact rfl) | ((with_reducible apply Step.slTo); exact rfl; exact rfl; (focus (assumption)); (focus (omega)); exact un27; exact sz3; exact rfl) | ((with_reducible apply Step.geq); exact rfl; exact rfl; exact rfl) | ((with_reducible apply Step.len); exact rfl; (focus (exact Sl.mk (by omega))); (focus (decide +kernel)); exact rfl) | ((with_reducible apply Step.callG fit (k := 0)); exact rfl; exact rfl; exact Try.func73; exact rfl; exact rfl; exact (hcol _); (focus (first | (simp only [List.nil_append, List.cons_append, List.set_cons_zero, List.set_cons_succ, iv_set, bv_set, iv_rep, bv_rep]; done) | (simp only [List.nil_append, List.cons_append, List.set_cons_zero, List.set_cons_succ, iv_set, bv_set, iv_rep, bv_rep]; rfl) | rfl))) | ((with_reducible apply Step.callR fit); exact rfl; exact Try.func72; exact rfl; exact rfl; exact (hp2 _))) | (with_reducible refine AWo.nil ?_) | ((with_reducible apply AW.seq)) | ((with_reducible apply Then.n)) | ((with_reducible apply AW.regL)) | ((with_reducible apply AW.drawT fit (T := (.step 0 (.step 1 (.step 3 (.step 4 (.step 5 (.step 6 (.both (.step 2 (.step 7 (.step 8 (.step 9 .done)))) (.step 7 (.step 2 (.step 8 (.step 9 .done))))))))))))); (focus (decide +kernel))) | ((with_reducible apply AWt.step); exact rfl) | ((with_reducible apply AWt.done)) | ((with_reducible apply AW.condT); exact rfl; (focus (rfl))) | refine AWt.both ?_ ?_))
      all_goals
        generalize M' ++ [gb (iv (tab (fun i => c i q) l)) 1] = M1 at hs1 ⊢
        have rt1 := hs1.rdT hqr
        rw [y1] at rt1
        have rw1' := hs1.rdW y2
        (repeat (first | (with_reducible refine AWo.cons ?_) | ((with_reducible refine Step.id ?_); first | ((with_reducible apply Step.move); exact rfl; exact rfl) | ((with_reducible apply Step.load); exact rfl; (focus (decide +kernel)); exact rfl; (focus (assumption))) | ((with_reducible apply Step.ix1z); exact rfl; (focus (exact Sl.mk (by omega))); exact rfl; (focus (decide +kernel)); exact rfl; (focus (omega))))))
        have h2 := hs1.pop.setA y2 q
        generalize hM2 : M1.set (P k) _ = M2 at h2
        ((with_reducible apply Step.storeW); exact rfl; exact rfl; exact (hs1.rows k y2); (focus (rw [bv_len, tabB_len]; exact hqr)); (focus (decide +kernel)); exact rfl; exact rfl; exact hM2)
        (repeat (first | (with_reducible refine AWo.nil ?_) | ((with_reducible apply Then.n))))
        refine AW.rebase ?_
        (repeat (first | (with_reducible refine AWo.cons ?_) | ((with_reducible refine Step.id ?_); first | ((with_reducible apply Step.move); exact rfl; exact rfl) | ((with_reducible apply Step.buildS 0); exact rfl; exact rfl; exact (fun _ _ => bs27x); exact rfl; (focus (first | (simp only [List.nil_append, List.cons_append, List.set_cons_zero, List.set_cons_succ, iv_set, bv_set, iv_rep, bv_rep]; done) | (simp only [List.nil_append, List.cons_append, List.set_cons_zero, List.set_cons_succ, iv_set, bv_set, iv_rep, bv_rep]; rfl) | rfl)))) | ((with_reducible apply AW.regL))))
        obtain ⟨old, Z', hq', hpush⟩ := (h2.old [some { cells := [.int .i64 (k : Nat)] }]).push (by omega)
        have h4 := (hpush k).old [none]
        generalize hM4 : (M2 ++ _).set Q _ ++ [none] = M4 at h4
        refine Step.appInG (c := iv (nats S)) (old := [.int .i64 old]) (Z := iv Z') (new := .int .i64 (k : Nat)) rfl rfl el27 un27 hq' rfl rfl (by simp [iv, nats]) rfl (by simp) rfl (by omega) rfl hM4 ?_
        (repeat (first | (with_reducible refine AWo.cons ?_) | ((with_reducible refine Step.id ?_); first | ((with_reducible apply Step.move); exact rfl; exact rfl) | ((with_reducible apply Step.assign); exact rfl; exact rfl) | ((with_reducible apply Step.ix1z); exact rfl; (focus (exact Sl.mk (by omega))); exact rfl; (focus (decide +kernel)); exact rfl; (focus (omega)))) | (with_reducible refine AWo.nil ?_) | ((with_reducible apply Then.n)) | ((with_reducible apply AW.regL))))
        have h6 := h4.setT q (i : Nat)
        rw [← rfd_swap hki y1 y5 d3] at h6
        ((with_reducible apply Step.storeW); exact rfl; exact rfl; exact h4.t; (focus (rw [iv_len, tab_len]; exact hqr)); (focus (decide +kernel)); exact rfl; exact rfl; exact rfl)
        (repeat (first | (with_reducible refine AWo.nil ?_) | ((with_reducible apply Then.n)) | ((with_reducible apply InBlk.n))))
        exact ⟨n, [(0, lv), (1, rv), (8, cv), (9, .slice (some ⟨T, 0, none⟩) j j), (11, .slice (some ⟨W, 0, none⟩) l l), (12, .slice (some ⟨Q, 0, none⟩) (S.length + 1) l)], by omega, (by repeat (first | exact trivial | (refine And.intro rfl ?_))), _, _, S ++ [k], h6, hg', by omega, hrun, by rw [qv_pos hl0, List.length_append, List.length_singleton]⟩
  · have hmq : mt q = -1 := by
      rcases hg.m1 q with e | ⟨k, y1, _⟩
      · exact e
      · simp only at y1; omega
    have hpf : prf (c i q) i (vI (fun i => c i q) (-1)) (-1) = true := by simp [prf, d4]
    rw [hmq, hpf] at hp2
    rw [hmq] at rt
    have hto : gsTo c j A mt S i = ⟨up2 A i q, up mt q (i : Nat), S⟩ := by
      unfold gsTo
      rw [hb0, if_neg hb]
      simp only [Int.toNat_natCast]
      rw [if_neg (by rw [hmq]; omega), if_neg h0, List.append_nil]
    rw [hto] at hg' hm' hrun
    have hAq : ∀ x, A x q = false ∨ 0 ≤ mt q := fun x => by
      cases e : A x q with
      | false => exact .inl rfl
      | true => exact .inr (hg.asd x q e).2.2.1
    (repeat (first | (with_reducible refine AWo.cons ?_) | ((with_reducible refine Step.id ?_); first | ((with_reducible apply Step.move); exact rfl; exact rfl) | ((with_reducible apply Step.assign); exact rfl; exact rfl) | ((with_reducible apply Step.lss); exact rfl; exact rfl; exact rfl)) | (with_reducible refine AWo.nil ?_) | ((fail_if_success (with_reducible refine AW.atR (id := 30) ?_)); ((with_reducible apply AW.seq))) | ((with_reducible apply Then.n)) | ((with_reducible apply AW.regL)) | ((with_reducible apply AW.block)) | ((with_reducible apply AW.exit)) | ((with_reducible apply InBlk.hit)) | ((with_reducible apply Then.e)) | ((with_reducible apply AW.condF); exact rfl; (focus (first | rfl | (simp only [decide_eq_true_eq, decide_eq_false_iff_not, Bool.not_eq_true', Bool.not_eq_false', Bool.not_true, Bool.not_false]; first | assumption | omega))))))
    refine AW.rebase ?_
    (repeat' (first | (with_reducible refine AWo.cons ?_) | ((with_reducible refine Step.id ?_); first | ((with_reducible apply Step.move); exact rfl; exact rfl) | ((with_reducible apply Step.assign); exact rfl; exact rfl) | ((with_reducible apply Step.load); exact rfl; (focus (decide +kernel)); exact rfl; (focus (exact Rd.old _ (by assumption)))) | ((with_reducible apply Step.ix1z); exact rfl; (focus (exact Sl.mk (by omega))); exact rfl; (focus (decide +kernel)); exact rfl; (focus (omega))) | ((with_reducible apply Step.subE); exact rfl; exact rfl; (focus (assumption)); (focus (omega)); exact rfl) | ((with_reducible apply Step.slTo); exact rfl; exact rfl; (focus (assumption)); (focus (omega)); exact un27; exact sz3; exact rfl) | ((with_reducible apply Step.geq); exact rfl; exact rfl; exact rfl) | ((with_reducible apply Step.len); exact rfl; (focus (exact Sl.mk (by omega))); (focus (decide +kernel)); exact rfl) | ((with_reducible apply Step.callG fit (k := 0)); exact rfl; exact rfl; exact Try.func73; exact rfl; exact rfl; exact (hcol _); (focus (first | (simp only [List.nil_append, List.cons_append, List.set_cons_zero, List.set_cons_succ, iv_set, bv_set, iv_rep, bv_rep]; done) | (simp only [List.nil_append, List.cons_append, List.set_cons_zero, List.set_cons_succ, iv_set, bv_set, iv_rep, bv_rep]; rfl) | rfl))) | ((with_reducible apply Step.callR fit); exact rfl; exact Try.func72; exact rfl; exact rfl; exact (hp2 _))) | (with_reducible refine AWo.nil ?_) | ((with_reducible apply AW.seq)) | ((with_reducible apply Then.n)) | ((with_reducible apply AW.regL)) | ((with_reducible apply AW.drawT fit (T := (.step 0 (.step 1 (.step 3 (.step 4 (.step 5 (.step 6 (.both (.step 2 (.step 7 (.step 8 (.step 9 .done)))) (.step 7 (.step 2 (.step 8 (.step 9 .done))))))))))))); (focus (decide +kernel))) | ((with_reducible apply AWt.step); exact rfl) | ((with_reducible apply AWt.done)) | ((with_reducible apply AW.skip)) | ((with_reducible apply AW.condT); exact rfl; (focus (rfl))) | ((with_reducible apply AW.condF); exact rfl; (focus (rfl))) | refine AWt.both ?_ ?_))
    all_goals
      generalize M' ++ [gb (iv (tab (fun i => c i q) l)) 1] = M1 at hs1 ⊢
      have rt1 := hs1.rdT hqr
      rw [hmq] at rt1
      (repeat ((with_reducible refine AWo.cons ?_)))
      have h6 := hs1.pop.setT q (i : Nat)
      rw [← rfd_take hif hmq d3 hAq] at h6
      ((with_reducible apply Step.storeW); exact rfl; exact rfl; exact hs1.t; (focus (rw [iv_len, tab_len]; exact hqr)); (focus (decide +kernel)); exact rfl; exact rfl; exact rfl)
      (repeat (first | (with_reducible refine AWo.nil ?_) | ((with_reducible apply Then.n)) | ((with_reducible apply InBlk.n))))
      exact ⟨n, [(0, lv), (1, rv), (8, cv), (9, .slice (some ⟨T, 0, none⟩) j j), (11, .slice (some ⟨W, 0, none⟩) l l), (12, .slice (some ⟨Q, 0, none⟩) S.length l)], by omega, (by repeat (first | exact trivial | (refine And.intro rfl ?_))), _, _, S, h6, hg', by omega, hrun, by rw [qv_pos hl0]⟩
end Go.Proofs.Ytajpngnphbdnnaa.Abs
namespace Go.Proofs.Ytajpngnphbdnnaa.Abs
set_option linter.unusedSimpArgs false
set_option linter.unusedVariables false
open Go.RowKit
open Go.Proofs.Ytajpngnphbdnnaa.Sim
open Go.Proofs
open Hung
theorem ints_none {m : AM} (h : 0 < m.length) : Ints m (.slice none 0 0) [] := ⟨0, 0, Sl.nil 0 0, h, fun k hk => by simp at hk⟩
set_option maxHeartbeats 4000000 in
set_option maxRecDepth 100000 in
theorem PairStable_ok {m : AM} {lv rv : Value} {L R : List Gl} {u : Ru} (hl : Gls m lv L) (hr : Gls m rv R) (h1 : L.length ≤ 9223372036854775807) (h2 : R.length ≤ 9223372036854775807) :
    ACall Try.prog 8 #[lv, rv, u.v] m (Ret (.bool true) m) := by
  have r0 : ∀ T : AM, RdL (m ++ (some { cells := u.cells } :: T)) (m.length + 0) 0 u.cells := fun T => RdL.new rfl rfl
  have c1 := fun T => lside_ok (hl.old T) h1
  have c2 := fun T => lside_ok (hr.old T) h2
  have c3 := fun T => rule_ok (m := m ++ T) u
  have gl : ∀ T : AM, Gls (m ++ (some { cells := u.cells } :: gb (glC (L.take 34)) 4 :: T)) (gv (m.length + 1) (L.take 34).length) (L.take 34) := fun T => gls_new (k := 1) (by simp) rfl
  have gr : ∀ T : AM, Gls (m ++ (some { cells := u.cells } :: gb (glC (L.take 34)) 4 :: gb (glC (R.take 34)) 4 :: T)) (gv (m.length + 2) (R.take 34).length) (R.take 34) := fun T => gls_new (k := 2) (by simp) rfl
  cases hok : okB L R u with
  | false =>
    have w1 := Stable_no (u := u) (gl [gb (glC (R.take 34)) 4]) (gr []) (by simp only [List.length_take]; omega) (by simp only [List.length_take]; omega) (by rw [← hok]; exact okB34 L R u)
    have w2 := fun T => RStable_no (u := u) (hl.old T) (hr.old T) h1 h2 hok
    have e1 := fun T => equal_ok (b := true) (m := m ++ (some { cells := u.cells } :: T)) (ints_none (by simp; omega)) (ints_none (by simp; omega)) (by simp) rfl
    refine ACall.start Try.func8 rfl rfl ?_
    (repeat (first | (with_reducible refine AWo.cons ?_) | ((with_reducible refine Step.id ?_); first | ((with_reducible apply Step.assign); exact rfl; exact rfl) | ((with_reducible apply Step.box 0); exact rfl; exact rfl; (focus (kernel_rfl)); exact rfl; (focus (first | (simp only [List.nil_append, List.cons_append, List.set_cons_zero, List.set_cons_succ, iv_set, bv_set, iv_rep, bv_rep]; done) | (simp only [List.nil_append, List.cons_append, List.set_cons_zero, List.set_cons_succ, iv_set, bv_set, iv_rep, bv_rep]; rfl) | rfl)))) | (with_reducible refine AWo.nil ?_) | ((fail_if_success (with_reducible refine AW.atR (id := 1) ?_)); ((with_reducible apply AW.seq))) | ((with_reducible apply Then.n)) | ((with_reducible apply AW.regL))))
    refine AW.joinS [(0, lv), (1, rv), (5, .pointer (some ⟨m.length + 0, 0, none⟩)), (7, .slice none 0 0), (8, .int .i64 2)] (m ++ [some { cells := u.cells }, gb (glC (L.take 34)) 4, gb (glC (R.take 34)) 4]) ?_ ?_
    · (repeat' (first | ((with_reducible refine Step.id ?_); first | ((with_reducible apply Step.move); exact rfl; exact rfl) | ((with_reducible apply Step.assign); exact rfl; exact rfl) | ((with_reducible apply Step.loadL (n := 8)); exact rfl; (focus (decide +kernel)); (focus (decide +kernel)); exact rfl; (focus (exact RdL.new rfl rfl)); exact rfl; exact rfl) | ((with_reducible apply Step.extract); exact rfl; exact rfl; exact rfl) | ((with_reducible apply Step.callG fit (k := 1)); exact rfl; exact rfl; exact Try.func21; exact rfl; exact rfl; exact (c1 _); (focus (first | (simp only [List.nil_append, List.cons_append, List.set_cons_zero, List.set_cons_succ, iv_set, bv_set, iv_rep, bv_rep]; done) | (simp only [List.nil_append, List.cons_append, List.set_cons_zero, List.set_cons_succ, iv_set, bv_set, iv_rep, bv_rep]; rfl) | rfl))) | ((with_reducible apply Step.callG fit (k := 2)); exact rfl; exact rfl; exact Try.func21; exact rfl; exact rfl; exact (c2 _); (focus (first | (simp only [List.nil_append, List.cons_append, List.set_cons_zero, List.set_cons_succ, iv_set, bv_set, iv_rep, bv_rep]; done) | (simp only [List.nil_append, List.cons_append, List.set_cons_zero, List.set_cons_succ, iv_set, bv_set, iv_rep, bv_rep]; rfl) | rfl))) | ((with_reducible apply Step.callR fit); exact rfl; exact Try.func22; exact rfl; exact rfl; exact (c3 _)) | ((with_reducible apply Step.callR fit); exact rfl; exact Try.func33; exact rfl; exact rfl; exact (w1))) | ((with_reducible apply Then.n)) | ((with_reducible apply AW.drawT fit (T := (.step 0 (.step 2 (.both (.step 1 (.both (.step 3 (.step 4 (.step 5 (.step 6 (.step 7 (.step 8 (.step 9 (.step 10 (.step 11 .done))))))))) (.step 4 (.step 3 (.step 5 (.step 6 (.step 7 (.step 8 (.step 9 (.step 10 (.step 11 .done))))))))))) (.step 4 (.step 1 (.step 3 (.step 5 (.step 6 (.step 7 (.step 8 (.step 9 (.step 10 (.step 11 .done))))))))))))))); (focus (decide +kernel))) | ((with_reducible apply AWt.step); exact rfl) | ((with_reducible apply AWt.done)) | refine AWt.both ?_ ?_))
      all_goals exact ⟨rfl, (by repeat (first | exact trivial | (refine And.intro rfl ?_)))⟩
    (repeat (first | (with_reducible refine AWo.cons ?_) | ((with_reducible refine Step.id ?_); first | ((with_reducible apply Step.gdT); exact rfl; exact rfl; (focus (rfl))) | ((with_reducible apply Step.move); exact rfl; exact rfl) | ((with_reducible apply Step.assign); exact rfl; exact rfl) | ((with_reducible apply Step.loadL (n := 8)); exact rfl; (focus (decide +kernel)); (focus (decide +kernel)); exact rfl; (focus (exact RdL.new rfl rfl)); exact rfl; exact rfl) | ((with_reducible apply Step.eql); exact rfl; exact rfl; exact rfl) | ((with_reducible apply Step.extract); exact rfl; exact rfl; exact rfl) | ((with_reducible apply Step.pickT); exact rfl; exact rfl; exact rfl; exact rfl; (focus (rfl))) | ((with_reducible apply Step.callR fit); exact rfl; exact Try.func34; exact rfl; exact rfl; exact (w2 _)) | ((with_reducible apply Step.callR fit); exact rfl; exact Try.func24; exact rfl; exact rfl; exact (e1 _)) | ((with_reducible apply Step.callR fit); exact rfl; exact Try.func25; exact rfl; exact rfl; exact (awake_ok))) | (with_reducible refine AWo.nil ?_) | ((with_reducible apply AW.seq)) | ((with_reducible apply Then.n)) | ((with_reducible apply AW.regL))))
    (refine AW.retD (l := [(6, _)]) (by repeat (first | exact trivial | (refine And.intro ⟨rfl, by (exact .bool _)⟩ ?_))) ?_; (repeat (first | refine Then.r ?_ | refine InBlk.r ?_)))
    exact ⟨_, rfl, rfl, rfl⟩
  | true =>
    obtain ⟨k1, k2, k3⟩ := okB_iff hok
    obtain ⟨e34, f34⟩ := cT34 hok
    obtain ⟨k4, k5⟩ := okB_len hok
    rw [e34] at gl
    rw [e34, f34] at gr
    rw [e34] at c1
    rw [f34] at c2
    have w1 := Stable_ok (u := u) (gl [gb (glC R) 4]) (gr []) k1 k2 k3
    have w3 := fun T => RStable_ok (u := u) (hl.old T) (hr.old T) h1 h2 hok
    have hBl : (tab (outF (stF (cT u L R) L.length R.length).mt R.length) L.length).length ≤ 100000 := by rw [tab_len]; omega
    obtain ⟨X, hX⟩ : ∃ X, tab (outF (stF (cT u L R) L.length R.length).mt R.length) L.length = X := ⟨_, rfl⟩
    rw [hX] at w1 w3 hBl
    refine ACall.drop (Ren.of_g0 rfl) ?_
    refine ACall.start Try.func8 rfl rfl ?_
    (repeat (first | (with_reducible refine AWo.cons ?_) | ((with_reducible refine Step.id ?_); first | ((with_reducible apply Step.assign); exact rfl; exact rfl) | ((with_reducible apply Step.box 0); exact rfl; exact rfl; (focus (kernel_rfl)); exact rfl; (focus (first | (simp only [List.nil_append, List.cons_append, List.set_cons_zero, List.set_cons_succ, iv_set, bv_set, iv_rep, bv_rep]; done) | (simp only [List.nil_append, List.cons_append, List.set_cons_zero, List.set_cons_succ, iv_set, bv_set, iv_rep, bv_rep]; rfl) | rfl)))) | (with_reducible refine AWo.nil ?_) | ((fail_if_success (with_reducible refine AW.atR (id := 1) ?_)); ((with_reducible apply AW.seq))) | ((with_reducible apply Then.n)) | ((with_reducible apply AW.regL))))
    refine AW.seq ?_
    refine AW.join (fun t M1 => ∃ (N : AM) (v7 : Value), M1 = m ++ N ∧ Ints M1 v7 X ∧ RdL M1 (m.length + 0) 0 u.cells ∧ All (fun i v => t i = some v) [(0, lv), (1, rv), (5, .pointer (some ⟨m.length + 0, 0, none⟩)), (7, v7), (8, .int .i64 0)]) ?_ ?_
    · (repeat' (first | ((with_reducible refine Step.id ?_); first | ((with_reducible apply Step.move); exact rfl; exact rfl) | ((with_reducible apply Step.loadL (n := 8)); exact rfl; (focus (decide +kernel)); (focus (decide +kernel)); exact rfl; (focus (exact RdL.new rfl rfl)); exact rfl; exact rfl) | ((with_reducible apply Step.callG fit (k := 1)); exact rfl; exact rfl; exact Try.func21; exact rfl; exact rfl; exact (c1 _); (focus (first | (simp only [List.nil_append, List.cons_append, List.set_cons_zero, List.set_cons_succ, iv_set, bv_set, iv_rep, bv_rep]; done) | (simp only [List.nil_append, List.cons_append, List.set_cons_zero, List.set_cons_succ, iv_set, bv_set, iv_rep, bv_rep]; rfl) | rfl))) | ((with_reducible apply Step.callG fit (k := 2)); exact rfl; exact rfl; exact Try.func21; exact rfl; exact rfl; exact (c2 _); (focus (first | (simp only [List.nil_append, List.cons_append, List.set_cons_zero, List.set_cons_succ, iv_set, bv_set, iv_rep, bv_rep]; done) | (simp only [List.nil_append, List.cons_append, List.set_cons_zero, List.set_cons_succ, iv_set, bv_set, iv_rep, bv_rep]; rfl) | rfl))) | ((with_reducible apply Step.callR fit); exact rfl; exact Try.func22; exact rfl; exact rfl; exact (c3 _))) | ((with_reducible apply AW.drawT fit (T := (.step 0 (.step 2 (.both (.step 1 (.both (.step 3 (.step 4 (.step 5 (.step 6 (.step 7 (.step 8 (.step 9 (.step 10 (.step 11 .done))))))))) (.step 4 (.step 3 (.step 5 (.step 6 (.step 7 (.step 8 (.step 9 (.step 10 (.step 11 .done))))))))))) (.step 4 (.step 1 (.step 3 (.step 5 (.step 6 (.step 7 (.step 8 (.step 9 (.step 10 (.step 11 .done))))))))))))))); (focus (decide +kernel))) | ((with_reducible apply AWt.step); exact rfl) | refine AWt.both ?_ ?_))
      all_goals ((with_reducible apply Step.callX fit); exact rfl; exact Try.func33; exact rfl; exact rfl; exact w1)
      all_goals rintro v M1 ⟨N, hN⟩ ⟨w, rfl, hw⟩
      all_goals (repeat' (first | ((with_reducible refine Step.id ?_); first | ((with_reducible apply Step.move); exact rfl; exact rfl) | ((with_reducible apply Step.assign); exact rfl; exact rfl) | ((with_reducible apply Step.extract); exact rfl; exact rfl; exact rfl)) | ((with_reducible apply Then.n)) | ((with_reducible apply AWt.step); exact rfl) | ((with_reducible apply AWt.done))))
      all_goals exact ⟨_, w, by rw [hN, List.append_nil, List.append_assoc], by rw [List.append_nil]; exact hw, by rw [hN, List.append_nil]; exact (r0 _).old N, (by repeat (first | exact trivial | (refine And.intro rfl ?_)))⟩
    rintro t M1 ⟨N, v7, rfl, hI, hR, hall⟩
    refine AW.weak (fr_all hall) ?_
    clear hall w1 c1 c2 c3 gl gr
    refine AW.rebase ?_
    have w4 := w3 N
    (repeat (first | (with_reducible refine AWo.cons ?_) | ((with_reducible refine Step.id ?_); first | ((with_reducible apply Step.move); exact rfl; exact rfl) | ((with_reducible apply Step.loadL (n := 8)); exact rfl; (focus (decide +kernel)); (focus (decide +kernel)); exact rfl; (focus (exact RdL.old _ (by assumption))); exact rfl; exact rfl)) | ((with_reducible apply AW.seq)) | ((with_reducible apply AW.regL))))
    ((with_reducible apply Step.callX fit); exact rfl; exact Try.func34; exact rfl; exact rfl; (focus (rw [List.append_nil]; exact w4)))
    rintro v M2 ⟨N2, hN2⟩ ⟨w, rfl, hw⟩
    rw [List.append_nil] at hN2
    subst hN2
    have e1 := fun T => equal_ok (b := true) ((hI.old N2).old T) (hw.old T) hBl (by simp)
    (repeat (first | (with_reducible refine AWo.cons ?_) | ((with_reducible refine Step.id ?_); first | ((with_reducible apply Step.gdT); exact rfl; exact rfl; (focus (rfl))) | ((with_reducible apply Step.move); exact rfl; exact rfl) | ((with_reducible apply Step.assign); exact rfl; exact rfl) | ((with_reducible apply Step.eql); exact rfl; exact rfl; exact rfl) | ((with_reducible apply Step.extract); exact rfl; exact rfl; exact rfl) | ((with_reducible apply Step.pickT); exact rfl; exact rfl; exact rfl; exact rfl; (focus (rfl))) | ((with_reducible apply Step.callR fit); exact rfl; exact Try.func24; exact rfl; exact rfl; exact (e1 _)) | ((with_reducible apply Step.callR fit); exact rfl; exact Try.func25; exact rfl; exact rfl; exact (awake_ok))) | (with_reducible refine AWo.nil ?_) | ((with_reducible apply AW.seq)) | ((with_reducible apply Then.n)) | ((with_reducible apply AW.regL))))
    (refine AW.ret ?_; (repeat (first | refine Then.r ?_ | refine InBlk.r ?_)))
    exact ⟨_, by simp; rfl, rfl, N ++ N2, by simp only [List.append_nil, List.append_assoc]⟩
end Go.Proofs.Ytajpngnphbdnnaa.Abs
namespace Go.Proofs.Ytajpngnphbdnnaa.Abs
set_option linter.unusedSimpArgs false
set_option linter.unusedVariables false
open Go.RowKit
open Go.Proofs.Ytajpngnphbdnnaa.Sim
open Go.Proofs
theorem gls_args {F : Nat → List Int} (hF : ∀ k, (F k).length = 4) (n : Nat) : ∃ l : List Gl, l.length = n ∧ ∀ {M : AM} {v : Value} {i : Nat}, (Sl v i 0 n ∧ i < M.length ∧ ∀ k, k < n → RdL M i (0 + k * 4) (iv (F k))) → Gls M v l := by
  obtain ⟨g, hg⟩ := Classical.axiomOfChoice fun k => gl_of (hF k)
  refine ⟨(List.range n).map g, by simp, fun {M v i} h => ⟨i, 0, by simpa using h.1, h.2.1, fun k hk => ?_⟩⟩
  have hk' : k < n := by simpa using hk
  have := h.2.2 k hk'
  rw [hg k] at this
  have e : ((List.range n).map g).getD k default = g k := by simp [hk']
  rw [e]
  exact this
end Go.Proofs.Ytajpngnphbdnnaa.Abs
