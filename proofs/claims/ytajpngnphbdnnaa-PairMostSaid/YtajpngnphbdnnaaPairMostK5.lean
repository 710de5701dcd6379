/- Proved here: what the proof of PairMost rests on, part 5 of 5. Conditions: those that each theorem names. -/
import Derived.Test.YtajpngnphbdnnaaPairMostK4
namespace Go.Proofs.Ytajpngnphbdnnaa.Abs
set_option linter.unusedSimpArgs false
set_option linter.unusedVariables false
open Go.RowKit
open Go.Proofs.Ytajpngnphbdnnaa.Sim
open Go.Proofs
open Hung
set_option maxRecDepth 100000 in
theorem index_ok {m : AM} {v : Value} {l : List Int} {x : Int} (h : Ints m v l) (hn : l.length ≤ 100000) : ACall Try.prog 77 #[v, .int .i64 x] m (Ret (.int .i64 (idxF (fun k => decide (l.getD k 0 = x)) l.length)) m) := by
  obtain ⟨a, o, h1, h2, h3⟩ := id h
  refine ACall.start Try.func77 rfl rfl ?_
  (repeat (first | (with_reducible refine AWo.cons ?_) | ((with_reducible refine Step.id ?_); first | ((with_reducible apply Step.move); exact rfl; exact rfl) | ((with_reducible apply Step.assign); exact rfl; exact rfl) | ((with_reducible apply Step.len); exact rfl; (focus (assumption)); (focus (decide +kernel)); exact rfl)) | (with_reducible refine AWo.nil ?_) | ((with_reducible apply AW.seq)) | ((with_reducible apply Then.n)) | ((with_reducible apply AW.regL)) | ((with_reducible apply AW.block))))
  refine AW.loopT (fun rk t L => ∃ k : Nat, rk = l.length - k ∧ k ≤ l.length ∧ (∀ i, i < k → decide (l.getD i 0 = x) = false) ∧ L = [] ∧ t = [(0, v), (1, .int .i64 x), (7, .int .i64 (l.length : Nat)), (8, .int .i64 (k : Nat))]) ⟨_, _, _, (Or.inl ⟨rfl, (by repeat (first | exact trivial | (refine And.intro rfl ?_)))⟩), 0, rfl, Nat.zero_le _, fun _ h => by omega, rfl, rfl⟩ ?_
  rintro rk t L ⟨k, rfl, hk, hz, rfl, rfl⟩
  rcases Nat.lt_or_ge k l.length with hlt | hge
  · have r1 := h3 k hlt
    by_cases he : x = l.getD k 0
    · (repeat (first | (with_reducible refine AWo.cons ?_) | ((with_reducible refine Step.id ?_); first | ((with_reducible apply Step.move); exact rfl; exact rfl) | ((with_reducible apply Step.assign); exact rfl; exact rfl) | ((with_reducible apply Step.load); exact rfl; (focus (decide +kernel)); exact rfl; (focus (exact r1.old _))) | ((with_reducible apply Step.ix1); exact rfl; (focus (assumption)); exact rfl; (focus (decide +kernel)); exact rfl; (focus (omega))) | ((with_reducible apply Step.lss); exact rfl; exact rfl; exact rfl) | ((with_reducible apply Step.eql); exact rfl; exact rfl; exact rfl)) | (with_reducible refine AWo.nil ?_) | ((with_reducible apply AW.seq)) | ((with_reducible apply Then.n)) | ((with_reducible apply AW.regL)) | ((with_reducible apply AW.block)) | ((with_reducible apply AW.skip)) | ((with_reducible apply AW.condT); exact rfl; (focus ((simp only [decide_eq_true_eq, decide_eq_false_iff_not, Bool.not_eq_true', Bool.not_eq_false', Bool.not_true, Bool.not_false]; first | assumption | omega))))))
      (refine AW.retD (l := [(4, _)]) (by repeat (first | exact trivial | (refine And.intro ⟨rfl, by (exact .int _ _)⟩ ?_))) ?_; (repeat (first | refine Then.r ?_ | refine InBlk.r ?_)))
      exact ⟨_, rfl, by rw [idxF_hit hlt hz (by rw [he]; simp)], rfl⟩
    · (repeat (first | (with_reducible refine AWo.cons ?_) | ((with_reducible refine Step.id ?_); first | ((with_reducible apply Step.move); exact rfl; exact rfl) | ((with_reducible apply Step.assign); exact rfl; exact rfl) | ((with_reducible apply Step.load); exact rfl; (focus (decide +kernel)); exact rfl; (focus (exact r1.old _))) | ((with_reducible apply Step.ix1); exact rfl; (focus (assumption)); exact rfl; (focus (decide +kernel)); exact rfl; (focus (omega))) | ((with_reducible apply Step.add); exact rfl; exact rfl; (focus (omega)); exact rfl) | ((with_reducible apply Step.lss); exact rfl; exact rfl; exact rfl) | ((with_reducible apply Step.eql); exact rfl; exact rfl; exact rfl)) | (with_reducible refine AWo.nil ?_) | ((with_reducible apply AW.seq)) | ((with_reducible apply Then.n)) | ((with_reducible apply AW.regL)) | ((with_reducible apply AW.block)) | ((with_reducible apply InBlk.n)) | ((with_reducible apply AW.skip)) | ((with_reducible apply AW.condT); exact rfl; (focus ((simp only [decide_eq_true_eq, decide_eq_false_iff_not, Bool.not_eq_true', Bool.not_eq_false', Bool.not_true, Bool.not_false]; first | assumption | omega)))) | ((with_reducible apply AW.condF); exact rfl; (focus ((simp only [decide_eq_true_eq, decide_eq_false_iff_not, Bool.not_eq_true', Bool.not_eq_false', Bool.not_true, Bool.not_false]; first | assumption | omega))))))
      refine ⟨_, _, _, by omega, (Or.inl ⟨rfl, (by repeat (first | exact trivial | (refine And.intro rfl ?_)))⟩), k + 1, rfl, by omega, fun i hi => ?_, rfl, rfl⟩
      by_cases e : i = k
      · subst e; exact decide_eq_false fun h => he h.symm
      · exact hz i (by omega)
  · obtain rfl : k = l.length := by omega
    (repeat (first | (with_reducible refine AWo.cons ?_) | ((with_reducible refine Step.id ?_); first | ((with_reducible apply Step.assign); exact rfl; exact rfl) | ((with_reducible apply Step.lss); exact rfl; exact rfl; exact rfl)) | (with_reducible refine AWo.nil ?_) | ((with_reducible apply AW.seq)) | ((with_reducible apply Then.n)) | ((with_reducible apply AW.regL)) | ((with_reducible apply AW.exit)) | ((with_reducible apply InBlk.hit)) | ((with_reducible apply Then.e)) | ((with_reducible apply AW.condF); exact rfl; (focus ((simp only [decide_eq_true_eq, decide_eq_false_iff_not, Bool.not_eq_true', Bool.not_eq_false', Bool.not_true, Bool.not_false]; first | assumption | omega))))))
    (refine AW.retD (l := [(4, _)]) (by repeat (first | exact trivial | (refine And.intro ⟨rfl, by (exact .int _ _)⟩ ?_))) ?_; (repeat (first | refine Then.r ?_ | refine InBlk.r ?_)))
    exact ⟨_, rfl, by rw [idxF_miss hz], rfl⟩
set_option maxRecDepth 100000 in
theorem contains_ok {m : AM} {v : Value} {l : List Int} {x : Int} (h : Ints m v l) (hn : l.length ≤ 100000) : ACall Try.prog 75 #[v, .int .i64 x] m (Ret (.bool ((List.range l.length).any (fun k => decide (l.getD k 0 = x)))) m) := by
  refine ACall.start Try.func75 rfl rfl ?_
  (repeat (first | (with_reducible refine AWo.cons ?_) | ((with_reducible refine Step.id ?_); first | ((with_reducible apply Step.move); exact rfl; exact rfl) | ((with_reducible apply Step.assign); exact rfl; exact rfl) | ((with_reducible apply Step.geq); exact rfl; exact rfl; exact rfl) | ((with_reducible apply Step.callR fit); exact rfl; exact Try.func77; exact rfl; exact rfl; exact (index_ok (h.old _) hn))) | (with_reducible refine AWo.nil ?_) | ((with_reducible apply AW.seq)) | ((with_reducible apply Then.n)) | ((with_reducible apply AW.regL))))
  (refine AW.retD (l := [(4, _)]) (by repeat (first | exact trivial | (refine And.intro ⟨rfl, by (exact .bool _)⟩ ?_))) ?_; (repeat (first | refine Then.r ?_ | refine InBlk.r ?_)))
  exact ⟨_, rfl, by rw [idxF_any], rfl⟩
theorem any_congr {p q : Nat → Bool} {n : Nat} (h : ∀ k, k < n → p k = q k) : (List.range n).any p = (List.range n).any q := by
  rw [Bool.eq_iff_iff, List.any_eq_true, List.any_eq_true]
  constructor
  · rintro ⟨x, hx, e⟩; exact ⟨x, hx, by rw [← h x (List.mem_range.1 hx)]; exact e⟩
  · rintro ⟨x, hx, e⟩; exact ⟨x, hx, by rw [h x (List.mem_range.1 hx)]; exact e⟩
theorem contains_tab {m : AM} {v : Value} {mt : Nat → Int} {r : Nat} {x : Int} (h : Ints m v (tab mt r)) (hr : r ≤ 32) : ACall Try.prog 75 #[v, .int .i64 x] m (Ret (.bool ((List.range r).any (fun j => decide (mt j = x)))) m) := by
  have h1 := contains_ok (x := x) h (by rw [tab_len]; omega)
  rw [tab_len] at h1
  rw [any_congr (q := fun k => decide ((tab mt r).getD k 0 = x)) fun k hk => by rw [tab_get mt hk]]
  exact h1
theorem cN_yes {g : Nat → Bool} {n : Nat} (h : g n = true) : cN g (n + 1) = cN g n + 1 := by simp [cN, h]
theorem cN_no {g : Nat → Bool} {n : Nat} (h : g n = false) : cN g (n + 1) = cN g n := by simp [cN, h]
/-- The numbers below n of which g says yes. -/
def selL (g : Nat → Bool) (n : Nat) : List Int := nats ((List.range n).filter g)
theorem selL_len (g : Nat → Bool) (n : Nat) : (selL g n).length = cN g n := by rw [cN_filter]; unfold selL; rw [nats_len]
theorem selL_yes {g : Nat → Bool} {n : Nat} (h : g n = true) : selL g (n + 1) = selL g n ++ [((n : Nat) : Int)] := by
  unfold selL nats; rw [List.range_succ, List.filter_append]; simp [h]
theorem selL_no {g : Nat → Bool} {n : Nat} (h : g n = false) : selL g (n + 1) = selL g n := by
  unfold selL nats; rw [List.range_succ, List.filter_append]; simp [h]
theorem ints_gb {M L : AM} {k n : Nat} {l : List Int} (h : L[k]? = some (gb (iv l) 1)) (hn : n = l.length) (hM : 0 < (M ++ L).length) : Ints (M ++ L) (gv (M.length + k) n) l := by
  subst hn
  cases l with
  | nil => exact ints_nil hM
  | cons x l =>
    rw [gb_pos (by simp [iv])] at h
    rw [gv_pos (by simp)]
    exact ints_new h rfl _ rfl
/-- Blocks that lie somewhere, apart from each other. -/
structure Mz (n : Nat) (B : AM) (A : Nat → Bool) (ct : Nat → List Value) (p : Nat → Nat) (m : AM) : Prop where
  pre : ∃ N, m = B ++ N
  ar : ∀ k, k < n → A k = true → B.length ≤ p k ∧ m[p k]? = some (some { cells := ct k })
  dj : ∀ j k, j < n → k < n → A j = true → A k = true → p j = p k → j = k
section
variable {n : Nat} {B : AM} {A A' : Nat → Bool} {ct ct' : Nat → List Value} {p p' : Nat → Nat} {m : AM}
theorem Mz.congr (h : Mz n B A ct p m) (hA : ∀ k, k < n → A' k = A k) (hc : ∀ k, k < n → A k = true → ct' k = ct k) : Mz n B A' ct' p m :=
  ⟨h.pre, fun k hk ha => by rw [hA k hk] at ha; rw [hc k hk ha]; exact h.ar k hk ha, fun j k hj hk h1 h2 => h.dj j k hj hk (by rw [← hA j hj]; exact h1) (by rw [← hA k hk]; exact h2)⟩
theorem Mz.new (h : Mz n B A ct p m) {k : Nat} (z : List Value) (ha : A k = false) : Mz n B (upL A k) (up ct k z) (up p k m.length) (m ++ [some { cells := z }]) := by
  have hlt : ∀ j, j < n → A j = true → p j < m.length := fun j hj h1 => (List.getElem?_eq_some_iff.1 (h.ar j hj h1).2).1
  obtain ⟨N, hN⟩ := h.pre
  refine ⟨⟨N ++ [some { cells := z }], by rw [hN, List.append_assoc]⟩, fun j hj haj => ?_, fun i j hi hj hai haj e => ?_⟩
  · by_cases e : j = k
    · subst e
      rw [up_same, up_same]
      exact ⟨by rw [hN]; simp, by simp⟩
    · rw [upL_ne A e] at haj
      rw [up_ne _ _ e, up_ne _ _ e]
      exact ⟨(h.ar j hj haj).1, get_old _ (h.ar j hj haj).2⟩
  · by_cases e1 : i = k
    · by_cases e2 : j = k
      · rw [e1, e2]
      · rw [upL_ne A e2] at haj
        rw [e1, up_same, up_ne _ _ e2] at e
        have := hlt j hj haj; omega
    · rw [upL_ne A e1] at hai
      by_cases e2 : j = k
      · rw [e2, up_same, up_ne _ _ e1] at e
        have := hlt i hi hai; omega
      · rw [upL_ne A e2] at haj
        rw [up_ne _ _ e1, up_ne _ _ e2] at e
        exact h.dj i j hi hj hai haj e
theorem Mz.store (h : Mz n B A ct p m) {k : Nat} (c : List Value) (hk : k < n) (ha : A k = true) : Mz n B A (up ct k c) p (m.set (p k) (some { cells := c })) := by
  have hlt := (List.getElem?_eq_some_iff.1 (h.ar k hk ha).2).1
  have hge := (h.ar k hk ha).1
  obtain ⟨N, hN⟩ := h.pre
  refine ⟨⟨N.set (p k - B.length) (some { cells := c }), by rw [hN, List.set_append_right _ _ hge]⟩, fun j hj haj => ⟨(h.ar j hj haj).1, ?_⟩, h.dj⟩
  by_cases e : j = k
  · subst e
    rw [up_same, List.getElem?_set_self hlt]
  · rw [up_ne _ _ e, List.getElem?_set_ne fun q => e (h.dj j k hj hk haj ha q.symm)]
    exact (h.ar j hj haj).2
end
def cvA (L : Nat → Bool) : Nat → Bool
  | 0 => L 4
  | 1 => L 9
  | 2 => L 10
  | _ => L 11
def cvC (l r : Nat) (p : Nat → Nat) (L : Nat → Bool) : Nat → List Value
  | 0 => List.replicate l (.bool false)
  | 1 => List.replicate r (.bool false)
  | 2 => [cond (L 12) (.slice (some ⟨p 0, 0, none⟩) l l) (.slice none 0 0)]
  | _ => [cond (L 13) (.slice (some ⟨p 1, 0, none⟩) r r) (.slice none 0 0)]
set_option maxHeartbeats 8000000 in
set_option maxRecDepth 100000 in
theorem Cover_ok {m : AM} {lv rv : Value} {u : Ru} {L R : List Gl} (hl : Gls m lv L) (hr : Gls m rv R) (hL : sB L = true) (hR : sB R = true) (hu : uB u = true) :
    ACall Try.prog 47 #[lv, rv, u.v] m (More (fun M v => ∃ va vb s, v = .tuple #[va, vb, .int .i64 0] ∧ s = kR (okc (cT u L R) 1000000000) (kM (okc (cT u L R) 1000000000) R.length L.length).1 L.length R.length L.length ∧ Ints M va (selL (fun i => !s.1 i) L.length) ∧ Ints M vb (selL s.2 R.length)) m) := by
  have h1 : L.length ≤ 32 ∧ L.all gB = true := by simpa [sB] using hL
  have h2 : R.length ≤ 32 ∧ R.all gB = true := by simpa [sB] using hR
  have r0 : ∀ T : AM, RdL (m ++ (some { cells := u.cells } :: T)) (m.length + 0) 0 u.cells := fun T => RdL.new rfl rfl
  have hcs := cT_cs hu hL hR
  have hinv := kM_inv (okc (cT u L R) 1000000000) R.length L.length
  refine ACall.start Try.func47 rfl rfl ?_
  (repeat (first | (with_reducible refine AWo.cons ?_) | ((with_reducible refine Step.id ?_); first | ((with_reducible apply Step.move); exact rfl; exact rfl) | ((with_reducible apply Step.assign); exact rfl; exact rfl) | ((with_reducible apply Step.loadL (n := 8)); exact rfl; (focus (decide +kernel)); (focus (decide +kernel)); exact rfl; (focus (exact RdL.new rfl rfl)); exact rfl; exact rfl) | ((with_reducible apply Step.box 0); exact rfl; exact rfl; (focus (kernel_rfl)); exact rfl; (focus (first | (simp only [List.nil_append, List.cons_append, List.set_cons_zero, List.set_cons_succ, iv_set, bv_set, iv_rep, bv_rep]; done) | (simp only [List.nil_append, List.cons_append, List.set_cons_zero, List.set_cons_succ, iv_set, bv_set, iv_rep, bv_rep]; rfl) | rfl)))) | (with_reducible refine AWo.nil ?_) | ((with_reducible apply AW.seq)) | ((with_reducible apply Then.n)) | ((with_reducible apply AW.regL))))
  ((with_reducible apply Step.callX fit); exact rfl; exact Try.func54; exact rfl; exact rfl; exact (costs_ok (hl.old _) (hr.old _) hL hR hu))
  rintro tv M ⟨N0, hN0⟩ hT
  have hMN : ∃ N, M = m ++ N := ⟨_, by rw [hN0, List.append_assoc]⟩
  clear r0 hN0
  generalize cT u L R = c at *
  obtain ⟨a, cv, b, o, htv, t1, t2, t3, t4, t5, t6, t7⟩ := id hT
  generalize hl' : L.length = l at *
  generalize hr' : R.length = r at *
  subst htv
  (repeat (first | (with_reducible refine AWo.cons ?_) | ((with_reducible refine Step.id ?_); first | ((with_reducible apply Step.load); exact rfl; (focus (decide +kernel)); exact rfl; (focus (exact Rd.new rfl rfl))) | ((with_reducible apply Step.ptrNot); exact rfl; exact rfl; exact un77; exact rfl) | ((with_reducible apply Step.alloc 0); exact rfl; exact ze77; exact rfl; (focus (first | (simp only [List.nil_append, List.cons_append, List.set_cons_zero, List.set_cons_succ, iv_set, bv_set, iv_rep, bv_rep]; done) | (simp only [List.nil_append, List.cons_append, List.set_cons_zero, List.set_cons_succ, iv_set, bv_set, iv_rep, bv_rep]; rfl) | rfl))) | ((with_reducible apply Step.store (k := 0)); exact rfl; exact rfl; exact rfl; exact rfl; (focus (decide +kernel)); exact rfl; exact rfl; (focus (first | omega | (simp [iv, bv]; done) | (simp [iv, bv]; omega))); (focus (first | (simp only [List.nil_append, List.cons_append, List.set_cons_zero, List.set_cons_succ, iv_set, bv_set, iv_rep, bv_rep]; done) | (simp only [List.nil_append, List.cons_append, List.set_cons_zero, List.set_cons_succ, iv_set, bv_set, iv_rep, bv_rep]; rfl) | rfl)))) | (with_reducible refine AWo.nil ?_) | ((with_reducible apply AW.seq)) | ((with_reducible apply Then.n)) | ((with_reducible apply AW.regL)) | ((with_reducible apply AW.skip)) | ((with_reducible apply AW.condF); exact rfl; (focus (rfl)))))
  ((with_reducible apply Step.callX fit); exact rfl; exact Try.func70; exact rfl; exact rfl; exact (matched_ok (hT.old _) (by omega) (by omega)))
  rintro v M1 ⟨N1, hN1⟩ hI
  have hMN1 : ∃ N, M1 = M ++ N := ⟨_, by rw [hN1, List.append_assoc]⟩
  have hbt : Rd M1 (M.length + 0) 0 (.pointer (some ⟨a, 0, none⟩)) := by rw [hN1]; exact Rd.old _ (Rd.new rfl rfl)
  clear hN1
  generalize hmt : (kM (okc c 1000000000) r l).1 = mt at *
  obtain ⟨ia, io, i1, i2, i3⟩ := id hI
  obtain ⟨vq, vn, vc, rfl⟩ := sl_form i1
  (repeat (first | (with_reducible refine AWo.cons ?_) | ((with_reducible refine Step.id ?_); first | ((with_reducible apply Step.alloc 0); exact rfl; exact ze27; exact rfl; (focus (first | (simp only [List.nil_append, List.cons_append, List.set_cons_zero, List.set_cons_succ, iv_set, bv_set, iv_rep, bv_rep]; done) | (simp only [List.nil_append, List.cons_append, List.set_cons_zero, List.set_cons_succ, iv_set, bv_set, iv_rep, bv_rep]; rfl) | rfl))) | ((with_reducible apply Step.store (k := 0)); exact rfl; exact rfl; exact rfl; exact rfl; (focus (decide +kernel)); exact rfl; exact rfl; (focus (first | omega | (simp [iv, bv]; done) | (simp [iv, bv]; omega))); (focus (first | (simp only [List.nil_append, List.cons_append, List.set_cons_zero, List.set_cons_succ, iv_set, bv_set, iv_rep, bv_rep]; done) | (simp only [List.nil_append, List.cons_append, List.set_cons_zero, List.set_cons_succ, iv_set, bv_set, iv_rep, bv_rep]; rfl) | rfl)))) | (with_reducible refine AWo.nil ?_) | ((with_reducible apply Then.n))))
  obtain ⟨bt, hbte⟩ : ∃ bt, M.length + 0 = bt := ⟨_, rfl⟩
  obtain ⟨bm, hbme⟩ : ∃ bm, M1.length + 0 = bm := ⟨_, rfl⟩
  have b10 : Rd (M1 ++ [some { cells := [.slice vq vn vc] }]) (M1.length + 0) 0 (.slice vq vn vc) := Rd.new rfl rfl
  rw [hbte] at hbt
  rw [hbme] at b10
  have b9 := hbt.old [some { cells := [.slice vq vn vc] }]
  have bI := hI.old [some { cells := [.slice vq vn vc] }]
  have bT : Tab (M1 ++ [some { cells := [.slice vq vn vc] }]) (.pointer (some ⟨a, 0, none⟩)) c l r := by
    obtain ⟨N, rfl⟩ := hMN1
    exact (hT.old N).old _
  have hBm : ∃ N, M1 ++ [some { cells := [.slice vq vn vc] }] = m ++ N := by
    obtain ⟨N, rfl⟩ := hMN1
    obtain ⟨N', rfl⟩ := hMN
    exact ⟨_, by repeat rw [List.append_assoc]⟩
  rw [hbte, hbme]
  generalize M1 ++ [some ({ cells := [.slice vq vn vc] } : Blk)] = B at *
  clear hT hI hMN hMN1 hbt t1 t2 t3 t4 t5 t6 t7 i1 i2 i3 hbte hbme
  obtain ⟨a', cv', b', o', htv', t1, t2, t3, t4, t5, t6, t7⟩ := id bT
  injection htv' with htv'
  injection htv' with htv'
  injection htv' with htv'
  subst htv'
  have bl := t3
  have br := t4
  refine AW.seq ?_
  refine AW.anyI fit (fun L t m' => ∃ p, Mz 4 B (cvA L) (cvC l r p L) p m' ∧ t 9 = some (.pointer (some ⟨bt, 0, none⟩)) ∧ t 10 = some (.pointer (some ⟨bm, 0, none⟩)) ∧ (L 12 = true → L 10 = true ∧ L 4 = true) ∧ (L 13 = true → L 11 = true ∧ L 9 = true) ∧
      (L 0 = true → t 29 = some (.pointer (some ⟨a, 0, none⟩))) ∧ (L 1 = true → t 30 = some (.pointer (some ⟨a, 0, none⟩))) ∧ (L 2 = true → t 31 = some (.pointer (some ⟨a, 0 + 1, none⟩))) ∧ (L 3 = true → t 32 = some (.int .i64 (l : Nat))) ∧ (L 4 = true → t 33 = some (.slice (some ⟨p 0, 0, none⟩) l l)) ∧
      (L 5 = true → t 34 = some (.pointer (some ⟨a, 0, none⟩))) ∧ (L 6 = true → t 35 = some (.pointer (some ⟨a, 0, none⟩))) ∧ (L 7 = true → t 36 = some (.pointer (some ⟨a, 0 + 2, none⟩))) ∧ (L 8 = true → t 37 = some (.int .i64 (r : Nat))) ∧ (L 9 = true → t 38 = some (.slice (some ⟨p 1, 0, none⟩) r r)) ∧
      (L 10 = true → t 11 = some (.pointer (some ⟨p 2, 0, none⟩))) ∧ (L 11 = true → t 12 = some (.pointer (some ⟨p 3, 0, none⟩)))) (by decide +kernel) ?_ ?_ ?_
  · exact ⟨fun _ => 0, ⟨⟨[], (List.append_nil B).symm⟩, fun k _ h => (by rcases k with _ | _ | _ | _ | k <;> cases h), fun k _ _ _ h => (by rcases k with _ | _ | _ | _ | k <;> cases h)⟩, rfl, rfl, fun h => (by cases h), fun h => (by cases h), fun h => (by cases h), fun h => (by cases h), fun h => (by cases h), fun h => (by cases h), fun h => (by cases h), fun h => (by cases h), fun h => (by cases h), fun h => (by cases h), fun h => (by cases h), fun h => (by cases h), fun h => (by cases h), fun h => (by cases h)⟩
  · intro i o ho L t m' hI hLi hdep
    obtain ⟨p, hz, q9, q10, e12, e13, s0, s1, s2, s3, s4, s5, s6, s7, s8, s9, s10, s11⟩ := hI
    obtain ⟨N, rfl⟩ := hz.pre
    rcases i with _ | _ | _ | _ | _ | _ | _ | _ | _ | _ | _ | _ | _ | _ | i
    · injection ho with ho; subst ho
      exact Step.load q9 (by decide +kernel) rfl (b9.old N) ⟨p, hz.congr (by intro k hk; rcases k with _ | _ | _ | _ | k <;> first | rfl | omega) (by intro k hk _; rcases k with _ | _ | _ | _ | k <;> first | rfl | omega), q9, q10, e12, e13, fun _ => rfl, s1, s2, s3, s4, s5, s6, s7, s8, s9, s10, s11⟩
    · injection ho with ho; subst ho
      exact Step.nilp (s0 (hdep 0 (by decide))) rfl ⟨p, hz.congr (by intro k hk; rcases k with _ | _ | _ | _ | k <;> first | rfl | omega) (by intro k hk _; rcases k with _ | _ | _ | _ | k <;> first | rfl | omega), q9, q10, e12, e13, s0, fun _ => rfl, s2, s3, s4, s5, s6, s7, s8, s9, s10, s11⟩
    · injection ho with ho; subst ho
      exact Step.field (k := 1) (s1 (hdep 1 (by decide))) (by decide +kernel) rfl ⟨p, hz.congr (by intro k hk; rcases k with _ | _ | _ | _ | k <;> first | rfl | omega) (by intro k hk _; rcases k with _ | _ | _ | _ | k <;> first | rfl | omega), q9, q10, e12, e13, s0, s1, fun _ => rfl, s3, s4, s5, s6, s7, s8, s9, s10, s11⟩
    · injection ho with ho; subst ho
      exact Step.load (s2 (hdep 2 (by decide))) (by decide +kernel) rfl (bl.old N) ⟨p, hz.congr (by intro k hk; rcases k with _ | _ | _ | _ | k <;> first | rfl | omega) (by intro k hk _; rcases k with _ | _ | _ | _ | k <;> first | rfl | omega), q9, q10, e12, e13, s0, s1, s2, fun _ => rfl, s4, s5, s6, s7, s8, s9, s10, s11⟩
    · injection ho with ho; subst ho
      have hf : L 12 = false := by
        cases e : L 12 with
        | false => rfl
        | true => rw [(e12 e).2] at hLi; cases hLi
      exact Step.makeG (s3 (hdep 3 (by decide))) (s3 (hdep 3 (by decide))) el88 (by omega) rfl ⟨up p 0 (B ++ N).length, (hz.new (k := 0) (List.replicate l (.bool false)) hLi).congr (by intro k hk; rcases k with _ | _ | _ | _ | k <;> first | rfl | omega) (by intro k hk _; rcases k with _ | _ | _ | _ | k <;> first | rfl | (show [cond (L 12) _ _] = [cond (L 12) _ _]; rw [hf]; rfl) | (show [cond (L 12) _ _] = [Value.slice none 0 0]; rw [hf]; rfl) | omega), q9, q10, (fun h => ⟨(e12 h).1, rfl⟩), e13, s0, s1, s2, s3, fun _ => rfl, s5, s6, s7, s8, s9, s10, s11⟩
    · injection ho with ho; subst ho
      exact Step.load q9 (by decide +kernel) rfl (b9.old N) ⟨p, hz.congr (by intro k hk; rcases k with _ | _ | _ | _ | k <;> first | rfl | omega) (by intro k hk _; rcases k with _ | _ | _ | _ | k <;> first | rfl | omega), q9, q10, e12, e13, s0, s1, s2, s3, s4, fun _ => rfl, s6, s7, s8, s9, s10, s11⟩
    · injection ho with ho; subst ho
      exact Step.nilp (s5 (hdep 5 (by decide))) rfl ⟨p, hz.congr (by intro k hk; rcases k with _ | _ | _ | _ | k <;> first | rfl | omega) (by intro k hk _; rcases k with _ | _ | _ | _ | k <;> first | rfl | omega), q9, q10, e12, e13, s0, s1, s2, s3, s4, s5, fun _ => rfl, s7, s8, s9, s10, s11⟩
    · injection ho with ho; subst ho
      exact Step.field (k := 2) (s6 (hdep 6 (by decide))) (by decide +kernel) rfl ⟨p, hz.congr (by intro k hk; rcases k with _ | _ | _ | _ | k <;> first | rfl | omega) (by intro k hk _; rcases k with _ | _ | _ | _ | k <;> first | rfl | omega), q9, q10, e12, e13, s0, s1, s2, s3, s4, s5, s6, fun _ => rfl, s8, s9, s10, s11⟩
    · injection ho with ho; subst ho
      exact Step.load (s7 (hdep 7 (by decide))) (by decide +kernel) rfl (br.old N) ⟨p, hz.congr (by intro k hk; rcases k with _ | _ | _ | _ | k <;> first | rfl | omega) (by intro k hk _; rcases k with _ | _ | _ | _ | k <;> first | rfl | omega), q9, q10, e12, e13, s0, s1, s2, s3, s4, s5, s6, s7, fun _ => rfl, s9, s10, s11⟩
    · injection ho with ho; subst ho
      have hf : L 13 = false := by
        cases e : L 13 with
        | false => rfl
        | true => rw [(e13 e).2] at hLi; cases hLi
      exact Step.makeG (s8 (hdep 8 (by decide))) (s8 (hdep 8 (by decide))) el88 (by omega) rfl ⟨up p 1 (B ++ N).length, (hz.new (k := 1) (List.replicate r (.bool false)) hLi).congr (by intro k hk; rcases k with _ | _ | _ | _ | k <;> first | rfl | omega) (by intro k hk _; rcases k with _ | _ | _ | _ | k <;> first | rfl | (show [cond (L 13) _ _] = [cond (L 13) _ _]; rw [hf]; rfl) | (show [cond (L 13) _ _] = [Value.slice none 0 0]; rw [hf]; rfl) | omega), q9, q10, e12, (fun h => ⟨(e13 h).1, rfl⟩), s0, s1, s2, s3, s4, s5, s6, s7, s8, fun _ => rfl, s10, s11⟩
    · injection ho with ho; subst ho
      have hf : L 12 = false := by
        cases e : L 12 with
        | false => rfl
        | true => rw [(e12 e).1] at hLi; cases hLi
      exact Step.allocG ze88 rfl ⟨up p 2 (B ++ N).length, (hz.new (k := 2) [.slice none 0 0] hLi).congr (by intro k hk; rcases k with _ | _ | _ | _ | k <;> first | rfl | omega) (by intro k hk _; rcases k with _ | _ | _ | _ | k <;> first | rfl | (show [cond (L 12) _ _] = [cond (L 12) _ _]; rw [hf]; rfl) | (show [cond (L 12) _ _] = [Value.slice none 0 0]; rw [hf]; rfl) | omega), q9, q10, (fun h => ⟨rfl, (e12 h).2⟩), e13, s0, s1, s2, s3, s4, s5, s6, s7, s8, s9, fun _ => rfl, s11⟩
    · injection ho with ho; subst ho
      have hf : L 13 = false := by
        cases e : L 13 with
        | false => rfl
        | true => rw [(e13 e).1] at hLi; cases hLi
      exact Step.allocG ze88 rfl ⟨up p 3 (B ++ N).length, (hz.new (k := 3) [.slice none 0 0] hLi).congr (by intro k hk; rcases k with _ | _ | _ | _ | k <;> first | rfl | omega) (by intro k hk _; rcases k with _ | _ | _ | _ | k <;> first | rfl | (show [cond (L 13) _ _] = [cond (L 13) _ _]; rw [hf]; rfl) | (show [cond (L 13) _ _] = [Value.slice none 0 0]; rw [hf]; rfl) | omega), q9, q10, e12, (fun h => ⟨rfl, (e13 h).2⟩), s0, s1, s2, s3, s4, s5, s6, s7, s8, s9, s10, fun _ => rfl⟩
    · injection ho with ho; subst ho
      have hA := hdep 10 (by decide)
      have hB4 := hdep 4 (by decide)
      exact Step.storeV (s10 hA) (s4 hB4) (hz.ar 2 (by omega) hA).2 (by decide +kernel) rfl rfl rfl ⟨p, (hz.store (k := 2) [.slice (some ⟨p 0, 0, none⟩) l l] (by omega) hA).congr (by intro k hk; rcases k with _ | _ | _ | _ | k <;> first | rfl | omega) (by intro k hk _; rcases k with _ | _ | _ | _ | k <;> first | rfl | omega), q9, q10, fun _ => ⟨hA, hB4⟩, e13, s0, s1, s2, s3, s4, s5, s6, s7, s8, s9, s10, s11⟩
    · injection ho with ho; subst ho
      have hA := hdep 11 (by decide)
      have hB4 := hdep 9 (by decide)
      exact Step.storeV (s11 hA) (s9 hB4) (hz.ar 3 (by omega) hA).2 (by decide +kernel) rfl rfl rfl ⟨p, (hz.store (k := 3) [.slice (some ⟨p 1, 0, none⟩) r r] (by omega) hA).congr (by intro k hk; rcases k with _ | _ | _ | _ | k <;> first | rfl | omega) (by intro k hk _; rcases k with _ | _ | _ | _ | k <;> first | rfl | omega), q9, q10, e12, fun _ => ⟨hA, hB4⟩, s0, s1, s2, s3, s4, s5, s6, s7, s8, s9, s10, s11⟩
    · simp at ho
  · rintro L t m2 hall ⟨p, hz, q9, q10, e12, e13, s0, s1, s2, s3, s4, s5, s6, s7, s8, s9, s10, s11⟩
    have x4 := hall 4 (by simp)
    have x9 := hall 9 (by simp)
    have x10 := hall 10 (by simp)
    have x11 := hall 11 (by simp)
    have x12 := hall 12 (by simp)
    have x13 := hall 13 (by simp)
    obtain ⟨g0a, z0⟩ := hz.ar 0 (by omega) x4
    obtain ⟨g1a, z1⟩ := hz.ar 1 (by omega) x9
    obtain ⟨_, z2⟩ := hz.ar 2 (by omega) x10
    obtain ⟨_, z3⟩ := hz.ar 3 (by omega) x11
    simp only [cvC, x12, x13, cond_true] at z0 z1 z2 z3
    have d01 : p 0 ≠ p 1 := fun e => by have := hz.dj 0 1 (by omega) (by omega) x4 x9 e; omega
    have d02 : p 2 ≠ p 0 := fun e => by have := hz.dj 2 0 (by omega) (by omega) x10 x4 e; omega
    have d03 : p 3 ≠ p 0 := fun e => by have := hz.dj 3 0 (by omega) (by omega) x11 x4 e; omega
    have d12 : p 2 ≠ p 1 := fun e => by have := hz.dj 2 1 (by omega) (by omega) x10 x9 e; omega
    have d13 : p 3 ≠ p 1 := fun e => by have := hz.dj 3 1 (by omega) (by omega) x11 x9 e; omega
    have y11 := s10 x10
    have y12 := s11 x11
    obtain ⟨N, hN⟩ := hz.pre
    clear hz e12 e13 s0 s1 s2 s3 s4 s5 s6 s7 s8 s9 s10 s11 x4 x9 x10 x11 x12 x13 hall
    generalize p 0 = pa at *
    generalize p 1 = pb at *
    generalize p 2 = pc at *
    generalize p 3 = pd at *
    refine AW.weak (fr_all (l := [(9, .pointer (some ⟨bt, 0, none⟩)), (10, .pointer (some ⟨bm, 0, none⟩)), (11, .pointer (some ⟨pc, 0, none⟩)), (12, .pointer (some ⟨pd, 0, none⟩))]) ⟨q9, q10, y11, y12, trivial⟩) ?_
    clear q9 q10 y11 y12
    subst hN
    have w9 := b9.old N
    have wl := bl.old N
    refine AW.rebase ?_
    (repeat (first | (with_reducible refine AWo.cons ?_) | ((with_reducible refine Step.id ?_); first | ((with_reducible apply Step.move); exact rfl; exact rfl) | ((with_reducible apply Step.load); exact rfl; (focus (decide +kernel)); exact rfl; (focus (first | exact w9.old _ | exact wl.old _))) | ((with_reducible apply Step.field (k := 1)); exact rfl; (focus (decide +kernel)); exact rfl) | ((with_reducible apply Step.nilp); exact rfl; exact rfl) | ((with_reducible apply Step.fn); exact rfl; exact rfl; exact rfl) | ((with_reducible apply Step.alloc 0); exact rfl; exact ze110; exact rfl; (focus (first | (simp only [List.nil_append, List.cons_append, List.set_cons_zero, List.set_cons_succ, iv_set, bv_set, iv_rep, bv_rep]; done) | (simp only [List.nil_append, List.cons_append, List.set_cons_zero, List.set_cons_succ, iv_set, bv_set, iv_rep, bv_rep]; rfl) | rfl))) | ((with_reducible apply Step.store (k := 0)); exact rfl; exact rfl; exact rfl; exact rfl; (focus (decide +kernel)); exact rfl; exact rfl; (focus (first | omega | (simp [iv, bv]; done) | (simp [iv, bv]; omega))); (focus (first | (simp only [List.nil_append, List.cons_append, List.set_cons_zero, List.set_cons_succ, iv_set, bv_set, iv_rep, bv_rep]; done) | (simp only [List.nil_append, List.cons_append, List.set_cons_zero, List.set_cons_succ, iv_set, bv_set, iv_rep, bv_rep]; rfl) | rfl)))) | (with_reducible refine AWo.nil ?_) | ((with_reducible apply AW.seq)) | ((with_reducible apply Then.n)) | ((with_reducible apply AW.regL)) | ((with_reducible apply AW.block))))
    have hF : ((B ++ N) ++ [some ({ cells := [.func (.func 79) #[] #[.pointer (some ⟨pc, 0, none⟩), .pointer (some ⟨bt, 0, none⟩), .pointer (some ⟨pd, 0, none⟩), .pointer (some ⟨bm, 0, none⟩), .pointer (some ⟨(B ++ N).length + 0, 0, none⟩)]] } : Blk)])[(B ++ N).length + 0]? = some (some { cells := [.func (.func 79) #[] #[.pointer (some ⟨pc, 0, none⟩), .pointer (some ⟨bt, 0, none⟩), .pointer (some ⟨pd, 0, none⟩), .pointer (some ⟨bm, 0, none⟩), .pointer (some ⟨(B ++ N).length + 0, 0, none⟩)]] }) := by rw [get_app]; rfl
    have v0 := get_old [some ({ cells := [.func (.func 79) #[] #[.pointer (some ⟨pc, 0, none⟩), .pointer (some ⟨bt, 0, none⟩), .pointer (some ⟨pd, 0, none⟩), .pointer (some ⟨bm, 0, none⟩), .pointer (some ⟨(B ++ N).length + 0, 0, none⟩)]] } : Blk)] z0
    have v1 := get_old [some ({ cells := [.func (.func 79) #[] #[.pointer (some ⟨pc, 0, none⟩), .pointer (some ⟨bt, 0, none⟩), .pointer (some ⟨pd, 0, none⟩), .pointer (some ⟨bm, 0, none⟩), .pointer (some ⟨(B ++ N).length + 0, 0, none⟩)]] } : Blk)] z1
    have v2 := get_old [some ({ cells := [.func (.func 79) #[] #[.pointer (some ⟨pc, 0, none⟩), .pointer (some ⟨bt, 0, none⟩), .pointer (some ⟨pd, 0, none⟩), .pointer (some ⟨bm, 0, none⟩), .pointer (some ⟨(B ++ N).length + 0, 0, none⟩)]] } : Blk)] z2
    have v3 := get_old [some ({ cells := [.func (.func 79) #[] #[.pointer (some ⟨pc, 0, none⟩), .pointer (some ⟨bt, 0, none⟩), .pointer (some ⟨pd, 0, none⟩), .pointer (some ⟨bm, 0, none⟩), .pointer (some ⟨(B ++ N).length + 0, 0, none⟩)]] } : Blk)] z3
    have lpa := (List.getElem?_eq_some_iff.1 z0).1
    have lpb := (List.getElem?_eq_some_iff.1 z1).1
    have lpc := (List.getElem?_eq_some_iff.1 z2).1
    have lpd := (List.getElem?_eq_some_iff.1 z3).1
    obtain ⟨bf, hbf⟩ : ∃ bf, (B ++ N).length + 0 = bf := ⟨_, rfl⟩
    have hBl : (B ++ N).length = bf := by omega
    have hMf : ∃ N', (B ++ N) ++ [some ({ cells := [.func (.func 79) #[] #[.pointer (some ⟨pc, 0, none⟩), .pointer (some ⟨bt, 0, none⟩), .pointer (some ⟨pd, 0, none⟩), .pointer (some ⟨bm, 0, none⟩), .pointer (some ⟨(B ++ N).length + 0, 0, none⟩)]] } : Blk)] = B ++ N' := ⟨_, by rw [List.append_assoc]⟩
    have hMl : ((B ++ N) ++ [some ({ cells := [.func (.func 79) #[] #[.pointer (some ⟨pc, 0, none⟩), .pointer (some ⟨bt, 0, none⟩), .pointer (some ⟨pd, 0, none⟩), .pointer (some ⟨bm, 0, none⟩), .pointer (some ⟨(B ++ N).length + 0, 0, none⟩)]] } : Blk)]).length = bf + 1 := by rw [List.length_append, List.length_singleton]; omega
    rw [hBl] at lpa lpb lpc lpd
    generalize ((B ++ N) ++ [some ({ cells := [.func (.func 79) #[] #[.pointer (some ⟨pc, 0, none⟩), .pointer (some ⟨bt, 0, none⟩), .pointer (some ⟨pd, 0, none⟩), .pointer (some ⟨bm, 0, none⟩), .pointer (some ⟨(B ++ N).length + 0, 0, none⟩)]] } : Blk)]) = MM at *
    rw [hbf] at hF ⊢
    clear hBl hbf z0 z1 z2 z3 w9 wl
    have hm : ∀ s, ∃ N, RM MM pa pb l r s = B ++ N := fun s => by
      obtain ⟨N', rfl⟩ := hMf
      exact RM.pre g0a g1a
    have hx : ∀ (s : RS) {x : Nat} {b : Blk}, x ≠ pa → x ≠ pb → MM[x]? = some (some b) → (RM MM pa pb l r s)[x]? = some (some b) := fun s x b h1 h2 h => by rw [RM.ne h1 h2]; exact h
    have ra11 : ∀ s, Rd (RM MM pa pb l r s) pc 0 (.slice (some ⟨pa, 0, none⟩) l l) := fun s => rd_at (hx s d02 d12 v2) rfl
    have ra12 : ∀ s, Rd (RM MM pa pb l r s) pd 0 (.slice (some ⟨pb, 0, none⟩) r r) := fun s => rd_at (hx s d03 d13 v3) rfl
    have ra13 : ∀ s, Rd (RM MM pa pb l r s) bf 0 _ := fun s => rd_at (hx s (by omega) (by omega) hF) rfl
    have ra9 : ∀ s, Rd (RM MM pa pb l r s) bt 0 (.pointer (some ⟨a, 0, none⟩)) := fun s => by obtain ⟨N, hN⟩ := hm s; rw [hN]; exact b9.old N
    have ra10 : ∀ s, Rd (RM MM pa pb l r s) bm 0 (.slice vq vn vc) := fun s => by obtain ⟨N, hN⟩ := hm s; rw [hN]; exact b10.old N
    have raI : ∀ s, Ints (RM MM pa pb l r s) (.slice vq vn vc) (tab mt r) := fun s => by obtain ⟨N, hN⟩ := hm s; rw [hN]; exact bI.old N
    have hbd := kinv_bd hinv (Nat.le_refl l)
    have hreach := reach_ok (m0 := B) (m := MM) (p := pa) (q := pb) (a1 := pc) (a2 := bt) (a3 := pd) (a4 := bm) (a5 := bf) (mt := mt) (by omega) (by omega) d01 (by omega) (by omega) hcs (fun j _ => (hbd j).2) hm bT bI ra11 ra9 ra12 ra10 ra13
    have hself : RM MM pa pb l r (kR (okc c 1000000000) mt l r 0) = MM := RM.self (by rw [v0]; show _ = some (some ({ cells := bv (tabB (fun _ => false) l) } : Blk)); rw [← tabB_rep, bv_rep]) (by rw [v1]; show _ = some (some ({ cells := bv (tabB (fun _ => false) r) } : Blk)); rw [← tabB_rep, bv_rep])
    refine AW.loopW (fun rk t M => ∃ k : Nat, rk = l - k ∧ k ≤ l ∧ M = RM MM pa pb l r (kR (okc c 1000000000) mt l r k) ∧ t = fr [(9, .pointer (some ⟨bt, 0, none⟩)), (10, .pointer (some ⟨bm, 0, none⟩)), (11, .pointer (some ⟨pc, 0, none⟩)), (12, .pointer (some ⟨pd, 0, none⟩)), (13, .pointer (some ⟨bf, 0, none⟩)), (43, .int .i64 (l : Nat)), (44, .int .i64 (k : Nat))])
      ⟨_, _, (by repeat (first | exact trivial | (refine And.intro rfl ?_))), 0, rfl, Nat.zero_le _, hself.symm, rfl⟩ ?_
    rintro rk t M2 ⟨k, rfl, hk, rfl, rfl⟩
    rcases Nat.lt_or_ge k l with hkl | hkl
    · have ek : kR (okc c 1000000000) mt l r (k + 1) = if (List.range r).any (fun j => decide (mt j = (k : Nat))) then kR (okc c 1000000000) mt l r k else rF (okc c 1000000000) mt r (l + 1) k (kR (okc c 1000000000) mt l r k) := rfl
      have hcont := contains_tab (x := ((k : Nat) : Int)) (raI (kR (okc c 1000000000) mt l r k)) (by omega)
      have hcall := hreach (l + 1) k (kR (okc c 1000000000) mt l r k) hkl (by have : unN (kR (okc c 1000000000) mt l r k).1 l ≤ l := cN_le _; omega)
      generalize kR (okc c 1000000000) mt l r k = s at *
      cases hany : (List.range r).any (fun j => decide (mt j = (k : Nat))) with
      | true =>
        rw [hany] at hcont ek
        rw [if_pos rfl] at ek
        (repeat (first | (with_reducible refine AWo.cons ?_) | ((with_reducible refine Step.id ?_); first | ((with_reducible apply Step.move); exact rfl; exact rfl) | ((with_reducible apply Step.assign); exact rfl; exact rfl) | ((with_reducible apply Step.load); exact rfl; (focus (decide +kernel)); exact rfl; (focus (exact ra10 _))) | ((with_reducible apply Step.add); exact rfl; exact rfl; (focus (omega)); exact rfl) | ((with_reducible apply Step.lss); exact rfl; exact rfl; exact rfl) | ((with_reducible apply Step.not); exact rfl; exact rfl) | ((with_reducible apply Step.callR fit); exact rfl; exact Try.func75; exact rfl; exact rfl; exact (hcont))) | (with_reducible refine AWo.nil ?_) | ((with_reducible apply AW.seq)) | ((with_reducible apply Then.n)) | ((with_reducible apply AW.regL)) | ((with_reducible apply AW.block)) | ((with_reducible apply InBlk.n)) | ((with_reducible apply AW.skip)) | ((with_reducible apply AW.condT); exact rfl; (focus ((simp only [decide_eq_true_eq, decide_eq_false_iff_not, Bool.not_eq_true', Bool.not_eq_false', Bool.not_true, Bool.not_false]; first | assumption | omega)))) | ((with_reducible apply AW.condF); exact rfl; (focus (rfl)))))
        exact ⟨_, _, by omega, (by repeat (first | exact trivial | (refine And.intro rfl ?_))), k + 1, rfl, by omega, by rw [ek], rfl⟩
      | false =>
        rw [hany] at hcont ek
        rw [if_neg (by simp)] at ek
        (repeat (first | (with_reducible refine AWo.cons ?_) | ((with_reducible refine Step.id ?_); first | ((with_reducible apply Step.move); exact rfl; exact rfl) | ((with_reducible apply Step.assign); exact rfl; exact rfl) | ((with_reducible apply Step.load); exact rfl; (focus (decide +kernel)); exact rfl; (focus (first | exact ra10 _ | exact ra13 _))) | ((with_reducible apply Step.lss); exact rfl; exact rfl; exact rfl) | ((with_reducible apply Step.not); exact rfl; exact rfl) | ((with_reducible apply Step.callR fit); exact rfl; exact Try.func75; exact rfl; exact rfl; exact (hcont))) | (with_reducible refine AWo.nil ?_) | ((with_reducible apply AW.seq)) | ((with_reducible apply Then.n)) | ((with_reducible apply AW.regL)) | ((with_reducible apply AW.block)) | ((with_reducible apply AW.skip)) | ((with_reducible apply AW.condT); exact rfl; (focus (first | rfl | (simp only [decide_eq_true_eq, decide_eq_false_iff_not, Bool.not_eq_true', Bool.not_eq_false', Bool.not_true, Bool.not_false]; first | assumption | omega))))))
        ((with_reducible apply Step.call fit); exact rfl; exact rfl; exact Try.func79; exact rfl; exact rfl; exact hcall)
        rintro _ _ ⟨rfl, rfl⟩
        (repeat (first | (with_reducible refine AWo.cons ?_) | ((with_reducible refine Step.id ?_); first | ((with_reducible apply Step.move); exact rfl; exact rfl) | ((with_reducible apply Step.add); exact rfl; exact rfl; (focus (omega)); exact rfl)) | (with_reducible refine AWo.nil ?_) | ((with_reducible apply Then.n)) | ((with_reducible apply AW.regL)) | ((with_reducible apply InBlk.n))))
        exact ⟨_, _, by omega, (by repeat (first | exact trivial | (refine And.intro rfl ?_))), k + 1, rfl, by omega, by rw [ek], rfl⟩
    · obtain rfl : k = l := by omega
      obtain ⟨s, hs⟩ : ∃ s, kR (okc c 1000000000) mt k r k = s := ⟨_, rfl⟩
      rw [hs]
      have f11 := ra11 s
      have f12 := ra12 s
      have fa : ∀ i, i < k → Rd (RM MM pa pb k r s) pa i (.bool (s.1 i)) := fun i hi => RM.inn (by omega) d01 hi rfl
      have fb : ∀ i, i < r → Rd (RM MM pa pb k r s) pb i (.bool (s.2 i)) := fun i hi => RM.seen (by omega) hi rfl
      have la : pa < (RM MM pa pb k r s).length := by rw [RM.len]; omega
      have lb : pb < (RM MM pa pb k r s).length := by rw [RM.len]; omega
      have ld : pd < (RM MM pa pb k r s).length := by rw [RM.len]; omega
      have wd : Low (RM MM pa pb k r s).length (.pointer (some ⟨pd, 0, none⟩)) := .ptr ld
      have hpre : ∃ N, RM MM pa pb k r s = m ++ N := by
        obtain ⟨N', hN'⟩ := hm s
        obtain ⟨N, rfl⟩ := hBm
        exact ⟨_, by rw [hN', List.append_assoc]⟩
      have hpos : 0 < (RM MM pa pb k r s).length := by omega
      clear hself hreach hbd raI ra9 ra10 ra11 ra12 ra13 hx hm hMf hF v0 v1 v2 v3 b9 b10 bI bT bl br
      generalize RM MM pa pb k r s = Mf at *
      (repeat (first | (with_reducible refine AWo.cons ?_) | ((with_reducible refine Step.id ?_); first | ((with_reducible apply Step.move); exact rfl; exact rfl) | ((with_reducible apply Step.assign); exact rfl; exact rfl) | ((with_reducible apply Step.load); exact rfl; (focus (decide +kernel)); exact rfl; (focus (assumption))) | ((with_reducible apply Step.lss); exact rfl; exact rfl; exact rfl) | ((with_reducible apply Step.len); exact rfl; (focus (exact Sl.mk (by omega))); (focus (decide +kernel)); exact rfl)) | (with_reducible refine AWo.nil ?_) | ((with_reducible apply AW.seq)) | ((with_reducible apply Then.n)) | ((with_reducible apply AW.regL)) | ((with_reducible apply AW.block)) | ((with_reducible apply AW.exit)) | ((with_reducible apply InBlk.hit)) | ((with_reducible apply Then.e)) | ((with_reducible apply AW.condF); exact rfl; (focus ((simp only [decide_eq_true_eq, decide_eq_false_iff_not, Bool.not_eq_true', Bool.not_eq_false', Bool.not_true, Bool.not_false]; first | assumption | omega))))))
      refine AW.rebase ?_
      (repeat ((with_reducible refine AWo.cons ?_)))
      obtain ⟨gi, hgi⟩ : ∃ gi : Nat → Bool, (fun i => !s.1 i) = gi := ⟨_, rfl⟩
      have hgv : ∀ i, gi i = !s.1 i := fun i => by rw [← hgi]
      have hcl : ∀ (g : Nat → Bool) i, (iv (selL g i)).length = cN g i * 1 := fun g i => by rw [iv_len, selL_len, Nat.mul_one]
      have hcn : ∀ (g : Nat → Bool) i, cN g i ≤ i := fun g i => cN_le i
      have hg0 : ∀ (g : Nat → Bool) (i : Nat), ∀ v ∈ iv (selL g i) ++ [Value.int .i64 ((i : Nat) : Int)], g0 v = true := fun g i v hv => by
        rcases List.mem_append.1 hv with h | h
        · exact g0_iv _ v h
        · obtain rfl : v = Value.int .i64 ((i : Nat) : Int) := by simpa using h
          rfl
      refine AW.loopT (fun rk t L' => ∃ i : Nat, rk = k - i ∧ i ≤ k ∧ L' = [gb (iv (selL gi i)) 1] ∧ t = [(12, .pointer (some ⟨pd, 0, none⟩)), (15, gv (Mf.length + 0) (cN gi i)), (16, .slice none 0 0), (55, .slice (some ⟨pa, 0, none⟩) k k), (56, .int .i64 (k : Nat)), (57, .int .i64 (i : Nat))])
        ⟨_, _, _, Back.pad (by repeat (first | exact trivial | (refine And.intro ⟨rfl, by (first | exact Low.rid (by assumption) (by simp) | exact .int _ _ | exact Ren.of_gv (by first | (simp; done) | omega | (simp; omega)) | exact Ren.of_g0 rfl | exact .slice _ _ _ _ (by first | (simp; done) | omega | (simp; omega)))⟩ ?_))) CellsOk.nil, 0, rfl, Nat.zero_le _, rfl, rfl⟩ ?_
      rintro rk t L' ⟨i, rfl, hi, rfl, rfl⟩
      rcases Nat.lt_or_ge i k with hik | hik
      · have r1 := fa i hik
        have hc1 := hcl gi i
        have hc2 := hcn gi i
        have hc3 := hg0 gi i
        cases hsi : s.1 i with
        | true =>
          rw [hsi] at r1
          have hg : gi i = false := by rw [hgv, hsi]; rfl
          (repeat (first | (with_reducible refine AWo.cons ?_) | ((with_reducible refine Step.id ?_); first | ((with_reducible apply Step.move); exact rfl; exact rfl) | ((with_reducible apply Step.assign); exact rfl; exact rfl) | ((with_reducible apply Step.load); exact rfl; (focus (decide +kernel)); exact rfl; (focus (exact r1.old _))) | ((with_reducible apply Step.ix1z); exact rfl; (focus (exact Sl.mk (by omega))); exact rfl; (focus (decide +kernel)); exact rfl; (focus (omega))) | ((with_reducible apply Step.add); exact rfl; exact rfl; (focus (omega)); exact rfl) | ((with_reducible apply Step.lss); exact rfl; exact rfl; exact rfl) | ((with_reducible apply Step.not); exact rfl; exact rfl)) | (with_reducible refine AWo.nil ?_) | ((with_reducible apply AW.seq)) | ((with_reducible apply Then.n)) | ((with_reducible apply AW.regL)) | ((with_reducible apply AW.block)) | ((with_reducible apply InBlk.n)) | ((with_reducible apply AW.skip)) | ((with_reducible apply AW.condT); exact rfl; (focus ((simp only [decide_eq_true_eq, decide_eq_false_iff_not, Bool.not_eq_true', Bool.not_eq_false', Bool.not_true, Bool.not_false]; first | assumption | omega)))) | ((with_reducible apply AW.condF); exact rfl; (focus (rfl)))))
          exact ⟨_, [(12, .pointer (some ⟨pd, 0, none⟩)), (15, gv (Mf.length + 0) (cN gi i)), (16, .slice none 0 0), (55, .slice (some ⟨pa, 0, none⟩) k k), (56, .int .i64 (k : Nat)), (57, .int .i64 ((i + 1 : Nat) : Int))], [gb (iv (selL gi i)) 1], by omega, (Or.inl ⟨rfl, (by repeat (first | exact trivial | (refine And.intro rfl ?_)))⟩), i + 1, rfl, by omega, by rw [selL_no hg], by rw [cN_no hg]⟩
        | false =>
          rw [hsi] at r1
          have hg : gi i = true := by rw [hgv, hsi]; rfl
          (repeat (first | (with_reducible refine AWo.cons ?_) | ((with_reducible refine Step.id ?_); first | ((with_reducible apply Step.move); exact rfl; exact rfl) | ((with_reducible apply Step.assign); exact rfl; exact rfl) | ((with_reducible apply Step.load); exact rfl; (focus (decide +kernel)); exact rfl; (focus (exact r1.old _))) | ((with_reducible apply Step.ix1z); exact rfl; (focus (exact Sl.mk (by omega))); exact rfl; (focus (decide +kernel)); exact rfl; (focus (omega))) | ((with_reducible apply Step.lss); exact rfl; exact rfl; exact rfl) | ((with_reducible apply Step.not); exact rfl; exact rfl) | ((with_reducible apply Step.buildS 1); exact rfl; exact rfl; exact (fun _ _ => bs27x); exact rfl; (focus (first | (simp only [List.nil_append, List.cons_append, List.set_cons_zero, List.set_cons_succ, iv_set, bv_set, iv_rep, bv_rep]; done) | (simp only [List.nil_append, List.cons_append, List.set_cons_zero, List.set_cons_succ, iv_set, bv_set, iv_rep, bv_rep]; rfl) | rfl)))) | (with_reducible refine AWo.nil ?_) | ((with_reducible apply AW.seq)) | ((with_reducible apply Then.n)) | ((with_reducible apply AW.regL)) | ((with_reducible apply AW.block)) | ((with_reducible apply AW.skip)) | ((with_reducible apply AW.condT); exact rfl; (focus (first | rfl | (simp only [decide_eq_true_eq, decide_eq_false_iff_not, Bool.not_eq_true', Bool.not_eq_false', Bool.not_true, Bool.not_false]; first | assumption | omega))))))
          ((with_reducible apply Step.appG (k := 2)); exact rfl; exact rfl; exact rfl; exact el27; exact un27; exact rfl; exact rfl; exact rfl; exact hc1; exact rfl; exact rfl; exact rfl; (focus (omega)); exact rfl; (focus (first | (simp only [List.nil_append, List.cons_append, List.set_cons_zero, List.set_cons_succ, iv_set, bv_set, iv_rep, bv_rep]; done) | (simp only [List.nil_append, List.cons_append, List.set_cons_zero, List.set_cons_succ, iv_set, bv_set, iv_rep, bv_rep]; rfl) | rfl)))
          (repeat (first | (with_reducible refine AWo.cons ?_) | ((with_reducible refine Step.id ?_); first | ((with_reducible apply Step.move); exact rfl; exact rfl) | ((with_reducible apply Step.assign); exact rfl; exact rfl) | ((with_reducible apply Step.add); exact rfl; exact rfl; (focus (omega)); exact rfl)) | (with_reducible refine AWo.nil ?_) | ((with_reducible apply Then.n)) | ((with_reducible apply AW.regL)) | ((with_reducible apply InBlk.n))))
          refine ⟨_, [(12, .pointer (some ⟨pd, 0, none⟩)), (15, .slice (some ⟨Mf.length + 0, 0, none⟩) (cN gi i + 1) (cN gi i + 1)), (16, .slice none 0 0), (55, .slice (some ⟨pa, 0, none⟩) k k), (56, .int .i64 (k : Nat)), (57, .int .i64 ((i + 1 : Nat) : Int))], [some { cells := iv (selL gi i) ++ [.int .i64 (i : Nat)], kind := .grow, size := 1 }], by omega, (Back.mv 0 2 rfl rfl rfl rfl (by intro j b hj h; rcases j with _ | _ | _ | _ | _ | _ | j <;> simp_all) (by repeat (first | exact CellsOk.nil | refine CellsOk.cons (by assumption) ?_)) (by repeat (first | exact trivial | (refine And.intro ⟨_, rfl, by (first | exact Low.ne (by assumption) (by simp) | exact .int _ _ | exact Ren.of_g0 rfl | exact Ren.slice_mv (by first | (simp; done) | omega | (simp; omega)) | exact Ren.slice_ne (by first | (simp; done) | omega | (simp; omega)) (by omega))⟩ ?_)))), i + 1, rfl, by omega, ?_, ?_⟩
          · rw [selL_yes hg, gb_pos (by simp [iv])]; simp [iv]
          · rw [cN_yes hg, gv_pos (by omega)]
      · obtain rfl : i = k := by omega
        have hc4 := hcn gi i
        have hA : Ints (Mf ++ [gb (iv (selL gi i)) 1]) (gv (Mf.length + 0) (cN gi i)) (selL gi i) := ints_gb (k := 0) rfl (selL_len _ _).symm (by simp only [List.length_append] at hpos ⊢; omega)
        have f12' := f12.old [gb (iv (selL gi i)) 1]
        have fb' := fun j hj => (fb j hj).old [gb (iv (selL gi i)) 1]
        have lb' : pb < (Mf ++ [gb (iv (selL gi i)) 1]).length := by simp only [List.length_append]; omega
        have hpre' : ∃ N, Mf ++ [gb (iv (selL gi i)) 1] = m ++ N := by
          obtain ⟨N, rfl⟩ := hpre
          exact ⟨_, by rw [List.append_assoc]⟩
        (repeat (first | (with_reducible refine AWo.cons ?_) | ((with_reducible refine Step.id ?_); first | ((with_reducible apply Step.move); exact rfl; exact rfl) | ((with_reducible apply Step.load); exact rfl; (focus (decide +kernel)); exact rfl; (focus (assumption))) | ((with_reducible apply Step.lss); exact rfl; exact rfl; exact rfl) | ((with_reducible apply Step.len); exact rfl; (focus (exact Sl.mk (by omega))); (focus (decide +kernel)); exact rfl)) | (with_reducible refine AWo.nil ?_) | ((with_reducible apply AW.seq)) | ((with_reducible apply Then.n)) | ((with_reducible apply AW.regL)) | ((with_reducible apply AW.block)) | ((with_reducible apply AW.exit)) | ((with_reducible apply InBlk.hit)) | ((with_reducible apply Then.e)) | ((with_reducible apply AW.condF); exact rfl; (focus ((simp only [decide_eq_true_eq, decide_eq_false_iff_not, Bool.not_eq_true', Bool.not_eq_false', Bool.not_true, Bool.not_false]; first | assumption | omega))))))
        obtain ⟨va, hva⟩ : ∃ va, gv (Mf.length + 0) (cN gi i) = va := ⟨_, rfl⟩
        rw [hva] at hA ⊢
        generalize Mf ++ [gb (iv (selL gi i)) 1] = MB at *
        have wa : Low MB.length va := by
          obtain ⟨_, _, s1, s2, _⟩ := hA
          exact Low.of_sl s1 s2
        refine AW.rebase ?_
        refine AW.loopT (fun rk t L' => ∃ j : Nat, rk = r - j ∧ j ≤ r ∧ L' = [gb (iv (selL s.2 j)) 1] ∧ t = [(15, va), (16, gv (MB.length + 0) (cN s.2 j)), (69, .slice (some ⟨pb, 0, none⟩) r r), (70, .int .i64 (r : Nat)), (71, .int .i64 (j : Nat))])
          ⟨_, _, _, Back.pad (by repeat (first | exact trivial | (refine And.intro ⟨rfl, by (first | exact Low.rid (by assumption) (by simp) | exact .int _ _ | exact Ren.of_gv (by first | (simp; done) | omega | (simp; omega)) | exact .slice _ _ _ _ (by first | (simp; done) | omega | (simp; omega)))⟩ ?_))) CellsOk.nil, 0, rfl, Nat.zero_le _, rfl, rfl⟩ ?_
        rintro rk t L' ⟨j, rfl, hj, rfl, rfl⟩
        have hc2 := hcn s.2 j
        rcases Nat.lt_or_ge j r with hjr | hjr
        · have r1 := fb' j hjr
          have hc1 := hcl s.2 j
          have hc3 := hg0 s.2 j
          cases hsj : s.2 j with
          | false =>
            rw [hsj] at r1
            (repeat (first | (with_reducible refine AWo.cons ?_) | ((with_reducible refine Step.id ?_); first | ((with_reducible apply Step.move); exact rfl; exact rfl) | ((with_reducible apply Step.assign); exact rfl; exact rfl) | ((with_reducible apply Step.load); exact rfl; (focus (decide +kernel)); exact rfl; (focus (exact r1.old _))) | ((with_reducible apply Step.ix1z); exact rfl; (focus (exact Sl.mk (by omega))); exact rfl; (focus (decide +kernel)); exact rfl; (focus (omega))) | ((with_reducible apply Step.add); exact rfl; exact rfl; (focus (omega)); exact rfl) | ((with_reducible apply Step.lss); exact rfl; exact rfl; exact rfl)) | (with_reducible refine AWo.nil ?_) | ((with_reducible apply AW.seq)) | ((with_reducible apply Then.n)) | ((with_reducible apply AW.regL)) | ((with_reducible apply AW.block)) | ((with_reducible apply InBlk.n)) | ((with_reducible apply AW.skip)) | ((with_reducible apply AW.condT); exact rfl; (focus ((simp only [decide_eq_true_eq, decide_eq_false_iff_not, Bool.not_eq_true', Bool.not_eq_false', Bool.not_true, Bool.not_false]; first | assumption | omega)))) | ((with_reducible apply AW.condF); exact rfl; (focus (rfl)))))
            exact ⟨_, [(15, va), (16, gv (MB.length + 0) (cN s.2 j)), (69, .slice (some ⟨pb, 0, none⟩) r r), (70, .int .i64 (r : Nat)), (71, .int .i64 ((j + 1 : Nat) : Int))], [gb (iv (selL s.2 j)) 1], by omega, (Or.inl ⟨rfl, (by repeat (first | exact trivial | (refine And.intro rfl ?_)))⟩), j + 1, rfl, by omega, by rw [selL_no hsj], by rw [cN_no hsj]⟩
          | true =>
            rw [hsj] at r1
            (repeat (first | (with_reducible refine AWo.cons ?_) | ((with_reducible refine Step.id ?_); first | ((with_reducible apply Step.move); exact rfl; exact rfl) | ((with_reducible apply Step.assign); exact rfl; exact rfl) | ((with_reducible apply Step.load); exact rfl; (focus (decide +kernel)); exact rfl; (focus (exact r1.old _))) | ((with_reducible apply Step.ix1z); exact rfl; (focus (exact Sl.mk (by omega))); exact rfl; (focus (decide +kernel)); exact rfl; (focus (omega))) | ((with_reducible apply Step.lss); exact rfl; exact rfl; exact rfl) | ((with_reducible apply Step.buildS 1); exact rfl; exact rfl; exact (fun _ _ => bs27x); exact rfl; (focus (first | (simp only [List.nil_append, List.cons_append, List.set_cons_zero, List.set_cons_succ, iv_set, bv_set, iv_rep, bv_rep]; done) | (simp only [List.nil_append, List.cons_append, List.set_cons_zero, List.set_cons_succ, iv_set, bv_set, iv_rep, bv_rep]; rfl) | rfl)))) | (with_reducible refine AWo.nil ?_) | ((with_reducible apply AW.seq)) | ((with_reducible apply Then.n)) | ((with_reducible apply AW.regL)) | ((with_reducible apply AW.block)) | ((with_reducible apply AW.skip)) | ((with_reducible apply AW.condT); exact rfl; (focus (first | rfl | (simp only [decide_eq_true_eq, decide_eq_false_iff_not, Bool.not_eq_true', Bool.not_eq_false', Bool.not_true, Bool.not_false]; first | assumption | omega))))))
            ((with_reducible apply Step.appG (k := 2)); exact rfl; exact rfl; exact rfl; exact el27; exact un27; exact rfl; exact rfl; exact rfl; exact hc1; exact rfl; exact rfl; exact rfl; (focus (omega)); exact rfl; (focus (first | (simp only [List.nil_append, List.cons_append, List.set_cons_zero, List.set_cons_succ, iv_set, bv_set, iv_rep, bv_rep]; done) | (simp only [List.nil_append, List.cons_append, List.set_cons_zero, List.set_cons_succ, iv_set, bv_set, iv_rep, bv_rep]; rfl) | rfl)))
            (repeat (first | (with_reducible refine AWo.cons ?_) | ((with_reducible refine Step.id ?_); first | ((with_reducible apply Step.move); exact rfl; exact rfl) | ((with_reducible apply Step.assign); exact rfl; exact rfl) | ((with_reducible apply Step.add); exact rfl; exact rfl; (focus (omega)); exact rfl)) | (with_reducible refine AWo.nil ?_) | ((with_reducible apply Then.n)) | ((with_reducible apply AW.regL)) | ((with_reducible apply InBlk.n))))
            refine ⟨_, [(15, va), (16, .slice (some ⟨MB.length + 0, 0, none⟩) (cN s.2 j + 1) (cN s.2 j + 1)), (69, .slice (some ⟨pb, 0, none⟩) r r), (70, .int .i64 (r : Nat)), (71, .int .i64 ((j + 1 : Nat) : Int))], [some { cells := iv (selL s.2 j) ++ [.int .i64 (j : Nat)], kind := .grow, size := 1 }], by omega, (Back.mv 0 2 rfl rfl rfl rfl (by intro j b hj h; rcases j with _ | _ | _ | _ | _ | _ | j <;> simp_all) (by repeat (first | exact CellsOk.nil | refine CellsOk.cons (by assumption) ?_)) (by repeat (first | exact trivial | (refine And.intro ⟨_, rfl, by (first | exact Low.ne (by assumption) (by simp) | exact .int _ _ | exact Ren.slice_mv (by first | (simp; done) | omega | (simp; omega)) | exact Ren.slice_ne (by first | (simp; done) | omega | (simp; omega)) (by omega))⟩ ?_)))), j + 1, rfl, by omega, ?_, ?_⟩
            · rw [selL_yes hsj, gb_pos (by simp [iv])]; simp [iv]
            · rw [cN_yes hsj, gv_pos (by omega)]
        · obtain rfl : j = r := by omega
          (repeat (first | (with_reducible refine AWo.cons ?_) | ((with_reducible refine Step.id ?_); first | ((with_reducible apply Step.move); exact rfl; exact rfl) | ((with_reducible apply Step.assign); exact rfl; exact rfl) | ((with_reducible apply Step.lss); exact rfl; exact rfl; exact rfl)) | (with_reducible refine AWo.nil ?_) | ((with_reducible apply AW.seq)) | ((with_reducible apply Then.n)) | ((with_reducible apply AW.regL)) | ((with_reducible apply AW.exit)) | ((with_reducible apply InBlk.hit)) | ((with_reducible apply Then.e)) | ((with_reducible apply AW.condF); exact rfl; (focus ((simp only [decide_eq_true_eq, decide_eq_false_iff_not, Bool.not_eq_true', Bool.not_eq_false', Bool.not_true, Bool.not_false]; first | assumption | omega))))))
          (refine AW.ret ?_; (repeat (first | refine Then.r ?_ | refine InBlk.r ?_)))
          obtain ⟨N, rfl⟩ := hpre'
          exact ⟨_, rfl, _, by rw [List.append_assoc], va, _, s, rfl, rfl, by rw [hgi]; exact hA.old _, ints_gb (k := 0) rfl (selL_len _ _).symm (by simp only [List.length_append] at lb' ⊢; omega)⟩
end Go.Proofs.Ytajpngnphbdnnaa.Abs
namespace Go.Proofs.Ytajpngnphbdnnaa.Abs
set_option linter.unusedSimpArgs false
set_option linter.unusedVariables false
open Go.RowKit
open Go.Proofs.Ytajpngnphbdnnaa.Sim
open Go.Proofs
open Hung
theorem g0_ru (u : Ru) : ∀ v ∈ u.cells, g0 v = true := fun v hv => by
  simp only [Ru.cells, Gl.cells, List.cons_append, List.nil_append, List.mem_cons, List.not_mem_nil, or_false] at hv
  rcases hv with rfl | rfl | rfl | rfl | rfl | rfl | rfl | rfl <;> rfl
/-- Which numbers are among the first k. -/
def mkd (A : List Nat) (k x : Nat) : Bool := decide (x ∈ A.take k)
theorem mkd_up {A : List Nat} {k : Nat} (h : k < A.length) (n : Nat) : tabB (up (mkd A k) (A.getD k 0) true) n = tabB (mkd A (k + 1)) n := tabB_congr fun x _ => by
  have ts : A.take (k + 1) = A.take k ++ [A.getD k 0] := by rw [List.take_succ_eq_append_getElem h]; simp [h]
  unfold mkd
  rw [ts]
  by_cases e : x = A.getD k 0
  · subst e; rw [up_same]; simp
  · rw [up_ne _ _ e, Bool.eq_iff_iff]; simp only [decide_eq_true_eq, List.mem_append, List.mem_singleton, e, or_false]
theorem mkd_zero (A : List Nat) : mkd A 0 = fun _ => false := by funext x; simp [mkd]
theorem mkd_all (A : List Nat) (x : Nat) : mkd A A.length x = decide (x ∈ A) := by unfold mkd; rw [List.take_length]
theorem pw_lt {A : List Nat} (h : A.Pairwise (· < ·)) {k : Nat} (hk : k + 1 < A.length) : A.getD k 0 < A.getD (k + 1) 0 := by
  have := List.pairwise_iff_getElem.1 h k (k + 1) (by omega) hk (by omega)
  simpa [hk, show k < A.length by omega] using this
set_option maxHeartbeats 8000000 in
set_option maxRecDepth 100000 in
theorem RCovers_ok {m : AM} {lv rv av bw : Value} {L R : List Gl} {u : Ru} (hl : Gls m lv L) (hr : Gls m rv R) (hok : okB L R u = true) {A B : List Nat} (ha : Ints m av (nats A)) (hb : Ints m bw (nats B)) (pA : A.Pairwise (· < ·)) (pB : B.Pairwise (· < ·)) (mA : ∀ x ∈ A, x < L.length) (mB : ∀ x ∈ B, x < R.length)
    (hcov : ∀ i, i < L.length → ∀ j, j < R.length → 0 ≤ cT u L R i j → i ∈ A ∨ j ∈ B) : ACall Try.prog 48 #[lv, rv, u.v, av, bw] m (Ret (.bool true) m) := by
  have r0 : ∀ T : AM, RdL (m ++ (some { cells := u.cells } :: T)) (m.length + 0) 0 u.cells := fun T => RdL.new rfl rfl
  have hug := g0_ru u
  obtain ⟨k1, k2, k3⟩ := okB_iff hok
  obtain ⟨hl32, hr32⟩ := okB_len hok
  obtain ⟨la, lo, l1, l2, _⟩ := id hl
  obtain ⟨ra, ro, r1, r2, _⟩ := id hr
  obtain ⟨aa, ao, a1, a2, a3⟩ := id ha
  obtain ⟨ba, bo, b1, b2, b3⟩ := id hb
  rw [nats_len] at a1 a3 b1 b3
  have lA : A.length ≤ 32 := by
    have := nodup_le (pA.imp (fun h => Nat.ne_of_lt h)) (k := List.range L.length) fun x hx => List.mem_range.2 (mA x hx)
    simp at this; omega
  have lB : B.length ≤ 32 := by
    have := nodup_le (pB.imp (fun h => Nat.ne_of_lt h)) (k := List.range R.length) fun x hx => List.mem_range.2 (mB x hx)
    simp at this; omega
  have gA : ∀ k, k < A.length → A.getD k 0 < L.length := fun k hk => mA _ (getD_mem' hk)
  have gB' : ∀ k, k < B.length → B.getD k 0 < R.length := fun k hk => mB _ (getD_mem' hk)
  have ltA : ∀ k, k + 1 < A.length → A.getD k 0 < A.getD (k + 1) 0 := fun k hk => pw_lt pA hk
  have ltB : ∀ k, k + 1 < B.length → B.getD k 0 < B.getD (k + 1) 0 := fun k hk => pw_lt pB hk
  refine ACall.drop (Ren.of_g0 rfl) ?_
  refine ACall.start Try.func48 rfl rfl ?_
  (repeat (first | (with_reducible refine AWo.cons ?_) | ((with_reducible refine Step.id ?_); first | ((with_reducible apply Step.assign); exact rfl; exact rfl) | ((with_reducible apply Step.box 0); exact rfl; exact rfl; (focus (kernel_rfl)); exact rfl; (focus (first | (simp only [List.nil_append, List.cons_append, List.set_cons_zero, List.set_cons_succ, iv_set, bv_set, iv_rep, bv_rep]; done) | (simp only [List.nil_append, List.cons_append, List.set_cons_zero, List.set_cons_succ, iv_set, bv_set, iv_rep, bv_rep]; rfl) | rfl)))) | (with_reducible refine AWo.nil ?_) | ((fail_if_success (with_reducible refine AW.atR (id := 1) ?_)); ((with_reducible apply AW.seq))) | ((with_reducible apply Then.n)) | ((with_reducible apply AW.regL))))
  refine AW.joinG (fr [(0, lv), (1, rv), (3, av), (4, bw), (7, .pointer (some ⟨m.length + 0, 0, none⟩)), (11, .slice (some ⟨m.length + 1, 0, none⟩) L.length L.length), (12, .slice (some ⟨m.length + 2, 0, none⟩) R.length R.length)]) (m ++ [some { cells := u.cells }, some { cells := bv (List.replicate L.length false) }, some { cells := bv (List.replicate R.length false) }]) ?_ ?_
  · (repeat' (first | ((with_reducible refine Step.id ?_); first | ((with_reducible apply Step.move); exact rfl; exact rfl) | ((with_reducible apply Step.assign); exact rfl; exact rfl) | ((with_reducible apply Step.len); exact rfl; (focus (assumption)); (focus (decide +kernel)); exact rfl) | ((with_reducible apply Step.make1 1); exact rfl; exact rfl; exact rfl; exact el88; (focus (omega)); exact rfl; (focus (first | (simp only [List.nil_append, List.cons_append, List.set_cons_zero, List.set_cons_succ, iv_set, bv_set, iv_rep, bv_rep]; done) | (simp only [List.nil_append, List.cons_append, List.set_cons_zero, List.set_cons_succ, iv_set, bv_set, iv_rep, bv_rep]; rfl) | rfl))) | ((with_reducible apply Step.make1 2); exact rfl; exact rfl; exact rfl; exact el88; (focus (omega)); exact rfl; (focus (first | (simp only [List.nil_append, List.cons_append, List.set_cons_zero, List.set_cons_succ, iv_set, bv_set, iv_rep, bv_rep]; done) | (simp only [List.nil_append, List.cons_append, List.set_cons_zero, List.set_cons_succ, iv_set, bv_set, iv_rep, bv_rep]; rfl) | rfl)))) | ((with_reducible apply Then.n)) | ((with_reducible apply AW.drawT fit (T := (.step 0 (.step 1 (.step 3 (.step 4 (.both (.step 2 (.step 6 (.step 5 (.step 7 .done)))) (.step 5 (.step 2 (.step 6 (.step 7 .done))))))))))); (focus (decide +kernel))) | ((with_reducible apply AWt.step); exact rfl) | ((with_reducible apply AWt.done)) | refine AWt.both ?_ ?_))
    all_goals first | (refine Gc.perm [0,1,2] rfl (by decide) ?_ (CellsOk.ren ?_) ?_; (focus (intro p hp; rcases p with _ | _ | _ | p <;> first | rfl | exact absurd hp (lenB (n := 3) rfl))); (focus (repeat (first | exact CellsOk.nil | refine CellsOk.cons (by first | assumption | exact g0_bv _) ?_))); (focus ((repeat (first | exact trivial | (refine And.intro ⟨_, rfl, ?_⟩ ?_; (focus (first | (refine Ren.ptr_sg ?_; (focus (first | (simp; done) | omega | (simp; omega)))) | (refine Ren.slice_sg ?_; (focus (first | (simp; done) | omega | (simp; omega)))) | (refine Ren.of_sl_sg (by assumption) ?_ ?_; (focus (first | (simp; done) | omega | (simp; omega))); (focus (simp; done)))))))); done))) | (refine Gc.perm [0,2,1] rfl (by decide) ?_ (CellsOk.ren ?_) ?_; (focus (intro p hp; rcases p with _ | _ | _ | p <;> first | rfl | exact absurd hp (lenB (n := 3) rfl))); (focus (repeat (first | exact CellsOk.nil | refine CellsOk.cons (by first | assumption | exact g0_bv _) ?_))); (focus ((repeat (first | exact trivial | (refine And.intro ⟨_, rfl, ?_⟩ ?_; (focus (first | (refine Ren.ptr_sg ?_; (focus (first | (simp; done) | omega | (simp; omega)))) | (refine Ren.slice_sg ?_; (focus (first | (simp; done) | omega | (simp; omega)))) | (refine Ren.of_sl_sg (by assumption) ?_ ?_; (focus (first | (simp; done) | omega | (simp; omega))); (focus (simp; done)))))))); done)))
  (repeat (first | (with_reducible refine AWo.cons ?_) | ((with_reducible refine Step.id ?_); first | ((with_reducible apply Step.move); exact rfl; exact rfl) | ((with_reducible apply Step.len); exact rfl; (focus (assumption)); (focus (decide +kernel)); exact rfl)) | (with_reducible refine AWo.nil ?_) | ((with_reducible apply AW.seq)) | ((with_reducible apply Then.n)) | ((with_reducible apply AW.regL)) | ((with_reducible apply AW.block))))
  refine AW.loopT (fun rk t L' => ∃ k : Nat, rk = A.length - k ∧ k ≤ A.length ∧ L' = [some { cells := u.cells }, some { cells := bv (tabB (mkd A k) L.length) }, some { cells := bv (List.replicate R.length false) }] ∧
      t = [(0, lv), (1, rv), (3, av), (4, bw), (7, .pointer (some ⟨m.length + 0, 0, none⟩)), (11, .slice (some ⟨m.length + 1, 0, none⟩) L.length L.length), (12, .slice (some ⟨m.length + 2, 0, none⟩) R.length R.length), (27, av), (28, .int .i64 (A.length : Nat)), (29, .int .i64 (k : Nat))])
    ⟨_, _, _, (Or.inl ⟨rfl, (by repeat (first | exact trivial | (refine And.intro rfl ?_)))⟩), 0, rfl, Nat.zero_le _, by rw [mkd_zero, ← tabB_rep], rfl⟩ ?_
  rintro rk t L' ⟨k, rfl, hk, rfl, rfl⟩
  rcases Nat.lt_or_ge k A.length with hkA | hkA
  · have q1 := a3 k hkA
    rw [nats_get] at q1
    have hx := gA k hkA
    have hup := mkd_up hkA L.length
    rcases k with _ | k
    · generalize A.getD 0 0 = x at *
      (repeat (first | (with_reducible refine AWo.cons ?_) | ((with_reducible refine Step.id ?_); first | ((with_reducible apply Step.gdT); exact rfl; exact rfl; (focus (first | rfl | (simp only [decide_eq_true_eq, decide_eq_false_iff_not, Bool.not_eq_true', Bool.not_eq_false', Bool.not_true, Bool.not_false]; first | assumption | omega)))) | ((with_reducible apply Step.gdF); exact rfl; exact rfl; (focus (rfl))) | ((with_reducible apply Step.move); exact rfl; exact rfl) | ((with_reducible apply Step.assign); exact rfl; exact rfl) | ((with_reducible apply Step.load); exact rfl; (focus (decide +kernel)); exact rfl; (focus (exact q1.old _))) | ((with_reducible apply Step.ix1z); exact rfl; (focus (exact Sl.mk (by omega))); exact rfl; (focus (decide +kernel)); exact rfl; (focus (omega))) | ((with_reducible apply Step.ix1); exact rfl; (focus (assumption)); exact rfl; (focus (decide +kernel)); exact rfl; (focus (omega))) | ((with_reducible apply Step.add); exact rfl; exact rfl; (focus (omega)); exact rfl) | ((with_reducible apply Step.lss); exact rfl; exact rfl; exact rfl) | ((with_reducible apply Step.gtr); exact rfl; exact rfl; exact rfl) | ((with_reducible apply Step.geq); exact rfl; exact rfl; exact rfl) | ((with_reducible apply Step.len); exact rfl; (focus (assumption)); (focus (decide +kernel)); exact rfl) | ((with_reducible apply Step.pickF); exact rfl; exact rfl; exact rfl; exact rfl; (focus (first | rfl | (simp only [decide_eq_true_eq, decide_eq_false_iff_not, Bool.not_eq_true', Bool.not_eq_false', Bool.not_true, Bool.not_false]; first | assumption | omega)))) | ((with_reducible apply Step.store (k := 1)); exact rfl; exact rfl; exact rfl; exact rfl; (focus (decide +kernel)); exact rfl; exact rfl; (focus (first | omega | (simp [iv, bv]; done) | (simp [iv, bv]; omega))); (focus (first | (simp only [List.nil_append, List.cons_append, List.set_cons_zero, List.set_cons_succ, iv_set, bv_set, iv_rep, bv_rep]; done) | (simp only [List.nil_append, List.cons_append, List.set_cons_zero, List.set_cons_succ, iv_set, bv_set, iv_rep, bv_rep]; rfl) | rfl)))) | (with_reducible refine AWo.nil ?_) | ((with_reducible apply AW.seq)) | ((with_reducible apply Then.n)) | ((with_reducible apply AW.regL)) | ((with_reducible apply AW.block)) | ((with_reducible apply InBlk.n)) | ((with_reducible apply AW.skip)) | ((with_reducible apply AW.condT); exact rfl; (focus ((simp only [decide_eq_true_eq, decide_eq_false_iff_not, Bool.not_eq_true', Bool.not_eq_false', Bool.not_true, Bool.not_false]; first | assumption | omega)))) | ((with_reducible apply AW.condF); exact rfl; (focus (rfl)))))
      exact ⟨_, _, [some { cells := u.cells }, some { cells := bv (tabB (mkd A 1) L.length) }, some { cells := bv (List.replicate R.length false) }], by omega, by rw [tabB_set, hup]; exact (Or.inl ⟨rfl, (by repeat (first | exact trivial | (refine And.intro rfl ?_)))⟩), 1, rfl, by omega, rfl, rfl⟩
    · have q2 := a3 k (by omega)
      rw [nats_get] at q2
      have hlt := ltA k hkA
      have e1 : ((k + 1 : Nat) : Int) - 1 = ((k : Nat) : Int) := by omega
      generalize A.getD (k + 1) 0 = x at *
      generalize A.getD k 0 = y at *
      (repeat (first | (with_reducible refine AWo.cons ?_) | ((with_reducible refine Step.id ?_); first | ((with_reducible apply Step.gdT); exact rfl; exact rfl; (focus (first | rfl | (simp only [decide_eq_true_eq, decide_eq_false_iff_not, Bool.not_eq_true', Bool.not_eq_false', Bool.not_true, Bool.not_false]; first | assumption | omega)))) | ((with_reducible apply Step.move); exact rfl; exact rfl) | ((with_reducible apply Step.assign); exact rfl; exact rfl) | ((with_reducible apply Step.load); exact rfl; (focus (decide +kernel)); exact rfl; (focus (first | exact q1.old _ | exact q2.old _))) | ((with_reducible apply Step.ix1z); exact rfl; (focus (exact Sl.mk (by omega))); exact rfl; (focus (decide +kernel)); exact rfl; (focus (omega))) | ((with_reducible apply Step.ix1); exact rfl; (focus (assumption)); exact rfl; (focus (decide +kernel)); exact rfl; (focus (omega))) | ((with_reducible apply Step.subE); exact rfl; exact rfl; (focus (assumption)); (focus (omega)); exact rfl) | ((with_reducible apply Step.add); exact rfl; exact rfl; (focus (omega)); exact rfl) | ((with_reducible apply Step.lss); exact rfl; exact rfl; exact rfl) | ((with_reducible apply Step.gtr); exact rfl; exact rfl; exact rfl) | ((with_reducible apply Step.geq); exact rfl; exact rfl; exact rfl) | ((with_reducible apply Step.len); exact rfl; (focus (assumption)); (focus (decide +kernel)); exact rfl) | ((with_reducible apply Step.pickT); exact rfl; exact rfl; exact rfl; exact rfl; (focus ((simp only [decide_eq_true_eq, decide_eq_false_iff_not, Bool.not_eq_true', Bool.not_eq_false', Bool.not_true, Bool.not_false]; first | assumption | omega)))) | ((with_reducible apply Step.pickF); exact rfl; exact rfl; exact rfl; exact rfl; (focus (first | rfl | (simp only [decide_eq_true_eq, decide_eq_false_iff_not, Bool.not_eq_true', Bool.not_eq_false', Bool.not_true, Bool.not_false]; first | assumption | omega)))) | ((with_reducible apply Step.store (k := 1)); exact rfl; exact rfl; exact rfl; exact rfl; (focus (decide +kernel)); exact rfl; exact rfl; (focus (first | omega | (simp [iv, bv]; done) | (simp [iv, bv]; omega))); (focus (first | (simp only [List.nil_append, List.cons_append, List.set_cons_zero, List.set_cons_succ, iv_set, bv_set, iv_rep, bv_rep]; done) | (simp only [List.nil_append, List.cons_append, List.set_cons_zero, List.set_cons_succ, iv_set, bv_set, iv_rep, bv_rep]; rfl) | rfl)))) | (with_reducible refine AWo.nil ?_) | ((with_reducible apply AW.seq)) | ((with_reducible apply Then.n)) | ((with_reducible apply AW.regL)) | ((with_reducible apply AW.block)) | ((with_reducible apply InBlk.n)) | ((with_reducible apply AW.skip)) | ((with_reducible apply AW.condT); exact rfl; (focus ((simp only [decide_eq_true_eq, decide_eq_false_iff_not, Bool.not_eq_true', Bool.not_eq_false', Bool.not_true, Bool.not_false]; first | assumption | omega)))) | ((with_reducible apply AW.condF); exact rfl; (focus ((simp only [decide_eq_true_eq, decide_eq_false_iff_not, Bool.not_eq_true', Bool.not_eq_false', Bool.not_true, Bool.not_false]; first | assumption | omega))))))
      exact ⟨_, _, [some { cells := u.cells }, some { cells := bv (tabB (mkd A (k + 1 + 1)) L.length) }, some { cells := bv (List.replicate R.length false) }], by omega, by rw [tabB_set, hup]; exact (Or.inl ⟨rfl, (by repeat (first | exact trivial | (refine And.intro rfl ?_)))⟩), k + 1 + 1, rfl, by omega, rfl, rfl⟩
  obtain rfl : k = A.length := by omega
  (repeat (first | (with_reducible refine AWo.cons ?_) | ((with_reducible refine Step.id ?_); first | ((with_reducible apply Step.move); exact rfl; exact rfl) | ((with_reducible apply Step.lss); exact rfl; exact rfl; exact rfl) | ((with_reducible apply Step.len); exact rfl; (focus (assumption)); (focus (decide +kernel)); exact rfl)) | (with_reducible refine AWo.nil ?_) | ((with_reducible apply AW.seq)) | ((with_reducible apply Then.n)) | ((with_reducible apply AW.regL)) | ((with_reducible apply AW.block)) | ((with_reducible apply AW.exit)) | ((with_reducible apply InBlk.hit)) | ((with_reducible apply Then.e)) | ((with_reducible apply AW.condF); exact rfl; (focus ((simp only [decide_eq_true_eq, decide_eq_false_iff_not, Bool.not_eq_true', Bool.not_eq_false', Bool.not_true, Bool.not_false]; first | assumption | omega))))))
  refine AW.loopT (fun rk t L' => ∃ k : Nat, rk = B.length - k ∧ k ≤ B.length ∧ L' = [some { cells := u.cells }, some { cells := bv (tabB (mkd A A.length) L.length) }, some { cells := bv (tabB (mkd B k) R.length) }] ∧
      t = [(0, lv), (1, rv), (4, bw), (7, .pointer (some ⟨m.length + 0, 0, none⟩)), (11, .slice (some ⟨m.length + 1, 0, none⟩) L.length L.length), (12, .slice (some ⟨m.length + 2, 0, none⟩) R.length R.length), (59, bw), (60, .int .i64 (B.length : Nat)), (61, .int .i64 (k : Nat))])
    ⟨_, _, _, (Or.inl ⟨rfl, (by repeat (first | exact trivial | (refine And.intro rfl ?_)))⟩), 0, rfl, Nat.zero_le _, by rw [mkd_zero, ← tabB_rep], rfl⟩ ?_
  rintro rk t L' ⟨k, rfl, hk, rfl, rfl⟩
  rcases Nat.lt_or_ge k B.length with hkB | hkB
  · have q1 := b3 k hkB
    rw [nats_get] at q1
    have hx := gB' k hkB
    have hup := mkd_up hkB R.length
    rcases k with _ | k
    · generalize B.getD 0 0 = x at *
      (repeat (first | (with_reducible refine AWo.cons ?_) | ((with_reducible refine Step.id ?_); first | ((with_reducible apply Step.gdT); exact rfl; exact rfl; (focus (first | rfl | (simp only [decide_eq_true_eq, decide_eq_false_iff_not, Bool.not_eq_true', Bool.not_eq_false', Bool.not_true, Bool.not_false]; first | assumption | omega)))) | ((with_reducible apply Step.gdF); exact rfl; exact rfl; (focus (rfl))) | ((with_reducible apply Step.move); exact rfl; exact rfl) | ((with_reducible apply Step.assign); exact rfl; exact rfl) | ((with_reducible apply Step.load); exact rfl; (focus (decide +kernel)); exact rfl; (focus (exact q1.old _))) | ((with_reducible apply Step.ix1z); exact rfl; (focus (exact Sl.mk (by omega))); exact rfl; (focus (decide +kernel)); exact rfl; (focus (omega))) | ((with_reducible apply Step.ix1); exact rfl; (focus (assumption)); exact rfl; (focus (decide +kernel)); exact rfl; (focus (omega))) | ((with_reducible apply Step.add); exact rfl; exact rfl; (focus (omega)); exact rfl) | ((with_reducible apply Step.lss); exact rfl; exact rfl; exact rfl) | ((with_reducible apply Step.gtr); exact rfl; exact rfl; exact rfl) | ((with_reducible apply Step.geq); exact rfl; exact rfl; exact rfl) | ((with_reducible apply Step.len); exact rfl; (focus (assumption)); (focus (decide +kernel)); exact rfl) | ((with_reducible apply Step.pickF); exact rfl; exact rfl; exact rfl; exact rfl; (focus (first | rfl | (simp only [decide_eq_true_eq, decide_eq_false_iff_not, Bool.not_eq_true', Bool.not_eq_false', Bool.not_true, Bool.not_false]; first | assumption | omega)))) | ((with_reducible apply Step.store (k := 2)); exact rfl; exact rfl; exact rfl; exact rfl; (focus (decide +kernel)); exact rfl; exact rfl; (focus (first | omega | (simp [iv, bv]; done) | (simp [iv, bv]; omega))); (focus (first | (simp only [List.nil_append, List.cons_append, List.set_cons_zero, List.set_cons_succ, iv_set, bv_set, iv_rep, bv_rep]; done) | (simp only [List.nil_append, List.cons_append, List.set_cons_zero, List.set_cons_succ, iv_set, bv_set, iv_rep, bv_rep]; rfl) | rfl)))) | (with_reducible refine AWo.nil ?_) | ((with_reducible apply AW.seq)) | ((with_reducible apply Then.n)) | ((with_reducible apply AW.regL)) | ((with_reducible apply AW.block)) | ((with_reducible apply InBlk.n)) | ((with_reducible apply AW.skip)) | ((with_reducible apply AW.condT); exact rfl; (focus ((simp only [decide_eq_true_eq, decide_eq_false_iff_not, Bool.not_eq_true', Bool.not_eq_false', Bool.not_true, Bool.not_false]; first | assumption | omega)))) | ((with_reducible apply AW.condF); exact rfl; (focus (rfl)))))
      exact ⟨_, _, [some { cells := u.cells }, some { cells := bv (tabB (mkd A A.length) L.length) }, some { cells := bv (tabB (mkd B 1) R.length) }], by omega, by rw [tabB_set, hup]; exact (Or.inl ⟨rfl, (by repeat (first | exact trivial | (refine And.intro rfl ?_)))⟩), 1, rfl, by omega, rfl, rfl⟩
    · have q2 := b3 k (by omega)
      rw [nats_get] at q2
      have hlt := ltB k hkB
      have e1 : ((k + 1 : Nat) : Int) - 1 = ((k : Nat) : Int) := by omega
      generalize B.getD (k + 1) 0 = x at *
      generalize B.getD k 0 = y at *
      (repeat (first | (with_reducible refine AWo.cons ?_) | ((with_reducible refine Step.id ?_); first | ((with_reducible apply Step.gdT); exact rfl; exact rfl; (focus (first | rfl | (simp only [decide_eq_true_eq, decide_eq_false_iff_not, Bool.not_eq_true', Bool.not_eq_false', Bool.not_true, Bool.not_false]; first | assumption | omega)))) | ((with_reducible apply Step.move); exact rfl; exact rfl) | ((with_reducible apply Step.assign); exact rfl; exact rfl) | ((with_reducible apply Step.load); exact rfl; (focus (decide +kernel)); exact rfl; (focus (first | exact q1.old _ | exact q2.old _))) | ((with_reducible apply Step.ix1z); exact rfl; (focus (exact Sl.mk (by omega))); exact rfl; (focus (decide +kernel)); exact rfl; (focus (omega))) | ((with_reducible apply Step.ix1); exact rfl; (focus (assumption)); exact rfl; (focus (decide +kernel)); exact rfl; (focus (omega))) | ((with_reducible apply Step.subE); exact rfl; exact rfl; (focus (assumption)); (focus (omega)); exact rfl) | ((with_reducible apply Step.add); exact rfl; exact rfl; (focus (omega)); exact rfl) | ((with_reducible apply Step.lss); exact rfl; exact rfl; exact rfl) | ((with_reducible apply Step.gtr); exact rfl; exact rfl; exact rfl) | ((with_reducible apply Step.geq); exact rfl; exact rfl; exact rfl) | ((with_reducible apply Step.len); exact rfl; (focus (assumption)); (focus (decide +kernel)); exact rfl) | ((with_reducible apply Step.pickT); exact rfl; exact rfl; exact rfl; exact rfl; (focus ((simp only [decide_eq_true_eq, decide_eq_false_iff_not, Bool.not_eq_true', Bool.not_eq_false', Bool.not_true, Bool.not_false]; first | assumption | omega)))) | ((with_reducible apply Step.pickF); exact rfl; exact rfl; exact rfl; exact rfl; (focus (first | rfl | (simp only [decide_eq_true_eq, decide_eq_false_iff_not, Bool.not_eq_true', Bool.not_eq_false', Bool.not_true, Bool.not_false]; first | assumption | omega)))) | ((with_reducible apply Step.store (k := 2)); exact rfl; exact rfl; exact rfl; exact rfl; (focus (decide +kernel)); exact rfl; exact rfl; (focus (first | omega | (simp [iv, bv]; done) | (simp [iv, bv]; omega))); (focus (first | (simp only [List.nil_append, List.cons_append, List.set_cons_zero, List.set_cons_succ, iv_set, bv_set, iv_rep, bv_rep]; done) | (simp only [List.nil_append, List.cons_append, List.set_cons_zero, List.set_cons_succ, iv_set, bv_set, iv_rep, bv_rep]; rfl) | rfl)))) | (with_reducible refine AWo.nil ?_) | ((with_reducible apply AW.seq)) | ((with_reducible apply Then.n)) | ((with_reducible apply AW.regL)) | ((with_reducible apply AW.block)) | ((with_reducible apply InBlk.n)) | ((with_reducible apply AW.skip)) | ((with_reducible apply AW.condT); exact rfl; (focus ((simp only [decide_eq_true_eq, decide_eq_false_iff_not, Bool.not_eq_true', Bool.not_eq_false', Bool.not_true, Bool.not_false]; first | assumption | omega)))) | ((with_reducible apply AW.condF); exact rfl; (focus ((simp only [decide_eq_true_eq, decide_eq_false_iff_not, Bool.not_eq_true', Bool.not_eq_false', Bool.not_true, Bool.not_false]; first | assumption | omega))))))
      exact ⟨_, _, [some { cells := u.cells }, some { cells := bv (tabB (mkd A A.length) L.length) }, some { cells := bv (tabB (mkd B (k + 1 + 1)) R.length) }], by omega, by rw [tabB_set, hup]; exact (Or.inl ⟨rfl, (by repeat (first | exact trivial | (refine And.intro rfl ?_)))⟩), k + 1 + 1, rfl, by omega, rfl, rfl⟩
  obtain rfl : k = B.length := by omega
  (repeat (first | (with_reducible refine AWo.cons ?_) | ((with_reducible refine Step.id ?_); first | ((with_reducible apply Step.move); exact rfl; exact rfl) | ((with_reducible apply Step.loadL (n := 8)); exact rfl; (focus (decide +kernel)); (focus (decide +kernel)); exact rfl; (focus (exact RdL.new rfl rfl)); exact rfl; exact rfl) | ((with_reducible apply Step.lss); exact rfl; exact rfl; exact rfl)) | (with_reducible refine AWo.nil ?_) | ((with_reducible apply AW.seq)) | ((with_reducible apply Then.n)) | ((with_reducible apply AW.regL)) | ((with_reducible apply AW.exit)) | ((with_reducible apply InBlk.hit)) | ((with_reducible apply Then.e)) | ((with_reducible apply AW.condF); exact rfl; (focus ((simp only [decide_eq_true_eq, decide_eq_false_iff_not, Bool.not_eq_true', Bool.not_eq_false', Bool.not_true, Bool.not_false]; first | assumption | omega))))))
  ((with_reducible apply Step.callX fit); exact rfl; exact Try.func59; exact rfl; exact rfl; exact (table_ok (hl.old _) (hr.old _) k1 k2 k3))
  rintro cv M ⟨N0, hN0⟩ hT
  have fa : ∀ i, i < L.length → Rd M (m.length + 1) i (.bool (decide (i ∈ A))) := fun i hi => by
    rw [hN0, ← mkd_all, ← tabB_get (mkd A A.length) hi]
    exact Rd.old _ (Rd.new rfl (bv_get (by simpa using hi)))
  have fb : ∀ j, j < R.length → Rd M (m.length + 2) j (.bool (decide (j ∈ B))) := fun j hj => by
    rw [hN0, ← mkd_all, ← tabB_get (mkd B B.length) hj]
    exact Rd.old _ (Rd.new rfl (bv_get (by simpa using hj)))
  have hMN : ∃ N, M = m ++ N := ⟨_, by rw [hN0, List.append_assoc]⟩
  have hlm : m.length + 2 < M.length := by rw [hN0]; simp only [List.length_append, List.length_cons]; omega
  clear hN0
  generalize cT u L R = c at *
  generalize L.length = l at *
  generalize R.length = r at *
  obtain ⟨cb, co, c1, c2, c3⟩ := id hT
  (repeat (first | (with_reducible refine AWo.cons ?_) | ((with_reducible refine Step.id ?_); first | ((with_reducible apply Step.move); exact rfl; exact rfl) | ((with_reducible apply Step.len); exact rfl; (focus (assumption)); (focus (decide +kernel)); exact rfl)) | (with_reducible refine AWo.nil ?_) | ((with_reducible apply Then.n)) | ((with_reducible apply AW.block))))
  rw [List.append_nil]
  refine AW.rebase ?_
  refine AW.loopT (fun rk t L' => ∃ i : Nat, rk = l - i ∧ i ≤ l ∧ L' = [] ∧ t = [(11, .slice (some ⟨m.length + 1, 0, none⟩) l l), (12, .slice (some ⟨m.length + 2, 0, none⟩) r r), (94, cv), (95, .int .i64 (l : Nat)), (96, .int .i64 (i : Nat))])
    ⟨_, _, _, (Or.inl ⟨rfl, (by repeat (first | exact trivial | (refine And.intro rfl ?_)))⟩), 0, rfl, Nat.zero_le _, rfl, rfl⟩ ?_
  rintro rk t L' ⟨i, rfl, hi, rfl, rfl⟩
  rcases Nat.lt_or_ge i l with hil | hil
  · obtain ⟨w, q1, rb, ro', w1, w2, w3⟩ := c3 i hil
    rw [tab_len] at w1 w3
    have fi := fa i hil
    have hci := hcov i hil
    (repeat (first | (with_reducible refine AWo.cons ?_) | ((with_reducible refine Step.id ?_); first | ((with_reducible apply Step.move); exact rfl; exact rfl) | ((with_reducible apply Step.assign); exact rfl; exact rfl) | ((with_reducible apply Step.load); exact rfl; (focus (decide +kernel)); exact rfl; (focus (exact q1.old _))) | ((with_reducible apply Step.ix1); exact rfl; (focus (assumption)); exact rfl; (focus (decide +kernel)); exact rfl; (focus (omega))) | ((with_reducible apply Step.lss); exact rfl; exact rfl; exact rfl) | ((with_reducible apply Step.len); exact rfl; (focus (assumption)); (focus (decide +kernel)); exact rfl)) | (with_reducible refine AWo.nil ?_) | ((with_reducible apply AW.seq)) | ((with_reducible apply Then.n)) | ((with_reducible apply AW.regL)) | ((with_reducible apply AW.block)) | ((with_reducible apply AW.skip)) | ((with_reducible apply AW.condT); exact rfl; (focus ((simp only [decide_eq_true_eq, decide_eq_false_iff_not, Bool.not_eq_true', Bool.not_eq_false', Bool.not_true, Bool.not_false]; first | assumption | omega))))))
    refine AW.loopT (fun rk t L' => ∃ j : Nat, rk = r - j ∧ j ≤ r ∧ L' = [] ∧ t = [(11, .slice (some ⟨m.length + 1, 0, none⟩) l l), (12, .slice (some ⟨m.length + 2, 0, none⟩) r r), (17, .int .i64 (i : Nat)), (94, cv), (95, .int .i64 (l : Nat)), (96, .int .i64 (i : Nat)), (101, w), (102, .int .i64 (r : Nat)), (103, .int .i64 (j : Nat))])
      ⟨_, _, _, (Or.inl ⟨rfl, (by repeat (first | exact trivial | (refine And.intro rfl ?_)))⟩), 0, rfl, Nat.zero_le _, rfl, rfl⟩ ?_
    rintro rk t L' ⟨j, rfl, hj, rfl, rfl⟩
    rcases Nat.lt_or_ge j r with hjr | hjr
    · have q5 := w3 j hjr
      rw [tab_get (c i) hjr] at q5
      have fj := fb j hjr
      have hcij := hci j hjr
      by_cases hcn : c i j < 0
      · (repeat (first | (with_reducible refine AWo.cons ?_) | ((with_reducible refine Step.id ?_); first | ((with_reducible apply Step.gdF); exact rfl; exact rfl; (focus (first | rfl | (simp only [decide_eq_true_eq, decide_eq_false_iff_not, Bool.not_eq_true', Bool.not_eq_false', Bool.not_true, Bool.not_false]; first | assumption | omega)))) | ((with_reducible apply Step.move); exact rfl; exact rfl) | ((with_reducible apply Step.assign); exact rfl; exact rfl) | ((with_reducible apply Step.load); exact rfl; (focus (decide +kernel)); exact rfl; (focus (exact q5.old _))) | ((with_reducible apply Step.ix1); exact rfl; (focus (assumption)); exact rfl; (focus (decide +kernel)); exact rfl; (focus (omega))) | ((with_reducible apply Step.add); exact rfl; exact rfl; (focus (omega)); exact rfl) | ((with_reducible apply Step.lss); exact rfl; exact rfl; exact rfl) | ((with_reducible apply Step.geq); exact rfl; exact rfl; exact rfl) | ((with_reducible apply Step.pickF); exact rfl; exact rfl; exact rfl; exact rfl; (focus (first | rfl | (simp only [decide_eq_true_eq, decide_eq_false_iff_not, Bool.not_eq_true', Bool.not_eq_false', Bool.not_true, Bool.not_false]; first | assumption | omega))))) | (with_reducible refine AWo.nil ?_) | ((with_reducible apply AW.seq)) | ((with_reducible apply Then.n)) | ((with_reducible apply AW.regL)) | ((with_reducible apply AW.block)) | ((with_reducible apply InBlk.n)) | ((with_reducible apply AW.skip)) | ((with_reducible apply AW.condT); exact rfl; (focus ((simp only [decide_eq_true_eq, decide_eq_false_iff_not, Bool.not_eq_true', Bool.not_eq_false', Bool.not_true, Bool.not_false]; first | assumption | omega)))) | ((with_reducible apply AW.condF); exact rfl; (focus (rfl)))))
        exact ⟨_, _, _, by omega, (Or.inl ⟨rfl, (by repeat (first | exact trivial | (refine And.intro rfl ?_)))⟩), j + 1, rfl, by omega, rfl, rfl⟩
      · by_cases hiA : i ∈ A
        · rw [decide_eq_true hiA] at fi
          (repeat (first | (with_reducible refine AWo.cons ?_) | ((with_reducible refine Step.id ?_); first | ((with_reducible apply Step.gdT); exact rfl; exact rfl; (focus ((simp only [decide_eq_true_eq, decide_eq_false_iff_not, Bool.not_eq_true', Bool.not_eq_false', Bool.not_true, Bool.not_false]; first | assumption | omega)))) | ((with_reducible apply Step.gdF); exact rfl; exact rfl; (focus (rfl))) | ((with_reducible apply Step.move); exact rfl; exact rfl) | ((with_reducible apply Step.assign); exact rfl; exact rfl) | ((with_reducible apply Step.load); exact rfl; (focus (decide +kernel)); exact rfl; (focus (first | exact q5.old _ | exact fi.old _))) | ((with_reducible apply Step.ix1z); exact rfl; (focus (exact Sl.mk (by omega))); exact rfl; (focus (decide +kernel)); exact rfl; (focus (omega))) | ((with_reducible apply Step.ix1); exact rfl; (focus (assumption)); exact rfl; (focus (decide +kernel)); exact rfl; (focus (omega))) | ((with_reducible apply Step.add); exact rfl; exact rfl; (focus (omega)); exact rfl) | ((with_reducible apply Step.lss); exact rfl; exact rfl; exact rfl) | ((with_reducible apply Step.geq); exact rfl; exact rfl; exact rfl) | ((with_reducible apply Step.not); exact rfl; exact rfl) | ((with_reducible apply Step.pickT); exact rfl; exact rfl; exact rfl; exact rfl; (focus ((simp only [decide_eq_true_eq, decide_eq_false_iff_not, Bool.not_eq_true', Bool.not_eq_false', Bool.not_true, Bool.not_false]; first | assumption | omega)))) | ((with_reducible apply Step.pickF); exact rfl; exact rfl; exact rfl; exact rfl; (focus (rfl)))) | (with_reducible refine AWo.nil ?_) | ((with_reducible apply AW.seq)) | ((with_reducible apply Then.n)) | ((with_reducible apply AW.regL)) | ((with_reducible apply AW.block)) | ((with_reducible apply InBlk.n)) | ((with_reducible apply AW.skip)) | ((with_reducible apply AW.condT); exact rfl; (focus ((simp only [decide_eq_true_eq, decide_eq_false_iff_not, Bool.not_eq_true', Bool.not_eq_false', Bool.not_true, Bool.not_false]; first | assumption | omega)))) | ((with_reducible apply AW.condF); exact rfl; (focus (rfl)))))
          exact ⟨_, _, _, by omega, (Or.inl ⟨rfl, (by repeat (first | exact trivial | (refine And.intro rfl ?_)))⟩), j + 1, rfl, by omega, rfl, rfl⟩
        · rw [decide_eq_false hiA] at fi
          rw [decide_eq_true ((hcij (by omega)).resolve_left hiA)] at fj
          (repeat (first | (with_reducible refine AWo.cons ?_) | ((with_reducible refine Step.id ?_); first | ((with_reducible apply Step.gdT); exact rfl; exact rfl; (focus (first | rfl | (simp only [decide_eq_true_eq, decide_eq_false_iff_not, Bool.not_eq_true', Bool.not_eq_false', Bool.not_true, Bool.not_false]; first | assumption | omega)))) | ((with_reducible apply Step.move); exact rfl; exact rfl) | ((with_reducible apply Step.assign); exact rfl; exact rfl) | ((with_reducible apply Step.load); exact rfl; (focus (decide +kernel)); exact rfl; (focus (first | exact q5.old _ | exact fi.old _ | exact fj.old _))) | ((with_reducible apply Step.ix1z); exact rfl; (focus (exact Sl.mk (by omega))); exact rfl; (focus (decide +kernel)); exact rfl; (focus (omega))) | ((with_reducible apply Step.ix1); exact rfl; (focus (assumption)); exact rfl; (focus (decide +kernel)); exact rfl; (focus (omega))) | ((with_reducible apply Step.add); exact rfl; exact rfl; (focus (omega)); exact rfl) | ((with_reducible apply Step.lss); exact rfl; exact rfl; exact rfl) | ((with_reducible apply Step.geq); exact rfl; exact rfl; exact rfl) | ((with_reducible apply Step.not); exact rfl; exact rfl) | ((with_reducible apply Step.pickT); exact rfl; exact rfl; exact rfl; exact rfl; (focus (first | rfl | (simp only [decide_eq_true_eq, decide_eq_false_iff_not, Bool.not_eq_true', Bool.not_eq_false', Bool.not_true, Bool.not_false]; first | assumption | omega))))) | (with_reducible refine AWo.nil ?_) | ((with_reducible apply AW.seq)) | ((with_reducible apply Then.n)) | ((with_reducible apply AW.regL)) | ((with_reducible apply AW.block)) | ((with_reducible apply InBlk.n)) | ((with_reducible apply AW.skip)) | ((with_reducible apply AW.condT); exact rfl; (focus ((simp only [decide_eq_true_eq, decide_eq_false_iff_not, Bool.not_eq_true', Bool.not_eq_false', Bool.not_true, Bool.not_false]; first | assumption | omega)))) | ((with_reducible apply AW.condF); exact rfl; (focus (rfl)))))
          exact ⟨_, _, _, by omega, (Or.inl ⟨rfl, (by repeat (first | exact trivial | (refine And.intro rfl ?_)))⟩), j + 1, rfl, by omega, rfl, rfl⟩
    · obtain rfl : j = r := by omega
      (repeat (first | (with_reducible refine AWo.cons ?_) | ((with_reducible refine Step.id ?_); first | ((with_reducible apply Step.move); exact rfl; exact rfl) | ((with_reducible apply Step.add); exact rfl; exact rfl; (focus (omega)); exact rfl) | ((with_reducible apply Step.lss); exact rfl; exact rfl; exact rfl)) | (with_reducible refine AWo.nil ?_) | ((with_reducible apply AW.seq)) | ((with_reducible apply Then.n)) | ((with_reducible apply AW.regL)) | ((with_reducible apply AW.exit)) | ((with_reducible apply InBlk.n)) | ((with_reducible apply InBlk.hit)) | ((with_reducible apply Then.e)) | ((with_reducible apply AW.condF); exact rfl; (focus ((simp only [decide_eq_true_eq, decide_eq_false_iff_not, Bool.not_eq_true', Bool.not_eq_false', Bool.not_true, Bool.not_false]; first | assumption | omega))))))
      exact ⟨_, _, _, by omega, (Or.inl ⟨rfl, (by repeat (first | exact trivial | (refine And.intro rfl ?_)))⟩), i + 1, rfl, by omega, rfl, rfl⟩
  · obtain rfl : i = l := by omega
    (repeat (first | (with_reducible refine AWo.cons ?_) | ((with_reducible refine Step.id ?_); first | ((with_reducible apply Step.assign); exact rfl; exact rfl) | ((with_reducible apply Step.lss); exact rfl; exact rfl; exact rfl)) | (with_reducible refine AWo.nil ?_) | ((with_reducible apply AW.seq)) | ((with_reducible apply Then.n)) | ((with_reducible apply AW.regL)) | ((with_reducible apply AW.exit)) | ((with_reducible apply InBlk.hit)) | ((with_reducible apply Then.e)) | ((with_reducible apply AW.condF); exact rfl; (focus ((simp only [decide_eq_true_eq, decide_eq_false_iff_not, Bool.not_eq_true', Bool.not_eq_false', Bool.not_true, Bool.not_false]; first | assumption | omega))))))
    (refine AW.ret ?_; (repeat (first | refine Then.r ?_ | refine InBlk.r ?_)))
    obtain ⟨N, rfl⟩ := hMN
    exact ⟨_, rfl, rfl, N, by rw [List.append_nil]⟩
set_option maxRecDepth 100000 in
theorem Cover_no {m : AM} {lv rv : Value} {u : Ru} {L R : List Gl} (hl : Gls m lv L) (hr : Gls m rv R) (h1 : L.length ≤ 100000) (h2 : R.length ≤ 100000) (hn : (sB L && sB R && uB u) = false) : ACall Try.prog 47 #[lv, rv, u.v] m (Ret (.tuple #[.slice none 0 0, .slice none 0 0, .int .i64 2]) m) := by
  have r0 : ∀ T : AM, RdL (m ++ (some { cells := u.cells } :: T)) (m.length + 0) 0 u.cells := fun T => RdL.new rfl rfl
  have hc := fun T => costs_no (hl.old T) (hr.old T) h1 h2 hn
  refine ACall.start Try.func47 rfl rfl ?_
  (repeat (first | (with_reducible refine AWo.cons ?_) | ((with_reducible refine Step.id ?_); first | ((with_reducible apply Step.move); exact rfl; exact rfl) | ((with_reducible apply Step.assign); exact rfl; exact rfl) | ((with_reducible apply Step.load); exact rfl; (focus (decide +kernel)); exact rfl; (focus (exact Rd.new rfl rfl))) | ((with_reducible apply Step.loadL (n := 8)); exact rfl; (focus (decide +kernel)); (focus (decide +kernel)); exact rfl; (focus (exact RdL.new rfl rfl)); exact rfl; exact rfl) | ((with_reducible apply Step.ptrNil); exact rfl; exact rfl; exact un77; exact rfl) | ((with_reducible apply Step.callR fit); exact rfl; exact Try.func54; exact rfl; exact rfl; exact (hc _)) | ((with_reducible apply Step.box 0); exact rfl; exact rfl; (focus (kernel_rfl)); exact rfl; (focus (first | (simp only [List.nil_append, List.cons_append, List.set_cons_zero, List.set_cons_succ, iv_set, bv_set, iv_rep, bv_rep]; done) | (simp only [List.nil_append, List.cons_append, List.set_cons_zero, List.set_cons_succ, iv_set, bv_set, iv_rep, bv_rep]; rfl) | rfl))) | ((with_reducible apply Step.alloc 1); exact rfl; exact ze77; exact rfl; (focus (first | (simp only [List.nil_append, List.cons_append, List.set_cons_zero, List.set_cons_succ, iv_set, bv_set, iv_rep, bv_rep]; done) | (simp only [List.nil_append, List.cons_append, List.set_cons_zero, List.set_cons_succ, iv_set, bv_set, iv_rep, bv_rep]; rfl) | rfl))) | ((with_reducible apply Step.store (k := 1)); exact rfl; exact rfl; exact rfl; exact rfl; (focus (decide +kernel)); exact rfl; exact rfl; (focus (first | omega | (simp [iv, bv]; done) | (simp [iv, bv]; omega))); (focus (first | (simp only [List.nil_append, List.cons_append, List.set_cons_zero, List.set_cons_succ, iv_set, bv_set, iv_rep, bv_rep]; done) | (simp only [List.nil_append, List.cons_append, List.set_cons_zero, List.set_cons_succ, iv_set, bv_set, iv_rep, bv_rep]; rfl) | rfl)))) | (with_reducible refine AWo.nil ?_) | ((with_reducible apply AW.seq)) | ((with_reducible apply Then.n)) | ((with_reducible apply AW.regL)) | ((with_reducible apply AW.condT); exact rfl; (focus (rfl)))))
  (refine AW.retD (l := [(6, _), (7, _), (8, _)]) (by repeat (first | exact trivial | (refine And.intro ⟨rfl, by (first | exact .int _ _ | exact Ren.of_g0 rfl)⟩ ?_))) ?_; (repeat (first | refine Then.r ?_ | refine InBlk.r ?_)))
  exact ⟨_, rfl, rfl, rfl⟩
theorem selL_pw (g : Nat → Bool) (n : Nat) : ((List.range n).filter g).Pairwise (· < ·) := List.pairwise_lt_range.filter g
set_option maxHeartbeats 4000000 in
set_option maxRecDepth 100000 in
theorem PairMost_ok {m : AM} {lv rv : Value} {L R : List Gl} {u : Ru} (hl : Gls m lv L) (hr : Gls m rv R) (h1 : L.length ≤ 9223372036854775807) (h2 : R.length ≤ 9223372036854775807) :
    ACall Try.prog 15 #[lv, rv, u.v] m (Ret (.bool true) m) := by
  have r0 : ∀ T : AM, RdL (m ++ (some { cells := u.cells } :: T)) (m.length + 0) 0 u.cells := fun T => RdL.new rfl rfl
  have c1 := fun T => lside_ok (hl.old T) h1
  have c2 := fun T => lside_ok (hr.old T) h2
  have c3 := fun T => rule_ok (m := m ++ T) u
  have gl : ∀ T : AM, Gls (m ++ (some { cells := u.cells } :: gb (glC (L.take 34)) 4 :: T)) (gv (m.length + 1) (L.take 34).length) (L.take 34) := fun T => gls_new (k := 1) (by simp) rfl
  have gr : ∀ T : AM, Gls (m ++ (some { cells := u.cells } :: gb (glC (L.take 34)) 4 :: gb (glC (R.take 34)) 4 :: T)) (gv (m.length + 2) (R.take 34).length) (R.take 34) := fun T => gls_new (k := 2) (by simp) rfl
  have gl3 : ∀ (x y : Option Blk) (T : AM), Gls (m ++ (some { cells := u.cells } :: x :: y :: gb (glC (L.take 34)) 4 :: T)) (gv (m.length + 3) (L.take 34).length) (L.take 34) := fun x y T => gls_new (k := 3) (by simp) rfl
  have gr4 : ∀ (x y z : Option Blk) (T : AM), Gls (m ++ (some { cells := u.cells } :: x :: y :: z :: gb (glC (R.take 34)) 4 :: T)) (gv (m.length + 4) (R.take 34).length) (R.take 34) := fun x y z T => gls_new (k := 4) (by simp) rfl
  cases hok : okB L R u with
  | false =>
    have hn : (sB (L.take 34) && sB (R.take 34) && uB u) = false := by rw [← hok]; exact okB34 L R u
    have w1 := Most_no (u := u) (gl [gb (glC (R.take 34)) 4]) (gr []) (by simp only [List.length_take]; omega) (by simp only [List.length_take]; omega) hn
    have w2 := fun T => RMost_no (hl.old T) (hr.old T) h1 h2 hok
    have w3 := Cover_no (u := u) (gl3 (gb (glC (L.take 34)) 4) (gb (glC (R.take 34)) 4) [gb (glC (R.take 34)) 4]) (gr4 _ _ _ []) (by simp only [List.length_take]; omega) (by simp only [List.length_take]; omega) hn
    refine ACall.start Try.func15 rfl rfl ?_
    (repeat (first | (with_reducible refine AWo.cons ?_) | ((with_reducible refine Step.id ?_); first | ((with_reducible apply Step.assign); exact rfl; exact rfl) | ((with_reducible apply Step.box 0); exact rfl; exact rfl; (focus (kernel_rfl)); exact rfl; (focus (first | (simp only [List.nil_append, List.cons_append, List.set_cons_zero, List.set_cons_succ, iv_set, bv_set, iv_rep, bv_rep]; done) | (simp only [List.nil_append, List.cons_append, List.set_cons_zero, List.set_cons_succ, iv_set, bv_set, iv_rep, bv_rep]; rfl) | rfl)))) | (with_reducible refine AWo.nil ?_) | ((fail_if_success (with_reducible refine AW.atR (id := 1) ?_)); ((with_reducible apply AW.seq))) | ((with_reducible apply Then.n)) | ((with_reducible apply AW.regL))))
    refine AW.joinS [(0, lv), (1, rv), (5, .pointer (some ⟨m.length + 0, 0, none⟩)), (7, .int .i64 0), (8, .int .i64 2)] (m ++ [some { cells := u.cells }, gb (glC (L.take 34)) 4, gb (glC (R.take 34)) 4]) ?_ ?_
    · (repeat' (first | ((with_reducible refine Step.id ?_); first | ((with_reducible apply Step.move); exact rfl; exact rfl) | ((with_reducible apply Step.assign); exact rfl; exact rfl) | ((with_reducible apply Step.loadL (n := 8)); exact rfl; (focus (decide +kernel)); (focus (decide +kernel)); exact rfl; (focus (exact RdL.new rfl rfl)); exact rfl; exact rfl) | ((with_reducible apply Step.extract); exact rfl; exact rfl; exact rfl) | ((with_reducible apply Step.callG fit (k := 1)); exact rfl; exact rfl; exact Try.func21; exact rfl; exact rfl; exact (c1 _); (focus (first | (simp only [List.nil_append, List.cons_append, List.set_cons_zero, List.set_cons_succ, iv_set, bv_set, iv_rep, bv_rep]; done) | (simp only [List.nil_append, List.cons_append, List.set_cons_zero, List.set_cons_succ, iv_set, bv_set, iv_rep, bv_rep]; rfl) | rfl))) | ((with_reducible apply Step.callG fit (k := 2)); exact rfl; exact rfl; exact Try.func21; exact rfl; exact rfl; exact (c2 _); (focus (first | (simp only [List.nil_append, List.cons_append, List.set_cons_zero, List.set_cons_succ, iv_set, bv_set, iv_rep, bv_rep]; done) | (simp only [List.nil_append, List.cons_append, List.set_cons_zero, List.set_cons_succ, iv_set, bv_set, iv_rep, bv_rep]; rfl) | rfl))) | ((with_reducible apply Step.callR fit); exact rfl; exact Try.func22; exact rfl; exact rfl; exact (c3 _)) | ((with_reducible apply Step.callR fit); exact rfl; exact Try.func32; exact rfl; exact rfl; exact (w1))) | ((with_reducible apply Then.n)) | ((with_reducible apply AW.drawT fit (T := (.step 0 (.step 2 (.both (.step 1 (.both (.step 3 (.step 4 (.step 5 (.step 6 (.step 7 (.step 8 (.step 9 (.step 10 (.step 11 .done))))))))) (.step 4 (.step 3 (.step 5 (.step 6 (.step 7 (.step 8 (.step 9 (.step 10 (.step 11 .done))))))))))) (.step 4 (.step 1 (.step 3 (.step 5 (.step 6 (.step 7 (.step 8 (.step 9 (.step 10 (.step 11 .done))))))))))))))); (focus (decide +kernel))) | ((with_reducible apply AWt.step); exact rfl) | ((with_reducible apply AWt.done)) | refine AWt.both ?_ ?_))
      all_goals exact ⟨rfl, (by repeat (first | exact trivial | (refine And.intro rfl ?_)))⟩
    (repeat (first | (with_reducible refine AWo.cons ?_) | ((with_reducible refine Step.id ?_); first | ((with_reducible apply Step.move); exact rfl; exact rfl) | ((with_reducible apply Step.assign); exact rfl; exact rfl) | ((with_reducible apply Step.loadL (n := 8)); exact rfl; (focus (decide +kernel)); (focus (decide +kernel)); exact rfl; (focus (exact RdL.new rfl rfl)); exact rfl; exact rfl) | ((with_reducible apply Step.extract); exact rfl; exact rfl; exact rfl) | ((with_reducible apply Step.callR fit); exact rfl; exact Try.func46; exact rfl; exact rfl; exact (w2 _))) | (with_reducible refine AWo.nil ?_) | ((fail_if_success (with_reducible refine AW.atR (id := 3) ?_)); ((with_reducible apply AW.seq))) | ((with_reducible apply Then.n)) | ((with_reducible apply AW.regL))))
    refine AW.joinS [(0, lv), (1, rv), (5, .pointer (some ⟨m.length + 0, 0, none⟩)), (7, .int .i64 0), (8, .int .i64 2), (9, .int .i64 0), (10, .int .i64 2), (11, .slice none 0 0), (12, .slice none 0 0), (13, .int .i64 2)] (m ++ [some { cells := u.cells }, gb (glC (L.take 34)) 4, gb (glC (R.take 34)) 4, gb (glC (L.take 34)) 4, gb (glC (R.take 34)) 4]) ?_ ?_
    · (repeat' (first | ((with_reducible refine Step.id ?_); first | ((with_reducible apply Step.move); exact rfl; exact rfl) | ((with_reducible apply Step.assign); exact rfl; exact rfl) | ((with_reducible apply Step.loadL (n := 8)); exact rfl; (focus (decide +kernel)); (focus (decide +kernel)); exact rfl; (focus (exact RdL.new rfl rfl)); exact rfl; exact rfl) | ((with_reducible apply Step.extract); exact rfl; exact rfl; exact rfl) | ((with_reducible apply Step.callG fit (k := 3)); exact rfl; exact rfl; exact Try.func21; exact rfl; exact rfl; exact (c1 _); (focus (first | (simp only [List.nil_append, List.cons_append, List.set_cons_zero, List.set_cons_succ, iv_set, bv_set, iv_rep, bv_rep]; done) | (simp only [List.nil_append, List.cons_append, List.set_cons_zero, List.set_cons_succ, iv_set, bv_set, iv_rep, bv_rep]; rfl) | rfl))) | ((with_reducible apply Step.callG fit (k := 4)); exact rfl; exact rfl; exact Try.func21; exact rfl; exact rfl; exact (c2 _); (focus (first | (simp only [List.nil_append, List.cons_append, List.set_cons_zero, List.set_cons_succ, iv_set, bv_set, iv_rep, bv_rep]; done) | (simp only [List.nil_append, List.cons_append, List.set_cons_zero, List.set_cons_succ, iv_set, bv_set, iv_rep, bv_rep]; rfl) | rfl))) | ((with_reducible apply Step.callR fit); exact rfl; exact Try.func22; exact rfl; exact rfl; exact (c3 _)) | ((with_reducible apply Step.callR fit); exact rfl; exact Try.func47; exact rfl; exact rfl; exact (w3))) | ((with_reducible apply Then.n)) | ((with_reducible apply AW.drawT fit (T := (.step 0 (.step 2 (.both (.step 1 (.both (.step 3 (.step 4 (.step 5 (.step 6 (.step 7 (.step 8 (.step 9 (.step 10 (.step 11 (.step 12 (.step 13 .done))))))))))) (.step 4 (.step 3 (.step 5 (.step 6 (.step 7 (.step 8 (.step 9 (.step 10 (.step 11 (.step 12 (.step 13 .done))))))))))))) (.step 4 (.step 1 (.step 3 (.step 5 (.step 6 (.step 7 (.step 8 (.step 9 (.step 10 (.step 11 (.step 12 (.step 13 .done))))))))))))))))); (focus (decide +kernel))) | ((with_reducible apply AWt.step); exact rfl) | ((with_reducible apply AWt.done)) | refine AWt.both ?_ ?_))
      all_goals exact ⟨rfl, (by repeat (first | exact trivial | (refine And.intro rfl ?_)))⟩
    (repeat (first | (with_reducible refine AWo.cons ?_) | ((with_reducible refine Step.id ?_); first | ((with_reducible apply Step.gdT); exact rfl; exact rfl; (focus (rfl))) | ((with_reducible apply Step.gdF); exact rfl; exact rfl; (focus (rfl))) | ((with_reducible apply Step.move); exact rfl; exact rfl) | ((with_reducible apply Step.assign); exact rfl; exact rfl) | ((with_reducible apply Step.add); exact rfl; exact rfl; (focus (omega)); exact rfl) | ((with_reducible apply Step.eql); exact rfl; exact rfl; exact rfl) | ((with_reducible apply Step.neq); exact rfl; exact rfl; exact rfl) | ((with_reducible apply Step.len); exact rfl; (focus (exact Sl.nil 0 0)); (focus (decide +kernel)); exact rfl) | ((with_reducible apply Step.not); exact rfl; exact rfl) | ((with_reducible apply Step.pickT); exact rfl; exact rfl; exact rfl; exact rfl; (focus (rfl))) | ((with_reducible apply Step.pickF); exact rfl; exact rfl; exact rfl; exact rfl; (focus (rfl))) | ((with_reducible apply Step.callR fit); exact rfl; exact Try.func25; exact rfl; exact rfl; exact (awake_ok))) | (with_reducible refine AWo.nil ?_) | ((with_reducible apply AW.seq)) | ((with_reducible apply Then.n)) | ((with_reducible apply AW.regL)) | ((with_reducible apply AW.skip)) | ((with_reducible apply AW.condF); exact rfl; (focus (rfl)))))
    (refine AW.retD (l := [(6, _)]) (by repeat (first | exact trivial | (refine And.intro ⟨rfl, by (exact .bool _)⟩ ?_))) ?_; (repeat (first | refine Then.r ?_ | refine InBlk.r ?_)))
    exact ⟨_, rfl, rfl, rfl⟩
  | true =>
    obtain ⟨k1, k2, k3⟩ := okB_iff hok
    obtain ⟨e34, f34⟩ := cT34 hok
    obtain ⟨k4, k5⟩ := okB_len hok
    rw [e34] at gl gl3
    rw [e34, f34] at gr
    rw [f34] at gr4
    rw [e34] at c1
    rw [f34] at c2
    have w1 := Most_ok (u := u) (gl [gb (glC R) 4]) (gr []) k1 k2 k3
    have w2 := fun T => RMost_ok (hl.old T) (hr.old T) h1 h2 hok
    have w3 := Cover_ok (u := u) (gl3 (gb (glC L) 4) (gb (glC R) 4) [gb (glC R) 4]) (gr4 _ _ _ []) k1 k2 k3
    have hinv := kM_inv (okc (cT u L R) 1000000000) R.length L.length
    have hrinv := kR_inv (ok := okc (cT u L R) 1000000000) (m := (kM (okc (cT u L R) 1000000000) R.length L.length).1) (r := R.length) (fun j _ => (kinv_bd hinv (Nat.le_refl _) j).2) (Nat.le_refl L.length)
    have hcs := cT_cs k3 k1 k2
    have hsize : ∀ s, s = kR (okc (cT u L R) 1000000000) (kM (okc (cT u L R) 1000000000) R.length L.length).1 L.length R.length L.length → cN (fun i => !s.1 i) L.length + cN s.2 R.length = mst u L R := fun s hs => by
      rw [hs]; exact cover_size hinv hrinv
    have hcov : ∀ s, s = kR (okc (cT u L R) 1000000000) (kM (okc (cT u L R) 1000000000) R.length L.length).1 L.length R.length L.length → ∀ i, i < L.length → ∀ j, j < R.length → 0 ≤ cT u L R i j → i ∈ (List.range L.length).filter (fun i => !s.1 i) ∨ j ∈ (List.range R.length).filter s.2 := fun s hs i hi j hj h0 => by
      cases e : s.1 i with
      | false => exact .inl (List.mem_filter.2 ⟨List.mem_range.2 hi, by rw [e]; rfl⟩)
      | true =>
        refine .inr (List.mem_filter.2 ⟨List.mem_range.2 hj, ?_⟩)
        rw [hs] at e ⊢
        have := hcs i j
        exact hrinv.r2 i e j hj (okc_yes (by omega) (by omega))
    have hn32 : mst u L R ≤ 64 := by
      have := hinv.cnt
      unfold mst
      rw [this]
      have : cN (fun j => decide (0 ≤ (kM (okc (cT u L R) 1000000000) R.length L.length).1 j)) R.length ≤ R.length := cN_le _
      omega
    generalize mst u L R = n at *
    refine ACall.drop (Ren.of_g0 rfl) ?_
    refine ACall.start Try.func15 rfl rfl ?_
    (repeat (first | (with_reducible refine AWo.cons ?_) | ((with_reducible refine Step.id ?_); first | ((with_reducible apply Step.assign); exact rfl; exact rfl) | ((with_reducible apply Step.box 0); exact rfl; exact rfl; (focus (kernel_rfl)); exact rfl; (focus (first | (simp only [List.nil_append, List.cons_append, List.set_cons_zero, List.set_cons_succ, iv_set, bv_set, iv_rep, bv_rep]; done) | (simp only [List.nil_append, List.cons_append, List.set_cons_zero, List.set_cons_succ, iv_set, bv_set, iv_rep, bv_rep]; rfl) | rfl)))) | (with_reducible refine AWo.nil ?_) | ((fail_if_success (with_reducible refine AW.atR (id := 1) ?_)); ((with_reducible apply AW.seq))) | ((with_reducible apply Then.n)) | ((with_reducible apply AW.regL))))
    refine AW.joinS [(0, lv), (1, rv), (5, .pointer (some ⟨m.length + 0, 0, none⟩)), (7, .int .i64 (n : Nat)), (8, .int .i64 0)] (m ++ [some { cells := u.cells }, gb (glC L) 4, gb (glC R) 4]) ?_ ?_
    · (repeat' (first | ((with_reducible refine Step.id ?_); first | ((with_reducible apply Step.move); exact rfl; exact rfl) | ((with_reducible apply Step.assign); exact rfl; exact rfl) | ((with_reducible apply Step.loadL (n := 8)); exact rfl; (focus (decide +kernel)); (focus (decide +kernel)); exact rfl; (focus (exact RdL.new rfl rfl)); exact rfl; exact rfl) | ((with_reducible apply Step.extract); exact rfl; exact rfl; exact rfl) | ((with_reducible apply Step.callG fit (k := 1)); exact rfl; exact rfl; exact Try.func21; exact rfl; exact rfl; exact (c1 _); (focus (first | (simp only [List.nil_append, List.cons_append, List.set_cons_zero, List.set_cons_succ, iv_set, bv_set, iv_rep, bv_rep]; done) | (simp only [List.nil_append, List.cons_append, List.set_cons_zero, List.set_cons_succ, iv_set, bv_set, iv_rep, bv_rep]; rfl) | rfl))) | ((with_reducible apply Step.callG fit (k := 2)); exact rfl; exact rfl; exact Try.func21; exact rfl; exact rfl; exact (c2 _); (focus (first | (simp only [List.nil_append, List.cons_append, List.set_cons_zero, List.set_cons_succ, iv_set, bv_set, iv_rep, bv_rep]; done) | (simp only [List.nil_append, List.cons_append, List.set_cons_zero, List.set_cons_succ, iv_set, bv_set, iv_rep, bv_rep]; rfl) | rfl))) | ((with_reducible apply Step.callR fit); exact rfl; exact Try.func22; exact rfl; exact rfl; exact (c3 _)) | ((with_reducible apply Step.callR fit); exact rfl; exact Try.func32; exact rfl; exact rfl; exact (w1))) | ((with_reducible apply Then.n)) | ((with_reducible apply AW.drawT fit (T := (.step 0 (.step 2 (.both (.step 1 (.both (.step 3 (.step 4 (.step 5 (.step 6 (.step 7 (.step 8 (.step 9 (.step 10 (.step 11 .done))))))))) (.step 4 (.step 3 (.step 5 (.step 6 (.step 7 (.step 8 (.step 9 (.step 10 (.step 11 .done))))))))))) (.step 4 (.step 1 (.step 3 (.step 5 (.step 6 (.step 7 (.step 8 (.step 9 (.step 10 (.step 11 .done))))))))))))))); (focus (decide +kernel))) | ((with_reducible apply AWt.step); exact rfl) | ((with_reducible apply AWt.done)) | refine AWt.both ?_ ?_))
      all_goals exact ⟨rfl, (by repeat (first | exact trivial | (refine And.intro rfl ?_)))⟩
    (repeat (first | (with_reducible refine AWo.cons ?_) | ((with_reducible refine Step.id ?_); first | ((with_reducible apply Step.move); exact rfl; exact rfl) | ((with_reducible apply Step.assign); exact rfl; exact rfl) | ((with_reducible apply Step.loadL (n := 8)); exact rfl; (focus (decide +kernel)); (focus (decide +kernel)); exact rfl; (focus (exact RdL.new rfl rfl)); exact rfl; exact rfl) | ((with_reducible apply Step.extract); exact rfl; exact rfl; exact rfl) | ((with_reducible apply Step.callR fit); exact rfl; exact Try.func46; exact rfl; exact rfl; exact (w2 _))) | (with_reducible refine AWo.nil ?_) | ((fail_if_success (with_reducible refine AW.atR (id := 3) ?_)); ((with_reducible apply AW.seq))) | ((with_reducible apply Then.n)) | ((with_reducible apply AW.regL))))
    refine AW.seq ?_
    refine AW.join (fun t M1 => ∃ (N : AM) (va vb : Value) (s : RS), M1 = m ++ N ∧ s = kR (okc (cT u L R) 1000000000) (kM (okc (cT u L R) 1000000000) R.length L.length).1 L.length R.length L.length ∧ Ints M1 va (selL (fun i => !s.1 i) L.length) ∧ Ints M1 vb (selL s.2 R.length) ∧ RdL M1 (m.length + 0) 0 u.cells ∧
      All (fun i v => t i = some v) [(0, lv), (1, rv), (5, .pointer (some ⟨m.length + 0, 0, none⟩)), (7, .int .i64 (n : Nat)), (8, .int .i64 0), (9, .int .i64 (n : Nat)), (10, .int .i64 0), (11, va), (12, vb), (13, .int .i64 0)]) ?_ ?_
    · (repeat' (first | ((with_reducible refine Step.id ?_); first | ((with_reducible apply Step.move); exact rfl; exact rfl) | ((with_reducible apply Step.loadL (n := 8)); exact rfl; (focus (decide +kernel)); (focus (decide +kernel)); exact rfl; (focus (exact RdL.new rfl rfl)); exact rfl; exact rfl) | ((with_reducible apply Step.callG fit (k := 3)); exact rfl; exact rfl; exact Try.func21; exact rfl; exact rfl; exact (c1 _); (focus (first | (simp only [List.nil_append, List.cons_append, List.set_cons_zero, List.set_cons_succ, iv_set, bv_set, iv_rep, bv_rep]; done) | (simp only [List.nil_append, List.cons_append, List.set_cons_zero, List.set_cons_succ, iv_set, bv_set, iv_rep, bv_rep]; rfl) | rfl))) | ((with_reducible apply Step.callG fit (k := 4)); exact rfl; exact rfl; exact Try.func21; exact rfl; exact rfl; exact (c2 _); (focus (first | (simp only [List.nil_append, List.cons_append, List.set_cons_zero, List.set_cons_succ, iv_set, bv_set, iv_rep, bv_rep]; done) | (simp only [List.nil_append, List.cons_append, List.set_cons_zero, List.set_cons_succ, iv_set, bv_set, iv_rep, bv_rep]; rfl) | rfl))) | ((with_reducible apply Step.callR fit); exact rfl; exact Try.func22; exact rfl; exact rfl; exact (c3 _))) | ((with_reducible apply AW.drawT fit (T := (.step 0 (.step 2 (.both (.step 1 (.both (.step 3 (.step 4 (.step 5 (.step 6 (.step 7 (.step 8 (.step 9 (.step 10 (.step 11 (.step 12 (.step 13 .done))))))))))) (.step 4 (.step 3 (.step 5 (.step 6 (.step 7 (.step 8 (.step 9 (.step 10 (.step 11 (.step 12 (.step 13 .done))))))))))))) (.step 4 (.step 1 (.step 3 (.step 5 (.step 6 (.step 7 (.step 8 (.step 9 (.step 10 (.step 11 (.step 12 (.step 13 .done))))))))))))))))); (focus (decide +kernel))) | ((with_reducible apply AWt.step); exact rfl) | refine AWt.both ?_ ?_))
      all_goals ((with_reducible apply Step.callX fit); exact rfl; exact Try.func47; exact rfl; exact rfl; exact w3)
      all_goals rintro v M1 ⟨N, hN⟩ ⟨va, vb, s, rfl, hs, hA, hB⟩
      all_goals (repeat' (first | ((with_reducible refine Step.id ?_); first | ((with_reducible apply Step.move); exact rfl; exact rfl) | ((with_reducible apply Step.assign); exact rfl; exact rfl) | ((with_reducible apply Step.extract); exact rfl; exact rfl; exact rfl)) | ((with_reducible apply Then.n)) | ((with_reducible apply AWt.step); exact rfl) | ((with_reducible apply AWt.done))))
      all_goals exact ⟨_, va, vb, s, by rw [hN, List.append_nil, List.append_assoc], hs, by rw [List.append_nil]; exact hA, by rw [List.append_nil]; exact hB, by rw [hN, List.append_nil]; exact (r0 _).old N, (by repeat (first | exact trivial | (refine And.intro rfl ?_)))⟩
    rintro t M1 ⟨N, va, vb, s, rfl, hs, hA, hB, hR, hall⟩
    refine AW.weak (fr_all hall) ?_
    clear hall w1 w2 w3 c1 c2 c3 gl gr gl3 gr4
    refine AW.rebase ?_
    have hsz := hsize s hs
    have hc := hcov s hs
    have hl' := hl.old N
    have hr' := hr.old N
    clear hsize hcov hinv hrinv hs
    generalize hMM : m ++ N = MM at *
    have w4 := fun T => RCovers_ok (hl'.old T) (hr'.old T) hok (hA.old T) (hB.old T) (selL_pw _ _) (selL_pw _ _) (fun x hx => List.mem_range.1 (List.mem_filter.1 hx).1) (fun x hx => List.mem_range.1 (List.mem_filter.1 hx).1) hc
    obtain ⟨_, _, s1, _⟩ := id hA
    obtain ⟨_, _, s2, _⟩ := id hB
    rw [selL_len] at s1 s2
    (repeat (first | (with_reducible refine AWo.cons ?_) | ((with_reducible refine Step.id ?_); first | ((with_reducible apply Step.gdT); exact rfl; exact rfl; (focus (first | rfl | (simp only [decide_eq_true_eq, decide_eq_false_iff_not, Bool.not_eq_true', Bool.not_eq_false', Bool.not_true, Bool.not_false]; first | assumption | omega) | (simp; done)))) | ((with_reducible apply Step.move); exact rfl; exact rfl) | ((with_reducible apply Step.assign); exact rfl; exact rfl) | ((with_reducible apply Step.loadL (n := 8)); exact rfl; (focus (decide +kernel)); (focus (decide +kernel)); exact rfl; (focus (exact RdL.old _ (by assumption))); exact rfl; exact rfl) | ((with_reducible apply Step.add); exact rfl; exact rfl; (focus (omega)); exact rfl) | ((with_reducible apply Step.eql); exact rfl; exact rfl; exact rfl) | ((with_reducible apply Step.neq); exact rfl; exact rfl; exact rfl) | ((with_reducible apply Step.len); exact rfl; (focus (assumption)); (focus (decide +kernel)); exact rfl) | ((with_reducible apply Step.not); exact rfl; exact rfl) | ((with_reducible apply Step.pickT); exact rfl; exact rfl; exact rfl; exact rfl; (focus ((simp only [decide_eq_true_eq, decide_eq_false_iff_not, Bool.not_eq_true', Bool.not_eq_false', Bool.not_true, Bool.not_false]; first | assumption | omega)))) | ((with_reducible apply Step.pickF); exact rfl; exact rfl; exact rfl; exact rfl; (focus (first | rfl | (simp; done)))) | ((with_reducible apply Step.callR fit); exact rfl; exact Try.func25; exact rfl; exact rfl; exact (awake_ok)) | ((with_reducible apply Step.callR fit); exact rfl; exact Try.func48; exact rfl; exact rfl; exact (w4 _))) | (with_reducible refine AWo.nil ?_) | ((with_reducible apply AW.seq)) | ((with_reducible apply Then.n)) | ((with_reducible apply AW.regL)) | ((with_reducible apply AW.skip)) | ((with_reducible apply AW.condF); exact rfl; (focus (rfl)))))
    (refine AW.ret ?_; (repeat (first | refine Then.r ?_ | refine InBlk.r ?_)))
    subst hMM
    exact ⟨_, by simp; rfl, rfl, _, by rw [List.append_assoc]⟩
end Go.Proofs.Ytajpngnphbdnnaa.Abs
namespace Go.Proofs.Ytajpngnphbdnnaa.Abs
set_option linter.unusedSimpArgs false
set_option linter.unusedVariables false
open Go.RowKit
open Go.Proofs.Ytajpngnphbdnnaa.Sim
open Go.Proofs
theorem gls_args {F : Nat → List Int} (hF : ∀ k, (F k).length = 4) (n : Nat) : ∃ l : List Gl, l.length = n ∧ ∀ {M : AM} {v : Value} {i : Nat}, (Sl v i 0 n ∧ i < M.length ∧ ∀ k, k < n → RdL M i (0 + k * 4) (iv (F k))) → Gls M v l := by
  obtain ⟨g, hg⟩ := Classical.axiomOfChoice fun k => gl_of (hF k)
  refine ⟨(List.range n).map g, by simp, fun {M v i} h => ⟨i, 0, by simpa using h.1, h.2.1, fun k hk => ?_⟩⟩
  have hk' : k < n := by simpa using hk
  have := h.2.2 k hk'
  rw [hg k] at this
  have e : ((List.range n).map g).getD k default = g k := by simp [hk']
  rw [e]
  exact this
end Go.Proofs.Ytajpngnphbdnnaa.Abs
