/- Proved here: what the proof of PairSettled rests on, part 3 of 5. Conditions: those that each theorem names. -/
import Derived.Test.YtajpngnphbdnnaaPairSettledK2
namespace Go.Proofs.Ytajpngnphbdnnaa.Abs
set_option linter.unusedSimpArgs false
set_option linter.unusedVariables false
open Go.RowKit
open Go.Proofs.Ytajpngnphbdnnaa.Sim
open Go.Proofs
theorem bl82 {l r : Int} : abuild Try.prog 82 [(1, .int .i64 l), (2, .int .i64 r)] = some (.agg #[.slice none 0 0, .int .i64 l, .int .i64 r]) := by kernel_rfl
theorem el80 : elemB Try.prog 80 = some (27, 1, 24, #[.slice none 0 0]) := by kernel_rfl
theorem bs80 {m : AM} {k n c : Nat} {q : Option Addr} : abuildSlice Try.prog m k 80 1 [(0, .slice q n c)] = some (.slice (some ⟨k, 0, none⟩) 1 1, m.set k (some { cells := [.slice q n c] })) := by kernel_rfl
/-- A slice that grew one by one. -/
def Spn (M : AM) (n0 : Nat) (cv : Value) (ws : List Value) : Prop := (ws = [] ∧ cv = .slice none 0 0) ∨ (0 < ws.length ∧ ∃ s, n0 ≤ s ∧ cv = .slice (some ⟨s, 0, none⟩) ws.length ws.length ∧ M[s]? = some (some { cells := ws, kind := .grow, size := 1 }))
/-- The rows that it names. -/
def Rws (M : AM) (n0 a : Nat) (ws : List Value) (c : Nat → Nat → Int) (r : Nat) : Prop := ∀ i, i < ws.length → ∃ b, n0 ≤ b ∧ b ≠ a ∧ ws[i]? = some (.slice (some ⟨b, 0, none⟩) r r) ∧ M[b]? = some (some { cells := iv (tab (c i) r) })
theorem pre_set {m N : AM} {p : Nat} {x : Option Blk} (h : m.length ≤ p) : ∃ N', (m ++ N).set p x = m ++ N' := ⟨N.set (p - m.length) x, List.set_append_right _ _ h⟩
theorem RdL.set {M : AM} {a i o : Nat} {c : List Value} {x : Option Blk} (h : RdL M i o c) (hn : i ≠ a) : RdL (M.set a x) i o c := by
  obtain ⟨b, h1, h2⟩ := h
  exact ⟨b, by rw [List.getElem?_set_ne (Ne.symm hn)]; exact h1, h2⟩
theorem Spn.grow {M : AM} {n0 a : Nat} {cv : Value} {ws : List Value} {c : Nat → Nat → Int} {r : Nat} (h : Spn M n0 cv ws) (hr : Rws M n0 a ws c r) {b : Nat} (hb : n0 ≤ b) (hba : b ≠ a) (hrow : M[b]? = some (some { cells := iv (tab (c ws.length) r) })) (h0 : n0 ≤ M.length) :
    (ws = [] → Spn (M ++ [some { cells := [.slice (some ⟨b, 0, none⟩) r r], kind := .grow, size := 1 }]) n0 (.slice (some ⟨M.length, 0, none⟩) 1 1) [.slice (some ⟨b, 0, none⟩) r r] ∧ Rws (M ++ [some { cells := [.slice (some ⟨b, 0, none⟩) r r], kind := .grow, size := 1 }]) n0 a [.slice (some ⟨b, 0, none⟩) r r] c r) ∧
    (∀ s, cv = .slice (some ⟨s, 0, none⟩) ws.length ws.length → M[s]? = some (some { cells := ws, kind := .grow, size := 1 }) →
      Spn (M.set s none ++ [some { cells := ws ++ [.slice (some ⟨b, 0, none⟩) r r], kind := .grow, size := 1 }]) n0 (.slice (some ⟨M.length, 0, none⟩) (ws.length + 1) (ws.length + 1)) (ws ++ [.slice (some ⟨b, 0, none⟩) r r]) ∧
      Rws (M.set s none ++ [some { cells := ws ++ [.slice (some ⟨b, 0, none⟩) r r], kind := .grow, size := 1 }]) n0 a (ws ++ [.slice (some ⟨b, 0, none⟩) r r]) c r) := by
  constructor
  · rintro rfl
    refine ⟨.inr ⟨by simp, M.length, h0, rfl, by simp⟩, fun i hi => ?_⟩
    obtain rfl : i = 0 := by simp at hi; omega
    exact ⟨b, hb, hba, rfl, get_old _ hrow⟩
  · intro s hcv hs
    refine ⟨.inr ⟨by simp, M.length, h0, by simp, by rw [List.getElem?_append_right (by simp)]; simp⟩, fun i hi => ?_⟩
    have key : ∀ q (row : List Int), M[q]? = some (some ({ cells := iv row } : Blk)) → (M.set s none ++ [some ({ cells := ws ++ [.slice (some ⟨b, 0, none⟩) r r], kind := .grow, size := 1 } : Blk)])[q]? = some (some ({ cells := iv row } : Blk)) := fun q row hq => by
      refine get_old _ ?_
      rw [List.getElem?_set_ne]
      · exact hq
      · intro e
        rw [← e, hs] at hq
        injection hq with hq; injection hq with hq; injection hq with _ hk; cases hk
    simp only [List.length_append, List.length_singleton] at hi
    by_cases e : i < ws.length
    · obtain ⟨q, h1, h2, h3, h4⟩ := hr i e
      exact ⟨q, h1, h2, by rw [List.getElem?_append_left e]; exact h3, key q _ h4⟩
    · obtain rfl : i = ws.length := by omega
      exact ⟨b, hb, hba, by simp, key b _ hrow⟩
theorem Spn.old {M : AM} {n0 : Nat} {cv : Value} {ws : List Value} (L : AM) (h : Spn M n0 cv ws) : Spn (M ++ L) n0 cv ws := by
  rcases h with h | ⟨h1, s, h2, h3, h4⟩
  · exact .inl h
  · exact .inr ⟨h1, s, h2, h3, get_old L h4⟩
theorem Rws.old {M : AM} {n0 a : Nat} {ws : List Value} {c : Nat → Nat → Int} {r : Nat} (L : AM) (h : Rws M n0 a ws c r) : Rws (M ++ L) n0 a ws c r := fun i hi => by
  obtain ⟨b, h1, h2, h3, h4⟩ := h i hi
  exact ⟨b, h1, h2, h3, get_old L h4⟩
theorem Spn.set {M : AM} {n0 a : Nat} {cv : Value} {ws : List Value} {x : Option Blk} (h : Spn M n0 cv ws) (ha : ∀ s, cv = .slice (some ⟨s, 0, none⟩) ws.length ws.length → s ≠ a) : Spn (M.set a x) n0 cv ws := by
  rcases h with h | ⟨h1, s, h2, h3, h4⟩
  · exact .inl h
  · exact .inr ⟨h1, s, h2, h3, by rw [List.getElem?_set_ne (Ne.symm (ha s h3))]; exact h4⟩
theorem Rws.set {M : AM} {n0 a : Nat} {ws : List Value} {c : Nat → Nat → Int} {r : Nat} {x : Option Blk} (h : Rws M n0 a ws c r) : Rws (M.set a x) n0 a ws c r := fun i hi => by
  obtain ⟨b, h1, h2, h3, h4⟩ := h i hi
  exact ⟨b, h1, h2, h3, by rw [List.getElem?_set_ne (Ne.symm h2)]; exact h4⟩
/-- The costs of two sides. -/
def cT (u : Ru) (L R : List Gl) (i j : Nat) : Int := if i < L.length ∧ j < R.length then costF u (L.getD i default) (R.getD j default) else -1
theorem all_getD {L : List Gl} (h : L.all gB = true) {i : Nat} (hi : i < L.length) : gB (L.getD i default) = true := by
  have := List.all_eq_true.1 h (L.getD i default) (by rw [List.getD_eq_getElem?_getD, List.getElem?_eq_getElem hi]; exact List.getElem_mem hi)
  exact this
theorem cT_cs {u : Ru} {L R : List Gl} (hu : uB u = true) (hL : sB L = true) (hR : sB R = true) : Cs (cT u L R) := fun i j => by
  simp only [sB, uB, Bool.and_eq_true] at hu hL hR
  unfold cT
  split
  · rename_i h
    exact costF_bd hu.1 (all_getD hL.2 h.1) (all_getD hR.2 h.2)
  · omega
set_option maxRecDepth 100000 in
theorem costs_no {m : AM} {lv rv : Value} {u : Ru} {L R : List Gl} (hl : Gls m lv L) (hr : Gls m rv R) (h1 : L.length ≤ 100000) (h2 : R.length ≤ 100000) (hn : (sB L && sB R && uB u) = false) : ACall Try.prog 54 #[lv, rv, u.v] m (Ret (.pointer none) m) := by
  have c1 := fun T => side_ok (hl.old T) h1 rfl
  have c2 := fun T => side_ok (hr.old T) h2 rfl
  have c3 := fun T => uright_ok (m := m ++ T) u rfl
  have r0 : ∀ T : AM, RdL (m ++ (some { cells := u.cells } :: T)) (m.length + 0) 0 u.cells := fun T => RdL.new rfl rfl
  refine ACall.start Try.func54 rfl rfl ?_
  cases e1 : sB L with
  | false =>
    rw [e1] at c1
    (repeat (first | (with_reducible refine AWo.cons ?_) | ((with_reducible refine Step.id ?_); first | ((with_reducible apply Step.gdF); exact rfl; exact rfl; (focus (rfl))) | ((with_reducible apply Step.move); exact rfl; exact rfl) | ((with_reducible apply Step.assign); exact rfl; exact rfl) | ((with_reducible apply Step.not); exact rfl; exact rfl) | ((with_reducible apply Step.pickT); exact rfl; exact rfl; exact rfl; exact rfl; (focus (rfl))) | ((with_reducible apply Step.callR fit); exact rfl; exact Try.func87; exact rfl; exact rfl; exact (c1 _)) | ((with_reducible apply Step.box 0); exact rfl; exact rfl; (focus (kernel_rfl)); exact rfl; (focus (first | (simp only [List.nil_append, List.cons_append, List.set_cons_zero, List.set_cons_succ, iv_set, bv_set, iv_rep, bv_rep]; done) | (simp only [List.nil_append, List.cons_append, List.set_cons_zero, List.set_cons_succ, iv_set, bv_set, iv_rep, bv_rep]; rfl) | rfl)))) | (with_reducible refine AWo.nil ?_) | ((with_reducible apply AW.seq)) | ((with_reducible apply Then.n)) | ((with_reducible apply AW.regL)) | ((with_reducible apply AW.condT); exact rfl; (focus (rfl)))))
    (refine AW.retD (l := [(6, _)]) (by repeat (first | exact trivial | (refine And.intro ⟨rfl, by (exact Ren.of_g0 rfl)⟩ ?_))) ?_; (repeat (first | refine Then.r ?_ | refine InBlk.r ?_)))
    exact ⟨_, rfl, rfl, rfl⟩
  | true =>
    rw [e1] at c1 hn
    cases e2 : sB R with
    | false =>
      rw [e2] at c2
      (repeat (first | (with_reducible refine AWo.cons ?_) | ((with_reducible refine Step.id ?_); first | ((with_reducible apply Step.gdT); exact rfl; exact rfl; (focus (rfl))) | ((with_reducible apply Step.gdF); exact rfl; exact rfl; (focus (rfl))) | ((with_reducible apply Step.move); exact rfl; exact rfl) | ((with_reducible apply Step.assign); exact rfl; exact rfl) | ((with_reducible apply Step.not); exact rfl; exact rfl) | ((with_reducible apply Step.pickT); exact rfl; exact rfl; exact rfl; exact rfl; (focus (rfl))) | ((with_reducible apply Step.pickF); exact rfl; exact rfl; exact rfl; exact rfl; (focus (rfl))) | ((with_reducible apply Step.callR fit); exact rfl; exact Try.func87; exact rfl; exact rfl; exact (c1 _)) | ((with_reducible apply Step.callR fit); exact rfl; exact Try.func87; exact rfl; exact rfl; exact (c2 _)) | ((with_reducible apply Step.box 0); exact rfl; exact rfl; (focus (kernel_rfl)); exact rfl; (focus (first | (simp only [List.nil_append, List.cons_append, List.set_cons_zero, List.set_cons_succ, iv_set, bv_set, iv_rep, bv_rep]; done) | (simp only [List.nil_append, List.cons_append, List.set_cons_zero, List.set_cons_succ, iv_set, bv_set, iv_rep, bv_rep]; rfl) | rfl)))) | (with_reducible refine AWo.nil ?_) | ((with_reducible apply AW.seq)) | ((with_reducible apply Then.n)) | ((with_reducible apply AW.regL)) | ((with_reducible apply AW.condT); exact rfl; (focus (rfl)))))
      (refine AW.retD (l := [(6, _)]) (by repeat (first | exact trivial | (refine And.intro ⟨rfl, by (exact Ren.of_g0 rfl)⟩ ?_))) ?_; (repeat (first | refine Then.r ?_ | refine InBlk.r ?_)))
      exact ⟨_, rfl, rfl, rfl⟩
    | true =>
      rw [e2] at c2 hn
      have e3 : uB u = false := by simpa using hn
      rw [e3] at c3
      (repeat (first | (with_reducible refine AWo.cons ?_) | ((with_reducible refine Step.id ?_); first | ((with_reducible apply Step.gdT); exact rfl; exact rfl; (focus (rfl))) | ((with_reducible apply Step.move); exact rfl; exact rfl) | ((with_reducible apply Step.assign); exact rfl; exact rfl) | ((with_reducible apply Step.loadL (n := 8)); exact rfl; (focus (decide +kernel)); (focus (decide +kernel)); exact rfl; (focus (exact RdL.new rfl rfl)); exact rfl; exact rfl) | ((with_reducible apply Step.not); exact rfl; exact rfl) | ((with_reducible apply Step.pickF); exact rfl; exact rfl; exact rfl; exact rfl; (focus (rfl))) | ((with_reducible apply Step.callR fit); exact rfl; exact Try.func87; exact rfl; exact rfl; exact (c1 _)) | ((with_reducible apply Step.callR fit); exact rfl; exact Try.func87; exact rfl; exact rfl; exact (c2 _)) | ((with_reducible apply Step.callR fit); exact rfl; exact Try.func65; exact rfl; exact rfl; exact (c3 _)) | ((with_reducible apply Step.box 0); exact rfl; exact rfl; (focus (kernel_rfl)); exact rfl; (focus (first | (simp only [List.nil_append, List.cons_append, List.set_cons_zero, List.set_cons_succ, iv_set, bv_set, iv_rep, bv_rep]; done) | (simp only [List.nil_append, List.cons_append, List.set_cons_zero, List.set_cons_succ, iv_set, bv_set, iv_rep, bv_rep]; rfl) | rfl)))) | (with_reducible refine AWo.nil ?_) | ((with_reducible apply AW.seq)) | ((with_reducible apply Then.n)) | ((with_reducible apply AW.regL)) | ((with_reducible apply AW.condT); exact rfl; (focus (rfl)))))
      (refine AW.retD (l := [(6, _)]) (by repeat (first | exact trivial | (refine And.intro ⟨rfl, by (exact Ren.of_g0 rfl)⟩ ?_))) ?_; (repeat (first | refine Then.r ?_ | refine InBlk.r ?_)))
      exact ⟨_, rfl, rfl, rfl⟩
set_option maxHeartbeats 4000000 in
set_option maxRecDepth 100000 in
theorem costs_ok {m : AM} {lv rv : Value} {u : Ru} {L R : List Gl} (hl : Gls m lv L) (hr : Gls m rv R) (hL : sB L = true) (hR : sB R = true) (hu : uB u = true) : ACall Try.prog 54 #[lv, rv, u.v] m (More (fun M v => Tab M v (cT u L R) L.length R.length) m) := by
  have h1 : L.length ≤ 32 ∧ L.all gB = true := by simpa [sB] using hL
  have h2 : R.length ≤ 32 ∧ R.all gB = true := by simpa [sB] using hR
  have h3 : gB u.w = true ∧ gB u.l = true := by simpa [uB] using hu
  have c1 := fun T => side_ok (hl.old T) (by omega) hL
  have c2 := fun T => side_ok (hr.old T) (by omega) hR
  have c3 := fun T => uright_ok (m := m ++ T) u hu
  have r0 : ∀ T : AM, RdL (m ++ (some { cells := u.cells } :: T)) (m.length + 0) 0 u.cells := fun T => RdL.new rfl rfl
  obtain ⟨la, lo, l1, l2, l3⟩ := id hl
  obtain ⟨ra, ro, r1, r2, r3⟩ := id hr
  refine ACall.start Try.func54 rfl rfl ?_
  (repeat (first | (with_reducible refine AWo.cons ?_) | ((with_reducible refine Step.id ?_); first | ((with_reducible apply Step.gdT); exact rfl; exact rfl; (focus (rfl))) | ((with_reducible apply Step.move); exact rfl; exact rfl) | ((with_reducible apply Step.assign); exact rfl; exact rfl) | ((with_reducible apply Step.loadL (n := 8)); exact rfl; (focus (decide +kernel)); (focus (decide +kernel)); exact rfl; (focus (exact RdL.new rfl rfl)); exact rfl; exact rfl) | ((with_reducible apply Step.len); exact rfl; (focus (assumption)); (focus (decide +kernel)); exact rfl) | ((with_reducible apply Step.not); exact rfl; exact rfl) | ((with_reducible apply Step.pickF); exact rfl; exact rfl; exact rfl; exact rfl; (focus (rfl))) | ((with_reducible apply Step.callR fit); exact rfl; exact Try.func87; exact rfl; exact rfl; exact (c1 _)) | ((with_reducible apply Step.callR fit); exact rfl; exact Try.func87; exact rfl; exact rfl; exact (c2 _)) | ((with_reducible apply Step.callR fit); exact rfl; exact Try.func65; exact rfl; exact rfl; exact (c3 _)) | ((with_reducible apply Step.box 0); exact rfl; exact rfl; (focus (kernel_rfl)); exact rfl; (focus (first | (simp only [List.nil_append, List.cons_append, List.set_cons_zero, List.set_cons_succ, iv_set, bv_set, iv_rep, bv_rep]; done) | (simp only [List.nil_append, List.cons_append, List.set_cons_zero, List.set_cons_succ, iv_set, bv_set, iv_rep, bv_rep]; rfl) | rfl))) | ((with_reducible apply Step.box 1); exact rfl; exact rfl; (focus (kernel_rfl)); exact rfl; (focus (first | (simp only [List.nil_append, List.cons_append, List.set_cons_zero, List.set_cons_succ, iv_set, bv_set, iv_rep, bv_rep]; done) | (simp only [List.nil_append, List.cons_append, List.set_cons_zero, List.set_cons_succ, iv_set, bv_set, iv_rep, bv_rep]; rfl) | rfl))) | ((with_reducible apply Step.build); exact rfl; exact bl82; exact rfl)) | (with_reducible refine AWo.nil ?_) | ((with_reducible apply AW.seq)) | ((with_reducible apply Then.n)) | ((with_reducible apply AW.regL)) | ((with_reducible apply AW.block)) | ((with_reducible apply AW.skip)) | ((with_reducible apply AW.condF); exact rfl; (focus (rfl)))))
  clear c1 c2 c3
  refine AW.loopW (fun rk t M => ∃ (k : Nat) (N : AM) (cv : Value) (ws : List Value), rk = L.length - k ∧ k ≤ L.length ∧ M = m ++ N ∧ RdL M (m.length + 0) 0 u.cells ∧ M[m.length + 1]? = some (some { cells := [cv, .int .i64 (L.length : Nat), .int .i64 (R.length : Nat)] }) ∧
    Spn M (m.length + 2) cv ws ∧ ws.length = k ∧ Rws M (m.length + 2) (m.length + 1) ws (cT u L R) R.length ∧
    t = fr [(1, rv), (5, .pointer (some ⟨m.length + 0, 0, none⟩)), (7, .pointer (some ⟨m.length + 1, 0, none⟩)), (32, lv), (33, .int .i64 (L.length : Nat)), (34, .int .i64 (k : Nat))])
    ⟨_, _, (by repeat (first | exact trivial | (refine And.intro rfl ?_))), 0, _, _, [], rfl, Nat.zero_le _, rfl, r0 _, by rw [get_app]; rfl, .inl ⟨rfl, rfl⟩, rfl, fun i hi => by simp at hi, rfl⟩ ?_
  rintro rk t M ⟨k, N, cv, ws, rfl, hk, hM, rU, hT, hsp, hws, hrw, rfl⟩
  rcases Nat.lt_or_ge k L.length with hlt | hge
  · have hxv := all_getD h1.2 hlt
    have hML0 : m.length + 2 ≤ M.length := by have := (List.getElem?_eq_some_iff.1 hT).1; omega
    have w5 : Low M.length (.pointer (some ⟨m.length + 0, 0, none⟩)) := .ptr (by omega)
    have w7 : Low M.length (.pointer (some ⟨m.length + 1, 0, none⟩)) := .ptr (by omega)
    have wl : Low M.length lv := Low.of_sl l1 (by rw [hM]; simp; omega)
    have wr : Low M.length rv := Low.of_sl r1 (by rw [hM]; simp; omega)
    have hg0 : ∀ v ∈ (L.getD k default).cells, g0 v = true := fun v hv => g0_iv [_, _, _, _] v hv
    have rx : ∀ T, RdL (M ++ T) la (lo + k * 4) (L.getD k default).cells := fun T => by rw [hM]; exact ((l3 k hlt).old N).old T
    have ry : ∀ j, j < R.length → ∀ T, RdL (M ++ T) ra (ro + j * 4) (R.getD j default).cells := fun j hj T => by rw [hM]; exact ((r3 j hj).old N).old T
    refine AW.rebase ?_
    (repeat (first | (with_reducible refine AWo.cons ?_) | ((with_reducible refine Step.id ?_); first | ((with_reducible apply Step.move); exact rfl; exact rfl) | ((with_reducible apply Step.assign); exact rfl; exact rfl) | ((with_reducible apply Step.loadL (n := 4)); exact rfl; (focus (decide +kernel)); (focus (decide +kernel)); exact rfl; (focus (exact rx _)); exact rfl; exact rfl) | ((with_reducible apply Step.ix (s := 4)); exact rfl; (focus (assumption)); exact rfl; (focus (decide +kernel)); exact rfl; (focus (omega))) | ((with_reducible apply Step.lss); exact rfl; exact rfl; exact rfl) | ((with_reducible apply Step.len); exact rfl; (focus (assumption)); (focus (decide +kernel)); exact rfl) | ((with_reducible apply Step.alloc 0); exact rfl; exact ze33; exact rfl; (focus (first | (simp only [List.nil_append, List.cons_append, List.set_cons_zero, List.set_cons_succ, iv_set, bv_set, iv_rep, bv_rep]; done) | (simp only [List.nil_append, List.cons_append, List.set_cons_zero, List.set_cons_succ, iv_set, bv_set, iv_rep, bv_rep]; rfl) | rfl))) | ((with_reducible apply Step.storeA (k := 0) (n := 4)); exact rfl; exact rfl; exact rfl; exact rfl; (focus (decide +kernel)); exact rfl; (focus (kernel_rfl)); exact rfl; (focus (first | (simp only [List.nil_append, List.cons_append, List.set_cons_zero, List.set_cons_succ, iv_set, bv_set, iv_rep, bv_rep]; done) | (simp only [List.nil_append, List.cons_append, List.set_cons_zero, List.set_cons_succ, iv_set, bv_set, iv_rep, bv_rep]; rfl) | rfl))) | ((with_reducible apply Step.make1 1); exact rfl; exact rfl; exact rfl; exact el27; (focus (omega)); exact rfl; (focus (first | (simp only [List.nil_append, List.cons_append, List.set_cons_zero, List.set_cons_succ, iv_set, bv_set, iv_rep, bv_rep]; done) | (simp only [List.nil_append, List.cons_append, List.set_cons_zero, List.set_cons_succ, iv_set, bv_set, iv_rep, bv_rep]; rfl) | rfl)))) | (with_reducible refine AWo.nil ?_) | ((with_reducible apply AW.seq)) | ((with_reducible apply Then.n)) | ((with_reducible apply AW.regL)) | ((with_reducible apply AW.block)) | ((with_reducible apply AW.skip)) | ((with_reducible apply AW.condT); exact rfl; (focus ((simp only [decide_eq_true_eq, decide_eq_false_iff_not, Bool.not_eq_true', Bool.not_eq_false', Bool.not_true, Bool.not_false]; first | assumption | omega))))))
    refine AW.loopT (fun rk t L' => ∃ j : Nat, rk = R.length - j ∧ j ≤ R.length ∧ L' = [some { cells := (L.getD k default).cells }, some { cells := iv (tab (fun q => if q < j then cT u L R k q else 0) R.length) }] ∧
      t = [(1, rv), (5, .pointer (some ⟨m.length + 0, 0, none⟩)), (7, .pointer (some ⟨m.length + 1, 0, none⟩)), (32, lv), (33, .int .i64 (L.length : Nat)), (34, .int .i64 (k : Nat)), (9, .pointer (some ⟨M.length + 0, 0, none⟩)), (10, .slice (some ⟨M.length + 1, 0, none⟩) R.length R.length), (41, rv), (42, .int .i64 (R.length : Nat)), (43, .int .i64 (j : Nat))])
      ⟨_, _, _, (Or.inl ⟨rfl, (by repeat (first | exact trivial | (refine And.intro rfl ?_)))⟩), 0, rfl, Nat.zero_le _, by rw [tab_rep]; simp; rfl, rfl⟩ ?_
    rintro rk t L' ⟨j, rfl, hj, rfl, rfl⟩
    rcases Nat.lt_or_ge j R.length with hjl | hjg
    · have hyv := all_getD h2.2 hjl
      have hcst := fun T => cost_ok (m := M ++ T) u _ _ h3.1 h3.2 hxv hyv rfl
      have ecT : cT u L R k j = costF u (L.getD k default) (R.getD j default) := if_pos ⟨hlt, hjl⟩
      rw [← ecT] at hcst
      (repeat (first | (with_reducible refine AWo.cons ?_) | ((with_reducible refine Step.id ?_); first | ((with_reducible apply Step.move); exact rfl; exact rfl) | ((with_reducible apply Step.assign); exact rfl; exact rfl) | ((with_reducible apply Step.loadL (n := 4)); exact rfl; (focus (decide +kernel)); (focus (decide +kernel)); exact rfl; (focus (first | exact RdL.new rfl rfl | exact ry j hjl _)); exact rfl; exact rfl) | ((with_reducible apply Step.loadL (n := 8)); exact rfl; (focus (decide +kernel)); (focus (decide +kernel)); exact rfl; (focus (exact RdL.old _ (by assumption))); exact rfl; exact rfl) | ((with_reducible apply Step.ix1z); exact rfl; (focus (exact Sl.mk (by omega))); exact rfl; (focus (decide +kernel)); exact rfl; (focus (omega))) | ((with_reducible apply Step.ix (s := 4)); exact rfl; (focus (assumption)); exact rfl; (focus (decide +kernel)); exact rfl; (focus (omega))) | ((with_reducible apply Step.add); exact rfl; exact rfl; (focus (omega)); exact rfl) | ((with_reducible apply Step.lss); exact rfl; exact rfl; exact rfl) | ((with_reducible apply Step.callR fit); exact rfl; exact Try.func66; exact rfl; exact rfl; exact (hcst _)) | ((with_reducible apply Step.store (k := 1)); exact rfl; exact rfl; exact rfl; exact rfl; (focus (decide +kernel)); exact rfl; exact rfl; (focus (first | omega | (simp [iv, bv]; done) | (simp [iv, bv]; omega))); (focus (first | (simp only [List.nil_append, List.cons_append, List.set_cons_zero, List.set_cons_succ, iv_set, bv_set, iv_rep, bv_rep]; done) | (simp only [List.nil_append, List.cons_append, List.set_cons_zero, List.set_cons_succ, iv_set, bv_set, iv_rep, bv_rep]; rfl) | rfl))) | ((with_reducible apply Step.alloc 2); exact rfl; exact ze33; exact rfl; (focus (first | (simp only [List.nil_append, List.cons_append, List.set_cons_zero, List.set_cons_succ, iv_set, bv_set, iv_rep, bv_rep]; done) | (simp only [List.nil_append, List.cons_append, List.set_cons_zero, List.set_cons_succ, iv_set, bv_set, iv_rep, bv_rep]; rfl) | rfl))) | ((with_reducible apply Step.storeA (k := 2) (n := 4)); exact rfl; exact rfl; exact rfl; exact rfl; (focus (decide +kernel)); exact rfl; (focus (kernel_rfl)); exact rfl; (focus (first | (simp only [List.nil_append, List.cons_append, List.set_cons_zero, List.set_cons_succ, iv_set, bv_set, iv_rep, bv_rep]; done) | (simp only [List.nil_append, List.cons_append, List.set_cons_zero, List.set_cons_succ, iv_set, bv_set, iv_rep, bv_rep]; rfl) | rfl)))) | (with_reducible refine AWo.nil ?_) | ((with_reducible apply AW.seq)) | ((with_reducible apply Then.n)) | ((with_reducible apply AW.regL)) | ((with_reducible apply AW.block)) | ((with_reducible apply InBlk.n)) | ((with_reducible apply AW.skip)) | ((with_reducible apply AW.condT); exact rfl; (focus ((simp only [decide_eq_true_eq, decide_eq_false_iff_not, Bool.not_eq_true', Bool.not_eq_false', Bool.not_true, Bool.not_false]; first | assumption | omega))))))
      refine ⟨_, _, [some { cells := (L.getD k default).cells }, some { cells := iv (tab (Hung.up (fun q => if q < j then cT u L R k q else 0) j (cT u L R k j)) R.length) }], ?_, by rw [← tab_set]; exact (Back.trim rfl rfl (by repeat (first | exact CellsOk.nil | refine CellsOk.cons (by first | assumption | exact g0_iv _) ?_)) (by repeat (first | exact trivial | (refine And.intro ⟨rfl, by (first | exact Low.rid (by assumption) (by simp) | exact .int _ _ | exact .slice _ _ _ _ (by first | (simp; done) | omega | (simp; omega)) | exact .ptr _ _ (by first | (simp; done) | omega | (simp; omega)))⟩ ?_)))), j + 1, rfl, by omega, ?_, rfl⟩
      · omega
      · have : Hung.up (fun q => if q < j then cT u L R k q else 0) j (cT u L R k j) = fun q => if q < j + 1 then cT u L R k q else 0 := by
          funext q
          simp only [Hung.up]
          by_cases e : q = j
          · subst e; rw [if_pos rfl, if_pos (by omega)]
          · rw [if_neg e]
            by_cases d : q < j
            · rw [if_pos d, if_pos (by omega)]
            · rw [if_neg d, if_neg (by omega)]
        rw [this]
    · obtain rfl : j = R.length := by omega
      have etab : tab (fun q => if q < R.length then cT u L R k q else 0) R.length = tab (cT u L R k) R.length := tab_congr fun q hq => if_pos hq
      rw [etab]
      have rcv : ∀ T, Rd (M ++ T) (m.length + 1) 0 cv := fun T => Rd.old T (show Rd M (m.length + 1) 0 cv from ⟨_, hT, rfl⟩)
      obtain ⟨M3, hM3⟩ : ∃ M3, M ++ [some { cells := (L.getD k default).cells }, some { cells := iv (tab (cT u L R k) R.length) }, some { cells := [.slice (some ⟨M.length + 1, 0, none⟩) R.length R.length] }] = M3 := ⟨_, rfl⟩
      have g1 : M3[M.length + 1]? = some (some { cells := iv (tab (cT u L R ws.length) R.length) }) := by rw [← hM3, get_app, hws]; rfl
      have g2 : M3[M.length + 2]? = some (some { cells := [.slice (some ⟨M.length + 1, 0, none⟩) R.length R.length] }) := by rw [← hM3, get_app]; rfl
      have g3 : M3[m.length + 1]? = some (some { cells := [cv, .int .i64 (L.length : Nat), .int .i64 (R.length : Nat)] }) := by rw [← hM3]; exact get_old _ hT
      have g4 : RdL M3 (m.length + 0) 0 u.cells := by rw [← hM3]; exact rU.old _
      have s3 : Spn M3 (m.length + 2) cv ws := by rw [← hM3]; exact hsp.old _
      have w3 : Rws M3 (m.length + 2) (m.length + 1) ws (cT u L R) R.length := by rw [← hM3]; exact hrw.old _
      have l3' : M3.length = M.length + 3 := by rw [← hM3]; simp
      have p3 : ∃ N', M3 = m ++ N' := ⟨_, by rw [← hM3, hM, List.append_assoc]⟩
      have hML : m.length + 2 ≤ M.length := by have := (List.getElem?_eq_some_iff.1 hT).1; omega
      obtain ⟨G1, G2⟩ := s3.grow w3 (b := M.length + 1) (by omega) (by omega) g1 (by omega)
      rcases hsp with ⟨z1, z2⟩ | ⟨z1, sp, z2, z3, z4⟩
      · obtain ⟨y1, y2⟩ := G1 z1
        subst z1 z2
        (repeat (first | (with_reducible refine AWo.cons ?_) | ((with_reducible refine Step.id ?_); first | ((with_reducible apply Step.move); exact rfl; exact rfl) | ((with_reducible apply Step.load); exact rfl; (focus (decide +kernel)); exact rfl; (focus (exact rcv _))) | ((with_reducible apply Step.field0); exact rfl; (focus (decide +kernel)); exact rfl) | ((with_reducible apply Step.lss); exact rfl; exact rfl; exact rfl) | ((with_reducible apply Step.nilp); exact rfl; exact rfl) | ((with_reducible apply Step.buildS 2); exact rfl; exact rfl; exact (fun _ _ => bs80); exact rfl; (focus (first | (simp only [List.nil_append, List.cons_append, List.set_cons_zero, List.set_cons_succ, iv_set, bv_set, iv_rep, bv_rep]; done) | (simp only [List.nil_append, List.cons_append, List.set_cons_zero, List.set_cons_succ, iv_set, bv_set, iv_rep, bv_rep]; rfl) | rfl)))) | (with_reducible refine AWo.nil ?_) | ((with_reducible apply AW.seq)) | ((with_reducible apply Then.n)) | ((with_reducible apply AW.regL)) | ((with_reducible apply AW.exit)) | ((with_reducible apply InBlk.hit)) | ((with_reducible apply Then.e)) | ((with_reducible apply AW.condF); exact rfl; (focus ((simp only [decide_eq_true_eq, decide_eq_false_iff_not, Bool.not_eq_true', Bool.not_eq_false', Bool.not_true, Bool.not_false]; first | assumption | omega))))))
        rw [hM3]
        ((with_reducible apply Step.appN); exact rfl; exact rfl; exact el80; exact un80; exact g2; exact rfl; (focus (decide +kernel)); exact rfl)
        (repeat (first | (with_reducible refine AWo.cons ?_) | ((with_reducible refine Step.id ?_); first | ((with_reducible apply Step.field0); exact rfl; (focus (decide +kernel)); exact rfl) | ((with_reducible apply Step.nilp); exact rfl; exact rfl))))
        ((with_reducible apply Step.storeC); exact rfl; exact rfl; exact (get_old _ g3); exact rfl; (focus (decide +kernel)); exact rfl; exact rfl; (focus (simp)))
        (repeat (first | (with_reducible refine AWo.cons ?_) | ((with_reducible refine Step.id ?_); first | ((with_reducible apply Step.move); exact rfl; exact rfl) | ((with_reducible apply Step.add); exact rfl; exact rfl; (focus (omega)); exact rfl)) | (with_reducible refine AWo.nil ?_) | ((with_reducible apply Then.n)) | ((with_reducible apply AW.regL)) | ((with_reducible apply InBlk.n))))
        obtain ⟨N', hN'⟩ := p3
        obtain ⟨N2, hN2⟩ := pre_set (m := m) (N := N' ++ [some { cells := [.slice (some ⟨M.length + 1, 0, none⟩) R.length R.length], kind := .grow, size := 1 }]) (p := m.length + 1) (x := some { cells := [.slice (some ⟨M3.length, 0, none⟩) 1 1, .int .i64 (L.length : Nat), .int .i64 (R.length : Nat)] }) (by omega)
        refine ⟨_, [(1, rv), (5, .pointer (some ⟨m.length + 0, 0, none⟩)), (7, .pointer (some ⟨m.length + 1, 0, none⟩)), (32, lv), (33, .int .i64 (L.length : Nat)), (34, .int .i64 ((k + 1 : Nat) : Int))], ?_, (by repeat (first | exact trivial | (refine And.intro rfl ?_))), k + 1, N2, _, _, rfl, by omega, ?_, ?_, List.getElem?_set_self (by simp; omega), y1.set ?_, ?_, y2.set, rfl⟩
        · omega
        · rw [← hN2]
          rw [hN', List.append_assoc]; rfl
        · exact RdL.set (g4.old _) (by omega)
        · intro s' hs'
          injection hs' with hs'
          injection hs' with hs'
          injection hs' with hs'
          omega
        · simp at hws ⊢; omega
      · obtain ⟨y1, y2⟩ := G2 sp z3 (by rw [← hM3]; exact get_old _ z4)
        subst z3
        (repeat (first | (with_reducible refine AWo.cons ?_) | ((with_reducible refine Step.id ?_); first | ((with_reducible apply Step.move); exact rfl; exact rfl) | ((with_reducible apply Step.load); exact rfl; (focus (decide +kernel)); exact rfl; (focus (exact rcv _))) | ((with_reducible apply Step.field0); exact rfl; (focus (decide +kernel)); exact rfl) | ((with_reducible apply Step.lss); exact rfl; exact rfl; exact rfl) | ((with_reducible apply Step.nilp); exact rfl; exact rfl) | ((with_reducible apply Step.buildS 2); exact rfl; exact rfl; exact (fun _ _ => bs80); exact rfl; (focus (first | (simp only [List.nil_append, List.cons_append, List.set_cons_zero, List.set_cons_succ, iv_set, bv_set, iv_rep, bv_rep]; done) | (simp only [List.nil_append, List.cons_append, List.set_cons_zero, List.set_cons_succ, iv_set, bv_set, iv_rep, bv_rep]; rfl) | rfl)))) | (with_reducible refine AWo.nil ?_) | ((with_reducible apply AW.seq)) | ((with_reducible apply Then.n)) | ((with_reducible apply AW.regL)) | ((with_reducible apply AW.exit)) | ((with_reducible apply InBlk.hit)) | ((with_reducible apply Then.e)) | ((with_reducible apply AW.condF); exact rfl; (focus ((simp only [decide_eq_true_eq, decide_eq_false_iff_not, Bool.not_eq_true', Bool.not_eq_false', Bool.not_true, Bool.not_false]; first | assumption | omega))))))
        rw [hM3]
        ((with_reducible apply Step.appB); exact rfl; exact rfl; exact el80; exact un80; (focus (rw [← hM3]; exact get_old _ z4)); exact rfl; exact g2; exact rfl; (focus (omega)); exact rfl)
        have hspa : sp ≠ m.length + 1 := by omega
        have hspm : m.length ≤ sp := by omega
        (repeat (first | (with_reducible refine AWo.cons ?_) | ((with_reducible refine Step.id ?_); first | ((with_reducible apply Step.field0); exact rfl; (focus (decide +kernel)); exact rfl) | ((with_reducible apply Step.nilp); exact rfl; exact rfl))))
        ((with_reducible apply Step.storeC); exact rfl; exact rfl; exact (get_old _ (show (M3.set sp none)[m.length + 1]? = some (some { cells := [.slice (some ⟨sp, 0, none⟩) ws.length ws.length, .int .i64 (L.length : Nat), .int .i64 (R.length : Nat)] }) by rw [List.getElem?_set_ne hspa]; exact g3)); exact rfl; (focus (decide +kernel)); exact rfl; exact rfl; (focus (simp)))
        (repeat (first | (with_reducible refine AWo.cons ?_) | ((with_reducible refine Step.id ?_); first | ((with_reducible apply Step.move); exact rfl; exact rfl) | ((with_reducible apply Step.add); exact rfl; exact rfl; (focus (omega)); exact rfl)) | (with_reducible refine AWo.nil ?_) | ((with_reducible apply Then.n)) | ((with_reducible apply AW.regL)) | ((with_reducible apply InBlk.n))))
        obtain ⟨N', hN'⟩ := p3
        obtain ⟨N2, hN2⟩ := pre_set (m := m) (N := N'.set (sp - m.length) none ++ [some { cells := ws ++ [.slice (some ⟨M.length + 1, 0, none⟩) R.length R.length], kind := .grow, size := 1 }]) (p := m.length + 1) (x := some { cells := [.slice (some ⟨M3.length, 0, none⟩) (ws.length + 1) (ws.length + 1), .int .i64 (L.length : Nat), .int .i64 (R.length : Nat)] }) (by omega)
        refine ⟨_, [(1, rv), (5, .pointer (some ⟨m.length + 0, 0, none⟩)), (7, .pointer (some ⟨m.length + 1, 0, none⟩)), (32, lv), (33, .int .i64 (L.length : Nat)), (34, .int .i64 ((k + 1 : Nat) : Int))], ?_, (by repeat (first | exact trivial | (refine And.intro rfl ?_))), k + 1, N2, _, _, rfl, by omega, ?_, ?_, List.getElem?_set_self (by simp; omega), y1.set ?_, ?_, y2.set, rfl⟩
        · omega
        · rw [← hN2]
          rw [hN', ← List.append_assoc, ← List.set_append_right _ _ hspm]; rfl
        · exact RdL.set ((g4.set (by omega)).old _) (by omega)
        · intro s' hs'
          injection hs' with hs'
          injection hs' with hs'
          injection hs' with hs'
          omega
        · simp at hws ⊢; omega
  · obtain rfl : k = L.length := by omega
    (repeat (first | (with_reducible refine AWo.cons ?_) | ((with_reducible refine Step.id ?_); first | ((with_reducible apply Step.move); exact rfl; exact rfl) | ((with_reducible apply Step.assign); exact rfl; exact rfl) | ((with_reducible apply Step.lss); exact rfl; exact rfl; exact rfl)) | (with_reducible refine AWo.nil ?_) | ((with_reducible apply AW.seq)) | ((with_reducible apply Then.n)) | ((with_reducible apply AW.regL)) | ((with_reducible apply AW.exit)) | ((with_reducible apply InBlk.hit)) | ((with_reducible apply Then.e)) | ((with_reducible apply AW.condF); exact rfl; (focus ((simp only [decide_eq_true_eq, decide_eq_false_iff_not, Bool.not_eq_true', Bool.not_eq_false', Bool.not_true, Bool.not_false]; first | assumption | omega))))))
    (refine AW.ret ?_; (repeat (first | refine Then.r ?_ | refine InBlk.r ?_)))
    have hal : m.length + 1 < M.length := (List.getElem?_eq_some_iff.1 hT).1
    rcases hsp with ⟨z1, z2⟩ | ⟨z1, sp, z2, z3, z4⟩
    · refine ⟨_, rfl, N, hM, m.length + 1, cv, 0, 0, rfl, hal, ⟨_, hT, rfl⟩, ⟨_, hT, rfl⟩, ⟨_, hT, rfl⟩, ?_, by omega, fun i hi => ?_⟩
      · rw [z2, ← hws, z1]; exact Sl.nil _ _
      · rw [z1] at hws; simp at hws; omega
    · refine ⟨_, rfl, N, hM, m.length + 1, cv, sp, 0, rfl, hal, ⟨_, hT, rfl⟩, ⟨_, hT, rfl⟩, ⟨_, hT, rfl⟩, ?_, (List.getElem?_eq_some_iff.1 z4).1, fun i hi => ?_⟩
      · rw [z3, hws]; exact Sl.mk (Nat.le_refl _)
      · obtain ⟨b, b1, b2, b3, b4⟩ := hrw i (by omega)
        exact ⟨_, ⟨_, z4, by rw [Nat.zero_add]; exact b3⟩, ints_at b4 rfl _ (by simp)⟩
end Go.Proofs.Ytajpngnphbdnnaa.Abs
namespace Go.Proofs.Ytajpngnphbdnnaa.Abs
set_option linter.unusedSimpArgs false
set_option linter.unusedVariables false
open Go.RowKit
open Go.Proofs.Ytajpngnphbdnnaa.Sim
open Go.Proofs
open Hung
theorem ze108 : zeroB Try.prog 108 = some #[.nilFunc] := by kernel_rfl
theorem up_cast (f : Nat → Nat) (k x : Nat) : Hung.up (fun i => ((f i : Nat) : Int)) k (x : Int) = fun i => ((Hung.up f k x i : Nat) : Int) := by
  funext i; unfold Hung.up; split <;> rfl
theorem Best.congr {w w' : Nat → Nat → Int} {l r : Nat} {a b : Nat → Int} {x : Int} (h : Best w l r a b x) (hw : ∀ i q, i < l → q < r → w i q = w' i q) : Best w' l r a b x := by
  obtain ⟨⟨h1, h2, h3⟩, h4, ⟨p, p1, p2⟩, h6, h7⟩ := h
  refine ⟨⟨h1, h2, fun i q hi hq => by rw [← hw i q hi hq]; exact h3 i q hi hq⟩, h4, ⟨p, p1, ?_⟩, h6, h7⟩
  rw [← p2]
  refine sN_congr fun i hi => ?_
  by_cases hq : p i < r
  · simp only [if_pos hq]; exact (hw i _ hi hq).symm
  · simp only [if_neg hq]
/-- The columns taken are few. -/
theorem Iv.len {loss : Nat → Nat → Int} {n i : Nat} {V0 : Int} {u v : Nat → Int} {row way : Nat → Nat} {least : Nat → Int} {used : Nat → Bool} {j : Nat} {rest : List Nat} (h : Iv loss n i V0 u v row way least used j rest) : rest.length ≤ n := by
  have key : ∀ l, Ch loss u v row way l → l.Nodup := fun l hl => by
    induction hl with
    | base => simp
    | step k l _ _ _ _ hk _ ih => exact List.nodup_cons.2 ⟨hk, ih⟩
  have := nodup_le (key _ h.ch) (k := List.range (n + 1)) fun x hx => by
    rcases List.mem_cons.1 hx with rfl | hx
    · have := h.jn; simp; omega
    · have := (h.rn x hx).1; simp; omega
  simp at this; omega
section
variable {d least u v : Nat → Int} {used : Nat → Bool} {way row : Nat → Nat} {j k n : Nat} {dl : Int}
theorem lS_zero : lS d least used 0 = least := by funext x; exact if_neg fun h => by have := h.1; have := h.2.1; omega
theorem wS_zero : wS d least used j way 0 = way := by funext x; exact if_neg fun h => by have := h.1; have := h.2.1; omega
theorem lS_hit (hu : used (k + 1) = false) (h : d (k + 1) < least (k + 1)) : up (lS d least used k) (k + 1) (d (k + 1)) = lS d least used (k + 1) := by
  funext x
  simp only [up, lS]
  by_cases e : x = k + 1
  · subst e; rw [if_pos rfl, if_pos (show tk d least used (k + 1) (k + 1) from ⟨by omega, by omega, hu, h⟩)]
  · rw [if_neg e]
    by_cases c : tk d least used k x
    · rw [if_pos c, if_pos (show tk d least used (k + 1) x from ⟨c.1, by have := c.2.1; omega, c.2.2⟩)]
    · rw [if_neg c, if_neg (show ¬ tk d least used (k + 1) x from fun q => c ⟨q.1, by have := q.2.1; omega, q.2.2⟩)]
theorem wS_hit (hu : used (k + 1) = false) (h : d (k + 1) < least (k + 1)) : up (wS d least used j way k) (k + 1) j = wS d least used j way (k + 1) := by
  funext x
  simp only [up, wS]
  by_cases e : x = k + 1
  · subst e; rw [if_pos rfl, if_pos (show tk d least used (k + 1) (k + 1) from ⟨by omega, by omega, hu, h⟩)]
  · rw [if_neg e]
    by_cases c : tk d least used k x
    · rw [if_pos c, if_pos (show tk d least used (k + 1) x from ⟨c.1, by have := c.2.1; omega, c.2.2⟩)]
    · rw [if_neg c, if_neg (show ¬ tk d least used (k + 1) x from fun q => c ⟨q.1, by have := q.2.1; omega, q.2.2⟩)]
theorem lS_miss (h : ¬ (used (k + 1) = false ∧ d (k + 1) < least (k + 1))) : lS d least used (k + 1) = lS d least used k := by
  funext x
  simp only [lS]
  by_cases c : tk d least used k x
  · rw [if_pos c, if_pos (show tk d least used (k + 1) x from ⟨c.1, by have := c.2.1; omega, c.2.2⟩)]
  · rw [if_neg c, if_neg (show ¬ tk d least used (k + 1) x from fun q => by
      by_cases e : x = k + 1
      · subst e; exact h q.2.2
      · exact c ⟨q.1, by have := q.2.1; omega, q.2.2⟩)]
theorem wS_miss (h : ¬ (used (k + 1) = false ∧ d (k + 1) < least (k + 1))) : wS d least used j way (k + 1) = wS d least used j way k := by
  funext x
  simp only [wS]
  by_cases c : tk d least used k x
  · rw [if_pos c, if_pos (show tk d least used (k + 1) x from ⟨c.1, by have := c.2.1; omega, c.2.2⟩)]
  · rw [if_neg c, if_neg (show ¬ tk d least used (k + 1) x from fun q => by
      by_cases e : x = k + 1
      · subst e; exact h q.2.2
      · exact c ⟨q.1, by have := q.2.1; omega, q.2.2⟩)]
theorem lS_next : lS d least used k (k + 1) = least (k + 1) := if_neg fun h => by have := h.2.1; omega
theorem lS_at {x : Nat} (h : x ≤ k) (hk : k ≤ n) : lS d least used n x = lS d least used k x := by
  simp only [lS]
  by_cases c : tk d least used k x
  · rw [if_pos c, if_pos (show tk d least used n x from ⟨c.1, by have := c.2.1; omega, c.2.2⟩)]
  · rw [if_neg c, if_neg (show ¬ tk d least used n x from fun q => c ⟨q.1, h, q.2.2⟩)]
theorem dS_yes {L : Nat → Int} (hu : used (k + 1) = false) (h : L (k + 1) < (dS L used k).1) : dS L used (k + 1) = (L (k + 1), k + 1) := if_pos ⟨hu, h⟩
theorem dS_no {L : Nat → Int} (h : ¬ (used (k + 1) = false ∧ L (k + 1) < (dS L used k).1)) : dS L used (k + 1) = dS L used k := if_neg h
theorem uU_zero : uU u row used dl 0 = u := by funext x; exact if_neg fun h => by obtain ⟨c, h, _⟩ := inU_iff.1 h; omega
theorem vU_zero : vU v used dl 0 = v := by funext x; exact if_neg fun h => by have := h.1; omega
theorem lU_zero : lU v used dl 0 = v := by funext x; exact if_neg fun h => by have := h.1; omega
theorem uU_at (hu : ∀ c, c < k → used c = true → row c ≠ row k) : uU u row used dl k (row k) = u (row k) := if_neg fun h => by
  obtain ⟨c, h1, h2, h3⟩ := inU_iff.1 h
  exact hu c h1 h2 h3
theorem uU_yes (hu : used k = true) : up (uU u row used dl k) (row k) (u (row k) + dl) = uU u row used dl (k + 1) := by
  funext x
  simp only [up, uU, inU_iff]
  by_cases e : x = row k
  · subst e; rw [if_pos rfl, if_pos ⟨k, by omega, hu, rfl⟩]
  · rw [if_neg e]
    by_cases c : ∃ c, c < k ∧ used c = true ∧ row c = x
    · obtain ⟨c, c1, c2, c3⟩ := c
      rw [if_pos ⟨c, c1, c2, c3⟩, if_pos ⟨c, by omega, c2, c3⟩]
    · rw [if_neg c, if_neg fun ⟨q, q1, q2, q3⟩ => by
        by_cases e' : q = k
        · subst e'; exact e q3.symm
        · exact c ⟨q, by omega, q2, q3⟩]
theorem uU_no (hu : used k = false) : uU u row used dl (k + 1) = uU u row used dl k := by
  funext x
  simp only [uU, inU_iff]
  by_cases c : ∃ c, c < k ∧ used c = true ∧ row c = x
  · obtain ⟨c, c1, c2, c3⟩ := c
    rw [if_pos ⟨c, by omega, c2, c3⟩, if_pos ⟨c, c1, c2, c3⟩]
  · rw [if_neg c, if_neg fun ⟨q, q1, q2, q3⟩ => by
      by_cases e' : q = k
      · subst e'; rw [hu] at q2; cases q2
      · exact c ⟨q, by omega, q2, q3⟩]
theorem vU_at : vU v used dl k k = v k := if_neg fun h => by omega
theorem lU_at : lU v used dl k k = v k := if_neg fun h => by omega
theorem vU_yes (hu : used k = true) : up (vU v used dl k) k (v k - dl) = vU v used dl (k + 1) := by
  funext x
  simp only [up, vU]
  by_cases e : x = k
  · subst e; rw [if_pos rfl, if_pos ⟨by omega, hu⟩]
  · rw [if_neg e]
    by_cases c : x < k ∧ used x = true
    · rw [if_pos c, if_pos ⟨by omega, c.2⟩]
    · rw [if_neg c, if_neg fun q => c ⟨by omega, q.2⟩]
theorem vU_no (hu : used k = false) : vU v used dl (k + 1) = vU v used dl k := by
  funext x
  simp only [vU]
  by_cases c : x < k ∧ used x = true
  · rw [if_pos c, if_pos ⟨by omega, c.2⟩]
  · rw [if_neg c, if_neg fun q => by
      by_cases e : x = k
      · subst e; rw [hu] at q; cases q.2
      · exact c ⟨by omega, q.2⟩]
theorem lU_yes (hu : used k = false) : up (lU v used dl k) k (v k - dl) = lU v used dl (k + 1) := by
  funext x
  simp only [up, lU]
  by_cases e : x = k
  · subst e; rw [if_pos rfl, if_pos ⟨by omega, hu⟩]
  · rw [if_neg e]
    by_cases c : x < k ∧ used x = false
    · rw [if_pos c, if_pos ⟨by omega, c.2⟩]
    · rw [if_neg c, if_neg fun q => c ⟨by omega, q.2⟩]
theorem lU_no (hu : used k = true) : lU v used dl (k + 1) = lU v used dl k := by
  funext x
  simp only [lU]
  by_cases c : x < k ∧ used x = false
  · rw [if_pos c, if_pos ⟨by omega, c.2⟩]
  · rw [if_neg c, if_neg fun q => by
      by_cases e : x = k
      · subst e; rw [hu] at q; cases q.2
      · exact c ⟨by omega, q.2⟩]
end
section
variable {M T : AM} {N k : Nat} {b0 b1 b2 b3 b4 : Option Blk}
theorem rt0 (f : Nat → Int) (hk : k < N) : Rd (M ++ (some { cells := iv (tab f N) } :: T)) (M.length + 0) k (.int .i64 (f k)) := by rw [← tab_get f hk]; exact Rd.new rfl (iv_get (by simp; omega))
theorem rt1 (f : Nat → Int) (hk : k < N) : Rd (M ++ (b0 :: some { cells := iv (tab f N) } :: T)) (M.length + 1) k (.int .i64 (f k)) := by rw [← tab_get f hk]; exact Rd.new rfl (iv_get (by simp; omega))
theorem rt2 (f : Nat → Int) (hk : k < N) : Rd (M ++ (b0 :: b1 :: some { cells := iv (tab f N) } :: T)) (M.length + 2) k (.int .i64 (f k)) := by rw [← tab_get f hk]; exact Rd.new rfl (iv_get (by simp; omega))
theorem rt3 (f : Nat → Int) (hk : k < N) : Rd (M ++ (b0 :: b1 :: b2 :: some { cells := iv (tab f N) } :: T)) (M.length + 3) k (.int .i64 (f k)) := by rw [← tab_get f hk]; exact Rd.new rfl (iv_get (by simp; omega))
theorem rt4 (f : Nat → Int) (hk : k < N) : Rd (M ++ (b0 :: b1 :: b2 :: b3 :: some { cells := iv (tab f N) } :: T)) (M.length + 4) k (.int .i64 (f k)) := by rw [← tab_get f hk]; exact Rd.new rfl (iv_get (by simp; omega))
theorem rt5 (f : Nat → Bool) (hk : k < N) : Rd (M ++ (b0 :: b1 :: b2 :: b3 :: b4 :: some { cells := bv (tabB f N) } :: T)) (M.length + 5) k (.bool (f k)) := by rw [← tabB_get f hk]; exact Rd.new rfl (bv_get (by simp; omega))
end
theorem loss_w {c : Nat → Nat → Int} {l r : Nat} {L R : List Nat} (hl32 : l ≤ 32) (hr32 : r ≤ 32) (iL : ∀ x ∈ L, x < l) (iR : ∀ x ∈ R, x < r) (x y : Nat) : lossN c l r L R (x + 1) (y + 1) = -(if x < L.length ∧ y < R.length then wo c (L.getD x 0) (R.getD y 0) else 0) := by
  simp only [lossN, Nat.add_sub_cancel, wv, atN]
  by_cases h1 : x < L.length
  · by_cases h2 : y < R.length
    · have := iL _ (getD_mem' h1)
      have := iR _ (getD_mem' h2)
      rw [if_pos h1, if_pos h2, if_pos ⟨by assumption, by assumption⟩, if_pos ⟨h1, h2⟩]
    · rw [if_neg h2, if_neg (by omega), if_neg (by omega)]
  · rw [if_neg h1, if_neg (by omega), if_neg (by omega)]
/-- What the search comes to, the prices moved. -/
theorem Ov.fin {c : Nat → Nat → Int} {l r n : Nat} {L R : List Nat} {u v : Nat → Int} {row : Nat → Nat} (hc : Cs c) (hl32 : l ≤ 32) (hr32 : r ≤ 32) (iL : ∀ x ∈ L, x < l) (iR : ∀ x ∈ R, x < r) (hn : n + 1 = max L.length R.length) (ov : Ov (lossN c l r L R) (n + 1) (n + 1 + 1) u v row) :
    Best (fun i q => wo c (L.getD i 0) (R.getD q 0)) L.length R.length (fun x => -u (x + 1) + minF (fun x => -v (x + 1)) n) (fun x => -v (x + 1) - minF (fun x => -v (x + 1)) n) (sN (fun k => -lossN c l r L R (row (k + 1)) (k + 1)) (n + 1)) := by
  refine Best.congr (w := fun i q => if i < L.length ∧ q < R.length then wo c (L.getD i 0) (R.getD q 0) else 0) (ov.best (fun x y _ _ => loss_w hl32 hr32 iL iR x y) (fun x y _ _ => ?_) (by omega) (by omega) (fun x y _ _ h => if_neg (by omega)) ?_ fun q hq => minF_le (fun x => -v (x + 1)) (by omega)) fun i q hi hq => if_pos ⟨hi, hq⟩
  · have := wo_bd hc (L.getD x 0) (R.getD y 0)
    split <;> omega
  · obtain ⟨k, h1, h2⟩ := minF_at (fun x => -v (x + 1)) n
    exact ⟨k, by omega, h2⟩
theorem Best.none {w : Nat → Nat → Int} {a b : Nat → Int} : Best w 0 0 a b 0 :=
  ⟨⟨fun i hi => by omega, fun q hq => by omega, fun i q hi => by omega⟩, rfl, ⟨fun _ => 0, fun i i' hi => by omega, rfl⟩, fun q hq => by omega, fun q hq => by omega⟩
set_option maxHeartbeats 8000000 in
set_option maxRecDepth 100000 in
theorem assign_ok {m : AM} {tv lv rv : Value} {c : Nat → Nat → Int} {l r : Nat} {L R : List Nat} (ht : Tab m tv c l r) (hc : Cs c) (hl32 : l ≤ 32) (hr32 : r ≤ 32) (hL : Ints m lv (nats L)) (hR : Ints m rv (nats R)) (lL : L.length ≤ 32) (lR : R.length ≤ 32) (iL : ∀ x ∈ L, x < l) (iR : ∀ x ∈ R, x < r) :
    ACall Try.prog 56 #[tv, lv, rv] m (More (fun M v => ∃ (va vb : Value) (a b : Nat → Int) (best : Int), v = .tuple #[.int .i64 best, va, vb] ∧ Best (fun i q => wo c (L.getD i 0) (R.getD q 0)) L.length R.length a b best ∧ Ints M va (tab a L.length) ∧ Ints M vb (tab b R.length)) m) := by
  obtain ⟨la, lo, l1, l2, l3⟩ := id hL
  obtain ⟨ra, ro, r1, r2, r3⟩ := id hR
  have hlc := l1.cells
  have hrc := r1.cells
  rw [nats_len] at l1 r1
  obtain ⟨n, hn⟩ : ∃ n : Nat, n = max L.length R.length := ⟨_, rfl⟩
  have hnI : max ((L.length : Nat) : Int) ((R.length : Nat) : Int) = ((n : Nat) : Int) := by omega
  have htc : tv.cells = #[tv] ∧ tv.oneCell' = true := by obtain ⟨ta, tcv, tb, to, rfl, _⟩ := id ht; exact ⟨rfl, rfl⟩
  refine ACall.start Try.func56 rfl rfl ?_
  (repeat (first | (with_reducible refine AWo.cons ?_) | ((with_reducible refine Step.id ?_); first | ((with_reducible apply Step.assign); exact rfl; exact rfl) | ((with_reducible apply Step.load); exact rfl; (focus (decide +kernel)); exact rfl; (focus (exact Rd.new rfl rfl))) | ((with_reducible apply Step.len); exact rfl; (focus (assumption)); (focus (decide +kernel)); exact rfl) | ((with_reducible apply Step.max); exact rfl; exact rfl; exact rfl) | ((with_reducible apply Step.boxV 0); exact rfl; exact rfl; (focus (assumption)); exact rfl; (focus (first | (simp only [List.nil_append, List.cons_append, List.set_cons_zero, List.set_cons_succ, iv_set, bv_set, iv_rep, bv_rep]; done) | (simp only [List.nil_append, List.cons_append, List.set_cons_zero, List.set_cons_succ, iv_set, bv_set, iv_rep, bv_rep]; rfl) | rfl))) | ((with_reducible apply Step.boxV 1); exact rfl; exact rfl; (focus (assumption)); exact rfl; (focus (first | (simp only [List.nil_append, List.cons_append, List.set_cons_zero, List.set_cons_succ, iv_set, bv_set, iv_rep, bv_rep]; done) | (simp only [List.nil_append, List.cons_append, List.set_cons_zero, List.set_cons_succ, iv_set, bv_set, iv_rep, bv_rep]; rfl) | rfl))) | ((with_reducible apply Step.boxV 2); exact rfl; exact rfl; (focus (assumption)); exact rfl; (focus (first | (simp only [List.nil_append, List.cons_append, List.set_cons_zero, List.set_cons_succ, iv_set, bv_set, iv_rep, bv_rep]; done) | (simp only [List.nil_append, List.cons_append, List.set_cons_zero, List.set_cons_succ, iv_set, bv_set, iv_rep, bv_rep]; rfl) | rfl)))) | (with_reducible refine AWo.nil ?_) | ((fail_if_success (with_reducible refine AW.atR (id := 2) ?_)); ((with_reducible apply AW.seq))) | ((with_reducible apply Then.n)) | ((with_reducible apply AW.regL))))
  rw [hnI]
  (repeat (first | (with_reducible refine AWo.cons ?_) | ((with_reducible refine Step.id ?_); first | ((with_reducible apply Step.assign); exact rfl; exact rfl) | ((with_reducible apply Step.fn); exact rfl; exact rfl; exact rfl) | ((with_reducible apply Step.alloc 3); exact rfl; exact ze108; exact rfl; (focus (first | (simp only [List.nil_append, List.cons_append, List.set_cons_zero, List.set_cons_succ, iv_set, bv_set, iv_rep, bv_rep]; done) | (simp only [List.nil_append, List.cons_append, List.set_cons_zero, List.set_cons_succ, iv_set, bv_set, iv_rep, bv_rep]; rfl) | rfl))) | ((with_reducible apply Step.store (k := 3)); exact rfl; exact rfl; exact rfl; exact rfl; (focus (decide +kernel)); exact rfl; exact rfl; (focus (first | omega | (simp [iv, bv]; done) | (simp [iv, bv]; omega))); (focus (first | (simp only [List.nil_append, List.cons_append, List.set_cons_zero, List.set_cons_succ, iv_set, bv_set, iv_rep, bv_rep]; done) | (simp only [List.nil_append, List.cons_append, List.set_cons_zero, List.set_cons_succ, iv_set, bv_set, iv_rep, bv_rep]; rfl) | rfl)))) | (with_reducible refine AWo.nil ?_) | ((fail_if_success (with_reducible refine AW.atR (id := 4) ?_)); ((with_reducible apply AW.seq))) | ((with_reducible apply Then.n)) | ((with_reducible apply AW.regL))))
  refine AW.rebase ?_
  have ht' := ht.old [some { cells := [tv] }, some { cells := [lv] }, some { cells := [rv] }, some { cells := [.func (.func 88) #[] #[]] }]
  have hL' := hL.old [some { cells := [tv] }, some { cells := [lv] }, some { cells := [rv] }, some { cells := [.func (.func 88) #[] #[]] }]
  have hR' := hR.old [some { cells := [tv] }, some { cells := [lv] }, some { cells := [rv] }, some { cells := [.func (.func 88) #[] #[]] }]
  have q3 : Rd (m ++ [some { cells := [tv] }, some { cells := [lv] }, some { cells := [rv] }, some { cells := [.func (.func 88) #[] #[]] }]) (m.length + 0) 0 tv := Rd.new rfl rfl
  have q4 : Rd (m ++ [some { cells := [tv] }, some { cells := [lv] }, some { cells := [rv] }, some { cells := [.func (.func 88) #[] #[]] }]) (m.length + 1) 0 lv := Rd.new rfl rfl
  have q5 : Rd (m ++ [some { cells := [tv] }, some { cells := [lv] }, some { cells := [rv] }, some { cells := [.func (.func 88) #[] #[]] }]) (m.length + 2) 0 rv := Rd.new rfl rfl
  have q10 : Rd (m ++ [some { cells := [tv] }, some { cells := [lv] }, some { cells := [rv] }, some { cells := [.func (.func 88) #[] #[]] }]) (m.length + 3) 0 (.func (.func 88) #[] #[]) := Rd.new rfl rfl
  obtain ⟨M, hM⟩ : ∃ M, m ++ [some { cells := [tv] }, some { cells := [lv] }, some { cells := [rv] }, some { cells := [.func (.func 88) #[] #[]] }] = M := ⟨_, rfl⟩
  have hMl : M.length = m.length + 4 := by rw [← hM]; simp
  have hMN : ∃ N, M = m ++ N := ⟨_, hM.symm⟩
  rw [hM] at ht' hL' hR' q3 q4 q5 q10 ⊢
  clear hM
  generalize hx3 : m.length + 0 = x3 at *
  generalize hx4 : m.length + 1 = x4 at *
  generalize hx5 : m.length + 2 = x5 at *
  generalize hx10 : m.length + 3 = x10 at *
  have b3 : x3 < M.length := by omega
  have b4 : x4 < M.length := by omega
  have b5 : x5 < M.length := by omega
  have b10 : x10 < M.length := by omega
  clear hx3 hx4 hx5 hx10 hMl
  have w4 : Low M.length (.pointer (some ⟨x4, 0, none⟩)) := .ptr b4
  have w5 : Low M.length (.pointer (some ⟨x5, 0, none⟩)) := .ptr b5
  have w11 : Low M.length (.func (.func 89) #[] #[.pointer (some ⟨x3, 0, none⟩), .pointer (some ⟨x10, 0, none⟩), .pointer (some ⟨x4, 0, none⟩), .pointer (some ⟨x5, 0, none⟩)]) := Low.func (c := [_, _, _, _]) fun v hv => by
    simp only [List.mem_cons, List.not_mem_nil, or_false] at hv
    rcases hv with rfl | rfl | rfl | rfl
    · exact .ptr b3
    · exact .ptr b10
    · exact w4
    · exact w5
  have e1 : ((n : Nat) : Int) + 1 = ((n + 1 : Nat) : Int) := by omega
  refine AW.joinG (fr [(4, .pointer (some ⟨x4, 0, none⟩)), (5, .pointer (some ⟨x5, 0, none⟩)), (6, .int .i64 0), (9, .int .i64 (n : Nat)), (11, .func (.func 89) #[] #[.pointer (some ⟨x3, 0, none⟩), .pointer (some ⟨x10, 0, none⟩), .pointer (some ⟨x4, 0, none⟩), .pointer (some ⟨x5, 0, none⟩)]),
    (12, .slice (some ⟨M.length + 0, 0, none⟩) (n + 1) (n + 1)), (13, .slice (some ⟨M.length + 1, 0, none⟩) (n + 1) (n + 1)), (14, .slice (some ⟨M.length + 2, 0, none⟩) (n + 1) (n + 1)), (15, .slice (some ⟨M.length + 3, 0, none⟩) (n + 1) (n + 1))])
    (M ++ [some { cells := iv (List.replicate (n + 1) 0) }, some { cells := iv (List.replicate (n + 1) 0) }, some { cells := iv (List.replicate (n + 1) 0) }, some { cells := iv (List.replicate (n + 1) 0) }]) ?_ ?_
  · (repeat' (first | ((with_reducible refine Step.id ?_); first | ((with_reducible apply Step.move); exact rfl; exact rfl) | ((with_reducible apply Step.assign); exact rfl; exact rfl) | ((with_reducible apply Step.addE); exact rfl; exact rfl; (focus (assumption)); (focus (omega)); exact rfl) | ((with_reducible apply Step.make1 0); exact rfl; exact rfl; exact rfl; exact el27; (focus (omega)); exact rfl; (focus (first | (simp only [List.nil_append, List.cons_append, List.set_cons_zero, List.set_cons_succ, iv_set, bv_set, iv_rep, bv_rep]; done) | (simp only [List.nil_append, List.cons_append, List.set_cons_zero, List.set_cons_succ, iv_set, bv_set, iv_rep, bv_rep]; rfl) | rfl))) | ((with_reducible apply Step.make1 1); exact rfl; exact rfl; exact rfl; exact el27; (focus (omega)); exact rfl; (focus (first | (simp only [List.nil_append, List.cons_append, List.set_cons_zero, List.set_cons_succ, iv_set, bv_set, iv_rep, bv_rep]; done) | (simp only [List.nil_append, List.cons_append, List.set_cons_zero, List.set_cons_succ, iv_set, bv_set, iv_rep, bv_rep]; rfl) | rfl))) | ((with_reducible apply Step.make1 2); exact rfl; exact rfl; exact rfl; exact el27; (focus (omega)); exact rfl; (focus (first | (simp only [List.nil_append, List.cons_append, List.set_cons_zero, List.set_cons_succ, iv_set, bv_set, iv_rep, bv_rep]; done) | (simp only [List.nil_append, List.cons_append, List.set_cons_zero, List.set_cons_succ, iv_set, bv_set, iv_rep, bv_rep]; rfl) | rfl))) | ((with_reducible apply Step.make1 3); exact rfl; exact rfl; exact rfl; exact el27; (focus (omega)); exact rfl; (focus (first | (simp only [List.nil_append, List.cons_append, List.set_cons_zero, List.set_cons_succ, iv_set, bv_set, iv_rep, bv_rep]; done) | (simp only [List.nil_append, List.cons_append, List.set_cons_zero, List.set_cons_succ, iv_set, bv_set, iv_rep, bv_rep]; rfl) | rfl)))) | ((with_reducible apply Then.n)) | ((with_reducible apply AW.drawT fit (T := (.step 0 (.step 1 (.step 3 (.step 4 (.step 6 (.step 7 (.step 9 (.step 10 (.both (.step 2 (.step 12 (.both (.step 5 (.step 13 (.both (.step 8 (.step 14 (.step 11 (.step 15 .done)))) (.step 11 (.step 8 (.step 14 (.step 15 .done))))))) (.both (.step 8 (.both (.step 5 (.step 13 (.step 14 (.step 11 (.step 15 .done))))) (.step 11 (.step 5 (.step 13 (.step 14 (.step 15 .done))))))) (.step 11 (.both (.step 5 (.step 13 (.step 8 (.step 14 (.step 15 .done))))) (.step 8 (.step 5 (.step 13 (.step 14 (.step 15 .done))))))))))) (.both (.step 5 (.both (.step 2 (.step 12 (.step 13 (.both (.step 8 (.step 14 (.step 11 (.step 15 .done)))) (.step 11 (.step 8 (.step 14 (.step 15 .done)))))))) (.both (.step 8 (.both (.step 2 (.step 12 (.step 13 (.step 14 (.step 11 (.step 15 .done)))))) (.step 11 (.step 2 (.step 12 (.step 13 (.step 14 (.step 15 .done)))))))) (.step 11 (.both (.step 2 (.step 12 (.step 13 (.step 8 (.step 14 (.step 15 .done)))))) (.step 8 (.step 2 (.step 12 (.step 13 (.step 14 (.step 15 .done))))))))))) (.both (.step 8 (.both (.step 2 (.step 12 (.both (.step 5 (.step 13 (.step 14 (.step 11 (.step 15 .done))))) (.step 11 (.step 5 (.step 13 (.step 14 (.step 15 .done)))))))) (.both (.step 5 (.both (.step 2 (.step 12 (.step 13 (.step 14 (.step 11 (.step 15 .done)))))) (.step 11 (.step 2 (.step 12 (.step 13 (.step 14 (.step 15 .done)))))))) (.step 11 (.both (.step 2 (.step 12 (.step 5 (.step 13 (.step 14 (.step 15 .done)))))) (.step 5 (.step 2 (.step 12 (.step 13 (.step 14 (.step 15 .done))))))))))) (.step 11 (.both (.step 2 (.step 12 (.both (.step 5 (.step 13 (.step 8 (.step 14 (.step 15 .done))))) (.step 8 (.step 5 (.step 13 (.step 14 (.step 15 .done)))))))) (.both (.step 5 (.both (.step 2 (.step 12 (.step 13 (.step 8 (.step 14 (.step 15 .done)))))) (.step 8 (.step 2 (.step 12 (.step 13 (.step 14 (.step 15 .done)))))))) (.step 8 (.both (.step 2 (.step 12 (.step 5 (.step 13 (.step 14 (.step 15 .done)))))) (.step 5 (.step 2 (.step 12 (.step 13 (.step 14 (.step 15 .done)))))))))))))))))))))))); (focus (decide +kernel))) | ((with_reducible apply AWt.step); exact rfl) | ((with_reducible apply AWt.done)) | refine AWt.both ?_ ?_))
    all_goals first | (refine Gc.perm [0,1,2,3] rfl (by decide) ?_ (CellsOk.ren ?_) ?_; (focus (intro p hp; rcases p with _ | _ | _ | _ | p <;> first | rfl | exact absurd hp (lenB (n := 4) rfl))); (focus (repeat (first | exact CellsOk.nil | refine CellsOk.cons (by exact g0_iv _) ?_))); (focus ((repeat (first | exact trivial | (refine And.intro ⟨_, rfl, ?_⟩ ?_; (focus (first | exact Low.sg (by assumption) (by simp) | exact .int _ _ | (refine Ren.slice_sg ?_; (focus (first | (simp; done) | omega | (simp; omega))))))))); done))) | (refine Gc.perm [0,1,3,2] rfl (by decide) ?_ (CellsOk.ren ?_) ?_; (focus (intro p hp; rcases p with _ | _ | _ | _ | p <;> first | rfl | exact absurd hp (lenB (n := 4) rfl))); (focus (repeat (first | exact CellsOk.nil | refine CellsOk.cons (by exact g0_iv _) ?_))); (focus ((repeat (first | exact trivial | (refine And.intro ⟨_, rfl, ?_⟩ ?_; (focus (first | exact Low.sg (by assumption) (by simp) | exact .int _ _ | (refine Ren.slice_sg ?_; (focus (first | (simp; done) | omega | (simp; omega))))))))); done))) | (refine Gc.perm [0,2,1,3] rfl (by decide) ?_ (CellsOk.ren ?_) ?_; (focus (intro p hp; rcases p with _ | _ | _ | _ | p <;> first | rfl | exact absurd hp (lenB (n := 4) rfl))); (focus (repeat (first | exact CellsOk.nil | refine CellsOk.cons (by exact g0_iv _) ?_))); (focus ((repeat (first | exact trivial | (refine And.intro ⟨_, rfl, ?_⟩ ?_; (focus (first | exact Low.sg (by assumption) (by simp) | exact .int _ _ | (refine Ren.slice_sg ?_; (focus (first | (simp; done) | omega | (simp; omega))))))))); done))) | (refine Gc.perm [0,2,3,1] rfl (by decide) ?_ (CellsOk.ren ?_) ?_; (focus (intro p hp; rcases p with _ | _ | _ | _ | p <;> first | rfl | exact absurd hp (lenB (n := 4) rfl))); (focus (repeat (first | exact CellsOk.nil | refine CellsOk.cons (by exact g0_iv _) ?_))); (focus ((repeat (first | exact trivial | (refine And.intro ⟨_, rfl, ?_⟩ ?_; (focus (first | exact Low.sg (by assumption) (by simp) | exact .int _ _ | (refine Ren.slice_sg ?_; (focus (first | (simp; done) | omega | (simp; omega))))))))); done))) | (refine Gc.perm [0,3,1,2] rfl (by decide) ?_ (CellsOk.ren ?_) ?_; (focus (intro p hp; rcases p with _ | _ | _ | _ | p <;> first | rfl | exact absurd hp (lenB (n := 4) rfl))); (focus (repeat (first | exact CellsOk.nil | refine CellsOk.cons (by exact g0_iv _) ?_))); (focus ((repeat (first | exact trivial | (refine And.intro ⟨_, rfl, ?_⟩ ?_; (focus (first | exact Low.sg (by assumption) (by simp) | exact .int _ _ | (refine Ren.slice_sg ?_; (focus (first | (simp; done) | omega | (simp; omega))))))))); done))) | (refine Gc.perm [0,3,2,1] rfl (by decide) ?_ (CellsOk.ren ?_) ?_; (focus (intro p hp; rcases p with _ | _ | _ | _ | p <;> first | rfl | exact absurd hp (lenB (n := 4) rfl))); (focus (repeat (first | exact CellsOk.nil | refine CellsOk.cons (by exact g0_iv _) ?_))); (focus ((repeat (first | exact trivial | (refine And.intro ⟨_, rfl, ?_⟩ ?_; (focus (first | exact Low.sg (by assumption) (by simp) | exact .int _ _ | (refine Ren.slice_sg ?_; (focus (first | (simp; done) | omega | (simp; omega))))))))); done))) | (refine Gc.perm [1,0,2,3] rfl (by decide) ?_ (CellsOk.ren ?_) ?_; (focus (intro p hp; rcases p with _ | _ | _ | _ | p <;> first | rfl | exact absurd hp (lenB (n := 4) rfl))); (focus (repeat (first | exact CellsOk.nil | refine CellsOk.cons (by exact g0_iv _) ?_))); (focus ((repeat (first | exact trivial | (refine And.intro ⟨_, rfl, ?_⟩ ?_; (focus (first | exact Low.sg (by assumption) (by simp) | exact .int _ _ | (refine Ren.slice_sg ?_; (focus (first | (simp; done) | omega | (simp; omega))))))))); done))) | (refine Gc.perm [1,0,3,2] rfl (by decide) ?_ (CellsOk.ren ?_) ?_; (focus (intro p hp; rcases p with _ | _ | _ | _ | p <;> first | rfl | exact absurd hp (lenB (n := 4) rfl))); (focus (repeat (first | exact CellsOk.nil | refine CellsOk.cons (by exact g0_iv _) ?_))); (focus ((repeat (first | exact trivial | (refine And.intro ⟨_, rfl, ?_⟩ ?_; (focus (first | exact Low.sg (by assumption) (by simp) | exact .int _ _ | (refine Ren.slice_sg ?_; (focus (first | (simp; done) | omega | (simp; omega))))))))); done))) | (refine Gc.perm [1,2,0,3] rfl (by decide) ?_ (CellsOk.ren ?_) ?_; (focus (intro p hp; rcases p with _ | _ | _ | _ | p <;> first | rfl | exact absurd hp (lenB (n := 4) rfl))); (focus (repeat (first | exact CellsOk.nil | refine CellsOk.cons (by exact g0_iv _) ?_))); (focus ((repeat (first | exact trivial | (refine And.intro ⟨_, rfl, ?_⟩ ?_; (focus (first | exact Low.sg (by assumption) (by simp) | exact .int _ _ | (refine Ren.slice_sg ?_; (focus (first | (simp; done) | omega | (simp; omega))))))))); done))) | (refine Gc.perm [1,2,3,0] rfl (by decide) ?_ (CellsOk.ren ?_) ?_; (focus (intro p hp; rcases p with _ | _ | _ | _ | p <;> first | rfl | exact absurd hp (lenB (n := 4) rfl))); (focus (repeat (first | exact CellsOk.nil | refine CellsOk.cons (by exact g0_iv _) ?_))); (focus ((repeat (first | exact trivial | (refine And.intro ⟨_, rfl, ?_⟩ ?_; (focus (first | exact Low.sg (by assumption) (by simp) | exact .int _ _ | (refine Ren.slice_sg ?_; (focus (first | (simp; done) | omega | (simp; omega))))))))); done))) | (refine Gc.perm [1,3,0,2] rfl (by decide) ?_ (CellsOk.ren ?_) ?_; (focus (intro p hp; rcases p with _ | _ | _ | _ | p <;> first | rfl | exact absurd hp (lenB (n := 4) rfl))); (focus (repeat (first | exact CellsOk.nil | refine CellsOk.cons (by exact g0_iv _) ?_))); (focus ((repeat (first | exact trivial | (refine And.intro ⟨_, rfl, ?_⟩ ?_; (focus (first | exact Low.sg (by assumption) (by simp) | exact .int _ _ | (refine Ren.slice_sg ?_; (focus (first | (simp; done) | omega | (simp; omega))))))))); done))) | (refine Gc.perm [1,3,2,0] rfl (by decide) ?_ (CellsOk.ren ?_) ?_; (focus (intro p hp; rcases p with _ | _ | _ | _ | p <;> first | rfl | exact absurd hp (lenB (n := 4) rfl))); (focus (repeat (first | exact CellsOk.nil | refine CellsOk.cons (by exact g0_iv _) ?_))); (focus ((repeat (first | exact trivial | (refine And.intro ⟨_, rfl, ?_⟩ ?_; (focus (first | exact Low.sg (by assumption) (by simp) | exact .int _ _ | (refine Ren.slice_sg ?_; (focus (first | (simp; done) | omega | (simp; omega))))))))); done))) | (refine Gc.perm [2,0,1,3] rfl (by decide) ?_ (CellsOk.ren ?_) ?_; (focus (intro p hp; rcases p with _ | _ | _ | _ | p <;> first | rfl | exact absurd hp (lenB (n := 4) rfl))); (focus (repeat (first | exact CellsOk.nil | refine CellsOk.cons (by exact g0_iv _) ?_))); (focus ((repeat (first | exact trivial | (refine And.intro ⟨_, rfl, ?_⟩ ?_; (focus (first | exact Low.sg (by assumption) (by simp) | exact .int _ _ | (refine Ren.slice_sg ?_; (focus (first | (simp; done) | omega | (simp; omega))))))))); done))) | (refine Gc.perm [2,0,3,1] rfl (by decide) ?_ (CellsOk.ren ?_) ?_; (focus (intro p hp; rcases p with _ | _ | _ | _ | p <;> first | rfl | exact absurd hp (lenB (n := 4) rfl))); (focus (repeat (first | exact CellsOk.nil | refine CellsOk.cons (by exact g0_iv _) ?_))); (focus ((repeat (first | exact trivial | (refine And.intro ⟨_, rfl, ?_⟩ ?_; (focus (first | exact Low.sg (by assumption) (by simp) | exact .int _ _ | (refine Ren.slice_sg ?_; (focus (first | (simp; done) | omega | (simp; omega))))))))); done))) | (refine Gc.perm [2,1,0,3] rfl (by decide) ?_ (CellsOk.ren ?_) ?_; (focus (intro p hp; rcases p with _ | _ | _ | _ | p <;> first | rfl | exact absurd hp (lenB (n := 4) rfl))); (focus (repeat (first | exact CellsOk.nil | refine CellsOk.cons (by exact g0_iv _) ?_))); (focus ((repeat (first | exact trivial | (refine And.intro ⟨_, rfl, ?_⟩ ?_; (focus (first | exact Low.sg (by assumption) (by simp) | exact .int _ _ | (refine Ren.slice_sg ?_; (focus (first | (simp; done) | omega | (simp; omega))))))))); done))) | (refine Gc.perm [2,1,3,0] rfl (by decide) ?_ (CellsOk.ren ?_) ?_; (focus (intro p hp; rcases p with _ | _ | _ | _ | p <;> first | rfl | exact absurd hp (lenB (n := 4) rfl))); (focus (repeat (first | exact CellsOk.nil | refine CellsOk.cons (by exact g0_iv _) ?_))); (focus ((repeat (first | exact trivial | (refine And.intro ⟨_, rfl, ?_⟩ ?_; (focus (first | exact Low.sg (by assumption) (by simp) | exact .int _ _ | (refine Ren.slice_sg ?_; (focus (first | (simp; done) | omega | (simp; omega))))))))); done))) | (refine Gc.perm [2,3,0,1] rfl (by decide) ?_ (CellsOk.ren ?_) ?_; (focus (intro p hp; rcases p with _ | _ | _ | _ | p <;> first | rfl | exact absurd hp (lenB (n := 4) rfl))); (focus (repeat (first | exact CellsOk.nil | refine CellsOk.cons (by exact g0_iv _) ?_))); (focus ((repeat (first | exact trivial | (refine And.intro ⟨_, rfl, ?_⟩ ?_; (focus (first | exact Low.sg (by assumption) (by simp) | exact .int _ _ | (refine Ren.slice_sg ?_; (focus (first | (simp; done) | omega | (simp; omega))))))))); done))) | (refine Gc.perm [2,3,1,0] rfl (by decide) ?_ (CellsOk.ren ?_) ?_; (focus (intro p hp; rcases p with _ | _ | _ | _ | p <;> first | rfl | exact absurd hp (lenB (n := 4) rfl))); (focus (repeat (first | exact CellsOk.nil | refine CellsOk.cons (by exact g0_iv _) ?_))); (focus ((repeat (first | exact trivial | (refine And.intro ⟨_, rfl, ?_⟩ ?_; (focus (first | exact Low.sg (by assumption) (by simp) | exact .int _ _ | (refine Ren.slice_sg ?_; (focus (first | (simp; done) | omega | (simp; omega))))))))); done))) | (refine Gc.perm [3,0,1,2] rfl (by decide) ?_ (CellsOk.ren ?_) ?_; (focus (intro p hp; rcases p with _ | _ | _ | _ | p <;> first | rfl | exact absurd hp (lenB (n := 4) rfl))); (focus (repeat (first | exact CellsOk.nil | refine CellsOk.cons (by exact g0_iv _) ?_))); (focus ((repeat (first | exact trivial | (refine And.intro ⟨_, rfl, ?_⟩ ?_; (focus (first | exact Low.sg (by assumption) (by simp) | exact .int _ _ | (refine Ren.slice_sg ?_; (focus (first | (simp; done) | omega | (simp; omega))))))))); done))) | (refine Gc.perm [3,0,2,1] rfl (by decide) ?_ (CellsOk.ren ?_) ?_; (focus (intro p hp; rcases p with _ | _ | _ | _ | p <;> first | rfl | exact absurd hp (lenB (n := 4) rfl))); (focus (repeat (first | exact CellsOk.nil | refine CellsOk.cons (by exact g0_iv _) ?_))); (focus ((repeat (first | exact trivial | (refine And.intro ⟨_, rfl, ?_⟩ ?_; (focus (first | exact Low.sg (by assumption) (by simp) | exact .int _ _ | (refine Ren.slice_sg ?_; (focus (first | (simp; done) | omega | (simp; omega))))))))); done))) | (refine Gc.perm [3,1,0,2] rfl (by decide) ?_ (CellsOk.ren ?_) ?_; (focus (intro p hp; rcases p with _ | _ | _ | _ | p <;> first | rfl | exact absurd hp (lenB (n := 4) rfl))); (focus (repeat (first | exact CellsOk.nil | refine CellsOk.cons (by exact g0_iv _) ?_))); (focus ((repeat (first | exact trivial | (refine And.intro ⟨_, rfl, ?_⟩ ?_; (focus (first | exact Low.sg (by assumption) (by simp) | exact .int _ _ | (refine Ren.slice_sg ?_; (focus (first | (simp; done) | omega | (simp; omega))))))))); done))) | (refine Gc.perm [3,1,2,0] rfl (by decide) ?_ (CellsOk.ren ?_) ?_; (focus (intro p hp; rcases p with _ | _ | _ | _ | p <;> first | rfl | exact absurd hp (lenB (n := 4) rfl))); (focus (repeat (first | exact CellsOk.nil | refine CellsOk.cons (by exact g0_iv _) ?_))); (focus ((repeat (first | exact trivial | (refine And.intro ⟨_, rfl, ?_⟩ ?_; (focus (first | exact Low.sg (by assumption) (by simp) | exact .int _ _ | (refine Ren.slice_sg ?_; (focus (first | (simp; done) | omega | (simp; omega))))))))); done))) | (refine Gc.perm [3,2,0,1] rfl (by decide) ?_ (CellsOk.ren ?_) ?_; (focus (intro p hp; rcases p with _ | _ | _ | _ | p <;> first | rfl | exact absurd hp (lenB (n := 4) rfl))); (focus (repeat (first | exact CellsOk.nil | refine CellsOk.cons (by exact g0_iv _) ?_))); (focus ((repeat (first | exact trivial | (refine And.intro ⟨_, rfl, ?_⟩ ?_; (focus (first | exact Low.sg (by assumption) (by simp) | exact .int _ _ | (refine Ren.slice_sg ?_; (focus (first | (simp; done) | omega | (simp; omega))))))))); done))) | (refine Gc.perm [3,2,1,0] rfl (by decide) ?_ (CellsOk.ren ?_) ?_; (focus (intro p hp; rcases p with _ | _ | _ | _ | p <;> first | rfl | exact absurd hp (lenB (n := 4) rfl))); (focus (repeat (first | exact CellsOk.nil | refine CellsOk.cons (by exact g0_iv _) ?_))); (focus ((repeat (first | exact trivial | (refine And.intro ⟨_, rfl, ?_⟩ ?_; (focus (first | exact Low.sg (by assumption) (by simp) | exact .int _ _ | (refine Ren.slice_sg ?_; (focus (first | (simp; done) | omega | (simp; omega))))))))); done)))
  have hLs : Ls (lossN c l r L R) n := fun i k _ _ _ _ => by
    have := wv_bd hc l r (atN L (i - 1)) (atN R (k - 1))
    unfold lossN; omega
  have hloss : ∀ (Y : AM) (i j : Nat), 1 ≤ i → i ≤ 1000 → 1 ≤ j → j ≤ 1000 → ACall Try.prog 89 (#[] ++ #[.int .i64 (i : Nat), .int .i64 (j : Nat)] ++ #[.pointer (some ⟨x3, 0, none⟩), .pointer (some ⟨x10, 0, none⟩), .pointer (some ⟨x4, 0, none⟩), .pointer (some ⟨x5, 0, none⟩)]) (M ++ Y) (Ret (.int .i64 (lossN c l r L R i j)) (M ++ Y)) := fun Y i j i1 i2 j1 j2 => by
    obtain ⟨i, rfl⟩ : ∃ x, i = x + 1 := ⟨i - 1, by omega⟩
    obtain ⟨j, rfl⟩ : ∃ x, j = x + 1 := ⟨j - 1, by omega⟩
    exact loss_ok (ht'.old Y) hc (hL'.old Y) (hR'.old Y) (by omega) (by omega) (q3.old Y) (q4.old Y) (q5.old Y) (q10.old Y) i j (by omega) (by omega) rfl
  have hf : Try.prog.funcs[89]? = some Try.f89 := Try.func89
  have hb : Try.f89.body = some (Try.f89.body.get rfl) := rfl
  have hn32 : n ≤ 32 := by omega
  clear ht hL hR l3 r3
  (repeat (first | (with_reducible refine AWo.cons ?_) | ((with_reducible refine Step.id ?_); ((with_reducible apply Step.assign); exact rfl; exact rfl)) | (with_reducible refine AWo.nil ?_) | ((with_reducible apply AW.seq)) | ((with_reducible apply Then.n)) | ((with_reducible apply AW.regL)) | ((with_reducible apply AW.block))))
  refine AW.loopT (fun rk t L' => ∃ (i : Nat) (u v : Nat → Int) (row way : Nat → Nat), rk = n + 1 - i ∧ 1 ≤ i ∧ i ≤ n + 1 ∧ Ov (lossN c l r L R) n i u v row ∧ (∀ k, 1 ≤ k → k ≤ n → -1000000000 ≤ u k ∧ u k ≤ 0 ∧ -1000000000 ≤ v k ∧ v k ≤ 0) ∧
      L' = [some { cells := iv (tab u (n + 1)) }, some { cells := iv (tab v (n + 1)) }, some { cells := iv (tab (fun k => ((row k : Nat) : Int)) (n + 1)) }, some { cells := iv (tab (fun k => ((way k : Nat) : Int)) (n + 1)) }] ∧
      t = [(4, .pointer (some ⟨x4, 0, none⟩)), (5, .pointer (some ⟨x5, 0, none⟩)), (6, .int .i64 0), (9, .int .i64 (n : Nat)), (11, .func (.func 89) #[] #[.pointer (some ⟨x3, 0, none⟩), .pointer (some ⟨x10, 0, none⟩), .pointer (some ⟨x4, 0, none⟩), .pointer (some ⟨x5, 0, none⟩)]), (12, .slice (some ⟨M.length + 0, 0, none⟩) (n + 1) (n + 1)), (13, .slice (some ⟨M.length + 1, 0, none⟩) (n + 1) (n + 1)), (14, .slice (some ⟨M.length + 2, 0, none⟩) (n + 1) (n + 1)), (15, .slice (some ⟨M.length + 3, 0, none⟩) (n + 1) (n + 1)), (16, .int .i64 (i : Nat))])
      ⟨_, _, [some { cells := iv (List.replicate (n + 1) 0) }, some { cells := iv (List.replicate (n + 1) 0) }, some { cells := iv (List.replicate (n + 1) 0) }, some { cells := iv (List.replicate (n + 1) 0) }], (Or.inl ⟨rfl, (by repeat (first | exact trivial | (refine And.intro rfl ?_)))⟩), 1, fun _ => 0, fun _ => 0, fun _ => 0, fun _ => 0, rfl, by omega, by omega, Ov.start _ _, fun _ _ _ => by simp, by simp only [tab_rep]; rfl, rfl⟩ ?_
  rintro rk t L' ⟨i, u, v, row, way, rfl, hi1, hi2, ov, huv, rfl, rfl⟩
  have hlt0 : True := trivial
  rcases Nat.lt_or_ge i (n + 1) with hlt | hge
  · have hin : i ≤ n := by omega
    have iv0 := ov.begin hi1 way
    have hV0 := ov.v0
    (repeat (first | (with_reducible refine AWo.cons ?_) | ((with_reducible refine Step.id ?_); first | ((with_reducible apply Step.move); exact rfl; exact rfl) | ((with_reducible apply Step.leq); exact rfl; exact rfl; exact rfl)) | (with_reducible refine AWo.nil ?_) | ((with_reducible apply AW.seq)) | ((with_reducible apply Then.n)) | ((with_reducible apply AW.regL)) | ((with_reducible apply AW.block)) | ((with_reducible apply AW.skip)) | ((with_reducible apply AW.condT); exact rfl; (focus ((simp only [decide_eq_true_eq, decide_eq_false_iff_not, Bool.not_eq_true', Bool.not_eq_false', Bool.not_true, Bool.not_false]; first | assumption | omega))))))
    ((with_reducible apply Step.ix1z (k := 0)); exact rfl; exact (Sl.mk (by omega)); exact rfl; (focus (decide +kernel)); exact rfl; (focus (omega)))
    (repeat (first | (with_reducible refine AWo.cons ?_) | ((with_reducible refine Step.id ?_); ((with_reducible apply Step.store (k := 2)); exact rfl; exact rfl; exact rfl; exact rfl; (focus (decide +kernel)); exact rfl; exact rfl; (focus (first | omega | (simp [iv, bv]; done) | (simp [iv, bv]; omega))); (focus (first | (simp only [List.nil_append, List.cons_append, List.set_cons_zero, List.set_cons_succ, iv_set, bv_set, iv_rep, bv_rep]; done) | (simp only [List.nil_append, List.cons_append, List.set_cons_zero, List.set_cons_succ, iv_set, bv_set, iv_rep, bv_rep]; rfl) | rfl)))) | (with_reducible refine AWo.nil ?_) | ((with_reducible apply Then.n))))
    rw [tab_set, up_cast]
    refine AW.joinG (fr [(4, .pointer (some ⟨x4, 0, none⟩)), (5, .pointer (some ⟨x5, 0, none⟩)), (6, .int .i64 0), (9, .int .i64 (n : Nat)), (11, .func (.func 89) #[] #[.pointer (some ⟨x3, 0, none⟩), .pointer (some ⟨x10, 0, none⟩), .pointer (some ⟨x4, 0, none⟩), .pointer (some ⟨x5, 0, none⟩)]), (12, .slice (some ⟨M.length + 0, 0, none⟩) (n + 1) (n + 1)), (13, .slice (some ⟨M.length + 1, 0, none⟩) (n + 1) (n + 1)), (14, .slice (some ⟨M.length + 2, 0, none⟩) (n + 1) (n + 1)), (15, .slice (some ⟨M.length + 3, 0, none⟩) (n + 1) (n + 1)), (16, .int .i64 (i : Nat)), (17, .slice (some ⟨M.length + 4, 0, none⟩) (n + 1) (n + 1)), (18, .slice (some ⟨M.length + 5, 0, none⟩) (n + 1) (n + 1))])
      (M ++ [some { cells := iv (tab u (n + 1)) }, some { cells := iv (tab v (n + 1)) }, some { cells := iv (tab (fun z => (((up row 0 i) z : Nat) : Int)) (n + 1)) }, some { cells := iv (tab (fun z => (((way) z : Nat) : Int)) (n + 1)) }, some { cells := iv (List.replicate (n + 1) 0) }, some { cells := bv (List.replicate (n + 1) false) }]) ?_ ?_
    · (repeat' (first | ((with_reducible refine Step.id ?_); first | ((with_reducible apply Step.move); exact rfl; exact rfl) | ((with_reducible apply Step.assign); exact rfl; exact rfl) | ((with_reducible apply Step.addE); exact rfl; exact rfl; (focus (assumption)); (focus (omega)); exact rfl) | ((with_reducible apply Step.make1 4); exact rfl; exact rfl; exact rfl; exact el27; (focus (omega)); exact rfl; (focus (first | (simp only [List.nil_append, List.cons_append, List.set_cons_zero, List.set_cons_succ, iv_set, bv_set, iv_rep, bv_rep]; done) | (simp only [List.nil_append, List.cons_append, List.set_cons_zero, List.set_cons_succ, iv_set, bv_set, iv_rep, bv_rep]; rfl) | rfl))) | ((with_reducible apply Step.make1 4); exact rfl; exact rfl; exact rfl; exact el88; (focus (omega)); exact rfl; (focus (first | (simp only [List.nil_append, List.cons_append, List.set_cons_zero, List.set_cons_succ, iv_set, bv_set, iv_rep, bv_rep]; done) | (simp only [List.nil_append, List.cons_append, List.set_cons_zero, List.set_cons_succ, iv_set, bv_set, iv_rep, bv_rep]; rfl) | rfl))) | ((with_reducible apply Step.make1 5); exact rfl; exact rfl; exact rfl; exact el27; (focus (omega)); exact rfl; (focus (first | (simp only [List.nil_append, List.cons_append, List.set_cons_zero, List.set_cons_succ, iv_set, bv_set, iv_rep, bv_rep]; done) | (simp only [List.nil_append, List.cons_append, List.set_cons_zero, List.set_cons_succ, iv_set, bv_set, iv_rep, bv_rep]; rfl) | rfl))) | ((with_reducible apply Step.make1 5); exact rfl; exact rfl; exact rfl; exact el88; (focus (omega)); exact rfl; (focus (first | (simp only [List.nil_append, List.cons_append, List.set_cons_zero, List.set_cons_succ, iv_set, bv_set, iv_rep, bv_rep]; done) | (simp only [List.nil_append, List.cons_append, List.set_cons_zero, List.set_cons_succ, iv_set, bv_set, iv_rep, bv_rep]; rfl) | rfl)))) | ((with_reducible apply Then.n)) | ((with_reducible apply AW.drawT fit (T := (.step 0 (.step 1 (.step 3 (.step 4 (.both (.step 2 (.step 6 (.step 5 (.step 7 .done)))) (.step 5 (.step 2 (.step 6 (.step 7 .done))))))))))); (focus (decide +kernel))) | ((with_reducible apply AWt.step); exact rfl) | ((with_reducible apply AWt.done)) | refine AWt.both ?_ ?_))
      all_goals first | (refine Gc.perm [0,1,2,3,4,5] rfl (by decide) ?_ (CellsOk.ren ?_) ?_; (focus (intro p hp; rcases p with _ | _ | _ | _ | _ | _ | p <;> first | rfl | exact absurd hp (lenB (n := 6) rfl))); (focus (repeat (first | exact CellsOk.nil | refine CellsOk.cons (by first | exact g0_iv _ | exact g0_bv _) ?_))); (focus ((repeat (first | exact trivial | (refine And.intro ⟨_, rfl, ?_⟩ ?_; (focus (first | exact Low.sg (by assumption) (by simp) | exact .int _ _ | (refine Ren.slice_sg ?_; (focus (first | (simp; done) | omega | (simp; omega))))))))); done))) | (refine Gc.perm [0,1,2,3,5,4] rfl (by decide) ?_ (CellsOk.ren ?_) ?_; (focus (intro p hp; rcases p with _ | _ | _ | _ | _ | _ | p <;> first | rfl | exact absurd hp (lenB (n := 6) rfl))); (focus (repeat (first | exact CellsOk.nil | refine CellsOk.cons (by first | exact g0_iv _ | exact g0_bv _) ?_))); (focus ((repeat (first | exact trivial | (refine And.intro ⟨_, rfl, ?_⟩ ?_; (focus (first | exact Low.sg (by assumption) (by simp) | exact .int _ _ | (refine Ren.slice_sg ?_; (focus (first | (simp; done) | omega | (simp; omega))))))))); done)))
    (repeat (first | (with_reducible refine AWo.cons ?_) | ((with_reducible refine Step.id ?_); first | ((with_reducible apply Step.move); exact rfl; exact rfl) | ((with_reducible apply Step.len); exact rfl; (focus (exact Sl.mk (by omega))); (focus (decide +kernel)); exact rfl)) | (with_reducible refine AWo.nil ?_) | ((with_reducible apply AW.seq)) | ((with_reducible apply Then.n)) | ((with_reducible apply AW.regL)) | ((with_reducible apply AW.block))))
    refine AW.loopT (fun rk t L' => ∃ k : Nat, rk = n + 1 - k ∧ k ≤ n + 1 ∧ L' = [some { cells := iv (tab u (n + 1)) }, some { cells := iv (tab v (n + 1)) }, some { cells := iv (tab (fun z => (((up row 0 i) z : Nat) : Int)) (n + 1)) }, some { cells := iv (tab (fun z => (((way) z : Nat) : Int)) (n + 1)) }, some { cells := iv (tab (fun x => if x < k then 1152921504606846976 else 0) (n + 1)) }, some { cells := bv (tabB (fun _ => false) (n + 1)) }] ∧
      t = [(4, .pointer (some ⟨x4, 0, none⟩)), (5, .pointer (some ⟨x5, 0, none⟩)), (6, .int .i64 0), (9, .int .i64 (n : Nat)), (11, .func (.func 89) #[] #[.pointer (some ⟨x3, 0, none⟩), .pointer (some ⟨x10, 0, none⟩), .pointer (some ⟨x4, 0, none⟩), .pointer (some ⟨x5, 0, none⟩)]), (12, .slice (some ⟨M.length + 0, 0, none⟩) (n + 1) (n + 1)), (13, .slice (some ⟨M.length + 1, 0, none⟩) (n + 1) (n + 1)), (14, .slice (some ⟨M.length + 2, 0, none⟩) (n + 1) (n + 1)), (15, .slice (some ⟨M.length + 3, 0, none⟩) (n + 1) (n + 1)), (16, .int .i64 (i : Nat)), (17, .slice (some ⟨M.length + 4, 0, none⟩) (n + 1) (n + 1)), (18, .slice (some ⟨M.length + 5, 0, none⟩) (n + 1) (n + 1)), (62, .int .i64 ((n + 1 : Nat) : Int)), (63, .int .i64 (k : Nat))])
      ⟨_, _, [some { cells := iv (tab u (n + 1)) }, some { cells := iv (tab v (n + 1)) }, some { cells := iv (tab (fun z => (((up row 0 i) z : Nat) : Int)) (n + 1)) }, some { cells := iv (tab (fun z => (((way) z : Nat) : Int)) (n + 1)) }, some { cells := iv (List.replicate (n + 1) 0) }, some { cells := bv (List.replicate (n + 1) false) }], (Or.inl ⟨rfl, (by repeat (first | exact trivial | (refine And.intro rfl ?_)))⟩), 0, rfl, Nat.zero_le _, by simp only [tab_rep, tabB_rep]; simp, rfl⟩ ?_
    · rintro rk t L' ⟨k, rfl, hk, rfl, rfl⟩
      rcases Nat.lt_or_ge k (n + 1) with hkl | hkg
      · (repeat (first | (with_reducible refine AWo.cons ?_) | ((with_reducible refine Step.id ?_); first | ((with_reducible apply Step.move); exact rfl; exact rfl) | ((with_reducible apply Step.assign); exact rfl; exact rfl) | ((with_reducible apply Step.ix1z); exact rfl; (focus (exact Sl.mk (by omega))); exact rfl; (focus (decide +kernel)); exact rfl; (focus (omega))) | ((with_reducible apply Step.add); exact rfl; exact rfl; (focus (omega)); exact rfl) | ((with_reducible apply Step.lss); exact rfl; exact rfl; exact rfl) | ((with_reducible apply Step.store (k := 4)); exact rfl; exact rfl; exact rfl; exact rfl; (focus (decide +kernel)); exact rfl; exact rfl; (focus (first | omega | (simp [iv, bv]; done) | (simp [iv, bv]; omega))); (focus (first | (simp only [List.nil_append, List.cons_append, List.set_cons_zero, List.set_cons_succ, iv_set, bv_set, iv_rep, bv_rep]; done) | (simp only [List.nil_append, List.cons_append, List.set_cons_zero, List.set_cons_succ, iv_set, bv_set, iv_rep, bv_rep]; rfl) | rfl)))) | (with_reducible refine AWo.nil ?_) | ((with_reducible apply AW.seq)) | ((with_reducible apply Then.n)) | ((with_reducible apply AW.regL)) | ((with_reducible apply AW.block)) | ((with_reducible apply InBlk.n)) | ((with_reducible apply AW.skip)) | ((with_reducible apply AW.condT); exact rfl; (focus ((simp only [decide_eq_true_eq, decide_eq_false_iff_not, Bool.not_eq_true', Bool.not_eq_false', Bool.not_true, Bool.not_false]; first | assumption | omega))))))
        refine ⟨_, _, _, by omega, (Or.inl ⟨rfl, (by repeat (first | exact trivial | (refine And.intro rfl ?_)))⟩), k + 1, rfl, by omega, ?_, rfl⟩
        rw [tab_set]
        have : tab (up (fun x => if x < k then (1152921504606846976 : Int) else 0) k 1152921504606846976) (n + 1) = tab (fun x => if x < k + 1 then 1152921504606846976 else 0) (n + 1) := tab_congr fun x hx => by
          simp only [up]
          by_cases e : x = k
          · subst e; rw [if_pos rfl, if_pos (by omega)]
          · rw [if_neg e]
            by_cases c : x < k
            · rw [if_pos c, if_pos (by omega)]
            · rw [if_neg c, if_neg (by omega)]
        rw [this]
      · obtain rfl : k = n + 1 := by omega
        have hbig : tab (fun x => if x < n + 1 then (1152921504606846976 : Int) else 0) (n + 1) = tab (fun _ => 1152921504606846976) (n + 1) := tab_congr fun x hx => if_pos hx
        rw [hbig]
        clear hbig
        (repeat (first | (with_reducible refine AWo.cons ?_) | ((with_reducible refine Step.id ?_); first | ((with_reducible apply Step.assign); exact rfl; exact rfl) | ((with_reducible apply Step.lss); exact rfl; exact rfl; exact rfl)) | (with_reducible refine AWo.nil ?_) | ((with_reducible apply AW.seq)) | ((with_reducible apply Then.n)) | ((with_reducible apply AW.regL)) | ((with_reducible apply AW.block)) | ((with_reducible apply AW.exit)) | ((with_reducible apply InBlk.hit)) | ((with_reducible apply Then.e)) | ((with_reducible apply AW.condF); exact rfl; (focus ((simp only [decide_eq_true_eq, decide_eq_false_iff_not, Bool.not_eq_true', Bool.not_eq_false', Bool.not_true, Bool.not_false]; first | assumption | omega))))))
        generalize hV : v 0 = V0 at *
        generalize hrow : up row 0 i = row1 at *
        generalize hle0 : (fun _ => (1152921504606846976 : Int)) = least0 at *
        generalize hus0 : (fun _ : Nat => false) = used0 at *
        clear hrow hle0 hus0 hV huv ov
        refine AW.loopT (fun rk t L' => ∃ (u v least : Nat → Int) (way : Nat → Nat) (used : Nat → Bool) (j : Nat) (rest : List Nat), rk = n + 1 - rest.length ∧ Iv (lossN c l r L R) n i V0 u v row1 way least used j rest ∧
          L' = [some { cells := iv (tab u (n + 1)) }, some { cells := iv (tab v (n + 1)) }, some { cells := iv (tab (fun z => (((row1) z : Nat) : Int)) (n + 1)) }, some { cells := iv (tab (fun z => (((way) z : Nat) : Int)) (n + 1)) }, some { cells := iv (tab (least) (n + 1)) }, some { cells := bv (tabB (used) (n + 1)) }] ∧ t = [(4, .pointer (some ⟨x4, 0, none⟩)), (5, .pointer (some ⟨x5, 0, none⟩)), (6, .int .i64 0), (9, .int .i64 (n : Nat)), (11, .func (.func 89) #[] #[.pointer (some ⟨x3, 0, none⟩), .pointer (some ⟨x10, 0, none⟩), .pointer (some ⟨x4, 0, none⟩), .pointer (some ⟨x5, 0, none⟩)]), (12, .slice (some ⟨M.length + 0, 0, none⟩) (n + 1) (n + 1)), (13, .slice (some ⟨M.length + 1, 0, none⟩) (n + 1) (n + 1)), (14, .slice (some ⟨M.length + 2, 0, none⟩) (n + 1) (n + 1)), (15, .slice (some ⟨M.length + 3, 0, none⟩) (n + 1) (n + 1)), (16, .int .i64 (i : Nat)), (17, .slice (some ⟨M.length + 4, 0, none⟩) (n + 1) (n + 1)), (18, .slice (some ⟨M.length + 5, 0, none⟩) (n + 1) (n + 1)), (20, .int .i64 (j : Nat))])
          ⟨_, _, _, (Or.inl ⟨rfl, (by repeat (first | exact trivial | (refine And.intro rfl ?_)))⟩), u, v, _, way, _, 0, [], rfl, iv0, rfl, rfl⟩ ?_
        clear iv0
        clear u v way least0 used0
        rintro rk t L' ⟨u, v, least, way, used, j, rest, rfl, iw, rfl, rfl⟩
        have hjn := iw.jn
        have hrl := Iv.len iw
        by_cases hrj : row1 j = 0
        · have hrj0 : (((row1 j : Nat) : Int)) = 0 := by omega
          (repeat (first | (with_reducible refine AWo.cons ?_) | ((with_reducible refine Step.id ?_); first | ((with_reducible apply Step.move); exact rfl; exact rfl) | ((with_reducible apply Step.load); exact rfl; (focus (decide +kernel)); exact rfl; (focus (exact rt2 _ (by omega)))) | ((with_reducible apply Step.ix1z); exact rfl; (focus (exact Sl.mk (by omega))); exact rfl; (focus (decide +kernel)); exact rfl; (focus (omega))) | ((with_reducible apply Step.neq); exact rfl; exact rfl; exact rfl)) | (with_reducible refine AWo.nil ?_) | ((with_reducible apply AW.seq)) | ((with_reducible apply Then.n)) | ((with_reducible apply AW.regL)) | ((with_reducible apply AW.block)) | ((with_reducible apply AW.exit)) | ((with_reducible apply InBlk.hit)) | ((with_reducible apply Then.e)) | ((with_reducible apply AW.condF); exact rfl; (focus ((simp only [decide_eq_true_eq, decide_eq_false_iff_not, Bool.not_eq_true', Bool.not_eq_false', Bool.not_true, Bool.not_false]; first | assumption | omega))))))
          have ag := iw.found hin hLs hV0 hrj
          have hbu := fun r => iw.bu hin hLs (r := r)
          have hbv := fun k => iw.bv hin hLs (k := k)
          have huz := iw.uz
          have huv' : ∀ k, 1 ≤ k → k ≤ n → -1000000000 ≤ u k ∧ u k ≤ 0 ∧ -1000000000 ≤ v k ∧ v k ≤ 0 := fun k k1 k2 => by
            have h2 := hbv k k1 k2
            by_cases hk : k ≤ i
            · have h1 := hbu k k1 hk; omega
            · have h1 := huz k (by omega); omega
          clear hbu hbv huz iw hrj hrj0 hjn hrl
          refine AW.loopT (fun rk t L' => ∃ (row : Nat → Nat) (j : Nat) (rest : List Nat), rk = rest.length ∧ Ag (lossN c l r L R) n i u v row way j rest ∧
            L' = [some { cells := iv (tab u (n + 1)) }, some { cells := iv (tab v (n + 1)) }, some { cells := iv (tab (fun z => (((row) z : Nat) : Int)) (n + 1)) }, some { cells := iv (tab (fun z => (((way) z : Nat) : Int)) (n + 1)) }, some { cells := iv (tab (least) (n + 1)) }, some { cells := bv (tabB (used) (n + 1)) }] ∧ t = [(4, .pointer (some ⟨x4, 0, none⟩)), (5, .pointer (some ⟨x5, 0, none⟩)), (6, .int .i64 0), (9, .int .i64 (n : Nat)), (11, .func (.func 89) #[] #[.pointer (some ⟨x3, 0, none⟩), .pointer (some ⟨x10, 0, none⟩), .pointer (some ⟨x4, 0, none⟩), .pointer (some ⟨x5, 0, none⟩)]), (12, .slice (some ⟨M.length + 0, 0, none⟩) (n + 1) (n + 1)), (13, .slice (some ⟨M.length + 1, 0, none⟩) (n + 1) (n + 1)), (14, .slice (some ⟨M.length + 2, 0, none⟩) (n + 1) (n + 1)), (15, .slice (some ⟨M.length + 3, 0, none⟩) (n + 1) (n + 1)), (16, .int .i64 (i : Nat)), (17, .slice (some ⟨M.length + 4, 0, none⟩) (n + 1) (n + 1)), (18, .slice (some ⟨M.length + 5, 0, none⟩) (n + 1) (n + 1)), (20, .int .i64 (j : Nat))])
            ⟨_, _, _, (Or.inl ⟨rfl, (by repeat (first | exact trivial | (refine And.intro rfl ?_)))⟩), row1, j, rest, rfl, ag, rfl, rfl⟩ ?_
          clear ag
          clear rest j row1
          rintro rk t L' ⟨row, j, rest, rfl, ag, rfl, rfl⟩
          have hjn := ag.jn
          by_cases hj0 : j = 0
          · subst hj0
            (repeat (first | (with_reducible refine AWo.cons ?_) | ((with_reducible refine Step.id ?_); first | ((with_reducible apply Step.move); exact rfl; exact rfl) | ((with_reducible apply Step.assign); exact rfl; exact rfl) | ((with_reducible apply Step.add); exact rfl; exact rfl; (focus (omega)); exact rfl) | ((with_reducible apply Step.neq); exact rfl; exact rfl; exact rfl)) | (with_reducible refine AWo.nil ?_) | ((with_reducible apply AW.seq)) | ((with_reducible apply Then.n)) | ((with_reducible apply AW.regL)) | ((with_reducible apply AW.exit)) | ((with_reducible apply InBlk.n)) | ((with_reducible apply InBlk.hit)) | ((with_reducible apply Then.e)) | ((with_reducible apply AW.condF); exact rfl; (focus (rfl)))))
            refine ⟨_, _, [some { cells := iv (tab u (n + 1)) }, some { cells := iv (tab v (n + 1)) }, some { cells := iv (tab (fun z => (((row) z : Nat) : Int)) (n + 1)) }, some { cells := iv (tab (fun z => (((way) z : Nat) : Int)) (n + 1)) }], ?_, (Back.trim rfl rfl (by repeat (first | exact CellsOk.nil | refine CellsOk.cons (by exact g0_iv _) ?_)) (by repeat (first | exact trivial | (refine And.intro ⟨rfl, by (first | exact Low.rid (by assumption) (by simp) | exact .int _ _ | exact .slice _ _ _ _ (by first | (simp; done) | omega | (simp; omega)))⟩ ?_)))), i + 1, u, v, row, way, rfl, by omega, by omega, ag.done, huv', rfl, rfl⟩
            omega
          · have hj1 : ¬ ((j : Nat) : Int) = 0 := by omega
            obtain ⟨wn, rest', ag', hlt'⟩ := ag.step hj0
            (repeat (first | (with_reducible refine AWo.cons ?_) | ((with_reducible refine Step.id ?_); first | ((with_reducible apply Step.move); exact rfl; exact rfl) | ((with_reducible apply Step.assign); exact rfl; exact rfl) | ((with_reducible apply Step.load); exact rfl; (focus (decide +kernel)); exact rfl; (focus (first | exact rt3 _ (by omega) | exact rt2 _ (by omega)))) | ((with_reducible apply Step.ix1z); exact rfl; (focus (exact Sl.mk (by omega))); exact rfl; (focus (decide +kernel)); exact rfl; (focus (omega))) | ((with_reducible apply Step.neq); exact rfl; exact rfl; exact rfl) | ((with_reducible apply Step.store (k := 2)); exact rfl; exact rfl; exact rfl; exact rfl; (focus (decide +kernel)); exact rfl; exact rfl; (focus (first | omega | (simp [iv, bv]; done) | (simp [iv, bv]; omega))); (focus (first | (simp only [List.nil_append, List.cons_append, List.set_cons_zero, List.set_cons_succ, iv_set, bv_set, iv_rep, bv_rep]; done) | (simp only [List.nil_append, List.cons_append, List.set_cons_zero, List.set_cons_succ, iv_set, bv_set, iv_rep, bv_rep]; rfl) | rfl)))) | (with_reducible refine AWo.nil ?_) | ((with_reducible apply AW.seq)) | ((with_reducible apply Then.n)) | ((with_reducible apply AW.regL)) | ((with_reducible apply AW.block)) | ((with_reducible apply InBlk.n)) | ((with_reducible apply AW.skip)) | ((with_reducible apply AW.condT); exact rfl; (focus ((simp only [decide_eq_true_eq, decide_eq_false_iff_not, Bool.not_eq_true', Bool.not_eq_false', Bool.not_true, Bool.not_false]; first | assumption | omega))))))
            exact ⟨_, _, [some { cells := iv (tab u (n + 1)) }, some { cells := iv (tab v (n + 1)) }, some { cells := iv (tab (fun z => (((up row j (row (way j))) z : Nat) : Int)) (n + 1)) }, some { cells := iv (tab (fun z => (((way) z : Nat) : Int)) (n + 1)) }, some { cells := iv (tab (least) (n + 1)) }, some { cells := bv (tabB (used) (n + 1)) }], hlt', by rw [tab_set, up_cast]; exact (Or.inl ⟨rfl, (by repeat (first | exact trivial | (refine And.intro rfl ?_)))⟩), _, _, rest', rfl, ag', rfl, rfl⟩
        · have hrj1 : ¬ (((row1 j : Nat) : Int)) = 0 := by omega
          have hrb := iw.rb j hjn
          (repeat (first | (with_reducible refine AWo.cons ?_) | ((with_reducible refine Step.id ?_); first | ((with_reducible apply Step.move); exact rfl; exact rfl) | ((with_reducible apply Step.assign); exact rfl; exact rfl) | ((with_reducible apply Step.load); exact rfl; (focus (decide +kernel)); exact rfl; (focus (exact rt2 _ (by omega)))) | ((with_reducible apply Step.ix1z); exact rfl; (focus (exact Sl.mk (by omega))); exact rfl; (focus (decide +kernel)); exact rfl; (focus (omega))) | ((with_reducible apply Step.neq); exact rfl; exact rfl; exact rfl) | ((with_reducible apply Step.store (k := 5)); exact rfl; exact rfl; exact rfl; exact rfl; (focus (decide +kernel)); exact rfl; exact rfl; (focus (first | omega | (simp [iv, bv]; done) | (simp [iv, bv]; omega))); (focus (first | (simp only [List.nil_append, List.cons_append, List.set_cons_zero, List.set_cons_succ, iv_set, bv_set, iv_rep, bv_rep]; done) | (simp only [List.nil_append, List.cons_append, List.set_cons_zero, List.set_cons_succ, iv_set, bv_set, iv_rep, bv_rep]; rfl) | rfl)))) | (with_reducible refine AWo.nil ?_) | ((with_reducible apply AW.seq)) | ((with_reducible apply Then.n)) | ((with_reducible apply AW.regL)) | ((with_reducible apply AW.block)) | ((with_reducible apply AW.skip)) | ((with_reducible apply AW.condT); exact rfl; (focus ((simp only [decide_eq_true_eq, decide_eq_false_iff_not, Bool.not_eq_true', Bool.not_eq_false', Bool.not_true, Bool.not_false]; first | assumption | omega))))))
          rw [tabB_set]
          have hsc := iw.scan hin hLs hrj
          have hus := fun k hk => iw.used' (k := k) hk
          have h0T : (0 : Nat) ∈ j :: rest := iw.ch.zero
          have hwyT : ∀ k, k ∈ j :: rest → wS (dK (lossN c l r L R) u v (row1 j)) least (up used j true) j way n k = way k := fun k hk => if_neg fun h => by
            have h1 := h.2.2.1
            rw [hus k h.2.1] at h1
            simp only [decide_eq_false_iff_not] at h1
            exact h1 hk
          have hnx := iw.next hin hLs hrj hwyT hsc
          have hbu := fun r => iw.bu hin hLs (r := r)
          have hbv := fun k => iw.bv hin hLs (k := k)
          have hle : ∀ k, 1 ≤ k → k ≤ n → least k = 1152921504606846976 ∨ (-1000000000 ≤ least k ∧ least k ≤ 3000000000) ∨ up used j true k = true := fun k k1 k2 => by
            by_cases e : rest = []
            · exact .inl (iw.l0 e k k1 k2)
            · by_cases hk : k ∈ j :: rest
              · exact .inr (.inr (by rw [hus k k2]; simpa using hk))
              · obtain ⟨_, h2, h3⟩ := iw.l1 k k1 k2 (fun h => hk (List.mem_cons_of_mem _ h)) e
                have h4 := iw.rn _ h2
                have h5 := iw.rb _ h4.1
                have b1 := hbu (row1 (way k)) (by omega) h5
                have b2 := hbv k k1 k2
                have b3 := hLs (row1 (way k)) k (by omega) (by omega) k1 k2
                exact .inr (.inl (by omega))
          have hinjU : ∀ k, k ≤ n → up used j true k = true → ∀ c, c < k → up used j true c = true → row1 c ≠ row1 k := fun k hk hu c hck huc e => by
            rw [hus c (by omega)] at huc
            simp only [decide_eq_true_eq] at huc
            have hz : row1 c ≠ 0 := by
              rcases List.mem_cons.1 huc with h | h
              · rw [h]; exact hrj
              · exact (iw.rn c h).2
            have := iw.inj c k (by omega) hk e hz
            omega
          have hrowT : ∀ k, k ≤ n → up used j true k = true → 1 ≤ row1 k ∧ row1 k ≤ i := fun k hk hu => by
            rw [hus k hk] at hu
            simp only [decide_eq_true_eq] at hu
            have hz : row1 k ≠ 0 := by
              rcases List.mem_cons.1 hu with h | h
              · rw [h]; exact hrj
              · exact (iw.rn k h).2
            exact ⟨by omega, iw.rb k hk⟩
          have hv0 := iw.v0
          have hui := iw.ul
          have hui0 := (iw.bu hin hLs (r := i) hi1 (Nat.le_refl _)).2
          have hu0 : up used j true 0 = true := by rw [hus 0 (Nat.zero_le _)]; simpa using h0T
          have hlS : ∀ k, k ≤ n → up used j true k = false → -1000000000 ≤ lS (dK (lossN c l r L R) u v (row1 j)) least (up used j true) n k ∧ lS (dK (lossN c l r L R) u v (row1 j)) least (up used j true) n k ≤ 3000000000 := fun k hk hu => by
            by_cases k0 : k = 0
            · subst k0; rw [hu0] at hu; cases hu
            · rw [hus k hk] at hu
              simp only [decide_eq_false_iff_not] at hu
              obtain ⟨_, _, _, h1, h2⟩ := hsc.ok k (by omega) hk hu
              omega
          clear hsc hwyT h0T hus iw
          generalize hus1 : up used j true = used1 at *
          generalize hdk : dK (lossN c l r L R) u v (row1 j) = dk at *
          have hdk' : ∀ k, dk k = lossN c l r L R (row1 j) k - u (row1 j) - v k := fun k => by rw [← hdk]; rfl
          clear hus1 hdk
          generalize hLN : lS dk least used1 n = LN at *
          have hLN' : ∀ k, k < n → LN (k + 1) = lS dk least used1 (k + 1) (k + 1) := fun k hk => by rw [← hLN]; exact lS_at (Nat.le_refl _) (by omega)
          refine AW.loopT (fun rk t L' => ∃ k : Nat, rk = n - k ∧ k ≤ n ∧ L' = [some { cells := iv (tab u (n + 1)) }, some { cells := iv (tab v (n + 1)) }, some { cells := iv (tab (fun z => (((row1) z : Nat) : Int)) (n + 1)) }, some { cells := iv (tab (fun z => (((wS dk least used1 j way k) z : Nat) : Int)) (n + 1)) }, some { cells := iv (tab (lS dk least used1 k) (n + 1)) }, some { cells := bv (tabB (used1) (n + 1)) }] ∧
            t = [(4, .pointer (some ⟨x4, 0, none⟩)), (5, .pointer (some ⟨x5, 0, none⟩)), (6, .int .i64 0), (9, .int .i64 (n : Nat)), (11, .func (.func 89) #[] #[.pointer (some ⟨x3, 0, none⟩), .pointer (some ⟨x10, 0, none⟩), .pointer (some ⟨x4, 0, none⟩), .pointer (some ⟨x5, 0, none⟩)]), (12, .slice (some ⟨M.length + 0, 0, none⟩) (n + 1) (n + 1)), (13, .slice (some ⟨M.length + 1, 0, none⟩) (n + 1) (n + 1)), (14, .slice (some ⟨M.length + 2, 0, none⟩) (n + 1) (n + 1)), (15, .slice (some ⟨M.length + 3, 0, none⟩) (n + 1) (n + 1)), (16, .int .i64 (i : Nat)), (17, .slice (some ⟨M.length + 4, 0, none⟩) (n + 1) (n + 1)), (18, .slice (some ⟨M.length + 5, 0, none⟩) (n + 1) (n + 1)), (20, .int .i64 (j : Nat)), (21, .int .i64 (dS LN used1 k).1), (22, .int .i64 ((dS LN used1 k).2 : Nat)), (23, .int .i64 ((k + 1 : Nat) : Int))])
            ⟨_, [(4, .pointer (some ⟨x4, 0, none⟩)), (5, .pointer (some ⟨x5, 0, none⟩)), (6, .int .i64 0), (9, .int .i64 (n : Nat)), (11, .func (.func 89) #[] #[.pointer (some ⟨x3, 0, none⟩), .pointer (some ⟨x10, 0, none⟩), .pointer (some ⟨x4, 0, none⟩), .pointer (some ⟨x5, 0, none⟩)]), (12, .slice (some ⟨M.length + 0, 0, none⟩) (n + 1) (n + 1)), (13, .slice (some ⟨M.length + 1, 0, none⟩) (n + 1) (n + 1)), (14, .slice (some ⟨M.length + 2, 0, none⟩) (n + 1) (n + 1)), (15, .slice (some ⟨M.length + 3, 0, none⟩) (n + 1) (n + 1)), (16, .int .i64 (i : Nat)), (17, .slice (some ⟨M.length + 4, 0, none⟩) (n + 1) (n + 1)), (18, .slice (some ⟨M.length + 5, 0, none⟩) (n + 1) (n + 1)), (20, .int .i64 (j : Nat)), (21, .int .i64 (dS LN used1 0).1), (22, .int .i64 ((dS LN used1 0).2 : Nat)), (23, .int .i64 ((0 + 1 : Nat) : Int))], _, by simp only [wS_zero, lS_zero]; exact (Or.inl ⟨rfl, (by repeat (first | exact trivial | (refine And.intro rfl ?_)))⟩), 0, rfl, Nat.zero_le _, rfl, rfl⟩ ?_
          · rintro rk t L' ⟨k, rfl, hk, rfl, rfl⟩
            rcases Nat.lt_or_ge k n with hkl | hkg
            · cases hu : used1 (k + 1) with
              | true =>
                have m1 : ¬ (used1 (k + 1) = false ∧ dk (k + 1) < least (k + 1)) := fun h => by rw [hu] at h; cases h.1
                have m2 := dS_no (L := LN) (used := used1) (k := k) fun h => by rw [hu] at h; cases h.1
                have hr5 : ∀ (b0 b1 b2 b3 b4 : Option Blk) (T : AM), Rd (M ++ (b0 :: b1 :: b2 :: b3 :: b4 :: some { cells := bv (tabB (used1) (n + 1)) } :: T)) (M.length + 5) (k + 1) (.bool true) := fun _ _ _ _ _ _ => by rw [← hu]; exact rt5 _ (by omega)
                (repeat (first | (with_reducible refine AWo.cons ?_) | ((with_reducible refine Step.id ?_); first | ((with_reducible apply Step.move); exact rfl; exact rfl) | ((with_reducible apply Step.assign); exact rfl; exact rfl) | ((with_reducible apply Step.load); exact rfl; (focus (decide +kernel)); exact rfl; (focus (exact hr5 _ _ _ _ _ _))) | ((with_reducible apply Step.ix1z); exact rfl; (focus (exact Sl.mk (by omega))); exact rfl; (focus (decide +kernel)); exact rfl; (focus (omega))) | ((with_reducible apply Step.add); exact rfl; exact rfl; (focus (omega)); exact rfl) | ((with_reducible apply Step.leq); exact rfl; exact rfl; exact rfl)) | (with_reducible refine AWo.nil ?_) | ((with_reducible apply AW.seq)) | ((with_reducible apply Then.n)) | ((with_reducible apply AW.regL)) | ((with_reducible apply AW.block)) | ((with_reducible apply AW.exit)) | ((with_reducible apply InBlk.hit)) | ((with_reducible apply Then.e)) | ((with_reducible apply AW.skip)) | ((with_reducible apply AW.condT); exact rfl; (focus (first | rfl | (simp only [decide_eq_true_eq, decide_eq_false_iff_not, Bool.not_eq_true', Bool.not_eq_false', Bool.not_true, Bool.not_false]; first | assumption | omega))))))
                exact ⟨_, [(4, .pointer (some ⟨x4, 0, none⟩)), (5, .pointer (some ⟨x5, 0, none⟩)), (6, .int .i64 0), (9, .int .i64 (n : Nat)), (11, .func (.func 89) #[] #[.pointer (some ⟨x3, 0, none⟩), .pointer (some ⟨x10, 0, none⟩), .pointer (some ⟨x4, 0, none⟩), .pointer (some ⟨x5, 0, none⟩)]), (12, .slice (some ⟨M.length + 0, 0, none⟩) (n + 1) (n + 1)), (13, .slice (some ⟨M.length + 1, 0, none⟩) (n + 1) (n + 1)), (14, .slice (some ⟨M.length + 2, 0, none⟩) (n + 1) (n + 1)), (15, .slice (some ⟨M.length + 3, 0, none⟩) (n + 1) (n + 1)), (16, .int .i64 (i : Nat)), (17, .slice (some ⟨M.length + 4, 0, none⟩) (n + 1) (n + 1)), (18, .slice (some ⟨M.length + 5, 0, none⟩) (n + 1) (n + 1)), (20, .int .i64 (j : Nat)), (21, .int .i64 (dS LN used1 k).1), (22, .int .i64 ((dS LN used1 k).2 : Nat)), (23, .int .i64 ((k + 1 + 1 : Nat) : Int))], _, by omega, (Or.inl ⟨rfl, (by repeat (first | exact trivial | (refine And.intro rfl ?_)))⟩), k + 1, rfl, by omega, by rw [wS_miss m1, lS_miss m1], by rw [m2]⟩
              | false =>
                have hr5 : ∀ (b0 b1 b2 b3 b4 : Option Blk) (T : AM), Rd (M ++ (b0 :: b1 :: b2 :: b3 :: b4 :: some { cells := bv (tabB (used1) (n + 1)) } :: T)) (M.length + 5) (k + 1) (.bool false) := fun _ _ _ _ _ _ => by rw [← hu]; exact rt5 _ (by omega)
                have b1 := hbu (row1 j) (by omega) hrb
                have b2 := hbv (k + 1) (by omega) (by omega)
                have b3 := hLs (row1 j) (k + 1) (by omega) (by omega) (by omega) (by omega)
                (repeat (first | (with_reducible refine AWo.cons ?_) | ((with_reducible refine Step.id ?_); first | ((with_reducible apply Step.move); exact rfl; exact rfl) | ((with_reducible apply Step.load); exact rfl; (focus (decide +kernel)); exact rfl; (focus (exact hr5 _ _ _ _ _ _))) | ((with_reducible apply Step.ix1z); exact rfl; (focus (exact Sl.mk (by omega))); exact rfl; (focus (decide +kernel)); exact rfl; (focus (omega))) | ((with_reducible apply Step.leq); exact rfl; exact rfl; exact rfl)) | (with_reducible refine AWo.nil ?_) | ((fail_if_success (with_reducible refine AW.atR (id := 23) ?_)); ((with_reducible apply AW.seq))) | ((with_reducible apply Then.n)) | ((with_reducible apply AW.regL)) | ((with_reducible apply AW.block)) | ((with_reducible apply AW.skip)) | ((with_reducible apply AW.condT); exact rfl; (focus ((simp only [decide_eq_true_eq, decide_eq_false_iff_not, Bool.not_eq_true', Bool.not_eq_false', Bool.not_true, Bool.not_false]; first | assumption | omega)))) | ((with_reducible apply AW.condF); exact rfl; (focus (rfl)))))
                refine AW.joinS [(4, .pointer (some ⟨x4, 0, none⟩)), (5, .pointer (some ⟨x5, 0, none⟩)), (6, .int .i64 0), (9, .int .i64 (n : Nat)), (11, .func (.func 89) #[] #[.pointer (some ⟨x3, 0, none⟩), .pointer (some ⟨x10, 0, none⟩), .pointer (some ⟨x4, 0, none⟩), .pointer (some ⟨x5, 0, none⟩)]), (12, .slice (some ⟨M.length + 0, 0, none⟩) (n + 1) (n + 1)), (13, .slice (some ⟨M.length + 1, 0, none⟩) (n + 1) (n + 1)), (14, .slice (some ⟨M.length + 2, 0, none⟩) (n + 1) (n + 1)), (15, .slice (some ⟨M.length + 3, 0, none⟩) (n + 1) (n + 1)), (16, .int .i64 (i : Nat)), (17, .slice (some ⟨M.length + 4, 0, none⟩) (n + 1) (n + 1)), (18, .slice (some ⟨M.length + 5, 0, none⟩) (n + 1) (n + 1)), (20, .int .i64 (j : Nat)), (21, .int .i64 (dS LN used1 k).1), (22, .int .i64 ((dS LN used1 k).2 : Nat)), (23, .int .i64 ((k + 1 : Nat) : Int)), (24, .int .i64 (lossN c l r L R (row1 j) (k + 1) - u (row1 j) - v (k + 1)))] (M ++ [some { cells := iv (tab u (n + 1)) }, some { cells := iv (tab v (n + 1)) }, some { cells := iv (tab (fun z => (((row1) z : Nat) : Int)) (n + 1)) }, some { cells := iv (tab (fun z => (((wS dk least used1 j way k) z : Nat) : Int)) (n + 1)) }, some { cells := iv (tab (lS dk least used1 k) (n + 1)) }, some { cells := bv (tabB (used1) (n + 1)) }]) ?_ ?_
                · (repeat' (first | ((with_reducible refine Step.id ?_); first | ((with_reducible apply Step.move); exact rfl; exact rfl) | ((with_reducible apply Step.assign); exact rfl; exact rfl) | ((with_reducible apply Step.load); exact rfl; (focus (decide +kernel)); exact rfl; (focus (first | exact rt0 _ (by omega) | exact rt1 _ (by omega) | exact rt2 _ (by omega)))) | ((with_reducible apply Step.ix1z); exact rfl; (focus (exact Sl.mk (by omega))); exact rfl; (focus (decide +kernel)); exact rfl; (focus (omega))) | ((with_reducible apply Step.sub); exact rfl; exact rfl; (focus (omega)); exact rfl) | ((with_reducible apply Step.callV fit); exact rfl; exact rfl; exact hf; exact hb; exact rfl; exact (hloss _ _ _ (by omega) (by omega) (by omega) (by omega)))) | ((with_reducible apply Then.n)) | ((with_reducible apply AW.drawT fit (T := (.step 0 (.step 1 (.step 2 (.step 3 (.step 4 (.step 5 (.step 7 (.step 8 (.step 9 (.step 10 (.step 15 (.step 16 (.step 17 (.both (.step 6 (.step 11 (.step 12 (.step 13 (.step 14 (.step 18 (.step 19 (.step 20 .done)))))))) (.both (.step 11 (.step 12 (.both (.step 6 (.step 13 (.step 14 (.step 18 (.step 19 (.step 20 .done)))))) (.both (.step 13 (.both (.step 6 (.step 14 (.step 18 (.step 19 (.step 20 .done))))) (.step 18 (.step 6 (.step 14 (.step 19 (.step 20 .done))))))) (.step 18 (.both (.step 6 (.step 13 (.step 14 (.step 19 (.step 20 .done))))) (.step 13 (.step 6 (.step 14 (.step 19 (.step 20 .done))))))))))) (.step 18 (.both (.step 6 (.step 11 (.step 12 (.step 13 (.step 14 (.step 19 (.step 20 .done))))))) (.step 11 (.step 12 (.both (.step 6 (.step 13 (.step 14 (.step 19 (.step 20 .done))))) (.step 13 (.step 6 (.step 14 (.step 19 (.step 20 .done))))))))))))))))))))))))))); (focus (decide +kernel))) | ((with_reducible apply AWt.step); exact rfl) | ((with_reducible apply AWt.done)) | refine AWt.both ?_ ?_))
                  all_goals exact ⟨rfl, (by repeat (first | exact trivial | (refine And.intro rfl ?_)))⟩
                rw [← hdk' (k + 1)]
                have hLk := hLN' k hkl
                have hnx' := lS_next (d := dk) (least := least) (used := used1) (k := k)
                have hr4 : ∀ (b0 b1 b2 b3 : Option Blk) (T : AM), Rd (M ++ (b0 :: b1 :: b2 :: b3 :: some { cells := iv (tab (lS dk least used1 k) (n + 1)) } :: T)) (M.length + 4) (k + 1) (.int .i64 (least (k + 1))) := fun _ _ _ _ _ => by rw [← hnx']; exact rt4 _ (by omega)
                by_cases hh : dk (k + 1) < least (k + 1)
                · have w1 := wS_hit (j := j) (way := way) hu hh
                  have w2 := lS_hit hu hh
                  have hLv : LN (k + 1) = dk (k + 1) := by rw [hLk, ← w2, up_same]
                  have hr4' : ∀ (b0 b1 b2 b3 : Option Blk) (T : AM), Rd (M ++ (b0 :: b1 :: b2 :: b3 :: some { cells := iv ((tab (lS dk least used1 k) (n + 1)).set (k + 1) (dk (k + 1))) } :: T)) (M.length + 4) (k + 1) (.int .i64 (dk (k + 1))) := fun b0 b1 b2 b3 T => by
                    rw [tab_set, w2]
                    have := up_same (lS dk least used1 k) (k + 1) (dk (k + 1))
                    rw [w2] at this
                    have h := rt4 (M := M) (T := T) (b0 := b0) (b1 := b1) (b2 := b2) (b3 := b3) (lS dk least used1 (k + 1)) (show k + 1 < n + 1 by omega)
                    rw [this] at h
                    exact h
                  by_cases hd : dk (k + 1) < (dS LN used1 k).1
                  · have m2 := dS_yes hu (L := LN) (by rw [hLv]; exact hd)
                    (repeat (first | (with_reducible refine AWo.cons ?_) | ((with_reducible refine Step.id ?_); first | ((with_reducible apply Step.move); exact rfl; exact rfl) | ((with_reducible apply Step.assign); exact rfl; exact rfl) | ((with_reducible apply Step.load); exact rfl; (focus (decide +kernel)); exact rfl; (focus (first | exact hr4 _ _ _ _ _ | exact hr4' _ _ _ _ _))) | ((with_reducible apply Step.ix1z); exact rfl; (focus (exact Sl.mk (by omega))); exact rfl; (focus (decide +kernel)); exact rfl; (focus (omega))) | ((with_reducible apply Step.add); exact rfl; exact rfl; (focus (omega)); exact rfl) | ((with_reducible apply Step.lss); exact rfl; exact rfl; exact rfl) | ((with_reducible apply Step.store (k := 3)); exact rfl; exact rfl; exact rfl; exact rfl; (focus (decide +kernel)); exact rfl; exact rfl; (focus (first | omega | (simp [iv, bv]; done) | (simp [iv, bv]; omega))); (focus (first | (simp only [List.nil_append, List.cons_append, List.set_cons_zero, List.set_cons_succ, iv_set, bv_set, iv_rep, bv_rep]; done) | (simp only [List.nil_append, List.cons_append, List.set_cons_zero, List.set_cons_succ, iv_set, bv_set, iv_rep, bv_rep]; rfl) | rfl))) | ((with_reducible apply Step.store (k := 4)); exact rfl; exact rfl; exact rfl; exact rfl; (focus (decide +kernel)); exact rfl; exact rfl; (focus (first | omega | (simp [iv, bv]; done) | (simp [iv, bv]; omega))); (focus (first | (simp only [List.nil_append, List.cons_append, List.set_cons_zero, List.set_cons_succ, iv_set, bv_set, iv_rep, bv_rep]; done) | (simp only [List.nil_append, List.cons_append, List.set_cons_zero, List.set_cons_succ, iv_set, bv_set, iv_rep, bv_rep]; rfl) | rfl)))) | (with_reducible refine AWo.nil ?_) | ((with_reducible apply AW.seq)) | ((with_reducible apply Then.n)) | ((with_reducible apply AW.regL)) | ((with_reducible apply InBlk.n)) | ((with_reducible apply AW.condT); exact rfl; (focus ((simp only [decide_eq_true_eq, decide_eq_false_iff_not, Bool.not_eq_true', Bool.not_eq_false', Bool.not_true, Bool.not_false]; first | assumption | omega))))))
                    exact ⟨_, [(4, .pointer (some ⟨x4, 0, none⟩)), (5, .pointer (some ⟨x5, 0, none⟩)), (6, .int .i64 0), (9, .int .i64 (n : Nat)), (11, .func (.func 89) #[] #[.pointer (some ⟨x3, 0, none⟩), .pointer (some ⟨x10, 0, none⟩), .pointer (some ⟨x4, 0, none⟩), .pointer (some ⟨x5, 0, none⟩)]), (12, .slice (some ⟨M.length + 0, 0, none⟩) (n + 1) (n + 1)), (13, .slice (some ⟨M.length + 1, 0, none⟩) (n + 1) (n + 1)), (14, .slice (some ⟨M.length + 2, 0, none⟩) (n + 1) (n + 1)), (15, .slice (some ⟨M.length + 3, 0, none⟩) (n + 1) (n + 1)), (16, .int .i64 (i : Nat)), (17, .slice (some ⟨M.length + 4, 0, none⟩) (n + 1) (n + 1)), (18, .slice (some ⟨M.length + 5, 0, none⟩) (n + 1) (n + 1)), (20, .int .i64 (j : Nat)), (21, .int .i64 (dk (k + 1))), (22, .int .i64 ((k + 1 : Nat) : Int)), (23, .int .i64 ((k + 1 + 1 : Nat) : Int))], [some { cells := iv (tab u (n + 1)) }, some { cells := iv (tab v (n + 1)) }, some { cells := iv (tab (fun z => (((row1) z : Nat) : Int)) (n + 1)) }, some { cells := iv (tab (fun z => (((up (wS dk least used1 j way k) (k + 1) j) z : Nat) : Int)) (n + 1)) }, some { cells := iv (tab (up (lS dk least used1 k) (k + 1) (dk (k + 1))) (n + 1)) }, some { cells := bv (tabB (used1) (n + 1)) }], by omega, by rw [tab_set, tab_set, up_cast]; exact (Or.inl ⟨rfl, (by repeat (first | exact trivial | (refine And.intro rfl ?_)))⟩), k + 1, rfl, by omega, by rw [w1, w2], by rw [m2, hLv]⟩
                  · have m2 := dS_no (L := LN) (used := used1) (k := k) fun h => hd (by rw [← hLv]; exact h.2)
                    (repeat (first | (with_reducible refine AWo.cons ?_) | ((with_reducible refine Step.id ?_); first | ((with_reducible apply Step.move); exact rfl; exact rfl) | ((with_reducible apply Step.assign); exact rfl; exact rfl) | ((with_reducible apply Step.load); exact rfl; (focus (decide +kernel)); exact rfl; (focus (first | exact hr4 _ _ _ _ _ | exact hr4' _ _ _ _ _))) | ((with_reducible apply Step.ix1z); exact rfl; (focus (exact Sl.mk (by omega))); exact rfl; (focus (decide +kernel)); exact rfl; (focus (omega))) | ((with_reducible apply Step.add); exact rfl; exact rfl; (focus (omega)); exact rfl) | ((with_reducible apply Step.lss); exact rfl; exact rfl; exact rfl) | ((with_reducible apply Step.store (k := 3)); exact rfl; exact rfl; exact rfl; exact rfl; (focus (decide +kernel)); exact rfl; exact rfl; (focus (first | omega | (simp [iv, bv]; done) | (simp [iv, bv]; omega))); (focus (first | (simp only [List.nil_append, List.cons_append, List.set_cons_zero, List.set_cons_succ, iv_set, bv_set, iv_rep, bv_rep]; done) | (simp only [List.nil_append, List.cons_append, List.set_cons_zero, List.set_cons_succ, iv_set, bv_set, iv_rep, bv_rep]; rfl) | rfl))) | ((with_reducible apply Step.store (k := 4)); exact rfl; exact rfl; exact rfl; exact rfl; (focus (decide +kernel)); exact rfl; exact rfl; (focus (first | omega | (simp [iv, bv]; done) | (simp [iv, bv]; omega))); (focus (first | (simp only [List.nil_append, List.cons_append, List.set_cons_zero, List.set_cons_succ, iv_set, bv_set, iv_rep, bv_rep]; done) | (simp only [List.nil_append, List.cons_append, List.set_cons_zero, List.set_cons_succ, iv_set, bv_set, iv_rep, bv_rep]; rfl) | rfl)))) | (with_reducible refine AWo.nil ?_) | ((with_reducible apply AW.seq)) | ((with_reducible apply Then.n)) | ((with_reducible apply AW.regL)) | ((with_reducible apply InBlk.n)) | ((with_reducible apply AW.skip)) | ((with_reducible apply AW.condT); exact rfl; (focus ((simp only [decide_eq_true_eq, decide_eq_false_iff_not, Bool.not_eq_true', Bool.not_eq_false', Bool.not_true, Bool.not_false]; first | assumption | omega)))) | ((with_reducible apply AW.condF); exact rfl; (focus ((simp only [decide_eq_true_eq, decide_eq_false_iff_not, Bool.not_eq_true', Bool.not_eq_false', Bool.not_true, Bool.not_false]; first | assumption | omega))))))
                    exact ⟨_, [(4, .pointer (some ⟨x4, 0, none⟩)), (5, .pointer (some ⟨x5, 0, none⟩)), (6, .int .i64 0), (9, .int .i64 (n : Nat)), (11, .func (.func 89) #[] #[.pointer (some ⟨x3, 0, none⟩), .pointer (some ⟨x10, 0, none⟩), .pointer (some ⟨x4, 0, none⟩), .pointer (some ⟨x5, 0, none⟩)]), (12, .slice (some ⟨M.length + 0, 0, none⟩) (n + 1) (n + 1)), (13, .slice (some ⟨M.length + 1, 0, none⟩) (n + 1) (n + 1)), (14, .slice (some ⟨M.length + 2, 0, none⟩) (n + 1) (n + 1)), (15, .slice (some ⟨M.length + 3, 0, none⟩) (n + 1) (n + 1)), (16, .int .i64 (i : Nat)), (17, .slice (some ⟨M.length + 4, 0, none⟩) (n + 1) (n + 1)), (18, .slice (some ⟨M.length + 5, 0, none⟩) (n + 1) (n + 1)), (20, .int .i64 (j : Nat)), (21, .int .i64 (dS LN used1 k).1), (22, .int .i64 (((dS LN used1 k).2 : Nat) : Int)), (23, .int .i64 ((k + 1 + 1 : Nat) : Int))], [some { cells := iv (tab u (n + 1)) }, some { cells := iv (tab v (n + 1)) }, some { cells := iv (tab (fun z => (((row1) z : Nat) : Int)) (n + 1)) }, some { cells := iv (tab (fun z => (((up (wS dk least used1 j way k) (k + 1) j) z : Nat) : Int)) (n + 1)) }, some { cells := iv (tab (up (lS dk least used1 k) (k + 1) (dk (k + 1))) (n + 1)) }, some { cells := bv (tabB (used1) (n + 1)) }], by omega, by rw [tab_set, tab_set, up_cast]; exact (Or.inl ⟨rfl, (by repeat (first | exact trivial | (refine And.intro rfl ?_)))⟩), k + 1, rfl, by omega, by rw [w1, w2], by rw [m2]⟩
                · have m1 : ¬ (used1 (k + 1) = false ∧ dk (k + 1) < least (k + 1)) := fun h => hh h.2
                  have w1 := wS_miss (j := j) (way := way) m1
                  have w2 := lS_miss m1
                  have hLv : LN (k + 1) = least (k + 1) := by rw [hLk, w2, hnx']
                  by_cases hd : least (k + 1) < (dS LN used1 k).1
                  · have m2 := dS_yes hu (L := LN) (by rw [hLv]; exact hd)
                    (repeat (first | (with_reducible refine AWo.cons ?_) | ((with_reducible refine Step.id ?_); first | ((with_reducible apply Step.move); exact rfl; exact rfl) | ((with_reducible apply Step.assign); exact rfl; exact rfl) | ((with_reducible apply Step.load); exact rfl; (focus (decide +kernel)); exact rfl; (focus (exact hr4 _ _ _ _ _))) | ((with_reducible apply Step.ix1z); exact rfl; (focus (exact Sl.mk (by omega))); exact rfl; (focus (decide +kernel)); exact rfl; (focus (omega))) | ((with_reducible apply Step.add); exact rfl; exact rfl; (focus (omega)); exact rfl) | ((with_reducible apply Step.lss); exact rfl; exact rfl; exact rfl)) | (with_reducible refine AWo.nil ?_) | ((with_reducible apply AW.seq)) | ((with_reducible apply Then.n)) | ((with_reducible apply AW.regL)) | ((with_reducible apply InBlk.n)) | ((with_reducible apply AW.skip)) | ((with_reducible apply AW.condT); exact rfl; (focus ((simp only [decide_eq_true_eq, decide_eq_false_iff_not, Bool.not_eq_true', Bool.not_eq_false', Bool.not_true, Bool.not_false]; first | assumption | omega)))) | ((with_reducible apply AW.condF); exact rfl; (focus ((simp only [decide_eq_true_eq, decide_eq_false_iff_not, Bool.not_eq_true', Bool.not_eq_false', Bool.not_true, Bool.not_false]; first | assumption | omega))))))
                    exact ⟨_, [(4, .pointer (some ⟨x4, 0, none⟩)), (5, .pointer (some ⟨x5, 0, none⟩)), (6, .int .i64 0), (9, .int .i64 (n : Nat)), (11, .func (.func 89) #[] #[.pointer (some ⟨x3, 0, none⟩), .pointer (some ⟨x10, 0, none⟩), .pointer (some ⟨x4, 0, none⟩), .pointer (some ⟨x5, 0, none⟩)]), (12, .slice (some ⟨M.length + 0, 0, none⟩) (n + 1) (n + 1)), (13, .slice (some ⟨M.length + 1, 0, none⟩) (n + 1) (n + 1)), (14, .slice (some ⟨M.length + 2, 0, none⟩) (n + 1) (n + 1)), (15, .slice (some ⟨M.length + 3, 0, none⟩) (n + 1) (n + 1)), (16, .int .i64 (i : Nat)), (17, .slice (some ⟨M.length + 4, 0, none⟩) (n + 1) (n + 1)), (18, .slice (some ⟨M.length + 5, 0, none⟩) (n + 1) (n + 1)), (20, .int .i64 (j : Nat)), (21, .int .i64 (least (k + 1))), (22, .int .i64 ((k + 1 : Nat) : Int)), (23, .int .i64 ((k + 1 + 1 : Nat) : Int))], [some { cells := iv (tab u (n + 1)) }, some { cells := iv (tab v (n + 1)) }, some { cells := iv (tab (fun z => (((row1) z : Nat) : Int)) (n + 1)) }, some { cells := iv (tab (fun z => (((wS dk least used1 j way k) z : Nat) : Int)) (n + 1)) }, some { cells := iv (tab (lS dk least used1 k) (n + 1)) }, some { cells := bv (tabB (used1) (n + 1)) }], by omega, (Or.inl ⟨rfl, (by repeat (first | exact trivial | (refine And.intro rfl ?_)))⟩), k + 1, rfl, by omega, by rw [w1, w2], by rw [m2, hLv]⟩
                  · have m2 := dS_no (L := LN) (used := used1) (k := k) fun h => hd (by rw [← hLv]; exact h.2)
                    (repeat (first | (with_reducible refine AWo.cons ?_) | ((with_reducible refine Step.id ?_); first | ((with_reducible apply Step.move); exact rfl; exact rfl) | ((with_reducible apply Step.assign); exact rfl; exact rfl) | ((with_reducible apply Step.load); exact rfl; (focus (decide +kernel)); exact rfl; (focus (exact hr4 _ _ _ _ _))) | ((with_reducible apply Step.ix1z); exact rfl; (focus (exact Sl.mk (by omega))); exact rfl; (focus (decide +kernel)); exact rfl; (focus (omega))) | ((with_reducible apply Step.add); exact rfl; exact rfl; (focus (omega)); exact rfl) | ((with_reducible apply Step.lss); exact rfl; exact rfl; exact rfl)) | (with_reducible refine AWo.nil ?_) | ((with_reducible apply AW.seq)) | ((with_reducible apply Then.n)) | ((with_reducible apply AW.regL)) | ((with_reducible apply InBlk.n)) | ((with_reducible apply AW.skip)) | ((with_reducible apply AW.condF); exact rfl; (focus ((simp only [decide_eq_true_eq, decide_eq_false_iff_not, Bool.not_eq_true', Bool.not_eq_false', Bool.not_true, Bool.not_false]; first | assumption | omega))))))
                    exact ⟨_, [(4, .pointer (some ⟨x4, 0, none⟩)), (5, .pointer (some ⟨x5, 0, none⟩)), (6, .int .i64 0), (9, .int .i64 (n : Nat)), (11, .func (.func 89) #[] #[.pointer (some ⟨x3, 0, none⟩), .pointer (some ⟨x10, 0, none⟩), .pointer (some ⟨x4, 0, none⟩), .pointer (some ⟨x5, 0, none⟩)]), (12, .slice (some ⟨M.length + 0, 0, none⟩) (n + 1) (n + 1)), (13, .slice (some ⟨M.length + 1, 0, none⟩) (n + 1) (n + 1)), (14, .slice (some ⟨M.length + 2, 0, none⟩) (n + 1) (n + 1)), (15, .slice (some ⟨M.length + 3, 0, none⟩) (n + 1) (n + 1)), (16, .int .i64 (i : Nat)), (17, .slice (some ⟨M.length + 4, 0, none⟩) (n + 1) (n + 1)), (18, .slice (some ⟨M.length + 5, 0, none⟩) (n + 1) (n + 1)), (20, .int .i64 (j : Nat)), (21, .int .i64 (dS LN used1 k).1), (22, .int .i64 (((dS LN used1 k).2 : Nat) : Int)), (23, .int .i64 ((k + 1 + 1 : Nat) : Int))], [some { cells := iv (tab u (n + 1)) }, some { cells := iv (tab v (n + 1)) }, some { cells := iv (tab (fun z => (((row1) z : Nat) : Int)) (n + 1)) }, some { cells := iv (tab (fun z => (((wS dk least used1 j way k) z : Nat) : Int)) (n + 1)) }, some { cells := iv (tab (lS dk least used1 k) (n + 1)) }, some { cells := bv (tabB (used1) (n + 1)) }], by omega, (Or.inl ⟨rfl, (by repeat (first | exact trivial | (refine And.intro rfl ?_)))⟩), k + 1, rfl, by omega, by rw [w1, w2], by rw [m2]⟩
            · have hkn : k = n := by omega
              rw [hkn, hLN]
              clear hkn hkg
              (repeat (first | (with_reducible refine AWo.cons ?_) | ((with_reducible refine Step.id ?_); first | ((with_reducible apply Step.move); exact rfl; exact rfl) | ((with_reducible apply Step.leq); exact rfl; exact rfl; exact rfl) | ((with_reducible apply Step.len); exact rfl; (focus (exact Sl.mk (by omega))); (focus (decide +kernel)); exact rfl)) | (with_reducible refine AWo.nil ?_) | ((with_reducible apply AW.seq)) | ((with_reducible apply Then.n)) | ((with_reducible apply AW.regL)) | ((with_reducible apply AW.block)) | ((with_reducible apply AW.exit)) | ((with_reducible apply InBlk.hit)) | ((with_reducible apply Then.e)) | ((with_reducible apply AW.condF); exact rfl; (focus ((simp only [decide_eq_true_eq, decide_eq_false_iff_not, Bool.not_eq_true', Bool.not_eq_false', Bool.not_true, Bool.not_false]; first | assumption | omega))))))
              have hdl1 := hnx.2.1
              have hdl2 := hnx.2.2
              have hiw := hnx.1
              clear hnx hLN hLN' hle
              have hnn := hiw.jn
              generalize (dS LN used1 n).1 = dl at *
              generalize (dS LN used1 n).2 = nx at *
              generalize wS dk least used1 j way n = way1 at *
              clear hdk'
              refine AW.loopT (fun rk t L' => ∃ k : Nat, rk = n + 1 - k ∧ k ≤ n + 1 ∧ L' = [some { cells := iv (tab (uU u row1 used1 dl k) (n + 1)) }, some { cells := iv (tab (vU v used1 dl k) (n + 1)) }, some { cells := iv (tab (fun z => (((row1) z : Nat) : Int)) (n + 1)) }, some { cells := iv (tab (fun z => (((way1) z : Nat) : Int)) (n + 1)) }, some { cells := iv (tab (lU LN used1 dl k) (n + 1)) }, some { cells := bv (tabB (used1) (n + 1)) }] ∧
                t = [(4, .pointer (some ⟨x4, 0, none⟩)), (5, .pointer (some ⟨x5, 0, none⟩)), (6, .int .i64 0), (9, .int .i64 (n : Nat)), (11, .func (.func 89) #[] #[.pointer (some ⟨x3, 0, none⟩), .pointer (some ⟨x10, 0, none⟩), .pointer (some ⟨x4, 0, none⟩), .pointer (some ⟨x5, 0, none⟩)]), (12, .slice (some ⟨M.length + 0, 0, none⟩) (n + 1) (n + 1)), (13, .slice (some ⟨M.length + 1, 0, none⟩) (n + 1) (n + 1)), (14, .slice (some ⟨M.length + 2, 0, none⟩) (n + 1) (n + 1)), (15, .slice (some ⟨M.length + 3, 0, none⟩) (n + 1) (n + 1)), (16, .int .i64 (i : Nat)), (17, .slice (some ⟨M.length + 4, 0, none⟩) (n + 1) (n + 1)), (18, .slice (some ⟨M.length + 5, 0, none⟩) (n + 1) (n + 1)), (21, .int .i64 dl), (22, .int .i64 (nx : Nat)), (132, .slice (some ⟨M.length + 5, 0, none⟩) (n + 1) (n + 1)), (133, .int .i64 ((n + 1 : Nat) : Int)), (134, .int .i64 (k : Nat))])
                ⟨_, _, _, by rw [← uU_zero (u := u) (row := row1) (used := used1) (dl := dl), ← vU_zero (v := v) (used := used1) (dl := dl), ← lU_zero (v := LN) (used := used1) (dl := dl)]; exact (Or.inl ⟨rfl, (by repeat (first | exact trivial | (refine And.intro rfl ?_)))⟩), 0, rfl, Nat.zero_le _, by simp only [uU_zero, vU_zero, lU_zero], rfl⟩ ?_
              rintro rk t L' ⟨k, rfl, hk, rfl, rfl⟩
              rcases Nat.lt_or_ge k (n + 1) with hkl | hkg
              · cases hu : used1 k with
                | true =>
                  have hr5 : ∀ (b0 b1 b2 b3 b4 : Option Blk) (T : AM), Rd (M ++ (b0 :: b1 :: b2 :: b3 :: b4 :: some { cells := bv (tabB (used1) (n + 1)) } :: T)) (M.length + 5) k (.bool true) := fun _ _ _ _ _ _ => by rw [← hu]; exact rt5 _ (by omega)
                  have hrk := hrowT k (by omega) hu
                  have b1 := hbu (row1 k) hrk.1 hrk.2
                  have b2 : -50000000000 ≤ v k ∧ v k ≤ 50000000000 := by
                    by_cases k0 : k = 0
                    · subst k0; omega
                    · have := hbv k (by omega) (by omega); omega
                  have ua := uU_at (u := u) (dl := dl) (hinjU k (by omega) hu)
                  have va := vU_at (v := v) (used := used1) (dl := dl) (k := k)
                  have uy := uU_yes (u := u) (row := row1) (dl := dl) hu
                  have vy := vU_yes (v := v) (dl := dl) hu
                  have ln := lU_no (v := LN) (dl := dl) hu
                  have hr0 : ∀ (T : AM), Rd (M ++ (some { cells := iv (tab (uU u row1 used1 dl k) (n + 1)) } :: T)) (M.length + 0) (row1 k) (.int .i64 (u (row1 k))) := fun _ => by rw [← ua]; exact rt0 _ (by omega)
                  have hr1 : ∀ (b0 : Option Blk) (T : AM), Rd (M ++ (b0 :: some { cells := iv (tab (vU v used1 dl k) (n + 1)) } :: T)) (M.length + 1) k (.int .i64 (v k)) := fun b0 T => by
                    have h := rt1 (M := M) (T := T) (b0 := b0) (vU v used1 dl k) (show k < n + 1 by omega)
                    rw [va] at h; exact h
                  (repeat (first | (with_reducible refine AWo.cons ?_) | ((with_reducible refine Step.id ?_); first | ((with_reducible apply Step.move); exact rfl; exact rfl) | ((with_reducible apply Step.assign); exact rfl; exact rfl) | ((with_reducible apply Step.load); exact rfl; (focus (decide +kernel)); exact rfl; (focus (first | exact hr5 _ _ _ _ _ _ | exact rt2 _ (by omega) | exact hr0 _ | exact hr1 _ _))) | ((with_reducible apply Step.ix1z); exact rfl; (focus (exact Sl.mk (by omega))); exact rfl; (focus (decide +kernel)); exact rfl; (focus (omega))) | ((with_reducible apply Step.add); exact rfl; exact rfl; (focus (omega)); exact rfl) | ((with_reducible apply Step.sub); exact rfl; exact rfl; (focus (omega)); exact rfl) | ((with_reducible apply Step.lss); exact rfl; exact rfl; exact rfl) | ((with_reducible apply Step.store (k := 0)); exact rfl; exact rfl; exact rfl; exact rfl; (focus (decide +kernel)); exact rfl; exact rfl; (focus (first | omega | (simp [iv, bv]; done) | (simp [iv, bv]; omega))); (focus (first | (simp only [List.nil_append, List.cons_append, List.set_cons_zero, List.set_cons_succ, iv_set, bv_set, iv_rep, bv_rep]; done) | (simp only [List.nil_append, List.cons_append, List.set_cons_zero, List.set_cons_succ, iv_set, bv_set, iv_rep, bv_rep]; rfl) | rfl))) | ((with_reducible apply Step.store (k := 1)); exact rfl; exact rfl; exact rfl; exact rfl; (focus (decide +kernel)); exact rfl; exact rfl; (focus (first | omega | (simp [iv, bv]; done) | (simp [iv, bv]; omega))); (focus (first | (simp only [List.nil_append, List.cons_append, List.set_cons_zero, List.set_cons_succ, iv_set, bv_set, iv_rep, bv_rep]; done) | (simp only [List.nil_append, List.cons_append, List.set_cons_zero, List.set_cons_succ, iv_set, bv_set, iv_rep, bv_rep]; rfl) | rfl)))) | (with_reducible refine AWo.nil ?_) | ((with_reducible apply AW.seq)) | ((with_reducible apply Then.n)) | ((with_reducible apply AW.regL)) | ((with_reducible apply AW.block)) | ((with_reducible apply InBlk.n)) | ((with_reducible apply AW.skip)) | ((with_reducible apply AW.condT); exact rfl; (focus (first | rfl | (simp only [decide_eq_true_eq, decide_eq_false_iff_not, Bool.not_eq_true', Bool.not_eq_false', Bool.not_true, Bool.not_false]; first | assumption | omega))))))
                  exact ⟨_, [(4, .pointer (some ⟨x4, 0, none⟩)), (5, .pointer (some ⟨x5, 0, none⟩)), (6, .int .i64 0), (9, .int .i64 (n : Nat)), (11, .func (.func 89) #[] #[.pointer (some ⟨x3, 0, none⟩), .pointer (some ⟨x10, 0, none⟩), .pointer (some ⟨x4, 0, none⟩), .pointer (some ⟨x5, 0, none⟩)]), (12, .slice (some ⟨M.length + 0, 0, none⟩) (n + 1) (n + 1)), (13, .slice (some ⟨M.length + 1, 0, none⟩) (n + 1) (n + 1)), (14, .slice (some ⟨M.length + 2, 0, none⟩) (n + 1) (n + 1)), (15, .slice (some ⟨M.length + 3, 0, none⟩) (n + 1) (n + 1)), (16, .int .i64 (i : Nat)), (17, .slice (some ⟨M.length + 4, 0, none⟩) (n + 1) (n + 1)), (18, .slice (some ⟨M.length + 5, 0, none⟩) (n + 1) (n + 1)), (21, .int .i64 dl), (22, .int .i64 (nx : Nat)), (132, .slice (some ⟨M.length + 5, 0, none⟩) (n + 1) (n + 1)), (133, .int .i64 ((n + 1 : Nat) : Int)), (134, .int .i64 ((k + 1 : Nat) : Int))],
                    [some { cells := iv (tab (up (uU u row1 used1 dl k) (row1 k) (u (row1 k) + dl)) (n + 1)) }, some { cells := iv (tab (up (vU v used1 dl k) k (v k - dl)) (n + 1)) }, some { cells := iv (tab (fun z => (((row1) z : Nat) : Int)) (n + 1)) }, some { cells := iv (tab (fun z => (((way1) z : Nat) : Int)) (n + 1)) }, some { cells := iv (tab (lU LN used1 dl k) (n + 1)) }, some { cells := bv (tabB (used1) (n + 1)) }], by omega, by rw [tab_set, tab_set]; exact (Or.inl ⟨rfl, (by repeat (first | exact trivial | (refine And.intro rfl ?_)))⟩), k + 1, rfl, by omega, by rw [uy, vy, ln], rfl⟩
                | false =>
                  have hr5 : ∀ (b0 b1 b2 b3 b4 : Option Blk) (T : AM), Rd (M ++ (b0 :: b1 :: b2 :: b3 :: b4 :: some { cells := bv (tabB (used1) (n + 1)) } :: T)) (M.length + 5) k (.bool false) := fun _ _ _ _ _ _ => by rw [← hu]; exact rt5 _ (by omega)
                  have b3 := hlS k (by omega) hu
                  have la := lU_at (v := LN) (used := used1) (dl := dl) (k := k)
                  have ly := lU_yes (v := LN) (dl := dl) hu
                  have un := uU_no (u := u) (row := row1) (dl := dl) hu
                  have vn := vU_no (v := v) (dl := dl) hu
                  have hr4 : ∀ (b0 b1 b2 b3 : Option Blk) (T : AM), Rd (M ++ (b0 :: b1 :: b2 :: b3 :: some { cells := iv (tab (lU LN used1 dl k) (n + 1)) } :: T)) (M.length + 4) k (.int .i64 (LN k)) := fun b0 b1 b2 b3 T => by
                    have h := rt4 (M := M) (T := T) (b0 := b0) (b1 := b1) (b2 := b2) (b3 := b3) (lU LN used1 dl k) (show k < n + 1 by omega)
                    rw [la] at h; exact h
                  (repeat (first | (with_reducible refine AWo.cons ?_) | ((with_reducible refine Step.id ?_); first | ((with_reducible apply Step.move); exact rfl; exact rfl) | ((with_reducible apply Step.assign); exact rfl; exact rfl) | ((with_reducible apply Step.load); exact rfl; (focus (decide +kernel)); exact rfl; (focus (first | exact hr5 _ _ _ _ _ _ | exact hr4 _ _ _ _ _))) | ((with_reducible apply Step.ix1z); exact rfl; (focus (exact Sl.mk (by omega))); exact rfl; (focus (decide +kernel)); exact rfl; (focus (omega))) | ((with_reducible apply Step.add); exact rfl; exact rfl; (focus (omega)); exact rfl) | ((with_reducible apply Step.sub); exact rfl; exact rfl; (focus (omega)); exact rfl) | ((with_reducible apply Step.lss); exact rfl; exact rfl; exact rfl) | ((with_reducible apply Step.store (k := 4)); exact rfl; exact rfl; exact rfl; exact rfl; (focus (decide +kernel)); exact rfl; exact rfl; (focus (first | omega | (simp [iv, bv]; done) | (simp [iv, bv]; omega))); (focus (first | (simp only [List.nil_append, List.cons_append, List.set_cons_zero, List.set_cons_succ, iv_set, bv_set, iv_rep, bv_rep]; done) | (simp only [List.nil_append, List.cons_append, List.set_cons_zero, List.set_cons_succ, iv_set, bv_set, iv_rep, bv_rep]; rfl) | rfl)))) | (with_reducible refine AWo.nil ?_) | ((with_reducible apply AW.seq)) | ((with_reducible apply Then.n)) | ((with_reducible apply AW.regL)) | ((with_reducible apply AW.block)) | ((with_reducible apply InBlk.n)) | ((with_reducible apply AW.skip)) | ((with_reducible apply AW.condT); exact rfl; (focus ((simp only [decide_eq_true_eq, decide_eq_false_iff_not, Bool.not_eq_true', Bool.not_eq_false', Bool.not_true, Bool.not_false]; first | assumption | omega)))) | ((with_reducible apply AW.condF); exact rfl; (focus (rfl)))))
                  exact ⟨_, [(4, .pointer (some ⟨x4, 0, none⟩)), (5, .pointer (some ⟨x5, 0, none⟩)), (6, .int .i64 0), (9, .int .i64 (n : Nat)), (11, .func (.func 89) #[] #[.pointer (some ⟨x3, 0, none⟩), .pointer (some ⟨x10, 0, none⟩), .pointer (some ⟨x4, 0, none⟩), .pointer (some ⟨x5, 0, none⟩)]), (12, .slice (some ⟨M.length + 0, 0, none⟩) (n + 1) (n + 1)), (13, .slice (some ⟨M.length + 1, 0, none⟩) (n + 1) (n + 1)), (14, .slice (some ⟨M.length + 2, 0, none⟩) (n + 1) (n + 1)), (15, .slice (some ⟨M.length + 3, 0, none⟩) (n + 1) (n + 1)), (16, .int .i64 (i : Nat)), (17, .slice (some ⟨M.length + 4, 0, none⟩) (n + 1) (n + 1)), (18, .slice (some ⟨M.length + 5, 0, none⟩) (n + 1) (n + 1)), (21, .int .i64 dl), (22, .int .i64 (nx : Nat)), (132, .slice (some ⟨M.length + 5, 0, none⟩) (n + 1) (n + 1)), (133, .int .i64 ((n + 1 : Nat) : Int)), (134, .int .i64 ((k + 1 : Nat) : Int))],
                    [some { cells := iv (tab (uU u row1 used1 dl k) (n + 1)) }, some { cells := iv (tab (vU v used1 dl k) (n + 1)) }, some { cells := iv (tab (fun z => (((row1) z : Nat) : Int)) (n + 1)) }, some { cells := iv (tab (fun z => (((way1) z : Nat) : Int)) (n + 1)) }, some { cells := iv (tab (up (lU LN used1 dl k) k (LN k - dl)) (n + 1)) }, some { cells := bv (tabB (used1) (n + 1)) }], by omega, by rw [tab_set]; exact (Or.inl ⟨rfl, (by repeat (first | exact trivial | (refine And.intro rfl ?_)))⟩), k + 1, rfl, by omega, by rw [ly, un, vn], rfl⟩
              · have hkn : k = n + 1 := by omega
                rw [hkn]
                (repeat (first | (with_reducible refine AWo.cons ?_) | ((with_reducible refine Step.id ?_); first | ((with_reducible apply Step.move); exact rfl; exact rfl) | ((with_reducible apply Step.assign); exact rfl; exact rfl) | ((with_reducible apply Step.lss); exact rfl; exact rfl; exact rfl)) | (with_reducible refine AWo.nil ?_) | ((with_reducible apply AW.seq)) | ((with_reducible apply Then.n)) | ((with_reducible apply AW.regL)) | ((with_reducible apply AW.exit)) | ((with_reducible apply InBlk.n)) | ((with_reducible apply InBlk.hit)) | ((with_reducible apply Then.e)) | ((with_reducible apply AW.condF); exact rfl; (focus ((simp only [decide_eq_true_eq, decide_eq_false_iff_not, Bool.not_eq_true', Bool.not_eq_false', Bool.not_true, Bool.not_false]; first | assumption | omega))))))
                refine ⟨_, _, _, ?_, (Or.inl ⟨rfl, (by repeat (first | exact trivial | (refine And.intro rfl ?_)))⟩), _, _, _, _, _, nx, j :: rest, rfl, hiw, rfl, rfl⟩
                simp only [List.length_cons]; omega
  · have hie : i = n + 1 := by omega
    subst hie
    clear hge hi1 hi2 hlt0
    obtain ⟨p, p1, p2, p3, p4⟩ := ov.all
    have hrw : ∀ k, k < n → 1 ≤ row (k + 1) ∧ row (k + 1) ≤ n := fun k hk => by
      obtain ⟨q, q1, q2⟩ := p4 k hk
      rw [← q2, p3 q q1]; omega
    clear p1 p2 p3 p4
    clear p
    (repeat (first | (with_reducible refine AWo.cons ?_) | ((with_reducible refine Step.id ?_); first | ((with_reducible apply Step.move); exact rfl; exact rfl) | ((with_reducible apply Step.assign); exact rfl; exact rfl) | ((with_reducible apply Step.leq); exact rfl; exact rfl; exact rfl)) | (with_reducible refine AWo.nil ?_) | ((with_reducible apply AW.seq)) | ((with_reducible apply Then.n)) | ((with_reducible apply AW.regL)) | ((with_reducible apply AW.block)) | ((with_reducible apply AW.exit)) | ((with_reducible apply InBlk.hit)) | ((with_reducible apply Then.e)) | ((with_reducible apply AW.condF); exact rfl; (focus ((simp only [decide_eq_true_eq, decide_eq_false_iff_not, Bool.not_eq_true', Bool.not_eq_false', Bool.not_true, Bool.not_false]; first | assumption | omega))))))
    refine AW.loopT (fun rk t L' => ∃ k : Nat, rk = n - k ∧ k ≤ n ∧ L' = [some { cells := iv (tab u (n + 1)) }, some { cells := iv (tab v (n + 1)) }, some { cells := iv (tab (fun z => (((row) z : Nat) : Int)) (n + 1)) }, some { cells := iv (tab (fun z => (((way) z : Nat) : Int)) (n + 1)) }] ∧ 0 ≤ sN (fun x => -lossN c l r L R (row (x + 1)) (x + 1)) k ∧ sN (fun x => -lossN c l r L R (row (x + 1)) (x + 1)) k ≤ 1000000000 * k ∧
      t = [(4, .pointer (some ⟨x4, 0, none⟩)), (5, .pointer (some ⟨x5, 0, none⟩)), (9, .int .i64 (n : Nat)), (11, .func (.func 89) #[] #[.pointer (some ⟨x3, 0, none⟩), .pointer (some ⟨x10, 0, none⟩), .pointer (some ⟨x4, 0, none⟩), .pointer (some ⟨x5, 0, none⟩)]), (6, .int .i64 (sN (fun x => -lossN c l r L R (row (x + 1)) (x + 1)) k)), (12, .slice (some ⟨M.length + 0, 0, none⟩) (n + 1) (n + 1)), (13, .slice (some ⟨M.length + 1, 0, none⟩) (n + 1) (n + 1)), (14, .slice (some ⟨M.length + 2, 0, none⟩) (n + 1) (n + 1)), (15, .slice (some ⟨M.length + 3, 0, none⟩) (n + 1) (n + 1)), (26, .int .i64 ((k + 1 : Nat) : Int))])
      ⟨_, [(4, .pointer (some ⟨x4, 0, none⟩)), (5, .pointer (some ⟨x5, 0, none⟩)), (9, .int .i64 (n : Nat)), (11, .func (.func 89) #[] #[.pointer (some ⟨x3, 0, none⟩), .pointer (some ⟨x10, 0, none⟩), .pointer (some ⟨x4, 0, none⟩), .pointer (some ⟨x5, 0, none⟩)]), (6, .int .i64 (sN (fun x => -lossN c l r L R (row (x + 1)) (x + 1)) 0)), (12, .slice (some ⟨M.length + 0, 0, none⟩) (n + 1) (n + 1)), (13, .slice (some ⟨M.length + 1, 0, none⟩) (n + 1) (n + 1)), (14, .slice (some ⟨M.length + 2, 0, none⟩) (n + 1) (n + 1)), (15, .slice (some ⟨M.length + 3, 0, none⟩) (n + 1) (n + 1)), (26, .int .i64 ((0 + 1 : Nat) : Int))], _, (Or.inl ⟨rfl, (by repeat (first | exact trivial | (refine And.intro rfl ?_)))⟩), 0, rfl, Nat.zero_le _, rfl, by simp [sN], by simp [sN], rfl⟩ ?_
    rintro rk t L' ⟨k, rfl, hk, rfl, hs1, hs2, rfl⟩
    rcases Nat.lt_or_ge k n with hkl | hkg
    · have hr1 := hrw k hkl
      have b3 := hLs (row (k + 1)) (k + 1) (by omega) (by omega) (by omega) (by omega)
      have hsn : sN (fun x => -lossN c l r L R (row (x + 1)) (x + 1)) (k + 1) = sN (fun x => -lossN c l r L R (row (x + 1)) (x + 1)) k + -lossN c l r L R (row (k + 1)) (k + 1) := rfl
      have hl0 := hloss
      generalize hSk : sN (fun x => -lossN c l r L R (row (x + 1)) (x + 1)) k = Sk at *
      (repeat (first | (with_reducible refine AWo.cons ?_) | ((with_reducible refine Step.id ?_); first | ((with_reducible apply Step.move); exact rfl; exact rfl) | ((with_reducible apply Step.assign); exact rfl; exact rfl) | ((with_reducible apply Step.load); exact rfl; (focus (decide +kernel)); exact rfl; (focus (exact rt2 _ (by omega)))) | ((with_reducible apply Step.ix1z); exact rfl; (focus (exact Sl.mk (by omega))); exact rfl; (focus (decide +kernel)); exact rfl; (focus (omega))) | ((with_reducible apply Step.add); exact rfl; exact rfl; (focus (omega)); exact rfl) | ((with_reducible apply Step.sub); exact rfl; exact rfl; (focus (omega)); exact rfl) | ((with_reducible apply Step.leq); exact rfl; exact rfl; exact rfl) | ((with_reducible apply Step.callV fit); exact rfl; exact rfl; exact hf; exact hb; exact rfl; exact (hl0 _ _ _ (by omega) (by omega) (by omega) (by omega)))) | (with_reducible refine AWo.nil ?_) | ((with_reducible apply AW.seq)) | ((with_reducible apply Then.n)) | ((with_reducible apply AW.regL)) | ((with_reducible apply AW.block)) | ((with_reducible apply InBlk.n)) | ((with_reducible apply AW.skip)) | ((with_reducible apply AW.condT); exact rfl; (focus ((simp only [decide_eq_true_eq, decide_eq_false_iff_not, Bool.not_eq_true', Bool.not_eq_false', Bool.not_true, Bool.not_false]; first | assumption | omega))))))
      exact ⟨_, [(4, .pointer (some ⟨x4, 0, none⟩)), (5, .pointer (some ⟨x5, 0, none⟩)), (9, .int .i64 (n : Nat)), (11, .func (.func 89) #[] #[.pointer (some ⟨x3, 0, none⟩), .pointer (some ⟨x10, 0, none⟩), .pointer (some ⟨x4, 0, none⟩), .pointer (some ⟨x5, 0, none⟩)]), (6, .int .i64 (Sk - lossN c l r L R (row (k + 1)) (k + 1))), (12, .slice (some ⟨M.length + 0, 0, none⟩) (n + 1) (n + 1)), (13, .slice (some ⟨M.length + 1, 0, none⟩) (n + 1) (n + 1)), (14, .slice (some ⟨M.length + 2, 0, none⟩) (n + 1) (n + 1)), (15, .slice (some ⟨M.length + 3, 0, none⟩) (n + 1) (n + 1)), (26, .int .i64 ((k + 1 + 1 : Nat) : Int))], _, by omega, (Or.inl ⟨rfl, (by repeat (first | exact trivial | (refine And.intro rfl ?_)))⟩), k + 1, rfl, by omega, rfl, by omega, by omega, by rw [hsn, Int.sub_eq_add_neg]⟩
    · have hkn : k = n := by omega
      subst hkn
      clear hkg hk hs1 hs2
      have hIu : ∀ T : AM, Ints (M ++ (some { cells := iv (tab u (k + 1)) } :: T)) (tailV (M.length + 0) 0 k k) (tab (fun x => u (x + 1)) k) := fun T => by
        unfold tailV
        by_cases h0 : k = 0
        · subst h0; rw [if_pos rfl]; exact ⟨M.length + 0, 0, Sl.mk (Nat.le_refl _), by simp, fun x hx => by simp at hx⟩
        · rw [if_neg h0]
          refine ⟨M.length + 0, 0 + 1, by rw [tab_len]; exact Sl.mk (Nat.le_refl _), by simp, fun x hx => ?_⟩
          rw [tab_len] at hx
          rw [tab_get _ hx, show 0 + 1 + x = x + 1 by omega]
          exact rt0 u (by omega)
      have hIv : ∀ (b0 : Option Blk) (T : AM), Ints (M ++ (b0 :: some { cells := iv (tab v (k + 1)) } :: T)) (tailV (M.length + 1) 0 k k) (tab (fun x => v (x + 1)) k) := fun b0 T => by
        unfold tailV
        by_cases h0 : k = 0
        · subst h0; rw [if_pos rfl]; exact ⟨M.length + 1, 0, Sl.mk (Nat.le_refl _), by simp, fun x hx => by simp at hx⟩
        · rw [if_neg h0]
          refine ⟨M.length + 1, 0 + 1, by rw [tab_len]; exact Sl.mk (Nat.le_refl _), by simp, fun x hx => ?_⟩
          rw [tab_len] at hx
          rw [tab_get _ hx, show 0 + 1 + x = x + 1 by omega]
          exact rt1 v (by omega)
      have hbu : ∀ x, x < k → -9000000000000000000 ≤ u (x + 1) ∧ u (x + 1) ≤ 9000000000000000000 := fun x hx => by have := huv (x + 1) (by omega) (by omega); omega
      have hbv : ∀ x, x < k → -9000000000000000000 ≤ v (x + 1) ∧ v (x + 1) ≤ 9000000000000000000 := fun x hx => by have := huv (x + 1) (by omega) (by omega); omega
      (repeat (first | (with_reducible refine AWo.cons ?_) | ((with_reducible refine Step.id ?_); first | ((with_reducible apply Step.move); exact rfl; exact rfl) | ((with_reducible apply Step.leq); exact rfl; exact rfl; exact rfl)) | (with_reducible refine AWo.nil ?_) | ((fail_if_success (with_reducible refine AW.atR (id := 44) ?_)); ((with_reducible apply AW.seq))) | ((with_reducible apply Then.n)) | ((with_reducible apply AW.regL)) | ((with_reducible apply AW.exit)) | ((with_reducible apply InBlk.hit)) | ((with_reducible apply Then.e)) | ((with_reducible apply AW.condF); exact rfl; (focus ((simp only [decide_eq_true_eq, decide_eq_false_iff_not, Bool.not_eq_true', Bool.not_eq_false', Bool.not_true, Bool.not_false]; first | assumption | omega))))))
      refine AW.joinG (fr [(4, .pointer (some ⟨x4, 0, none⟩)), (5, .pointer (some ⟨x5, 0, none⟩)), (6, .int .i64 (sN (fun x => -lossN c l r L R (row (x + 1)) (x + 1)) k)), (9, .int .i64 (k : Nat)), (7, .slice (some ⟨M.length + 0, 0, none⟩) k k), (8, .slice (some ⟨M.length + 1, 0, none⟩) k k)])
        (M ++ [some { cells := iv (tab (fun x => -u (x + 1)) k) }, some { cells := iv (tab (fun x => -v (x + 1)) k) }]) ?_ ?_
      · (repeat' (first | ((with_reducible refine Step.id ?_); first | ((with_reducible apply Step.move); exact rfl; exact rfl) | ((with_reducible apply Step.assign); exact rfl; exact rfl) | ((with_reducible apply Step.tail); exact rfl; exact rfl; (focus (first | assumption | exact OwnAt.new rfl rfl)); exact un27; exact sz3; exact rfl; (focus (first | (simp only [List.nil_append, List.cons_append, List.set_cons_zero, List.set_cons_succ, iv_set, bv_set, iv_rep, bv_rep]; done) | (simp only [List.nil_append, List.cons_append, List.set_cons_zero, List.set_cons_succ, iv_set, bv_set, iv_rep, bv_rep]; rfl) | rfl))) | ((with_reducible apply Step.callN fit (k := 5)); exact rfl; exact rfl; exact Try.func90; exact rfl; exact rfl; exact (negated_ok (f := fun x => u (x + 1)) (hIu _) (by omega) hbu); (focus (first | (simp only [List.nil_append, List.cons_append, List.set_cons_zero, List.set_cons_succ, iv_set, bv_set, iv_rep, bv_rep]; done) | (simp only [List.nil_append, List.cons_append, List.set_cons_zero, List.set_cons_succ, iv_set, bv_set, iv_rep, bv_rep]; rfl) | rfl))) | ((with_reducible apply Step.callN fit (k := 6)); exact rfl; exact rfl; exact Try.func90; exact rfl; exact rfl; exact (negated_ok (f := fun x => u (x + 1)) (hIu _) (by omega) hbu); (focus (first | (simp only [List.nil_append, List.cons_append, List.set_cons_zero, List.set_cons_succ, iv_set, bv_set, iv_rep, bv_rep]; done) | (simp only [List.nil_append, List.cons_append, List.set_cons_zero, List.set_cons_succ, iv_set, bv_set, iv_rep, bv_rep]; rfl) | rfl))) | ((with_reducible apply Step.callN fit (k := 7)); exact rfl; exact rfl; exact Try.func90; exact rfl; exact rfl; exact (negated_ok (f := fun x => v (x + 1)) (hIv _ _) (by omega) hbv); (focus (first | (simp only [List.nil_append, List.cons_append, List.set_cons_zero, List.set_cons_succ, iv_set, bv_set, iv_rep, bv_rep]; done) | (simp only [List.nil_append, List.cons_append, List.set_cons_zero, List.set_cons_succ, iv_set, bv_set, iv_rep, bv_rep]; rfl) | rfl)))) | ((with_reducible apply Then.n)) | ((with_reducible apply AW.drawT fit (T := (.step 0 (.step 3 (.both (.step 1 (.both (.step 2 (.step 4 (.step 5 (.step 6 (.step 7 .done))))) (.step 4 (.step 2 (.step 5 (.step 6 (.step 7 .done))))))) (.step 4 (.step 1 (.step 2 (.step 5 (.step 6 (.step 7 .done))))))))))); (focus (decide +kernel))) | ((with_reducible apply AWt.step); exact rfl) | ((with_reducible apply AWt.done)) | refine AWt.both ?_ ?_))
        all_goals first | (refine Gc.perm [5,7] rfl (by decide) ?_ (CellsOk.ren ?_) ?_; (focus (intro p hp; rcases p with _ | _ | p <;> first | rfl | exact absurd hp (lenB (n := 2) rfl))); (focus (repeat (first | exact CellsOk.nil | refine CellsOk.cons (by exact g0_iv _) ?_))); (focus ((repeat (first | exact trivial | (refine And.intro ⟨_, rfl, ?_⟩ ?_; (focus (first | exact Low.sg (by assumption) (by simp) | exact .int _ _ | (refine Ren.slice_sg ?_; (focus (first | (simp; done) | omega | (simp; omega))))))))); done))) | (refine Gc.perm [5,6] rfl (by decide) ?_ (CellsOk.ren ?_) ?_; (focus (intro p hp; rcases p with _ | _ | p <;> first | rfl | exact absurd hp (lenB (n := 2) rfl))); (focus (repeat (exact CellsOk.nil))); (focus ((repeat (first | exact trivial | (refine And.intro ⟨_, rfl, ?_⟩ ?_; (focus (exact Low.sg (by assumption) (by simp)))))); done))) | (refine Gc.perm [5,4] rfl (by decide) ?_ (CellsOk.ren ?_) ?_; (focus (intro p hp; rcases p with _ | _ | p <;> first | rfl | exact absurd hp (lenB (n := 2) rfl))); (focus (repeat (exact CellsOk.nil))); (focus ((repeat (first | exact trivial | (refine And.intro ⟨_, rfl, ?_⟩ ?_; (focus (exact Low.sg (by assumption) (by simp)))))); done))) | (refine Gc.perm [6,7] rfl (by decide) ?_ (CellsOk.ren ?_) ?_; (focus (intro p hp; rcases p with _ | _ | p <;> first | rfl | exact absurd hp (lenB (n := 2) rfl))); (focus (repeat (first | exact CellsOk.nil | refine CellsOk.cons (by exact g0_iv _) ?_))); (focus ((repeat (first | exact trivial | (refine And.intro ⟨_, rfl, ?_⟩ ?_; (focus (first | exact Low.sg (by assumption) (by simp) | exact .int _ _ | (refine Ren.slice_sg ?_; (focus (first | (simp; done) | omega | (simp; omega))))))))); done))) | (refine Gc.perm [6,5] rfl (by decide) ?_ (CellsOk.ren ?_) ?_; (focus (intro p hp; rcases p with _ | _ | p <;> first | rfl | exact absurd hp (lenB (n := 2) rfl))); (focus (repeat (exact CellsOk.nil))); (focus ((repeat (first | exact trivial | (refine And.intro ⟨_, rfl, ?_⟩ ?_; (focus (exact Low.sg (by assumption) (by simp)))))); done))) | (refine Gc.perm [6,4] rfl (by decide) ?_ (CellsOk.ren ?_) ?_; (focus (intro p hp; rcases p with _ | _ | p <;> first | rfl | exact absurd hp (lenB (n := 2) rfl))); (focus (repeat (exact CellsOk.nil))); (focus ((repeat (first | exact trivial | (refine And.intro ⟨_, rfl, ?_⟩ ?_; (focus (exact Low.sg (by assumption) (by simp)))))); done))) | (refine Gc.perm [7,6] rfl (by decide) ?_ (CellsOk.ren ?_) ?_; (focus (intro p hp; rcases p with _ | _ | p <;> first | rfl | exact absurd hp (lenB (n := 2) rfl))); (focus (repeat (exact CellsOk.nil))); (focus ((repeat (first | exact trivial | (refine And.intro ⟨_, rfl, ?_⟩ ?_; (focus (exact Low.sg (by assumption) (by simp)))))); done))) | (refine Gc.perm [7,5] rfl (by decide) ?_ (CellsOk.ren ?_) ?_; (focus (intro p hp; rcases p with _ | _ | p <;> first | rfl | exact absurd hp (lenB (n := 2) rfl))); (focus (repeat (exact CellsOk.nil))); (focus ((repeat (first | exact trivial | (refine And.intro ⟨_, rfl, ?_⟩ ?_; (focus (exact Low.sg (by assumption) (by simp)))))); done))) | (refine Gc.perm [7,4] rfl (by decide) ?_ (CellsOk.ren ?_) ?_; (focus (intro p hp; rcases p with _ | _ | p <;> first | rfl | exact absurd hp (lenB (n := 2) rfl))); (focus (repeat (exact CellsOk.nil))); (focus ((repeat (first | exact trivial | (refine And.intro ⟨_, rfl, ?_⟩ ?_; (focus (exact Low.sg (by assumption) (by simp)))))); done))) | (refine Gc.perm [4,7] rfl (by decide) ?_ (CellsOk.ren ?_) ?_; (focus (intro p hp; rcases p with _ | _ | p <;> first | rfl | exact absurd hp (lenB (n := 2) rfl))); (focus (repeat (exact CellsOk.nil))); (focus ((repeat (first | exact trivial | (refine And.intro ⟨_, rfl, ?_⟩ ?_; (focus (exact Low.sg (by assumption) (by simp)))))); done))) | (refine Gc.perm [4,6] rfl (by decide) ?_ (CellsOk.ren ?_) ?_; (focus (intro p hp; rcases p with _ | _ | p <;> first | rfl | exact absurd hp (lenB (n := 2) rfl))); (focus (repeat (exact CellsOk.nil))); (focus ((repeat (first | exact trivial | (refine And.intro ⟨_, rfl, ?_⟩ ?_; (focus (exact Low.sg (by assumption) (by simp)))))); done))) | (refine Gc.perm [4,5] rfl (by decide) ?_ (CellsOk.ren ?_) ?_; (focus (intro p hp; rcases p with _ | _ | p <;> first | rfl | exact absurd hp (lenB (n := 2) rfl))); (focus (repeat (exact CellsOk.nil))); (focus ((repeat (first | exact trivial | (refine And.intro ⟨_, rfl, ?_⟩ ?_; (focus (exact Low.sg (by assumption) (by simp)))))); done)))
      clear hIu hIv hbu hbv
      obtain ⟨N0, hN0⟩ := hMN
      have eL : ((L.length : Nat) : Int) = ((L.length : Nat) : Int) := rfl
      have eR : ((R.length : Nat) : Int) = ((R.length : Nat) : Int) := rfl
      rcases Nat.eq_zero_or_pos k with hk0 | hk0
      · obtain rfl : k = 0 := hk0
        (repeat (first | (with_reducible refine AWo.cons ?_) | ((with_reducible refine Step.id ?_); first | ((with_reducible apply Step.move); exact rfl; exact rfl) | ((with_reducible apply Step.assign); exact rfl; exact rfl) | ((with_reducible apply Step.load); exact rfl; (focus (decide +kernel)); exact rfl; (focus (first | exact q4.old _ | exact q5.old _))) | ((with_reducible apply Step.slTo); exact rfl; exact rfl; (focus (assumption)); (focus (omega)); exact un27; exact sz3; exact rfl) | ((with_reducible apply Step.gtr); exact rfl; exact rfl; exact rfl) | ((with_reducible apply Step.len); exact rfl; (focus (assumption)); (focus (decide +kernel)); exact rfl)) | (with_reducible refine AWo.nil ?_) | ((with_reducible apply AW.seq)) | ((with_reducible apply Then.n)) | ((with_reducible apply AW.regL)) | ((with_reducible apply AW.drawL fit); (focus (decide +kernel))) | ((with_reducible apply AW.skip)) | ((with_reducible apply AW.condF); exact rfl; (focus (rfl)))))
        (refine AW.ret ?_; (repeat (first | refine Then.r ?_ | refine InBlk.r ?_)))
        have hL0 : L.length = 0 := by omega
        have hR0 : R.length = 0 := by omega
        rw [hL0, hR0]
        exact ⟨_, rfl, N0 ++ [some { cells := iv (tab (fun x => -u (x + 1)) 0) }, some { cells := iv (tab (fun x => -v (x + 1)) 0) }], by rw [hN0, List.append_assoc], _, _, fun _ => 0, fun _ => 0, 0, rfl, Best.none, ⟨M.length + 0, 0, Sl.mk (Nat.le_refl _), by simp, fun x hx => by simp at hx⟩, ⟨M.length + 1, 0, Sl.mk (Nat.le_refl _), by simp, fun x hx => by simp at hx⟩⟩
      · obtain ⟨q, rfl⟩ : ∃ q, k = q + 1 := ⟨k - 1, by omega⟩
        have hfin := Ov.fin hc hl32 hr32 iL iR hn ov
        have hmin := minF_at (fun x => -v (x + 1)) q
        have hlow : 0 ≤ minF (fun x => -v (x + 1)) q ∧ minF (fun x => -v (x + 1)) q ≤ 1000000000 := by
          obtain ⟨z, z1, z2⟩ := hmin
          rw [z2]
          have := huv (z + 1) (by omega) (by omega)
          omega
        have hIb : ∀ (b0 : Option Blk) (T : AM), Ints (M ++ (b0 :: some { cells := iv (tab (fun x => -v (x + 1)) (q + 1)) } :: T)) (.slice (some ⟨M.length + 1, 0, none⟩) (q + 1) (q + 1)) (tab (fun x => -v (x + 1)) (q + 1)) := fun b0 T => ints_new rfl rfl _ (by simp)
        (repeat (first | (with_reducible refine AWo.cons ?_) | ((with_reducible refine Step.id ?_); first | ((with_reducible apply Step.move); exact rfl; exact rfl) | ((with_reducible apply Step.assign); exact rfl; exact rfl) | ((with_reducible apply Step.gtr); exact rfl; exact rfl; exact rfl) | ((with_reducible apply Step.callR fit); exact rfl; exact Try.func91; exact rfl; exact rfl; exact (min_ok (hIb _ _) (by omega)))) | (with_reducible refine AWo.nil ?_) | ((with_reducible apply AW.seq)) | ((with_reducible apply Then.n)) | ((with_reducible apply AW.regL)) | ((with_reducible apply AW.block)) | ((with_reducible apply AW.condT); exact rfl; (focus ((simp only [decide_eq_true_eq, decide_eq_false_iff_not, Bool.not_eq_true', Bool.not_eq_false', Bool.not_true, Bool.not_false]; first | assumption | omega))))))
        generalize hlw : minF (fun x => -v (x + 1)) q = low at *
        refine AW.loopT (fun rk t L' => ∃ k : Nat, rk = q + 1 - k ∧ k ≤ q + 1 ∧ L' = [some { cells := iv (tab (fun x => if x < k then -u (x + 1) + low else -u (x + 1)) (q + 1)) }, some { cells := iv (tab (fun x => if x < k then -v (x + 1) - low else -v (x + 1)) (q + 1)) }] ∧
          t = [(4, .pointer (some ⟨x4, 0, none⟩)), (5, .pointer (some ⟨x5, 0, none⟩)), (6, .int .i64 (sN (fun x => -lossN c l r L R (row (x + 1)) (x + 1)) (q + 1))), (7, .slice (some ⟨M.length + 0, 0, none⟩) (q + 1) (q + 1)), (8, .slice (some ⟨M.length + 1, 0, none⟩) (q + 1) (q + 1)), (27, .int .i64 low), (207, .int .i64 ((q + 1 : Nat) : Int)), (208, .int .i64 (k : Nat))])
          ⟨_, _, _, (Or.inl ⟨rfl, (by repeat (first | exact trivial | (refine And.intro rfl ?_)))⟩), 0, rfl, Nat.zero_le _, by simp, rfl⟩ ?_
        rintro rk t L' ⟨k, rfl, hk, rfl, rfl⟩
        rcases Nat.lt_or_ge k (q + 1) with hkl | hkg
        · have hb := huv (k + 1) (by omega) (by omega)
          have hra : ∀ T : AM, Rd (M ++ (some { cells := iv (tab (fun x => if x < k then -u (x + 1) + low else -u (x + 1)) (q + 1)) } :: T)) (M.length + 0) k (.int .i64 (-u (k + 1))) := fun T => by
            have h := rt0 (M := M) (T := T) (fun x => if x < k then -u (x + 1) + low else -u (x + 1)) (show k < q + 1 by omega)
            simp only [Nat.lt_irrefl, if_false] at h; exact h
          have hrb : ∀ (b0 : Option Blk) (T : AM), Rd (M ++ (b0 :: some { cells := iv (tab (fun x => if x < k then -v (x + 1) - low else -v (x + 1)) (q + 1)) } :: T)) (M.length + 1) k (.int .i64 (-v (k + 1))) := fun b0 T => by
            have h := rt1 (M := M) (T := T) (b0 := b0) (fun x => if x < k then -v (x + 1) - low else -v (x + 1)) (show k < q + 1 by omega)
            simp only [Nat.lt_irrefl, if_false] at h; exact h
          have ea : up (fun x => if x < k then -u (x + 1) + low else -u (x + 1)) k (-u (k + 1) + low) = fun x => if x < k + 1 then -u (x + 1) + low else -u (x + 1) := by
            funext x
            simp only [up]
            by_cases e : x = k
            · subst e; rw [if_pos rfl, if_pos (by omega)]
            · rw [if_neg e]
              by_cases d : x < k
              · rw [if_pos d, if_pos (by omega)]
              · rw [if_neg d, if_neg (by omega)]
          have eb : up (fun x => if x < k then -v (x + 1) - low else -v (x + 1)) k (-v (k + 1) - low) = fun x => if x < k + 1 then -v (x + 1) - low else -v (x + 1) := by
            funext x
            simp only [up]
            by_cases e : x = k
            · subst e; rw [if_pos rfl, if_pos (by omega)]
            · rw [if_neg e]
              by_cases d : x < k
              · rw [if_pos d, if_pos (by omega)]
              · rw [if_neg d, if_neg (by omega)]
          (repeat (first | (with_reducible refine AWo.cons ?_) | ((with_reducible refine Step.id ?_); first | ((with_reducible apply Step.move); exact rfl; exact rfl) | ((with_reducible apply Step.assign); exact rfl; exact rfl) | ((with_reducible apply Step.load); exact rfl; (focus (decide +kernel)); exact rfl; (focus (first | exact hra _ | exact hrb _ _))) | ((with_reducible apply Step.ix1z); exact rfl; (focus (exact Sl.mk (by omega))); exact rfl; (focus (decide +kernel)); exact rfl; (focus (omega))) | ((with_reducible apply Step.add); exact rfl; exact rfl; (focus (omega)); exact rfl) | ((with_reducible apply Step.sub); exact rfl; exact rfl; (focus (omega)); exact rfl) | ((with_reducible apply Step.lss); exact rfl; exact rfl; exact rfl) | ((with_reducible apply Step.store (k := 0)); exact rfl; exact rfl; exact rfl; exact rfl; (focus (decide +kernel)); exact rfl; exact rfl; (focus (first | omega | (simp [iv, bv]; done) | (simp [iv, bv]; omega))); (focus (first | (simp only [List.nil_append, List.cons_append, List.set_cons_zero, List.set_cons_succ, iv_set, bv_set, iv_rep, bv_rep]; done) | (simp only [List.nil_append, List.cons_append, List.set_cons_zero, List.set_cons_succ, iv_set, bv_set, iv_rep, bv_rep]; rfl) | rfl))) | ((with_reducible apply Step.store (k := 1)); exact rfl; exact rfl; exact rfl; exact rfl; (focus (decide +kernel)); exact rfl; exact rfl; (focus (first | omega | (simp [iv, bv]; done) | (simp [iv, bv]; omega))); (focus (first | (simp only [List.nil_append, List.cons_append, List.set_cons_zero, List.set_cons_succ, iv_set, bv_set, iv_rep, bv_rep]; done) | (simp only [List.nil_append, List.cons_append, List.set_cons_zero, List.set_cons_succ, iv_set, bv_set, iv_rep, bv_rep]; rfl) | rfl)))) | (with_reducible refine AWo.nil ?_) | ((with_reducible apply AW.seq)) | ((with_reducible apply Then.n)) | ((with_reducible apply AW.regL)) | ((with_reducible apply AW.block)) | ((with_reducible apply AW.drawL fit); (focus (decide +kernel))) | ((with_reducible apply InBlk.n)) | ((with_reducible apply AW.skip)) | ((with_reducible apply AW.condT); exact rfl; (focus ((simp only [decide_eq_true_eq, decide_eq_false_iff_not, Bool.not_eq_true', Bool.not_eq_false', Bool.not_true, Bool.not_false]; first | assumption | omega))))))
          exact ⟨_, [(4, .pointer (some ⟨x4, 0, none⟩)), (5, .pointer (some ⟨x5, 0, none⟩)), (6, .int .i64 (sN (fun x => -lossN c l r L R (row (x + 1)) (x + 1)) (q + 1))), (7, .slice (some ⟨M.length + 0, 0, none⟩) (q + 1) (q + 1)), (8, .slice (some ⟨M.length + 1, 0, none⟩) (q + 1) (q + 1)), (27, .int .i64 low), (207, .int .i64 ((q + 1 : Nat) : Int)), (208, .int .i64 ((k + 1 : Nat) : Int))],
            [some { cells := iv (tab (up (fun x => if x < k then -u (x + 1) + low else -u (x + 1)) k (-u (k + 1) + low)) (q + 1)) }, some { cells := iv (tab (up (fun x => if x < k then -v (x + 1) - low else -v (x + 1)) k (-v (k + 1) - low)) (q + 1)) }], by omega, by rw [tab_set, tab_set]; exact (Or.inl ⟨rfl, (by repeat (first | exact trivial | (refine And.intro rfl ?_)))⟩), k + 1, rfl, by omega, by rw [ea, eb], rfl⟩
        · have hkq : k = q + 1 := by omega
          subst hkq
          have ea : tab (fun x => if x < q + 1 then -u (x + 1) + low else -u (x + 1)) (q + 1) = tab (fun x => -u (x + 1) + low) (q + 1) := tab_congr fun x hx => if_pos hx
          have eb : tab (fun x => if x < q + 1 then -v (x + 1) - low else -v (x + 1)) (q + 1) = tab (fun x => -v (x + 1) - low) (q + 1) := tab_congr fun x hx => if_pos hx
          rw [ea, eb]
          (repeat (first | (with_reducible refine AWo.cons ?_) | ((with_reducible refine Step.id ?_); first | ((with_reducible apply Step.move); exact rfl; exact rfl) | ((with_reducible apply Step.assign); exact rfl; exact rfl) | ((with_reducible apply Step.load); exact rfl; (focus (decide +kernel)); exact rfl; (focus (first | exact q4.old _ | exact q5.old _))) | ((with_reducible apply Step.slTo); exact rfl; exact rfl; (focus (assumption)); (focus (omega)); exact un27; exact sz3; exact rfl) | ((with_reducible apply Step.lss); exact rfl; exact rfl; exact rfl) | ((with_reducible apply Step.len); exact rfl; (focus (assumption)); (focus (decide +kernel)); exact rfl)) | (with_reducible refine AWo.nil ?_) | ((with_reducible apply AW.seq)) | ((with_reducible apply Then.n)) | ((with_reducible apply AW.regL)) | ((with_reducible apply AW.drawL fit); (focus (decide +kernel))) | ((with_reducible apply AW.exit)) | ((with_reducible apply InBlk.hit)) | ((with_reducible apply Then.e)) | ((with_reducible apply AW.condF); exact rfl; (focus ((simp only [decide_eq_true_eq, decide_eq_false_iff_not, Bool.not_eq_true', Bool.not_eq_false', Bool.not_true, Bool.not_false]; first | assumption | omega))))))
          (refine AW.ret ?_; (repeat (first | refine Then.r ?_ | refine InBlk.r ?_)))
          refine ⟨_, rfl, N0 ++ [some { cells := iv (tab (fun x => -u (x + 1) + low) (q + 1)) }, some { cells := iv (tab (fun x => -v (x + 1) - low) (q + 1)) }], by rw [hN0, List.append_assoc], _, _, _, _, _, rfl, hfin, ?_, ?_⟩
          · exact ⟨M.length + 0, 0, by rw [tab_len]; exact Sl.mk (by omega), by simp, fun x hx => by
              rw [tab_len] at hx
              rw [tab_get _ hx, Nat.zero_add]
              exact rt0 _ (by omega)⟩
          · exact ⟨M.length + 1, 0, by rw [tab_len]; exact Sl.mk (by omega), by simp, fun x hx => by
              rw [tab_len] at hx
              rw [tab_get _ hx, Nat.zero_add]
              exact rt1 _ (by omega)⟩
end Go.Proofs.Ytajpngnphbdnnaa.Abs
namespace Go.Proofs.Ytajpngnphbdnnaa.Abs
set_option linter.unusedSimpArgs false
set_option linter.unusedVariables false
open Go.RowKit
open Go.Proofs.Ytajpngnphbdnnaa.Sim
open Go.Proofs
open Hung
theorem un77 : Try.prog.underlying 77 = some (.pointer 82) := by kernel_rfl
theorem bs27x {m : AM} {k : Nat} {x : Int} : abuildSlice Try.prog m k 27 1 [(0, .int .i64 x)] = some (.slice (some ⟨k, 0, none⟩) 1 1, m.set k (some { cells := [.int .i64 x] })) := by kernel_rfl
theorem mx_le {w : Nat → Nat → Int} {B : Int} (hB : 0 ≤ B) (hw : ∀ x y, w x y ≤ B) : ∀ (L R : List Nat), mx w L R ≤ B * L.length
  | [], _ => by simp [mx]
  | x :: L, R => by
    rcases mx_cases w x L R with h | ⟨y, _, h⟩
    · have := mx_le hB hw L R
      rw [h, List.length_cons, Int.natCast_add, Int.mul_add]; omega
    · have := mx_le hB hw L (R.erase y)
      have := hw x y
      rw [h, List.length_cons, Int.natCast_add, Int.mul_add]; omega
theorem left_bd {c : Nat → Nat → Int} (hc : Cs c) {L R : List Nat} (h : L.length ≤ 32) : 0 ≤ mx (wo c) L R ∧ mx (wo c) L R ≤ 32000000000 := by
  have h1 := mx_nonneg (wo c) L R
  have h2 := mx_le (w := wo c) (B := 1000000000) (by omega) (fun x y => (wo_bd hc x y).2) L R
  omega
theorem Rd.set_ne {M : AM} {a i o : Nat} {v : Value} {x : Option Blk} (h : Rd M i o v) (hn : i ≠ a) : Rd (M.set a x) i o v := by
  obtain ⟨b, h1, h2⟩ := h
  exact ⟨b, by rw [List.getElem?_set_ne (Ne.symm hn)]; exact h1, h2⟩
theorem get_app' {M L : AM} {k : Nat} : (M ++ L)[M.length + k]? = L[k]? := get_app M L k
theorem Spn.app {M : AM} {n0 : Nat} {cv : Value} {ws : List Value} (h : Spn M n0 cv ws) (h0 : n0 ≤ M.length) (x : Value) :
    (ws = [] → Spn (M ++ [some { cells := [x], kind := .grow, size := 1 }]) n0 (.slice (some ⟨M.length, 0, none⟩) 1 1) [x]) ∧
    (∀ s, cv = .slice (some ⟨s, 0, none⟩) ws.length ws.length → Spn (M.set s none ++ [some { cells := ws ++ [x], kind := .grow, size := 1 }]) n0 (.slice (some ⟨M.length, 0, none⟩) (ws.length + 1) (ws.length + 1)) (ws ++ [x])) :=
  ⟨fun _ => .inr ⟨by simp, M.length, h0, rfl, by simp⟩, fun s _ => .inr ⟨by simp, M.length, h0, by simp, by rw [List.getElem?_append_right (by simp)]; simp⟩⟩
def mI : Option Nat → Int
  | some y => (y : Nat)
  | none => -1
/-- What is left of the gloves from i on. -/
abbrev fromI (i l : Nat) : List Nat := List.range' i (l - i)
set_option maxHeartbeats 4000000 in
set_option maxRecDepth 100000 in
theorem Cheapest_ok {m : AM} {lv rv : Value} {u : Ru} {L R : List Gl} (hl : Gls m lv L) (hr : Gls m rv R) (hL : sB L = true) (hR : sB R = true) (hu : uB u = true) :
    ACall Try.prog 20 #[lv, rv, u.v] m (More (fun M v => ∃ w, v = .tuple #[w, .int .i64 0] ∧ Ints M w (chp (cT u L R) (List.range L.length) (List.range R.length))) m) := by
  have h1 : L.length ≤ 32 ∧ L.all gB = true := by simpa [sB] using hL
  have h2 : R.length ≤ 32 ∧ R.all gB = true := by simpa [sB] using hR
  have r0 : ∀ T : AM, RdL (m ++ (some { cells := u.cells } :: T)) (m.length + 0) 0 u.cells := fun T => RdL.new rfl rfl
  have hcs := cT_cs hu hL hR
  refine ACall.start Try.func20 rfl rfl ?_
  (repeat (first | (with_reducible refine AWo.cons ?_) | ((with_reducible refine Step.id ?_); first | ((with_reducible apply Step.move); exact rfl; exact rfl) | ((with_reducible apply Step.assign); exact rfl; exact rfl) | ((with_reducible apply Step.loadL (n := 8)); exact rfl; (focus (decide +kernel)); (focus (decide +kernel)); exact rfl; (focus (exact RdL.new rfl rfl)); exact rfl; exact rfl) | ((with_reducible apply Step.box 0); exact rfl; exact rfl; (focus (kernel_rfl)); exact rfl; (focus (first | (simp only [List.nil_append, List.cons_append, List.set_cons_zero, List.set_cons_succ, iv_set, bv_set, iv_rep, bv_rep]; done) | (simp only [List.nil_append, List.cons_append, List.set_cons_zero, List.set_cons_succ, iv_set, bv_set, iv_rep, bv_rep]; rfl) | rfl)))) | (with_reducible refine AWo.nil ?_) | ((with_reducible apply AW.seq)) | ((with_reducible apply Then.n)) | ((with_reducible apply AW.regL))))
  ((with_reducible apply Step.callX fit); exact rfl; exact Try.func54; exact rfl; exact rfl; exact (costs_ok (hl.old _) (hr.old _) hL hR hu))
  intro tv M hM hT
  obtain ⟨N0, hN0⟩ := hM
  have hMN : ∃ N, M = m ++ N := ⟨_, by rw [hN0, List.append_assoc]⟩
  clear r0 hN0
  generalize cT u L R = c at *
  obtain ⟨a, cv, b, o, htv, t1, t2, t3, t4, t5, t6, t7⟩ := id hT
  generalize hl' : L.length = l at *
  generalize hr' : R.length = r at *
  subst htv
  (repeat (first | (with_reducible refine AWo.cons ?_) | ((with_reducible refine Step.id ?_); first | ((with_reducible apply Step.move); exact rfl; exact rfl) | ((with_reducible apply Step.assign); exact rfl; exact rfl) | ((with_reducible apply Step.ptrNot); exact rfl; exact rfl; exact un77; exact rfl)) | (with_reducible refine AWo.nil ?_) | ((fail_if_success (with_reducible refine AW.atR (id := 4) ?_)); ((with_reducible apply AW.seq))) | ((with_reducible apply Then.n)) | ((with_reducible apply AW.regL)) | ((with_reducible apply AW.skip)) | ((with_reducible apply AW.condF); exact rfl; (focus (rfl)))))
  rw [List.append_nil]
  refine AW.rebase ?_
  have wt : Low M.length (.pointer (some ⟨a, 0, none⟩)) := .ptr t1
  refine AW.joinG (fr [(8, .pointer (some ⟨a, 0, none⟩)), (9, .slice (some ⟨M.length + 0, 0, none⟩) l l), (10, .slice (some ⟨M.length + 1, 0, none⟩) r r)]) (M ++ [some { cells := iv (nats (List.range l)) }, some { cells := iv (nats (List.range r)) }]) ?_ ?_
  · (repeat' (first | ((with_reducible refine Step.id ?_); first | ((with_reducible apply Step.move); exact rfl; exact rfl) | ((with_reducible apply Step.assign); exact rfl; exact rfl) | ((with_reducible apply Step.load); exact rfl; (focus (decide +kernel)); exact rfl; (focus (first | exact t3.old _ | exact t4.old _))) | ((with_reducible apply Step.field (k := 1)); exact rfl; (focus (decide +kernel)); exact rfl) | ((with_reducible apply Step.field (k := 2)); exact rfl; (focus (decide +kernel)); exact rfl) | ((with_reducible apply Step.nilp); exact rfl; exact rfl) | ((with_reducible apply Step.callN fit (k := 0)); exact rfl; exact rfl; exact Try.func55; exact rfl; exact rfl; exact (upTo_ok l (by omega)); (focus (first | (simp only [List.nil_append, List.cons_append, List.set_cons_zero, List.set_cons_succ, iv_set, bv_set, iv_rep, bv_rep]; done) | (simp only [List.nil_append, List.cons_append, List.set_cons_zero, List.set_cons_succ, iv_set, bv_set, iv_rep, bv_rep]; rfl) | rfl))) | ((with_reducible apply Step.callN fit (k := 1)); exact rfl; exact rfl; exact Try.func55; exact rfl; exact rfl; exact (upTo_ok r (by omega)); (focus (first | (simp only [List.nil_append, List.cons_append, List.set_cons_zero, List.set_cons_succ, iv_set, bv_set, iv_rep, bv_rep]; done) | (simp only [List.nil_append, List.cons_append, List.set_cons_zero, List.set_cons_succ, iv_set, bv_set, iv_rep, bv_rep]; rfl) | rfl)))) | ((with_reducible apply Then.n)) | ((with_reducible apply AW.drawT fit (T := (.step 0 (.step 1 (.step 2 (.step 3 (.step 5 (.step 6 (.step 7 (.both (.step 4 (.step 8 (.step 9 (.step 10 (.step 11 .done))))) (.step 8 (.step 4 (.step 9 (.step 10 (.step 11 .done))))))))))))))); (focus (decide +kernel))) | ((with_reducible apply AWt.step); exact rfl) | ((with_reducible apply AWt.done)) | refine AWt.both ?_ ?_))
    all_goals first | (refine Gc.perm [0,1] rfl (by decide) ?_ (CellsOk.ren ?_) ?_; (focus (intro p hp; rcases p with _ | _ | p <;> first | rfl | exact absurd hp (lenB (n := 2) rfl))); (focus (repeat (first | exact CellsOk.nil | refine CellsOk.cons (by exact g0_iv _) ?_))); (focus ((repeat (first | exact trivial | (refine And.intro ⟨_, rfl, ?_⟩ ?_; (focus (first | exact Low.sg (by assumption) (by simp) | (refine Ren.slice_sg ?_; (focus (first | (simp; done) | omega | (simp; omega))))))))); done))) | (refine Gc.perm [1,0] rfl (by decide) ?_ (CellsOk.ren ?_) ?_; (focus (intro p hp; rcases p with _ | _ | p <;> first | rfl | exact absurd hp (lenB (n := 2) rfl))); (focus (repeat (exact CellsOk.nil))); (focus ((repeat (first | exact trivial | (refine And.intro ⟨_, rfl, ?_⟩ ?_; (focus (exact Low.sg (by assumption) (by simp)))))); done)))
  have il : Ints (M ++ [some { cells := iv (nats (List.range l)) }, some { cells := iv (nats (List.range r)) }]) (.slice (some ⟨M.length + 0, 0, none⟩) l l) (nats (List.range l)) := ints_new rfl rfl _ (by simp)
  have ir : Ints (M ++ [some { cells := iv (nats (List.range l)) }, some { cells := iv (nats (List.range r)) }]) (.slice (some ⟨M.length + 1, 0, none⟩) r r) (nats (List.range r)) := ints_new rfl rfl _ (by simp)
  (repeat (first | (with_reducible refine AWo.cons ?_) | ((with_reducible refine Step.id ?_); ((with_reducible apply Step.move); exact rfl; exact rfl)) | ((with_reducible apply AW.seq)) | ((with_reducible apply AW.regL))))
  ((with_reducible apply Step.callX fit); exact rfl; exact Try.func56; exact rfl; exact rfl; exact (assign_ok (hT.old _) hcs (by omega) (by omega) il ir (by simp; omega) (by simp; omega) (fun x hx => List.mem_range.1 hx) (fun x hx => List.mem_range.1 hx)))
  rintro v M1 hM1 ⟨va, vb, pa, pb, best, rfl, hbest, _, _⟩
  have hb := hbest.mx List.nodup_range List.nodup_range
  clear hbest il
  obtain ⟨N1, hN1⟩ := hM1
  have hla : M1[M.length + 0]? = some (some { cells := iv (nats (List.range l)) }) := by rw [hN1, List.append_assoc, get_app]; rfl
  obtain ⟨rq, ro, s1, s2, s3⟩ := ir
  have hM1 : ∃ N, M1 = M ++ N := ⟨_, by rw [hN1, List.append_assoc]⟩
  have hs1 : Sl (.slice (some ⟨M.length + 1, 0, none⟩) r r) (M.length + 1) 0 (nats (List.range r)).length := by simp; exact Sl.mk (Nat.le_refl _)
  have hs3 : ∀ k, k < (nats (List.range r)).length → Rd M1 (M.length + 1) (0 + k) (.int .i64 ((nats (List.range r)).getD k 0)) := fun k hk => by
    rw [hN1]
    refine Rd.old _ (Rd.new rfl ?_)
    rw [Nat.zero_add]; exact iv_get hk
  have hs2 : M.length + 1 < M1.length := by rw [hN1]; simp
  clear s1 s2 s3 hN1 ro
  clear rq
  generalize M.length + 0 = la at *
  generalize hq0 : M.length + 1 = q0 at *
  obtain ⟨N1, rfl⟩ := hM1
  have hr0 : nats (List.range r) = nats (List.range r) := rfl
  (repeat (first | (with_reducible refine AWo.cons ?_) | ((with_reducible refine Step.id ?_); first | ((with_reducible apply Step.move); exact rfl; exact rfl) | ((with_reducible apply Step.assign); exact rfl; exact rfl) | ((with_reducible apply Step.load); exact rfl; (focus (decide +kernel)); exact rfl; (focus (exact (t3.old _).old _))) | ((with_reducible apply Step.field (k := 1)); exact rfl; (focus (decide +kernel)); exact rfl) | ((with_reducible apply Step.nilp); exact rfl; exact rfl) | ((with_reducible apply Step.extract); exact rfl; exact rfl; exact rfl)) | (with_reducible refine AWo.nil ?_) | ((with_reducible apply AW.seq)) | ((with_reducible apply Then.n)) | ((with_reducible apply AW.regL)) | ((with_reducible apply AW.block))))
  refine AW.loopW (fun rk t M' => ∃ (i q o' : Nat) (Rs : List Nat) (left : Int) (out : List Int) (v9 v10 v14 : Value) (N : AM), rk = l - i ∧ i ≤ l ∧ M' = M ++ N ∧ M'[la]? = some (some { cells := iv (nats (List.range l)) }) ∧ (i < l → v9 = .slice (some ⟨la, i, none⟩) (l - i) (l - i)) ∧
    (Sl v10 q o' Rs.length ∧ q < M'.length ∧ ∀ k, k < Rs.length → Rd M' q (o' + k) (.int .i64 ((Rs.getD k 0 : Nat) : Int))) ∧ Rs.Nodup ∧ (∀ y ∈ Rs, y < r) ∧ left = mx (wo c) (fromI i l) Rs ∧ (0 ≤ left ∧ left ≤ 32000000000) ∧
    Spn M' M.length v14 (iv out) ∧ (∀ s, v14 = .slice (some ⟨s, 0, none⟩) (iv out).length (iv out).length → s ≠ q) ∧ out.length = i ∧ chp c (List.range l) (List.range r) = out ++ chp c (fromI i l) Rs ∧
    t = fr [(8, .pointer (some ⟨a, 0, none⟩)), (9, v9), (10, v10), (11, .int .i64 left), (14, v14), (49, .int .i64 (l : Nat)), (50, .int .i64 (i : Nat))])
    ⟨_, [(8, .pointer (some ⟨a, 0, none⟩)), (9, .slice (some ⟨la, 0, none⟩) l l), (10, .slice (some ⟨q0, 0, none⟩) r r), (11, .int .i64 best), (14, .slice none 0 0), (49, .int .i64 (l : Nat)), (50, .int .i64 ((0 : Nat) : Int))], (by repeat (first | exact trivial | (refine And.intro rfl ?_))), 0, q0, 0, List.range r, best, [], _, _, _, N1, rfl, Nat.zero_le _, by rw [List.append_nil], by rw [List.append_nil]; exact hla, fun _ => rfl, ⟨by simpa using hs1, by rw [List.append_nil]; exact hs2, fun k hk => ?_⟩, List.nodup_range, fun y hy => List.mem_range.1 hy, ?_, ?_, .inl ⟨rfl, rfl⟩, fun s hs => by (cases hs), rfl, ?_, rfl⟩ ?_
  · rw [List.append_nil]
    have := hs3 k (by simpa using hk)
    rwa [nats_get] at this
  · rw [hb, List.range_eq_range']; rfl
  · rw [hb]; exact left_bd hcs (by simp; omega)
  · rw [List.nil_append, List.range_eq_range']; rfl
  clear hla hs1 hs2 hs3 hb hq0
  rintro rk t M' ⟨i, q, o', Rs, left, out, v9, v10, v14, N, rfl, hi, rfl, hla, h9, ⟨g1, g2, g3⟩, hnd, hRs, hleft, hlb, hsp, hsq, hol, hch, rfl⟩
  have hRl : Rs.length ≤ 32 := by
    have := nodup_le hnd (k := List.range r) fun x hx => List.mem_range.2 (hRs x hx)
    simp at this; omega
  rcases Nat.lt_or_ge i l with hlt | hge
  · obtain ⟨n, hn⟩ : ∃ n, l - i = n + 1 := ⟨l - i - 1, by omega⟩
    have hfrom : fromI i l = i :: fromI (i + 1) l := by
      unfold fromI
      rw [hn, show l - (i + 1) = n by omega]; rfl
    rw [h9 hlt, hn]
    refine AW.rebase ?_
    have hown : OwnAt (M ++ N) la [] := ⟨_, get_old _ hla, rfl⟩
    (repeat (first | (with_reducible refine AWo.cons ?_) | ((with_reducible refine Step.id ?_); first | ((with_reducible apply Step.move); exact rfl; exact rfl) | ((with_reducible apply Step.assign); exact rfl; exact rfl) | ((with_reducible apply Step.tail); exact rfl; exact rfl; (focus (first | assumption | exact OwnAt.new rfl rfl)); exact un27; exact sz3; exact rfl; (focus (first | (simp only [List.nil_append, List.cons_append, List.set_cons_zero, List.set_cons_succ, iv_set, bv_set, iv_rep, bv_rep]; done) | (simp only [List.nil_append, List.cons_append, List.set_cons_zero, List.set_cons_succ, iv_set, bv_set, iv_rep, bv_rep]; rfl) | rfl))) | ((with_reducible apply Step.lss); exact rfl; exact rfl; exact rfl)) | (with_reducible refine AWo.nil ?_) | ((fail_if_success (with_reducible refine AW.atR (id := 12) ?_)); ((with_reducible apply AW.seq))) | ((with_reducible apply Then.n)) | ((with_reducible apply AW.regL)) | ((with_reducible apply AW.block)) | ((with_reducible apply AW.skip)) | ((with_reducible apply AW.condT); exact rfl; (focus ((simp only [decide_eq_true_eq, decide_eq_false_iff_not, Bool.not_eq_true', Bool.not_eq_false', Bool.not_true, Bool.not_false]; first | assumption | omega))))))
    have i9 : Ints (M ++ N) (tailV la i n n) (nats (fromI (i + 1) l)) := by
      have hfl : (fromI (i + 1) l).length = n := by unfold fromI; rw [List.length_range']; omega
      unfold tailV
      by_cases h0 : n = 0
      · subst h0; rw [if_pos rfl]
        exact ⟨la, i, by rw [nats_len, hfl]; exact Sl.mk (Nat.le_refl _), (List.getElem?_eq_some_iff.1 hla).1, fun k hk => by rw [nats_len, hfl] at hk; omega⟩
      · rw [if_neg h0]
        refine ⟨la, i + 1, by rw [nats_len, hfl]; exact Sl.mk (Nat.le_refl _), (List.getElem?_eq_some_iff.1 hla).1, fun k hk => ⟨_, hla, ?_⟩⟩
        rw [nats_len, hfl] at hk
        rw [nats_get]
        have := iv_get (l := nats (List.range l)) (k := i + 1 + k) (by simp; omega)
        rw [this, nats_get]
        simp [fromI, show i + 1 + k < l by omega, show k < l - (i + 1) by omega]
    have hfl : (fromI (i + 1) l).length ≤ 32 := by unfold fromI; rw [List.length_range']; omega
    have hfm : ∀ x ∈ fromI (i + 1) l, x < l := fun x hx => by
      have := List.mem_range'_1.1 hx; omega
    have hfn : (fromI (i + 1) l).Nodup := List.nodup_range'
    obtain ⟨Lr, hLr⟩ : ∃ Lr, fromI (i + 1) l = Lr := ⟨_, rfl⟩
    rw [hLr] at hfrom i9 hfl hfm hfn
    generalize hv9 : tailV la i n n = v9' at *
    have i10 : Ints (M ++ N) v10 (nats Rs) := ⟨q, o', by rw [nats_len]; exact g1, g2, fun k hk => by rw [nats_len] at hk; rw [nats_get]; exact g3 k hk⟩
    obtain ⟨pk, hpk⟩ : ∃ pk, pick c i Lr Rs left Rs = pk := ⟨_, rfl⟩
    refine AW.join (fun t M2 => ∃ N2, M2 = (M ++ N) ++ N2 ∧ All (fun i v => t i = some v) [(8, .pointer (some ⟨a, 0, none⟩)), (9, v9'), (10, v10), (11, .int .i64 left), (14, v14), (15, .int .i64 (i : Nat)), (16, .int .i64 (mI pk)), (49, .int .i64 (l : Nat)), (50, .int .i64 (i : Nat))]) ?_ ?_
    · (repeat (first | (with_reducible refine AWo.cons ?_) | ((with_reducible refine Step.id ?_); first | ((with_reducible apply Step.move); exact rfl; exact rfl) | ((with_reducible apply Step.len); exact rfl; (focus (assumption)); (focus (decide +kernel)); exact rfl)) | (with_reducible refine AWo.nil ?_) | ((with_reducible apply AW.seq)) | ((with_reducible apply Then.n)) | ((with_reducible apply AW.regL)) | ((with_reducible apply AW.block))))
      refine AW.loopW (fun rk t M2 => ∃ (j : Nat) (N2 : AM), rk = Rs.length - j ∧ j ≤ Rs.length ∧ M2 = (M ++ N) ++ N2 ∧ pick c i Lr Rs left (Rs.drop j) = pk ∧
        t = fr [(8, .pointer (some ⟨a, 0, none⟩)), (9, v9'), (10, v10), (11, .int .i64 left), (14, v14), (15, .int .i64 (i : Nat)), (16, .int .i64 (-1)), (49, .int .i64 (l : Nat)), (50, .int .i64 (i : Nat)), (55, v10), (56, .int .i64 (Rs.length : Nat)), (57, .int .i64 (j : Nat))]) ⟨_, _, (by repeat (first | exact trivial | (refine And.intro rfl ?_))), 0, _, rfl, Nat.zero_le _, rfl, by simpa using hpk, rfl⟩ ?_
      rintro rk t M2 ⟨j, N2, rfl, hj, rfl, hp, rfl⟩
      rcases Nat.lt_or_ge j Rs.length with hjl | hjg
      · obtain ⟨y, hy⟩ : ∃ y, y = Rs.getD j 0 := ⟨_, rfl⟩
        have hym : y ∈ Rs := by rw [hy]; exact Hung.getD_mem' hjl
        have hyr := hRs y hym
        have hdrop : Rs.drop j = y :: Rs.drop (j + 1) := by rw [List.drop_eq_getElem_cons hjl, hy]; simp [hjl]
        have gy := g3 j hjl
        rw [← hy] at gy
        rw [hdrop] at hp
        simp only [pick] at hp
        obtain ⟨w, k1, b', o2, k2, k3, k4⟩ := t7 i hlt
        rw [tab_len] at k2 k4
        have k5 := k4 y hyr
        rw [tab_get (c i) hyr] at k5
        have hcb := hcs i y
        by_cases hn : c i y < 0
        · rw [if_pos hn] at hp
          (repeat (first | (with_reducible refine AWo.cons ?_) | ((with_reducible refine Step.id ?_); first | ((with_reducible apply Step.move); exact rfl; exact rfl) | ((with_reducible apply Step.assign); exact rfl; exact rfl) | ((with_reducible apply Step.load); exact rfl; (focus (decide +kernel)); exact rfl; (focus (first | exact gy.old _ | exact (t2.old _).old _ | exact (k1.old _).old _ | exact (k5.old _).old _))) | ((with_reducible apply Step.ix1); exact rfl; (focus (assumption)); exact rfl; (focus (decide +kernel)); exact rfl; (focus (omega))) | ((with_reducible apply Step.field0); exact rfl; (focus (decide +kernel)); exact rfl) | ((with_reducible apply Step.add); exact rfl; exact rfl; (focus (omega)); exact rfl) | ((with_reducible apply Step.lss); exact rfl; exact rfl; exact rfl) | ((with_reducible apply Step.nilp); exact rfl; exact rfl)) | (with_reducible refine AWo.nil ?_) | ((with_reducible apply AW.seq)) | ((with_reducible apply Then.n)) | ((with_reducible apply AW.regL)) | ((with_reducible apply AW.block)) | ((with_reducible apply AW.exit)) | ((with_reducible apply InBlk.hit)) | ((with_reducible apply Then.e)) | ((with_reducible apply AW.skip)) | ((with_reducible apply AW.condT); exact rfl; (focus ((simp only [decide_eq_true_eq, decide_eq_false_iff_not, Bool.not_eq_true', Bool.not_eq_false', Bool.not_true, Bool.not_false]; first | assumption | omega))))))
          exact ⟨_, [(8, .pointer (some ⟨a, 0, none⟩)), (9, v9'), (10, v10), (11, .int .i64 left), (14, v14), (15, .int .i64 (i : Nat)), (16, .int .i64 (-1)), (49, .int .i64 (l : Nat)), (50, .int .i64 (i : Nat)), (55, v10), (56, .int .i64 (Rs.length : Nat)), (57, .int .i64 ((j + 1 : Nat) : Int))], by omega, (by repeat (first | exact trivial | (refine And.intro rfl ?_))), j + 1, N2, rfl, by omega, rfl, hp, rfl⟩
        · rw [if_neg hn] at hp
          have hwo : wv c l r i y = wo c i y := if_pos ⟨hlt, hyr⟩
          have hwb := wo_bd hcs i y
          (repeat (first | (with_reducible refine AWo.cons ?_) | ((with_reducible refine Step.id ?_); first | ((with_reducible apply Step.move); exact rfl; exact rfl) | ((with_reducible apply Step.assign); exact rfl; exact rfl) | ((with_reducible apply Step.load); exact rfl; (focus (decide +kernel)); exact rfl; (focus (first | exact gy.old _ | exact (t2.old _).old _ | exact (k1.old _).old _ | exact (k5.old _).old _))) | ((with_reducible apply Step.ix1); exact rfl; (focus (assumption)); exact rfl; (focus (decide +kernel)); exact rfl; (focus (omega))) | ((with_reducible apply Step.field0); exact rfl; (focus (decide +kernel)); exact rfl) | ((with_reducible apply Step.lss); exact rfl; exact rfl; exact rfl) | ((with_reducible apply Step.nilp); exact rfl; exact rfl)) | (with_reducible refine AWo.nil ?_) | ((with_reducible apply AW.seq)) | ((with_reducible apply Then.n)) | ((with_reducible apply AW.regL)) | ((with_reducible apply AW.block)) | ((with_reducible apply AW.skip)) | ((with_reducible apply AW.condT); exact rfl; (focus ((simp only [decide_eq_true_eq, decide_eq_false_iff_not, Bool.not_eq_true', Bool.not_eq_false', Bool.not_true, Bool.not_false]; first | assumption | omega)))) | ((with_reducible apply AW.condF); exact rfl; (focus ((simp only [decide_eq_true_eq, decide_eq_false_iff_not, Bool.not_eq_true', Bool.not_eq_false', Bool.not_true, Bool.not_false]; first | assumption | omega))))))
          ((with_reducible apply Step.callX fit); exact rfl; exact Try.func57; exact rfl; exact rfl; exact (without_ok (i10.old N2) (by omega) hym hnd))
          rintro w2 M3 ⟨N3, rfl⟩ hF
          have i10' := hF.ints
          clear hF
          (repeat ((with_reducible refine AWo.cons ?_)))
          ((with_reducible apply Step.callX fit); exact rfl; exact Try.func56; exact rfl; exact rfl; exact (assign_ok ((((hT.old N).old N2).old N3).old []) hcs (by omega) (by omega) (((i9.old N2).old N3).old []) (i10'.old []) (by omega) (Nat.le_trans List.length_erase_le hRl) hfm (fun x hx => hRs x (List.mem_of_mem_erase hx))))
          rintro v M4 ⟨N4, rfl⟩ ⟨va, vb, pa, pb, b2, rfl, hb2, _, _⟩
          have hb3 := hb2.mx hfn (hnd.erase y)
          have hb4 := left_bd hcs (L := Lr) (R := Rs.erase y) hfl
          rw [← hb3] at hb4 hp
          clear hb2 hb3
          have hM5 : M ++ N ++ N2 ++ N3 ++ [] ++ N4 ++ [] = (M ++ N) ++ (N2 ++ (N3 ++ N4)) := by simp
          by_cases hd : b2 + wo c i y = left
          · rw [if_pos hd] at hp
            (repeat (first | (with_reducible refine AWo.cons ?_) | ((with_reducible refine Step.id ?_); first | ((with_reducible apply Step.move); exact rfl; exact rfl) | ((with_reducible apply Step.assign); exact rfl; exact rfl) | ((with_reducible apply Step.add); exact rfl; exact rfl; (focus (omega)); exact rfl) | ((with_reducible apply Step.eql); exact rfl; exact rfl; exact rfl) | ((with_reducible apply Step.extract); exact rfl; exact rfl; exact rfl) | ((with_reducible apply Step.callR fit); exact rfl; exact Try.func58; exact rfl; exact rfl; exact (worth_ok ((((((hT.old N).old N2).old N3).old []).old N4).old []) hcs i y hwo))) | (with_reducible refine AWo.nil ?_) | ((with_reducible apply AW.seq)) | ((with_reducible apply Then.n)) | ((with_reducible apply AW.regL)) | ((with_reducible apply AW.exit)) | ((with_reducible apply InBlk.hit)) | ((with_reducible apply InBlk.miss); exact rfl) | ((with_reducible apply Then.e)) | ((with_reducible apply AW.condT); exact rfl; (focus ((simp only [decide_eq_true_eq, decide_eq_false_iff_not, Bool.not_eq_true', Bool.not_eq_false', Bool.not_true, Bool.not_false]; first | assumption | omega))))))
            exact ⟨_, hM5, by rw [← hp]; exact (by repeat (first | exact trivial | (refine And.intro rfl ?_)))⟩
          · rw [if_neg hd] at hp
            (repeat (first | (with_reducible refine AWo.cons ?_) | ((with_reducible refine Step.id ?_); first | ((with_reducible apply Step.move); exact rfl; exact rfl) | ((with_reducible apply Step.assign); exact rfl; exact rfl) | ((with_reducible apply Step.add); exact rfl; exact rfl; (focus (omega)); exact rfl) | ((with_reducible apply Step.eql); exact rfl; exact rfl; exact rfl) | ((with_reducible apply Step.extract); exact rfl; exact rfl; exact rfl) | ((with_reducible apply Step.callR fit); exact rfl; exact Try.func58; exact rfl; exact rfl; exact (worth_ok ((((((hT.old N).old N2).old N3).old []).old N4).old []) hcs i y hwo))) | (with_reducible refine AWo.nil ?_) | ((with_reducible apply AW.seq)) | ((with_reducible apply Then.n)) | ((with_reducible apply AW.regL)) | ((with_reducible apply InBlk.n)) | ((with_reducible apply AW.skip)) | ((with_reducible apply AW.condF); exact rfl; (focus ((simp only [decide_eq_true_eq, decide_eq_false_iff_not, Bool.not_eq_true', Bool.not_eq_false', Bool.not_true, Bool.not_false]; first | assumption | omega))))))
            exact ⟨_, [(8, .pointer (some ⟨a, 0, none⟩)), (9, v9'), (10, v10), (11, .int .i64 left), (14, v14), (15, .int .i64 (i : Nat)), (16, .int .i64 (-1)), (49, .int .i64 (l : Nat)), (50, .int .i64 (i : Nat)), (55, v10), (56, .int .i64 (Rs.length : Nat)), (57, .int .i64 ((j + 1 : Nat) : Int))], by omega, (by repeat (first | exact trivial | (refine And.intro rfl ?_))), j + 1, _, rfl, by omega, hM5, hp, rfl⟩
      · have hp' : pk = none := by rw [← hp, List.drop_eq_nil_of_le hjg]; rfl
        (repeat (first | (with_reducible refine AWo.cons ?_) | ((with_reducible refine Step.id ?_); ((with_reducible apply Step.lss); exact rfl; exact rfl; exact rfl)) | (with_reducible refine AWo.nil ?_) | ((with_reducible apply AW.seq)) | ((with_reducible apply Then.n)) | ((with_reducible apply AW.regL)) | ((with_reducible apply AW.exit)) | ((with_reducible apply InBlk.hit)) | ((with_reducible apply Then.e)) | ((with_reducible apply AW.condF); exact rfl; (focus ((simp only [decide_eq_true_eq, decide_eq_false_iff_not, Bool.not_eq_true', Bool.not_eq_false', Bool.not_true, Bool.not_false]; first | assumption | omega))))))
        exact ⟨N2, rfl, by rw [hp']; exact (by repeat (first | exact trivial | (refine And.intro rfl ?_)))⟩
    · rintro t _ ⟨N2, rfl, hall⟩
      refine AW.weak (fr_all hall) ?_
      clear hall
      rw [hfrom] at hleft hch
      have hcle : ∀ x y, c x y ≤ 1000000000 := fun x y => by have := (hcs x y).2; omega
      refine AW.seq ?_
      refine AW.join (fun t M2 => ∃ (N3 : AM) (v10' : Value) (q' o2 : Nat) (Rs' : List Nat) (left' : Int), M2 = (M ++ N) ++ N3 ∧ (Sl v10' q' o2 Rs'.length ∧ q' < M2.length ∧ ∀ k, k < Rs'.length → Rd M2 q' (o2 + k) (.int .i64 ((Rs'.getD k 0 : Nat) : Int))) ∧ Rs'.Nodup ∧ (∀ y ∈ Rs', y < r) ∧ left' = mx (wo c) Lr Rs' ∧
        (∀ s, v14 = .slice (some ⟨s, 0, none⟩) (iv out).length (iv out).length → s < (M ++ N).length → s ≠ q') ∧ chp c (i :: Lr) Rs = mI pk :: chp c Lr Rs' ∧
        All (fun i v => t i = some v) [(8, .pointer (some ⟨a, 0, none⟩)), (9, v9'), (10, v10'), (11, .int .i64 left'), (14, v14), (16, .int .i64 (mI pk)), (49, .int .i64 (l : Nat)), (50, .int .i64 (i : Nat))]) ?_ ?_
      · cases pk with
        | none =>
          have hsk := chp_skip hcle (x := i) (L := Lr) (R := Rs) (by rw [← hleft]; exact hpk)
          simp only [mI]
          (repeat (first | (with_reducible refine AWo.cons ?_) | ((with_reducible refine Step.id ?_); first | ((with_reducible apply Step.move); exact rfl; exact rfl) | ((with_reducible apply Step.geq); exact rfl; exact rfl; exact rfl)) | (with_reducible refine AWo.nil ?_) | ((with_reducible apply AW.seq)) | ((with_reducible apply Then.n)) | ((with_reducible apply AW.regL)) | ((with_reducible apply AW.skip)) | ((with_reducible apply AW.condF); exact rfl; (focus (rfl)))))
          refine ⟨N2, v10, q, o', Rs, left, rfl, ⟨g1, by have := g2; simp only [List.length_append] at this ⊢; omega, fun k hk => (g3 k hk).old N2⟩, hnd, hRs, by rw [hleft, hsk], fun s hs _ => hsq s hs, ?_, (by repeat (first | exact trivial | (refine And.intro rfl ?_)))⟩
          show (match pick c i Lr Rs (mx (wo c) (i :: Lr) Rs) Rs with | some y => ((y : Nat) : Int) :: chp c Lr (Rs.erase y) | none => -1 :: chp c Lr Rs) = _
          rw [← hleft, hpk]
        | some y =>
          obtain ⟨hym, hcy, hyl⟩ := pick_some hpk
          have hyr := hRs y hym
          have hwo : wv c l r i y = wo c i y := if_pos ⟨hlt, hyr⟩
          have hwb := wo_bd hcs i y
          simp only [mI]
          (repeat (first | (with_reducible refine AWo.cons ?_) | ((with_reducible refine Step.id ?_); first | ((with_reducible apply Step.move); exact rfl; exact rfl) | ((with_reducible apply Step.assign); exact rfl; exact rfl) | ((with_reducible apply Step.sub); exact rfl; exact rfl; (focus (omega)); exact rfl) | ((with_reducible apply Step.geq); exact rfl; exact rfl; exact rfl) | ((with_reducible apply Step.callR fit); exact rfl; exact Try.func58; exact rfl; exact rfl; exact (worth_ok ((hT.old N).old N2) hcs i y hwo))) | (with_reducible refine AWo.nil ?_) | ((with_reducible apply AW.seq)) | ((with_reducible apply Then.n)) | ((with_reducible apply AW.regL)) | ((with_reducible apply AW.condT); exact rfl; (focus (rfl)))))
          ((with_reducible apply Step.callX fit); exact rfl; exact Try.func57; exact rfl; exact rfl; exact (without_ok (i10.old N2) (by omega) hym hnd))
          rintro w2 M3 ⟨N3, rfl⟩ ⟨q', o2, f0, f1, f2, f3⟩
          rw [nats_len] at f1 f3
          (repeat (first | (with_reducible refine AWo.cons ?_) | ((with_reducible refine Step.id ?_); ((with_reducible apply Step.assign); exact rfl; exact rfl)) | (with_reducible refine AWo.nil ?_) | ((with_reducible apply Then.n))))
          refine ⟨N2 ++ N3, w2, q', o2, Rs.erase y, left - wo c i y, by simp, ⟨f1, by simpa using f2, fun k hk => ?_⟩, hnd.erase y, fun x hx => hRs x (List.mem_of_mem_erase hx), by omega, fun s hs hlt' => ?_, ?_, (by repeat (first | exact trivial | (refine And.intro rfl ?_)))⟩
          · have := f3 k hk
            rw [nats_get] at this
            exact this.old _
          · simp only [List.length_append] at f0 hlt'; omega
          · show (match pick c i Lr Rs (mx (wo c) (i :: Lr) Rs) Rs with | some y => ((y : Nat) : Int) :: chp c Lr (Rs.erase y) | none => -1 :: chp c Lr Rs) = _
            rw [← hleft, hpk]
      · rintro t M2 ⟨N3, v10', q', o2, Rs', left', rfl, ⟨x1, x2, x3⟩, hnd', hRs', hleft', hsq', hch', hall⟩
        refine AW.weak (fr_all hall) ?_
        clear hall
        obtain ⟨MM, hMM⟩ : ∃ MM, M ++ N ++ N3 = MM := ⟨_, rfl⟩
        have hlaM : MM[la]? = some (some { cells := iv (nats (List.range l)) }) := by rw [← hMM]; exact get_old _ hla
        have hspM : Spn (MM ++ [some { cells := [.int .i64 (mI pk)] }]) M.length v14 (iv out) := by rw [← hMM]; exact (hsp.old _).old _
        have hMlen : M.length ≤ MM.length := by rw [← hMM]; simp only [List.length_append]; omega
        have hap := hspM.app (by simp only [List.length_append]; omega) (.int .i64 (mI pk))
        rw [hMM] at x2 x3 ⊢
        refine AW.rebase ?_
        (repeat (first | (with_reducible refine AWo.cons ?_) | ((with_reducible refine Step.id ?_); first | ((with_reducible apply Step.move); exact rfl; exact rfl) | ((with_reducible apply Step.buildS 0); exact rfl; exact rfl; exact (fun _ _ => bs27x); exact rfl; (focus (first | (simp only [List.nil_append, List.cons_append, List.set_cons_zero, List.set_cons_succ, iv_set, bv_set, iv_rep, bv_rep]; done) | (simp only [List.nil_append, List.cons_append, List.set_cons_zero, List.set_cons_succ, iv_set, bv_set, iv_rep, bv_rep]; rfl) | rfl)))) | ((with_reducible apply AW.regL))))
        rcases hsp with ⟨hz1, hz2⟩ | ⟨hz1, sp, hz2, hz3, hz4⟩
        · have ho : iv (out ++ [mI pk]) = [.int .i64 (mI pk)] := by
            have : out = [] := by cases out with | nil => rfl | cons x t => simp [iv] at hz1
            rw [this]; rfl
          subst hz2
          ((with_reducible apply Step.appN); exact rfl; exact rfl; exact el27; exact un27; (focus (rw [get_app' (k := 0)]; rfl)); exact rfl; (focus (decide +kernel)); exact rfl)
          (repeat (first | (with_reducible refine AWo.cons ?_) | ((with_reducible refine Step.id ?_); first | ((with_reducible apply Step.move); exact rfl; exact rfl) | ((with_reducible apply Step.assign); exact rfl; exact rfl) | ((with_reducible apply Step.add); exact rfl; exact rfl; (focus (omega)); exact rfl)) | (with_reducible refine AWo.nil ?_) | ((with_reducible apply Then.n)) | ((with_reducible apply AW.regL)) | ((with_reducible apply InBlk.n))))
          refine ⟨_, [(8, .pointer (some ⟨a, 0, none⟩)), (9, v9'), (10, v10'), (11, .int .i64 left'), (14, .slice (some ⟨(MM ++ [some ({ cells := [.int .i64 (mI pk)] } : Blk)]).length, 0, none⟩) 1 1), (49, .int .i64 (l : Nat)), (50, .int .i64 ((i + 1 : Nat) : Int))], ?_, (by repeat (first | exact trivial | (refine And.intro rfl ?_))), i + 1, q', o2, Rs', left', out ++ [mI pk], v9', v10', _, (N ++ N3 ++ [some { cells := [.int .i64 (mI pk)] }] ++ [some { cells := [.int .i64 (mI pk)], kind := .grow, size := 1 }]), rfl, by omega, by rw [← hMM]; simp only [List.append_assoc], ?_, fun hil => ?_, ⟨x1, ?_, fun k hk => ?_⟩, hnd', hRs', by rw [hLr]; exact hleft', by rw [hleft']; exact left_bd hcs hfl, by rw [ho]; exact (hap.1 hz1), fun s' hs' => ?_, by simp; omega, ?_, rfl⟩
          · omega
          · exact get_old _ (get_old _ hlaM)
          · rw [← hv9, tailV, if_neg (by omega), show l - (i + 1) = n by omega]
          · simp only [List.length_append, List.length_set] at x2 ⊢; omega
          · exact ((x3 k hk).old _).old _
          · injection hs' with hs'
            injection hs' with hs'
            injection hs' with hs'
            simp only [List.length_append] at x2 hs'
            omega
          · rw [hch, hch', List.append_assoc]; rw [hLr]; rfl
        · subst hz3
          have hspl : sp < (M ++ N).length := (List.getElem?_eq_some_iff.1 hz4).1
          have hspq := hsq' sp rfl hspl
          have hspg : (MM ++ [some { cells := [.int .i64 (mI pk)] }])[sp]? = some (some { cells := iv out, kind := .grow, size := 1 }) := by rw [← hMM]; exact get_old _ (get_old _ hz4)
          have hspla : sp ≠ la := fun e => by
            rw [e] at hz4
            rw [hla] at hz4
            injection hz4 with h; injection h with h; injection h with _ h; cases h
          obtain ⟨N5, hN5⟩ := pre_set (m := M) (N := N ++ N3 ++ [some { cells := [.int .i64 (mI pk)] }]) (p := sp) (x := none) hz2
          ((with_reducible apply Step.appB); exact rfl; exact rfl; exact el27; exact un27; exact hspg; exact rfl; (focus (rw [get_app' (k := 0)]; rfl)); exact rfl; (focus (simp [iv]; omega)); exact rfl)
          (repeat (first | (with_reducible refine AWo.cons ?_) | ((with_reducible refine Step.id ?_); first | ((with_reducible apply Step.move); exact rfl; exact rfl) | ((with_reducible apply Step.assign); exact rfl; exact rfl) | ((with_reducible apply Step.add); exact rfl; exact rfl; (focus (omega)); exact rfl)) | (with_reducible refine AWo.nil ?_) | ((with_reducible apply Then.n)) | ((with_reducible apply AW.regL)) | ((with_reducible apply InBlk.n))))
          refine ⟨_, [(8, .pointer (some ⟨a, 0, none⟩)), (9, v9'), (10, v10'), (11, .int .i64 left'), (14, .slice (some ⟨(MM ++ [some ({ cells := [.int .i64 (mI pk)] } : Blk)]).length, 0, none⟩) ((iv out).length + 1) ((iv out).length + 1)), (49, .int .i64 (l : Nat)), (50, .int .i64 ((i + 1 : Nat) : Int))], ?_, (by repeat (first | exact trivial | (refine And.intro rfl ?_))), i + 1, q', o2, Rs', left', out ++ [mI pk], v9', v10', _, (N5 ++ [some { cells := iv out ++ [.int .i64 (mI pk)], kind := .grow, size := 1 }]), rfl, by omega, by rw [← List.append_assoc, ← hN5, ← hMM]; simp only [List.append_assoc], ?_, fun hil => ?_, ⟨x1, ?_, fun k hk => ?_⟩, hnd', hRs', by rw [hLr]; exact hleft', by rw [hleft']; exact left_bd hcs hfl, by rw [show iv (out ++ [mI pk]) = iv out ++ [.int .i64 (mI pk)] by simp [iv]]; exact hap.2 sp rfl, fun s' hs' => ?_, by simp; omega, ?_, rfl⟩
          · omega
          · exact get_old _ (by rw [List.getElem?_set_ne hspla]; exact get_old _ hlaM)
          · rw [← hv9, tailV, if_neg (by omega), show l - (i + 1) = n by omega]
          · simp only [List.length_append, List.length_set] at x2 ⊢; omega
          · exact Rd.old _ (Rd.set_ne ((x3 k hk).old _) (Ne.symm hspq))
          · injection hs' with hs'
            injection hs' with hs'
            injection hs' with hs'
            simp only [List.length_append] at x2 hs'
            omega
          · rw [hch, hch', List.append_assoc]; rw [hLr]; rfl
  · have hil : i = l := by omega
    subst hil
    (repeat (first | (with_reducible refine AWo.cons ?_) | ((with_reducible refine Step.id ?_); first | ((with_reducible apply Step.move); exact rfl; exact rfl) | ((with_reducible apply Step.assign); exact rfl; exact rfl) | ((with_reducible apply Step.lss); exact rfl; exact rfl; exact rfl)) | (with_reducible refine AWo.nil ?_) | ((with_reducible apply AW.seq)) | ((with_reducible apply Then.n)) | ((with_reducible apply AW.regL)) | ((with_reducible apply AW.exit)) | ((with_reducible apply InBlk.hit)) | ((with_reducible apply Then.e)) | ((with_reducible apply AW.condF); exact rfl; (focus ((simp only [decide_eq_true_eq, decide_eq_false_iff_not, Bool.not_eq_true', Bool.not_eq_false', Bool.not_true, Bool.not_false]; first | assumption | omega))))))
    (refine AW.ret ?_; (repeat (first | refine Then.r ?_ | refine InBlk.r ?_)))
    obtain ⟨N0, hN0⟩ := hMN
    have hfe : fromI i i = [] := by unfold fromI; rw [Nat.sub_self]; rfl
    rw [hfe] at hch
    simp only [chp, List.append_nil] at hch
    refine ⟨_, rfl, N0 ++ N, by rw [hN0, List.append_assoc], _, rfl, ?_⟩
    rw [hch]
    rcases hsp with ⟨hz1, hz2⟩ | ⟨hz1, sp, hz2, hz3, hz4⟩
    · have ho : out = [] := by cases out with | nil => rfl | cons x t => simp [iv] at hz1
      rw [hz2, ho]
      exact ints_nil (by simp only [List.length_append]; omega)
    · rw [hz3]
      exact ints_at hz4 rfl _ (by simp [iv])
end Go.Proofs.Ytajpngnphbdnnaa.Abs
namespace Go.Proofs.Ytajpngnphbdnnaa.Abs
set_option linter.unusedSimpArgs false
set_option linter.unusedVariables false
open Go.RowKit
open Go.Proofs.Ytajpngnphbdnnaa.Sim
open Go.Proofs
open Hung
theorem bl33a {a : Int} : abuild Try.prog 33 [(0, .int .i64 a)] = some (.agg #[.int .i64 a, .int .i64 0, .int .i64 0, .int .i64 0]) := by kernel_rfl
theorem bl33n : abuild Try.prog 33 [] = some (.agg #[.int .i64 0, .int .i64 0, .int .i64 0, .int .i64 0]) := by kernel_rfl
theorem bl35 {a b c d e f g h : Int} : abuild Try.prog 35 [(0, .agg #[.int .i64 a, .int .i64 b, .int .i64 c, .int .i64 d]), (1, .agg #[.int .i64 e, .int .i64 f, .int .i64 g, .int .i64 h])] = some (.agg #[.int .i64 a, .int .i64 b, .int .i64 c, .int .i64 d, .int .i64 e, .int .i64 f, .int .i64 g, .int .i64 h]) := by kernel_rfl
theorem bs31b {m : AM} {k : Nat} {a b c d e f g h : Int} : abuildSlice Try.prog m k 31 2 [(0, .agg #[.int .i64 a, .int .i64 b, .int .i64 c, .int .i64 d]), (1, .agg #[.int .i64 e, .int .i64 f, .int .i64 g, .int .i64 h])] = some (.slice (some ⟨k, 0, none⟩) 2 2, m.set k (some { cells := [.int .i64 a, .int .i64 b, .int .i64 c, .int .i64 d, .int .i64 e, .int .i64 f, .int .i64 g, .int .i64 h] })) := by kernel_rfl
theorem bs27y {m : AM} {k : Nat} {x y : Int} : abuildSlice Try.prog m k 27 2 [(0, .int .i64 x), (1, .int .i64 y)] = some (.slice (some ⟨k, 0, none⟩) 2 2, m.set k (some { cells := [.int .i64 x, .int .i64 y] })) := by kernel_rfl
theorem ze35 : zeroB Try.prog 35 = some #[.int .i64 0, .int .i64 0, .int .i64 0, .int .i64 0, .int .i64 0, .int .i64 0, .int .i64 0, .int .i64 0] := by kernel_rfl
def uA : Ru := ⟨⟨1, 0, 0, 0⟩, ⟨10, 0, 0, 0⟩⟩
def lA : List Gl := [⟨0, 0, 0, 0⟩, ⟨10, 0, 0, 0⟩]
def rA : List Gl := [⟨10, 0, 0, 0⟩, ⟨0, 0, 0, 0⟩]
theorem chpA : chp (cT uA lA rA) (List.range 2) (List.range 2) = [1, 0] := by decide +kernel
set_option maxHeartbeats 1000000 in
set_option maxRecDepth 100000 in
theorem awake_ok {m : AM} : ACall Try.prog 25 #[] m (Ret (.bool true) m) := by
  have g1 : ∀ (b0 : Option Blk) (T : AM), Gls (m ++ (b0 :: some { cells := [.int .i64 0, .int .i64 0, .int .i64 0, .int .i64 0, .int .i64 10, .int .i64 0, .int .i64 0, .int .i64 0] } :: T)) (.slice (some ⟨m.length + 1, 0, none⟩) 2 2) lA := fun b0 T => ⟨m.length + 1, 0, Sl.mk (Nat.le_refl _), by simp, fun k hk => by
    have hk : k < 2 := hk
    rcases k with _ | _ | k
    · exact ⟨_, by rw [get_app]; rfl, fun j v hj => by rcases j with _ | _ | _ | _ | j <;> first | exact hj | (simp [Gl.cells, lA] at hj)⟩
    · exact ⟨_, by rw [get_app]; rfl, fun j v hj => by rcases j with _ | _ | _ | _ | j <;> first | exact hj | (simp [Gl.cells, lA] at hj)⟩
    · omega⟩
  have g2 : ∀ (b0 b1 : Option Blk) (T : AM), Gls (m ++ (b0 :: b1 :: some { cells := [.int .i64 10, .int .i64 0, .int .i64 0, .int .i64 0, .int .i64 0, .int .i64 0, .int .i64 0, .int .i64 0] } :: T)) (.slice (some ⟨m.length + 2, 0, none⟩) 2 2) rA := fun b0 b1 T => ⟨m.length + 2, 0, Sl.mk (Nat.le_refl _), by simp, fun k hk => by
    have hk : k < 2 := hk
    rcases k with _ | _ | k
    · exact ⟨_, by rw [get_app]; rfl, fun j v hj => by rcases j with _ | _ | _ | _ | j <;> first | exact hj | (simp [Gl.cells, rA] at hj)⟩
    · exact ⟨_, by rw [get_app]; rfl, fun j v hj => by rcases j with _ | _ | _ | _ | j <;> first | exact hj | (simp [Gl.cells, rA] at hj)⟩
    · omega⟩
  refine ACall.drop (Ren.of_g0 rfl) ?_
  refine ACall.start Try.func25 rfl rfl ?_
  (repeat (first | (with_reducible refine AWo.cons ?_) | ((with_reducible refine Step.id ?_); first | ((with_reducible apply Step.assign); exact rfl; exact rfl) | ((with_reducible apply Step.loadL (n := 8)); exact rfl; (focus (decide +kernel)); (focus (decide +kernel)); exact rfl; (focus (exact RdL.new rfl rfl)); exact rfl; exact rfl) | ((with_reducible apply Step.alloc 0); exact rfl; exact ze35; exact rfl; (focus (first | (simp only [List.nil_append, List.cons_append, List.set_cons_zero, List.set_cons_succ, iv_set, bv_set, iv_rep, bv_rep]; done) | (simp only [List.nil_append, List.cons_append, List.set_cons_zero, List.set_cons_succ, iv_set, bv_set, iv_rep, bv_rep]; rfl) | rfl))) | ((with_reducible apply Step.storeA (k := 0) (n := 8)); exact rfl; exact rfl; exact rfl; exact rfl; (focus (decide +kernel)); exact rfl; (focus (kernel_rfl)); exact rfl; (focus (first | (simp only [List.nil_append, List.cons_append, List.set_cons_zero, List.set_cons_succ, iv_set, bv_set, iv_rep, bv_rep]; done) | (simp only [List.nil_append, List.cons_append, List.set_cons_zero, List.set_cons_succ, iv_set, bv_set, iv_rep, bv_rep]; rfl) | rfl))) | ((with_reducible apply Step.buildS 1); exact rfl; exact rfl; exact (fun _ _ => bs31b); exact rfl; (focus (first | (simp only [List.nil_append, List.cons_append, List.set_cons_zero, List.set_cons_succ, iv_set, bv_set, iv_rep, bv_rep]; done) | (simp only [List.nil_append, List.cons_append, List.set_cons_zero, List.set_cons_succ, iv_set, bv_set, iv_rep, bv_rep]; rfl) | rfl))) | ((with_reducible apply Step.buildS 2); exact rfl; exact rfl; exact (fun _ _ => bs31b); exact rfl; (focus (first | (simp only [List.nil_append, List.cons_append, List.set_cons_zero, List.set_cons_succ, iv_set, bv_set, iv_rep, bv_rep]; done) | (simp only [List.nil_append, List.cons_append, List.set_cons_zero, List.set_cons_succ, iv_set, bv_set, iv_rep, bv_rep]; rfl) | rfl))) | ((with_reducible apply Step.build); exact rfl; exact bl33n; exact rfl) | ((with_reducible apply Step.build); exact rfl; exact bl33a; exact rfl) | ((with_reducible apply Step.build); exact rfl; exact bl35; exact rfl)) | (with_reducible refine AWo.nil ?_) | ((with_reducible apply AW.seq)) | ((with_reducible apply Then.n)) | ((with_reducible apply AW.regL))))
  ((with_reducible apply Step.callX fit); exact rfl; exact Try.func20; exact rfl; exact rfl; exact (Cheapest_ok (u := uA) (g1 _ _) (g2 _ _ _) rfl rfl rfl))
  rintro v MM ⟨N, hN⟩ ⟨w, rfl, hw⟩
  rw [show chp (cT uA lA rA) (List.range lA.length) (List.range rA.length) = [1, 0] from chpA] at hw
  have hpre : ∃ N', MM = m ++ N' := ⟨_, by rw [hN, List.append_assoc]⟩
  clear hN g1 g2
  have he : ACall Try.prog 24 #[w, .slice (some ⟨MM.length + 0, 0, none⟩) 2 2] (MM ++ [some { cells := [.int .i64 1, .int .i64 0] }]) (Ret (.bool true) (MM ++ [some { cells := [.int .i64 1, .int .i64 0] }])) := equal_ok (hw.old _) (ints_new (l := [1, 0]) rfl rfl _ rfl) (by decide) rfl
  (repeat (first | (with_reducible refine AWo.cons ?_) | ((with_reducible refine Step.id ?_); first | ((with_reducible apply Step.gdT); exact rfl; exact rfl; (focus (rfl))) | ((with_reducible apply Step.move); exact rfl; exact rfl) | ((with_reducible apply Step.assign); exact rfl; exact rfl) | ((with_reducible apply Step.eql); exact rfl; exact rfl; exact rfl) | ((with_reducible apply Step.extract); exact rfl; exact rfl; exact rfl) | ((with_reducible apply Step.pickT); exact rfl; exact rfl; exact rfl; exact rfl; (focus (rfl))) | ((with_reducible apply Step.callR fit); exact rfl; exact Try.func24; exact rfl; exact rfl; exact (he)) | ((with_reducible apply Step.buildS 0); exact rfl; exact rfl; exact (fun _ _ => bs27y); exact rfl; (focus (first | (simp only [List.nil_append, List.cons_append, List.set_cons_zero, List.set_cons_succ, iv_set, bv_set, iv_rep, bv_rep]; done) | (simp only [List.nil_append, List.cons_append, List.set_cons_zero, List.set_cons_succ, iv_set, bv_set, iv_rep, bv_rep]; rfl) | rfl)))) | (with_reducible refine AWo.nil ?_) | ((with_reducible apply AW.seq)) | ((with_reducible apply Then.n)) | ((with_reducible apply AW.regL))))
  (refine AW.ret ?_; (repeat (first | refine Then.r ?_ | refine InBlk.r ?_)))
  obtain ⟨N', rfl⟩ := hpre
  exact ⟨_, rfl, rfl, _, by rw [List.append_assoc]⟩
end Go.Proofs.Ytajpngnphbdnnaa.Abs
namespace Go.Proofs.Ytajpngnphbdnnaa.Abs
set_option linter.unusedSimpArgs false
set_option linter.unusedVariables false
open Go.RowKit
open Go.Proofs.Ytajpngnphbdnnaa.Sim
open Go.Proofs
set_option maxRecDepth 100000 in
theorem four_ok {m : AM} (x : Gl) : ACall Try.prog 83 #[x.v] m (Ret x.v m) := by
  refine ACall.drop (Ren.aggI [x.a, x.b, x.c, x.d]) ?_
  unfold Gl.v
  refine ACall.start Try.func83 rfl rfl ?_
  (repeat (first | (with_reducible refine AWo.cons ?_) | ((with_reducible refine Step.id ?_); first | ((with_reducible apply Step.load); exact rfl; (focus (decide +kernel)); exact rfl; (focus (exact Rd.new rfl rfl))) | ((with_reducible apply Step.field0); exact rfl; (focus (decide +kernel)); exact rfl) | ((with_reducible apply Step.field (k := 1)); exact rfl; (focus (decide +kernel)); exact rfl) | ((with_reducible apply Step.field (k := 2)); exact rfl; (focus (decide +kernel)); exact rfl) | ((with_reducible apply Step.field (k := 3)); exact rfl; (focus (decide +kernel)); exact rfl) | ((with_reducible apply Step.box 0); exact rfl; exact rfl; (focus (kernel_rfl)); exact rfl; (focus (first | (simp only [List.nil_append, List.cons_append, List.set_cons_zero, List.set_cons_succ, iv_set, bv_set, iv_rep, bv_rep]; done) | (simp only [List.nil_append, List.cons_append, List.set_cons_zero, List.set_cons_succ, iv_set, bv_set, iv_rep, bv_rep]; rfl) | rfl))) | ((with_reducible apply Step.alloc 1); exact rfl; exact ze113; exact rfl; (focus (first | (simp only [List.nil_append, List.cons_append, List.set_cons_zero, List.set_cons_succ, iv_set, bv_set, iv_rep, bv_rep]; done) | (simp only [List.nil_append, List.cons_append, List.set_cons_zero, List.set_cons_succ, iv_set, bv_set, iv_rep, bv_rep]; rfl) | rfl))) | ((with_reducible apply Step.storeA (k := 1) (n := 4)); exact rfl; exact rfl; exact rfl; exact rfl; (focus (decide +kernel)); exact rfl; (focus (kernel_rfl)); exact rfl; (focus (first | (simp only [List.nil_append, List.cons_append, List.set_cons_zero, List.set_cons_succ, iv_set, bv_set, iv_rep, bv_rep]; done) | (simp only [List.nil_append, List.cons_append, List.set_cons_zero, List.set_cons_succ, iv_set, bv_set, iv_rep, bv_rep]; rfl) | rfl))) | ((with_reducible apply Step.build); exact rfl; exact bl113; exact rfl)) | (with_reducible refine AWo.nil ?_) | ((with_reducible apply AW.seq)) | ((with_reducible apply Then.n)) | ((with_reducible apply AW.regL))))
  (refine AW.ret ?_; (repeat (first | refine Then.r ?_ | refine InBlk.r ?_)))
  exact ⟨_, ares_cell rfl rfl (by decide +kernel) (n := 4) (by decide +kernel) (RdL.new rfl rfl) rfl rfl, rfl, _, rfl⟩
theorem gB_not {x : Gl} {k : Nat} (hk : k < 4) (h : ¬ (0 ≤ x.g k ∧ x.g k ≤ 1000)) : gB x = false := by
  cases e : gB x with
  | false => rfl
  | true => exact absurd (gB_iff.1 e k hk) h
set_option maxRecDepth 100000 in
theorem valid_ok {m : AM} (x : Gl) {b : Bool} (hb : gB x = b) : ACall Try.prog 67 #[x.v] m (Ret (.bool b) m) := by
  subst hb
  have hr := fun L => four_ok (m := m ++ L) x
  have r0 : ∀ T : AM, RdL (m ++ (some { cells := x.cells } :: T)) (m.length + 0) 0 x.cells := fun T => RdL.new rfl rfl
  refine ACall.start Try.func67 rfl rfl ?_
  (repeat (first | (with_reducible refine AWo.cons ?_) | ((with_reducible refine Step.id ?_); first | ((with_reducible apply Step.move); exact rfl; exact rfl) | ((with_reducible apply Step.assign); exact rfl; exact rfl) | ((with_reducible apply Step.loadL (n := 4)); exact rfl; (focus (decide +kernel)); (focus (decide +kernel)); exact rfl; (focus (exact RdL.new rfl rfl)); exact rfl; exact rfl) | ((with_reducible apply Step.callR fit); exact rfl; exact Try.func83; exact rfl; exact rfl; exact (hr _)) | ((with_reducible apply Step.box 0); exact rfl; exact rfl; (focus (kernel_rfl)); exact rfl; (focus (first | (simp only [List.nil_append, List.cons_append, List.set_cons_zero, List.set_cons_succ, iv_set, bv_set, iv_rep, bv_rep]; done) | (simp only [List.nil_append, List.cons_append, List.set_cons_zero, List.set_cons_succ, iv_set, bv_set, iv_rep, bv_rep]; rfl) | rfl)))) | (with_reducible refine AWo.nil ?_) | ((with_reducible apply AW.seq)) | ((with_reducible apply Then.n)) | ((with_reducible apply AW.regL)) | ((with_reducible apply AW.block))))
  refine AW.loopT (fun rk t L => ∃ k : Nat, rk = 4 - k ∧ k ≤ 4 ∧ (∀ j, j < k → 0 ≤ x.g j ∧ x.g j ≤ 1000) ∧ L = [some { cells := x.cells }] ∧ t = [(6, x.v), (7, .int .i64 (k : Nat))]) ⟨_, _, _, (Or.inl ⟨rfl, (by repeat (first | exact trivial | (refine And.intro rfl ?_)))⟩), 0, rfl, Nat.zero_le _, by omega, rfl, rfl⟩ ?_
  rintro rk t L ⟨k, rfl, hk, hz, rfl, rfl⟩
  unfold Gl.v
  rcases Nat.lt_or_ge k 4 with hlt | hge
  · have hv : (#[.int .i64 x.a, .int .i64 x.b, .int .i64 x.c, .int .i64 x.d] : Array Value)[k]? = some (.int .i64 (x.g k)) := by
      rcases k with _ | _ | _ | _ | k <;> first | rfl | omega
    by_cases h1 : x.g k < 0
    · have hn := gB_not hlt (by omega : ¬ (0 ≤ x.g k ∧ x.g k ≤ 1000))
      (repeat (first | (with_reducible refine AWo.cons ?_) | ((with_reducible refine Step.id ?_); first | ((with_reducible apply Step.gdF); exact rfl; exact rfl; (focus ((simp only [decide_eq_true_eq, decide_eq_false_iff_not, Bool.not_eq_true', Bool.not_eq_false', Bool.not_true, Bool.not_false]; first | assumption | omega)))) | ((with_reducible apply Step.move); exact rfl; exact rfl) | ((with_reducible apply Step.assign); exact rfl; exact rfl) | ((with_reducible apply Step.indexV); exact rfl; exact rfl; exact un113; exact sz3; (focus (decide +kernel)); (focus (omega)); (focus (assumption)); exact rfl) | ((with_reducible apply Step.lss); exact rfl; exact rfl; exact rfl) | ((with_reducible apply Step.pickT); exact rfl; exact rfl; exact rfl; exact rfl; (focus ((simp only [decide_eq_true_eq, decide_eq_false_iff_not, Bool.not_eq_true', Bool.not_eq_false', Bool.not_true, Bool.not_false]; first | assumption | omega))))) | (with_reducible refine AWo.nil ?_) | ((with_reducible apply AW.seq)) | ((with_reducible apply Then.n)) | ((with_reducible apply AW.regL)) | ((with_reducible apply AW.block)) | ((with_reducible apply AW.skip)) | ((with_reducible apply AW.condT); exact rfl; (focus (first | rfl | (simp only [decide_eq_true_eq, decide_eq_false_iff_not, Bool.not_eq_true', Bool.not_eq_false', Bool.not_true, Bool.not_false]; first | assumption | omega))))))
      (refine AW.retD (l := [(2, _)]) (by repeat (first | exact trivial | (refine And.intro ⟨rfl, by (exact .bool _)⟩ ?_))) ?_; (repeat (first | refine Then.r ?_ | refine InBlk.r ?_)))
      exact ⟨_, rfl, by rw [hn], rfl⟩
    · by_cases h2 : 1000 < x.g k
      · have hn := gB_not hlt (by omega : ¬ (0 ≤ x.g k ∧ x.g k ≤ 1000))
        (repeat (first | (with_reducible refine AWo.cons ?_) | ((with_reducible refine Step.id ?_); first | ((with_reducible apply Step.gdT); exact rfl; exact rfl; (focus ((simp only [decide_eq_true_eq, decide_eq_false_iff_not, Bool.not_eq_true', Bool.not_eq_false', Bool.not_true, Bool.not_false]; first | assumption | omega)))) | ((with_reducible apply Step.move); exact rfl; exact rfl) | ((with_reducible apply Step.assign); exact rfl; exact rfl) | ((with_reducible apply Step.indexV); exact rfl; exact rfl; exact un113; exact sz3; (focus (decide +kernel)); (focus (omega)); (focus (assumption)); exact rfl) | ((with_reducible apply Step.lss); exact rfl; exact rfl; exact rfl) | ((with_reducible apply Step.gtr); exact rfl; exact rfl; exact rfl) | ((with_reducible apply Step.pickF); exact rfl; exact rfl; exact rfl; exact rfl; (focus ((simp only [decide_eq_true_eq, decide_eq_false_iff_not, Bool.not_eq_true', Bool.not_eq_false', Bool.not_true, Bool.not_false]; first | assumption | omega))))) | (with_reducible refine AWo.nil ?_) | ((with_reducible apply AW.seq)) | ((with_reducible apply Then.n)) | ((with_reducible apply AW.regL)) | ((with_reducible apply AW.block)) | ((with_reducible apply AW.skip)) | ((with_reducible apply AW.condT); exact rfl; (focus ((simp only [decide_eq_true_eq, decide_eq_false_iff_not, Bool.not_eq_true', Bool.not_eq_false', Bool.not_true, Bool.not_false]; first | assumption | omega))))))
        (refine AW.retD (l := [(2, _)]) (by repeat (first | exact trivial | (refine And.intro ⟨rfl, by (exact .bool _)⟩ ?_))) ?_; (repeat (first | refine Then.r ?_ | refine InBlk.r ?_)))
        exact ⟨_, rfl, by rw [hn], rfl⟩
      · (repeat (first | (with_reducible refine AWo.cons ?_) | ((with_reducible refine Step.id ?_); first | ((with_reducible apply Step.gdT); exact rfl; exact rfl; (focus ((simp only [decide_eq_true_eq, decide_eq_false_iff_not, Bool.not_eq_true', Bool.not_eq_false', Bool.not_true, Bool.not_false]; first | assumption | omega)))) | ((with_reducible apply Step.move); exact rfl; exact rfl) | ((with_reducible apply Step.assign); exact rfl; exact rfl) | ((with_reducible apply Step.indexV); exact rfl; exact rfl; exact un113; exact sz3; (focus (decide +kernel)); (focus (omega)); (focus (assumption)); exact rfl) | ((with_reducible apply Step.add); exact rfl; exact rfl; (focus (omega)); exact rfl) | ((with_reducible apply Step.lss); exact rfl; exact rfl; exact rfl) | ((with_reducible apply Step.gtr); exact rfl; exact rfl; exact rfl) | ((with_reducible apply Step.pickF); exact rfl; exact rfl; exact rfl; exact rfl; (focus ((simp only [decide_eq_true_eq, decide_eq_false_iff_not, Bool.not_eq_true', Bool.not_eq_false', Bool.not_true, Bool.not_false]; first | assumption | omega))))) | (with_reducible refine AWo.nil ?_) | ((with_reducible apply AW.seq)) | ((with_reducible apply Then.n)) | ((with_reducible apply AW.regL)) | ((with_reducible apply AW.block)) | ((with_reducible apply InBlk.n)) | ((with_reducible apply AW.skip)) | ((with_reducible apply AW.condT); exact rfl; (focus ((simp only [decide_eq_true_eq, decide_eq_false_iff_not, Bool.not_eq_true', Bool.not_eq_false', Bool.not_true, Bool.not_false]; first | assumption | omega)))) | ((with_reducible apply AW.condF); exact rfl; (focus ((simp only [decide_eq_true_eq, decide_eq_false_iff_not, Bool.not_eq_true', Bool.not_eq_false', Bool.not_true, Bool.not_false]; first | assumption | omega))))))
        exact ⟨_, [(6, x.v), (7, .int .i64 ((k + 1 : Nat) : Int))], _, by omega, (Or.inl ⟨rfl, (by repeat (first | exact trivial | (refine And.intro rfl ?_)))⟩), k + 1, rfl, by omega, fun j hj => by
          by_cases e : j = k
          · subst e; omega
          · exact hz j (by omega), rfl, rfl⟩
  · (repeat (first | (with_reducible refine AWo.cons ?_) | ((with_reducible refine Step.id ?_); first | ((with_reducible apply Step.assign); exact rfl; exact rfl) | ((with_reducible apply Step.lss); exact rfl; exact rfl; exact rfl)) | (with_reducible refine AWo.nil ?_) | ((with_reducible apply AW.seq)) | ((with_reducible apply Then.n)) | ((with_reducible apply AW.regL)) | ((with_reducible apply AW.exit)) | ((with_reducible apply InBlk.hit)) | ((with_reducible apply Then.e)) | ((with_reducible apply AW.condF); exact rfl; (focus ((simp only [decide_eq_true_eq, decide_eq_false_iff_not, Bool.not_eq_true', Bool.not_eq_false', Bool.not_true, Bool.not_false]; first | assumption | omega))))))
    obtain rfl : k = 4 := by omega
    (refine AW.retD (l := [(2, _)]) (by repeat (first | exact trivial | (refine And.intro ⟨rfl, by (exact .bool _)⟩ ?_))) ?_; (repeat (first | refine Then.r ?_ | refine InBlk.r ?_)))
    exact ⟨_, rfl, by rw [gB_iff.2 hz], rfl⟩
set_option maxRecDepth 100000 in
theorem law_ok {m : AM} (u : Ru) {b : Bool} (hb : uB u = b) : ACall Try.prog 62 #[u.v] m (Ret (.bool b) m) := by
  subst hb
  have hw := fun L => valid_ok (m := m ++ L) u.w rfl
  have hl := fun L => valid_ok (m := m ++ L) u.l rfl
  have r0 : ∀ T : AM, RdL (m ++ (some { cells := u.cells } :: T)) (m.length + 0) 0 u.w.cells := fun T => ⟨_, by rw [get_app]; rfl, fun j v hj => by
    rcases j with _ | _ | _ | _ | j <;> first | exact hj | (simp [Gl.cells] at hj)⟩
  have r4 : ∀ T : AM, RdL (m ++ (some { cells := u.cells } :: T)) (m.length + 0) (0 + 4) u.l.cells := fun T => ⟨_, by rw [get_app]; rfl, fun j v hj => by
    rcases j with _ | _ | _ | _ | j <;> first | exact hj | (simp [Gl.cells] at hj)⟩
  unfold uB
  refine ACall.start Try.func62 rfl rfl ?_
  cases h : gB u.w with
  | true =>
    rw [h] at hw
    (repeat (first | (with_reducible refine AWo.cons ?_) | ((with_reducible refine Step.id ?_); first | ((with_reducible apply Step.assign); exact rfl; exact rfl) | ((with_reducible apply Step.field0); exact rfl; (focus (decide +kernel)); exact rfl) | ((with_reducible apply Step.box 0); exact rfl; exact rfl; (focus (kernel_rfl)); exact rfl; (focus (first | (simp only [List.nil_append, List.cons_append, List.set_cons_zero, List.set_cons_succ, iv_set, bv_set, iv_rep, bv_rep]; done) | (simp only [List.nil_append, List.cons_append, List.set_cons_zero, List.set_cons_succ, iv_set, bv_set, iv_rep, bv_rep]; rfl) | rfl)))) | (with_reducible refine AWo.nil ?_) | ((with_reducible apply AW.seq)) | ((with_reducible apply Then.n)) | ((with_reducible apply AW.regL))))
    ((with_reducible apply Step.loadL (n := 4)); exact rfl; (focus (decide +kernel)); (focus (decide +kernel)); exact rfl; exact (r0 _); exact rfl; exact rfl)
    (repeat (first | (with_reducible refine AWo.cons ?_) | ((with_reducible refine Step.id ?_); first | ((with_reducible apply Step.gdT); exact rfl; exact rfl; (focus (rfl))) | ((with_reducible apply Step.move); exact rfl; exact rfl) | ((with_reducible apply Step.assign); exact rfl; exact rfl) | ((with_reducible apply Step.loadL (n := 4)); exact rfl; (focus (decide +kernel)); (focus (decide +kernel)); exact rfl; (focus (exact r4 _)); exact rfl; exact rfl) | ((with_reducible apply Step.field (k := 4)); exact rfl; (focus (decide +kernel)); exact rfl) | ((with_reducible apply Step.pickT); exact rfl; exact rfl; exact rfl; exact rfl; (focus (rfl))) | ((with_reducible apply Step.callR fit); exact rfl; exact Try.func67; exact rfl; exact rfl; exact (hw _)) | ((with_reducible apply Step.callR fit); exact rfl; exact Try.func67; exact rfl; exact rfl; exact (hl _))) | (with_reducible refine AWo.nil ?_) | ((with_reducible apply Then.n))))
    (refine AW.retD (l := [(2, _)]) (by repeat (first | exact trivial | (refine And.intro ⟨rfl, by (exact .bool _)⟩ ?_))) ?_; (repeat (first | refine Then.r ?_ | refine InBlk.r ?_)))
    exact ⟨_, rfl, by simp, rfl⟩
  | false =>
    rw [h] at hw
    (repeat (first | (with_reducible refine AWo.cons ?_) | ((with_reducible refine Step.id ?_); first | ((with_reducible apply Step.assign); exact rfl; exact rfl) | ((with_reducible apply Step.field0); exact rfl; (focus (decide +kernel)); exact rfl) | ((with_reducible apply Step.box 0); exact rfl; exact rfl; (focus (kernel_rfl)); exact rfl; (focus (first | (simp only [List.nil_append, List.cons_append, List.set_cons_zero, List.set_cons_succ, iv_set, bv_set, iv_rep, bv_rep]; done) | (simp only [List.nil_append, List.cons_append, List.set_cons_zero, List.set_cons_succ, iv_set, bv_set, iv_rep, bv_rep]; rfl) | rfl)))) | (with_reducible refine AWo.nil ?_) | ((with_reducible apply AW.seq)) | ((with_reducible apply Then.n)) | ((with_reducible apply AW.regL))))
    ((with_reducible apply Step.loadL (n := 4)); exact rfl; (focus (decide +kernel)); (focus (decide +kernel)); exact rfl; exact (r0 _); exact rfl; exact rfl)
    (repeat (first | (with_reducible refine AWo.cons ?_) | ((with_reducible refine Step.id ?_); first | ((with_reducible apply Step.gdF); exact rfl; exact rfl; (focus (rfl))) | ((with_reducible apply Step.move); exact rfl; exact rfl) | ((with_reducible apply Step.assign); exact rfl; exact rfl) | ((with_reducible apply Step.pickF); exact rfl; exact rfl; exact rfl; exact rfl; (focus (rfl))) | ((with_reducible apply Step.callR fit); exact rfl; exact Try.func67; exact rfl; exact rfl; exact (hw _))) | (with_reducible refine AWo.nil ?_) | ((with_reducible apply Then.n))))
    (refine AW.retD (l := [(2, _)]) (by repeat (first | exact trivial | (refine And.intro ⟨rfl, by (exact .bool _)⟩ ?_))) ?_; (repeat (first | refine Then.r ?_ | refine InBlk.r ?_)))
    exact ⟨_, rfl, by simp, rfl⟩
def c4 (x y : Gl) (u : Ru) : Nat → List Value
  | 0 => x.cells
  | 1 => y.cells
  | 2 => u.w.cells
  | _ => u.l.cells
set_option maxHeartbeats 4000000 in
set_option maxRecDepth 100000 in
theorem price_ok {m : AM} (u : Ru) (x y : Gl) (hw : gB u.w = true) (hl : gB u.l = true) (hx : gB x = true) (hy : gB y = true) {c : Int} (hc : costF u x y = c) : ACall Try.prog 51 #[x.v, y.v, u.v] m (Ret (.int .i64 c) m) := by
  subst hc
  have r0 : RdL (m ++ [some { cells := x.cells }, some { cells := y.cells }, some { cells := u.cells }]) (m.length + 2) 0 u.w.cells := ⟨_, by rw [get_app]; rfl, fun j v hj => by
    rcases j with _ | _ | _ | _ | j <;> first | exact hj | (simp [Gl.cells] at hj)⟩
  have r4 : RdL (m ++ [some { cells := x.cells }, some { cells := y.cells }, some { cells := u.cells }]) (m.length + 2) (0 + 4) u.l.cells := ⟨_, by rw [get_app]; rfl, fun j v hj => by
    rcases j with _ | _ | _ | _ | j <;> first | exact hj | (simp [Gl.cells] at hj)⟩
  refine ACall.drop (Ren.of_g0 rfl) ?_
  refine ACall.start Try.func51 rfl rfl ?_
  (repeat (first | (with_reducible refine AWo.cons ?_) | ((with_reducible refine Step.id ?_); first | ((with_reducible apply Step.assign); exact rfl; exact rfl) | ((with_reducible apply Step.box 0); exact rfl; exact rfl; (focus (kernel_rfl)); exact rfl; (focus (first | (simp only [List.nil_append, List.cons_append, List.set_cons_zero, List.set_cons_succ, iv_set, bv_set, iv_rep, bv_rep]; done) | (simp only [List.nil_append, List.cons_append, List.set_cons_zero, List.set_cons_succ, iv_set, bv_set, iv_rep, bv_rep]; rfl) | rfl))) | ((with_reducible apply Step.box 1); exact rfl; exact rfl; (focus (kernel_rfl)); exact rfl; (focus (first | (simp only [List.nil_append, List.cons_append, List.set_cons_zero, List.set_cons_succ, iv_set, bv_set, iv_rep, bv_rep]; done) | (simp only [List.nil_append, List.cons_append, List.set_cons_zero, List.set_cons_succ, iv_set, bv_set, iv_rep, bv_rep]; rfl) | rfl))) | ((with_reducible apply Step.box 2); exact rfl; exact rfl; (focus (kernel_rfl)); exact rfl; (focus (first | (simp only [List.nil_append, List.cons_append, List.set_cons_zero, List.set_cons_succ, iv_set, bv_set, iv_rep, bv_rep]; done) | (simp only [List.nil_append, List.cons_append, List.set_cons_zero, List.set_cons_succ, iv_set, bv_set, iv_rep, bv_rep]; rfl) | rfl)))) | (with_reducible refine AWo.nil ?_) | ((fail_if_success (with_reducible refine AW.atR (id := 1) ?_)); ((with_reducible apply AW.seq))) | ((with_reducible apply Then.n)) | ((with_reducible apply AW.regL))))
  refine AW.seq ?_
  refine AW.anyI fit (fun L t m' => (∃ p, Mk 4 (m ++ [some { cells := x.cells }, some { cells := y.cells }, some { cells := u.cells }]) (fun k => L (10 + k)) (fun k => L (14 + k)) (fun k => 7 + k) (c4 x y u) zG p t m') ∧ t 3 = some (.pointer (some ⟨m.length + 0, 0, none⟩)) ∧ t 4 = some (.pointer (some ⟨m.length + 1, 0, none⟩)) ∧ t 5 = some (.pointer (some ⟨m.length + 2, 0, none⟩)) ∧ t 6 = some (.int .i64 0) ∧ (L 0 = true → t 14 = some x.v) ∧ (L 1 = true → t 15 = some x.v) ∧ (L 2 = true → t 16 = some y.v) ∧ (L 3 = true → t 17 = some y.v) ∧ (L 4 = true → t 18 = some (.pointer (some ⟨m.length + 2, 0, none⟩))) ∧ (L 5 = true → t 19 = some u.w.v) ∧ (L 6 = true → t 20 = some u.w.v) ∧ (L 7 = true → t 21 = some (.pointer (some ⟨m.length + 2, 0 + 4, none⟩))) ∧ (L 8 = true → t 22 = some u.l.v) ∧ (L 9 = true → t 23 = some u.l.v)) (by decide +kernel) ?_ ?_ ?_
  · exact ⟨⟨_, Mk.start ..⟩, rfl, rfl, rfl, rfl, fun h => (by cases h), fun h => (by cases h), fun h => (by cases h), fun h => (by cases h), fun h => (by cases h), fun h => (by cases h), fun h => (by cases h), fun h => (by cases h), fun h => (by cases h), fun h => (by cases h)⟩
  · intro i o ho L t m' hI hLi hdep
    obtain ⟨⟨p, hp⟩, q3, q4, q5, q6, s0, s1, s2, s3, s4, s5, s6, s7, s8, s9⟩ := hI
    obtain ⟨N, rfl⟩ := hp.pre
    have hd : ∀ d, (d < 7 ∨ 11 ≤ d) → ∀ k, k < 4 → 7 + k ≠ d := fun d h k hk => by omega
    rcases i with _ | _ | _ | _ | _ | _ | _ | _ | _ | _ | _ | _ | _ | _ | _ | _ | _ | _ | i
    · injection ho with ho; subst ho
      exact Step.loadL (n := 4) q3 (by decide +kernel) (by decide +kernel) rfl ((RdL.new rfl rfl : RdL _ _ 0 x.cells).old N) rfl rfl ⟨⟨p, (hp.slot 14 _ (hd 14 (by omega))).congr (upL_out L (by omega)) (upL_out L (by omega))⟩, q3, q4, q5, q6, fun _ => rfl, s1, s2, s3, s4, s5, s6, s7, s8, s9⟩
    · injection ho with ho; subst ho
      have d := s0 (hdep 0 (by decide))
      exact Step.callR fit (vs := [x.v]) (by simp [evL, evo, d]) Try.func83 rfl rfl (four_ok x) ⟨⟨p, (hp.slot 15 _ (hd 15 (by omega))).congr (upL_out L (by omega)) (upL_out L (by omega))⟩, q3, q4, q5, q6, s0, fun _ => rfl, s2, s3, s4, s5, s6, s7, s8, s9⟩
    · injection ho with ho; subst ho
      exact Step.loadL (n := 4) q4 (by decide +kernel) (by decide +kernel) rfl ((RdL.new rfl rfl : RdL _ _ 0 y.cells).old N) rfl rfl ⟨⟨p, (hp.slot 16 _ (hd 16 (by omega))).congr (upL_out L (by omega)) (upL_out L (by omega))⟩, q3, q4, q5, q6, s0, s1, fun _ => rfl, s3, s4, s5, s6, s7, s8, s9⟩
    · injection ho with ho; subst ho
      have d := s2 (hdep 2 (by decide))
      exact Step.callR fit (vs := [y.v]) (by simp [evL, evo, d]) Try.func83 rfl rfl (four_ok y) ⟨⟨p, (hp.slot 17 _ (hd 17 (by omega))).congr (upL_out L (by omega)) (upL_out L (by omega))⟩, q3, q4, q5, q6, s0, s1, s2, fun _ => rfl, s4, s5, s6, s7, s8, s9⟩
    · injection ho with ho; subst ho
      exact Step.field0 q5 (by decide +kernel) rfl ⟨⟨p, (hp.slot 18 _ (hd 18 (by omega))).congr (upL_out L (by omega)) (upL_out L (by omega))⟩, q3, q4, q5, q6, s0, s1, s2, s3, fun _ => rfl, s5, s6, s7, s8, s9⟩
    · injection ho with ho; subst ho
      have d := s4 (hdep 4 (by decide))
      exact Step.loadL (n := 4) d (by decide +kernel) (by decide +kernel) rfl (r0.old N) rfl rfl ⟨⟨p, (hp.slot 19 _ (hd 19 (by omega))).congr (upL_out L (by omega)) (upL_out L (by omega))⟩, q3, q4, q5, q6, s0, s1, s2, s3, s4, fun _ => rfl, s6, s7, s8, s9⟩
    · injection ho with ho; subst ho
      have d := s5 (hdep 5 (by decide))
      exact Step.callR fit (vs := [u.w.v]) (by simp [evL, evo, d]) Try.func83 rfl rfl (four_ok u.w) ⟨⟨p, (hp.slot 20 _ (hd 20 (by omega))).congr (upL_out L (by omega)) (upL_out L (by omega))⟩, q3, q4, q5, q6, s0, s1, s2, s3, s4, s5, fun _ => rfl, s7, s8, s9⟩
    · injection ho with ho; subst ho
      exact Step.field (k := 4) q5 (by decide +kernel) rfl ⟨⟨p, (hp.slot 21 _ (hd 21 (by omega))).congr (upL_out L (by omega)) (upL_out L (by omega))⟩, q3, q4, q5, q6, s0, s1, s2, s3, s4, s5, s6, fun _ => rfl, s8, s9⟩
    · injection ho with ho; subst ho
      have d := s7 (hdep 7 (by decide))
      exact Step.loadL (n := 4) d (by decide +kernel) (by decide +kernel) rfl (r4.old N) rfl rfl ⟨⟨p, (hp.slot 22 _ (hd 22 (by omega))).congr (upL_out L (by omega)) (upL_out L (by omega))⟩, q3, q4, q5, q6, s0, s1, s2, s3, s4, s5, s6, s7, fun _ => rfl, s9⟩
    · injection ho with ho; subst ho
      have d := s8 (hdep 8 (by decide))
      exact Step.callR fit (vs := [u.l.v]) (by simp [evL, evo, d]) Try.func83 rfl rfl (four_ok u.l) ⟨⟨p, (hp.slot 23 _ (hd 23 (by omega))).congr (upL_out L (by omega)) (upL_out L (by omega))⟩, q3, q4, q5, q6, s0, s1, s2, s3, s4, s5, s6, s7, s8, fun _ => rfl⟩
    · injection ho with ho; subst ho
      obtain ⟨p', hp'⟩ := hp.alloc (k := 0) (by omega) hLi (fun i j _ _ h => by omega)
      exact Step.allocG ze113 rfl ⟨⟨p', hp'.congr (fun k _ => congrFun (upL_shift L 10 0) k) (upL_out L (by omega))⟩, q3, q4, q5, q6, s0, s1, s2, s3, s4, s5, s6, s7, s8, s9⟩
    · injection ho with ho; subst ho
      obtain ⟨p', hp'⟩ := hp.alloc (k := 1) (by omega) hLi (fun i j _ _ h => by omega)
      exact Step.allocG ze113 rfl ⟨⟨p', hp'.congr (fun k _ => congrFun (upL_shift L 10 1) k) (upL_out L (by omega))⟩, q3, q4, q5, q6, s0, s1, s2, s3, s4, s5, s6, s7, s8, s9⟩
    · injection ho with ho; subst ho
      obtain ⟨p', hp'⟩ := hp.alloc (k := 2) (by omega) hLi (fun i j _ _ h => by omega)
      exact Step.allocG ze113 rfl ⟨⟨p', hp'.congr (fun k _ => congrFun (upL_shift L 10 2) k) (upL_out L (by omega))⟩, q3, q4, q5, q6, s0, s1, s2, s3, s4, s5, s6, s7, s8, s9⟩
    · injection ho with ho; subst ho
      obtain ⟨p', hp'⟩ := hp.alloc (k := 3) (by omega) hLi (fun i j _ _ h => by omega)
      exact Step.allocG ze113 rfl ⟨⟨p', hp'.congr (fun k _ => congrFun (upL_shift L 10 3) k) (upL_out L (by omega))⟩, q3, q4, q5, q6, s0, s1, s2, s3, s4, s5, s6, s7, s8, s9⟩
    · injection ho with ho; subst ho
      have d := s1 (hdep 1 (by decide))
      have hA := hdep 10 (by decide)
      obtain ⟨e1, e2, e3⟩ := hp.ar 0 (by omega) hA
      exact Step.storeG (n := 4) e1 d e3 rfl (by decide +kernel) rfl (by kernel_rfl) (by cases L (14 + 0) <;> rfl) ⟨⟨p, (hp.store (k := 0) (by omega) hA).congr (upL_out L (by omega)) (fun k _ => congrFun (upL_shift L 14 0) k)⟩, q3, q4, q5, q6, s0, s1, s2, s3, s4, s5, s6, s7, s8, s9⟩
    · injection ho with ho; subst ho
      have d := s3 (hdep 3 (by decide))
      have hA := hdep 11 (by decide)
      obtain ⟨e1, e2, e3⟩ := hp.ar 1 (by omega) hA
      exact Step.storeG (n := 4) e1 d e3 rfl (by decide +kernel) rfl (by kernel_rfl) (by cases L (14 + 1) <;> rfl) ⟨⟨p, (hp.store (k := 1) (by omega) hA).congr (upL_out L (by omega)) (fun k _ => congrFun (upL_shift L 14 1) k)⟩, q3, q4, q5, q6, s0, s1, s2, s3, s4, s5, s6, s7, s8, s9⟩
    · injection ho with ho; subst ho
      have d := s6 (hdep 6 (by decide))
      have hA := hdep 12 (by decide)
      obtain ⟨e1, e2, e3⟩ := hp.ar 2 (by omega) hA
      exact Step.storeG (n := 4) e1 d e3 rfl (by decide +kernel) rfl (by kernel_rfl) (by cases L (14 + 2) <;> rfl) ⟨⟨p, (hp.store (k := 2) (by omega) hA).congr (upL_out L (by omega)) (fun k _ => congrFun (upL_shift L 14 2) k)⟩, q3, q4, q5, q6, s0, s1, s2, s3, s4, s5, s6, s7, s8, s9⟩
    · injection ho with ho; subst ho
      have d := s9 (hdep 9 (by decide))
      have hA := hdep 13 (by decide)
      obtain ⟨e1, e2, e3⟩ := hp.ar 3 (by omega) hA
      exact Step.storeG (n := 4) e1 d e3 rfl (by decide +kernel) rfl (by kernel_rfl) (by cases L (14 + 3) <;> rfl) ⟨⟨p, (hp.store (k := 3) (by omega) hA).congr (upL_out L (by omega)) (fun k _ => congrFun (upL_shift L 14 3) k)⟩, q3, q4, q5, q6, s0, s1, s2, s3, s4, s5, s6, s7, s8, s9⟩
    · simp at ho
  · intro L t m2 hall hI
    obtain ⟨⟨p, hp⟩, q3, q4, q5, q6, _⟩ := hI
    have hA : ∀ k, k < 4 → L (10 + k) = true := fun k hk => hall _ (by simp; omega)
    have hS : ∀ k, k < 4 → L (14 + k) = true := fun k hk => hall _ (by simp; omega)
    obtain ⟨a1, _, a3⟩ := hp.ar 0 (by omega) (hA 0 (by omega))
    obtain ⟨b1, _, b3⟩ := hp.ar 1 (by omega) (hA 1 (by omega))
    obtain ⟨c1, _, c3⟩ := hp.ar 2 (by omega) (hA 2 (by omega))
    obtain ⟨d1, _, d3⟩ := hp.ar 3 (by omega) (hA 3 (by omega))
    simp only [hS 0 (by omega), hS 1 (by omega), hS 2 (by omega), hS 3 (by omega), cond_true] at a3 b3 c3 d3
    obtain ⟨N, hN⟩ := hp.pre
    have hpre2 : ∃ N, m2 = m ++ N := ⟨_, by rw [hN, List.append_assoc]⟩
    have rd : ∀ (q : Nat) (z : Gl), RdL m2 q 0 z.cells → ∀ k, k < 4 → ∀ T, Rd (m2 ++ T) q (0 + k * 1) (.int .i64 (z.g k)) := fun q z h k hk T => by
        have := (h.old T).at_ k (v := .int .i64 (z.g k)) (by rcases k with _ | _ | _ | _ | k <;> first | rfl | omega)
        rwa [Nat.mul_one]
    have h7' := rd (p 0) x ⟨_, a3, fun j v hj => by rw [Nat.zero_add]; exact hj⟩
    have h8' := rd (p 1) y ⟨_, b3, fun j v hj => by rw [Nat.zero_add]; exact hj⟩
    have h9' := rd (p 2) u.w ⟨_, c3, fun j v hj => by rw [Nat.zero_add]; exact hj⟩
    have h10' := rd (p 3) u.l ⟨_, d3, fun j v hj => by rw [Nat.zero_add]; exact hj⟩
    clear hp hA hS hall hN rd a3 b3 c3 d3 r0 r4
    generalize p 0 = p7 at *
    generalize p 1 = p8 at *
    generalize p 2 = p9 at *
    generalize p 3 = p10 at *
    refine AW.weak (fr_all (l := [(6, .int .i64 0), (7, .pointer (some ⟨p7, 0, none⟩)), (8, .pointer (some ⟨p8, 0, none⟩)), (9, .pointer (some ⟨p9, 0, none⟩)), (10, .pointer (some ⟨p10, 0, none⟩))]) ⟨q6, a1, b1, c1, d1, trivial⟩) ?_
    clear q3 q4 q5 q6 a1 b1 c1 d1
    refine AW.rebase ?_
    (repeat (first | (with_reducible refine AWo.cons ?_) | ((with_reducible refine Step.id ?_); first | ((with_reducible apply Step.move); exact rfl; exact rfl) | ((with_reducible apply Step.assign); exact rfl; exact rfl)) | (with_reducible refine AWo.nil ?_) | ((with_reducible apply AW.seq)) | ((with_reducible apply Then.n)) | ((with_reducible apply AW.regL)) | ((with_reducible apply AW.block))))
    refine AW.loopT (fun rk t L' => ∃ (k : Nat) (s : Int), rk = 4 - k ∧ k ≤ 4 ∧ cst u x y k = some s ∧ L' = [] ∧
      t = [(6, .int .i64 0), (7, .pointer (some ⟨p7, 0, none⟩)), (8, .pointer (some ⟨p8, 0, none⟩)), (9, .pointer (some ⟨p9, 0, none⟩)), (10, .pointer (some ⟨p10, 0, none⟩)), (11, .int .i64 s), (24, .int .i64 (k : Nat))]) ⟨_, _, _, (Or.inl ⟨rfl, (by repeat (first | exact trivial | (refine And.intro rfl ?_)))⟩), 0, 0, rfl, Nat.zero_le _, rfl, rfl, rfl⟩ ?_
    rintro rk t L' ⟨k, s, rfl, hk, hs, rfl, rfl⟩
    rcases Nat.lt_or_ge k 4 with hlt | hge
    · have g1 := gB_iff.1 hx k hlt
      have g2 := gB_iff.1 hy k hlt
      have g3 := gB_iff.1 hw k hlt
      have sb := cst_bd hw hx hy (by omega) hs
      have db := df_bd hx hy hlt
      have pb := mul_bd db g3
      have hnx : cst u x y (k + 1) = if u.l.g k < df x y k then none else some (s + df x y k * u.w.g k) := by simp only [cst, hs]
      have edf : max (x.g k - y.g k) (y.g k - x.g k) = df x y k := rfl
      obtain ⟨pr, hpr⟩ : ∃ pr, df x y k * u.w.g k = pr := ⟨_, rfl⟩
      rw [hpr] at hnx pb
      by_cases hc : u.l.g k < df x y k
      · rw [if_pos hc] at hnx
        have hfin : costF u x y = -1 := by
          unfold costF
          have := cst_none hnx (3 - k)
          rw [show k + 1 + (3 - k) = 4 by omega] at this
          rw [this]
        (repeat (first | (with_reducible refine AWo.cons ?_) | ((with_reducible refine Step.id ?_); first | ((with_reducible apply Step.move); exact rfl; exact rfl) | ((with_reducible apply Step.assign); exact rfl; exact rfl) | ((with_reducible apply Step.load); exact rfl; (focus (decide +kernel)); exact rfl; (focus (first | exact h7' k hlt _ | exact h8' k hlt _))) | ((with_reducible apply Step.ixA (s := 1) (n := 4)); exact rfl; exact rfl; (focus (kernel_rfl)); exact rfl; (focus (omega))) | ((with_reducible apply Step.sub); exact rfl; exact rfl; (focus (omega)); exact rfl) | ((with_reducible apply Step.lss); exact rfl; exact rfl; exact rfl) | ((with_reducible apply Step.max); exact rfl; exact rfl; exact rfl)) | (with_reducible refine AWo.nil ?_) | ((fail_if_success (with_reducible refine AW.atR (id := 7) ?_)); ((with_reducible apply AW.seq))) | ((with_reducible apply Then.n)) | ((with_reducible apply AW.regL)) | ((with_reducible apply AW.block)) | ((with_reducible apply AW.drawL fit); (focus (decide +kernel))) | ((with_reducible apply AW.skip)) | ((with_reducible apply AW.condT); exact rfl; (focus ((simp only [decide_eq_true_eq, decide_eq_false_iff_not, Bool.not_eq_true', Bool.not_eq_false', Bool.not_true, Bool.not_false]; first | assumption | omega))))))
        rw [edf]
        (repeat (first | (with_reducible refine AWo.cons ?_) | ((with_reducible refine Step.id ?_); first | ((with_reducible apply Step.move); exact rfl; exact rfl) | ((with_reducible apply Step.assign); exact rfl; exact rfl) | ((with_reducible apply Step.load); exact rfl; (focus (decide +kernel)); exact rfl; (focus (exact h10' k hlt _))) | ((with_reducible apply Step.ixA (s := 1) (n := 4)); exact rfl; exact rfl; (focus (kernel_rfl)); exact rfl; (focus (omega))) | ((with_reducible apply Step.gtr); exact rfl; exact rfl; exact rfl)) | (with_reducible refine AWo.nil ?_) | ((with_reducible apply AW.seq)) | ((with_reducible apply Then.n)) | ((with_reducible apply AW.regL)) | ((with_reducible apply AW.condT); exact rfl; (focus ((simp only [decide_eq_true_eq, decide_eq_false_iff_not, Bool.not_eq_true', Bool.not_eq_false', Bool.not_true, Bool.not_false]; first | assumption | omega))))))
        (refine AW.ret ?_; (repeat (first | refine Then.r ?_ | refine InBlk.r ?_)))
        obtain ⟨N', hN'⟩ := hpre2
        exact ⟨_, rfl, by rw [hfin], N', by rw [hN', List.append_nil]⟩
      · rw [if_neg hc] at hnx
        (repeat (first | (with_reducible refine AWo.cons ?_) | ((with_reducible refine Step.id ?_); first | ((with_reducible apply Step.move); exact rfl; exact rfl) | ((with_reducible apply Step.assign); exact rfl; exact rfl) | ((with_reducible apply Step.load); exact rfl; (focus (decide +kernel)); exact rfl; (focus (first | exact h7' k hlt _ | exact h8' k hlt _))) | ((with_reducible apply Step.ixA (s := 1) (n := 4)); exact rfl; exact rfl; (focus (kernel_rfl)); exact rfl; (focus (omega))) | ((with_reducible apply Step.sub); exact rfl; exact rfl; (focus (omega)); exact rfl) | ((with_reducible apply Step.lss); exact rfl; exact rfl; exact rfl) | ((with_reducible apply Step.max); exact rfl; exact rfl; exact rfl)) | (with_reducible refine AWo.nil ?_) | ((fail_if_success (with_reducible refine AW.atR (id := 7) ?_)); ((with_reducible apply AW.seq))) | ((with_reducible apply Then.n)) | ((with_reducible apply AW.regL)) | ((with_reducible apply AW.block)) | ((with_reducible apply AW.drawL fit); (focus (decide +kernel))) | ((with_reducible apply AW.skip)) | ((with_reducible apply AW.condT); exact rfl; (focus ((simp only [decide_eq_true_eq, decide_eq_false_iff_not, Bool.not_eq_true', Bool.not_eq_false', Bool.not_true, Bool.not_false]; first | assumption | omega))))))
        rw [edf]
        (repeat (first | (with_reducible refine AWo.cons ?_) | ((with_reducible refine Step.id ?_); first | ((with_reducible apply Step.move); exact rfl; exact rfl) | ((with_reducible apply Step.assign); exact rfl; exact rfl) | ((with_reducible apply Step.load); exact rfl; (focus (decide +kernel)); exact rfl; (focus (first | exact h9' k hlt _ | exact h10' k hlt _))) | ((with_reducible apply Step.ixA (s := 1) (n := 4)); exact rfl; exact rfl; (focus (kernel_rfl)); exact rfl; (focus (omega))) | ((with_reducible apply Step.add); exact rfl; exact rfl; (focus (omega)); exact rfl) | ((with_reducible apply Step.mul); exact rfl; exact rfl; (focus (omega)); exact rfl) | ((with_reducible apply Step.gtr); exact rfl; exact rfl; exact rfl)) | (with_reducible refine AWo.nil ?_) | ((with_reducible apply AW.seq)) | ((with_reducible apply Then.n)) | ((with_reducible apply AW.regL)) | ((with_reducible apply InBlk.n)) | ((with_reducible apply AW.skip)) | ((with_reducible apply AW.condF); exact rfl; (focus ((simp only [decide_eq_true_eq, decide_eq_false_iff_not, Bool.not_eq_true', Bool.not_eq_false', Bool.not_true, Bool.not_false]; first | assumption | omega))))))
        exact ⟨_, _, _, by omega, (Or.inl ⟨rfl, (by repeat (first | exact trivial | (refine And.intro rfl ?_)))⟩), k + 1, _, rfl, by omega, by rw [hnx, hpr], rfl, rfl⟩
    · obtain rfl : k = 4 := by omega
      (repeat (first | (with_reducible refine AWo.cons ?_) | ((with_reducible refine Step.id ?_); first | ((with_reducible apply Step.move); exact rfl; exact rfl) | ((with_reducible apply Step.assign); exact rfl; exact rfl) | ((with_reducible apply Step.lss); exact rfl; exact rfl; exact rfl)) | (with_reducible refine AWo.nil ?_) | ((with_reducible apply AW.seq)) | ((with_reducible apply Then.n)) | ((with_reducible apply AW.regL)) | ((with_reducible apply AW.exit)) | ((with_reducible apply InBlk.hit)) | ((with_reducible apply Then.e)) | ((with_reducible apply AW.condF); exact rfl; (focus (rfl)))))
      (refine AW.ret ?_; (repeat (first | refine Then.r ?_ | refine InBlk.r ?_)))
      obtain ⟨N', hN'⟩ := hpre2
      exact ⟨_, rfl, by unfold costF; rw [hs], N', by rw [hN', List.append_nil]⟩
end Go.Proofs.Ytajpngnphbdnnaa.Abs
namespace Go.Proofs.Ytajpngnphbdnnaa.Abs
set_option linter.unusedSimpArgs false
set_option linter.unusedVariables false
open Go.RowKit
open Go.Proofs.Ytajpngnphbdnnaa.Sim
open Go.Proofs
set_option maxRecDepth 100000 in
theorem glove_ok {m : AM} (x : Gl) : ACall Try.prog 29 #[x.v] m (Ret x.v m) := by
  refine ACall.drop (Ren.aggI [x.a, x.b, x.c, x.d]) ?_
  unfold Gl.v
  refine ACall.start Try.func29 rfl rfl ?_
  (repeat (first | (with_reducible refine AWo.cons ?_) | ((with_reducible refine Step.id ?_); first | ((with_reducible apply Step.load); exact rfl; (focus (decide +kernel)); exact rfl; (focus (exact Rd.new rfl rfl))) | ((with_reducible apply Step.field0); exact rfl; (focus (decide +kernel)); exact rfl) | ((with_reducible apply Step.field (k := 1)); exact rfl; (focus (decide +kernel)); exact rfl) | ((with_reducible apply Step.field (k := 2)); exact rfl; (focus (decide +kernel)); exact rfl) | ((with_reducible apply Step.field (k := 3)); exact rfl; (focus (decide +kernel)); exact rfl) | ((with_reducible apply Step.box 0); exact rfl; exact rfl; (focus (kernel_rfl)); exact rfl; (focus (first | (simp only [List.nil_append, List.cons_append, List.set_cons_zero, List.set_cons_succ, iv_set, bv_set, iv_rep, bv_rep]; done) | (simp only [List.nil_append, List.cons_append, List.set_cons_zero, List.set_cons_succ, iv_set, bv_set, iv_rep, bv_rep]; rfl) | rfl))) | ((with_reducible apply Step.alloc 1); exact rfl; exact ze33; exact rfl; (focus (first | (simp only [List.nil_append, List.cons_append, List.set_cons_zero, List.set_cons_succ, iv_set, bv_set, iv_rep, bv_rep]; done) | (simp only [List.nil_append, List.cons_append, List.set_cons_zero, List.set_cons_succ, iv_set, bv_set, iv_rep, bv_rep]; rfl) | rfl))) | ((with_reducible apply Step.storeA (k := 1) (n := 4)); exact rfl; exact rfl; exact rfl; exact rfl; (focus (decide +kernel)); exact rfl; (focus (kernel_rfl)); exact rfl; (focus (first | (simp only [List.nil_append, List.cons_append, List.set_cons_zero, List.set_cons_succ, iv_set, bv_set, iv_rep, bv_rep]; done) | (simp only [List.nil_append, List.cons_append, List.set_cons_zero, List.set_cons_succ, iv_set, bv_set, iv_rep, bv_rep]; rfl) | rfl))) | ((with_reducible apply Step.build); exact rfl; exact bl33; exact rfl)) | (with_reducible refine AWo.nil ?_) | ((with_reducible apply AW.seq)) | ((with_reducible apply Then.n)) | ((with_reducible apply AW.regL))))
  (refine AW.ret ?_; (repeat (first | refine Then.r ?_ | refine InBlk.r ?_)))
  exact ⟨_, ares_cell rfl rfl (by decide +kernel) (n := 4) (by decide +kernel) (RdL.new rfl rfl) rfl rfl, rfl, _, rfl⟩
set_option maxRecDepth 100000 in
theorem rule_ok {m : AM} (u : Ru) : ACall Try.prog 22 #[u.v] m (Ret u.v m) := by
  have hw := fun L => glove_ok (m := m ++ L) u.w
  have hl := fun L => glove_ok (m := m ++ L) u.l
  have r0 : ∀ T : AM, RdL (m ++ (some { cells := u.cells } :: T)) (m.length + 0) 0 u.w.cells := fun T => ⟨_, by rw [get_app]; rfl, fun j v hj => by
    rcases j with _ | _ | _ | _ | j <;> first | exact hj | (simp [Gl.cells] at hj)⟩
  have r4 : ∀ T : AM, RdL (m ++ (some { cells := u.cells } :: T)) (m.length + 0) (0 + 4) u.l.cells := fun T => ⟨_, by rw [get_app]; rfl, fun j v hj => by
    rcases j with _ | _ | _ | _ | j <;> first | exact hj | (simp [Gl.cells] at hj)⟩
  refine ACall.drop (Ren.aggI [u.w.a, u.w.b, u.w.c, u.w.d, u.l.a, u.l.b, u.l.c, u.l.d]) ?_
  refine ACall.start Try.func22 rfl rfl ?_
  (repeat' (first | (with_reducible refine AWo.cons ?_) | ((with_reducible refine Step.id ?_); first | ((with_reducible apply Step.field0); exact rfl; (focus (decide +kernel)); exact rfl) | ((with_reducible apply Step.box 0); exact rfl; exact rfl; (focus (kernel_rfl)); exact rfl; (focus (first | (simp only [List.nil_append, List.cons_append, List.set_cons_zero, List.set_cons_succ, iv_set, bv_set, iv_rep, bv_rep]; done) | (simp only [List.nil_append, List.cons_append, List.set_cons_zero, List.set_cons_succ, iv_set, bv_set, iv_rep, bv_rep]; rfl) | rfl))) | ((with_reducible apply Step.alloc 1); exact rfl; exact ze35; exact rfl; (focus (first | (simp only [List.nil_append, List.cons_append, List.set_cons_zero, List.set_cons_succ, iv_set, bv_set, iv_rep, bv_rep]; done) | (simp only [List.nil_append, List.cons_append, List.set_cons_zero, List.set_cons_succ, iv_set, bv_set, iv_rep, bv_rep]; rfl) | rfl)))) | (with_reducible refine AWo.nil ?_) | ((with_reducible apply AW.seq)) | ((with_reducible apply Then.n)) | ((with_reducible apply AW.regL)) | ((with_reducible apply AW.drawT fit (T := (.step 0 (.step 1 (.step 3 (.both (.step 2 (.step 4 (.step 5 (.step 6 (.step 7 .done))))) (.step 4 (.step 2 (.step 5 (.step 6 (.step 7 .done))))))))))); (focus (decide +kernel))) | ((with_reducible apply AWt.step); exact rfl)))
  ((with_reducible apply Step.loadL (n := 4)); exact rfl; (focus (decide +kernel)); (focus (decide +kernel)); exact rfl; exact (r0 _); exact rfl; exact rfl)
  (repeat' (first | ((with_reducible refine Step.id ?_); first | ((with_reducible apply Step.loadL (n := 4)); exact rfl; (focus (decide +kernel)); (focus (decide +kernel)); exact rfl; (focus (exact r4 _)); exact rfl; exact rfl) | ((with_reducible apply Step.field (k := 4)); exact rfl; (focus (decide +kernel)); exact rfl) | ((with_reducible apply Step.callR fit); exact rfl; exact Try.func29; exact rfl; exact rfl; exact (hw _)) | ((with_reducible apply Step.callR fit); exact rfl; exact Try.func29; exact rfl; exact rfl; exact (hl _)) | ((with_reducible apply Step.storeA (k := 1) (n := 8)); exact rfl; exact rfl; exact rfl; exact rfl; (focus (decide +kernel)); exact rfl; (focus (kernel_rfl)); exact rfl; (focus (first | (simp only [List.nil_append, List.cons_append, List.set_cons_zero, List.set_cons_succ, iv_set, bv_set, iv_rep, bv_rep]; done) | (simp only [List.nil_append, List.cons_append, List.set_cons_zero, List.set_cons_succ, iv_set, bv_set, iv_rep, bv_rep]; rfl) | rfl))) | ((with_reducible apply Step.build); exact rfl; exact bl35; exact rfl)) | ((with_reducible apply Then.n)) | ((with_reducible apply AWt.step); exact rfl) | ((with_reducible apply AWt.done)) | refine AWt.both ?_ ?_))
  all_goals (refine AW.ret ?_; (repeat (first | refine Then.r ?_ | refine InBlk.r ?_)))
  all_goals exact ⟨_, ares_cell rfl rfl (by decide +kernel) (n := 8) (by decide +kernel) (RdL.new rfl rfl) rfl rfl, rfl, _, rfl⟩
end Go.Proofs.Ytajpngnphbdnnaa.Abs
namespace Go.Proofs.Ytajpngnphbdnnaa.Abs
set_option linter.unusedSimpArgs false
set_option linter.unusedVariables false
open Go.RowKit
open Go.Proofs.Ytajpngnphbdnnaa.Sim
open Go.ChangeShapes Go.WideShapes Go.Deep
def Okarg2 (W : World) (a : AR) : Prop := Okarg W a ∨ ∃ l : List Int, a.1 = .agg (iv l).toArray
theorem rel_aggI (R : Pl) (l : List Int) : Rel R (.agg (iv l).toArray) (.agg (iv l).toArray) := .agg _ _ rfl fun i hi => by
  have hi' : i < l.length := by simpa [iv] using hi
  have : (iv l).toArray.getD i undef = .int .i64 l[i] := by simp [iv, hi']
  rw [this]; exact .int _ _
theorem top_call2 {P : Program} {f : FuncId} {W : World} (ars : List AR) (h : ∀ a ∈ ars, Okarg2 W a) (hc : ACall P f (mkVs 0 ars).toArray (ars.map mkB) (Ret (.bool true) (ars.map mkB))) :
    Calls P f (ars.map (·.1)).toArray W fun e w' => e = .returned (.bool true) ∧ Below W.heap.size W w' := by
  let R : Pl := fun i => (ars[i]?).bind mkP
  have hm : MRep W.heap.size R (ars.map mkB) W := by
    refine ⟨fun i hi => ?_, fun i b hi => ?_, fun i j b c p q hi hj hb _ _ _ _ => ?_⟩
    · simp only [List.length_map] at hi
      simp [R, List.getElem?_eq_none hi]
    · rw [List.getElem?_map] at hi
      cases ha : ars[i]? with
      | none => rw [ha] at hi; cases hi
      | some a =>
        rw [ha] at hi
        simp only [Option.map_some, Option.some.injEq] at hi
        obtain ⟨v, c⟩ := a
        rcases h _ (List.mem_of_getElem? ha) with (h1 | ⟨bb, o, n, cap, h1, h2, h3, h4, h5⟩) | ⟨l, h1⟩
        · simp only at h1
          cases v with
          | slice x n cap => cases x with
            | none => simp [mkB] at hi
            | some x => simp [g0] at h1
          | _ => simp [mkB] at hi
        · simp only at h1
          subst h1
          simp only [mkB, Option.some.injEq] at hi
          subst hi
          refine ⟨⟨bb, o, cap - n⟩, by simp [R, ha, mkP], h3, ?_⟩
          refine ⟨fun e => by simp at e, fun j x hj => ⟨x, h4 j x hj, g0_rel (h5 x (List.mem_of_getElem? hj))⟩⟩
        · simp only at h1
          subst h1
          simp [mkB] at hi
    · rw [List.getElem?_map] at hi
      cases ha : ars[i]? with
      | none => rw [ha] at hi; cases hi
      | some a =>
        rw [ha] at hi
        simp only [Option.map_some, Option.some.injEq] at hi
        obtain ⟨v, c'⟩ := a
        cases v with
        | slice x n cap => cases x with
          | none => simp [mkB] at hi
          | some x => simp only [mkB, Option.some.injEq] at hi; subst hi; cases hb
        | _ => simp [mkB] at hi
  have hargs : Rels R (mkVs 0 ars).toArray (ars.map (·.1)).toArray := by
    refine ⟨by simp [mkVs_len], fun i hi => ?_⟩
    simp only [List.size_toArray, mkVs_len] at hi
    have ha : ars[i]? = some ars[i] := List.getElem?_eq_getElem hi
    have e1 : (mkVs 0 ars).toArray.getD i undef = mkV i ars[i].1 := by
      simp [mkVs_get, ha]
    have e2 : (ars.map (·.1)).toArray.getD i undef = ars[i].1 := by simp [hi]
    rw [e1, e2]
    generalize ars[i] = a at ha
    obtain ⟨v, c⟩ := a
    rcases h _ (List.mem_of_getElem? ha) with (h1 | ⟨bb, o, n, cap, h1, h2, h3, h4, h5⟩) | ⟨l, h1⟩
    · simp only at h1 ⊢
      cases v with
      | slice x n cap => cases x with
        | none => exact g0_rel h1
        | some x => simp [g0] at h1
      | _ => exact g0_rel h1
    · simp only at h1 ⊢
      subst h1
      have := Rel.slice (R := R) i 0 n n ⟨bb, o, cap - n⟩ (by simp [R, ha, mkP]) (Nat.le_refl _)
      rw [show n + (cap - n) = cap by omega] at this
      simpa [mkV] using this
    · simp only at h1 ⊢
      subst h1
      exact rel_aggI R l
  refine (hc W.heap.size R W _ (Nat.le_refl _) hm hargs).mono ?_
  rintro e w' ⟨v, v', R', m', rfl, k1, k2, rfl, rfl⟩
  cases k1
  exact ⟨rfl, k2.below hm (Nat.le_refl _)⟩
section
variable {H : Type} {enc : TypeId × Value → H} {P : Program} {w : World} {base : Nat} {spare : Nat → Bool} {held : Bool}
theorem struct_ints {T : TypeId} {fs : Array Field} {fuel : Nat} {cs : List Value} {x : DataW H × List MemPlace} (ht : P.underlying T = some (.struct fs)) (hone : oneCellFields P fs = true) (hC : P.cellsOf T = fs.size)
    (hi : fs.all (fun f => match P.underlying f.type with | some (.int .i64) => true | _ => false) = true) (h : DataW.trod enc P w base spare held fuel T cs = some x) : ∃ l : List Int, l.length = fs.size ∧ cs = iv l := by
  obtain ⟨xs, n, _, _, hlen, hxl, hf⟩ := DataW.trod_struct ht h
  rw [hC] at hlen
  have key : ∀ j : Nat, ∃ z : Int, j < fs.size → cs[j]? = some (.int .i64 z) := fun j => by
    by_cases hj : j < fs.size
    · obtain ⟨ho, hk⟩ := hone_of hone j fs[j] (Array.getElem?_eq_getElem hj)
      have h1 := hf j fs[j] (Array.getElem?_eq_getElem hj)
      rw [ho, hk, List.drop_eq_getElem_cons (by omega), List.take_succ_cons, List.take_zero] at h1
      have hys : xs[j]? = some (xs[j]'(by omega)) := List.getElem?_eq_getElem (by omega)
      rw [hys] at h1
      obtain ⟨z, hz, _⟩ := DataW.trod_int (fields_int hi (Array.getElem?_eq_getElem hj)) h1
      injection hz with hz _
      exact ⟨z, fun _ => by rw [List.getElem?_eq_getElem (by omega), hz]⟩
    · exact ⟨0, fun h => absurd h hj⟩
  obtain ⟨g, hg⟩ := Classical.axiomOfChoice key
  refine ⟨(List.range fs.size).map g, by simp, ?_⟩
  apply List.ext_getElem?
  intro j
  by_cases hj : j < fs.size
  · rw [hg j hj]; simp [iv, hj]
  · rw [List.getElem?_eq_none (by omega), List.getElem?_eq_none (by simp [iv]; omega)]
/-- A struct of two structs of ints. -/
theorem arg_struct2 {r : Reach} {b0 : Nat} {T E : TypeId} {f0 f1 : Field} {fs : Array Field} {n : Nat} {v : Value} {d : DataW H} {p : List MemPlace} (hT : P.underlying T = some (.struct #[f0, f1])) (h0 : f0.type = E ∧ f0.offset = 0) (h1 : f1.type = E ∧ f1.offset = n) (hn : P.cellsOf T = n + n)
    (ht : P.underlying E = some (.struct fs)) (hone : oneCellFields P fs = true) (hC : P.cellsOf E = fs.size) (hfn : fs.size = n)
    (hi : fs.all (fun f => match P.underlying f.type with | some (.int .i64) => true | _ => false) = true) (hok : Value.okWide P w r b0 T v) (h : DataW.Trod enc P w base spare held T v d p) : ∃ l k : List Int, l.length = n ∧ k.length = n ∧ v = .agg (iv (l ++ k)).toArray := by
  obtain ⟨cs, rfl, _⟩ := okWide_struct hT hok
  obtain ⟨fuel, h⟩ := h
  obtain ⟨xs, m, _, _, hlen, hxl, hf⟩ := DataW.trod_struct hT h
  simp only [Value.cells] at hlen hf
  rw [hn] at hlen
  have q0 := hf 0 f0 rfl
  have q1 := hf 1 f1 rfl
  have hxl2 : xs.length = 2 := by simpa using hxl
  rw [h0.1, h0.2, hC, hfn, List.getElem?_eq_getElem (by omega)] at q0
  rw [h1.1, h1.2, hC, hfn, List.getElem?_eq_getElem (by omega)] at q1
  obtain ⟨l, l1, l2⟩ := struct_ints ht hone hC hi q0
  obtain ⟨k, k1, k2⟩ := struct_ints ht hone hC hi q1
  refine ⟨l, k, by omega, by omega, ?_⟩
  have e : cs.toList = iv (l ++ k) := by
    rw [show iv (l ++ k) = iv l ++ iv k by simp [iv], ← l2, ← k2, List.drop_zero, List.take_of_length_le (l := List.drop n _) (by simp at hlen ⊢; omega), List.take_append_drop]
  rw [← e]
end
end Go.Proofs.Ytajpngnphbdnnaa.Abs
namespace Go.Proofs.Ytajpngnphbdnnaa.Abs
set_option linter.unusedSimpArgs false
set_option linter.unusedVariables false
open Go.RowKit
open Go.Proofs.Ytajpngnphbdnnaa.Sim
open Go.ChangeShapes Go.WideShapes Go.Deep
section
variable {H : Type} {enc : TypeId × Value → H} {P : Program} {w : World} {base : Nat} {spare : Nat → Bool} {held : Bool}
theorem gl_of {l : List Int} (h : l.length = 4) : ∃ x : Gl, l = [x.a, x.b, x.c, x.d] := by
  match l, h with
  | [a, b, c, d], _ => exact ⟨⟨a, b, c, d⟩, rfl⟩
theorem arg_rule {r : Reach} {b0 : Nat} {T E : TypeId} {f0 f1 : Field} {fs : Array Field} {v : Value} {d : DataW H} {p : List MemPlace} (hT : P.underlying T = some (.struct #[f0, f1])) (h0 : f0.type = E ∧ f0.offset = 0) (h1 : f1.type = E ∧ f1.offset = 4) (hn : P.cellsOf T = 4 + 4)
    (ht : P.underlying E = some (.struct fs)) (hone : oneCellFields P fs = true) (hC : P.cellsOf E = fs.size) (hfn : fs.size = 4)
    (hi : fs.all (fun f => match P.underlying f.type with | some (.int .i64) => true | _ => false) = true) (hok : Value.okWide P w r b0 T v) (h : DataW.Trod enc P w base spare held T v d p) : ∃ u : Ru, v = u.v := by
  obtain ⟨l, k, l1, k1, rfl⟩ := arg_struct2 hT h0 h1 hn ht hone hC hfn hi hok h
  obtain ⟨x, rfl⟩ := gl_of l1
  obtain ⟨y, rfl⟩ := gl_of k1
  exact ⟨⟨x, y⟩, rfl⟩
end
end Go.Proofs.Ytajpngnphbdnnaa.Abs
