/- Proved here: what the proof of CutTurns rests on, part 4 of 4. Conditions: those that each theorem names. -/
import Derived.Test.YtibhgdglbillaaaDoorCutTurnsK3
namespace Go.Proofs.YtibhgdglbillaaaDoor.Abs
set_option linter.unusedSimpArgs false
set_option linter.unusedVariables false
open Go.RowKit
open Go.Proofs.YtibhgdglbillaaaDoor.Sim
open Go.Proofs
/-- Two blocks of numbers. -/
def M2 (M : AM) (q0 q1 : Nat) (s : List Int × List Int) : AM := MI (MI M q0 s.1) q1 s.2
section
variable {M M0 L T : AM} {q0 q1 : Nat} {s : List Int × List Int}
theorem M2.len : (M2 M q0 q1 s).length = M.length := by unfold M2; rw [MI.len, MI.len]
theorem M2.at0 (h : q0 ≠ q1) (h0 : q0 < M.length) : (M2 M q0 q1 s)[q0]? = some (some { cells := iv s.1 }) := by unfold M2; rw [MI.ne h]; exact MI.at h0
theorem M2.at1 (h1 : q1 < M.length) : (M2 M q0 q1 s)[q1]? = some (some { cells := iv s.2 }) := by unfold M2; exact MI.at (by rw [MI.len]; exact h1)
theorem M2.set1 (h1 : q1 < M.length) (z : List Int) : (M2 M q0 q1 s ++ T).set q1 (some { cells := iv z }) = M2 M q0 q1 (s.1, z) ++ T := by unfold M2; exact MI.set (by rw [MI.len]; exact h1) T z
theorem M2.set0 (h : q0 ≠ q1) (h0 : q0 < M.length) (z : List Int) : (M2 M q0 q1 s ++ T).set q0 (some { cells := iv z }) = M2 M q0 q1 (z, s.2) ++ T := by
  unfold M2 MI
  rw [List.set_append_left _ _ (by simpa using h0), List.set_comm _ _ (Ne.symm h), List.set_set]
theorem M2.high (b0 : M0.length ≤ q0) (b1 : M0.length ≤ q1) (hM : ∃ L, M = M0 ++ L) : ∃ L, M2 M q0 q1 s = M0 ++ L := by
  obtain ⟨L, rfl⟩ := hM
  obtain ⟨L1, h1⟩ := set_high (N := L) b0 (some { cells := iv s.1 })
  obtain ⟨L2, h2⟩ := set_high (N := L1) b1 (some { cells := iv s.2 })
  exact ⟨L2, by unfold M2 MI; rw [h1, h2]⟩
theorem M2.flat (h : q0 ≠ q1) (h0 : q0 < M.length) (h1 : q1 < M.length) (s s' : List Int × List Int) (n j : Nat) (b : Blk) (hj : (M2 M q0 q1 s')[j]? = some (some b)) : (j < M.length ∧ (M2 M q0 q1 s)[j]? = some (some b)) ∨ (isMapK b.kind = false ∧ ∀ x ∈ b.cells, Ren rid n x x) := by
  by_cases e1 : j = q1
  · subst e1
    rw [M2.at1 h1] at hj
    simp only [Option.some.injEq] at hj
    subst hj
    exact .inr ⟨rfl, fun x hx => Ren.of_g0 (g0_iv _ x hx)⟩
  by_cases e0 : j = q0
  · subst e0
    rw [M2.at0 h h0] at hj
    simp only [Option.some.injEq] at hj
    subst hj
    exact .inr ⟨rfl, fun x hx => Ren.of_g0 (g0_iv _ x hx)⟩
  unfold M2 at hj ⊢
  rw [MI.ne e1, MI.ne e0] at hj
  exact .inl ⟨(List.getElem?_eq_some_iff.1 hj).1, by rw [MI.ne e1, MI.ne e0]; exact hj⟩
theorem M2.same (h : q0 ≠ q1) (h0 : M[q0]? = some (some { cells := iv s.1 })) (h1 : M[q1]? = some (some { cells := iv s.2 })) : M2 M q0 q1 s = M := by
  unfold M2 MI
  have e0 := List.getElem?_eq_some_iff.1 h0
  have e1 := List.getElem?_eq_some_iff.1 h1
  rw [← e0.2, List.set_getElem_self, ← e1.2, List.set_getElem_self]
theorem M2.rd {a o : Nat} {x : Value} (h0 : a ≠ q0) (h1 : a ≠ q1) (hr : Rd M a o x) : Rd (M2 M q0 q1 s) a o x := by
  unfold M2
  exact MI.rd h1 (MI.rd h0 hr)
end
theorem round_ok {m1 M0 M : AM} {p q0 q1 a2 a3 a4 a5 a6 ql t : Nat} {B : Brd} {K : List Kd} (hM : ∃ L, M = M0 ++ L) (hm : ∃ N, M0 = m1 ++ N) (hB : BoardAt m1 p B K) (hg : goodB B K = true)
    (b0 : M0.length ≤ q0) (b1 : M0.length ≤ q1) (y0 : q0 < M.length) (y1 : q1 < M.length) (hne : q0 ≠ q1)
    (z0 : M[q0]? = some (some { cells := iv (List.replicate (total (bw B) (bh B)) 0) })) (z1 : M[q1]? = some (some { cells := iv (List.replicate (total (bw B) (bh B)) 0) }))
    (h2 : Rd M0 a2 0 (.slice (some ⟨ql, 0, none⟩) (total (bw B) (bh B)) (total (bw B) (bh B)))) (hl : M0[ql]? = some (some { cells := iv (leafT (leafM B K) (bw B) (bh B)) }))
    (h3 : Rd M0 a3 0 (.pointer (some ⟨p, 0, none⟩))) (h5 : Rd M0 a5 0 (.int .i64 (t : Nat)))
    (h40 : Rd M a4 0 (.slice (some ⟨q0, 0, none⟩) (total (bw B) (bh B)) (total (bw B) (bh B)))) (h41 : Rd M a4 1 (.slice (some ⟨q1, 0, none⟩) (total (bw B) (bh B)) (total (bw B) (bh B)))) (n0 : a4 ≠ q0) (n1 : a4 ≠ q1) (k6 : a6 < M0.length)
    (hp : t = 0 ∨ ∃ t' u0 u1, t = t' + 1 ∧ Rd M0 a6 0 (.slice (some ⟨u0, 0, none⟩) (total (bw B) (bh B)) (total (bw B) (bh B))) ∧ Rd M0 a6 1 (.slice (some ⟨u1, 0, none⟩) (total (bw B) (bh B)) (total (bw B) (bh B))) ∧
      M0[u0]? = some (some { cells := iv (strictT (leafM B K) (bw B) (bh B) t').1 }) ∧ M0[u1]? = some (some { cells := iv (strictT (leafM B K) (bw B) (bh B) t').2 })) :
    ACall Tryd.prog 69 #[.pointer (some ⟨p, 0, none⟩), .func (.func 72) #[] #[.pointer (some ⟨a2, 0, none⟩), .pointer (some ⟨a3, 0, none⟩), .pointer (some ⟨a4, 0, none⟩), .pointer (some ⟨a5, 0, none⟩), .pointer (some ⟨a6, 0, none⟩)]] M
      (Ret (.tuple #[]) (M2 M q0 q1 (strictT (leafM B K) (bw B) (bh B) t))) := by
  have hgb : boardB B = true := by simp only [goodB, Bool.and_eq_true] at hg; exact hg.1
  have hin := good_in hgb
  have hpos : ∀ r, 0 ≤ leafM B K r := fun r => (leafM_in hg r).1
  have hH : ∀ s, ∃ L, M2 M q0 q1 s = M0 ++ L := fun s => M2.high b0 b1 hM
  have hR : ∀ {a o : Nat} {x : Value}, Rd M0 a o x → ∀ s, Rd (M2 M q0 q1 s) a o x := fun h s => by
    obtain ⟨L, e⟩ := hH s
    rw [e]; exact h.old L
  have hb : ∀ {a : Nat} {b : Option Blk}, M0[a]? = some b → ∀ s, (M2 M q0 q1 s)[a]? = some b := fun h s => by
    obtain ⟨L, e⟩ := hH s
    rw [e]; exact get_old L h
  have hBs : ∀ s, BoardAt (M2 M q0 q1 s) p B K := fun s => by
    obtain ⟨L, e⟩ := hH s
    obtain ⟨N, rfl⟩ := hm
    rw [e, List.append_assoc]; exact hB.old _
  obtain ⟨pv, hpv, hst⟩ : ∃ pv, (t = 0 ∨ ∃ t' u0 u1, t = t' + 1 ∧ (∀ s, Rd (M2 M q0 q1 s) a6 0 (.slice (some ⟨u0, 0, none⟩) (total (bw B) (bh B)) (total (bw B) (bh B)))) ∧ (∀ s, Rd (M2 M q0 q1 s) a6 1 (.slice (some ⟨u1, 0, none⟩) (total (bw B) (bh B)) (total (bw B) (bh B)))) ∧
      (∀ s, (M2 M q0 q1 s)[u0]? = some (some { cells := iv pv.1 })) ∧ (∀ s, (M2 M q0 q1 s)[u1]? = some (some { cells := iv pv.2 })) ∧ SI2 (leafM B K) (bw B) (bh B) t' (fun r => r.ok (bw B) (bh B)) pv) ∧
      strictT (leafM B K) (bw B) (bh B) t = fW (sstep (leafM B K) (bw B) (bh B) t pv) (bw B) (bh B) (bw B) (List.replicate (total (bw B) (bh B)) 0, List.replicate (total (bw B) (bh B)) 0) := by
    rcases hp with rfl | ⟨t', u0, u1, rfl, k1, k2, k3, k4⟩
    · exact ⟨([], []), .inl rfl, rfl⟩
    · exact ⟨strictT (leafM B K) (bw B) (bh B) t', .inr ⟨t', u0, u1, rfl, hR k1, hR k2, hb k3, hb k4, strictT_ok hin.2.2.2 hin.2.1 hpos t'⟩, rfl⟩
  have hE : EachI (sstep (leafM B K) (bw B) (bh B) t pv) (bw B) (bh B) (SI2 (leafM B K) (bw B) (bh B) t) := sstep_each hin.2.2.2 hin.2.1 hpos (by
    rcases hpv with h | ⟨t', _, _, h, _, _, _, _, h6⟩
    · exact .inl h
    · exact .inr ⟨t', h, h6⟩)
  rw [hst]
  have lt0 := Nat.lt_of_lt_of_le (show a2 < M0.length from by obtain ⟨b, h, _⟩ := h2; exact (List.getElem?_eq_some_iff.1 h).1) (show M0.length ≤ M.length by omega)
  have lt1 := Nat.lt_of_lt_of_le (show a3 < M0.length from by obtain ⟨b, h, _⟩ := h3; exact (List.getElem?_eq_some_iff.1 h).1) (show M0.length ≤ M.length by omega)
  have lt2 := Nat.lt_of_lt_of_le (show a5 < M0.length from by obtain ⟨b, h, _⟩ := h5; exact (List.getElem?_eq_some_iff.1 h).1) (show M0.length ≤ M.length by omega)
  have lt4 : a4 < M.length := by obtain ⟨b, h, _⟩ := h40; exact (List.getElem?_eq_some_iff.1 h).1
  have := each_ok (m0 := M) (fun s => M2 M q0 q1 s) (sstep (leafM B K) (bw B) (bh B) t pv) (SI2 (leafM B K) (bw B) (bh B) t) (caps := #[.pointer (some ⟨a2, 0, none⟩), .pointer (some ⟨a3, 0, none⟩), .pointer (some ⟨a4, 0, none⟩), .pointer (some ⟨a5, 0, none⟩), .pointer (some ⟨a6, 0, none⟩)]) Tryd.func72 rfl hBs hg hE
    (fun i j y x s T c1 c2 c3 c4 hI => strictc_ok (Mm := fun s => M2 M q0 q1 s) (fun s => M2.len) (fun s s' n j b hj => M2.flat hne y0 y1 s s' n j b hj) (fun s => M2.at0 hne y0) (fun s => M2.at1 y1) (fun s z T => M2.set0 hne y0 z) (fun s z T => M2.set1 y1 z) hBs hg
      (hR h2) (hb hl) (hR h3) (fun s => M2.rd n0 n1 h40) (fun s => M2.rd n0 n1 h41) (hR h5) hpv c1 c2 c3 c4 hI)
    (fun s => M2.len) (fun s s' j b hj => by rw [M2.len]; exact M2.flat hne y0 y1 s s' _ j b hj) (Low.func (fun v hv => by
      simp only [List.mem_cons, List.not_mem_nil, or_false] at hv
      rcases hv with rfl | rfl | rfl | rfl | rfl
      · exact Low.ptr lt0
      · exact Low.ptr lt1
      · exact Low.ptr lt4
      · exact Low.ptr lt2
      · exact Low.ptr (by omega))) (List.replicate (total (bw B) (bh B)) 0, List.replicate (total (bw B) (bh B)) 0) SI2.zero
  rwa [M2.same hne z0 z1] at this
end Go.Proofs.YtibhgdglbillaaaDoor.Abs
namespace Go.Proofs.YtibhgdglbillaaaDoor.Abs
set_option linter.unusedSimpArgs false
set_option linter.unusedVariables false
open Go.RowKit
open Go.Proofs.YtibhgdglbillaaaDoor.Sim
open Go.Proofs
theorem M2.ne {M : AM} {q0 q1 a : Nat} {s : List Int × List Int} (h0 : a ≠ q0) (h1 : a ≠ q1) : (M2 M q0 q1 s)[a]? = M[a]? := by unfold M2; rw [MI.ne h1, MI.ne h0]
theorem ze110 : zeroB Tryd.prog 110 = some #[.slice none 0 0, .slice none 0 0] := by kernel_rfl
theorem ze100s : zeroB Tryd.prog 100 = some #[.pointer none] := by kernel_rfl
theorem ze3s : zeroB Tryd.prog 3 = some #[.int .i64 0] := by kernel_rfl
theorem bl110 {a b n k : Nat} : abuild Tryd.prog 110 [(0, .slice (some ⟨a, 0, none⟩) n n), (1, .slice (some ⟨b, 0, none⟩) k k)] = some (.agg #[.slice (some ⟨a, 0, none⟩) n n, .slice (some ⟨b, 0, none⟩) k k]) := by kernel_rfl
set_option maxHeartbeats 8000000 in
set_option maxRecDepth 100000 in
theorem Strict_no {m : AM} {sv kv : Value} {B : Brd} {K : List Kd} {t : Int} (hs : Strs m sv B) (hk : Kds m kv K) (hg : goodB B K = false) :
    ACall Tryd.prog 28 #[sv, kv, .int .i64 t] m (Ret (.tuple #[.int .i64 0, .int .i64 2]) m) := by
  have hN := fun T => newBoard_no (hs.old T) (hk.old T) hg
  refine ACall.start Tryd.func28 rfl rfl ?_
  (repeat (first | (with_reducible refine AWo.cons ?_) | ((with_reducible refine Step.id ?_); first | ((with_reducible apply Step.gdF); exact rfl; exact rfl; (focus (rfl))) | ((with_reducible apply Step.move); exact rfl; exact rfl) | ((with_reducible apply Step.assign); exact rfl; exact rfl) | ((with_reducible apply Step.load); exact rfl; (focus (decide +kernel)); exact rfl; (focus (exact Rd.new rfl rfl))) | ((with_reducible apply Step.ptrNil); exact rfl; exact rfl; exact un100; exact rfl) | ((with_reducible apply Step.pickT); exact rfl; exact rfl; exact rfl; exact rfl; (focus (rfl))) | ((with_reducible apply Step.callR fit); exact rfl; exact Tryd.func65; exact rfl; exact rfl; exact (hN _)) | ((with_reducible apply Step.alloc 0); exact rfl; exact ze100s; exact rfl; (focus (first | (simp only [List.nil_append, List.cons_append, List.set_cons_zero, List.set_cons_succ, iv_set, bv_set, iv_rep, bv_rep]; done) | (simp only [List.nil_append, List.cons_append, List.set_cons_zero, List.set_cons_succ, iv_set, bv_set, iv_rep, bv_rep]; rfl) | rfl))) | ((with_reducible apply Step.store (k := 0)); exact rfl; exact rfl; exact rfl; exact rfl; (focus (decide +kernel)); exact rfl; exact rfl; (focus (first | omega | (simp [iv, bv]; done) | (simp [iv, bv]; omega))); (focus (first | (simp only [List.nil_append, List.cons_append, List.set_cons_zero, List.set_cons_succ, iv_set, bv_set, iv_rep, bv_rep]; done) | (simp only [List.nil_append, List.cons_append, List.set_cons_zero, List.set_cons_succ, iv_set, bv_set, iv_rep, bv_rep]; rfl) | rfl)))) | (with_reducible refine AWo.nil ?_) | ((with_reducible apply AW.seq)) | ((with_reducible apply Then.n)) | ((with_reducible apply AW.regL)) | ((with_reducible apply AW.condT); exact rfl; (focus (rfl)))))
  (refine AW.retD (l := [(6, _), (7, _)]) (by repeat (first | exact trivial | (refine And.intro ⟨rfl, by (exact .int _ _)⟩ ?_))) ?_; (repeat (first | refine Then.r ?_ | refine InBlk.r ?_)))
  exact ⟨_, rfl, rfl, rfl⟩
set_option maxHeartbeats 8000000 in
set_option maxRecDepth 100000 in
theorem Strict_ok {m : AM} {sv kv : Value} {B : Brd} {K : List Kd} {t : Nat} (hs : Strs m sv B) (hk : Kds m kv K) (hg : goodB B K = true) (ht : t ≤ 32) :
    ACall Tryd.prog 28 #[sv, kv, .int .i64 (t : Nat)] m (Ret (.tuple #[.int .i64 (strictM (leafM B K) (bw B) (bh B) t (wholeR B)), .int .i64 0]) m) := by
  have hgb : boardB B = true := by simp only [goodB, Bool.and_eq_true] at hg; exact hg.1
  have hin := good_in hgb
  have htl := total_le hin.2.2.2 hin.2.1
  have hR := fun m => Rects_ok (m := m) (bw B : Nat) (bh B : Nat)
  rw [total_rects hg] at hR
  refine ACall.drop (Ren.tup2 (.int _ _) (.int _ _)) ?_
  refine ACall.start Tryd.func28 rfl rfl ?_
  (repeat (first | (with_reducible refine AWo.cons ?_) | ((with_reducible refine Step.id ?_); first | ((with_reducible apply Step.move); exact rfl; exact rfl) | ((with_reducible apply Step.assign); exact rfl; exact rfl)) | (with_reducible refine AWo.nil ?_) | ((with_reducible apply AW.seq)) | ((with_reducible apply Then.n)) | ((with_reducible apply AW.regL))))
  ((with_reducible apply Step.callX fit); exact rfl; exact Tryd.func65; exact rfl; exact rfl; exact (newBoard_ok (hs.old _) (hk.old _) hg))
  rintro v m1 ⟨N1, hN1⟩ ⟨p, hp, rfl, hB⟩
  have tw := hB.w
  have th := hB.h
  have hpl := hB.lt
  generalize hW : wholeR B = W at *
  (repeat (first | (with_reducible refine AWo.cons ?_) | ((with_reducible refine Step.id ?_); first | ((with_reducible apply Step.gdT); exact rfl; exact rfl; (focus (rfl))) | ((with_reducible apply Step.move); exact rfl; exact rfl) | ((with_reducible apply Step.assign); exact rfl; exact rfl) | ((with_reducible apply Step.load); exact rfl; (focus (decide +kernel)); exact rfl; (focus (first | exact Rd.new rfl rfl | exact Rd.old _ (by assumption)))) | ((with_reducible apply Step.field (k := 2)); exact rfl; (focus (decide +kernel)); exact rfl) | ((with_reducible apply Step.field (k := 3)); exact rfl; (focus (decide +kernel)); exact rfl) | ((with_reducible apply Step.ptrNot); exact rfl; exact rfl; exact un100; exact rfl) | ((with_reducible apply Step.lss); exact rfl; exact rfl; exact rfl) | ((with_reducible apply Step.gtr); exact rfl; exact rfl; exact rfl) | ((with_reducible apply Step.nilp); exact rfl; exact rfl) | ((with_reducible apply Step.extract); exact rfl; exact rfl; exact rfl) | ((with_reducible apply Step.fn); exact rfl; exact rfl; exact rfl) | ((with_reducible apply Step.pickF); exact rfl; exact rfl; exact rfl; exact rfl; (focus (rfl))) | ((with_reducible apply Step.callR fit); exact rfl; exact Tryd.func17; exact rfl; exact rfl; exact (hR _)) | ((with_reducible apply Step.alloc 0); exact rfl; exact ze100s; exact rfl; (focus (first | (simp only [List.nil_append, List.cons_append, List.set_cons_zero, List.set_cons_succ, iv_set, bv_set, iv_rep, bv_rep]; done) | (simp only [List.nil_append, List.cons_append, List.set_cons_zero, List.set_cons_succ, iv_set, bv_set, iv_rep, bv_rep]; rfl) | rfl))) | ((with_reducible apply Step.store (k := 0)); exact rfl; exact rfl; exact rfl; exact rfl; (focus (decide +kernel)); exact rfl; exact rfl; (focus (first | omega | (simp [iv, bv]; done) | (simp [iv, bv]; omega))); (focus (first | (simp only [List.nil_append, List.cons_append, List.set_cons_zero, List.set_cons_succ, iv_set, bv_set, iv_rep, bv_rep]; done) | (simp only [List.nil_append, List.cons_append, List.set_cons_zero, List.set_cons_succ, iv_set, bv_set, iv_rep, bv_rep]; rfl) | rfl))) | ((with_reducible apply Step.make1 1); exact rfl; exact rfl; exact rfl; exact el47; (focus (omega)); exact rfl; (focus (first | (simp only [List.nil_append, List.cons_append, List.set_cons_zero, List.set_cons_succ, iv_set, bv_set, iv_rep, bv_rep]; done) | (simp only [List.nil_append, List.cons_append, List.set_cons_zero, List.set_cons_succ, iv_set, bv_set, iv_rep, bv_rep]; rfl) | rfl))) | ((with_reducible apply Step.alloc 2); exact rfl; exact ze47; exact rfl; (focus (first | (simp only [List.nil_append, List.cons_append, List.set_cons_zero, List.set_cons_succ, iv_set, bv_set, iv_rep, bv_rep]; done) | (simp only [List.nil_append, List.cons_append, List.set_cons_zero, List.set_cons_succ, iv_set, bv_set, iv_rep, bv_rep]; rfl) | rfl))) | ((with_reducible apply Step.store (k := 2)); exact rfl; exact rfl; exact rfl; exact rfl; (focus (decide +kernel)); exact rfl; exact rfl; (focus (first | omega | (simp [iv, bv]; done) | (simp [iv, bv]; omega))); (focus (first | (simp only [List.nil_append, List.cons_append, List.set_cons_zero, List.set_cons_succ, iv_set, bv_set, iv_rep, bv_rep]; done) | (simp only [List.nil_append, List.cons_append, List.set_cons_zero, List.set_cons_succ, iv_set, bv_set, iv_rep, bv_rep]; rfl) | rfl)))) | (with_reducible refine AWo.nil ?_) | ((with_reducible apply AW.seq)) | ((with_reducible apply Then.n)) | ((with_reducible apply AW.regL)) | ((with_reducible apply AW.drawL fit); (focus (decide +kernel))) | ((with_reducible apply AW.skip)) | ((with_reducible apply AW.condF); exact rfl; (focus ((simp only [decide_eq_true_eq, decide_eq_false_iff_not, Bool.not_eq_true', Bool.not_eq_false', Bool.not_true, Bool.not_false]; first | assumption | omega))))))
  have hMM : ∀ X Y Z : Option Blk, ∀ v, MI (m1 ++ [X, Y, Z]) (m1.length + 1) v = m1 ++ [X, some { cells := iv v }, Z] := fun X Y Z v => by
    unfold MI
    rw [List.set_append_right _ _ (by omega), show m1.length + 1 - m1.length = 1 by omega]
    rfl
  have h0 := hMM (some { cells := [.pointer (some ⟨p, 0, none⟩)] }) (some { cells := iv (List.replicate (total (bw B) (bh B)) 0) }) (some { cells := [.slice (some ⟨m1.length + 1, 0, none⟩) (total (bw B) (bh B)) (total (bw B) (bh B))] })
  have hE : ∀ M0 : AM, (∃ N, M0 = m1 ++ N) → M0.length = m1.length + 3 → Rd M0 (m1.length + 0) 0 (.pointer (some ⟨p, 0, none⟩)) → Rd M0 (m1.length + 2) 0 (.slice (some ⟨m1.length + 1, 0, none⟩) (total (bw B) (bh B)) (total (bw B) (bh B))) →
      ACall Tryd.prog 69 #[.pointer (some ⟨p, 0, none⟩), .func (.func 70) #[] #[.pointer (some ⟨m1.length + 0, 0, none⟩), .pointer (some ⟨m1.length + 2, 0, none⟩)]] (MI M0 (m1.length + 1) (List.replicate (total (bw B) (bh B)) 0)) (Ret (.tuple #[]) (MI M0 (m1.length + 1) (leafT (leafM B K) (bw B) (bh B)))) := fun M0 hN hl r1 r2 =>
    each_ok (m0 := M0) (fun v => MI M0 (m1.length + 1) v) (fun r v => v.set (r.at (bw B) (bh B)) (leafM B K r)) (TabI (leafM B K) (bw B) (bh B)) (caps := #[.pointer (some ⟨m1.length + 0, 0, none⟩), .pointer (some ⟨m1.length + 2, 0, none⟩)]) Tryd.func70 rfl
    (fun v => by
      obtain ⟨N, rfl⟩ := hN
      obtain ⟨N', hN'⟩ := set_high (m0 := m1) (N := N) (a := m1.length + 1) (by omega) (some { cells := iv v })
      unfold MI
      rw [hN']
      exact hB.old _) hg (leaf_each hin.2.2.2 hin.2.1)
    (fun i j y x v T b1 b2 b3 b4 hI => leafc_ok (m := M0) (m1 := m1) (q := m1.length + 1) (a1 := m1.length + 0) (a2 := m1.length + 2) hN hB hg (by omega) (by omega) r1 r2 (by omega) (by omega) b1 b2 b3 b4 hI.len)
    (fun v => MI.len) (fun v v' j b h => MI.flat (by omega) v v' _ j b h) (Low.func (fun v hv => by
      simp only [List.mem_cons, List.not_mem_nil, or_false] at hv
      rcases hv with rfl | rfl
      · exact Low.ptr (by omega)
      · exact Low.ptr (by omega))) (List.replicate (total (bw B) (bh B)) 0) TabI.zero
  have hE := hE _ ⟨_, rfl⟩ (by rw [List.length_append]; rfl) (Rd.new (b := { cells := [.pointer (some ⟨p, 0, none⟩)] }) rfl rfl) (Rd.new (L := [some { cells := [.pointer (some ⟨p, 0, none⟩)] }, some { cells := iv (List.replicate (total (bw B) (bh B)) 0) }, some { cells := [.slice (some ⟨m1.length + 1, 0, none⟩) (total (bw B) (bh B)) (total (bw B) (bh B))] }]) rfl rfl)
  simp only [h0] at hE
  ((with_reducible apply Step.callM fit); exact rfl; exact Tryd.func69; exact rfl; exact rfl; exact hE)
  (repeat (first | (with_reducible refine AWo.cons ?_) | ((with_reducible refine Step.id ?_); first | ((with_reducible apply Step.move); exact rfl; exact rfl) | ((with_reducible apply Step.add); exact rfl; exact rfl; (focus (omega)); exact rfl) | ((with_reducible apply Step.alloc 3); exact rfl; exact ze110; exact rfl; (focus (first | (simp only [List.nil_append, List.cons_append, List.set_cons_zero, List.set_cons_succ, iv_set, bv_set, iv_rep, bv_rep]; done) | (simp only [List.nil_append, List.cons_append, List.set_cons_zero, List.set_cons_succ, iv_set, bv_set, iv_rep, bv_rep]; rfl) | rfl)))) | (with_reducible refine AWo.nil ?_) | ((with_reducible apply AW.seq)) | ((with_reducible apply Then.n)) | ((with_reducible apply AW.regL)) | ((with_reducible apply AW.block))))
  refine AW.loopW (fun rk t' M => ∃ k : Nat, rk = t + 1 - k ∧ k ≤ t + 1 ∧ (∃ N, M = m1 ++ N) ∧ m1.length + 3 < M.length ∧ Rd M (m1.length + 0) 0 (.pointer (some ⟨p, 0, none⟩)) ∧ Rd M (m1.length + 2) 0 (.slice (some ⟨m1.length + 1, 0, none⟩) (total (bw B) (bh B)) (total (bw B) (bh B))) ∧
      M[m1.length + 1]? = some (some { cells := iv (leafT (leafM B K) (bw B) (bh B)) }) ∧ (∃ c0 c1, M[m1.length + 3]? = some (some { cells := [c0, c1] }) ∧ (k = 0 ∨ ∃ k' u0 u1, k = k' + 1 ∧ c0 = .slice (some ⟨u0, 0, none⟩) (total (bw B) (bh B)) (total (bw B) (bh B)) ∧ c1 = .slice (some ⟨u1, 0, none⟩) (total (bw B) (bh B)) (total (bw B) (bh B)) ∧
        u0 ≠ m1.length + 3 ∧ u1 ≠ m1.length + 3 ∧ M[u0]? = some (some { cells := iv (strictT (leafM B K) (bw B) (bh B) k').1 }) ∧ M[u1]? = some (some { cells := iv (strictT (leafM B K) (bw B) (bh B) k').2 }))) ∧
      t' = fr [(8, .pointer (some ⟨m1.length + 0, 0, none⟩)), (9, .int .i64 (total (bw B) (bh B) : Nat)), (11, .pointer (some ⟨m1.length + 2, 0, none⟩)), (12, .pointer (some ⟨m1.length + 3, 0, none⟩)), (47, .int .i64 (t + 1 : Nat)), (48, .int .i64 (k : Nat))])
    ⟨_, _, (by repeat (first | exact trivial | (refine And.intro rfl ?_))), 0, rfl, Nat.zero_le _, ⟨_, rfl⟩, by simp, Rd.new rfl rfl, Rd.new rfl rfl, by rw [get_app]; rfl, ⟨_, _, by rw [get_app]; rfl, .inl rfl⟩, rfl⟩ ?_
  rintro rk t' M ⟨k, rfl, hk, hMN, hML, w0, w1, w2, ⟨c0, c1, w3, w4⟩, rfl⟩
  rcases Nat.lt_or_ge k (t + 1) with hkt | hkt
  · refine AW.rebase ?_
    (repeat (first | (with_reducible refine AWo.cons ?_) | ((with_reducible refine Step.id ?_); first | ((with_reducible apply Step.move); exact rfl; exact rfl) | ((with_reducible apply Step.lss); exact rfl; exact rfl; exact rfl) | ((with_reducible apply Step.alloc 0); exact rfl; exact ze3s; exact rfl; (focus (first | (simp only [List.nil_append, List.cons_append, List.set_cons_zero, List.set_cons_succ, iv_set, bv_set, iv_rep, bv_rep]; done) | (simp only [List.nil_append, List.cons_append, List.set_cons_zero, List.set_cons_succ, iv_set, bv_set, iv_rep, bv_rep]; rfl) | rfl))) | ((with_reducible apply Step.store (k := 0)); exact rfl; exact rfl; exact rfl; exact rfl; (focus (decide +kernel)); exact rfl; exact rfl; (focus (first | omega | (simp [iv, bv]; done) | (simp [iv, bv]; omega))); (focus (first | (simp only [List.nil_append, List.cons_append, List.set_cons_zero, List.set_cons_succ, iv_set, bv_set, iv_rep, bv_rep]; done) | (simp only [List.nil_append, List.cons_append, List.set_cons_zero, List.set_cons_succ, iv_set, bv_set, iv_rep, bv_rep]; rfl) | rfl)))) | (with_reducible refine AWo.nil ?_) | ((with_reducible apply AW.seq)) | ((with_reducible apply Then.n)) | ((fail_if_success (with_reducible refine AW.atL (id := 11) ?_)); ((with_reducible apply AW.regL))) | ((with_reducible apply AW.block)) | ((with_reducible apply AW.skip)) | ((with_reducible apply AW.condT); exact rfl; (focus ((simp only [decide_eq_true_eq, decide_eq_false_iff_not, Bool.not_eq_true', Bool.not_eq_false', Bool.not_true, Bool.not_false]; first | assumption | omega))))))
    refine AW.join (fun t' m' => ∃ L q0 q1 a4, m' = M ++ (some { cells := [.int .i64 (k : Nat)] } :: L) ∧ M.length + 1 ≤ q0 ∧ M.length + 1 ≤ q1 ∧ q0 < m'.length ∧ q1 < m'.length ∧ q0 ≠ q1 ∧ a4 ≠ q0 ∧ a4 ≠ q1 ∧
      m'[q0]? = some (some { cells := iv (List.replicate (total (bw B) (bh B)) 0) }) ∧ m'[q1]? = some (some { cells := iv (List.replicate (total (bw B) (bh B)) 0) }) ∧ m'[a4]? = some (some { cells := [.slice (some ⟨q0, 0, none⟩) (total (bw B) (bh B)) (total (bw B) (bh B)), .slice (some ⟨q1, 0, none⟩) (total (bw B) (bh B)) (total (bw B) (bh B))] }) ∧
      All (fun i v => t' i = some v) [(8, .pointer (some ⟨m1.length + 0, 0, none⟩)), (9, .int .i64 (total (bw B) (bh B) : Nat)), (11, .pointer (some ⟨m1.length + 2, 0, none⟩)), (12, .pointer (some ⟨m1.length + 3, 0, none⟩)), (13, .pointer (some ⟨M.length + 0, 0, none⟩)), (14, .pointer (some ⟨a4, 0, none⟩)), (47, .int .i64 (t + 1 : Nat)), (48, .int .i64 (k : Nat))]) ?_ ?_
    · (repeat' (first | ((with_reducible refine Step.id ?_); first | ((with_reducible apply Step.move); exact rfl; exact rfl) | ((with_reducible apply Step.alloc 1); exact rfl; exact ze110; exact rfl; (focus (first | (simp only [List.nil_append, List.cons_append, List.set_cons_zero, List.set_cons_succ, iv_set, bv_set, iv_rep, bv_rep]; done) | (simp only [List.nil_append, List.cons_append, List.set_cons_zero, List.set_cons_succ, iv_set, bv_set, iv_rep, bv_rep]; rfl) | rfl))) | ((with_reducible apply Step.make1 1); exact rfl; exact rfl; exact rfl; exact el47; (focus (omega)); exact rfl; (focus (first | (simp only [List.nil_append, List.cons_append, List.set_cons_zero, List.set_cons_succ, iv_set, bv_set, iv_rep, bv_rep]; done) | (simp only [List.nil_append, List.cons_append, List.set_cons_zero, List.set_cons_succ, iv_set, bv_set, iv_rep, bv_rep]; rfl) | rfl))) | ((with_reducible apply Step.storeA (k := 1) (n := 2)); exact rfl; exact rfl; exact rfl; exact rfl; (focus (decide +kernel)); exact rfl; (focus (kernel_rfl)); exact rfl; (focus (first | (simp only [List.nil_append, List.cons_append, List.set_cons_zero, List.set_cons_succ, iv_set, bv_set, iv_rep, bv_rep]; done) | (simp only [List.nil_append, List.cons_append, List.set_cons_zero, List.set_cons_succ, iv_set, bv_set, iv_rep, bv_rep]; rfl) | rfl))) | ((with_reducible apply Step.alloc 2); exact rfl; exact ze110; exact rfl; (focus (first | (simp only [List.nil_append, List.cons_append, List.set_cons_zero, List.set_cons_succ, iv_set, bv_set, iv_rep, bv_rep]; done) | (simp only [List.nil_append, List.cons_append, List.set_cons_zero, List.set_cons_succ, iv_set, bv_set, iv_rep, bv_rep]; rfl) | rfl))) | ((with_reducible apply Step.make1 2); exact rfl; exact rfl; exact rfl; exact el47; (focus (omega)); exact rfl; (focus (first | (simp only [List.nil_append, List.cons_append, List.set_cons_zero, List.set_cons_succ, iv_set, bv_set, iv_rep, bv_rep]; done) | (simp only [List.nil_append, List.cons_append, List.set_cons_zero, List.set_cons_succ, iv_set, bv_set, iv_rep, bv_rep]; rfl) | rfl))) | ((with_reducible apply Step.storeA (k := 2) (n := 2)); exact rfl; exact rfl; exact rfl; exact rfl; (focus (decide +kernel)); exact rfl; (focus (kernel_rfl)); exact rfl; (focus (first | (simp only [List.nil_append, List.cons_append, List.set_cons_zero, List.set_cons_succ, iv_set, bv_set, iv_rep, bv_rep]; done) | (simp only [List.nil_append, List.cons_append, List.set_cons_zero, List.set_cons_succ, iv_set, bv_set, iv_rep, bv_rep]; rfl) | rfl))) | ((with_reducible apply Step.alloc 3); exact rfl; exact ze110; exact rfl; (focus (first | (simp only [List.nil_append, List.cons_append, List.set_cons_zero, List.set_cons_succ, iv_set, bv_set, iv_rep, bv_rep]; done) | (simp only [List.nil_append, List.cons_append, List.set_cons_zero, List.set_cons_succ, iv_set, bv_set, iv_rep, bv_rep]; rfl) | rfl))) | ((with_reducible apply Step.make1 3); exact rfl; exact rfl; exact rfl; exact el47; (focus (omega)); exact rfl; (focus (first | (simp only [List.nil_append, List.cons_append, List.set_cons_zero, List.set_cons_succ, iv_set, bv_set, iv_rep, bv_rep]; done) | (simp only [List.nil_append, List.cons_append, List.set_cons_zero, List.set_cons_succ, iv_set, bv_set, iv_rep, bv_rep]; rfl) | rfl))) | ((with_reducible apply Step.storeA (k := 3) (n := 2)); exact rfl; exact rfl; exact rfl; exact rfl; (focus (decide +kernel)); exact rfl; (focus (kernel_rfl)); exact rfl; (focus (first | (simp only [List.nil_append, List.cons_append, List.set_cons_zero, List.set_cons_succ, iv_set, bv_set, iv_rep, bv_rep]; done) | (simp only [List.nil_append, List.cons_append, List.set_cons_zero, List.set_cons_succ, iv_set, bv_set, iv_rep, bv_rep]; rfl) | rfl))) | ((with_reducible apply Step.build); exact rfl; exact bl110; exact rfl)) | ((with_reducible apply Then.n)) | ((with_reducible apply AW.drawT fit (T := (.step 0 (.step 2 (.both (.step 1 (.both (.step 3 (.step 4 (.step 5 (.step 6 .done)))) (.step 5 (.step 3 (.step 4 (.step 6 .done)))))) (.both (.step 3 (.both (.step 1 (.step 4 (.step 5 (.step 6 .done)))) (.step 5 (.step 1 (.step 4 (.step 6 .done)))))) (.step 5 (.both (.step 1 (.step 3 (.step 4 (.step 6 .done)))) (.step 3 (.step 1 (.step 4 (.step 6 .done)))))))))))); (focus (decide +kernel))) | ((with_reducible apply AWt.step); exact rfl) | ((with_reducible apply AWt.done)) | refine AWt.both ?_ ?_))
      all_goals
        first | (exact ⟨_, M.length + 1, M.length + 2, M.length + 3, rfl, by omega, by omega, by simp, by simp, by omega, by omega, by omega, by rw [get_app]; rfl, by rw [get_app]; rfl, by rw [get_app]; rfl, (by repeat (first | exact trivial | (refine And.intro rfl ?_)))⟩) | (exact ⟨_, M.length + 1, M.length + 3, M.length + 2, rfl, by omega, by omega, by simp, by simp, by omega, by omega, by omega, by rw [get_app]; rfl, by rw [get_app]; rfl, by rw [get_app]; rfl, (by repeat (first | exact trivial | (refine And.intro rfl ?_)))⟩) | (exact ⟨_, M.length + 2, M.length + 1, M.length + 3, rfl, by omega, by omega, by simp, by simp, by omega, by omega, by omega, by rw [get_app]; rfl, by rw [get_app]; rfl, by rw [get_app]; rfl, (by repeat (first | exact trivial | (refine And.intro rfl ?_)))⟩) | (exact ⟨_, M.length + 2, M.length + 3, M.length + 1, rfl, by omega, by omega, by simp, by simp, by omega, by omega, by omega, by rw [get_app]; rfl, by rw [get_app]; rfl, by rw [get_app]; rfl, (by repeat (first | exact trivial | (refine And.intro rfl ?_)))⟩) | (exact ⟨_, M.length + 3, M.length + 1, M.length + 2, rfl, by omega, by omega, by simp, by simp, by omega, by omega, by omega, by rw [get_app]; rfl, by rw [get_app]; rfl, by rw [get_app]; rfl, (by repeat (first | exact trivial | (refine And.intro rfl ?_)))⟩) | (exact ⟨_, M.length + 3, M.length + 2, M.length + 1, rfl, by omega, by omega, by simp, by simp, by omega, by omega, by omega, by rw [get_app]; rfl, by rw [get_app]; rfl, by rw [get_app]; rfl, (by repeat (first | exact trivial | (refine And.intro rfl ?_)))⟩)
    · rintro t' m' ⟨L, q0, q1, a4, hm', i0, i1, j0, j1, hne, n0, n1, z0, z1, z4, hsl⟩
      refine AW.weak (fr_all hsl) ?_
      clear hsl
      have hr := round_ok (m1 := m1) (M0 := M ++ [some { cells := [.int .i64 (k : Nat)] }]) (M := m') (q0 := q0) (q1 := q1) (a2 := m1.length + 2) (a3 := m1.length + 0) (a4 := a4) (a5 := M.length + 0) (a6 := m1.length + 3) (ql := m1.length + 1) (t := k) (p := p) ⟨L, by rw [hm']; simp⟩
        (by obtain ⟨N, rfl⟩ := hMN; exact ⟨_, List.append_assoc _ _ _⟩) hB hg (by simpa using i0) (by simpa using i1) j0 j1 hne z0 z1 (w1.old _) (get_old _ w2) (w0.old _) (Rd.new rfl rfl) ⟨_, z4, rfl⟩ ⟨_, z4, rfl⟩ n0 n1 (by simp; omega)
        (by
          rcases w4 with rfl | ⟨k', u0, u1, rfl, rfl, rfl, _, _, x0, x1⟩
          · exact .inl rfl
          · exact .inr ⟨k', u0, u1, rfl, ⟨_, get_old _ w3, rfl⟩, ⟨_, get_old _ w3, rfl⟩, get_old _ x0, get_old _ x1⟩)
      have o0 : Rd m' (m1.length + 0) 0 (.pointer (some ⟨p, 0, none⟩)) := by rw [hm']; exact w0.old _
      (repeat (first | (with_reducible refine AWo.cons ?_) | ((with_reducible refine Step.id ?_); first | ((with_reducible apply Step.load); exact rfl; (focus (decide +kernel)); exact rfl; (focus (assumption))) | ((with_reducible apply Step.fn); exact rfl; exact rfl; exact rfl)) | ((with_reducible apply AW.seq)) | ((with_reducible apply AW.regL))))
      ((with_reducible apply Step.callM fit); exact rfl; exact Tryd.func69; exact rfl; exact rfl; exact hr)
      clear hr
      have hnew : ∀ a, a < M.length → a ≠ m1.length + 3 → ∀ X, ((M2 m' q0 q1 (strictT (leafM B K) (bw B) (bh B) k)).set (m1.length + 3) X)[a]? = M[a]? := fun a ha hne X => by
        rw [List.getElem?_set_ne (Ne.symm hne), M2.ne (by omega) (by omega), hm', List.getElem?_append_left ha]
      have hq0 : ∀ X, ((M2 m' q0 q1 (strictT (leafM B K) (bw B) (bh B) k)).set (m1.length + 3) X)[q0]? = some (some { cells := iv (strictT (leafM B K) (bw B) (bh B) k).1 }) := fun X => by
        rw [List.getElem?_set_ne (by omega)]; exact M2.at0 hne j0
      have hq1 : ∀ X, ((M2 m' q0 q1 (strictT (leafM B K) (bw B) (bh B) k)).set (m1.length + 3) X)[q1]? = some (some { cells := iv (strictT (leafM B K) (bw B) (bh B) k).2 }) := fun X => by
        rw [List.getElem?_set_ne (by omega)]; exact M2.at1 j1
      have hlen : (M2 m' q0 q1 (strictT (leafM B K) (bw B) (bh B) k)).length = m'.length := M2.len
      have hmM : M.length < m'.length := by rw [hm']; simp
      have h3 : (M2 m' q0 q1 (strictT (leafM B K) (bw B) (bh B) k))[m1.length + 3]? = some (some { cells := [c0, c1] }) := by
        rw [M2.ne (by omega) (by omega), hm', List.getElem?_append_left hML]; exact w3
      have r4 : RdL (M2 m' q0 q1 (strictT (leafM B K) (bw B) (bh B) k)) a4 0 [.slice (some ⟨q0, 0, none⟩) (total (bw B) (bh B)) (total (bw B) (bh B)), .slice (some ⟨q1, 0, none⟩) (total (bw B) (bh B)) (total (bw B) (bh B))] := by
        refine ⟨_, by rw [M2.ne n0 n1]; exact z4, fun j v hj => by simpa using hj⟩
      have hN : ∀ X, ∃ N, (M2 m' q0 q1 (strictT (leafM B K) (bw B) (bh B) k)).set (m1.length + 3) X = m1 ++ N := fun X => by
        obtain ⟨N, rfl⟩ := hMN
        obtain ⟨N1, e1⟩ := M2.high (M0 := m1) (M := m') (q0 := q0) (q1 := q1) (s := strictT (leafM B K) (bw B) (bh B) k) (by omega) (by omega) ⟨_, by rw [hm', List.append_assoc]⟩
        obtain ⟨N2, e2⟩ := set_high (m0 := m1) (N := N1) (a := m1.length + 3) (by omega) X
        exact ⟨N2, by rw [e1, e2]⟩
      generalize hG : M2 m' q0 q1 (strictT (leafM B K) (bw B) (bh B) k) = G at *
      clear hG z0 z1 z4
      (repeat (first | (with_reducible refine AWo.cons ?_) | ((with_reducible refine Step.id ?_); ((with_reducible apply Step.loadL (n := 2)); exact rfl; (focus (decide +kernel)); (focus (decide +kernel)); exact rfl; (focus (assumption)); exact rfl; exact rfl)) | (with_reducible refine AWo.nil ?_) | ((with_reducible apply Then.n)) | ((with_reducible apply AW.regL))))
      ((with_reducible apply Step.storeG (n := 2)); exact rfl; exact rfl; exact h3; exact rfl; (focus (decide +kernel)); exact rfl; (focus (kernel_rfl)); exact rfl)
      (repeat (first | (with_reducible refine AWo.cons ?_) | ((with_reducible refine Step.id ?_); first | ((with_reducible apply Step.move); exact rfl; exact rfl) | ((with_reducible apply Step.add); exact rfl; exact rfl; (focus (omega)); exact rfl)) | (with_reducible refine AWo.nil ?_) | ((with_reducible apply Then.n)) | ((with_reducible apply AW.regL)) | ((with_reducible apply InBlk.n))))
      refine ⟨_, _, ?_, (by repeat (first | exact trivial | (refine And.intro rfl ?_))), k + 1, rfl, by omega, hN _, by rw [List.length_set]; omega, ?_, ?_, ?_, ⟨_, _, List.getElem?_set_self (by omega), .inr ⟨k, q0, q1, rfl, rfl, rfl, by omega, by omega, hq0 _, hq1 _⟩⟩, rfl⟩
      · omega
      · obtain ⟨b, k1, k2⟩ := w0
        exact ⟨b, by rw [hnew _ (by omega) (by omega)]; exact k1, k2⟩
      · obtain ⟨b, k1, k2⟩ := w1
        exact ⟨b, by rw [hnew _ (by omega) (by omega)]; exact k1, k2⟩
      · rw [hnew _ (by omega) (by omega)]; exact w2
  · obtain rfl : k = t + 1 := by omega
    rcases w4 with h | ⟨k', u0, u1, hk', rfl, rfl, _, _, x0, x1⟩
    · omega
    obtain rfl : t = k' := by omega
    obtain ⟨N2, hN2⟩ := hMN
    have hBM : BoardAt M p B K := by rw [hN2]; exact hB.old _
    have hok : (wholeR B).ok (bw B) (bh B) := by
      simp only [R4.ok, wholeR]
      omega
    have hat := at_lt hin.2.2.2 hin.2.1 hok
    have hTT := strictT_ok (leaf := leafM B K) hin.2.2.2 hin.2.1 (fun r => (leafM_in hg r).1) t
    have l1 := hTT.1.len
    have l2 := hTT.2.len
    have hv : strictM (leafM B K) (bw B) (bh B) t W = max ((strictT (leafM B K) (bw B) (bh B) t).1.getD ((wholeR B).at (bw B) (bh B)) 0) ((strictT (leafM B K) (bw B) (bh B) t).2.getD ((wholeR B).at (bw B) (bh B)) 0) := by
      have e1 := hTT.1.dn _ hok
      have e2 := hTT.2.dn _ hok
      unfold tg at e1 e2
      rw [← hW, e1, e2]
      rfl
    rw [hv]
    have fw := whole_ok hBM
    have nn := num_ok (m := M) hin.2.2.2 hin.2.1 hok
    have tw := hBM.w
    have th := hBM.h
    change ACall Tryd.prog 67 _ _ (Ret (.agg (wholeR B).rc.cells.toArray) _) at fw
    change ACall Tryd.prog 63 #[_, _, .agg (wholeR B).rc.cells.toArray] _ _ at nn
    generalize (wholeR B).at (bw B) (bh B) = n at *
    have v0 := rd_iv x0 rfl (k := n) (by omega)
    have v1 := rd_iv x1 rfl (k := n) (by omega)
    have c0 : Rd M (m1.length + 3) 0 _ := ⟨_, w3, rfl⟩
    have c1 : Rd M (m1.length + 3) 1 _ := ⟨_, w3, rfl⟩
    (repeat (first | (with_reducible refine AWo.cons ?_) | ((with_reducible refine Step.id ?_); ((with_reducible apply Step.lss); exact rfl; exact rfl; exact rfl)) | (with_reducible refine AWo.nil ?_) | ((with_reducible apply AW.seq)) | ((with_reducible apply Then.n)) | ((fail_if_success (with_reducible refine AW.atL (id := 15) ?_)); ((with_reducible apply AW.regL))) | ((with_reducible apply AW.exit)) | ((with_reducible apply InBlk.hit)) | ((with_reducible apply Then.e)) | ((with_reducible apply AW.condF); exact rfl; (focus ((simp only [decide_eq_true_eq, decide_eq_false_iff_not, Bool.not_eq_true', Bool.not_eq_false', Bool.not_true, Bool.not_false]; first | assumption | omega))))))
    refine AW.flatN fit [(8, .pointer (some ⟨m1.length + 0, 0, none⟩)), (12, .pointer (some ⟨m1.length + 3, 0, none⟩))] [(12, .pointer (some ⟨m1.length + 3, 0, none⟩)), (15, .int .i64 (n : Nat))] [8, 12] [[], [0], [0], [0], [], [0], [0], [0], [], [0], [6, 2, 0, 0], [0, 0, 10, 9, 8, 7, 6, 5, 4, 3, 2, 1, 0]] (by repeat (first | exact trivial | (refine And.intro rfl ?_))) rfl (by decide +kernel) ?_ ?_
    · (repeat (first | ((with_reducible refine Step.id ?_); first | ((with_reducible apply Step.assign); exact rfl; exact rfl) | ((with_reducible apply Step.load); exact rfl; (focus (decide +kernel)); exact rfl; (focus (assumption))) | ((with_reducible apply Step.field (k := 2)); exact rfl; (focus (decide +kernel)); exact rfl) | ((with_reducible apply Step.field (k := 3)); exact rfl; (focus (decide +kernel)); exact rfl) | ((with_reducible apply Step.nilp); exact rfl; exact rfl) | ((with_reducible apply Step.callR fit); exact rfl; exact Tryd.func67; exact rfl; exact rfl; exact (fw)) | ((with_reducible apply Step.callR fit); exact rfl; exact Tryd.func63; exact rfl; exact rfl; exact (nn))) | (apply AWf.cons; exact rfl) | exact ⟨put_same _ _ _, rfl⟩ | ((with_reducible apply AWf.nil))))
      exact (by repeat (first | exact trivial | (refine And.intro rfl ?_)))
    · intro t2 ht2
      refine Then.n ?_
      refine AW.weak ht2 ?_
      clear ht2
      (repeat (first | (with_reducible refine AWo.cons ?_) | ((with_reducible refine Step.id ?_); first | ((with_reducible apply Step.move); exact rfl; exact rfl) | ((with_reducible apply Step.assign); exact rfl; exact rfl) | ((with_reducible apply Step.load); exact rfl; (focus (decide +kernel)); exact rfl; (focus (assumption))) | ((with_reducible apply Step.ix1z); exact rfl; (focus (exact Sl.mk (by omega))); exact rfl; (focus (decide +kernel)); exact rfl; (focus (omega))) | ((with_reducible apply Step.ixA (s := 1) (n := 2) (k := 0)); exact rfl; exact rfl; (focus (kernel_rfl)); exact rfl; (focus (omega))) | ((with_reducible apply Step.ixA (s := 1) (n := 2) (k := 1)); exact rfl; exact rfl; (focus (kernel_rfl)); exact rfl; (focus (omega))) | ((with_reducible apply Step.max); exact rfl; exact rfl; exact rfl)) | (with_reducible refine AWo.nil ?_) | ((with_reducible apply AW.seq)) | ((with_reducible apply Then.n)) | ((with_reducible apply AW.drawL fit); (focus (decide +kernel)))))
      (refine AW.ret ?_; (repeat (first | refine Then.r ?_ | refine InBlk.r ?_)))
      obtain ⟨N1, rfl⟩ := hN1
      exact ⟨_, rfl, rfl, N1 ++ N2, by rw [hN2]; simp⟩
end Go.Proofs.YtibhgdglbillaaaDoor.Abs
namespace Go.Proofs.YtibhgdglbillaaaDoor.Abs
set_option linter.unusedSimpArgs false
set_option linter.unusedVariables false
open Go.RowKit
open Go.Proofs.YtibhgdglbillaaaDoor.Sim
open Go.Proofs
theorem rowB_no {n : Nat} {s : ByteArray} {i : Nat} (hi : i < s.size) (h : ¬ (48 ≤ byteAt s i ∧ byteAt s i ≤ 57)) : rowB n s = false := by
  rw [Bool.eq_false_iff]
  intro hc
  simp only [rowB, Bool.and_eq_true, List.all_eq_true, List.mem_range, decide_eq_true_eq] at hc
  exact h (hc.2 i hi)
theorem rowB_yes {n : Nat} {s : ByteArray} (hs : s.size = n) (h : ∀ i, i < s.size → 48 ≤ byteAt s i ∧ byteAt s i ≤ 57) : rowB n s = true := by
  simp only [rowB, Bool.and_eq_true, List.all_eq_true, List.mem_range, decide_eq_true_eq]
  exact ⟨hs, h⟩
set_option maxRecDepth 100000 in
theorem RValid_ok {m : AM} {sv : Value} {B : Brd} (hs : Strs m sv B) : ACall Tryd.prog 52 #[sv] m (Ret (.bool (skinB B)) m) := by
  obtain ⟨A, O, sl, la, rd⟩ := hs
  refine ACall.start Tryd.func52 rfl rfl ?_
  by_cases h1 : B.length < 1
  · have e : skinB B = false := by simp [skinB]; omega
    (repeat (first | (with_reducible refine AWo.cons ?_) | ((with_reducible refine Step.id ?_); first | ((with_reducible apply Step.gdF); exact rfl; exact rfl; (focus (first | rfl | (simp only [decide_eq_true_eq, decide_eq_false_iff_not, Bool.not_eq_true', Bool.not_eq_false', Bool.not_true, Bool.not_false]; first | assumption | omega)))) | ((with_reducible apply Step.move); exact rfl; exact rfl) | ((with_reducible apply Step.assign); exact rfl; exact rfl) | ((with_reducible apply Step.lss); exact rfl; exact rfl; exact rfl) | ((with_reducible apply Step.len); exact rfl; (focus (assumption)); (focus (decide +kernel)); exact rfl) | ((with_reducible apply Step.pickT); exact rfl; exact rfl; exact rfl; exact rfl; (focus (first | rfl | (simp only [decide_eq_true_eq, decide_eq_false_iff_not, Bool.not_eq_true', Bool.not_eq_false', Bool.not_true, Bool.not_false]; first | assumption | omega))))) | (with_reducible refine AWo.nil ?_) | ((with_reducible apply AW.seq)) | ((with_reducible apply Then.n)) | ((with_reducible apply AW.regL)) | ((with_reducible apply AW.condT); exact rfl; (focus (rfl)))))
    (refine AW.retD (l := [(2, _)]) (by repeat (first | exact trivial | (refine And.intro ⟨rfl, by (exact .bool _)⟩ ?_))) ?_; (repeat (first | refine Then.r ?_ | refine InBlk.r ?_)))
    exact ⟨_, rfl, by rw [e], rfl⟩
  by_cases h2 : 48 < B.length
  · have e : skinB B = false := by simp [skinB]; omega
    (repeat (first | (with_reducible refine AWo.cons ?_) | ((with_reducible refine Step.id ?_); first | ((with_reducible apply Step.gdT); exact rfl; exact rfl; (focus ((simp only [decide_eq_true_eq, decide_eq_false_iff_not, Bool.not_eq_true', Bool.not_eq_false', Bool.not_true, Bool.not_false]; first | assumption | omega)))) | ((with_reducible apply Step.gdF); exact rfl; exact rfl; (focus (first | rfl | (simp only [decide_eq_true_eq, decide_eq_false_iff_not, Bool.not_eq_true', Bool.not_eq_false', Bool.not_true, Bool.not_false]; first | assumption | omega)))) | ((with_reducible apply Step.move); exact rfl; exact rfl) | ((with_reducible apply Step.assign); exact rfl; exact rfl) | ((with_reducible apply Step.lss); exact rfl; exact rfl; exact rfl) | ((with_reducible apply Step.gtr); exact rfl; exact rfl; exact rfl) | ((with_reducible apply Step.len); exact rfl; (focus (assumption)); (focus (decide +kernel)); exact rfl) | ((with_reducible apply Step.pickT); exact rfl; exact rfl; exact rfl; exact rfl; (focus (first | rfl | (simp only [decide_eq_true_eq, decide_eq_false_iff_not, Bool.not_eq_true', Bool.not_eq_false', Bool.not_true, Bool.not_false]; first | assumption | omega)))) | ((with_reducible apply Step.pickF); exact rfl; exact rfl; exact rfl; exact rfl; (focus ((simp only [decide_eq_true_eq, decide_eq_false_iff_not, Bool.not_eq_true', Bool.not_eq_false', Bool.not_true, Bool.not_false]; first | assumption | omega))))) | (with_reducible refine AWo.nil ?_) | ((with_reducible apply AW.seq)) | ((with_reducible apply Then.n)) | ((with_reducible apply AW.regL)) | ((with_reducible apply AW.condT); exact rfl; (focus (rfl)))))
    (refine AW.retD (l := [(2, _)]) (by repeat (first | exact trivial | (refine And.intro ⟨rfl, by (exact .bool _)⟩ ?_))) ?_; (repeat (first | refine Then.r ?_ | refine InBlk.r ?_)))
    exact ⟨_, rfl, by rw [e], rfl⟩
  have r0 := rd 0 (by omega)
  by_cases h3 : (rowOf B 0).size < 1
  · have e : skinB B = false := by simp [skinB]; omega
    (repeat (first | (with_reducible refine AWo.cons ?_) | ((with_reducible refine Step.id ?_); first | ((with_reducible apply Step.gdT); exact rfl; exact rfl; (focus ((simp only [decide_eq_true_eq, decide_eq_false_iff_not, Bool.not_eq_true', Bool.not_eq_false', Bool.not_true, Bool.not_false]; first | assumption | omega)))) | ((with_reducible apply Step.gdF); exact rfl; exact rfl; (focus ((simp only [decide_eq_true_eq, decide_eq_false_iff_not, Bool.not_eq_true', Bool.not_eq_false', Bool.not_true, Bool.not_false]; first | assumption | omega)))) | ((with_reducible apply Step.move); exact rfl; exact rfl) | ((with_reducible apply Step.assign); exact rfl; exact rfl) | ((with_reducible apply Step.load); exact rfl; (focus (decide +kernel)); exact rfl; (focus (exact Rd.old _ (by assumption)))) | ((with_reducible apply Step.ix1 (k := 0)); exact rfl; (focus (assumption)); exact rfl; (focus (decide +kernel)); exact rfl; (focus (omega))) | ((with_reducible apply Step.lenS); exact rfl; exact un9; exact rfl) | ((with_reducible apply Step.lss); exact rfl; exact rfl; exact rfl) | ((with_reducible apply Step.gtr); exact rfl; exact rfl; exact rfl) | ((with_reducible apply Step.len); exact rfl; (focus (assumption)); (focus (decide +kernel)); exact rfl) | ((with_reducible apply Step.pickT); exact rfl; exact rfl; exact rfl; exact rfl; (focus ((simp only [decide_eq_true_eq, decide_eq_false_iff_not, Bool.not_eq_true', Bool.not_eq_false', Bool.not_true, Bool.not_false]; first | assumption | omega)))) | ((with_reducible apply Step.pickF); exact rfl; exact rfl; exact rfl; exact rfl; (focus ((simp only [decide_eq_true_eq, decide_eq_false_iff_not, Bool.not_eq_true', Bool.not_eq_false', Bool.not_true, Bool.not_false]; first | assumption | omega))))) | (with_reducible refine AWo.nil ?_) | ((with_reducible apply AW.seq)) | ((with_reducible apply Then.n)) | ((with_reducible apply AW.regL)) | ((with_reducible apply AW.condT); exact rfl; (focus (rfl)))))
    (refine AW.retD (l := [(2, _)]) (by repeat (first | exact trivial | (refine And.intro ⟨rfl, by (exact .bool _)⟩ ?_))) ?_; (repeat (first | refine Then.r ?_ | refine InBlk.r ?_)))
    exact ⟨_, rfl, by rw [e], rfl⟩
  by_cases h4 : 48 < (rowOf B 0).size
  · have e : skinB B = false := by simp [skinB]; omega
    (repeat (first | (with_reducible refine AWo.cons ?_) | ((with_reducible refine Step.id ?_); first | ((with_reducible apply Step.gdT); exact rfl; exact rfl; (focus ((simp only [decide_eq_true_eq, decide_eq_false_iff_not, Bool.not_eq_true', Bool.not_eq_false', Bool.not_true, Bool.not_false]; first | assumption | omega)))) | ((with_reducible apply Step.move); exact rfl; exact rfl) | ((with_reducible apply Step.assign); exact rfl; exact rfl) | ((with_reducible apply Step.load); exact rfl; (focus (decide +kernel)); exact rfl; (focus (exact Rd.old _ (by assumption)))) | ((with_reducible apply Step.ix1 (k := 0)); exact rfl; (focus (assumption)); exact rfl; (focus (decide +kernel)); exact rfl; (focus (omega))) | ((with_reducible apply Step.lenS); exact rfl; exact un9; exact rfl) | ((with_reducible apply Step.lss); exact rfl; exact rfl; exact rfl) | ((with_reducible apply Step.gtr); exact rfl; exact rfl; exact rfl) | ((with_reducible apply Step.len); exact rfl; (focus (assumption)); (focus (decide +kernel)); exact rfl) | ((with_reducible apply Step.pickF); exact rfl; exact rfl; exact rfl; exact rfl; (focus ((simp only [decide_eq_true_eq, decide_eq_false_iff_not, Bool.not_eq_true', Bool.not_eq_false', Bool.not_true, Bool.not_false]; first | assumption | omega))))) | (with_reducible refine AWo.nil ?_) | ((with_reducible apply AW.seq)) | ((with_reducible apply Then.n)) | ((with_reducible apply AW.regL)) | ((with_reducible apply AW.condT); exact rfl; (focus ((simp only [decide_eq_true_eq, decide_eq_false_iff_not, Bool.not_eq_true', Bool.not_eq_false', Bool.not_true, Bool.not_false]; first | assumption | omega))))))
    (refine AW.retD (l := [(2, _)]) (by repeat (first | exact trivial | (refine And.intro ⟨rfl, by (exact .bool _)⟩ ?_))) ?_; (repeat (first | refine Then.r ?_ | refine InBlk.r ?_)))
    exact ⟨_, rfl, by rw [e], rfl⟩
  have hk := skinB_rows (B := B) (by omega)
  (repeat (first | (with_reducible refine AWo.cons ?_) | ((with_reducible refine Step.id ?_); first | ((with_reducible apply Step.gdT); exact rfl; exact rfl; (focus ((simp only [decide_eq_true_eq, decide_eq_false_iff_not, Bool.not_eq_true', Bool.not_eq_false', Bool.not_true, Bool.not_false]; first | assumption | omega)))) | ((with_reducible apply Step.move); exact rfl; exact rfl) | ((with_reducible apply Step.assign); exact rfl; exact rfl) | ((with_reducible apply Step.load); exact rfl; (focus (decide +kernel)); exact rfl; (focus (exact Rd.old _ (by assumption)))) | ((with_reducible apply Step.ix1 (k := 0)); exact rfl; (focus (assumption)); exact rfl; (focus (decide +kernel)); exact rfl; (focus (omega))) | ((with_reducible apply Step.lenS); exact rfl; exact un9; exact rfl) | ((with_reducible apply Step.lss); exact rfl; exact rfl; exact rfl) | ((with_reducible apply Step.gtr); exact rfl; exact rfl; exact rfl) | ((with_reducible apply Step.len); exact rfl; (focus (assumption)); (focus (decide +kernel)); exact rfl) | ((with_reducible apply Step.pickF); exact rfl; exact rfl; exact rfl; exact rfl; (focus ((simp only [decide_eq_true_eq, decide_eq_false_iff_not, Bool.not_eq_true', Bool.not_eq_false', Bool.not_true, Bool.not_false]; first | assumption | omega))))) | (with_reducible refine AWo.nil ?_) | ((with_reducible apply AW.seq)) | ((with_reducible apply Then.n)) | ((with_reducible apply AW.regL)) | ((with_reducible apply AW.block)) | ((with_reducible apply AW.skip)) | ((with_reducible apply AW.condF); exact rfl; (focus ((simp only [decide_eq_true_eq, decide_eq_false_iff_not, Bool.not_eq_true', Bool.not_eq_false', Bool.not_true, Bool.not_false]; first | assumption | omega))))))
  refine AW.loopT (fun n t L => ∃ k : Nat, n = B.length - k ∧ k ≤ B.length ∧ L = [] ∧ (∀ y, y < k → rowB (rowOf B 0).size (rowOf B y) = true) ∧
    t = [(0, sv), (28, sv), (29, .int .i64 (B.length : Nat)), (30, .int .i64 (k : Nat))])
    ⟨_, _, _, (Or.inl ⟨rfl, (by repeat (first | exact trivial | (refine And.intro rfl ?_)))⟩), 0, rfl, Nat.zero_le _, rfl, fun y hy => by omega, rfl⟩ ?_
  rintro n t L ⟨k, rfl, hkk, rfl, hr, rfl⟩
  rcases Nat.lt_or_ge k B.length with hlt | hge
  · have rk := rd k hlt
    by_cases h5 : (rowOf B k).size = (rowOf B 0).size
    · (repeat (first | (with_reducible refine AWo.cons ?_) | ((with_reducible refine Step.id ?_); first | ((with_reducible apply Step.move); exact rfl; exact rfl) | ((with_reducible apply Step.assign); exact rfl; exact rfl) | ((with_reducible apply Step.load); exact rfl; (focus (decide +kernel)); exact rfl; (focus (exact Rd.old _ (by assumption)))) | ((with_reducible apply Step.ix1); exact rfl; (focus (assumption)); exact rfl; (focus (decide +kernel)); exact rfl; (focus (omega))) | ((with_reducible apply Step.ix1 (k := 0)); exact rfl; (focus (assumption)); exact rfl; (focus (decide +kernel)); exact rfl; (focus (omega))) | ((with_reducible apply Step.lenS); exact rfl; exact un9; exact rfl) | ((with_reducible apply Step.lss); exact rfl; exact rfl; exact rfl) | ((with_reducible apply Step.neq); exact rfl; exact rfl; exact rfl)) | (with_reducible refine AWo.nil ?_) | ((with_reducible apply AW.seq)) | ((with_reducible apply Then.n)) | ((with_reducible apply AW.regL)) | ((with_reducible apply AW.block)) | ((with_reducible apply AW.skip)) | ((with_reducible apply AW.condT); exact rfl; (focus ((simp only [decide_eq_true_eq, decide_eq_false_iff_not, Bool.not_eq_true', Bool.not_eq_false', Bool.not_true, Bool.not_false]; first | assumption | omega)))) | ((with_reducible apply AW.condF); exact rfl; (focus ((simp only [decide_eq_true_eq, decide_eq_false_iff_not, Bool.not_eq_true', Bool.not_eq_false', Bool.not_true, Bool.not_false]; first | assumption | omega))))))
      refine AW.loopT (fun n t L => ∃ i : Nat, n = (rowOf B k).size - i ∧ i ≤ (rowOf B k).size ∧ L = [] ∧ (∀ j, j < i → 48 ≤ byteAt (rowOf B k) j ∧ byteAt (rowOf B k) j ≤ 57) ∧
        t = [(0, sv), (4, .string (rowOf B k)), (28, sv), (29, .int .i64 (B.length : Nat)), (30, .int .i64 (k : Nat)), (42, .int .i64 ((rowOf B k).size : Nat)), (43, .int .i64 (i : Nat))])
        ⟨_, _, _, (Or.inl ⟨rfl, (by repeat (first | exact trivial | (refine And.intro rfl ?_)))⟩), 0, rfl, Nat.zero_le _, rfl, fun y hy => by omega, rfl⟩ ?_
      rintro n t L ⟨i, rfl, hi, rfl, hc, rfl⟩
      rcases Nat.lt_or_ge i (rowOf B k).size with hil | hig
      · by_cases h6 : byteAt (rowOf B k) i < 48
        · (repeat (first | (with_reducible refine AWo.cons ?_) | ((with_reducible refine Step.id ?_); first | ((with_reducible apply Step.gdF); exact rfl; exact rfl; (focus ((simp only [decide_eq_true_eq, decide_eq_false_iff_not, Bool.not_eq_true', Bool.not_eq_false', Bool.not_true, Bool.not_false]; first | assumption | omega)))) | ((with_reducible apply Step.move); exact rfl; exact rfl) | ((with_reducible apply Step.assign); exact rfl; exact rfl) | ((with_reducible apply Step.strIx); exact rfl; exact rfl; exact un9; (focus (omega)); exact rfl) | ((with_reducible apply Step.lss); exact rfl; exact rfl; exact rfl) | ((with_reducible apply Step.pickT); exact rfl; exact rfl; exact rfl; exact rfl; (focus ((simp only [decide_eq_true_eq, decide_eq_false_iff_not, Bool.not_eq_true', Bool.not_eq_false', Bool.not_true, Bool.not_false]; first | assumption | omega))))) | (with_reducible refine AWo.nil ?_) | ((with_reducible apply AW.seq)) | ((with_reducible apply Then.n)) | ((with_reducible apply AW.regL)) | ((with_reducible apply AW.block)) | ((with_reducible apply AW.skip)) | ((with_reducible apply AW.condT); exact rfl; (focus (first | rfl | (simp only [decide_eq_true_eq, decide_eq_false_iff_not, Bool.not_eq_true', Bool.not_eq_false', Bool.not_true, Bool.not_false]; first | assumption | omega))))))
          (refine AW.retD (l := [(2, _)]) (by repeat (first | exact trivial | (refine And.intro ⟨rfl, by (exact .bool _)⟩ ?_))) ?_; (repeat (first | refine Then.r ?_ | refine InBlk.r ?_)))
          exact ⟨_, rfl, by rw [hk, not_rows hlt (rowB_no hil (by omega))], rfl⟩
        by_cases h7 : 57 < byteAt (rowOf B k) i
        · (repeat (first | (with_reducible refine AWo.cons ?_) | ((with_reducible refine Step.id ?_); first | ((with_reducible apply Step.gdT); exact rfl; exact rfl; (focus ((simp only [decide_eq_true_eq, decide_eq_false_iff_not, Bool.not_eq_true', Bool.not_eq_false', Bool.not_true, Bool.not_false]; first | assumption | omega)))) | ((with_reducible apply Step.move); exact rfl; exact rfl) | ((with_reducible apply Step.assign); exact rfl; exact rfl) | ((with_reducible apply Step.strIx); exact rfl; exact rfl; exact un9; (focus (omega)); exact rfl) | ((with_reducible apply Step.lss); exact rfl; exact rfl; exact rfl) | ((with_reducible apply Step.gtr); exact rfl; exact rfl; exact rfl) | ((with_reducible apply Step.pickF); exact rfl; exact rfl; exact rfl; exact rfl; (focus ((simp only [decide_eq_true_eq, decide_eq_false_iff_not, Bool.not_eq_true', Bool.not_eq_false', Bool.not_true, Bool.not_false]; first | assumption | omega))))) | (with_reducible refine AWo.nil ?_) | ((with_reducible apply AW.seq)) | ((with_reducible apply Then.n)) | ((with_reducible apply AW.regL)) | ((with_reducible apply AW.block)) | ((with_reducible apply AW.skip)) | ((with_reducible apply AW.condT); exact rfl; (focus ((simp only [decide_eq_true_eq, decide_eq_false_iff_not, Bool.not_eq_true', Bool.not_eq_false', Bool.not_true, Bool.not_false]; first | assumption | omega))))))
          (refine AW.retD (l := [(2, _)]) (by repeat (first | exact trivial | (refine And.intro ⟨rfl, by (exact .bool _)⟩ ?_))) ?_; (repeat (first | refine Then.r ?_ | refine InBlk.r ?_)))
          exact ⟨_, rfl, by rw [hk, not_rows hlt (rowB_no hil (by omega))], rfl⟩
        (repeat (first | (with_reducible refine AWo.cons ?_) | ((with_reducible refine Step.id ?_); first | ((with_reducible apply Step.gdT); exact rfl; exact rfl; (focus ((simp only [decide_eq_true_eq, decide_eq_false_iff_not, Bool.not_eq_true', Bool.not_eq_false', Bool.not_true, Bool.not_false]; first | assumption | omega)))) | ((with_reducible apply Step.move); exact rfl; exact rfl) | ((with_reducible apply Step.assign); exact rfl; exact rfl) | ((with_reducible apply Step.strIx); exact rfl; exact rfl; exact un9; (focus (omega)); exact rfl) | ((with_reducible apply Step.add); exact rfl; exact rfl; (focus (omega)); exact rfl) | ((with_reducible apply Step.lss); exact rfl; exact rfl; exact rfl) | ((with_reducible apply Step.gtr); exact rfl; exact rfl; exact rfl) | ((with_reducible apply Step.pickF); exact rfl; exact rfl; exact rfl; exact rfl; (focus ((simp only [decide_eq_true_eq, decide_eq_false_iff_not, Bool.not_eq_true', Bool.not_eq_false', Bool.not_true, Bool.not_false]; first | assumption | omega))))) | (with_reducible refine AWo.nil ?_) | ((with_reducible apply AW.seq)) | ((with_reducible apply Then.n)) | ((with_reducible apply AW.regL)) | ((with_reducible apply AW.block)) | ((with_reducible apply InBlk.n)) | ((with_reducible apply AW.skip)) | ((with_reducible apply AW.condT); exact rfl; (focus ((simp only [decide_eq_true_eq, decide_eq_false_iff_not, Bool.not_eq_true', Bool.not_eq_false', Bool.not_true, Bool.not_false]; first | assumption | omega)))) | ((with_reducible apply AW.condF); exact rfl; (focus ((simp only [decide_eq_true_eq, decide_eq_false_iff_not, Bool.not_eq_true', Bool.not_eq_false', Bool.not_true, Bool.not_false]; first | assumption | omega))))))
        exact ⟨_, _, _, by omega, (Or.inl ⟨rfl, (by repeat (first | exact trivial | (refine And.intro rfl ?_)))⟩), i + 1, rfl, by omega, rfl, fun y hy => by
          rcases Nat.lt_succ_iff_lt_or_eq.1 hy with h | rfl
          · exact hc y h
          · omega, rfl⟩
      · obtain rfl : i = (rowOf B k).size := by omega
        (repeat (first | (with_reducible refine AWo.cons ?_) | ((with_reducible refine Step.id ?_); first | ((with_reducible apply Step.move); exact rfl; exact rfl) | ((with_reducible apply Step.add); exact rfl; exact rfl; (focus (omega)); exact rfl) | ((with_reducible apply Step.lss); exact rfl; exact rfl; exact rfl)) | (with_reducible refine AWo.nil ?_) | ((with_reducible apply AW.seq)) | ((with_reducible apply Then.n)) | ((with_reducible apply AW.regL)) | ((with_reducible apply AW.exit)) | ((with_reducible apply InBlk.n)) | ((with_reducible apply InBlk.hit)) | ((with_reducible apply Then.e)) | ((with_reducible apply AW.condF); exact rfl; (focus ((simp only [decide_eq_true_eq, decide_eq_false_iff_not, Bool.not_eq_true', Bool.not_eq_false', Bool.not_true, Bool.not_false]; first | assumption | omega))))))
        exact ⟨_, _, _, by omega, (Or.inl ⟨rfl, (by repeat (first | exact trivial | (refine And.intro rfl ?_)))⟩), k + 1, rfl, by omega, rfl, fun y hy => by
          rcases Nat.lt_succ_iff_lt_or_eq.1 hy with h | rfl
          · exact hr y h
          · exact rowB_yes h5 hc, rfl⟩
    · (repeat (first | (with_reducible refine AWo.cons ?_) | ((with_reducible refine Step.id ?_); first | ((with_reducible apply Step.move); exact rfl; exact rfl) | ((with_reducible apply Step.assign); exact rfl; exact rfl) | ((with_reducible apply Step.load); exact rfl; (focus (decide +kernel)); exact rfl; (focus (exact Rd.old _ (by assumption)))) | ((with_reducible apply Step.ix1); exact rfl; (focus (assumption)); exact rfl; (focus (decide +kernel)); exact rfl; (focus (omega))) | ((with_reducible apply Step.ix1 (k := 0)); exact rfl; (focus (assumption)); exact rfl; (focus (decide +kernel)); exact rfl; (focus (omega))) | ((with_reducible apply Step.lenS); exact rfl; exact un9; exact rfl) | ((with_reducible apply Step.lss); exact rfl; exact rfl; exact rfl) | ((with_reducible apply Step.neq); exact rfl; exact rfl; exact rfl)) | (with_reducible refine AWo.nil ?_) | ((with_reducible apply AW.seq)) | ((with_reducible apply Then.n)) | ((with_reducible apply AW.regL)) | ((with_reducible apply AW.block)) | ((with_reducible apply AW.skip)) | ((with_reducible apply AW.condT); exact rfl; (focus ((simp only [decide_eq_true_eq, decide_eq_false_iff_not, Bool.not_eq_true', Bool.not_eq_false', Bool.not_true, Bool.not_false]; first | assumption | omega))))))
      (refine AW.retD (l := [(2, _)]) (by repeat (first | exact trivial | (refine And.intro ⟨rfl, by (exact .bool _)⟩ ?_))) ?_; (repeat (first | refine Then.r ?_ | refine InBlk.r ?_)))
      exact ⟨_, rfl, by rw [hk, not_rows hlt (by simp [rowB, h5])], rfl⟩
  · obtain rfl : k = B.length := by omega
    (repeat (first | (with_reducible refine AWo.cons ?_) | ((with_reducible refine Step.id ?_); first | ((with_reducible apply Step.assign); exact rfl; exact rfl) | ((with_reducible apply Step.lss); exact rfl; exact rfl; exact rfl)) | (with_reducible refine AWo.nil ?_) | ((with_reducible apply AW.seq)) | ((with_reducible apply Then.n)) | ((with_reducible apply AW.regL)) | ((with_reducible apply AW.exit)) | ((with_reducible apply InBlk.hit)) | ((with_reducible apply Then.e)) | ((with_reducible apply AW.condF); exact rfl; (focus ((simp only [decide_eq_true_eq, decide_eq_false_iff_not, Bool.not_eq_true', Bool.not_eq_false', Bool.not_true, Bool.not_false]; first | assumption | omega))))))
    (refine AW.retD (l := [(2, _)]) (by repeat (first | exact trivial | (refine And.intro ⟨rfl, by (exact .bool _)⟩ ?_))) ?_; (repeat (first | refine Then.r ?_ | refine InBlk.r ?_)))
    exact ⟨_, rfl, by rw [hk, all_rows hr], rfl⟩
set_option maxRecDepth 100000 in
theorem RBoard_ok {m : AM} {sv : Value} {B : Brd} (hs : Strs m sv B) : ACall Tryd.prog 68 #[sv] m (Ret (.bool (boardB B)) m) := by
  have hV := fun T => RValid_ok (hs.old T)
  obtain ⟨A, O, sl, la, rd⟩ := hs
  refine ACall.start Tryd.func68 rfl rfl ?_
  cases hv : skinB B with
  | false =>
    rw [hv] at hV
    (repeat (first | (with_reducible refine AWo.cons ?_) | ((with_reducible refine Step.id ?_); first | ((with_reducible apply Step.gdF); exact rfl; exact rfl; (focus (rfl))) | ((with_reducible apply Step.move); exact rfl; exact rfl) | ((with_reducible apply Step.assign); exact rfl; exact rfl) | ((with_reducible apply Step.pickF); exact rfl; exact rfl; exact rfl; exact rfl; (focus (rfl))) | ((with_reducible apply Step.callR fit); exact rfl; exact Tryd.func52; exact rfl; exact rfl; exact (hV _))) | (with_reducible refine AWo.nil ?_) | ((with_reducible apply AW.seq)) | ((with_reducible apply Then.n)) | ((with_reducible apply AW.regL))))
    (refine AW.retD (l := [(2, _)]) (by repeat (first | exact trivial | (refine And.intro ⟨rfl, by (exact .bool _)⟩ ?_))) ?_; (repeat (first | refine Then.r ?_ | refine InBlk.r ?_)))
    exact ⟨_, rfl, by simp [boardB, hv], rfl⟩
  | true =>
    rw [hv] at hV
    have hvv := hv
    simp only [skinB, Bool.and_eq_true, decide_eq_true_eq] at hvv
    have r0 := rd 0 (by omega)
    by_cases h1 : B.length ≤ 16
    · (repeat (first | (with_reducible refine AWo.cons ?_) | ((with_reducible refine Step.id ?_); first | ((with_reducible apply Step.gdT); exact rfl; exact rfl; (focus (first | rfl | (simp only [decide_eq_true_eq, decide_eq_false_iff_not, Bool.not_eq_true', Bool.not_eq_false', Bool.not_true, Bool.not_false]; first | assumption | omega)))) | ((with_reducible apply Step.move); exact rfl; exact rfl) | ((with_reducible apply Step.assign); exact rfl; exact rfl) | ((with_reducible apply Step.load); exact rfl; (focus (decide +kernel)); exact rfl; (focus (exact Rd.old _ (by assumption)))) | ((with_reducible apply Step.ix1 (k := 0)); exact rfl; (focus (assumption)); exact rfl; (focus (decide +kernel)); exact rfl; (focus (omega))) | ((with_reducible apply Step.lenS); exact rfl; exact un9; exact rfl) | ((with_reducible apply Step.leq); exact rfl; exact rfl; exact rfl) | ((with_reducible apply Step.len); exact rfl; (focus (assumption)); (focus (decide +kernel)); exact rfl) | ((with_reducible apply Step.pickT); exact rfl; exact rfl; exact rfl; exact rfl; (focus (first | rfl | (simp only [decide_eq_true_eq, decide_eq_false_iff_not, Bool.not_eq_true', Bool.not_eq_false', Bool.not_true, Bool.not_false]; first | assumption | omega)))) | ((with_reducible apply Step.callR fit); exact rfl; exact Tryd.func52; exact rfl; exact rfl; exact (hV _))) | (with_reducible refine AWo.nil ?_) | ((with_reducible apply AW.seq)) | ((with_reducible apply Then.n)) | ((with_reducible apply AW.regL))))
      (refine AW.retD (l := [(2, _)]) (by repeat (first | exact trivial | (refine And.intro ⟨rfl, by (exact .bool _)⟩ ?_))) ?_; (repeat (first | refine Then.r ?_ | refine InBlk.r ?_)))
      exact ⟨_, rfl, by simp [boardB, hv, h1]; congr 1; constructor <;> intro h <;> omega, rfl⟩
    · (repeat (first | (with_reducible refine AWo.cons ?_) | ((with_reducible refine Step.id ?_); first | ((with_reducible apply Step.gdT); exact rfl; exact rfl; (focus (rfl))) | ((with_reducible apply Step.gdF); exact rfl; exact rfl; (focus ((simp only [decide_eq_true_eq, decide_eq_false_iff_not, Bool.not_eq_true', Bool.not_eq_false', Bool.not_true, Bool.not_false]; first | assumption | omega)))) | ((with_reducible apply Step.move); exact rfl; exact rfl) | ((with_reducible apply Step.assign); exact rfl; exact rfl) | ((with_reducible apply Step.leq); exact rfl; exact rfl; exact rfl) | ((with_reducible apply Step.len); exact rfl; (focus (assumption)); (focus (decide +kernel)); exact rfl) | ((with_reducible apply Step.pickT); exact rfl; exact rfl; exact rfl; exact rfl; (focus (rfl))) | ((with_reducible apply Step.pickF); exact rfl; exact rfl; exact rfl; exact rfl; (focus ((simp only [decide_eq_true_eq, decide_eq_false_iff_not, Bool.not_eq_true', Bool.not_eq_false', Bool.not_true, Bool.not_false]; first | assumption | omega)))) | ((with_reducible apply Step.callR fit); exact rfl; exact Tryd.func52; exact rfl; exact rfl; exact (hV _))) | (with_reducible refine AWo.nil ?_) | ((with_reducible apply AW.seq)) | ((with_reducible apply Then.n)) | ((with_reducible apply AW.regL))))
      (refine AW.retD (l := [(2, _)]) (by repeat (first | exact trivial | (refine And.intro ⟨rfl, by (exact .bool _)⟩ ?_))) ?_; (repeat (first | refine Then.r ?_ | refine InBlk.r ?_)))
      exact ⟨_, rfl, by simp [boardB, hv, h1], rfl⟩
theorem ze33 : zeroB Tryd.prog 33 = some #[.int .i64 0, .int .i64 0, .int .i64 0, .int .i64 0, .bool false] := by kernel_rfl
set_option maxHeartbeats 4000000 in
set_option maxRecDepth 100000 in
theorem RKinds_ok {m : AM} {kv : Value} {K : List Kd} (hk : Kds m kv K) : ACall Tryd.prog 26 #[kv] m (Ret (.bool (kindsB K)) m) := by
  obtain ⟨A, O, sl, la, rd⟩ := hk
  obtain ⟨q, c, rfl⟩ := sl.shape
  have wl : Low m.length (.slice q K.length c) := Low.of_sl sl la
  refine ACall.start Tryd.func26 rfl rfl ?_
  by_cases h1 : 12 < K.length
  · (repeat (first | (with_reducible refine AWo.cons ?_) | ((with_reducible refine Step.id ?_); first | ((with_reducible apply Step.move); exact rfl; exact rfl) | ((with_reducible apply Step.assign); exact rfl; exact rfl) | ((with_reducible apply Step.gtr); exact rfl; exact rfl; exact rfl) | ((with_reducible apply Step.len); exact rfl; (focus (assumption)); (focus (decide +kernel)); exact rfl)) | (with_reducible refine AWo.nil ?_) | ((with_reducible apply AW.seq)) | ((with_reducible apply Then.n)) | ((with_reducible apply AW.regL)) | ((with_reducible apply AW.condT); exact rfl; (focus ((simp only [decide_eq_true_eq, decide_eq_false_iff_not, Bool.not_eq_true', Bool.not_eq_false', Bool.not_true, Bool.not_false]; first | assumption | omega))))))
    (refine AW.retD (l := [(2, _)]) (by repeat (first | exact trivial | (refine And.intro ⟨rfl, by (exact .bool _)⟩ ?_))) ?_; (repeat (first | refine Then.r ?_ | refine InBlk.r ?_)))
    exact ⟨_, rfl, by simp [kindsB]; omega, rfl⟩
  (repeat (first | (with_reducible refine AWo.cons ?_) | ((with_reducible refine Step.id ?_); first | ((with_reducible apply Step.move); exact rfl; exact rfl) | ((with_reducible apply Step.assign); exact rfl; exact rfl) | ((with_reducible apply Step.gtr); exact rfl; exact rfl; exact rfl) | ((with_reducible apply Step.len); exact rfl; (focus (assumption)); (focus (decide +kernel)); exact rfl)) | (with_reducible refine AWo.nil ?_) | ((with_reducible apply AW.seq)) | ((with_reducible apply Then.n)) | ((with_reducible apply AW.regL)) | ((with_reducible apply AW.block)) | ((with_reducible apply AW.skip)) | ((with_reducible apply AW.condF); exact rfl; (focus ((simp only [decide_eq_true_eq, decide_eq_false_iff_not, Bool.not_eq_true', Bool.not_eq_false', Bool.not_true, Bool.not_false]; first | assumption | omega))))))
  refine AW.loopT (fun n t L => ∃ i : Nat, n = K.length - i ∧ i ≤ K.length ∧ L = [] ∧ (∀ j, j < i → kdB (K.getD j default) = true) ∧
    t = [(0, .slice q K.length c), (8, .slice q K.length c), (9, .int .i64 (K.length : Nat)), (10, .int .i64 (i : Nat))])
    ⟨_, _, _, (Or.inl ⟨rfl, (by repeat (first | exact trivial | (refine And.intro rfl ?_)))⟩), 0, rfl, Nat.zero_le _, rfl, fun j hj => by omega, rfl⟩ ?_
  rintro n t L ⟨i, rfl, hi, rfl, hd, rfl⟩
  rcases Nat.lt_or_ge i K.length with hlt | hge
  · have rk := rd i hlt
    cases hkd : kdB (K.getD i default) with
    | false =>
      have e := kinds_no hlt hkd
      generalize K.getD i default = k at rk hkd
      obtain ⟨kw, kh, kg, ko, kt⟩ := k
      simp only [kdB, decide_eq_false_iff_not] at hkd
      simp only [Kd.cells] at rk
      by_cases h2 : kw < 1
      · (repeat (first | (with_reducible refine AWo.cons ?_) | ((with_reducible refine Step.id ?_); first | ((with_reducible apply Step.gdF); exact rfl; exact rfl; (focus (first | rfl | (simp only [decide_eq_true_eq, decide_eq_false_iff_not, Bool.not_eq_true', Bool.not_eq_false', Bool.not_true, Bool.not_false]; first | assumption | omega)))) | ((with_reducible apply Step.move); exact rfl; exact rfl) | ((with_reducible apply Step.assign); exact rfl; exact rfl) | ((with_reducible apply Step.load); exact rfl; (focus (decide +kernel)); exact rfl; (focus (exact Rd.new rfl rfl))) | ((with_reducible apply Step.loadL (n := 5)); exact rfl; (focus (decide +kernel)); (focus (decide +kernel)); exact rfl; (focus (exact RdL.old _ (by assumption))); exact rfl; exact rfl) | ((with_reducible apply Step.ix (s := 5)); exact rfl; (focus (assumption)); exact rfl; (focus (decide +kernel)); exact rfl; (focus (omega))) | ((with_reducible apply Step.field0); exact rfl; (focus (decide +kernel)); exact rfl) | ((with_reducible apply Step.lss); exact rfl; exact rfl; exact rfl) | ((with_reducible apply Step.pickT); exact rfl; exact rfl; exact rfl; exact rfl; (focus (first | rfl | (simp only [decide_eq_true_eq, decide_eq_false_iff_not, Bool.not_eq_true', Bool.not_eq_false', Bool.not_true, Bool.not_false]; first | assumption | omega)))) | ((with_reducible apply Step.alloc 0); exact rfl; exact ze33; exact rfl; (focus (first | (simp only [List.nil_append, List.cons_append, List.set_cons_zero, List.set_cons_succ, iv_set, bv_set, iv_rep, bv_rep]; done) | (simp only [List.nil_append, List.cons_append, List.set_cons_zero, List.set_cons_succ, iv_set, bv_set, iv_rep, bv_rep]; rfl) | rfl))) | ((with_reducible apply Step.storeA (k := 0) (n := 5)); exact rfl; exact rfl; exact rfl; exact rfl; (focus (decide +kernel)); exact rfl; (focus (kernel_rfl)); exact rfl; (focus (first | (simp only [List.nil_append, List.cons_append, List.set_cons_zero, List.set_cons_succ, iv_set, bv_set, iv_rep, bv_rep]; done) | (simp only [List.nil_append, List.cons_append, List.set_cons_zero, List.set_cons_succ, iv_set, bv_set, iv_rep, bv_rep]; rfl) | rfl)))) | (with_reducible refine AWo.nil ?_) | ((with_reducible apply AW.seq)) | ((with_reducible apply Then.n)) | ((with_reducible apply AW.regL)) | ((with_reducible apply AW.block)) | ((with_reducible apply AW.skip)) | ((with_reducible apply AW.condT); exact rfl; (focus (first | rfl | (simp only [decide_eq_true_eq, decide_eq_false_iff_not, Bool.not_eq_true', Bool.not_eq_false', Bool.not_true, Bool.not_false]; first | assumption | omega))))))
        (refine AW.retD (l := [(2, _)]) (by repeat (first | exact trivial | (refine And.intro ⟨rfl, by (exact .bool _)⟩ ?_))) ?_; (repeat (first | refine Then.r ?_ | refine InBlk.r ?_)))
        exact ⟨_, rfl, by rw [e], rfl⟩
      by_cases h3 : 16 < kw
      · (repeat (first | (with_reducible refine AWo.cons ?_) | ((with_reducible refine Step.id ?_); first | ((with_reducible apply Step.gdT); exact rfl; exact rfl; (focus ((simp only [decide_eq_true_eq, decide_eq_false_iff_not, Bool.not_eq_true', Bool.not_eq_false', Bool.not_true, Bool.not_false]; first | assumption | omega)))) | ((with_reducible apply Step.gdF); exact rfl; exact rfl; (focus (first | rfl | (simp only [decide_eq_true_eq, decide_eq_false_iff_not, Bool.not_eq_true', Bool.not_eq_false', Bool.not_true, Bool.not_false]; first | assumption | omega)))) | ((with_reducible apply Step.move); exact rfl; exact rfl) | ((with_reducible apply Step.assign); exact rfl; exact rfl) | ((with_reducible apply Step.load); exact rfl; (focus (decide +kernel)); exact rfl; (focus (exact Rd.new rfl rfl))) | ((with_reducible apply Step.loadL (n := 5)); exact rfl; (focus (decide +kernel)); (focus (decide +kernel)); exact rfl; (focus (exact RdL.old _ (by assumption))); exact rfl; exact rfl) | ((with_reducible apply Step.ix (s := 5)); exact rfl; (focus (assumption)); exact rfl; (focus (decide +kernel)); exact rfl; (focus (omega))) | ((with_reducible apply Step.field0); exact rfl; (focus (decide +kernel)); exact rfl) | ((with_reducible apply Step.lss); exact rfl; exact rfl; exact rfl) | ((with_reducible apply Step.gtr); exact rfl; exact rfl; exact rfl) | ((with_reducible apply Step.pickT); exact rfl; exact rfl; exact rfl; exact rfl; (focus (first | rfl | (simp only [decide_eq_true_eq, decide_eq_false_iff_not, Bool.not_eq_true', Bool.not_eq_false', Bool.not_true, Bool.not_false]; first | assumption | omega)))) | ((with_reducible apply Step.pickF); exact rfl; exact rfl; exact rfl; exact rfl; (focus ((simp only [decide_eq_true_eq, decide_eq_false_iff_not, Bool.not_eq_true', Bool.not_eq_false', Bool.not_true, Bool.not_false]; first | assumption | omega)))) | ((with_reducible apply Step.alloc 0); exact rfl; exact ze33; exact rfl; (focus (first | (simp only [List.nil_append, List.cons_append, List.set_cons_zero, List.set_cons_succ, iv_set, bv_set, iv_rep, bv_rep]; done) | (simp only [List.nil_append, List.cons_append, List.set_cons_zero, List.set_cons_succ, iv_set, bv_set, iv_rep, bv_rep]; rfl) | rfl))) | ((with_reducible apply Step.storeA (k := 0) (n := 5)); exact rfl; exact rfl; exact rfl; exact rfl; (focus (decide +kernel)); exact rfl; (focus (kernel_rfl)); exact rfl; (focus (first | (simp only [List.nil_append, List.cons_append, List.set_cons_zero, List.set_cons_succ, iv_set, bv_set, iv_rep, bv_rep]; done) | (simp only [List.nil_append, List.cons_append, List.set_cons_zero, List.set_cons_succ, iv_set, bv_set, iv_rep, bv_rep]; rfl) | rfl)))) | (with_reducible refine AWo.nil ?_) | ((with_reducible apply AW.seq)) | ((with_reducible apply Then.n)) | ((with_reducible apply AW.regL)) | ((with_reducible apply AW.block)) | ((with_reducible apply AW.skip)) | ((with_reducible apply AW.condT); exact rfl; (focus (first | rfl | (simp only [decide_eq_true_eq, decide_eq_false_iff_not, Bool.not_eq_true', Bool.not_eq_false', Bool.not_true, Bool.not_false]; first | assumption | omega))))))
        (refine AW.retD (l := [(2, _)]) (by repeat (first | exact trivial | (refine And.intro ⟨rfl, by (exact .bool _)⟩ ?_))) ?_; (repeat (first | refine Then.r ?_ | refine InBlk.r ?_)))
        exact ⟨_, rfl, by rw [e], rfl⟩
      by_cases h4 : kh < 1
      · (repeat (first | (with_reducible refine AWo.cons ?_) | ((with_reducible refine Step.id ?_); first | ((with_reducible apply Step.gdT); exact rfl; exact rfl; (focus ((simp only [decide_eq_true_eq, decide_eq_false_iff_not, Bool.not_eq_true', Bool.not_eq_false', Bool.not_true, Bool.not_false]; first | assumption | omega)))) | ((with_reducible apply Step.gdF); exact rfl; exact rfl; (focus (first | rfl | (simp only [decide_eq_true_eq, decide_eq_false_iff_not, Bool.not_eq_true', Bool.not_eq_false', Bool.not_true, Bool.not_false]; first | assumption | omega)))) | ((with_reducible apply Step.move); exact rfl; exact rfl) | ((with_reducible apply Step.assign); exact rfl; exact rfl) | ((with_reducible apply Step.load); exact rfl; (focus (decide +kernel)); exact rfl; (focus (exact Rd.new rfl rfl))) | ((with_reducible apply Step.loadL (n := 5)); exact rfl; (focus (decide +kernel)); (focus (decide +kernel)); exact rfl; (focus (exact RdL.old _ (by assumption))); exact rfl; exact rfl) | ((with_reducible apply Step.ix (s := 5)); exact rfl; (focus (assumption)); exact rfl; (focus (decide +kernel)); exact rfl; (focus (omega))) | ((with_reducible apply Step.field0); exact rfl; (focus (decide +kernel)); exact rfl) | ((with_reducible apply Step.field (k := 1)); exact rfl; (focus (decide +kernel)); exact rfl) | ((with_reducible apply Step.lss); exact rfl; exact rfl; exact rfl) | ((with_reducible apply Step.gtr); exact rfl; exact rfl; exact rfl) | ((with_reducible apply Step.pickT); exact rfl; exact rfl; exact rfl; exact rfl; (focus (first | rfl | (simp only [decide_eq_true_eq, decide_eq_false_iff_not, Bool.not_eq_true', Bool.not_eq_false', Bool.not_true, Bool.not_false]; first | assumption | omega)))) | ((with_reducible apply Step.pickF); exact rfl; exact rfl; exact rfl; exact rfl; (focus ((simp only [decide_eq_true_eq, decide_eq_false_iff_not, Bool.not_eq_true', Bool.not_eq_false', Bool.not_true, Bool.not_false]; first | assumption | omega)))) | ((with_reducible apply Step.alloc 0); exact rfl; exact ze33; exact rfl; (focus (first | (simp only [List.nil_append, List.cons_append, List.set_cons_zero, List.set_cons_succ, iv_set, bv_set, iv_rep, bv_rep]; done) | (simp only [List.nil_append, List.cons_append, List.set_cons_zero, List.set_cons_succ, iv_set, bv_set, iv_rep, bv_rep]; rfl) | rfl))) | ((with_reducible apply Step.storeA (k := 0) (n := 5)); exact rfl; exact rfl; exact rfl; exact rfl; (focus (decide +kernel)); exact rfl; (focus (kernel_rfl)); exact rfl; (focus (first | (simp only [List.nil_append, List.cons_append, List.set_cons_zero, List.set_cons_succ, iv_set, bv_set, iv_rep, bv_rep]; done) | (simp only [List.nil_append, List.cons_append, List.set_cons_zero, List.set_cons_succ, iv_set, bv_set, iv_rep, bv_rep]; rfl) | rfl)))) | (with_reducible refine AWo.nil ?_) | ((with_reducible apply AW.seq)) | ((with_reducible apply Then.n)) | ((with_reducible apply AW.regL)) | ((with_reducible apply AW.block)) | ((with_reducible apply AW.skip)) | ((with_reducible apply AW.condT); exact rfl; (focus (first | rfl | (simp only [decide_eq_true_eq, decide_eq_false_iff_not, Bool.not_eq_true', Bool.not_eq_false', Bool.not_true, Bool.not_false]; first | assumption | omega))))))
        (refine AW.retD (l := [(2, _)]) (by repeat (first | exact trivial | (refine And.intro ⟨rfl, by (exact .bool _)⟩ ?_))) ?_; (repeat (first | refine Then.r ?_ | refine InBlk.r ?_)))
        exact ⟨_, rfl, by rw [e], rfl⟩
      by_cases h5 : 16 < kh
      · (repeat (first | (with_reducible refine AWo.cons ?_) | ((with_reducible refine Step.id ?_); first | ((with_reducible apply Step.gdT); exact rfl; exact rfl; (focus ((simp only [decide_eq_true_eq, decide_eq_false_iff_not, Bool.not_eq_true', Bool.not_eq_false', Bool.not_true, Bool.not_false]; first | assumption | omega)))) | ((with_reducible apply Step.gdF); exact rfl; exact rfl; (focus (first | rfl | (simp only [decide_eq_true_eq, decide_eq_false_iff_not, Bool.not_eq_true', Bool.not_eq_false', Bool.not_true, Bool.not_false]; first | assumption | omega)))) | ((with_reducible apply Step.move); exact rfl; exact rfl) | ((with_reducible apply Step.assign); exact rfl; exact rfl) | ((with_reducible apply Step.load); exact rfl; (focus (decide +kernel)); exact rfl; (focus (exact Rd.new rfl rfl))) | ((with_reducible apply Step.loadL (n := 5)); exact rfl; (focus (decide +kernel)); (focus (decide +kernel)); exact rfl; (focus (exact RdL.old _ (by assumption))); exact rfl; exact rfl) | ((with_reducible apply Step.ix (s := 5)); exact rfl; (focus (assumption)); exact rfl; (focus (decide +kernel)); exact rfl; (focus (omega))) | ((with_reducible apply Step.field0); exact rfl; (focus (decide +kernel)); exact rfl) | ((with_reducible apply Step.field (k := 1)); exact rfl; (focus (decide +kernel)); exact rfl) | ((with_reducible apply Step.lss); exact rfl; exact rfl; exact rfl) | ((with_reducible apply Step.gtr); exact rfl; exact rfl; exact rfl) | ((with_reducible apply Step.pickT); exact rfl; exact rfl; exact rfl; exact rfl; (focus (first | rfl | (simp only [decide_eq_true_eq, decide_eq_false_iff_not, Bool.not_eq_true', Bool.not_eq_false', Bool.not_true, Bool.not_false]; first | assumption | omega)))) | ((with_reducible apply Step.pickF); exact rfl; exact rfl; exact rfl; exact rfl; (focus ((simp only [decide_eq_true_eq, decide_eq_false_iff_not, Bool.not_eq_true', Bool.not_eq_false', Bool.not_true, Bool.not_false]; first | assumption | omega)))) | ((with_reducible apply Step.alloc 0); exact rfl; exact ze33; exact rfl; (focus (first | (simp only [List.nil_append, List.cons_append, List.set_cons_zero, List.set_cons_succ, iv_set, bv_set, iv_rep, bv_rep]; done) | (simp only [List.nil_append, List.cons_append, List.set_cons_zero, List.set_cons_succ, iv_set, bv_set, iv_rep, bv_rep]; rfl) | rfl))) | ((with_reducible apply Step.storeA (k := 0) (n := 5)); exact rfl; exact rfl; exact rfl; exact rfl; (focus (decide +kernel)); exact rfl; (focus (kernel_rfl)); exact rfl; (focus (first | (simp only [List.nil_append, List.cons_append, List.set_cons_zero, List.set_cons_succ, iv_set, bv_set, iv_rep, bv_rep]; done) | (simp only [List.nil_append, List.cons_append, List.set_cons_zero, List.set_cons_succ, iv_set, bv_set, iv_rep, bv_rep]; rfl) | rfl)))) | (with_reducible refine AWo.nil ?_) | ((with_reducible apply AW.seq)) | ((with_reducible apply Then.n)) | ((with_reducible apply AW.regL)) | ((with_reducible apply AW.block)) | ((with_reducible apply AW.skip)) | ((with_reducible apply AW.condT); exact rfl; (focus (first | rfl | (simp only [decide_eq_true_eq, decide_eq_false_iff_not, Bool.not_eq_true', Bool.not_eq_false', Bool.not_true, Bool.not_false]; first | assumption | omega))))))
        (refine AW.retD (l := [(2, _)]) (by repeat (first | exact trivial | (refine And.intro ⟨rfl, by (exact .bool _)⟩ ?_))) ?_; (repeat (first | refine Then.r ?_ | refine InBlk.r ?_)))
        exact ⟨_, rfl, by rw [e], rfl⟩
      by_cases h6 : kg < 1
      · (repeat (first | (with_reducible refine AWo.cons ?_) | ((with_reducible refine Step.id ?_); first | ((with_reducible apply Step.gdT); exact rfl; exact rfl; (focus ((simp only [decide_eq_true_eq, decide_eq_false_iff_not, Bool.not_eq_true', Bool.not_eq_false', Bool.not_true, Bool.not_false]; first | assumption | omega)))) | ((with_reducible apply Step.gdF); exact rfl; exact rfl; (focus (first | rfl | (simp only [decide_eq_true_eq, decide_eq_false_iff_not, Bool.not_eq_true', Bool.not_eq_false', Bool.not_true, Bool.not_false]; first | assumption | omega)))) | ((with_reducible apply Step.move); exact rfl; exact rfl) | ((with_reducible apply Step.assign); exact rfl; exact rfl) | ((with_reducible apply Step.load); exact rfl; (focus (decide +kernel)); exact rfl; (focus (exact Rd.new rfl rfl))) | ((with_reducible apply Step.loadL (n := 5)); exact rfl; (focus (decide +kernel)); (focus (decide +kernel)); exact rfl; (focus (exact RdL.old _ (by assumption))); exact rfl; exact rfl) | ((with_reducible apply Step.ix (s := 5)); exact rfl; (focus (assumption)); exact rfl; (focus (decide +kernel)); exact rfl; (focus (omega))) | ((with_reducible apply Step.field0); exact rfl; (focus (decide +kernel)); exact rfl) | ((with_reducible apply Step.field (k := 1)); exact rfl; (focus (decide +kernel)); exact rfl) | ((with_reducible apply Step.field (k := 2)); exact rfl; (focus (decide +kernel)); exact rfl) | ((with_reducible apply Step.lss); exact rfl; exact rfl; exact rfl) | ((with_reducible apply Step.gtr); exact rfl; exact rfl; exact rfl) | ((with_reducible apply Step.pickT); exact rfl; exact rfl; exact rfl; exact rfl; (focus (first | rfl | (simp only [decide_eq_true_eq, decide_eq_false_iff_not, Bool.not_eq_true', Bool.not_eq_false', Bool.not_true, Bool.not_false]; first | assumption | omega)))) | ((with_reducible apply Step.pickF); exact rfl; exact rfl; exact rfl; exact rfl; (focus ((simp only [decide_eq_true_eq, decide_eq_false_iff_not, Bool.not_eq_true', Bool.not_eq_false', Bool.not_true, Bool.not_false]; first | assumption | omega)))) | ((with_reducible apply Step.alloc 0); exact rfl; exact ze33; exact rfl; (focus (first | (simp only [List.nil_append, List.cons_append, List.set_cons_zero, List.set_cons_succ, iv_set, bv_set, iv_rep, bv_rep]; done) | (simp only [List.nil_append, List.cons_append, List.set_cons_zero, List.set_cons_succ, iv_set, bv_set, iv_rep, bv_rep]; rfl) | rfl))) | ((with_reducible apply Step.storeA (k := 0) (n := 5)); exact rfl; exact rfl; exact rfl; exact rfl; (focus (decide +kernel)); exact rfl; (focus (kernel_rfl)); exact rfl; (focus (first | (simp only [List.nil_append, List.cons_append, List.set_cons_zero, List.set_cons_succ, iv_set, bv_set, iv_rep, bv_rep]; done) | (simp only [List.nil_append, List.cons_append, List.set_cons_zero, List.set_cons_succ, iv_set, bv_set, iv_rep, bv_rep]; rfl) | rfl)))) | (with_reducible refine AWo.nil ?_) | ((with_reducible apply AW.seq)) | ((with_reducible apply Then.n)) | ((with_reducible apply AW.regL)) | ((with_reducible apply AW.block)) | ((with_reducible apply AW.skip)) | ((with_reducible apply AW.condT); exact rfl; (focus (first | rfl | (simp only [decide_eq_true_eq, decide_eq_false_iff_not, Bool.not_eq_true', Bool.not_eq_false', Bool.not_true, Bool.not_false]; first | assumption | omega))))))
        (refine AW.retD (l := [(2, _)]) (by repeat (first | exact trivial | (refine And.intro ⟨rfl, by (exact .bool _)⟩ ?_))) ?_; (repeat (first | refine Then.r ?_ | refine InBlk.r ?_)))
        exact ⟨_, rfl, by rw [e], rfl⟩
      by_cases h7 : 9 < kg
      · (repeat (first | (with_reducible refine AWo.cons ?_) | ((with_reducible refine Step.id ?_); first | ((with_reducible apply Step.gdT); exact rfl; exact rfl; (focus ((simp only [decide_eq_true_eq, decide_eq_false_iff_not, Bool.not_eq_true', Bool.not_eq_false', Bool.not_true, Bool.not_false]; first | assumption | omega)))) | ((with_reducible apply Step.gdF); exact rfl; exact rfl; (focus (first | rfl | (simp only [decide_eq_true_eq, decide_eq_false_iff_not, Bool.not_eq_true', Bool.not_eq_false', Bool.not_true, Bool.not_false]; first | assumption | omega)))) | ((with_reducible apply Step.move); exact rfl; exact rfl) | ((with_reducible apply Step.assign); exact rfl; exact rfl) | ((with_reducible apply Step.load); exact rfl; (focus (decide +kernel)); exact rfl; (focus (exact Rd.new rfl rfl))) | ((with_reducible apply Step.loadL (n := 5)); exact rfl; (focus (decide +kernel)); (focus (decide +kernel)); exact rfl; (focus (exact RdL.old _ (by assumption))); exact rfl; exact rfl) | ((with_reducible apply Step.ix (s := 5)); exact rfl; (focus (assumption)); exact rfl; (focus (decide +kernel)); exact rfl; (focus (omega))) | ((with_reducible apply Step.field0); exact rfl; (focus (decide +kernel)); exact rfl) | ((with_reducible apply Step.field (k := 1)); exact rfl; (focus (decide +kernel)); exact rfl) | ((with_reducible apply Step.field (k := 2)); exact rfl; (focus (decide +kernel)); exact rfl) | ((with_reducible apply Step.lss); exact rfl; exact rfl; exact rfl) | ((with_reducible apply Step.gtr); exact rfl; exact rfl; exact rfl) | ((with_reducible apply Step.pickT); exact rfl; exact rfl; exact rfl; exact rfl; (focus (first | rfl | (simp only [decide_eq_true_eq, decide_eq_false_iff_not, Bool.not_eq_true', Bool.not_eq_false', Bool.not_true, Bool.not_false]; first | assumption | omega)))) | ((with_reducible apply Step.pickF); exact rfl; exact rfl; exact rfl; exact rfl; (focus ((simp only [decide_eq_true_eq, decide_eq_false_iff_not, Bool.not_eq_true', Bool.not_eq_false', Bool.not_true, Bool.not_false]; first | assumption | omega)))) | ((with_reducible apply Step.alloc 0); exact rfl; exact ze33; exact rfl; (focus (first | (simp only [List.nil_append, List.cons_append, List.set_cons_zero, List.set_cons_succ, iv_set, bv_set, iv_rep, bv_rep]; done) | (simp only [List.nil_append, List.cons_append, List.set_cons_zero, List.set_cons_succ, iv_set, bv_set, iv_rep, bv_rep]; rfl) | rfl))) | ((with_reducible apply Step.storeA (k := 0) (n := 5)); exact rfl; exact rfl; exact rfl; exact rfl; (focus (decide +kernel)); exact rfl; (focus (kernel_rfl)); exact rfl; (focus (first | (simp only [List.nil_append, List.cons_append, List.set_cons_zero, List.set_cons_succ, iv_set, bv_set, iv_rep, bv_rep]; done) | (simp only [List.nil_append, List.cons_append, List.set_cons_zero, List.set_cons_succ, iv_set, bv_set, iv_rep, bv_rep]; rfl) | rfl)))) | (with_reducible refine AWo.nil ?_) | ((with_reducible apply AW.seq)) | ((with_reducible apply Then.n)) | ((with_reducible apply AW.regL)) | ((with_reducible apply AW.block)) | ((with_reducible apply AW.skip)) | ((with_reducible apply AW.condT); exact rfl; (focus (first | rfl | (simp only [decide_eq_true_eq, decide_eq_false_iff_not, Bool.not_eq_true', Bool.not_eq_false', Bool.not_true, Bool.not_false]; first | assumption | omega))))))
        (refine AW.retD (l := [(2, _)]) (by repeat (first | exact trivial | (refine And.intro ⟨rfl, by (exact .bool _)⟩ ?_))) ?_; (repeat (first | refine Then.r ?_ | refine InBlk.r ?_)))
        exact ⟨_, rfl, by rw [e], rfl⟩
      by_cases h8 : ko < 1
      · (repeat (first | (with_reducible refine AWo.cons ?_) | ((with_reducible refine Step.id ?_); first | ((with_reducible apply Step.gdT); exact rfl; exact rfl; (focus ((simp only [decide_eq_true_eq, decide_eq_false_iff_not, Bool.not_eq_true', Bool.not_eq_false', Bool.not_true, Bool.not_false]; first | assumption | omega)))) | ((with_reducible apply Step.gdF); exact rfl; exact rfl; (focus ((simp only [decide_eq_true_eq, decide_eq_false_iff_not, Bool.not_eq_true', Bool.not_eq_false', Bool.not_true, Bool.not_false]; first | assumption | omega)))) | ((with_reducible apply Step.move); exact rfl; exact rfl) | ((with_reducible apply Step.assign); exact rfl; exact rfl) | ((with_reducible apply Step.load); exact rfl; (focus (decide +kernel)); exact rfl; (focus (exact Rd.new rfl rfl))) | ((with_reducible apply Step.loadL (n := 5)); exact rfl; (focus (decide +kernel)); (focus (decide +kernel)); exact rfl; (focus (exact RdL.old _ (by assumption))); exact rfl; exact rfl) | ((with_reducible apply Step.ix (s := 5)); exact rfl; (focus (assumption)); exact rfl; (focus (decide +kernel)); exact rfl; (focus (omega))) | ((with_reducible apply Step.field0); exact rfl; (focus (decide +kernel)); exact rfl) | ((with_reducible apply Step.field (k := 1)); exact rfl; (focus (decide +kernel)); exact rfl) | ((with_reducible apply Step.field (k := 2)); exact rfl; (focus (decide +kernel)); exact rfl) | ((with_reducible apply Step.field (k := 3)); exact rfl; (focus (decide +kernel)); exact rfl) | ((with_reducible apply Step.lss); exact rfl; exact rfl; exact rfl) | ((with_reducible apply Step.gtr); exact rfl; exact rfl; exact rfl) | ((with_reducible apply Step.pickT); exact rfl; exact rfl; exact rfl; exact rfl; (focus ((simp only [decide_eq_true_eq, decide_eq_false_iff_not, Bool.not_eq_true', Bool.not_eq_false', Bool.not_true, Bool.not_false]; first | assumption | omega)))) | ((with_reducible apply Step.pickF); exact rfl; exact rfl; exact rfl; exact rfl; (focus ((simp only [decide_eq_true_eq, decide_eq_false_iff_not, Bool.not_eq_true', Bool.not_eq_false', Bool.not_true, Bool.not_false]; first | assumption | omega)))) | ((with_reducible apply Step.alloc 0); exact rfl; exact ze33; exact rfl; (focus (first | (simp only [List.nil_append, List.cons_append, List.set_cons_zero, List.set_cons_succ, iv_set, bv_set, iv_rep, bv_rep]; done) | (simp only [List.nil_append, List.cons_append, List.set_cons_zero, List.set_cons_succ, iv_set, bv_set, iv_rep, bv_rep]; rfl) | rfl))) | ((with_reducible apply Step.storeA (k := 0) (n := 5)); exact rfl; exact rfl; exact rfl; exact rfl; (focus (decide +kernel)); exact rfl; (focus (kernel_rfl)); exact rfl; (focus (first | (simp only [List.nil_append, List.cons_append, List.set_cons_zero, List.set_cons_succ, iv_set, bv_set, iv_rep, bv_rep]; done) | (simp only [List.nil_append, List.cons_append, List.set_cons_zero, List.set_cons_succ, iv_set, bv_set, iv_rep, bv_rep]; rfl) | rfl)))) | (with_reducible refine AWo.nil ?_) | ((with_reducible apply AW.seq)) | ((with_reducible apply Then.n)) | ((with_reducible apply AW.regL)) | ((with_reducible apply AW.block)) | ((with_reducible apply AW.skip)) | ((with_reducible apply AW.condT); exact rfl; (focus (first | rfl | (simp only [decide_eq_true_eq, decide_eq_false_iff_not, Bool.not_eq_true', Bool.not_eq_false', Bool.not_true, Bool.not_false]; first | assumption | omega))))))
        (refine AW.retD (l := [(2, _)]) (by repeat (first | exact trivial | (refine And.intro ⟨rfl, by (exact .bool _)⟩ ?_))) ?_; (repeat (first | refine Then.r ?_ | refine InBlk.r ?_)))
        exact ⟨_, rfl, by rw [e], rfl⟩
      have h9 : 1000000 < ko := by omega
      (repeat (first | (with_reducible refine AWo.cons ?_) | ((with_reducible refine Step.id ?_); first | ((with_reducible apply Step.gdT); exact rfl; exact rfl; (focus ((simp only [decide_eq_true_eq, decide_eq_false_iff_not, Bool.not_eq_true', Bool.not_eq_false', Bool.not_true, Bool.not_false]; first | assumption | omega)))) | ((with_reducible apply Step.move); exact rfl; exact rfl) | ((with_reducible apply Step.assign); exact rfl; exact rfl) | ((with_reducible apply Step.load); exact rfl; (focus (decide +kernel)); exact rfl; (focus (exact Rd.new rfl rfl))) | ((with_reducible apply Step.loadL (n := 5)); exact rfl; (focus (decide +kernel)); (focus (decide +kernel)); exact rfl; (focus (exact RdL.old _ (by assumption))); exact rfl; exact rfl) | ((with_reducible apply Step.ix (s := 5)); exact rfl; (focus (assumption)); exact rfl; (focus (decide +kernel)); exact rfl; (focus (omega))) | ((with_reducible apply Step.field0); exact rfl; (focus (decide +kernel)); exact rfl) | ((with_reducible apply Step.field (k := 1)); exact rfl; (focus (decide +kernel)); exact rfl) | ((with_reducible apply Step.field (k := 2)); exact rfl; (focus (decide +kernel)); exact rfl) | ((with_reducible apply Step.field (k := 3)); exact rfl; (focus (decide +kernel)); exact rfl) | ((with_reducible apply Step.lss); exact rfl; exact rfl; exact rfl) | ((with_reducible apply Step.gtr); exact rfl; exact rfl; exact rfl) | ((with_reducible apply Step.pickF); exact rfl; exact rfl; exact rfl; exact rfl; (focus ((simp only [decide_eq_true_eq, decide_eq_false_iff_not, Bool.not_eq_true', Bool.not_eq_false', Bool.not_true, Bool.not_false]; first | assumption | omega)))) | ((with_reducible apply Step.alloc 0); exact rfl; exact ze33; exact rfl; (focus (first | (simp only [List.nil_append, List.cons_append, List.set_cons_zero, List.set_cons_succ, iv_set, bv_set, iv_rep, bv_rep]; done) | (simp only [List.nil_append, List.cons_append, List.set_cons_zero, List.set_cons_succ, iv_set, bv_set, iv_rep, bv_rep]; rfl) | rfl))) | ((with_reducible apply Step.storeA (k := 0) (n := 5)); exact rfl; exact rfl; exact rfl; exact rfl; (focus (decide +kernel)); exact rfl; (focus (kernel_rfl)); exact rfl; (focus (first | (simp only [List.nil_append, List.cons_append, List.set_cons_zero, List.set_cons_succ, iv_set, bv_set, iv_rep, bv_rep]; done) | (simp only [List.nil_append, List.cons_append, List.set_cons_zero, List.set_cons_succ, iv_set, bv_set, iv_rep, bv_rep]; rfl) | rfl)))) | (with_reducible refine AWo.nil ?_) | ((with_reducible apply AW.seq)) | ((with_reducible apply Then.n)) | ((with_reducible apply AW.regL)) | ((with_reducible apply AW.block)) | ((with_reducible apply AW.skip)) | ((with_reducible apply AW.condT); exact rfl; (focus ((simp only [decide_eq_true_eq, decide_eq_false_iff_not, Bool.not_eq_true', Bool.not_eq_false', Bool.not_true, Bool.not_false]; first | assumption | omega))))))
      (refine AW.retD (l := [(2, _)]) (by repeat (first | exact trivial | (refine And.intro ⟨rfl, by (exact .bool _)⟩ ?_))) ?_; (repeat (first | refine Then.r ?_ | refine InBlk.r ?_)))
      exact ⟨_, rfl, by rw [e], rfl⟩
    | true =>
      have hkk := kdB_in hkd
      have hd' : ∀ j, j < i + 1 → kdB (K.getD j default) = true := fun j hj => by
        rcases Nat.lt_succ_iff_lt_or_eq.1 hj with h | rfl
        · exact hd j h
        · exact hkd
      generalize K.getD i default = k at rk hkk
      obtain ⟨kw, kh, kg, ko, kt⟩ := k
      simp only at hkk
      simp only [Kd.cells] at rk
      (repeat (first | (with_reducible refine AWo.cons ?_) | ((with_reducible refine Step.id ?_); first | ((with_reducible apply Step.gdT); exact rfl; exact rfl; (focus ((simp only [decide_eq_true_eq, decide_eq_false_iff_not, Bool.not_eq_true', Bool.not_eq_false', Bool.not_true, Bool.not_false]; first | assumption | omega)))) | ((with_reducible apply Step.move); exact rfl; exact rfl) | ((with_reducible apply Step.load); exact rfl; (focus (decide +kernel)); exact rfl; (focus (exact Rd.new rfl rfl))) | ((with_reducible apply Step.loadL (n := 5)); exact rfl; (focus (decide +kernel)); (focus (decide +kernel)); exact rfl; (focus (exact RdL.old _ (by assumption))); exact rfl; exact rfl) | ((with_reducible apply Step.ix (s := 5)); exact rfl; (focus (assumption)); exact rfl; (focus (decide +kernel)); exact rfl; (focus (omega))) | ((with_reducible apply Step.field0); exact rfl; (focus (decide +kernel)); exact rfl) | ((with_reducible apply Step.field (k := 1)); exact rfl; (focus (decide +kernel)); exact rfl) | ((with_reducible apply Step.field (k := 2)); exact rfl; (focus (decide +kernel)); exact rfl) | ((with_reducible apply Step.field (k := 3)); exact rfl; (focus (decide +kernel)); exact rfl) | ((with_reducible apply Step.add); exact rfl; exact rfl; (focus (omega)); exact rfl) | ((with_reducible apply Step.lss); exact rfl; exact rfl; exact rfl) | ((with_reducible apply Step.gtr); exact rfl; exact rfl; exact rfl) | ((with_reducible apply Step.pickF); exact rfl; exact rfl; exact rfl; exact rfl; (focus ((simp only [decide_eq_true_eq, decide_eq_false_iff_not, Bool.not_eq_true', Bool.not_eq_false', Bool.not_true, Bool.not_false]; first | assumption | omega)))) | ((with_reducible apply Step.alloc 0); exact rfl; exact ze33; exact rfl; (focus (first | (simp only [List.nil_append, List.cons_append, List.set_cons_zero, List.set_cons_succ, iv_set, bv_set, iv_rep, bv_rep]; done) | (simp only [List.nil_append, List.cons_append, List.set_cons_zero, List.set_cons_succ, iv_set, bv_set, iv_rep, bv_rep]; rfl) | rfl))) | ((with_reducible apply Step.storeA (k := 0) (n := 5)); exact rfl; exact rfl; exact rfl; exact rfl; (focus (decide +kernel)); exact rfl; (focus (kernel_rfl)); exact rfl; (focus (first | (simp only [List.nil_append, List.cons_append, List.set_cons_zero, List.set_cons_succ, iv_set, bv_set, iv_rep, bv_rep]; done) | (simp only [List.nil_append, List.cons_append, List.set_cons_zero, List.set_cons_succ, iv_set, bv_set, iv_rep, bv_rep]; rfl) | rfl)))) | (with_reducible refine AWo.nil ?_) | ((with_reducible apply AW.seq)) | ((with_reducible apply Then.n)) | ((with_reducible apply AW.regL)) | ((with_reducible apply AW.block)) | ((with_reducible apply InBlk.n)) | ((with_reducible apply AW.skip)) | ((with_reducible apply AW.condT); exact rfl; (focus ((simp only [decide_eq_true_eq, decide_eq_false_iff_not, Bool.not_eq_true', Bool.not_eq_false', Bool.not_true, Bool.not_false]; first | assumption | omega)))) | ((with_reducible apply AW.condF); exact rfl; (focus ((simp only [decide_eq_true_eq, decide_eq_false_iff_not, Bool.not_eq_true', Bool.not_eq_false', Bool.not_true, Bool.not_false]; first | assumption | omega))))))
      exact ⟨_, _, [], by omega, (Back.trim rfl rfl (by repeat (exact CellsOk.nil)) (by repeat (first | exact trivial | (refine And.intro ⟨rfl, by (first | exact Low.rid (by assumption) (by simp) | exact .int _ _)⟩ ?_)))), i + 1, rfl, by omega, rfl, hd', rfl⟩
  · obtain rfl : i = K.length := by omega
    (repeat (first | (with_reducible refine AWo.cons ?_) | ((with_reducible refine Step.id ?_); first | ((with_reducible apply Step.assign); exact rfl; exact rfl) | ((with_reducible apply Step.lss); exact rfl; exact rfl; exact rfl)) | (with_reducible refine AWo.nil ?_) | ((with_reducible apply AW.seq)) | ((with_reducible apply Then.n)) | ((with_reducible apply AW.regL)) | ((with_reducible apply AW.exit)) | ((with_reducible apply InBlk.hit)) | ((with_reducible apply Then.e)) | ((with_reducible apply AW.condF); exact rfl; (focus ((simp only [decide_eq_true_eq, decide_eq_false_iff_not, Bool.not_eq_true', Bool.not_eq_false', Bool.not_true, Bool.not_false]; first | assumption | omega))))))
    (refine AW.retD (l := [(2, _)]) (by repeat (first | exact trivial | (refine And.intro ⟨rfl, by (exact .bool _)⟩ ?_))) ?_; (repeat (first | refine Then.r ?_ | refine InBlk.r ?_)))
    exact ⟨_, rfl, by rw [kinds_all (by omega) hd], rfl⟩
set_option maxRecDepth 100000 in
theorem RGood_ok {m : AM} {sv kv : Value} {B : Brd} {K : List Kd} (hs : Strs m sv B) (hk : Kds m kv K) : ACall Tryd.prog 24 #[sv, kv] m (Ret (.bool (goodB B K)) m) := by
  have h1 := fun T => RBoard_ok (hs.old T)
  have h2 := fun T => RKinds_ok (hk.old T)
  refine ACall.start Tryd.func24 rfl rfl ?_
  cases hb : boardB B with
  | false =>
    rw [hb] at h1
    (repeat (first | (with_reducible refine AWo.cons ?_) | ((with_reducible refine Step.id ?_); first | ((with_reducible apply Step.gdF); exact rfl; exact rfl; (focus (rfl))) | ((with_reducible apply Step.move); exact rfl; exact rfl) | ((with_reducible apply Step.assign); exact rfl; exact rfl) | ((with_reducible apply Step.pickF); exact rfl; exact rfl; exact rfl; exact rfl; (focus (rfl))) | ((with_reducible apply Step.callR fit); exact rfl; exact Tryd.func68; exact rfl; exact rfl; exact (h1 _))) | (with_reducible refine AWo.nil ?_) | ((with_reducible apply AW.seq)) | ((with_reducible apply Then.n)) | ((with_reducible apply AW.regL))))
    (refine AW.retD (l := [(4, _)]) (by repeat (first | exact trivial | (refine And.intro ⟨rfl, by (exact .bool _)⟩ ?_))) ?_; (repeat (first | refine Then.r ?_ | refine InBlk.r ?_)))
    exact ⟨_, rfl, by simp [goodB, hb], rfl⟩
  | true =>
    rw [hb] at h1
    (repeat (first | (with_reducible refine AWo.cons ?_) | ((with_reducible refine Step.id ?_); first | ((with_reducible apply Step.gdT); exact rfl; exact rfl; (focus (rfl))) | ((with_reducible apply Step.move); exact rfl; exact rfl) | ((with_reducible apply Step.assign); exact rfl; exact rfl) | ((with_reducible apply Step.pickT); exact rfl; exact rfl; exact rfl; exact rfl; (focus (rfl))) | ((with_reducible apply Step.callR fit); exact rfl; exact Tryd.func68; exact rfl; exact rfl; exact (h1 _)) | ((with_reducible apply Step.callR fit); exact rfl; exact Tryd.func26; exact rfl; exact rfl; exact (h2 _))) | (with_reducible refine AWo.nil ?_) | ((with_reducible apply AW.seq)) | ((with_reducible apply Then.n)) | ((with_reducible apply AW.regL))))
    (refine AW.retD (l := [(4, _)]) (by repeat (first | exact trivial | (refine And.intro ⟨rfl, by (exact .bool _)⟩ ?_))) ?_; (repeat (first | refine Then.r ?_ | refine InBlk.r ?_)))
    exact ⟨_, rfl, by simp [goodB, hb], rfl⟩
end Go.Proofs.YtibhgdglbillaaaDoor.Abs
namespace Go.Proofs.YtibhgdglbillaaaDoor.Abs
set_option linter.unusedSimpArgs false
set_option linter.unusedVariables false
open Go.RowKit
open Go.Proofs.YtibhgdglbillaaaDoor.Sim
open Go.Proofs
theorem bs30 {m : AM} {k : Nat} {a b : ByteArray} : abuildSlice Tryd.prog m k 30 2 [(0, .string a), (1, .string b)] = some (.slice (some ⟨k, 0, none⟩) 2 2, m.set k (some { cells := [.string a, .string b] })) := by kernel_rfl
theorem bl99 {a b c d : Int} : abuild Tryd.prog 99 [(0, .int .i64 a), (1, .int .i64 b), (2, .int .i64 c), (3, .int .i64 d)] = some (.agg #[.int .i64 a, .int .i64 b, .int .i64 c, .int .i64 d, .bool false]) := by kernel_rfl
theorem bs35 {m : AM} {k : Nat} {a b c d a' b' c' d' : Int} {t t' : Bool} : abuildSlice Tryd.prog m k 35 2 [(0, .agg #[.int .i64 a, .int .i64 b, .int .i64 c, .int .i64 d, .bool t]), (1, .agg #[.int .i64 a', .int .i64 b', .int .i64 c', .int .i64 d', .bool t'])] = some (.slice (some ⟨k, 0, none⟩) 2 2, m.set k (some { cells := [.int .i64 a, .int .i64 b, .int .i64 c, .int .i64 d, .bool t, .int .i64 a', .int .i64 b', .int .i64 c', .int .i64 d', .bool t'] })) := by kernel_rfl
def b10 : ByteArray := ⟨#[49, 48]⟩
def b11 : ByteArray := ⟨#[49, 49]⟩
def awB : Brd := [b10, b11]
def awK : List Kd := [⟨2, 1, 1, 5, false⟩, ⟨1, 1, 1, 2, false⟩]
theorem aw_good : goodB awB awK = true := by decide +kernel
theorem aw_best : bestM awB awK = 7 := by kernel_rfl
set_option maxRecDepth 100000 in
theorem awake_ok {m : AM} : ACall Tryd.prog 21 #[] m (Ret (.bool true) m) := by
  have hS : ∀ (T : AM), Strs (m ++ (some { cells := [.string b10, .string b11] } :: T)) (.slice (some ⟨m.length + 0, 0, none⟩) 2 2) awB := fun T =>
    ⟨m.length + 0, 0, Sl.mk (by decide), by simp, fun y hy => by
      rcases (show y = 0 ∨ y = 1 by simp [awB] at hy; omega) with rfl | rfl
      · exact Rd.new rfl rfl
      · exact Rd.new rfl rfl⟩
  have hK : ∀ (b0 : Option Blk) (T : AM), Kds (m ++ (b0 :: some { cells := [.int .i64 2, .int .i64 1, .int .i64 1, .int .i64 5, .bool false, .int .i64 1, .int .i64 1, .int .i64 1, .int .i64 2, .bool false] } :: T)) (.slice (some ⟨m.length + 1, 0, none⟩) 2 2) awK := fun b0 T =>
    ⟨m.length + 1, 0, Sl.mk (by decide), by simp, fun y hy => by
      rcases (show y = 0 ∨ y = 1 by simp [awK] at hy; omega) with rfl | rfl
      · refine ⟨_, by rw [get_app]; rfl, fun j v hj => ?_⟩
        rcases j with _ | _ | _ | _ | _ | j
        all_goals first | exact hj | (simp [Kd.cells, awK] at hj)
      · refine ⟨_, by rw [get_app]; rfl, fun j v hj => ?_⟩
        rcases j with _ | _ | _ | _ | _ | j
        all_goals first | exact hj | (simp [Kd.cells, awK] at hj)⟩
  have hb := fun T => Best_ok (m := m ++ (some { cells := [.string b10, .string b11] } :: some { cells := [.int .i64 2, .int .i64 1, .int .i64 1, .int .i64 5, .bool false, .int .i64 1, .int .i64 1, .int .i64 1, .int .i64 2, .bool false] } :: T)) (hS _) (hK _ T) aw_good
  rw [aw_best] at hb
  refine ACall.start Tryd.func21 rfl rfl ?_
  (repeat (first | (with_reducible refine AWo.cons ?_) | ((with_reducible refine Step.id ?_); first | ((with_reducible apply Step.gdT); exact rfl; exact rfl; (focus (rfl))) | ((with_reducible apply Step.move); exact rfl; exact rfl) | ((with_reducible apply Step.assign); exact rfl; exact rfl) | ((with_reducible apply Step.eql); exact rfl; exact rfl; exact rfl) | ((with_reducible apply Step.extract); exact rfl; exact rfl; exact rfl) | ((with_reducible apply Step.pickT); exact rfl; exact rfl; exact rfl; exact rfl; (focus (rfl))) | ((with_reducible apply Step.callR fit); exact rfl; exact Tryd.func22; exact rfl; exact rfl; exact (hb _)) | ((with_reducible apply Step.buildS 0); exact rfl; exact rfl; exact (fun _ _ => bs30); exact rfl; (focus (first | (simp only [List.nil_append, List.cons_append, List.set_cons_zero, List.set_cons_succ, iv_set, bv_set, iv_rep, bv_rep]; done) | (simp only [List.nil_append, List.cons_append, List.set_cons_zero, List.set_cons_succ, iv_set, bv_set, iv_rep, bv_rep]; rfl) | rfl))) | ((with_reducible apply Step.buildS 1); exact rfl; exact rfl; exact (fun _ _ => bs35); exact rfl; (focus (first | (simp only [List.nil_append, List.cons_append, List.set_cons_zero, List.set_cons_succ, iv_set, bv_set, iv_rep, bv_rep]; done) | (simp only [List.nil_append, List.cons_append, List.set_cons_zero, List.set_cons_succ, iv_set, bv_set, iv_rep, bv_rep]; rfl) | rfl))) | ((with_reducible apply Step.build); exact rfl; exact bl99; exact rfl)) | (with_reducible refine AWo.nil ?_) | ((with_reducible apply AW.seq)) | ((with_reducible apply Then.n)) | ((with_reducible apply AW.regL))))
  (refine AW.retD (l := [(0, _)]) (by repeat (first | exact trivial | (refine And.intro ⟨rfl, by (exact .bool _)⟩ ?_))) ?_; (repeat (first | refine Then.r ?_ | refine InBlk.r ?_)))
  exact ⟨_, rfl, rfl, rfl⟩
end Go.Proofs.YtibhgdglbillaaaDoor.Abs
namespace Go.Proofs.YtibhgdglbillaaaDoor.Abs
set_option linter.unusedSimpArgs false
set_option linter.unusedVariables false
open Go.RowKit
open Go.Proofs.YtibhgdglbillaaaDoor.Sim
open Go.Proofs
def kvc (l : List Kd) : List Value := l.flatMap Kd.cells
theorem kvc_len (l : List Kd) : (kvc l).length = l.length * 5 := by
  induction l with
  | nil => rfl
  | cons k l ih =>
    have : kvc (k :: l) = k.cells ++ kvc l := rfl
    rw [this, List.length_append, ih]
    simp [Kd.cells]
    omega
theorem kvc_snoc (l : List Kd) (k : Kd) : kvc (l ++ [k]) = kvc l ++ k.cells := by simp [kvc]
theorem kvc_get : ∀ (l : List Kd) (i : Nat), i < l.length → ∀ (j : Nat) (v : Value), (l.getD i default).cells[j]? = some v → (kvc l)[i * 5 + j]? = some v
  | [], i, hi, _, _, _ => by simp at hi
  | k :: l, 0, _, j, v, hj => by
    have : kvc (k :: l) = k.cells ++ kvc l := rfl
    change k.cells[j]? = some v at hj
    rw [this, Nat.zero_mul, Nat.zero_add, List.getElem?_append_left (List.getElem?_eq_some_iff.1 hj).1]
    exact hj
  | k :: l, i + 1, hi, j, v, hj => by
    have e : kvc (k :: l) = k.cells ++ kvc l := rfl
    have hl : k.cells.length = 5 := rfl
    rw [e, List.getElem?_append_right (by omega), hl, show (i + 1) * 5 + j - 5 = i * 5 + j by omega]
    exact kvc_get l i (by simpa using hi) j v hj
theorem g0_kvc (l : List Kd) : ∀ v ∈ kvc l, g0 v = true := fun v hv => by
  simp only [kvc, List.mem_flatMap] at hv
  obtain ⟨k, _, hk⟩ := hv
  simp [Kd.cells] at hk
  rcases hk with rfl | rfl | rfl | rfl | rfl <;> rfl
theorem good_take (B : Brd) (K : List Kd) : goodB B (K.take 14) = goodB B K := by
  rcases Nat.lt_or_ge 14 K.length with h | h
  · have h1 : kindsB K = false := by simp [kindsB]; omega
    have h2 : kindsB (K.take 14) = false := by simp [kindsB]; omega
    simp [goodB, h1, h2]
  · rw [List.take_of_length_le h]
theorem good_len {B : Brd} {K : List Kd} (h : goodB B K = true) : K.take 14 = K := by
  simp only [goodB, kindsB, Bool.and_eq_true, decide_eq_true_eq] at h
  exact List.take_of_length_le (by omega)
theorem bl99b {a b c d : Int} {t : Bool} : abuild Tryd.prog 99 [(0, .int .i64 a), (1, .int .i64 b), (2, .int .i64 c), (3, .int .i64 d), (4, .bool t)] = some (.agg #[.int .i64 a, .int .i64 b, .int .i64 c, .int .i64 d, .bool t]) := by kernel_rfl
theorem bs35x {m : AM} {k : Nat} {a b c d : Int} {t : Bool} : abuildSlice Tryd.prog m k 35 1 [(0, .agg #[.int .i64 a, .int .i64 b, .int .i64 c, .int .i64 d, .bool t])] = some (.slice (some ⟨k, 0, none⟩) 1 1, m.set k (some { cells := [.int .i64 a, .int .i64 b, .int .i64 c, .int .i64 d, .bool t] })) := by kernel_rfl
theorem el35 : elemB Tryd.prog 35 = some (99, 5, 40, #[.int .i64 0, .int .i64 0, .int .i64 0, .int .i64 0, .bool false]) := by kernel_rfl
theorem un35 : Tryd.prog.underlying 35 = some (.slice 99) := by kernel_rfl
set_option maxHeartbeats 4000000 in
set_option maxRecDepth 100000 in
theorem of_ok {m : AM} {kv : Value} {K : List Kd} (hk : Kds m kv K) (hlen : K.length ≤ 9223372036854775807) : ACall Tryd.prog 23 #[kv] m (NewG (kvc (K.take 14)) 5 (K.take 14).length m) := by
  obtain ⟨A, O, sl, la, rd⟩ := hk
  obtain ⟨q, c, rfl⟩ := sl.shape
  have wl : Low m.length (.slice q K.length c) := Low.of_sl sl la
  refine ACall.start Tryd.func23 rfl rfl ?_
  (repeat (first | (with_reducible refine AWo.cons ?_) | ((with_reducible refine Step.id ?_); first | ((with_reducible apply Step.move); exact rfl; exact rfl) | ((with_reducible apply Step.assign); exact rfl; exact rfl) | ((with_reducible apply Step.len); exact rfl; (focus (assumption)); (focus (decide +kernel)); exact rfl)) | (with_reducible refine AWo.nil ?_) | ((with_reducible apply AW.seq)) | ((with_reducible apply Then.n)) | ((with_reducible apply AW.regL)) | ((with_reducible apply AW.block))))
  refine AW.loopT (fun n t L => ∃ i : Nat, n = K.length - i ∧ i ≤ K.length ∧ i ≤ 14 ∧ L = [gb (kvc (K.take i)) 5] ∧
    t = [(0, .slice q K.length c), (3, gv (m.length + 0) i), (6, .slice q K.length c), (7, .int .i64 (K.length : Nat)), (8, .int .i64 (i : Nat))])
    ⟨_, _, [none], (Back.padC rfl (by repeat (first | exact trivial | (refine And.intro ⟨rfl, by (first | exact Low.rid (by assumption) (by simp) | exact .int _ _ | exact Ren.of_gv (by first | (simp; done) | omega | (simp; omega)))⟩ ?_))) (by repeat (exact CellsP.nil))), 0, rfl, Nat.zero_le _, Nat.zero_le _, rfl, rfl⟩ ?_
  rintro n t L ⟨i, rfl, hi, hi14, rfl, rfl⟩
  rcases Nat.lt_or_ge i K.length with hlt | hge
  · have rk := rd i hlt
    have hs : K.take (i + 1) = K.take i ++ [K.getD i default] := take_snoc K i default hlt
    generalize K.getD i default = k at rk hs
    obtain ⟨kw, kh, kg, ko, kt⟩ := k
    simp only [Kd.cells] at rk
    by_cases h13 : 13 < i
    · obtain rfl : i = 14 := by omega
      have hg0 := g0_kvc (K.take 14)
      (repeat (first | (with_reducible refine AWo.cons ?_) | ((with_reducible refine Step.id ?_); first | ((with_reducible apply Step.move); exact rfl; exact rfl) | ((with_reducible apply Step.assign); exact rfl; exact rfl) | ((with_reducible apply Step.loadL (n := 5)); exact rfl; (focus (decide +kernel)); (focus (decide +kernel)); exact rfl; (focus (exact RdL.old _ (by assumption))); exact rfl; exact rfl) | ((with_reducible apply Step.ix (s := 5)); exact rfl; (focus (assumption)); exact rfl; (focus (decide +kernel)); exact rfl; (focus (omega))) | ((with_reducible apply Step.lss); exact rfl; exact rfl; exact rfl) | ((with_reducible apply Step.gtr); exact rfl; exact rfl; exact rfl) | ((with_reducible apply Step.alloc 1); exact rfl; exact ze33; exact rfl; (focus (first | (simp only [List.nil_append, List.cons_append, List.set_cons_zero, List.set_cons_succ, iv_set, bv_set, iv_rep, bv_rep]; done) | (simp only [List.nil_append, List.cons_append, List.set_cons_zero, List.set_cons_succ, iv_set, bv_set, iv_rep, bv_rep]; rfl) | rfl))) | ((with_reducible apply Step.storeA (k := 1) (n := 5)); exact rfl; exact rfl; exact rfl; exact rfl; (focus (decide +kernel)); exact rfl; (focus (kernel_rfl)); exact rfl; (focus (first | (simp only [List.nil_append, List.cons_append, List.set_cons_zero, List.set_cons_succ, iv_set, bv_set, iv_rep, bv_rep]; done) | (simp only [List.nil_append, List.cons_append, List.set_cons_zero, List.set_cons_succ, iv_set, bv_set, iv_rep, bv_rep]; rfl) | rfl)))) | (with_reducible refine AWo.nil ?_) | ((with_reducible apply AW.seq)) | ((with_reducible apply Then.n)) | ((with_reducible apply AW.regL)) | ((with_reducible apply AW.block)) | ((with_reducible apply AW.exit)) | ((with_reducible apply InBlk.hit)) | ((with_reducible apply InBlk.miss); exact rfl) | ((with_reducible apply Then.e)) | ((with_reducible apply AW.skip)) | ((with_reducible apply AW.condT); exact rfl; (focus (first | rfl | (simp only [decide_eq_true_eq, decide_eq_false_iff_not, Bool.not_eq_true', Bool.not_eq_false', Bool.not_true, Bool.not_false]; first | assumption | omega))))))
      refine AW.retT (l := [(2, gv (m.length + 0) 14)]) (L1 := [gb (kvc (K.take 14)) 5]) (L2 := [_]) rfl (by repeat (first | exact CellsOk.nil | refine CellsOk.gb (by assumption) ?_)) (by repeat (first | exact trivial | (refine And.intro ⟨rfl, by (exact Ren.of_gv (by first | (simp; done) | omega | (simp; omega)))⟩ ?_))) ?_
      exact ⟨_, rfl, by rw [List.length_take, Nat.min_eq_left (by omega)], rfl⟩
    · have hpl : (kvc (K.take i)).length = i * 5 := by rw [kvc_len, List.length_take]; congr 1; omega
      have hg0 := g0_kvc (K.take (i + 1))
      have hcc : kvc (K.take (i + 1)) = kvc (K.take i) ++ [.int .i64 kw, .int .i64 kh, .int .i64 kg, .int .i64 ko, .bool kt] := by rw [hs, kvc_snoc]; rfl
      rw [hcc] at hg0
      (repeat (first | (with_reducible refine AWo.cons ?_) | ((with_reducible refine Step.id ?_); first | ((with_reducible apply Step.move); exact rfl; exact rfl) | ((with_reducible apply Step.assign); exact rfl; exact rfl) | ((with_reducible apply Step.load); exact rfl; (focus (decide +kernel)); exact rfl; (focus (exact Rd.new rfl rfl))) | ((with_reducible apply Step.loadL (n := 5)); exact rfl; (focus (decide +kernel)); (focus (decide +kernel)); exact rfl; (focus (exact RdL.old _ (by assumption))); exact rfl; exact rfl) | ((with_reducible apply Step.ix (s := 5)); exact rfl; (focus (assumption)); exact rfl; (focus (decide +kernel)); exact rfl; (focus (omega))) | ((with_reducible apply Step.field0); exact rfl; (focus (decide +kernel)); exact rfl) | ((with_reducible apply Step.field (k := 1)); exact rfl; (focus (decide +kernel)); exact rfl) | ((with_reducible apply Step.field (k := 2)); exact rfl; (focus (decide +kernel)); exact rfl) | ((with_reducible apply Step.field (k := 3)); exact rfl; (focus (decide +kernel)); exact rfl) | ((with_reducible apply Step.field (k := 4)); exact rfl; (focus (decide +kernel)); exact rfl) | ((with_reducible apply Step.lss); exact rfl; exact rfl; exact rfl) | ((with_reducible apply Step.gtr); exact rfl; exact rfl; exact rfl) | ((with_reducible apply Step.alloc 1); exact rfl; exact ze33; exact rfl; (focus (first | (simp only [List.nil_append, List.cons_append, List.set_cons_zero, List.set_cons_succ, iv_set, bv_set, iv_rep, bv_rep]; done) | (simp only [List.nil_append, List.cons_append, List.set_cons_zero, List.set_cons_succ, iv_set, bv_set, iv_rep, bv_rep]; rfl) | rfl))) | ((with_reducible apply Step.storeA (k := 1) (n := 5)); exact rfl; exact rfl; exact rfl; exact rfl; (focus (decide +kernel)); exact rfl; (focus (kernel_rfl)); exact rfl; (focus (first | (simp only [List.nil_append, List.cons_append, List.set_cons_zero, List.set_cons_succ, iv_set, bv_set, iv_rep, bv_rep]; done) | (simp only [List.nil_append, List.cons_append, List.set_cons_zero, List.set_cons_succ, iv_set, bv_set, iv_rep, bv_rep]; rfl) | rfl))) | ((with_reducible apply Step.buildS 2); exact rfl; exact rfl; exact (fun _ _ => bs35x); exact rfl; (focus (first | (simp only [List.nil_append, List.cons_append, List.set_cons_zero, List.set_cons_succ, iv_set, bv_set, iv_rep, bv_rep]; done) | (simp only [List.nil_append, List.cons_append, List.set_cons_zero, List.set_cons_succ, iv_set, bv_set, iv_rep, bv_rep]; rfl) | rfl))) | ((with_reducible apply Step.build); exact rfl; exact bl99b; exact rfl)) | (with_reducible refine AWo.nil ?_) | ((with_reducible apply AW.seq)) | ((with_reducible apply Then.n)) | ((with_reducible apply AW.regL)) | ((with_reducible apply AW.block)) | ((with_reducible apply AW.skip)) | ((with_reducible apply AW.condT); exact rfl; (focus ((simp only [decide_eq_true_eq, decide_eq_false_iff_not, Bool.not_eq_true', Bool.not_eq_false', Bool.not_true, Bool.not_false]; first | assumption | omega)))) | ((with_reducible apply AW.condF); exact rfl; (focus ((simp only [decide_eq_true_eq, decide_eq_false_iff_not, Bool.not_eq_true', Bool.not_eq_false', Bool.not_true, Bool.not_false]; first | assumption | omega))))))
      ((with_reducible apply Step.appG (k := 3) (q := 0) (r := 2) (n := i) (xl := 1)); exact rfl; exact rfl; exact rfl; exact el35; exact un35; exact rfl; exact rfl; exact rfl; exact hpl; exact rfl; exact rfl; (focus (kernel_rfl)); (focus (omega)); exact rfl; (focus (first | (simp only [List.nil_append, List.cons_append, List.set_cons_zero, List.set_cons_succ, iv_set, bv_set, iv_rep, bv_rep]; done) | (simp only [List.nil_append, List.cons_append, List.set_cons_zero, List.set_cons_succ, iv_set, bv_set, iv_rep, bv_rep]; rfl) | rfl)))
      (repeat (first | (with_reducible refine AWo.cons ?_) | ((with_reducible refine Step.id ?_); first | ((with_reducible apply Step.move); exact rfl; exact rfl) | ((with_reducible apply Step.assign); exact rfl; exact rfl) | ((with_reducible apply Step.add); exact rfl; exact rfl; (focus (omega)); exact rfl)) | (with_reducible refine AWo.nil ?_) | ((with_reducible apply Then.n)) | ((with_reducible apply AW.regL)) | ((with_reducible apply InBlk.n))))
      exact ⟨_, [(0, .slice q K.length c), (3, .slice (some ⟨m.length + 0, 0, none⟩) (i + 1) (i + 1)), (6, .slice q K.length c), (7, .int .i64 (K.length : Nat)), (8, .int .i64 (i + 1 : Nat))], [some { cells := kvc (K.take i) ++ [.int .i64 kw, .int .i64 kh, .int .i64 kg, .int .i64 ko, .bool kt], kind := .grow, size := 5 }], by omega, (Back.mv 0 3 rfl rfl rfl rfl (by intro j b hj h; rcases j with _ | _ | _ | _ | _ | _ | j <;> simp_all) (by repeat (first | exact CellsOk.nil | refine CellsOk.cons (by assumption) ?_)) (by repeat (first | exact trivial | (refine And.intro ⟨_, rfl, by (first | exact Low.ne (by assumption) (by simp) | exact .int _ _ | exact Ren.slice_mv (by first | (simp; done) | omega | (simp; omega)))⟩ ?_)))), i + 1, rfl, by omega, by omega, by rw [hcc, gb_pos (by simp)], by rw [gv_pos (by omega)]⟩
  · obtain rfl : i = K.length := by omega
    (repeat (first | (with_reducible refine AWo.cons ?_) | ((with_reducible refine Step.id ?_); first | ((with_reducible apply Step.move); exact rfl; exact rfl) | ((with_reducible apply Step.assign); exact rfl; exact rfl) | ((with_reducible apply Step.lss); exact rfl; exact rfl; exact rfl)) | (with_reducible refine AWo.nil ?_) | ((with_reducible apply AW.seq)) | ((with_reducible apply Then.n)) | ((with_reducible apply AW.regL)) | ((with_reducible apply AW.exit)) | ((with_reducible apply InBlk.hit)) | ((with_reducible apply Then.e)) | ((with_reducible apply AW.condF); exact rfl; (focus ((simp only [decide_eq_true_eq, decide_eq_false_iff_not, Bool.not_eq_true', Bool.not_eq_false', Bool.not_true, Bool.not_false]; first | assumption | omega))))))
    (refine AW.retB (l := [(2, _)]) (Or.inl ⟨rfl, (by repeat (first | exact trivial | (refine And.intro rfl ?_)))⟩) ?_; (repeat (first | refine Then.r ?_ | refine InBlk.r ?_)))
    exact ⟨_, rfl, by rw [List.take_of_length_le hi14], by rw [List.take_of_length_le hi14, List.take_of_length_le (Nat.le_refl _)]⟩
end Go.Proofs.YtibhgdglbillaaaDoor.Abs
namespace Go.Proofs.YtibhgdglbillaaaDoor.Abs
set_option linter.unusedSimpArgs false
set_option linter.unusedVariables false
open Go.RowKit
open Go.Proofs.YtibhgdglbillaaaDoor.Sim
open Go.Proofs
section
variable {P : Program} {nt d : Nat} {ops : Array Oper} {T : TypeId} {p : String} {af : Array Edge} {t : Fm} {m : AM} {K : Fm → AM → Prop}
theorem Step.remU {x y : Operand} {X Y : TypeId} {a b : Int} (hx : evo t x = some (.int .u64 a)) (hy : evo t y = some (.int .u64 b)) (ha : 0 ≤ a) (hb : 1 ≤ b) (hlt : Nat.blt d nt = true) (hK : K (put t d (.int .u64 (a % b))) m) : Step P nt ops ⟨some d, .binOp .rem X x y Y, T, p, af, none⟩ t m K := by
  refine .ground rfl rfl hlt (by simp [Op.operands, hx, hy, g1, g0]) (fun h => by simp only [aquiet, evD_of hx, evD_of hy, aint, anil]; simpa [evD_of hx, evD_of hy] using h) ?_ (by simp [g1, g0]) hK
  simp [execOp, eqGuard, binOp, evD_of hx, evD_of hy, Op.intDiv, show ¬ b = 0 by omega, Int.tmod_eq_emod_of_nonneg ha, bind, Sem.bind, pure, Sim.still]
end
theorem wrapU (a : Int) : 0 ≤ IntKind.u64.wrap a := by
  simp only [IntKind.wrap, IntKind.signed, IntKind.bits]
  simp
  omega
theorem turns_in (a : Int) : ∃ n : Nat, n < 32 ∧ IntKind.i64.wrap (IntKind.u64.wrap a % 32) = (n : Int) := by
  have h := wrapU a
  refine ⟨(IntKind.u64.wrap a % 32).toNat, by omega, ?_⟩
  rw [IntWalk.i64_in _ (by omega)]
  omega
theorem kds_at {m L : AM} {k : Nat} {l : List Kd} (h : L[k]? = some (gb (kvc l) 5)) : Kds (m ++ L) (gv (m.length + k) l.length) l := by
  have hlt : m.length + k < (m ++ L).length := by
    rw [List.length_append]
    have := (List.getElem?_eq_some_iff.1 h).1
    omega
  refine ⟨m.length + k, 0, gv_sl _ _, hlt, fun i hi => ?_⟩
  have hp : 0 < (kvc l).length := by rw [kvc_len]; omega
  rw [gb_pos hp] at h
  refine ⟨_, by rw [get_app]; exact h, fun j v hj => ?_⟩
  rw [Nat.zero_add]
  exact kvc_get l i hi j v hj
theorem un46 : Tryd.prog.underlying 46 = some (.int .u64) := by kernel_rfl
theorem strict_best {B : Brd} {K : List Kd} (hg : goodB B K = true) : strictM (leafM B K) (bw B) (bh B) 32 (wholeR B) = bestM B K := by
  have hgb : boardB B = true := by simp only [goodB, Bool.and_eq_true] at hg; exact hg.1
  have hin := good_in hgb
  have hok : (wholeR B).ok (bw B) (bh B) := by
    simp only [R4.ok, wholeR]
    omega
  rw [strict_full hok (by simp only [R4.size, wholeR]; omega)]
  exact ((bestT_ok (leaf := leafM B K) hin.2.2.2 hin.2.1).dn _ hok).symm
set_option maxHeartbeats 8000000 in
set_option maxRecDepth 100000 in
theorem CutTurns_ok {m : AM} {sv kv : Value} {B : Brd} {K : List Kd} {t : Int} (hs : Strs m sv B) (hk : Kds m kv K) (hkl : K.length ≤ 9223372036854775807) :
    ACall Tryd.prog 6 #[sv, kv, .int .i64 t] m (Ret (.bool true) m) := by
  have h3 := fun T => of_ok (hk.old T) hkl
  have hG := fun T => RGood_ok (hs.old T) (hk.old T)
  obtain ⟨n, hn, en⟩ := turns_in t
  have hw0 := wrapU t
  cases hg : goodB B K with
  | false =>
    have hg' : goodB B (K.take 14) = false := by rw [good_take]; exact hg
    rw [hg] at hG
    obtain ⟨A1, O1, sl1, la1, rd1⟩ := id hs
    refine ACall.start Tryd.func6 rfl rfl ?_
    (repeat (first | (with_reducible refine AWo.cons ?_) | ((with_reducible refine Step.id ?_); first | ((with_reducible apply Step.gdF); exact rfl; exact rfl; (focus (rfl))) | ((with_reducible apply Step.move); exact rfl; exact rfl) | ((with_reducible apply Step.assign); exact rfl; exact rfl) | ((with_reducible apply Step.pickF); exact rfl; exact rfl; exact rfl; exact rfl; (focus (rfl))) | ((with_reducible apply Step.callR fit); exact rfl; exact Tryd.func24; exact rfl; exact rfl; exact (hG _))) | (with_reducible refine AWo.nil ?_) | ((with_reducible apply AW.seq)) | ((with_reducible apply Then.n)) | ((with_reducible apply AW.regL)) | ((with_reducible apply AW.skip)) | ((with_reducible apply AW.condF); exact rfl; (focus (rfl)))))
    ((with_reducible apply Step.conv); exact rfl; exact un3; exact un46; exact rfl; exact rfl)
    (repeat ((with_reducible refine AWo.cons ?_)))
    ((with_reducible apply Step.remU); exact rfl; exact rfl; exact hw0; (focus (omega)); exact rfl)
    (repeat ((with_reducible refine AWo.cons ?_)))
    ((with_reducible apply Step.conv); exact rfl; exact un46; exact un3; exact rfl; exact rfl)
    rw [en]
    (repeat (first | (with_reducible refine AWo.cons ?_) | ((with_reducible refine Step.id ?_); first | ((with_reducible apply Step.gdT); exact rfl; exact rfl; (focus (rfl))) | ((with_reducible apply Step.move); exact rfl; exact rfl) | ((with_reducible apply Step.assign); exact rfl; exact rfl) | ((with_reducible apply Step.add); exact rfl; exact rfl; (focus (omega)); exact rfl) | ((with_reducible apply Step.eql); exact rfl; exact rfl; exact rfl) | ((with_reducible apply Step.not); exact rfl; exact rfl) | ((with_reducible apply Step.extract); exact rfl; exact rfl; exact rfl) | ((with_reducible apply Step.pickT); exact rfl; exact rfl; exact rfl; exact rfl; (focus (rfl))) | ((with_reducible apply Step.callR fit); exact rfl; exact Tryd.func24; exact rfl; exact rfl; exact (hG _)) | ((with_reducible apply Step.callG fit (k := 0)); exact rfl; exact rfl; exact Tryd.func23; exact rfl; exact rfl; exact (h3 _); (focus (first | (simp only [List.nil_append, List.cons_append, List.set_cons_zero, List.set_cons_succ, iv_set, bv_set, iv_rep, bv_rep]; done) | (simp only [List.nil_append, List.cons_append, List.set_cons_zero, List.set_cons_succ, iv_set, bv_set, iv_rep, bv_rep]; rfl) | rfl))) | ((with_reducible apply Step.callG fit (k := 1)); exact rfl; exact rfl; exact Tryd.func23; exact rfl; exact rfl; exact (h3 _); (focus (first | (simp only [List.nil_append, List.cons_append, List.set_cons_zero, List.set_cons_succ, iv_set, bv_set, iv_rep, bv_rep]; done) | (simp only [List.nil_append, List.cons_append, List.set_cons_zero, List.set_cons_succ, iv_set, bv_set, iv_rep, bv_rep]; rfl) | rfl))) | ((with_reducible apply Step.callG fit (k := 2)); exact rfl; exact rfl; exact Tryd.func23; exact rfl; exact rfl; exact (h3 _); (focus (first | (simp only [List.nil_append, List.cons_append, List.set_cons_zero, List.set_cons_succ, iv_set, bv_set, iv_rep, bv_rep]; done) | (simp only [List.nil_append, List.cons_append, List.set_cons_zero, List.set_cons_succ, iv_set, bv_set, iv_rep, bv_rep]; rfl) | rfl))) | ((with_reducible apply Step.callG fit (k := 3)); exact rfl; exact rfl; exact Tryd.func23; exact rfl; exact rfl; exact (h3 _); (focus (first | (simp only [List.nil_append, List.cons_append, List.set_cons_zero, List.set_cons_succ, iv_set, bv_set, iv_rep, bv_rep]; done) | (simp only [List.nil_append, List.cons_append, List.set_cons_zero, List.set_cons_succ, iv_set, bv_set, iv_rep, bv_rep]; rfl) | rfl))) | ((with_reducible apply Step.callR fit); exact rfl; exact Tryd.func28; exact rfl; exact rfl; exact (Strict_no (hs.old _) (kds_at (l := K.take 14) rfl) hg')) | ((with_reducible apply Step.callR fit); exact rfl; exact Tryd.func22; exact rfl; exact rfl; exact (Best_no (hs.old _) (kds_at (l := K.take 14) rfl) hg')) | ((with_reducible apply Step.callR fit); exact rfl; exact Tryd.func21; exact rfl; exact rfl; exact (awake_ok))) | (with_reducible refine AWo.nil ?_) | ((with_reducible apply AW.seq)) | ((with_reducible apply Then.n)) | ((with_reducible apply AW.regL)) | ((with_reducible apply AW.condT); exact rfl; (focus (rfl)))))
    (refine AW.retD (l := [(6, _)]) (by repeat (first | exact trivial | (refine And.intro ⟨rfl, by (exact .bool _)⟩ ?_))) ?_; (repeat (first | refine Then.r ?_ | refine InBlk.r ?_)))
    exact ⟨_, rfl, rfl, rfl⟩
  | true =>
    have et := good_len hg
    rw [et] at h3
    rw [hg] at hG
    have hgb : boardB B = true := by simp only [goodB, Bool.and_eq_true] at hg; exact hg.1
    have hin := good_in hgb
    have hok : (wholeR B).ok (bw B) (bh B) := by
      simp only [R4.ok, wholeR]
      omega
    have e32 := strict_best hg
    have m1 := strict_mono (leaf := leafM B K) (t := n) (t' := n + 1) (by omega) hok
    have m2 := strict_mono (leaf := leafM B K) (t := n + 1) (t' := 32) (by omega) hok
    have hA := fun (M : AM) (sv kv : Value) (h1 : Strs M sv B) (h2 : Kds M kv K) => Strict_ok (t := n) h1 h2 hg (by omega)
    have hB := fun (M : AM) (sv kv : Value) (h1 : Strs M sv B) (h2 : Kds M kv K) => Strict_ok (t := n + 1) h1 h2 hg (by omega)
    have hC := fun (M : AM) (sv kv : Value) (h1 : Strs M sv B) (h2 : Kds M kv K) => Strict_ok (t := 32) h1 h2 hg (by omega)
    have hD := fun (M : AM) (sv kv : Value) (h1 : Strs M sv B) (h2 : Kds M kv K) => Best_ok h1 h2 hg
    rw [e32] at m2
    simp only [e32] at hC
    have e1 : ((n + 1 : Nat) : Int) = (n : Int) + 1 := rfl
    have e2 : ((32 : Nat) : Int) = 32 := rfl
    rw [e1] at hB
    rw [e2] at hC
    have hb0 : 0 < B.length := hin.1
    obtain ⟨A1, O1, sl1, la1, rd1⟩ := id hs
    have r0 := rd1 0 hb0
    have hbb : 1 ≤ bh B ∧ bh B ≤ 16 ∧ 1 ≤ (rowOf B 0).size ∧ (rowOf B 0).size ≤ 16 := hin
    have hbl : B.length ≤ 16 := hin.2.1
    have ha : 0 ≤ B.length * (rowOf B 0).size ∧ B.length * (rowOf B 0).size ≤ 256 := ⟨Nat.zero_le _, Nat.mul_le_mul hbl hbb.2.2.2⟩
    have e3 : (B.length : Int) * ((rowOf B 0).size : Int) = ((B.length * (rowOf B 0).size : Nat) : Int) := by simp
    generalize strictM (leafM B K) (bw B) (bh B) n (wholeR B) = x at *
    generalize strictM (leafM B K) (bw B) (bh B) (n + 1) (wholeR B) = y at *
    generalize bestM B K = z at *
    clear e32 hok hgb hbb
    refine ACall.start Tryd.func6 rfl rfl ?_
    by_cases hbig : 100 < B.length * (rowOf B 0).size
    · (repeat (first | (with_reducible refine AWo.cons ?_) | ((with_reducible refine Step.id ?_); first | ((with_reducible apply Step.gdT); exact rfl; exact rfl; (focus (rfl))) | ((with_reducible apply Step.move); exact rfl; exact rfl) | ((with_reducible apply Step.assign); exact rfl; exact rfl) | ((with_reducible apply Step.load); exact rfl; (focus (decide +kernel)); exact rfl; (focus (exact Rd.old _ (by assumption)))) | ((with_reducible apply Step.ix1); exact rfl; (focus (assumption)); exact rfl; (focus (decide +kernel)); exact rfl; (focus (omega))) | ((with_reducible apply Step.lenS); exact rfl; exact un9; exact rfl) | ((with_reducible apply Step.mul); exact rfl; exact rfl; (focus (omega)); exact rfl) | ((with_reducible apply Step.gtr); exact rfl; exact rfl; exact rfl) | ((with_reducible apply Step.len); exact rfl; (focus (assumption)); (focus (decide +kernel)); exact rfl) | ((with_reducible apply Step.pickT); exact rfl; exact rfl; exact rfl; exact rfl; (focus (rfl))) | ((with_reducible apply Step.callR fit); exact rfl; exact Tryd.func24; exact rfl; exact rfl; exact (hG _)) | ((with_reducible apply Step.callR fit); exact rfl; exact Tryd.func21; exact rfl; exact rfl; exact (awake_ok))) | (with_reducible refine AWo.nil ?_) | ((with_reducible apply AW.seq)) | ((with_reducible apply Then.n)) | ((with_reducible apply AW.regL)) | ((with_reducible apply AW.condT); exact rfl; (focus ((simp only [decide_eq_true_eq, decide_eq_false_iff_not, Bool.not_eq_true', Bool.not_eq_false', Bool.not_true, Bool.not_false]; first | assumption | omega))))))
      (refine AW.retD (l := [(6, _)]) (by repeat (first | exact trivial | (refine And.intro ⟨rfl, by (exact .bool _)⟩ ?_))) ?_; (repeat (first | refine Then.r ?_ | refine InBlk.r ?_)))
      exact ⟨_, rfl, rfl, rfl⟩
    · (repeat (first | (with_reducible refine AWo.cons ?_) | ((with_reducible refine Step.id ?_); first | ((with_reducible apply Step.gdT); exact rfl; exact rfl; (focus (rfl))) | ((with_reducible apply Step.move); exact rfl; exact rfl) | ((with_reducible apply Step.assign); exact rfl; exact rfl) | ((with_reducible apply Step.load); exact rfl; (focus (decide +kernel)); exact rfl; (focus (exact Rd.old _ (by assumption)))) | ((with_reducible apply Step.ix1); exact rfl; (focus (assumption)); exact rfl; (focus (decide +kernel)); exact rfl; (focus (omega))) | ((with_reducible apply Step.lenS); exact rfl; exact un9; exact rfl) | ((with_reducible apply Step.mul); exact rfl; exact rfl; (focus (omega)); exact rfl) | ((with_reducible apply Step.gtr); exact rfl; exact rfl; exact rfl) | ((with_reducible apply Step.len); exact rfl; (focus (assumption)); (focus (decide +kernel)); exact rfl) | ((with_reducible apply Step.pickT); exact rfl; exact rfl; exact rfl; exact rfl; (focus (rfl))) | ((with_reducible apply Step.callR fit); exact rfl; exact Tryd.func24; exact rfl; exact rfl; exact (hG _))) | (with_reducible refine AWo.nil ?_) | ((with_reducible apply AW.seq)) | ((with_reducible apply Then.n)) | ((with_reducible apply AW.regL)) | ((with_reducible apply AW.skip)) | ((with_reducible apply AW.condF); exact rfl; (focus ((simp only [decide_eq_true_eq, decide_eq_false_iff_not, Bool.not_eq_true', Bool.not_eq_false', Bool.not_true, Bool.not_false]; first | assumption | omega))))))
      ((with_reducible apply Step.conv); exact rfl; exact un3; exact un46; exact rfl; exact rfl)
      (repeat ((with_reducible refine AWo.cons ?_)))
      ((with_reducible apply Step.remU); exact rfl; exact rfl; exact hw0; (focus (omega)); exact rfl)
      (repeat ((with_reducible refine AWo.cons ?_)))
      ((with_reducible apply Step.conv); exact rfl; exact un46; exact un3; exact rfl; exact rfl)
      rw [en]
      (repeat (first | (with_reducible refine AWo.cons ?_) | ((with_reducible refine Step.id ?_); first | ((with_reducible apply Step.gdT); exact rfl; exact rfl; (focus (first | rfl | (simp only [decide_eq_true_eq, decide_eq_false_iff_not, Bool.not_eq_true', Bool.not_eq_false', Bool.not_true, Bool.not_false]; first | assumption | omega) | (simp; done)))) | ((with_reducible apply Step.move); exact rfl; exact rfl) | ((with_reducible apply Step.assign); exact rfl; exact rfl) | ((with_reducible apply Step.add); exact rfl; exact rfl; (focus (omega)); exact rfl) | ((with_reducible apply Step.leq); exact rfl; exact rfl; exact rfl) | ((with_reducible apply Step.eql); exact rfl; exact rfl; exact rfl) | ((with_reducible apply Step.not); exact rfl; exact rfl) | ((with_reducible apply Step.extract); exact rfl; exact rfl; exact rfl) | ((with_reducible apply Step.pickT); exact rfl; exact rfl; exact rfl; exact rfl; (focus (first | rfl | (simp only [decide_eq_true_eq, decide_eq_false_iff_not, Bool.not_eq_true', Bool.not_eq_false', Bool.not_true, Bool.not_false]; first | assumption | omega) | (simp; done)))) | ((with_reducible apply Step.callR fit); exact rfl; exact Tryd.func24; exact rfl; exact rfl; exact (hG _)) | ((with_reducible apply Step.callG fit (k := 0)); exact rfl; exact rfl; exact Tryd.func23; exact rfl; exact rfl; exact (h3 _); (focus (first | (simp only [List.nil_append, List.cons_append, List.set_cons_zero, List.set_cons_succ, iv_set, bv_set, iv_rep, bv_rep]; done) | (simp only [List.nil_append, List.cons_append, List.set_cons_zero, List.set_cons_succ, iv_set, bv_set, iv_rep, bv_rep]; rfl) | rfl))) | ((with_reducible apply Step.callG fit (k := 1)); exact rfl; exact rfl; exact Tryd.func23; exact rfl; exact rfl; exact (h3 _); (focus (first | (simp only [List.nil_append, List.cons_append, List.set_cons_zero, List.set_cons_succ, iv_set, bv_set, iv_rep, bv_rep]; done) | (simp only [List.nil_append, List.cons_append, List.set_cons_zero, List.set_cons_succ, iv_set, bv_set, iv_rep, bv_rep]; rfl) | rfl))) | ((with_reducible apply Step.callG fit (k := 2)); exact rfl; exact rfl; exact Tryd.func23; exact rfl; exact rfl; exact (h3 _); (focus (first | (simp only [List.nil_append, List.cons_append, List.set_cons_zero, List.set_cons_succ, iv_set, bv_set, iv_rep, bv_rep]; done) | (simp only [List.nil_append, List.cons_append, List.set_cons_zero, List.set_cons_succ, iv_set, bv_set, iv_rep, bv_rep]; rfl) | rfl))) | ((with_reducible apply Step.callG fit (k := 3)); exact rfl; exact rfl; exact Tryd.func23; exact rfl; exact rfl; exact (h3 _); (focus (first | (simp only [List.nil_append, List.cons_append, List.set_cons_zero, List.set_cons_succ, iv_set, bv_set, iv_rep, bv_rep]; done) | (simp only [List.nil_append, List.cons_append, List.set_cons_zero, List.set_cons_succ, iv_set, bv_set, iv_rep, bv_rep]; rfl) | rfl))) | ((with_reducible apply Step.callR fit); exact rfl; exact Tryd.func28; exact rfl; exact rfl; exact (hA _ _ _ (hs.old _) (kds_at (l := K) rfl))) | ((with_reducible apply Step.callR fit); exact rfl; exact Tryd.func28; exact rfl; exact rfl; exact (hB _ _ _ (hs.old _) (kds_at (l := K) rfl))) | ((with_reducible apply Step.callR fit); exact rfl; exact Tryd.func28; exact rfl; exact rfl; exact (hC _ _ _ (hs.old _) (kds_at (l := K) rfl))) | ((with_reducible apply Step.callR fit); exact rfl; exact Tryd.func22; exact rfl; exact rfl; exact (hD _ _ _ (hs.old _) (kds_at (l := K) rfl))) | ((with_reducible apply Step.callR fit); exact rfl; exact Tryd.func21; exact rfl; exact rfl; exact (awake_ok))) | (with_reducible refine AWo.nil ?_) | ((with_reducible apply AW.seq)) | ((with_reducible apply Then.n)) | ((with_reducible apply AW.regL)) | ((with_reducible apply AW.skip)) | ((with_reducible apply AW.condF); exact rfl; (focus (rfl)))))
      (refine AW.retD (l := [(6, _)]) (by repeat (first | exact trivial | (refine And.intro ⟨rfl, by (exact .bool _)⟩ ?_))) ?_; (repeat (first | refine Then.r ?_ | refine InBlk.r ?_)))
      exact ⟨_, rfl, rfl, rfl⟩
end Go.Proofs.YtibhgdglbillaaaDoor.Abs
namespace Go.Proofs.YtibhgdglbillaaaDoor.Abs
set_option linter.unusedSimpArgs false
set_option linter.unusedVariables false
open Go.RowKit
open Go.Proofs.YtibhgdglbillaaaDoor.Sim
open Go.ChangeShapes Go.WideShapes Go.Deep
def RelSelf (v : Value) : Prop := ∃ c, v = .agg c ∧ ∀ R, Rel R (.agg c) (.agg c)
def Okarg3 (W : World) (a : AR) : Prop := Okarg W a ∨ RelSelf a.1
theorem top_call3 {P : Program} {f : FuncId} {W : World} (ars : List AR) (h : ∀ a ∈ ars, Okarg3 W a) (hc : ACall P f (mkVs 0 ars).toArray (ars.map mkB) (Ret (.bool true) (ars.map mkB))) :
    Calls P f (ars.map (·.1)).toArray W fun e w' => e = .returned (.bool true) ∧ Below W.heap.size W w' := by
  let R : Pl := fun i => (ars[i]?).bind mkP
  have hm : MRep W.heap.size R (ars.map mkB) W := by
    refine ⟨fun i hi => ?_, fun i b hi => ?_, fun i j b c p q hi hj hb _ _ _ _ => ?_⟩
    · simp only [List.length_map] at hi
      simp [R, List.getElem?_eq_none hi]
    · rw [List.getElem?_map] at hi
      cases ha : ars[i]? with
      | none => rw [ha] at hi; cases hi
      | some a =>
        rw [ha] at hi
        simp only [Option.map_some, Option.some.injEq] at hi
        obtain ⟨v, c⟩ := a
        rcases h _ (List.mem_of_getElem? ha) with (h1 | ⟨bb, o, n, cap, h1, h2, h3, h4, h5⟩) | ⟨l, h1, hl⟩
        · simp only at h1
          cases v with
          | slice x n cap => cases x with
            | none => simp [mkB] at hi
            | some x => simp [g0] at h1
          | _ => simp [mkB] at hi
        · simp only at h1
          subst h1
          simp only [mkB, Option.some.injEq] at hi
          subst hi
          refine ⟨⟨bb, o, cap - n⟩, by simp [R, ha, mkP], h3, ?_⟩
          refine ⟨fun e => by simp at e, fun j x hj => ⟨x, h4 j x hj, g0_rel (h5 x (List.mem_of_getElem? hj))⟩⟩
        · simp only at h1
          subst h1
          simp [mkB] at hi
    · rw [List.getElem?_map] at hi
      cases ha : ars[i]? with
      | none => rw [ha] at hi; cases hi
      | some a =>
        rw [ha] at hi
        simp only [Option.map_some, Option.some.injEq] at hi
        obtain ⟨v, c'⟩ := a
        cases v with
        | slice x n cap => cases x with
          | none => simp [mkB] at hi
          | some x => simp only [mkB, Option.some.injEq] at hi; subst hi; cases hb
        | _ => simp [mkB] at hi
  have hargs : Rels R (mkVs 0 ars).toArray (ars.map (·.1)).toArray := by
    refine ⟨by simp [mkVs_len], fun i hi => ?_⟩
    simp only [List.size_toArray, mkVs_len] at hi
    have ha : ars[i]? = some ars[i] := List.getElem?_eq_getElem hi
    have e1 : (mkVs 0 ars).toArray.getD i undef = mkV i ars[i].1 := by
      simp [mkVs_get, ha]
    have e2 : (ars.map (·.1)).toArray.getD i undef = ars[i].1 := by simp [hi]
    rw [e1, e2]
    generalize ars[i] = a at ha
    obtain ⟨v, c⟩ := a
    rcases h _ (List.mem_of_getElem? ha) with (h1 | ⟨bb, o, n, cap, h1, h2, h3, h4, h5⟩) | ⟨l, h1, hl⟩
    · simp only at h1 ⊢
      cases v with
      | slice x n cap => cases x with
        | none => exact g0_rel h1
        | some x => simp [g0] at h1
      | _ => exact g0_rel h1
    · simp only at h1 ⊢
      subst h1
      have := Rel.slice (R := R) i 0 n n ⟨bb, o, cap - n⟩ (by simp [R, ha, mkP]) (Nat.le_refl _)
      rw [show n + (cap - n) = cap by omega] at this
      simpa [mkV] using this
    · simp only at h1 ⊢
      subst h1
      exact hl R
  refine (hc W.heap.size R W _ (Nat.le_refl _) hm hargs).mono ?_
  rintro e w' ⟨v, v', R', m', rfl, k1, k2, rfl, rfl⟩
  cases k1
  exact ⟨rfl, k2.below hm (Nat.le_refl _)⟩
theorem RelSelf.rect (r : Rc) : RelSelf r.v := ⟨_, rfl, fun R => rel_aggI R [r.x, r.y, r.w, r.h]⟩
theorem RelSelf.kind (k : Kd) : RelSelf k.v := ⟨_, rfl, fun R => .agg _ _ rfl fun i hi => by
  simp at hi
  rcases (show i = 0 ∨ i = 1 ∨ i = 2 ∨ i = 3 ∨ i = 4 by omega) with rfl | rfl | rfl | rfl | rfl
  · exact .int _ _
  · exact .int _ _
  · exact .int _ _
  · exact .int _ _
  · exact .bool _⟩
def sv (l : List ByteArray) : List Value := l.map .string
def kb (y : List Int × Bool) : List Value := iv y.1 ++ [.bool y.2]
theorem g0_kb (y : List Int × Bool) : ∀ v ∈ kb y, g0 v = true := fun v hv => by
  rcases List.mem_append.1 hv with h | h
  · exact g0_iv _ v h
  · simp at h; subst h; rfl
def kindB (P : Program) (f : Field) : Bool := match P.underlying f.type with | some .bool => true | _ => false
def kindI (P : Program) (f : Field) : Bool := match P.underlying f.type with | some (.int .i64) => true | _ => false
def fieldsKB (P : Program) (fs : Array Field) (q : Nat) : Bool := (List.range q).all (fun j => match fs[j]? with | some f => kindI P f | none => false) && match fs[q]? with | some f => kindB P f | none => false
theorem fieldsKB_int {P : Program} {fs : Array Field} {q j : Nat} {f : Field} (h : fieldsKB P fs q = true) (hj : fs[j]? = some f) (hq : j < q) : P.underlying f.type = some (.int .i64) := by
  simp only [fieldsKB, Bool.and_eq_true] at h
  have := List.all_eq_true.1 h.1 j (List.mem_range.2 hq)
  rw [hj] at this
  simp only [kindI] at this
  split at this
  · assumption
  · cases this
theorem fieldsKB_bool {P : Program} {fs : Array Field} {q : Nat} {f : Field} (h : fieldsKB P fs q = true) (hj : fs[q]? = some f) : P.underlying f.type = some .bool := by
  simp only [fieldsKB, Bool.and_eq_true] at h
  have := h.2
  rw [hj] at this
  simp only [kindB] at this
  split at this
  · assumption
  · cases this
section
variable {H : Type} {enc : TypeId × Value → H} {P : Program} {w : World} {base : Nat} {spare : Nat → Bool} {held : Bool}
theorem arg_strs {r : Reach} {b0 : Nat} {T e : TypeId} {a : Option Addr} {n c : Nat} {d : DataW H} {p : List MemPlace} (ht : P.underlying T = some (.slice e)) (he : P.underlying e = some .string) (hce : P.cellsOf e = 1) (hok : Value.okWide P w r b0 T (.slice a n c)) (h : DataW.Trod enc P w base spare held T (.slice a n c) d p) :
    ∃ l : List ByteArray, l.length = n ∧ n ≤ maxLen ∧ Okarg w (.slice a n c, sv l) ∧ ∀ M : AM, ∀ i, M[i]? = some (mkB (.slice a n c, sv l)) → Strs M (mkV i (.slice a n c)) l := by
  obtain ⟨fuel, h⟩ := h
  rcases ok_slice ht hok with ⟨rfl, rfl, rfl⟩ | ⟨b, o, rfl, hle, hlt⟩
  · exact ⟨[], rfl, by unfold maxLen; omega, .inl rfl, fun M i hi => ⟨i, 0, .inl ⟨rfl, rfl⟩, (List.getElem?_eq_some_iff.1 hi).1, fun k hk => by simp at hk⟩⟩
  · rcases open_strs ht he hce h with ⟨hcs, _⟩ | ⟨x, l, cap, m, S, hcs, _, hl, hm, hmm, _, hcell⟩
    · simp [Value.cells] at hcs
    · simp [Value.cells] at hcs
      obtain ⟨rfl, rfl, rfl⟩ := hcs
      have hnm : n ≤ m := by rw [hmm]; split <;> omega
      refine ⟨(List.range n).map S, by simp, by omega, .inr ⟨b, o, n, c, rfl, hle, hlt, fun j x hj => ?_, fun x hx => ?_⟩, fun M i hM => ?_⟩
      · have hjl := (List.getElem?_eq_some_iff.1 hj).1
        simp [sv] at hjl
        have := (hcell j (by omega)).1
        rw [Addr.add_lit] at this
        rw [this]
        simpa [sv, hjl] using hj
      · simp [sv] at hx
        obtain ⟨k, _, rfl⟩ := hx
        rfl
      · simp only [mkB] at hM
        refine ⟨i, 0, by simpa [mkV] using Sl.mk (Nat.le_refl n), (List.getElem?_eq_some_iff.1 hM).1, fun k hk => ⟨_, hM, ?_⟩⟩
        simp at hk
        simp [sv, rowOf, hk]
theorem arg_kb {r : Reach} {b0 : Nat} {T e : TypeId} {fs : Array Field} {a : Option Addr} {n c : Nat} {d : DataW H} {p : List MemPlace} (ht : P.underlying T = some (.slice e)) (he : P.underlying e = some (.struct fs)) (hone : oneCellFields P fs = true) (hC : P.cellsOf e = fs.size)
    {q : Nat} (hq : fs.size = q + 1) (hi : fieldsKB P fs q = true) (hok : Value.okWide P w r b0 T (.slice a n c)) (h : DataW.Trod enc P w base spare held T (.slice a n c) d p) :
    ∃ F : Nat → List Int × Bool, (∀ k, (F k).1.length = q) ∧ n ≤ maxLen ∧ Okarg w (.slice a n c, (List.range n).flatMap fun k => kb (F k)) ∧ (∀ M : AM, ∀ i, M[i]? = some (mkB (.slice a n c, (List.range n).flatMap fun k => kb (F k))) → Sl (mkV i (.slice a n c)) i 0 n ∧ i < M.length ∧ ∀ k, k < n → RdL M i (0 + k * fs.size) (kb (F k))) := by
  obtain ⟨fuel, h⟩ := h
  rcases ok_slice ht hok with ⟨rfl, rfl, rfl⟩ | ⟨b, o, rfl, hle, hlt⟩
  · exact ⟨fun _ => (List.replicate q 0, false), fun _ => by simp, by unfold maxLen; omega, .inl rfl, fun M i hi => ⟨.inl ⟨rfl, rfl⟩, (List.getElem?_eq_some_iff.1 hi).1, fun k hk => by omega⟩⟩
  · rcases open_slice_fields ht he hone hC h with ⟨hcs, _⟩ | ⟨x, l, cap, m, D, Pl, hcs, _, hl, hm, hmm, _, hrow⟩
    · simp [Value.cells] at hcs
    · simp [Value.cells] at hcs
      obtain ⟨rfl, rfl, rfl⟩ := hcs
      have key : ∀ k : Nat, ∃ y : List Int × Bool, y.1.length = q ∧ (k < n → ∀ j v, (kb y)[j]? = some v → w.cell? ⟨b, o + (k * fs.size + j), none⟩ = some v) := fun k => by
        by_cases hk : k < n
        · obtain ⟨ys, nn, _, _, _, hf⟩ := hrow k (by rw [hmm]; split <;> omega)
          have key2 : ∀ j : Nat, ∃ z : Int, j < q → w.cell? ⟨b, o + (k * fs.size + j), none⟩ = some (.int .i64 z) := fun j => by
            by_cases hj : j < q
            · obtain ⟨v, y, h1, _, h3⟩ := hf j fs[j] (Array.getElem?_eq_getElem (by omega))
              obtain ⟨z, hz, _⟩ := DataW.trod_int (fieldsKB_int hi (Array.getElem?_eq_getElem (by omega)) hj) h3
              simp at hz
              subst hz
              rw [Addr.add_lit] at h1
              exact ⟨z, fun _ => h1⟩
            · exact ⟨0, fun h => absurd h hj⟩
          obtain ⟨g, hg⟩ := Classical.axiomOfChoice key2
          obtain ⟨v, y, h1, _, h3⟩ := hf q (fs[q]'(by omega)) (Array.getElem?_eq_getElem (by omega))
          obtain ⟨z, hz, _⟩ := DataW.trod_bool (fieldsKB_bool hi (Array.getElem?_eq_getElem (by omega))) h3
          simp at hz
          subst hz
          rw [Addr.add_lit] at h1
          refine ⟨((List.range q).map g, z), by simp, fun _ j v hj => ?_⟩
          unfold kb at hj
          rcases Nat.lt_trichotomy j q with h | rfl | h
          · rw [List.getElem?_append_left (by simpa [iv] using h), iv_get (by simpa using h)] at hj
            injection hj with hj
            rw [hg j h, ← hj]
            simp [h]
          · rw [List.getElem?_append_right (by simp [iv])] at hj
            simp [iv] at hj
            rw [← hj]; exact h1
          · rw [List.getElem?_eq_none (by simp [iv]; omega)] at hj
            cases hj
        · exact ⟨(List.replicate q 0, false), by simp, fun h => absurd h hk⟩
      obtain ⟨F, hF⟩ := Classical.axiomOfChoice key
      have hlenF : ∀ k, (kb (F k)).length = fs.size := fun k => by unfold kb; rw [List.length_append, iv_len, (hF k).1, hq]; rfl
      have get : ∀ q, ∀ k, k < q → ∀ j v, (kb (F k))[j]? = some v → ((List.range q).flatMap fun k => kb (F k))[k * fs.size + j]? = some v := by
        intro q
        induction q with
        | zero => intro k hk; omega
        | succ q ih =>
          intro k hk j v hj
          have hjl : j < fs.size := by
            have := (List.getElem?_eq_some_iff.1 hj).1
            rwa [hlenF] at this
          have hql : ((List.range q).flatMap fun k => kb (F k)).length = q * fs.size := by
            clear ih hk hj
            induction q with
            | zero => simp
            | succ q ih2 => rw [List.range_succ, List.flatMap_append, List.length_append, ih2]; simp [hlenF, Nat.add_mul]
          rw [List.range_succ, List.flatMap_append]
          rcases Nat.lt_succ_iff_lt_or_eq.1 hk with h' | h'
          · have h2 : k * fs.size + fs.size ≤ q * fs.size := by
              have := Nat.mul_le_mul_right fs.size (show k + 1 ≤ q by omega)
              rw [Nat.add_mul] at this; omega
            rw [List.getElem?_append_left (by rw [hql]; omega)]
            exact ih k h' j v hj
          · subst h'
            rw [List.getElem?_append_right (by rw [hql]; omega), hql, Nat.add_sub_cancel_left]
            simpa using hj
      have tot : ∀ q, ((List.range q).flatMap fun k => kb (F k)).length = q * fs.size := fun q => by
        induction q with
        | zero => simp
        | succ q ih2 => rw [List.range_succ, List.flatMap_append, List.length_append, ih2]; simp [hlenF, Nat.add_mul]
      refine ⟨F, fun k => (hF k).1, by omega, .inr ⟨b, o, n, c, rfl, hle, hlt, fun j x hj => ?_, fun x hx => ?_⟩, fun M i hM => ?_⟩
      · have hjl := (List.getElem?_eq_some_iff.1 hj).1
        simp only at hjl hj
        rw [tot] at hjl
        have hs : 0 < fs.size := by
          rcases Nat.eq_zero_or_pos fs.size with h0 | h0
          · rw [h0] at hjl; omega
          · exact h0
        have hk : j / fs.size < n := (Nat.div_lt_iff_lt_mul hs).2 hjl
        have hr : j % fs.size < fs.size := Nat.mod_lt _ hs
        have e : j = j / fs.size * fs.size + j % fs.size := by rw [Nat.mul_comm]; exact (Nat.div_add_mod j fs.size).symm
        obtain ⟨v, hv⟩ : ∃ v, (kb (F (j / fs.size)))[j % fs.size]? = some v := ⟨_, List.getElem?_eq_getElem (by rw [hlenF]; exact hr)⟩
        have h1 := get n (j / fs.size) hk (j % fs.size) v hv
        rw [← e] at h1
        rw [h1] at hj
        injection hj with hj
        have h2 := (hF (j / fs.size)).2 hk (j % fs.size) v hv
        rw [← e] at h2
        rw [h2, hj]
      · obtain ⟨k, _, hk⟩ := List.mem_flatMap.1 hx
        exact g0_kb _ x hk
      · simp only [mkB] at hM
        refine ⟨Sl.mk (Nat.le_refl _), (List.getElem?_eq_some_iff.1 hM).1, fun k hk => ⟨_, hM, fun j v hj => ?_⟩⟩
        rw [Nat.zero_add]
        exact get n k hk j v hj
def kv (l : List Kd) : List Value := l.flatMap Kd.cells
theorem arg_kinds {r : Reach} {b0 : Nat} {T e : TypeId} {fs : Array Field} {a : Option Addr} {n c : Nat} {d : DataW H} {p : List MemPlace} (ht : P.underlying T = some (.slice e)) (he : P.underlying e = some (.struct fs)) (hone : oneCellFields P fs = true) (hC : P.cellsOf e = fs.size)
    (hq : fs.size = 4 + 1) (hi : fieldsKB P fs 4 = true) (hok : Value.okWide P w r b0 T (.slice a n c)) (h : DataW.Trod enc P w base spare held T (.slice a n c) d p) :
    ∃ l : List Kd, l.length = n ∧ n ≤ maxLen ∧ Okarg w (.slice a n c, kv l) ∧ ∀ M : AM, ∀ i, M[i]? = some (mkB (.slice a n c, kv l)) → Kds M (mkV i (.slice a n c)) l := by
  obtain ⟨F, h1, h2, h3, h4⟩ := arg_kb ht he hone hC hq hi hok h
  have key : ∀ k, ∃ x : Kd, kb (F k) = x.cells := fun k => by
    have hk := h1 k
    generalize F k = y at hk ⊢
    obtain ⟨l, b⟩ := y
    simp only at hk
    match l, hk with
    | [x, y, z, u], _ => exact ⟨⟨x, y, z, u, b⟩, rfl⟩
  obtain ⟨G, hG⟩ := Classical.axiomOfChoice key
  have e : ((List.range n).flatMap fun k => kb (F k)) = kv ((List.range n).map G) := by
    unfold kv
    rw [List.flatMap_map]
    congr 1
    funext k
    exact hG k
  rw [e] at h3 h4
  refine ⟨(List.range n).map G, by simp, h2, h3, fun M i hM => ?_⟩
  obtain ⟨k1, k2, k3⟩ := h4 M i hM
  refine ⟨i, 0, by simpa using k1, k2, fun k hk => ?_⟩
  simp at hk
  have := k3 k hk
  rw [hq, hG k] at this
  have eg : ((List.range n).map G).getD k default = G k := by simp [hk]
  rw [eg]
  exact this
end
end Go.Proofs.YtibhgdglbillaaaDoor.Abs
