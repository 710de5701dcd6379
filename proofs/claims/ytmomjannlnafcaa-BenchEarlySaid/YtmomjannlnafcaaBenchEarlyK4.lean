/- Proved here: what the proof of BenchEarly rests on, part 4 of 4. Conditions: those that each theorem names. -/
import Derived.Test.YtmomjannlnafcaaBenchEarlyK3
namespace Go.Proofs.Ytmomjannlnafcaa.Abs
set_option linter.unusedSimpArgs false
set_option linter.unusedVariables false
open Go.RowKit
open Go.Proofs.Ytmomjannlnafcaa.Sim
open Go.Proofs
def eJ (j : List Job) : List Int := eaR j (sortL j) (sortL j).length
def lJ (j : List Job) : List Int := laL j (mxL (eJ j) j.length) (sortL j).reverse
def crJ (j : List Job) : List Nat := (List.range j.length).filter fun i => decide ((eJ j).getD i 0 = (lJ j).getD i 0)
theorem eJ_len (j : List Job) : (eJ j).length = j.length := eaR_len _ _ _
theorem lJ_len (j : List Job) : (lJ j).length = j.length := laL_len _ _ _
/-- A row of ints, whose result with no error is handed back. -/
def RowR (row : List Int) (m : AM) : Value → AM → Prop := More (fun M x => ∃ u, x = .tuple #[u, .int .i64 0] ∧ Ints M u row) m
theorem late_ok {m : AM} {v : Value} {j : List Job} {N : Nat} (hj : Jobs m v j) (hok : jobsB j = true) (hn : (sortL j).length = j.length) (hu : Ints m (gv N j.length) (nv (sortL j))) (hR : 0 < j.length → ∀ q, q < (sortL j).length → Rd m N (0 + q) (.int .i64 (((sortL j).getD q 0 : Nat) : Int))) :
    ACall Try.prog 80 #[v, gv N j.length] m (More (fun M x => ∃ a, m.length ≤ a ∧ x = .slice (some ⟨a, 0, none⟩) j.length j.length ∧ M[a]? = some (some { cells := iv (lJ j) })) m) := by
  have hJ := JOk.of hok
  by_cases h0 : j.length = 0
  · have key := late_zero hj hJ h0
    have e : lJ j = [] := List.eq_nil_of_length_eq_zero (by rw [lJ_len]; exact h0)
    rw [e, h0]
    exact key
  · have e : gv N j.length = .slice (some ⟨N, 0, none⟩) (sortL j).length j.length := by unfold gv; rw [if_neg h0, hn]
    rw [e] at hu ⊢
    exact late_pos hj hu hJ (sortL_topo j) hn (by omega) (by omega) (hR (by omega)) rfl
theorem gv_rd {M L : AM} {k : Nat} {P : List Nat} (h : L[k]? = some (gb (iv (nv P)) 1)) : ∀ q, q < P.length → Rd (M ++ L) (M.length + k) (0 + q) (.int .i64 ((P.getD q 0 : Nat) : Int)) := fun q hq => by
  rw [gb_pos (by rw [iv_len, nv_len]; omega)] at h
  have := iv_get (l := nv P) (k := q) (by rw [nv_len]; exact hq)
  rw [nv_get hq] at this
  exact Rd.new h (by rw [Nat.zero_add]; exact this)
set_option maxHeartbeats 2000000 in
set_option maxRecDepth 100000 in
theorem Early_ok {m : AM} {v : Value} {j : List Job} (hj : Jobs m v j) (hok : jobsB j = true) (hn : (sortL j).length = j.length) : ACall Try.prog 33 #[v] m (RowR (eJ j) m) := by
  have hJ := JOk.of hok
  have h40 := hJ.len
  have hE := fun T => early_ok (m := m ++ (gb (iv (nv (sortL j))) 1 :: T)) (hj.old _) (gints (k := 0) rfl (by rw [nv_len, hn])) hJ (fun q hq => (sortL_topo j).in_ hq) (by omega) (show eaR j (sortL j) (sortL j).length = eJ j from rfl)
  refine ACall.start Try.func33 rfl rfl ?_
  (repeat (first | (with_reducible refine AWo.cons ?_) | ((with_reducible refine Step.id ?_); first | ((with_reducible apply Step.move); exact rfl; exact rfl) | ((with_reducible apply Step.assign); exact rfl; exact rfl) | ((with_reducible apply Step.neq); exact rfl; exact rfl; exact rfl) | ((with_reducible apply Step.extract); exact rfl; exact rfl; exact rfl) | ((with_reducible apply Step.callT fit (k := 0)); exact rfl; exact rfl; exact Try.func78; exact rfl; exact rfl; exact (checked_ok (hj.old []) hok hn); (focus (first | (simp only [List.nil_append, List.cons_append, List.set_cons_zero, List.set_cons_succ, iv_set, bv_set, iv_rep, bv_rep]; done) | (simp only [List.nil_append, List.cons_append, List.set_cons_zero, List.set_cons_succ, iv_set, bv_set, iv_rep, bv_rep]; rfl) | rfl))) | ((with_reducible apply Step.callN fit (k := 1)); exact rfl; exact rfl; exact Try.func79; exact rfl; exact rfl; exact (hE _); (focus (first | (simp only [List.nil_append, List.cons_append, List.set_cons_zero, List.set_cons_succ, iv_set, bv_set, iv_rep, bv_rep]; done) | (simp only [List.nil_append, List.cons_append, List.set_cons_zero, List.set_cons_succ, iv_set, bv_set, iv_rep, bv_rep]; rfl) | rfl)))) | (with_reducible refine AWo.nil ?_) | ((with_reducible apply AW.seq)) | ((with_reducible apply Then.n)) | ((with_reducible apply AW.regL)) | ((with_reducible apply AW.skip)) | ((with_reducible apply AW.condF); exact rfl; (focus (rfl)))))
  (refine AW.ret ?_; (repeat (first | refine Then.r ?_ | refine InBlk.r ?_)))
  exact ⟨_, rfl, _, rfl, _, rfl, m.length + 1, 0, by rw [eJ_len]; exact Sl.mk (Nat.le_refl _), by simp, fun k hk => Rd.new (k := 1) rfl (by rw [Nat.zero_add]; exact iv_get hk)⟩
set_option maxRecDepth 100000 in
theorem Early_no {m : AM} {v : Value} {e : Int} (h : ∀ L, ACall Try.prog 78 #[v] (m ++ L) (Ret (.tuple #[.slice none 0 0, .int .i64 e]) (m ++ L))) (he : e ≠ 0) : ACall Try.prog 33 #[v] m (Ret (.tuple #[.slice none 0 0, .int .i64 e]) m) := by
  refine ACall.start Try.func33 rfl rfl ?_
  (repeat (first | (with_reducible refine AWo.cons ?_) | ((with_reducible refine Step.id ?_); first | ((with_reducible apply Step.move); exact rfl; exact rfl) | ((with_reducible apply Step.assign); exact rfl; exact rfl) | ((with_reducible apply Step.neq); exact rfl; exact rfl; exact rfl) | ((with_reducible apply Step.extract); exact rfl; exact rfl; exact rfl) | ((with_reducible apply Step.callR fit); exact rfl; exact Try.func78; exact rfl; exact rfl; exact (h _))) | (with_reducible refine AWo.nil ?_) | ((with_reducible apply AW.seq)) | ((with_reducible apply Then.n)) | ((with_reducible apply AW.regL)) | ((with_reducible apply AW.condT); exact rfl; (focus ((simp only [decide_eq_true_eq, decide_eq_false_iff_not, Bool.not_eq_true', Bool.not_eq_false', Bool.not_true, Bool.not_false]; first | assumption | omega))))))
  (refine AW.retD (l := [(2, _), (3, _)]) (by repeat (first | exact trivial | (refine And.intro ⟨rfl, by (first | exact .int _ _ | exact Ren.of_g0 rfl)⟩ ?_))) ?_; (repeat (first | refine Then.r ?_ | refine InBlk.r ?_)))
  exact ⟨_, rfl, rfl, rfl⟩
set_option maxHeartbeats 2000000 in
set_option maxRecDepth 100000 in
theorem Late_ok {m : AM} {v : Value} {j : List Job} (hj : Jobs m v j) (hok : jobsB j = true) (hn : (sortL j).length = j.length) : ACall Try.prog 36 #[v] m (RowR (lJ j) m) := by
  have hL := fun T => late_ok (m := m ++ (gb (iv (nv (sortL j))) 1 :: T)) (N := m.length + 0) (hj.old _) hok hn (gints (k := 0) rfl (by rw [nv_len, hn])) (fun _ => gv_rd rfl)
  refine ACall.start Try.func36 rfl rfl ?_
  (repeat (first | (with_reducible refine AWo.cons ?_) | ((with_reducible refine Step.id ?_); first | ((with_reducible apply Step.move); exact rfl; exact rfl) | ((with_reducible apply Step.assign); exact rfl; exact rfl) | ((with_reducible apply Step.neq); exact rfl; exact rfl; exact rfl) | ((with_reducible apply Step.extract); exact rfl; exact rfl; exact rfl) | ((with_reducible apply Step.callT fit (k := 0)); exact rfl; exact rfl; exact Try.func78; exact rfl; exact rfl; exact (checked_ok (hj.old []) hok hn); (focus (first | (simp only [List.nil_append, List.cons_append, List.set_cons_zero, List.set_cons_succ, iv_set, bv_set, iv_rep, bv_rep]; done) | (simp only [List.nil_append, List.cons_append, List.set_cons_zero, List.set_cons_succ, iv_set, bv_set, iv_rep, bv_rep]; rfl) | rfl)))) | (with_reducible refine AWo.nil ?_) | ((with_reducible apply AW.seq)) | ((with_reducible apply Then.n)) | ((with_reducible apply AW.regL)) | ((with_reducible apply AW.skip)) | ((with_reducible apply AW.condF); exact rfl; (focus (rfl)))))
  ((with_reducible apply Step.callX fit); exact rfl; exact Try.func80; exact rfl; exact rfl; exact (hL _))
  rintro x M1 ⟨N1, hN1⟩ ⟨a, ha, rfl, hca⟩
  (repeat (first | (with_reducible refine AWo.cons ?_) | ((with_reducible refine Step.id ?_); ((with_reducible apply Step.assign); exact rfl; exact rfl)) | (with_reducible refine AWo.nil ?_) | ((with_reducible apply Then.n))))
  (refine AW.ret ?_; (repeat (first | refine Then.r ?_ | refine InBlk.r ?_)))
  have hal := (List.getElem?_eq_some_iff.1 hca).1
  exact ⟨_, rfl, _, by rw [hN1, List.append_assoc, List.append_assoc], _, rfl, a, 0, by rw [lJ_len]; exact Sl.mk (Nat.le_refl _), by rw [List.append_nil]; exact hal, fun k hk => Rd.old _ ⟨_, hca, by rw [Nat.zero_add]; exact iv_get hk⟩⟩
set_option maxRecDepth 100000 in
theorem Late_no {m : AM} {v : Value} {e : Int} (h : ∀ L, ACall Try.prog 78 #[v] (m ++ L) (Ret (.tuple #[.slice none 0 0, .int .i64 e]) (m ++ L))) (he : e ≠ 0) : ACall Try.prog 36 #[v] m (Ret (.tuple #[.slice none 0 0, .int .i64 e]) m) := by
  refine ACall.start Try.func36 rfl rfl ?_
  (repeat (first | (with_reducible refine AWo.cons ?_) | ((with_reducible refine Step.id ?_); first | ((with_reducible apply Step.move); exact rfl; exact rfl) | ((with_reducible apply Step.assign); exact rfl; exact rfl) | ((with_reducible apply Step.neq); exact rfl; exact rfl; exact rfl) | ((with_reducible apply Step.extract); exact rfl; exact rfl; exact rfl) | ((with_reducible apply Step.callR fit); exact rfl; exact Try.func78; exact rfl; exact rfl; exact (h _))) | (with_reducible refine AWo.nil ?_) | ((with_reducible apply AW.seq)) | ((with_reducible apply Then.n)) | ((with_reducible apply AW.regL)) | ((with_reducible apply AW.condT); exact rfl; (focus ((simp only [decide_eq_true_eq, decide_eq_false_iff_not, Bool.not_eq_true', Bool.not_eq_false', Bool.not_true, Bool.not_false]; first | assumption | omega))))))
  (refine AW.retD (l := [(2, _), (3, _)]) (by repeat (first | exact trivial | (refine And.intro ⟨rfl, by (first | exact .int _ _ | exact Ren.of_g0 rfl)⟩ ?_))) ?_; (repeat (first | refine Then.r ?_ | refine InBlk.r ?_)))
  exact ⟨_, rfl, rfl, rfl⟩
set_option maxRecDepth 100000 in
theorem Critical_no {m : AM} {v : Value} {e : Int} (h : ∀ L, ACall Try.prog 78 #[v] (m ++ L) (Ret (.tuple #[.slice none 0 0, .int .i64 e]) (m ++ L))) (he : e ≠ 0) : ACall Try.prog 38 #[v] m (Ret (.tuple #[.slice none 0 0, .int .i64 e]) m) := by
  refine ACall.start Try.func38 rfl rfl ?_
  (repeat (first | (with_reducible refine AWo.cons ?_) | ((with_reducible refine Step.id ?_); first | ((with_reducible apply Step.move); exact rfl; exact rfl) | ((with_reducible apply Step.assign); exact rfl; exact rfl) | ((with_reducible apply Step.neq); exact rfl; exact rfl; exact rfl) | ((with_reducible apply Step.extract); exact rfl; exact rfl; exact rfl) | ((with_reducible apply Step.callR fit); exact rfl; exact Try.func78; exact rfl; exact rfl; exact (h _))) | (with_reducible refine AWo.nil ?_) | ((with_reducible apply AW.seq)) | ((with_reducible apply Then.n)) | ((with_reducible apply AW.regL)) | ((with_reducible apply AW.condT); exact rfl; (focus ((simp only [decide_eq_true_eq, decide_eq_false_iff_not, Bool.not_eq_true', Bool.not_eq_false', Bool.not_true, Bool.not_false]; first | assumption | omega))))))
  (refine AW.retD (l := [(2, _), (3, _)]) (by repeat (first | exact trivial | (refine And.intro ⟨rfl, by (first | exact .int _ _ | exact Ren.of_g0 rfl)⟩ ?_))) ?_; (repeat (first | refine Then.r ?_ | refine InBlk.r ?_)))
  exact ⟨_, rfl, rfl, rfl⟩
set_option maxRecDepth 100000 in
theorem f84_ok {m : AM} {p1 p2 a b n : Nat} {A B : List Int} (x : Nat) (hx : x < n) (h1 : Rd m p1 0 (.slice (some ⟨a, 0, none⟩) n n)) (h2 : Rd m p2 0 (.slice (some ⟨b, 0, none⟩) n n)) (hA : ∀ k, k < n → Rd m a k (.int .i64 (A.getD k 0))) (hB : ∀ k, k < n → Rd m b k (.int .i64 (B.getD k 0))) :
    ACall Try.prog 84 #[.int .i64 (x : Nat), .pointer (some ⟨p1, 0, none⟩), .pointer (some ⟨p2, 0, none⟩)] m (Ret (.bool (!decide (A.getD x 0 = B.getD x 0))) m) := by
  have ha := hA x hx
  have hb := hB x hx
  refine ACall.start Try.func84 rfl rfl ?_
  rw [← List.append_nil m] at h1 h2 ha hb
  (repeat (first | (with_reducible refine AWo.cons ?_) | ((with_reducible refine Step.id ?_); first | ((with_reducible apply Step.move); exact rfl; exact rfl) | ((with_reducible apply Step.assign); exact rfl; exact rfl) | ((with_reducible apply Step.load); exact rfl; (focus (decide +kernel)); exact rfl; (focus (assumption))) | ((with_reducible apply Step.ix1z); exact rfl; (focus (exact Sl.mk (by omega))); exact rfl; (focus (decide +kernel)); exact rfl; (focus (omega))) | ((with_reducible apply Step.neq); exact rfl; exact rfl; exact rfl)) | (with_reducible refine AWo.nil ?_) | ((with_reducible apply AW.seq)) | ((with_reducible apply Then.n)) | ((with_reducible apply AW.regL)) | ((with_reducible apply AW.drawL fit); (focus (decide +kernel)))))
  (refine AW.retD (l := [(4, _)]) (by repeat (first | exact trivial | (refine And.intro ⟨rfl, by (exact .bool _)⟩ ?_))) ?_; (repeat (first | refine Then.r ?_ | refine InBlk.r ?_)))
  exact ⟨_, rfl, rfl, rfl⟩
end Go.Proofs.Ytmomjannlnafcaa.Abs
namespace Go.Proofs.Ytmomjannlnafcaa.Abs
set_option linter.unusedSimpArgs false
set_option linter.unusedVariables false
open Go.RowKit
open Go.Proofs.Ytmomjannlnafcaa.Sim
open Go.Proofs
theorem st_at {M L L' : AM} {k : Nat} {kd : Kind} {s : Nat} {row : List Int} (h : L.set k (some { cells := iv row, kind := kd, size := s }) = L') : St (M ++ L) (M.length + k) kd s row = M ++ L' := by
  unfold St
  rw [List.set_append_right _ _ (by omega), show M.length + k - M.length = k by omega, h]
theorem cast_filter (n : Nat) (p : Int → Bool) (q : Nat → Bool) (h : ∀ i, i < n → p (i : Int) = q i) : ((List.range n).map (Nat.cast : Nat → Int)).filter p = ((List.range n).filter q).map (Nat.cast : Nat → Int) := by
  rw [List.filter_map]
  congr 1
  refine List.filter_congr fun i hi => ?_
  exact h i (List.mem_range.1 hi)
set_option maxHeartbeats 4000000 in
set_option maxRecDepth 100000 in
theorem Critical_ok {m : AM} {v : Value} {j : List Job} (hj : Jobs m v j) (hok : jobsB j = true) (hn : (sortL j).length = j.length) : ACall Try.prog 38 #[v] m (RowR (nv (crJ j)) m) := by
  have hJ := JOk.of hok
  have h40 := hJ.len
  have hE := fun T => early_ok (m := m ++ (gb (iv (nv (sortL j))) 1 :: T)) (hj.old _) (gints (k := 0) rfl (by rw [nv_len, hn])) hJ (fun q hq => (sortL_topo j).in_ hq) (by omega) (show eaR j (sortL j) (sortL j).length = eJ j from rfl)
  have hL := fun T => late_ok (m := m ++ (gb (iv (nv (sortL j))) 1 :: T)) (N := m.length + 0) (hj.old _) hok hn (gints (k := 0) rfl (by rw [nv_len, hn])) (fun _ => gv_rd rfl)
  have hel := eJ_len j
  have hll := lJ_len j
  obtain ⟨a, o, h1, h2, h3⟩ := id hj
  obtain ⟨qv, cv, rfl⟩ : ∃ q c, v = .slice q j.length c := by rcases h1 with ⟨rfl, h⟩ | ⟨c, _, rfl⟩ | ⟨h, o', k, rfl⟩; exact ⟨none, 0, by rw [h]⟩; exact ⟨_, _, rfl⟩; exact ⟨_, 0, by rw [h]⟩
  have hup := fun M => upTo_ok (m := M) j.length (by omega)
  refine ACall.start Try.func38 rfl rfl ?_
  (repeat (first | (with_reducible refine AWo.cons ?_) | ((with_reducible refine Step.id ?_); first | ((with_reducible apply Step.move); exact rfl; exact rfl) | ((with_reducible apply Step.assign); exact rfl; exact rfl) | ((with_reducible apply Step.neq); exact rfl; exact rfl; exact rfl) | ((with_reducible apply Step.extract); exact rfl; exact rfl; exact rfl) | ((with_reducible apply Step.callT fit (k := 0)); exact rfl; exact rfl; exact Try.func78; exact rfl; exact rfl; exact (checked_ok (hj.old []) hok hn); (focus (first | (simp only [List.nil_append, List.cons_append, List.set_cons_zero, List.set_cons_succ, iv_set, bv_set, iv_rep, bv_rep]; done) | (simp only [List.nil_append, List.cons_append, List.set_cons_zero, List.set_cons_succ, iv_set, bv_set, iv_rep, bv_rep]; rfl) | rfl))) | ((with_reducible apply Step.callN fit (k := 1)); exact rfl; exact rfl; exact Try.func79; exact rfl; exact rfl; exact (hE _); (focus (first | (simp only [List.nil_append, List.cons_append, List.set_cons_zero, List.set_cons_succ, iv_set, bv_set, iv_rep, bv_rep]; done) | (simp only [List.nil_append, List.cons_append, List.set_cons_zero, List.set_cons_succ, iv_set, bv_set, iv_rep, bv_rep]; rfl) | rfl)))) | (with_reducible refine AWo.nil ?_) | ((with_reducible apply AW.seq)) | ((with_reducible apply Then.n)) | ((with_reducible apply AW.regL)) | ((with_reducible apply AW.skip)) | ((with_reducible apply AW.condF); exact rfl; (focus (rfl)))))
  ((with_reducible apply Step.callX fit); exact rfl; exact Try.func80; exact rfl; exact rfl; exact (hL _))
  rintro x M1 ⟨N1, hN1⟩ ⟨b, hb, rfl, hcb⟩
  have hbl := (List.getElem?_eq_some_iff.1 hcb).1
  have hca : M1[m.length + 1]? = some (some { cells := iv (eJ j) }) := by rw [hN1]; exact get_old _ (by rw [get_app]; rfl)
  have hal := (List.getElem?_eq_some_iff.1 hca).1
  have hm1 : ∃ N, M1 = m ++ N := ⟨_, by rw [hN1, List.append_assoc]⟩
  have hg : ∀ row x, x ∈ (List.range j.length).map (Nat.cast : Nat → Int) → ACall Try.prog 84 (#[] ++ #[.int .i64 x] ++ #[.pointer (some ⟨M1.length + 0, 0, none⟩), .pointer (some ⟨M1.length + 1, 0, none⟩)])
      (St (M1 ++ [some { cells := [.slice (some ⟨m.length + 1, 0, none⟩) j.length j.length] }, some { cells := [.slice (some ⟨b, 0, none⟩) j.length j.length] }, some { cells := iv ((List.range j.length).map (Nat.cast : Nat → Int)) }]) (M1.length + 2) .own 1 row)
      (Ret (.bool (!decide ((eJ j).getD x.toNat 0 = (lJ j).getD x.toNat 0))) (St (M1 ++ [some { cells := [.slice (some ⟨m.length + 1, 0, none⟩) j.length j.length] }, some { cells := [.slice (some ⟨b, 0, none⟩) j.length j.length] }, some { cells := iv ((List.range j.length).map (Nat.cast : Nat → Int)) }]) (M1.length + 2) .own 1 row)) := fun row x hx => by
    obtain ⟨k, hk, rfl⟩ := List.mem_map.1 hx
    have hk := List.mem_range.1 hk
    rw [st_at rfl]
    exact f84_ok (p1 := M1.length + 0) (p2 := M1.length + 1) (a := m.length + 1) (b := b) (n := j.length) (A := eJ j) (B := lJ j) k hk (Rd.new (k := 0) rfl rfl) (Rd.new (k := 1) rfl rfl) (fun i hi => Rd.old _ ⟨_, hca, iv_get (by omega)⟩) (fun i hi => Rd.old _ ⟨_, hcb, iv_get (by omega)⟩)
  have hd := delete_ok (m := M1 ++ [some { cells := [.slice (some ⟨m.length + 1, 0, none⟩) j.length j.length] }, some { cells := [.slice (some ⟨b, 0, none⟩) j.length j.length] }, some { cells := iv ((List.range j.length).map (Nat.cast : Nat → Int)) }]) (r := M1.length + 2) (s := 1) (kd := .own) (A := (List.range j.length).map (Nat.cast : Nat → Int)) (Z := []) (n := j.length) (c := j.length) (g := 84)
    (cap := #[.pointer (some ⟨M1.length + 0, 0, none⟩), .pointer (some ⟨M1.length + 1, 0, none⟩)]) (fun x => !decide ((eJ j).getD x.toNat 0 = (lJ j).getD x.toNat 0)) (by simp) rfl Try.func84 rfl (by simp) (Nat.le_refl _) (by omega) hg
  have hfil : ((List.range j.length).map (Nat.cast : Nat → Int)).filter (fun x => !(fun x : Int => !decide ((eJ j).getD x.toNat 0 = (lJ j).getD x.toNat 0)) x) = nv (crJ j) := by
    unfold nv crJ
    exact cast_filter _ _ _ fun i hi => by simp
  rw [hfil, st_at rfl, st_at rfl] at hd
  simp only [List.append_nil, List.set_cons_succ, List.set_cons_zero] at hd
  clear hg hfil
  (repeat (first | (with_reducible refine AWo.cons ?_) | ((with_reducible refine Step.id ?_); first | ((with_reducible apply Step.move); exact rfl; exact rfl) | ((with_reducible apply Step.assign); exact rfl; exact rfl) | ((with_reducible apply Step.len); exact rfl; (focus (assumption)); (focus (decide +kernel)); exact rfl) | ((with_reducible apply Step.fn); exact rfl; exact rfl; exact rfl) | ((with_reducible apply Step.callN fit (k := 2)); exact rfl; exact rfl; exact Try.func83; exact rfl; exact rfl; exact (hup _); (focus (first | (simp only [List.nil_append, List.cons_append, List.set_cons_zero, List.set_cons_succ, iv_set, bv_set, iv_rep, bv_rep]; done) | (simp only [List.nil_append, List.cons_append, List.set_cons_zero, List.set_cons_succ, iv_set, bv_set, iv_rep, bv_rep]; rfl) | rfl))) | ((with_reducible apply Step.callM fit); exact rfl; exact Try.func82; exact rfl; exact rfl; exact (hd)) | ((with_reducible apply Step.alloc 0); exact rfl; exact ze23; exact rfl; (focus (first | (simp only [List.nil_append, List.cons_append, List.set_cons_zero, List.set_cons_succ, iv_set, bv_set, iv_rep, bv_rep]; done) | (simp only [List.nil_append, List.cons_append, List.set_cons_zero, List.set_cons_succ, iv_set, bv_set, iv_rep, bv_rep]; rfl) | rfl))) | ((with_reducible apply Step.store (k := 0)); exact rfl; exact rfl; exact rfl; exact rfl; (focus (decide +kernel)); exact rfl; exact rfl; (focus (first | omega | (simp [iv, bv]; done) | (simp [iv, bv]; omega))); (focus (first | (simp only [List.nil_append, List.cons_append, List.set_cons_zero, List.set_cons_succ, iv_set, bv_set, iv_rep, bv_rep]; done) | (simp only [List.nil_append, List.cons_append, List.set_cons_zero, List.set_cons_succ, iv_set, bv_set, iv_rep, bv_rep]; rfl) | rfl))) | ((with_reducible apply Step.alloc 1); exact rfl; exact ze23; exact rfl; (focus (first | (simp only [List.nil_append, List.cons_append, List.set_cons_zero, List.set_cons_succ, iv_set, bv_set, iv_rep, bv_rep]; done) | (simp only [List.nil_append, List.cons_append, List.set_cons_zero, List.set_cons_succ, iv_set, bv_set, iv_rep, bv_rep]; rfl) | rfl))) | ((with_reducible apply Step.store (k := 1)); exact rfl; exact rfl; exact rfl; exact rfl; (focus (decide +kernel)); exact rfl; exact rfl; (focus (first | omega | (simp [iv, bv]; done) | (simp [iv, bv]; omega))); (focus (first | (simp only [List.nil_append, List.cons_append, List.set_cons_zero, List.set_cons_succ, iv_set, bv_set, iv_rep, bv_rep]; done) | (simp only [List.nil_append, List.cons_append, List.set_cons_zero, List.set_cons_succ, iv_set, bv_set, iv_rep, bv_rep]; rfl) | rfl)))) | (with_reducible refine AWo.nil ?_) | ((with_reducible apply AW.seq)) | ((with_reducible apply Then.n)) | ((with_reducible apply AW.regL))))
  (refine AW.ret ?_; (repeat (first | refine Then.r ?_ | refine InBlk.r ?_)))
  obtain ⟨N, hN⟩ := hm1
  refine ⟨_, rfl, _, by rw [hN, List.append_assoc], _, rfl, M1.length + 2, 0, Sl.mk ?_, by simp, fun k hk => ?_⟩
  · rw [nv_len]
    have := List.length_filter_le (fun i => decide ((eJ j).getD i 0 = (lJ j).getD i 0)) (List.range j.length)
    rw [List.length_range] at this
    exact this
  · refine Rd.new (k := 2) rfl ?_
    rw [Nat.zero_add]
    have := iv_get (l := nv (crJ j) ++ List.replicate (j.length - (nv (crJ j)).length) 0) (k := k) (by rw [List.length_append]; omega)
    rw [getD_l hk] at this
    exact this
end Go.Proofs.Ytmomjannlnafcaa.Abs
namespace Go.Proofs.Ytmomjannlnafcaa.Abs
set_option linter.unusedSimpArgs false
set_option linter.unusedVariables false
def rlI (j : List Job) (row : List Int) (i : Nat) : Nat → List Int
  | 0 => row
  | k + 1 => if (i : Int) ∈ aft j k then (rlI j row i k).set i (min ((rlI j row i k).getD i 0) ((rlI j row i k).getD k 0 - tmJ j k)) else rlI j row i k
def rlR (j : List Job) (P : List Nat) (last : Int) : Nat → List Int
  | 0 => List.replicate j.length 0
  | s + 1 => rlI j ((rlR j P last s).set (P.getD (P.length - 1 - s) 0) last) (P.getD (P.length - 1 - s) 0) j.length
theorem rlI_len (j : List Job) (row : List Int) (i : Nat) : ∀ k, (rlI j row i k).length = row.length
  | 0 => rfl
  | k + 1 => by
    rw [rlI]
    split
    · simp [rlI_len j row i k]
    · exact rlI_len j row i k
theorem rlR_len (j : List Job) (P : List Nat) (last : Int) : ∀ s, (rlR j P last s).length = j.length
  | 0 => by simp [rlR]
  | s + 1 => by rw [rlR, rlI_len, List.length_set, rlR_len j P last s]
theorem rlI_ne {j : List Job} {row : List Int} {i k : Nat} (h : k ≠ i) : ∀ s, (rlI j row i s).getD k 0 = row.getD k 0
  | 0 => rfl
  | s + 1 => by
    rw [rlI]
    split
    · rw [← rlI_ne (j := j) (row := row) h s]
      simp only [List.getD_eq_getElem?_getD]
      rw [List.getElem?_set_ne (Ne.symm h)]
    · exact rlI_ne h s
theorem rlI_at {j : List Job} {row : List Int} {i : Nat} (hi : i < row.length) (hself : ∀ k, k < j.length → (i : Int) ∈ aft j k → k ≠ i) : ∀ s, s ≤ j.length →
    (rlI j row i s).getD i 0 ≤ row.getD i 0 ∧ (∀ k, k < s → (i : Int) ∈ aft j k → (rlI j row i s).getD i 0 ≤ row.getD k 0 - tmJ j k) ∧
      ((rlI j row i s).getD i 0 = row.getD i 0 ∨ ∃ k, k < s ∧ (i : Int) ∈ aft j k ∧ (rlI j row i s).getD i 0 = row.getD k 0 - tmJ j k)
  | 0, _ => ⟨Int.le_refl _, fun q hq => absurd hq (by omega), .inl rfl⟩
  | s + 1, hs => by
    obtain ⟨h1, h2, h3⟩ := rlI_at (j := j) hi hself s (by omega)
    by_cases hm : (i : Int) ∈ aft j s
    · have hne := hself s (by omega) hm
      have e : (rlI j row i (s + 1)).getD i 0 = min ((rlI j row i s).getD i 0) (row.getD s 0 - tmJ j s) := by
        rw [rlI, if_pos hm, getDs _ _ _ _ (by rw [rlI_len]; exact hi), if_pos rfl, rlI_ne hne]
      rw [e]
      refine ⟨Int.le_trans (Int.min_le_left _ _) h1, fun k hk hmk => ?_, ?_⟩
      · rcases Nat.lt_succ_iff_lt_or_eq.1 hk with hk | rfl
        · exact Int.le_trans (Int.min_le_left _ _) (h2 k hk hmk)
        · exact Int.min_le_right _ _
      · by_cases hc : (rlI j row i s).getD i 0 ≤ row.getD s 0 - tmJ j s
        · rw [Int.min_eq_left hc]
          exact h3.imp id fun ⟨k, hk, x⟩ => ⟨k, Nat.lt_succ_of_lt hk, x⟩
        · rw [Int.min_eq_right (Int.le_of_lt (Int.not_le.1 hc))]
          exact .inr ⟨s, Nat.lt_succ_self s, hm, rfl⟩
    · have e : rlI j row i (s + 1) = rlI j row i s := by rw [rlI, if_neg hm]
      rw [e]
      refine ⟨h1, fun k hk hmk => ?_, h3.imp id fun ⟨k, hk, x⟩ => ⟨k, Nat.lt_succ_of_lt hk, x⟩⟩
      rcases Nat.lt_succ_iff_lt_or_eq.1 hk with hk | rfl
      · exact h2 k hk hmk
      · exact absurd hmk hm
section
variable {j : List Job} {P : List Nat} {last : Int}
theorem Topo.self' (h : Topo j P) (hn : P.length = j.length) {i : Nat} : ∀ k, k < j.length → (i : Int) ∈ aft j k → k ≠ i := fun k hk hm e => by
  have := h.self hn hk hm
  exact this (by rw [e]; rfl)
theorem rlI_bd (h : Topo j P) (hn : P.length = j.length) (hJ : JOk j) {row : List Int} (hr : row.length = j.length) {i : Nat} (hi : i < j.length) {lb ub : Int} (hb : ∀ k, k < j.length → lb ≤ row.getD k 0 ∧ row.getD k 0 ≤ ub) : ∀ s, s ≤ j.length → ∀ k, k < j.length → lb - 10000 ≤ (rlI j row i s).getD k 0 ∧ (rlI j row i s).getD k 0 ≤ ub := by
  intro s hs k hk
  by_cases e : k = i
  · subst e
    obtain ⟨h1, _, h3⟩ := rlI_at (j := j) (row := row) (by rw [hr]; exact hi) (h.self' hn) s hs
    have hbk := hb k hk
    refine ⟨?_, by omega⟩
    rcases h3 with h3 | ⟨q, hq, _, h3⟩
    · omega
    · have hbq := hb q (by omega)
      have := hJ.num q (by omega)
      have et : tmJ j q = (j.getD q default).time := rfl
      rw [h3, et]
      omega
  · rw [rlI_ne e]
    have := hb k hk
    omega
theorem set_bd {row : List Int} {i : Nat} {lb ub x : Int} {n : Nat} (hi : i < row.length) (hb : ∀ k, k < n → lb ≤ row.getD k 0 ∧ row.getD k 0 ≤ ub) (hx : lb ≤ x ∧ x ≤ ub) : ∀ k, k < n → lb ≤ (row.set i x).getD k 0 ∧ (row.set i x).getD k 0 ≤ ub := fun k hk => by
  rw [getDs _ _ _ _ hi]
  split
  · exact hx
  · exact hb k hk
theorem rlR_bd (h : Topo j P) (hn : P.length = j.length) (hJ : JOk j) (hl : 0 ≤ last) : ∀ s, s ≤ P.length → ∀ k, k < j.length → -10000 * (s : Int) ≤ (rlR j P last s).getD k 0 ∧ (rlR j P last s).getD k 0 ≤ last
  | 0, _, k, hk => by
    rw [rlR, gD (by simpa using hk), List.getElem_replicate]
    omega
  | s + 1, hs, k, hk => by
    have ih := rlR_bd h hn hJ hl s (by omega)
    have hi := h.in_ (show P.length - 1 - s < P.length by omega)
    have hl0 := rlR_len j P last s
    have h2 := rlI_bd h hn hJ (row := (rlR j P last s).set (P.getD (P.length - 1 - s) 0) last) (by rw [List.length_set, hl0]) hi (set_bd (by rw [hl0]; exact hi) ih (by omega)) j.length (Nat.le_refl _) k hk
    rw [rlR]
    omega
theorem rlR_keep (h : Topo j P) {r : Nat} (hr : r < P.length) {s : Nat} : ∀ d, s + d ≤ P.length → (∀ s', s ≤ s' → s' < s + d → P.length - 1 - s' ≠ r) → (rlR j P last (s + d)).getD (P.getD r 0) 0 = (rlR j P last s).getD (P.getD r 0) 0
  | 0, _, _ => rfl
  | d + 1, hd, hs => by
    have ih := rlR_keep h hr (s := s) d (by omega) (fun s' h1 h2 => hs s' h1 (by omega))
    have hlt : P.length - 1 - (s + d) < P.length := by omega
    have hne : P.getD r 0 ≠ P.getD (P.length - 1 - (s + d)) 0 := fun e => hs (s + d) (by omega) (by omega) (h.inj hr hlt e).symm
    rw [← ih, ← Nat.add_assoc, rlR, rlI_ne hne, getDs _ _ _ _ (by rw [rlR_len]; exact h.in_ hlt), if_neg (Ne.symm hne)]
theorem rlR_late (h : Topo j P) (hn : P.length = j.length) : IsLate j last (fun i => (rlR j P last P.length).getD i 0) := by
  have made : ∀ q, q < P.length → (rlR j P last P.length).getD (P.getD q 0) 0 = (rlR j P last (P.length - 1 - q + 1)).getD (P.getD q 0) 0 := fun q hq => by
    have := rlR_keep (last := last) h hq (s := P.length - 1 - q + 1) (P.length - (P.length - 1 - q + 1)) (by omega) (fun s h1 h2 => by omega)
    rwa [show P.length - 1 - q + 1 + (P.length - (P.length - 1 - q + 1)) = P.length by omega] at this
  have before : ∀ q r, q < r → r < P.length → (rlR j P last (P.length - 1 - q)).getD (P.getD r 0) 0 = (rlR j P last P.length).getD (P.getD r 0) 0 := fun q r hqr hr => by
    have := rlR_keep (last := last) h hr (s := P.length - 1 - q) (P.length - (P.length - 1 - q)) (by omega) (fun s h1 h2 => by omega)
    rw [show P.length - 1 - q + (P.length - (P.length - 1 - q)) = P.length by omega] at this
    exact this.symm
  have key : ∀ q, q < P.length → (rlR j P last P.length).getD (P.getD q 0) 0 ≤ last ∧ (∀ k, k < j.length → ((P.getD q 0 : Nat) : Int) ∈ aft j k → (rlR j P last P.length).getD (P.getD q 0) 0 ≤ (rlR j P last P.length).getD k 0 - tmJ j k) ∧
      ((rlR j P last P.length).getD (P.getD q 0) 0 = last ∨ ∃ k, k < j.length ∧ ((P.getD q 0 : Nat) : Int) ∈ aft j k ∧ (rlR j P last P.length).getD (P.getD q 0) 0 = (rlR j P last P.length).getD k 0 - tmJ j k) := by
    intro q hq
    have hi := h.in_ hq
    have hl0 := rlR_len j P last (P.length - 1 - q)
    have em : (rlR j P last P.length).getD (P.getD q 0) 0 = (rlI j ((rlR j P last (P.length - 1 - q)).set (P.getD q 0) last) (P.getD q 0) j.length).getD (P.getD q 0) 0 := by
      rw [made q hq, rlR, show P.length - 1 - (P.length - 1 - q) = q by omega]
    obtain ⟨e1, e2, e3⟩ := rlI_at (row := (rlR j P last (P.length - 1 - q)).set (P.getD q 0) last) (i := P.getD q 0) (by rw [List.length_set, hl0]; exact hi) (h.self' hn) j.length (Nat.le_refl _)
    have e0 : ((rlR j P last (P.length - 1 - q)).set (P.getD q 0) last).getD (P.getD q 0) 0 = last := by rw [getDs _ _ _ _ (by rw [hl0]; exact hi), if_pos rfl]
    rw [e0] at e1 e3
    have val : ∀ k, k < j.length → ((P.getD q 0 : Nat) : Int) ∈ aft j k → ((rlR j P last (P.length - 1 - q)).set (P.getD q 0) last).getD k 0 = (rlR j P last P.length).getD k 0 := fun k hk hm => by
      have hne := h.self' hn k hk hm
      obtain ⟨r, hr, rfl⟩ := h.pos hn hk
      obtain ⟨s, hs, e⟩ := h.bef hr hm
      have : s = q := h.inj (by omega) hq (by rw [e]; rfl)
      rw [getDs _ _ _ _ (by rw [hl0]; exact hi), if_neg (Ne.symm hne)]
      exact before q r (by omega) hr
    rw [em]
    refine ⟨e1, fun k hk hm => ?_, ?_⟩
    · rw [← val k hk hm]; exact e2 k hk hm
    · rcases e3 with e3 | ⟨k, hk, hm, e3⟩
      · exact .inl e3
      · exact .inr ⟨k, hk, hm, by rw [← val k hk hm]; exact e3⟩
  refine ⟨fun i hi => ?_, fun i hi => ?_, fun i hi => ?_⟩
  all_goals obtain ⟨q, hq, rfl⟩ := h.pos hn hi
  · exact (key q hq).1
  · exact (key q hq).2.1
  · exact (key q hq).2.2
end
/-- The reference's latest ends are the program's. -/
theorem rlR_lJ {j : List Job} (hok : jobsB j = true) (hn : (sortL j).length = j.length) : rlR j (sortL j) (mxL (eJ j) j.length) (sortL j).length = lJ j := by
  have hT := sortL_topo j
  have h1 := rlR_late (last := mxL (eJ j) j.length) hT hn
  have h2 := laL_late (last := mxL (eJ j) j.length) hT hn (JOk.of hok)
  have hu := IsLate.unique hT hn h1 h2
  refine List.ext_getElem (by rw [rlR_len, lJ_len]) fun i q1 q2 => ?_
  have hi : i < j.length := by rw [rlR_len] at q1; exact q1
  have := hu i hi
  rw [gD q1] at this
  rw [this]
  exact gD q2
end Go.Proofs.Ytmomjannlnafcaa.Abs
namespace Go.Proofs.Ytmomjannlnafcaa.Abs
set_option linter.unusedSimpArgs false
set_option linter.unusedVariables false
open Go.RowKit
open Go.Proofs.Ytmomjannlnafcaa.Sim
open Go.Proofs
set_option maxHeartbeats 4000000 in
set_option maxRecDepth 100000 in
theorem REarly_ok {m : AM} {v : Value} {j : List Job} (hj : Jobs m v j) (hs : Short j) (hok : jobsB j = true) (hn : (sortL j).length = j.length) : ACall Try.prog 35 #[v] m (RowR (eJ j) m) := by
  have hJ := JOk.of hok
  have h40 := hJ.len
  have hin : ∀ q, q < (sortL j).length → (sortL j).getD q 0 < j.length := fun q hq => (sortL_topo j).in_ hq
  obtain ⟨a, o, h1, h2, h3⟩ := id hj
  have hrow : eaR j (sortL j) (sortL j).length = eJ j := rfl
  have hRs := fun T => RSort_ok (hj.old T) hs hok hn
  have hgb : gb (iv (nv (sortL j))) 1 = gb (iv (nv (sortL j))) 1 := rfl
  refine ACall.start Try.func35 rfl rfl ?_
  have hgi : ∀ L, Ints (m ++ (gb (iv (nv (sortL j))) 1 :: L)) (gv (m.length + 0) j.length) (nv (sortL j)) := fun L => gints rfl (by rw [nv_len, hn])
  have hnl := nv_len (sortL j)
  have hrdu : ∀ L q, q < (sortL j).length → Rd (m ++ (gb (iv (nv (sortL j))) 1 :: L)) (m.length + 0) (0 + q) (.int .i64 (((sortL j).getD q 0 : Nat) : Int)) := fun L q hq => gv_rd rfl q hq
  generalize sortL j = P at *
  (repeat (first | (with_reducible refine AWo.cons ?_) | ((with_reducible refine Step.id ?_); first | ((with_reducible apply Step.move); exact rfl; exact rfl) | ((with_reducible apply Step.assign); exact rfl; exact rfl) | ((with_reducible apply Step.neq); exact rfl; exact rfl; exact rfl) | ((with_reducible apply Step.len); exact rfl; (focus (first | assumption | exact gv_sl _ _)); (focus (decide +kernel)); exact rfl) | ((with_reducible apply Step.extract); exact rfl; exact rfl; exact rfl) | ((with_reducible apply Step.callT fit (k := 0)); exact rfl; exact rfl; exact Try.func59; exact rfl; exact rfl; exact (hRs _); (focus (first | (simp only [List.nil_append, List.cons_append, List.set_cons_zero, List.set_cons_succ, iv_set, bv_set, iv_rep, bv_rep]; done) | (simp only [List.nil_append, List.cons_append, List.set_cons_zero, List.set_cons_succ, iv_set, bv_set, iv_rep, bv_rep]; rfl) | rfl))) | ((with_reducible apply Step.make1 1); exact rfl; exact rfl; exact rfl; exact el23; (focus (omega)); exact rfl; (focus (first | (simp only [List.nil_append, List.cons_append, List.set_cons_zero, List.set_cons_succ, iv_set, bv_set, iv_rep, bv_rep]; done) | (simp only [List.nil_append, List.cons_append, List.set_cons_zero, List.set_cons_succ, iv_set, bv_set, iv_rep, bv_rep]; rfl) | rfl)))) | (with_reducible refine AWo.nil ?_) | ((with_reducible apply AW.seq)) | ((with_reducible apply Then.n)) | ((with_reducible apply AW.regL)) | ((with_reducible apply AW.block)) | ((with_reducible apply AW.skip)) | ((with_reducible apply AW.condF); exact rfl; (focus (rfl)))))
  refine AW.loopT (fun n' t L => ∃ q : Nat, n' = j.length - q ∧ q ≤ j.length ∧ L = [gb (iv (nv P)) 1, some { cells := iv (eaR j P q) }] ∧
    t = [(0, v), (6, .slice (some ⟨m.length + 1, 0, none⟩) j.length j.length), (22, gv (m.length + 0) j.length), (23, .int .i64 (j.length : Nat)), (24, .int .i64 (q : Nat))]) ⟨_, _, _, (Or.inl ⟨rfl, (by repeat (first | exact trivial | (refine And.intro rfl ?_)))⟩), 0, rfl, Nat.zero_le _, rfl, rfl⟩ ?_
  rintro n' t L ⟨q, rfl, hq, rfl, rfl⟩
  rcases Nat.lt_or_ge q j.length with hql | hge
  · have hql' : q < P.length := by omega
    have hi := hin q hql'
    have hrl := fun L => hrdu L q hql'
    obtain ⟨w, hr, hw⟩ := h3 _ hi
    obtain ⟨wa, wo, w1, w2, w3⟩ := id hw
    have hnum := hJ.num _ hi
    have hlen := hJ.alen hi
    have hris := fun s hs => aft_rng hJ hi (s := s) hs
    have le := eaR_len j P q
    have bd := eaR_bd hJ hin q (by omega)
    have st : eaR j P (q + 1) = (eaI (eaR j P q) (P.getD q 0) (aft j (P.getD q 0)) (aft j (P.getD q 0)).length).set (P.getD q 0) ((eaI (eaR j P q) (P.getD q 0) (aft j (P.getD q 0)) (aft j (P.getD q 0)).length).getD (P.getD q 0) 0 + tmJ j (P.getD q 0)) := rfl
    have hsl : Sl (gv (m.length + 0) j.length) (m.length + 0) 0 j.length := gv_sl _ _
    simp only [aft, tmJ] at *
    generalize P.getD q 0 = i at *
    generalize j.getD i default = x at *
    obtain ⟨x1, x2, x3, af⟩ := x
    simp only [Job.cells] at *
    generalize eaR j P q = row at *
    have bI := fun s k => eaI_bd (i := i) (l := af) bd s k
    have lI := fun s => eaI_len row i af s
    generalize gb (iv (nv P)) 1 = gP at *
    (repeat (first | (with_reducible refine AWo.cons ?_) | ((with_reducible refine Step.id ?_); first | ((with_reducible apply Step.move); exact rfl; exact rfl) | ((with_reducible apply Step.assign); exact rfl; exact rfl) | ((with_reducible apply Step.load); exact rfl; (focus (decide +kernel)); exact rfl; (focus (first | exact (by have := hrl [some { cells := iv row }]; rwa [Nat.zero_add] at this) | exact Rd.old _ (hr.at_ 3 rfl)))) | ((with_reducible apply Step.ix1z); exact rfl; (focus (assumption)); exact rfl; (focus (decide +kernel)); exact rfl; (focus (omega))) | ((with_reducible apply Step.ix (s := 4)); exact rfl; (focus (assumption)); exact rfl; (focus (decide +kernel)); exact rfl; (focus (omega))) | ((with_reducible apply Step.field (k := 3)); exact rfl; (focus (decide +kernel)); exact rfl) | ((with_reducible apply Step.lss); exact rfl; exact rfl; exact rfl) | ((with_reducible apply Step.len); exact rfl; (focus (assumption)); (focus (decide +kernel)); exact rfl)) | (with_reducible refine AWo.nil ?_) | ((with_reducible apply AW.seq)) | ((with_reducible apply Then.n)) | ((with_reducible apply AW.regL)) | ((with_reducible apply AW.block)) | ((with_reducible apply AW.skip)) | ((with_reducible apply AW.condT); exact rfl; (focus ((simp only [decide_eq_true_eq, decide_eq_false_iff_not, Bool.not_eq_true', Bool.not_eq_false', Bool.not_true, Bool.not_false]; first | assumption | omega))))))
    refine AW.loopT (fun n' t L => ∃ s : Nat, n' = af.length - s ∧ s ≤ af.length ∧ L = [gP, some { cells := iv (eaI row i af s) }] ∧
      t = [(0, v), (6, .slice (some ⟨m.length + 1, 0, none⟩) j.length j.length), (8, .int .i64 (i : Nat)), (22, gv (m.length + 0) j.length), (23, .int .i64 (j.length : Nat)), (24, .int .i64 (q : Nat)), (32, w), (33, .int .i64 (af.length : Nat)), (34, .int .i64 (s : Nat))]) ⟨_, _, _, (Or.inl ⟨rfl, (by repeat (first | exact trivial | (refine And.intro rfl ?_)))⟩), 0, rfl, Nat.zero_le _, rfl, rfl⟩ ?_
    rintro n' t L ⟨s, rfl, hs, rfl, rfl⟩
    have lIs := lI s
    rcases Nat.lt_or_ge s af.length with hsl2 | hsg
    · have hrs := hris s hsl2
      have hra := w3 s hsl2
      have st2 : eaI row i af (s + 1) = (eaI row i af s).set i (max ((eaI row i af s).getD i 0) ((eaI row i af s).getD (af.getD s 0).toNat 0)) := rfl
      obtain ⟨y, hy⟩ := Int.eq_ofNat_of_zero_le hrs.1
      rw [hy, Int.toNat_natCast] at st2
      rw [hy] at hra
      have hyl : y < j.length := by omega
      generalize eaI row i af s = rs at *
      (repeat (first | (with_reducible refine AWo.cons ?_) | ((with_reducible refine Step.id ?_); first | ((with_reducible apply Step.move); exact rfl; exact rfl) | ((with_reducible apply Step.assign); exact rfl; exact rfl) | ((with_reducible apply Step.load); exact rfl; (focus (decide +kernel)); exact rfl; (focus (first | exact Rd.new rfl (iv_get (by first | omega | (simp; omega))) | exact Rd.old _ (by assumption)))) | ((with_reducible apply Step.ix1z); exact rfl; (focus (exact Sl.mk (by omega))); exact rfl; (focus (decide +kernel)); exact rfl; (focus (omega))) | ((with_reducible apply Step.ix1); exact rfl; (focus (assumption)); exact rfl; (focus (decide +kernel)); exact rfl; (focus (omega))) | ((with_reducible apply Step.add); exact rfl; exact rfl; (focus (omega)); exact rfl) | ((with_reducible apply Step.lss); exact rfl; exact rfl; exact rfl) | ((with_reducible apply Step.max); exact rfl; exact rfl; exact rfl) | ((with_reducible apply Step.store (k := 1)); exact rfl; exact rfl; exact rfl; exact rfl; (focus (decide +kernel)); exact rfl; exact rfl; (focus (first | omega | (simp [iv, bv]; done) | (simp [iv, bv]; omega))); (focus (first | (simp only [List.nil_append, List.cons_append, List.set_cons_zero, List.set_cons_succ, iv_set, bv_set, iv_rep, bv_rep]; done) | (simp only [List.nil_append, List.cons_append, List.set_cons_zero, List.set_cons_succ, iv_set, bv_set, iv_rep, bv_rep]; rfl) | rfl)))) | (with_reducible refine AWo.nil ?_) | ((with_reducible apply AW.seq)) | ((with_reducible apply Then.n)) | ((with_reducible apply AW.regL)) | ((with_reducible apply AW.block)) | ((with_reducible apply AW.drawL fit); (focus (decide +kernel))) | ((with_reducible apply InBlk.n)) | ((with_reducible apply AW.skip)) | ((with_reducible apply AW.condT); exact rfl; (focus ((simp only [decide_eq_true_eq, decide_eq_false_iff_not, Bool.not_eq_true', Bool.not_eq_false', Bool.not_true, Bool.not_false]; first | assumption | omega))))))
      exact ⟨_, [(0, v), (6, .slice (some ⟨m.length + 1, 0, none⟩) j.length j.length), (8, .int .i64 (i : Nat)), (22, gv (m.length + 0) j.length), (23, .int .i64 (j.length : Nat)), (24, .int .i64 (q : Nat)), (32, w), (33, .int .i64 (af.length : Nat)), (34, .int .i64 (s + 1 : Nat))], _, by omega, (Or.inl ⟨rfl, (by repeat (first | exact trivial | (refine And.intro rfl ?_)))⟩), s + 1, rfl, by omega, by rw [st2], rfl⟩
    · obtain rfl : s = af.length := by omega
      have b1 := bI af.length i
      generalize eaI row i af af.length = rs at *
      (repeat (first | (with_reducible refine AWo.cons ?_) | ((with_reducible refine Step.id ?_); first | ((with_reducible apply Step.move); exact rfl; exact rfl) | ((with_reducible apply Step.load); exact rfl; (focus (decide +kernel)); exact rfl; (focus (first | exact Rd.new rfl (iv_get (by first | omega | (simp; omega))) | exact Rd.old _ (hr.at_ 0 rfl)))) | ((with_reducible apply Step.ix1z); exact rfl; (focus (exact Sl.mk (by omega))); exact rfl; (focus (decide +kernel)); exact rfl; (focus (omega))) | ((with_reducible apply Step.ix (s := 4)); exact rfl; (focus (assumption)); exact rfl; (focus (decide +kernel)); exact rfl; (focus (omega))) | ((with_reducible apply Step.field0); exact rfl; (focus (decide +kernel)); exact rfl) | ((with_reducible apply Step.add); exact rfl; exact rfl; (focus (omega)); exact rfl) | ((with_reducible apply Step.lss); exact rfl; exact rfl; exact rfl) | ((with_reducible apply Step.store (k := 1)); exact rfl; exact rfl; exact rfl; exact rfl; (focus (decide +kernel)); exact rfl; exact rfl; (focus (first | omega | (simp [iv, bv]; done) | (simp [iv, bv]; omega))); (focus (first | (simp only [List.nil_append, List.cons_append, List.set_cons_zero, List.set_cons_succ, iv_set, bv_set, iv_rep, bv_rep]; done) | (simp only [List.nil_append, List.cons_append, List.set_cons_zero, List.set_cons_succ, iv_set, bv_set, iv_rep, bv_rep]; rfl) | rfl)))) | (with_reducible refine AWo.nil ?_) | ((with_reducible apply AW.seq)) | ((with_reducible apply Then.n)) | ((with_reducible apply AW.regL)) | ((with_reducible apply AW.drawL fit); (focus (decide +kernel))) | ((with_reducible apply AW.exit)) | ((with_reducible apply InBlk.n)) | ((with_reducible apply InBlk.hit)) | ((with_reducible apply Then.e)) | ((with_reducible apply AW.condF); exact rfl; (focus ((simp only [decide_eq_true_eq, decide_eq_false_iff_not, Bool.not_eq_true', Bool.not_eq_false', Bool.not_true, Bool.not_false]; first | assumption | omega))))))
      exact ⟨_, [(0, v), (6, .slice (some ⟨m.length + 1, 0, none⟩) j.length j.length), (22, gv (m.length + 0) j.length), (23, .int .i64 (j.length : Nat)), (24, .int .i64 (q + 1 : Nat))], _, by omega, (Or.inl ⟨rfl, (by repeat (first | exact trivial | (refine And.intro rfl ?_)))⟩), q + 1, rfl, by omega, by rw [st], rfl⟩
  · obtain rfl : q = j.length := by omega
    have hl := eJ_len j
    have hrow' : eaR j P j.length = eJ j := by rw [← hrow, hn]
    rw [hrow']
    (repeat (first | (with_reducible refine AWo.cons ?_) | ((with_reducible refine Step.id ?_); first | ((with_reducible apply Step.move); exact rfl; exact rfl) | ((with_reducible apply Step.assign); exact rfl; exact rfl) | ((with_reducible apply Step.lss); exact rfl; exact rfl; exact rfl)) | (with_reducible refine AWo.nil ?_) | ((with_reducible apply AW.seq)) | ((with_reducible apply Then.n)) | ((with_reducible apply AW.regL)) | ((with_reducible apply AW.exit)) | ((with_reducible apply InBlk.hit)) | ((with_reducible apply Then.e)) | ((with_reducible apply AW.condF); exact rfl; (focus ((simp only [decide_eq_true_eq, decide_eq_false_iff_not, Bool.not_eq_true', Bool.not_eq_false', Bool.not_true, Bool.not_false]; first | assumption | omega))))))
    (refine AW.ret ?_; (repeat (first | refine Then.r ?_ | refine InBlk.r ?_)))
    exact ⟨_, rfl, _, rfl, _, rfl, m.length + 1, 0, by rw [hl]; exact Sl.mk (Nat.le_refl _), by simp, fun k hk => Rd.new (k := 1) rfl (by rw [Nat.zero_add]; exact iv_get hk)⟩
set_option maxRecDepth 100000 in
theorem REarly_no {m : AM} {v : Value} {j : List Job} (hj : Jobs m v j) (hs : Short j) {e : Int} (he : errJ j = e) (hne : e ≠ 0) : ACall Try.prog 35 #[v] m (Ret (.tuple #[.slice none 0 0, .int .i64 e]) m) := by
  have h := fun T => RSort_no (hj.old T) hs he hne
  refine ACall.start Try.func35 rfl rfl ?_
  (repeat (first | (with_reducible refine AWo.cons ?_) | ((with_reducible refine Step.id ?_); first | ((with_reducible apply Step.move); exact rfl; exact rfl) | ((with_reducible apply Step.assign); exact rfl; exact rfl) | ((with_reducible apply Step.neq); exact rfl; exact rfl; exact rfl) | ((with_reducible apply Step.extract); exact rfl; exact rfl; exact rfl) | ((with_reducible apply Step.callR fit); exact rfl; exact Try.func59; exact rfl; exact rfl; exact (h _))) | (with_reducible refine AWo.nil ?_) | ((with_reducible apply AW.seq)) | ((with_reducible apply Then.n)) | ((with_reducible apply AW.regL)) | ((with_reducible apply AW.condT); exact rfl; (focus ((simp only [decide_eq_true_eq, decide_eq_false_iff_not, Bool.not_eq_true', Bool.not_eq_false', Bool.not_true, Bool.not_false]; first | assumption | omega))))))
  (refine AW.retD (l := [(2, _), (3, _)]) (by repeat (first | exact trivial | (refine And.intro ⟨rfl, by (first | exact .int _ _ | exact Ren.of_g0 rfl)⟩ ?_))) ?_; (repeat (first | refine Then.r ?_ | refine InBlk.r ?_)))
  exact ⟨_, rfl, rfl, rfl⟩
end Go.Proofs.Ytmomjannlnafcaa.Abs
namespace Go.Proofs.Ytmomjannlnafcaa.Abs
set_option linter.unusedSimpArgs false
set_option linter.unusedVariables false
open Go.RowKit
open Go.Proofs.Ytmomjannlnafcaa.Sim
open Go.Proofs
theorem eJ_bd {j : List Job} (hok : jobsB j = true) (hn : (sortL j).length = j.length) : ∀ k, 0 ≤ (eJ j).getD k 0 ∧ (eJ j).getD k 0 ≤ 10000 * j.length := fun k => by
  have := eaR_bd (JOk.of hok) (fun q hq => (sortL_topo j).in_ hq) (sortL j).length (Nat.le_refl _) k
  rw [hn] at this
  rw [← hn] at *
  exact this
set_option maxHeartbeats 8000000 in
set_option maxRecDepth 100000 in
theorem RLate_ok {m : AM} {v : Value} {j : List Job} (hj : Jobs m v j) (hs : Short j) (hok : jobsB j = true) (hn : (sortL j).length = j.length) : ACall Try.prog 37 #[v] m (RowR (lJ j) m) := by
  have hJ := JOk.of hok
  have hT := sortL_topo j
  have h40 := hJ.len
  have hin : ∀ q, q < (sortL j).length → (sortL j).getD q 0 < j.length := fun q hq => hT.in_ hq
  obtain ⟨a, o, h1, h2, h3⟩ := id hj
  obtain ⟨qv, cv, rfl⟩ : ∃ q c, v = .slice q j.length c := by rcases h1 with ⟨rfl, h⟩ | ⟨c, _, rfl⟩ | ⟨h, o', k, rfl⟩; exact ⟨none, 0, by rw [h]⟩; exact ⟨_, _, rfl⟩; exact ⟨_, 0, by rw [h]⟩
  have heb := eJ_bd hok hn
  have hel := eJ_len j
  have hRs := fun T => RSort_ok (hj.old T) hs hok hn
  have hRe := fun T => REarly_ok (hj.old T) hs hok hn
  have hmx := mxL_bd (row := eJ j) (B := 10000 * j.length) (by omega) heb
  have hfin := rlR_lJ hok hn
  refine ACall.start Try.func37 rfl rfl ?_
  (repeat (first | (with_reducible refine AWo.cons ?_) | ((with_reducible refine Step.id ?_); first | ((with_reducible apply Step.move); exact rfl; exact rfl) | ((with_reducible apply Step.assign); exact rfl; exact rfl) | ((with_reducible apply Step.neq); exact rfl; exact rfl; exact rfl) | ((with_reducible apply Step.extract); exact rfl; exact rfl; exact rfl) | ((with_reducible apply Step.callT fit (k := 0)); exact rfl; exact rfl; exact Try.func59; exact rfl; exact rfl; exact (hRs _); (focus (first | (simp only [List.nil_append, List.cons_append, List.set_cons_zero, List.set_cons_succ, iv_set, bv_set, iv_rep, bv_rep]; done) | (simp only [List.nil_append, List.cons_append, List.set_cons_zero, List.set_cons_succ, iv_set, bv_set, iv_rep, bv_rep]; rfl) | rfl)))) | (with_reducible refine AWo.nil ?_) | ((with_reducible apply AW.seq)) | ((with_reducible apply Then.n)) | ((with_reducible apply AW.regL)) | ((with_reducible apply AW.skip)) | ((with_reducible apply AW.condF); exact rfl; (focus (rfl)))))
  ((with_reducible apply Step.callX fit); exact rfl; exact Try.func35; exact rfl; exact rfl; exact (hRe _))
  rintro _ M1 ⟨N1, hN1⟩ ⟨u, rfl, hu⟩
  have hm1 : ∃ N, M1 = m ++ N := ⟨_, by rw [hN1, List.append_assoc]⟩
  have hP1 : M1[m.length + 0]? = some (gb (iv (nv (sortL j))) 1) := by rw [hN1]; exact get_old _ (by rw [get_app]; rfl)
  have hj1 : Jobs M1 (.slice qv j.length cv) j := by obtain ⟨N, rfl⟩ := hm1; exact hj.old _
  clear hN1 hRs hRe h3 h2
  obtain ⟨a', o', g1, g2, h3⟩ := id hj1
  obtain ⟨ua, uo, u1, u2, u3⟩ := hu
  rw [hel] at u1 u3
  (repeat (first | (with_reducible refine AWo.cons ?_) | ((with_reducible refine Step.id ?_); first | ((with_reducible apply Step.move); exact rfl; exact rfl) | ((with_reducible apply Step.assign); exact rfl; exact rfl) | ((with_reducible apply Step.len); exact rfl; (focus (assumption)); (focus (decide +kernel)); exact rfl) | ((with_reducible apply Step.extract); exact rfl; exact rfl; exact rfl)) | (with_reducible refine AWo.nil ?_) | ((with_reducible apply AW.seq)) | ((with_reducible apply Then.n)) | ((with_reducible apply AW.regL)) | ((with_reducible apply AW.block))))
  refine AW.loopW (fun n' t M => ∃ q : Nat, n' = j.length - q ∧ q ≤ j.length ∧ M = M1 ∧
    t = fr [(0, .slice qv j.length cv), (4, gv (m.length + 0) j.length), (8, .int .i64 (mxL (eJ j) q)), (28, u), (29, .int .i64 (j.length : Nat)), (30, .int .i64 (q : Nat))]) ⟨_, _, (by repeat (first | exact trivial | (refine And.intro rfl ?_))), 0, rfl, Nat.zero_le _, by rw [List.append_nil], rfl⟩ ?_
  rintro n' t M ⟨q, rfl, hq, rfl, rfl⟩
  rcases Nat.lt_or_ge q j.length with hql | hge
  · have bq := hmx q
    have bq1 := hmx (q + 1)
    have uq := u3 q hql
    have e1 : mxL (eJ j) (q + 1) = max (mxL (eJ j) q) ((eJ j).getD q 0) := rfl
    refine AW.rebase ?_
    rw [List.append_nil]
    (repeat (first | (with_reducible refine AWo.cons ?_) | ((with_reducible refine Step.id ?_); first | ((with_reducible apply Step.move); exact rfl; exact rfl) | ((with_reducible apply Step.assign); exact rfl; exact rfl) | ((with_reducible apply Step.load); exact rfl; (focus (decide +kernel)); exact rfl; (focus (assumption))) | ((with_reducible apply Step.ix1); exact rfl; (focus (assumption)); exact rfl; (focus (decide +kernel)); exact rfl; (focus (omega))) | ((with_reducible apply Step.add); exact rfl; exact rfl; (focus (omega)); exact rfl) | ((with_reducible apply Step.lss); exact rfl; exact rfl; exact rfl) | ((with_reducible apply Step.max); exact rfl; exact rfl; exact rfl)) | (with_reducible refine AWo.nil ?_) | ((with_reducible apply AW.seq)) | ((with_reducible apply Then.n)) | ((with_reducible apply AW.regL)) | ((with_reducible apply AW.block)) | ((with_reducible apply InBlk.n)) | ((with_reducible apply AW.skip)) | ((with_reducible apply AW.condT); exact rfl; (focus ((simp only [decide_eq_true_eq, decide_eq_false_iff_not, Bool.not_eq_true', Bool.not_eq_false', Bool.not_true, Bool.not_false]; first | assumption | omega))))))
    exact ⟨_, _, by omega, (by repeat (first | exact trivial | (refine And.intro rfl ?_))), q + 1, rfl, by omega, rfl, rfl⟩
  · obtain rfl : q = j.length := by omega
    have bl := hmx j.length
    have hbd := rlR_bd (j := j) (P := sortL j) (last := mxL (eJ j) j.length) hT hn hJ bl.1
    have hrl := fun s => rlR_len j (sortL j) (mxL (eJ j) j.length) s
    have hst : ∀ s, rlR j (sortL j) (mxL (eJ j) j.length) (s + 1) = rlI j ((rlR j (sortL j) (mxL (eJ j) j.length) s).set ((sortL j).getD ((sortL j).length - 1 - s) 0) (mxL (eJ j) j.length)) ((sortL j).getD ((sortL j).length - 1 - s) 0) j.length := fun s => rfl
    have hr0 : rlR j (sortL j) (mxL (eJ j) j.length) 0 = List.replicate j.length 0 := rfl
    have hIb := fun (row : List Int) (hr : row.length = j.length) (i : Nat) (hi : i < j.length) (lb ub : Int) hb => rlI_bd (P := sortL j) hT hn hJ (row := row) hr (i := i) hi (lb := lb) (ub := ub) hb
    have hrP : ∀ q, q < (sortL j).length → Rd M (m.length + 0) q (.int .i64 (((sortL j).getD q 0 : Nat) : Int)) := fun q hq => by
      have hg : gb (iv (nv (sortL j))) 1 = some { cells := iv (nv (sortL j)), kind := .grow, size := 1 } := gb_pos (by rw [iv_len, nv_len]; omega)
      rw [hg] at hP1
      have := iv_get (l := nv (sortL j)) (k := q) (by rw [nv_len]; exact hq)
      rw [nv_get hq] at this
      exact ⟨_, hP1, this⟩
    have hsl : Sl (gv (m.length + 0) j.length) (m.length + 0) 0 j.length := gv_sl _ _
    generalize mxL (eJ j) j.length = last at *
    generalize sortL j = P at *
    refine AW.rebase ?_
    (repeat (first | (with_reducible refine AWo.cons ?_) | ((with_reducible refine Step.id ?_); first | ((with_reducible apply Step.move); exact rfl; exact rfl) | ((with_reducible apply Step.assign); exact rfl; exact rfl) | ((with_reducible apply Step.sub); exact rfl; exact rfl; (focus (omega)); exact rfl) | ((with_reducible apply Step.lss); exact rfl; exact rfl; exact rfl) | ((with_reducible apply Step.len); exact rfl; (focus (assumption)); (focus (decide +kernel)); exact rfl) | ((with_reducible apply Step.make1 0); exact rfl; exact rfl; exact rfl; exact el23; (focus (omega)); exact rfl; (focus (first | (simp only [List.nil_append, List.cons_append, List.set_cons_zero, List.set_cons_succ, iv_set, bv_set, iv_rep, bv_rep]; done) | (simp only [List.nil_append, List.cons_append, List.set_cons_zero, List.set_cons_succ, iv_set, bv_set, iv_rep, bv_rep]; rfl) | rfl)))) | (with_reducible refine AWo.nil ?_) | ((with_reducible apply AW.seq)) | ((with_reducible apply Then.n)) | ((with_reducible apply AW.regL)) | ((with_reducible apply AW.block)) | ((with_reducible apply AW.exit)) | ((with_reducible apply InBlk.hit)) | ((with_reducible apply Then.e)) | ((with_reducible apply AW.condF); exact rfl; (focus ((simp only [decide_eq_true_eq, decide_eq_false_iff_not, Bool.not_eq_true', Bool.not_eq_false', Bool.not_true, Bool.not_false]; first | assumption | omega))))))
    refine AW.loopW (fun n' t L => ∃ s : Nat, n' = j.length - s ∧ s ≤ j.length ∧ L = M ++ [some { cells := iv (rlR j P last s) }] ∧
      t = fr [(0, .slice qv j.length cv), (4, gv (m.length + 0) j.length), (8, .int .i64 last), (11, .slice (some ⟨M.length + 0, 0, none⟩) j.length j.length), (12, .int .i64 ((j.length : Int) - 1 - (s : Nat)))]) ⟨_, [(0, .slice qv j.length cv), (4, gv (m.length + 0) j.length), (8, .int .i64 last), (11, .slice (some ⟨M.length + 0, 0, none⟩) j.length j.length), (12, .int .i64 ((j.length : Int) - 1))], (by repeat (first | exact trivial | (refine And.intro rfl ?_))), 0, rfl, Nat.zero_le _, by rw [hr0], by simp⟩ ?_
    rintro n' t L ⟨s, rfl, hs, rfl, rfl⟩
    rcases Nat.lt_or_ge s j.length with hsl2 | hsg
    · have hq0 : P.length - 1 - s < P.length := by omega
      have hi := hin _ hq0
      have hrq := hrP _ hq0
      have ex : (j.length : Int) - 1 - (s : Nat) = ((P.length - 1 - s : Nat) : Int) := by omega
      have hsts := hst s
      have hbs := hbd s (by omega)
      have hls := hrl s
      have hself : ∀ k, k < j.length → ((P.getD (P.length - 1 - s) 0 : Nat) : Int) ∈ aft j k → k ≠ P.getD (P.length - 1 - s) 0 := hT.self' hn
      have hIbs := hIb ((rlR j P last s).set (P.getD (P.length - 1 - s) 0) last) (by rw [List.length_set, hls]) _ hi (-10000 * (s : Int)) last (set_bd (by rw [hls]; exact hi) hbs (by omega))
      have hIl := fun k => rlI_len j ((rlR j P last s).set (P.getD (P.length - 1 - s) 0) last) (P.getD (P.length - 1 - s) 0) k
      rw [List.length_set, hls] at hIl
      have hIst : ∀ k, rlI j ((rlR j P last s).set (P.getD (P.length - 1 - s) 0) last) (P.getD (P.length - 1 - s) 0) (k + 1) = if ((P.getD (P.length - 1 - s) 0 : Nat) : Int) ∈ aft j k then (rlI j ((rlR j P last s).set (P.getD (P.length - 1 - s) 0) last) (P.getD (P.length - 1 - s) 0) k).set (P.getD (P.length - 1 - s) 0) (min ((rlI j ((rlR j P last s).set (P.getD (P.length - 1 - s) 0) last) (P.getD (P.length - 1 - s) 0) k).getD (P.getD (P.length - 1 - s) 0) 0) ((rlI j ((rlR j P last s).set (P.getD (P.length - 1 - s) 0) last) (P.getD (P.length - 1 - s) 0) k).getD k 0 - tmJ j k)) else rlI j ((rlR j P last s).set (P.getD (P.length - 1 - s) 0) last) (P.getD (P.length - 1 - s) 0) k := fun k => rfl
      have hI0 : rlI j ((rlR j P last s).set (P.getD (P.length - 1 - s) 0) last) (P.getD (P.length - 1 - s) 0) 0 = (rlR j P last s).set (P.getD (P.length - 1 - s) 0) last := rfl
      rw [ex]
      have hq1 : P.length - 1 - s < j.length := by omega
      generalize hQ : P.length - 1 - s = Q at *
      generalize P.getD Q 0 = i at *
      generalize rlR j P last s = row at *
      (repeat (first | (with_reducible refine AWo.cons ?_) | ((with_reducible refine Step.id ?_); first | ((with_reducible apply Step.move); exact rfl; exact rfl) | ((with_reducible apply Step.assign); exact rfl; exact rfl) | ((with_reducible apply Step.load); exact rfl; (focus (decide +kernel)); exact rfl; (focus (exact Rd.old _ (by assumption)))) | ((with_reducible apply Step.ix1z); exact rfl; (focus (first | assumption | exact Sl.mk (by omega))); exact rfl; (focus (decide +kernel)); exact rfl; (focus (omega))) | ((with_reducible apply Step.geq); exact rfl; exact rfl; exact rfl) | ((with_reducible apply Step.len); exact rfl; (focus (assumption)); (focus (decide +kernel)); exact rfl) | ((with_reducible apply Step.store (k := 0)); exact rfl; exact rfl; exact rfl; exact rfl; (focus (decide +kernel)); exact rfl; exact rfl; (focus (first | omega | (simp [iv, bv]; done) | (simp [iv, bv]; omega))); (focus (first | (simp only [List.nil_append, List.cons_append, List.set_cons_zero, List.set_cons_succ, iv_set, bv_set, iv_rep, bv_rep]; done) | (simp only [List.nil_append, List.cons_append, List.set_cons_zero, List.set_cons_succ, iv_set, bv_set, iv_rep, bv_rep]; rfl) | rfl)))) | (with_reducible refine AWo.nil ?_) | ((with_reducible apply AW.seq)) | ((with_reducible apply Then.n)) | ((with_reducible apply AW.regL)) | ((with_reducible apply AW.block)) | ((with_reducible apply AW.skip)) | ((with_reducible apply AW.condT); exact rfl; (focus (rfl)))))
      refine AW.loopW (fun n' t L => ∃ k : Nat, n' = j.length - k ∧ k ≤ j.length ∧ L = M ++ [some { cells := iv (rlI j (row.set i last) i k) }] ∧
        t = fr [(0, .slice qv j.length cv), (4, gv (m.length + 0) j.length), (8, .int .i64 last), (11, .slice (some ⟨M.length + 0, 0, none⟩) j.length j.length), (12, .int .i64 (Q : Nat)), (13, .int .i64 (i : Nat)), (57, .int .i64 (j.length : Nat)), (58, .int .i64 (k : Nat))]) ⟨_, _, (by repeat (first | exact trivial | (refine And.intro rfl ?_))), 0, rfl, Nat.zero_le _, by rw [hI0], rfl⟩ ?_
      rintro n' t L ⟨k, rfl, hk, rfl, rfl⟩
      rcases Nat.lt_or_ge k j.length with hkl | hkg
      · have hal := hJ.alen hkl
        have hnum := hJ.num k hkl
        have hib := hIbs k hk i hi
        have hkb := hIbs k hk k hkl
        have hlk := hIl k
        have hstk := hIst k
        have et : tmJ j k = (j.getD k default).time := rfl
        obtain ⟨w, hr, hw⟩ := h3 k hkl
        by_cases hmem : (i : Int) ∈ aft j k
        · rw [if_pos hmem] at hstk
          have haf := fun T => after_ok (q := true) i k (hj1.old T) hkl (by omega) (decide_eq_true hmem)
          rw [et] at hstk
          generalize j.getD k default = x at *
          obtain ⟨x1, x2, x3, af⟩ := x
          simp only [Job.cells] at *
          generalize rlI j (row.set i last) i k = rs at *
          (repeat (first | (with_reducible refine AWo.cons ?_) | ((with_reducible refine Step.id ?_); first | ((with_reducible apply Step.move); exact rfl; exact rfl) | ((with_reducible apply Step.assign); exact rfl; exact rfl) | ((with_reducible apply Step.load); exact rfl; (focus (decide +kernel)); exact rfl; (focus (first | exact Rd.new rfl (iv_get (by first | omega | (simp; omega))) | exact Rd.old _ (hr.at_ 0 rfl)))) | ((with_reducible apply Step.ix1z); exact rfl; (focus (exact Sl.mk (by omega))); exact rfl; (focus (decide +kernel)); exact rfl; (focus (omega))) | ((with_reducible apply Step.ix (s := 4)); exact rfl; (focus (assumption)); exact rfl; (focus (decide +kernel)); exact rfl; (focus (omega))) | ((with_reducible apply Step.field0); exact rfl; (focus (decide +kernel)); exact rfl) | ((with_reducible apply Step.add); exact rfl; exact rfl; (focus (omega)); exact rfl) | ((with_reducible apply Step.sub); exact rfl; exact rfl; (focus (omega)); exact rfl) | ((with_reducible apply Step.lss); exact rfl; exact rfl; exact rfl) | ((with_reducible apply Step.min); exact rfl; exact rfl; exact rfl) | ((with_reducible apply Step.callR fit); exact rfl; exact Try.func81; exact rfl; exact rfl; exact (haf _)) | ((with_reducible apply Step.store (k := 0)); exact rfl; exact rfl; exact rfl; exact rfl; (focus (decide +kernel)); exact rfl; exact rfl; (focus (first | omega | (simp [iv, bv]; done) | (simp [iv, bv]; omega))); (focus (first | (simp only [List.nil_append, List.cons_append, List.set_cons_zero, List.set_cons_succ, iv_set, bv_set, iv_rep, bv_rep]; done) | (simp only [List.nil_append, List.cons_append, List.set_cons_zero, List.set_cons_succ, iv_set, bv_set, iv_rep, bv_rep]; rfl) | rfl)))) | (with_reducible refine AWo.nil ?_) | ((with_reducible apply AW.seq)) | ((with_reducible apply Then.n)) | ((with_reducible apply AW.regL)) | ((with_reducible apply AW.block)) | ((with_reducible apply AW.drawL fit); (focus (decide +kernel))) | ((with_reducible apply InBlk.n)) | ((with_reducible apply AW.skip)) | ((with_reducible apply AW.condT); exact rfl; (focus (first | rfl | (simp only [decide_eq_true_eq, decide_eq_false_iff_not, Bool.not_eq_true', Bool.not_eq_false', Bool.not_true, Bool.not_false]; first | assumption | omega))))))
          exact ⟨_, [(0, .slice qv j.length cv), (4, gv (m.length + 0) j.length), (8, .int .i64 last), (11, .slice (some ⟨M.length + 0, 0, none⟩) j.length j.length), (12, .int .i64 (Q : Nat)), (13, .int .i64 (i : Nat)), (57, .int .i64 (j.length : Nat)), (58, .int .i64 ((k + 1 : Nat) : Int))], by omega, (by repeat (first | exact trivial | (refine And.intro rfl ?_))), k + 1, rfl, by omega, by rw [hstk], rfl⟩
        · rw [if_neg hmem] at hstk
          have haf := fun T => after_ok (q := false) i k (hj1.old T) hkl (by omega) (decide_eq_false hmem)
          (repeat (first | (with_reducible refine AWo.cons ?_) | ((with_reducible refine Step.id ?_); first | ((with_reducible apply Step.move); exact rfl; exact rfl) | ((with_reducible apply Step.assign); exact rfl; exact rfl) | ((with_reducible apply Step.add); exact rfl; exact rfl; (focus (omega)); exact rfl) | ((with_reducible apply Step.lss); exact rfl; exact rfl; exact rfl) | ((with_reducible apply Step.callR fit); exact rfl; exact Try.func81; exact rfl; exact rfl; exact (haf _))) | (with_reducible refine AWo.nil ?_) | ((with_reducible apply AW.seq)) | ((with_reducible apply Then.n)) | ((with_reducible apply AW.regL)) | ((with_reducible apply AW.block)) | ((with_reducible apply InBlk.n)) | ((with_reducible apply AW.skip)) | ((with_reducible apply AW.condT); exact rfl; (focus ((simp only [decide_eq_true_eq, decide_eq_false_iff_not, Bool.not_eq_true', Bool.not_eq_false', Bool.not_true, Bool.not_false]; first | assumption | omega)))) | ((with_reducible apply AW.condF); exact rfl; (focus (rfl)))))
          exact ⟨_, [(0, .slice qv j.length cv), (4, gv (m.length + 0) j.length), (8, .int .i64 last), (11, .slice (some ⟨M.length + 0, 0, none⟩) j.length j.length), (12, .int .i64 (Q : Nat)), (13, .int .i64 (i : Nat)), (57, .int .i64 (j.length : Nat)), (58, .int .i64 ((k + 1 : Nat) : Int))], by omega, (by repeat (first | exact trivial | (refine And.intro rfl ?_))), k + 1, rfl, by omega, by rw [hstk], rfl⟩
      · obtain rfl : k = j.length := by omega
        have e3 : (Q : Int) - 1 = (j.length : Int) - 1 - ((s + 1 : Nat) : Int) := by omega
        (repeat (first | (with_reducible refine AWo.cons ?_) | ((with_reducible refine Step.id ?_); first | ((with_reducible apply Step.move); exact rfl; exact rfl) | ((with_reducible apply Step.assign); exact rfl; exact rfl) | ((with_reducible apply Step.sub); exact rfl; exact rfl; (focus (omega)); exact rfl) | ((with_reducible apply Step.lss); exact rfl; exact rfl; exact rfl)) | (with_reducible refine AWo.nil ?_) | ((with_reducible apply AW.seq)) | ((with_reducible apply Then.n)) | ((with_reducible apply AW.regL)) | ((with_reducible apply AW.exit)) | ((with_reducible apply InBlk.n)) | ((with_reducible apply InBlk.hit)) | ((with_reducible apply Then.e)) | ((with_reducible apply AW.condF); exact rfl; (focus ((simp only [decide_eq_true_eq, decide_eq_false_iff_not, Bool.not_eq_true', Bool.not_eq_false', Bool.not_true, Bool.not_false]; first | assumption | omega))))))
        exact ⟨_, [(0, .slice qv j.length cv), (4, gv (m.length + 0) j.length), (8, .int .i64 last), (11, .slice (some ⟨M.length + 0, 0, none⟩) j.length j.length), (12, .int .i64 ((Q : Int) - 1))], by omega, (by repeat (first | exact trivial | (refine And.intro rfl ?_))), s + 1, rfl, by omega, by rw [hsts], by rw [e3]⟩
    · obtain rfl : s = j.length := by omega
      have hfin' : rlR j P last j.length = lJ j := by rw [← hn]; exact hfin
      have hll := lJ_len j
      rw [hfin']
      (repeat (first | (with_reducible refine AWo.cons ?_) | ((with_reducible refine Step.id ?_); first | ((with_reducible apply Step.move); exact rfl; exact rfl) | ((with_reducible apply Step.assign); exact rfl; exact rfl) | ((with_reducible apply Step.geq); exact rfl; exact rfl; exact rfl)) | (with_reducible refine AWo.nil ?_) | ((with_reducible apply AW.seq)) | ((with_reducible apply Then.n)) | ((with_reducible apply AW.regL)) | ((with_reducible apply AW.exit)) | ((with_reducible apply InBlk.hit)) | ((with_reducible apply Then.e)) | ((with_reducible apply AW.condF); exact rfl; (focus ((simp only [decide_eq_true_eq, decide_eq_false_iff_not, Bool.not_eq_true', Bool.not_eq_false', Bool.not_true, Bool.not_false]; first | assumption | omega))))))
      (refine AW.ret ?_; (repeat (first | refine Then.r ?_ | refine InBlk.r ?_)))
      obtain ⟨N, hN⟩ := hm1
      exact ⟨_, rfl, _, by rw [hN, List.append_assoc], _, rfl, M.length + 0, 0, by rw [hll]; exact Sl.mk (Nat.le_refl _), by simp, fun k hk => Rd.new (k := 0) rfl (by rw [Nat.zero_add]; exact iv_get hk)⟩
set_option maxRecDepth 100000 in
theorem RLate_no {m : AM} {v : Value} {j : List Job} (hj : Jobs m v j) (hs : Short j) {e : Int} (he : errJ j = e) (hne : e ≠ 0) : ACall Try.prog 37 #[v] m (Ret (.tuple #[.slice none 0 0, .int .i64 e]) m) := by
  have h := fun T => RSort_no (hj.old T) hs he hne
  refine ACall.start Try.func37 rfl rfl ?_
  (repeat (first | (with_reducible refine AWo.cons ?_) | ((with_reducible refine Step.id ?_); first | ((with_reducible apply Step.move); exact rfl; exact rfl) | ((with_reducible apply Step.assign); exact rfl; exact rfl) | ((with_reducible apply Step.neq); exact rfl; exact rfl; exact rfl) | ((with_reducible apply Step.extract); exact rfl; exact rfl; exact rfl) | ((with_reducible apply Step.callR fit); exact rfl; exact Try.func59; exact rfl; exact rfl; exact (h _))) | (with_reducible refine AWo.nil ?_) | ((with_reducible apply AW.seq)) | ((with_reducible apply Then.n)) | ((with_reducible apply AW.regL)) | ((with_reducible apply AW.condT); exact rfl; (focus ((simp only [decide_eq_true_eq, decide_eq_false_iff_not, Bool.not_eq_true', Bool.not_eq_false', Bool.not_true, Bool.not_false]; first | assumption | omega))))))
  (refine AW.retD (l := [(2, _), (3, _)]) (by repeat (first | exact trivial | (refine And.intro ⟨rfl, by (first | exact .int _ _ | exact Ren.of_g0 rfl)⟩ ?_))) ?_; (repeat (first | refine Then.r ?_ | refine InBlk.r ?_)))
  exact ⟨_, rfl, rfl, rfl⟩
end Go.Proofs.Ytmomjannlnafcaa.Abs
namespace Go.Proofs.Ytmomjannlnafcaa.Abs
set_option linter.unusedSimpArgs false
set_option linter.unusedVariables false
open Go.RowKit
open Go.Proofs.Ytmomjannlnafcaa.Sim
section
variable {P : Program} {nt : Nat} {ops : Array Oper} {t : Fm} {m : AM} {K : Fm → AM → Prop} {d T : Nat} {p : String} {af : Array Edge}
theorem still_nilP {X e : TypeId} (hX : P.underlying X = some (.pointer e)) (n : Nat) : Sim.still P (Op.equalIn (n + 1) X (.pointer none) (.pointer none)) = some true := by
  rw [Op.equalIn]
  show Sim.still P (Sem.bind (underlying X) _) = _
  rw [still_bind]
  have : Sim.still P (underlying X) = some (.pointer e) := by
    unfold underlying
    show Sim.still P (Sem.bind program _) = _
    rw [still_bind]
    simp [program, Sim.still, hX, pure]
  rw [this]
  rfl
theorem Step.ptrNil {x y : Operand} {X Y e : TypeId} (hx : evo t x = some (.pointer none)) (hy : evo t y = some (.pointer none)) (hX : P.underlying X = some (.pointer e)) (hlt : Nat.blt d nt = true) (hK : K (put t d (.bool true)) m) : Step P nt ops ⟨some d, .binOp .eql X x y Y, T, p, af, none⟩ t m K := by
  refine .ground rfl rfl hlt (by simp [Op.operands, hx, hy, g1, g0]) (fun h => by simp only [aquiet, evD_of hx, evD_of hy, aint, anil, hX]; simpa [evD_of hx, evD_of hy] using h) ?_ (by simp [g1, g0]) hK
  have he := still_nilP hX 9999
  simp only [execOp, eqGuard, binOp, evD_of hx, evD_of hy, bind, Sem.bind, pure]
  show Sim.still P (((Op.equalIn (9999 + 1) X (.pointer none) (.pointer none)).bind _).bind _) = _
  rw [still_bind, still_bind, he]
  rfl
/-- A whole array of one's own as a slice. -/
theorem Step.arr {x : Operand} {X e a len : Nat} {M L L' : AM} (hx : evo t x = some (.pointer (some ⟨a, 0, none⟩))) (ho : OwnAt M a L) (hX : P.underlying X = some (.array len e)) (hsz : szB P e = some 1) (h0 : Nat.blt 0 len = true)
    (hlt : Nat.blt d nt = true) (hL : L ++ [none] = L') (hK : K (put t d (.slice (some ⟨a, 0, none⟩) len len)) (M ++ L')) : Step P nt ops ⟨some d, .slice X x none none none, T, p, af, none⟩ t (M ++ L) K := by
  subst hL
  obtain ⟨b, hb, hk⟩ := ho
  have h0' : 0 < len := by simpa using h0
  refine .l rfl rfl hlt (by simp [stillB, hX]) (by simp [Op.operands, hx]) (loudN (L := L) rfl rfl (v := .slice (some ⟨a, 0, none⟩) len len) ?_ hK)
  have hb' : ((M ++ L) ++ [none])[a]? = some (some b) := get_old _ hb
  simp only [aloud, evD_of hx, aslice, hX, hsz, Option.map_none, hb']
  simp only [bnd]
  rw [if_pos ⟨Nat.zero_le _, Nat.le_refl _, .inl hk⟩, List.append_assoc]
  simp
end
end Go.Proofs.Ytmomjannlnafcaa.Abs
namespace Go.Proofs.Ytmomjannlnafcaa.Abs
open Go.RowKit
open Go.Proofs.Ytmomjannlnafcaa.Sim
/-- What a call made and does not return is let go. -/
theorem ACall.drop {P : Program} {f : FuncId} {args : Array Value} {m : AM} {r : Value} (hr : Ren rid m.length r r) (h : ACall P f args m (fun v m' => v = r ∧ ∃ N, m' = m ++ N)) : ACall P f args m (Ret r m) := by
  intro base R w args' hb hm ha
  refine (h base R w args' hb hm ha).mono ?_
  rintro e w' ⟨v, v', R', m', he, hrel, hpost, rfl, N, rfl⟩
  obtain ⟨R1, h1, h2⟩ := (Gc.drop (M := m) (L := N) (t := fr [(0, v)]) (l := [(0, v)]) ⟨⟨rfl, hr⟩, trivial⟩).ok hm hpost (nt := 1) (u := #[v']) ⟨rfl, fun i x hi => by
    by_cases e : i = 0
    · subst e
      have : some v = some x := hi
      injection this with this; subst this
      exact hrel
    · have : fr [(0, v)] i = none := by show put (fr []) 0 v i = none; rw [put_ne _ _ e]; rfl
      rw [this] at hi; cases hi⟩
  exact ⟨v, v', R1, m, he, h2.rel 0 v rfl, h1, rfl, rfl⟩
end Go.Proofs.Ytmomjannlnafcaa.Abs
namespace Go.Proofs.Ytmomjannlnafcaa.Abs
open Go.RowKit
open Go.Proofs.Ytmomjannlnafcaa.Sim
end Go.Proofs.Ytmomjannlnafcaa.Abs
namespace Go.Proofs.Ytmomjannlnafcaa.Abs
open Go.RowKit
open Go.Proofs.Ytmomjannlnafcaa.Sim
end Go.Proofs.Ytmomjannlnafcaa.Abs
namespace Go.Proofs.Ytmomjannlnafcaa.Abs
set_option linter.unusedSimpArgs false
set_option linter.unusedVariables false
open Go.RowKit
open Go.Proofs.Ytmomjannlnafcaa.Sim
def depL (acc : List (Nat × Value)) (D : List Nat) : List (Nat × Value) := D.map fun j => acc.getD j (0, undef)
def AWf (P : Program) (nt : Nat) (m : AM) (ops : Array Oper) (bs : List (Nat × Value)) : List Oper → List (List Nat) → List (Nat × Value) → (List (Nat × Value) → Prop) → Prop
  | [], _, acc, Q => Q acc
  | o :: rest, D, acc, Q => ∃ d v, o.dst = some d ∧ Step P nt ops o (fr (depL acc (D.headD []) ++ bs)) m (fun t' m' => t' d = some v ∧ m' = m) ∧ AWf P nt m ops bs rest D.tail ((d, v) :: acc) Q
section
variable {P : Program} {nt : Nat} {t : Fm} {m m0 : AM} {l : List Oper} {bs : List (Nat × Value)}
theorem AWf.cons {ops : Array Oper} {o : Oper} {rest : List Oper} {dd : List Nat} {D : List (List Nat)} {acc : List (Nat × Value)} {Q : List (Nat × Value) → Prop} {d : Nat} {v : Value} (hd : o.dst = some d) (h : Step P nt ops o (fr (depL acc dd ++ bs)) m (fun t' m' => t' d = some v ∧ m' = m)) (hr : AWf P nt m ops bs rest D ((d, v) :: acc) Q) :
    AWf P nt m ops bs (o :: rest) (dd :: D) acc Q := ⟨d, v, hd, h, hr⟩
theorem AWf.nil {ops : Array Oper} {D : List (List Nat)} {acc : List (Nat × Value)} {Q : List (Nat × Value) → Prop} (h : Q acc) : AWf P nt m ops bs [] D acc Q := h
theorem AWf.get {ops : Array Oper} : ∀ {rest : List Oper} {D : List (List Nat)} {acc : List (Nat × Value)} {Q : List (Nat × Value) → Prop}, AWf P nt m ops bs rest D acc Q → ∃ a1 : List (Nat × Value), a1.length = rest.length ∧ Q (a1.reverse ++ acc) ∧ ∀ i o, rest[i]? = some o → ∃ d v, a1[i]? = some (d, v) ∧ o.dst = some d ∧ Step P nt ops o (fr (depL ((a1.take i).reverse ++ acc) (D.getD i []) ++ bs)) m (fun t' m' => t' d = some v ∧ m' = m)
  | [], _, acc, Q, h => ⟨[], rfl, h, fun i o ho => by simp at ho⟩
  | o :: rest, D, acc, Q, h => by
    obtain ⟨d, v, hd, h1, h2⟩ := h
    obtain ⟨a1, g1, g2, g3⟩ := AWf.get h2
    refine ⟨(d, v) :: a1, by simp [g1], by rw [List.reverse_cons, List.append_assoc]; exact g2, fun i o' ho => ?_⟩
    cases i with
    | zero =>
      simp only [List.getElem?_cons_zero, Option.some.injEq] at ho
      subst ho
      refine ⟨d, v, rfl, hd, ?_⟩
      rw [List.take_zero, List.reverse_nil, List.nil_append]
      cases D <;> exact h1
    | succ i =>
      simp only [List.getElem?_cons_succ] at ho ⊢
      obtain ⟨d', v', k1, k2, k3⟩ := g3 i o' ho
      refine ⟨d', v', k1, k2, ?_⟩
      rw [List.take_succ_cons, List.reverse_cons, List.append_assoc]
      have : D.tail.getD i [] = D.getD (i + 1) [] := by cases D <;> simp
      rw [this] at k3
      exact k3
end
def AWfL (P : Program) (nt : Nat) (m : AM) (ops : Array Oper) (bs : List (Nat × Value)) (K : Fm → AM → Prop) : List Oper → List (List Nat) → List (Nat × Value) → Prop
  | [], _, _ => False
  | [o], _, acc => Step P nt ops o (fr (acc ++ bs)) m K
  | o :: o' :: rest, D, acc => ∃ d v, o.dst = some d ∧ Step P nt ops o (fr (depL acc (D.headD []) ++ bs)) m (fun t' m' => t' d = some v ∧ m' = m) ∧ AWfL P nt m ops bs K (o' :: rest) D.tail ((d, v) :: acc)
section
variable {P : Program} {nt : Nat} {t : Fm} {m m0 : AM} {l : List Oper} {bs : List (Nat × Value)} {K : Fm → AM → Prop}
theorem AWfL.cons {ops : Array Oper} {o o' : Oper} {rest : List Oper} {dd : List Nat} {D : List (List Nat)} {acc : List (Nat × Value)} {d : Nat} {v : Value} (hd : o.dst = some d) (h : Step P nt ops o (fr (depL acc dd ++ bs)) m (fun t' m' => t' d = some v ∧ m' = m)) (hr : AWfL P nt m ops bs K (o' :: rest) D ((d, v) :: acc)) :
    AWfL P nt m ops bs K (o :: o' :: rest) (dd :: D) acc := ⟨d, v, hd, h, hr⟩
theorem AWfL.last {ops : Array Oper} {o : Oper} {D : List (List Nat)} {acc : List (Nat × Value)} (h : Step P nt ops o (fr (acc ++ bs)) m K) : AWfL P nt m ops bs K [o] D acc := h
theorem AWfL.split {ops : Array Oper} : ∀ {l : List Oper} {D : List (List Nat)} {acc : List (Nat × Value)}, AWfL P nt m ops bs K l D acc → ∃ l' last, l = l' ++ [last] ∧ AWf P nt m ops bs l' D acc (fun acc => Step P nt ops last (fr (acc ++ bs)) m K)
  | [], _, _, h => h.elim
  | [o], D, acc, h => ⟨[], o, rfl, h⟩
  | o :: o' :: rest, D, acc, h => by
    obtain ⟨d, v, hd, h1, h2⟩ := h
    obtain ⟨l', last, e, h3⟩ := AWfL.split h2
    exact ⟨o :: l', last, by rw [e]; rfl, d, v, hd, h1, h3⟩
end
/-- The call's own blocks are let go, the others may have been turned since. -/
theorem Gc.cut {t : Fm} {m0 M L : AM} {l : List (Nat × Value)} (hl : m0.length ≤ M.length) (hM : ∀ (j : Nat) (b : Blk), M[j]? = some (some b) → (j < m0.length ∧ m0[j]? = some (some b)) ∨ (isMapK b.kind = false ∧ ∀ v ∈ b.cells, Ren rid M.length v v)) (h : All (fun i v => t i = some v ∧ Ren rid M.length v v) l) : Gc m0 t (M ++ L) (fr l) M :=
  ⟨rid, hl, fun _ _ => rfl, fun _ _ _ _ _ _ e => e, fun j b hj => by
    rcases hM j b hj with ⟨h1, h2⟩ | ⟨h1, h2⟩
    · exact .inl ⟨h1, get_old L hj, h2⟩
    · exact .inr ⟨h1, b, get_old L hj, rfl, rfl, rfl, fun k v hk => ⟨v, hk, h2 v (List.mem_of_getElem? hk)⟩⟩, fun i v hi => by
    obtain ⟨h1, h2⟩ := fr_all h i v hi
    exact ⟨v, h1, h2⟩⟩
end Go.Proofs.Ytmomjannlnafcaa.Abs
namespace Go.Proofs.Ytmomjannlnafcaa.Abs
set_option linter.unusedSimpArgs false
set_option linter.unusedVariables false
open Go.RowKit
open Go.Proofs.Ytmomjannlnafcaa.Sim
/-- What an operation comes to: a value; a new block with the value that names it; a block made here is filled. -/
inductive Ent | val (d : Nat) (v : Value) | cp (d k : Nat) (f : Nat → Value) | mk (d : Nat) (f : Nat → Value) (b : Option Blk) | fill (k : Nat) (b : Option Blk)
def Ent.pr (p : Nat → Nat) (i : Nat) : Ent → List (Nat × Value)
  | .val d v => [(d, v)]
  | .cp d k f => [(d, f (p k))]
  | .mk d f _ => [(d, f (p i))]
  | .fill .. => []
/-- Of a list with the last one ahead: the n-th from behind. -/
def depG (p : Nat → Nat) (acc : List Ent) (D : List Nat) : List (Nat × Value) := D.flatMap fun j => (acc.getD j (.fill 0 none)).pr p (acc.length - 1 - j)
def fillOf (k : Nat) : List Ent → Option (Option Blk)
  | [] => none
  | .fill j b :: acc => if j = k then some b else fillOf k acc
  | _ :: acc => fillOf k acc
section
variable (P : Program) (nt : Nat) (m : AM) (ops : Array Oper) (bs : List (Nat × Value))
def EntOk (o : Oper) (dd : List Nat) (acc : List Ent) : Ent → Prop
  | .val d v => o.dst = some d ∧ ∀ p : Nat → Nat, (∀ k, m.length ≤ p k) → ∀ N : AM, Step P nt ops o (fr (depG p acc dd ++ bs)) (m ++ N) (fun t' m' => t' d = some v ∧ m' = m ++ N)
  | .cp d k f => o.dst = some d ∧ k < acc.length ∧ acc.length - 1 - k ∈ dd ∧ ∀ p : Nat → Nat, (∀ k, m.length ≤ p k) → ∀ N : AM, Step P nt ops o (fr (depG p acc dd ++ bs)) (m ++ N) (fun t' m' => t' d = some (f (p k)) ∧ m' = m ++ N)
  | .mk d f b => o.dst = some d ∧ ∀ p : Nat → Nat, (∀ k, m.length ≤ p k) → ∀ N : AM, Step P nt ops o (fr (depG p acc dd ++ bs)) (m ++ N) (fun t' m' => t' d = some (f (m ++ N).length) ∧ m' = (m ++ N) ++ [b])
  | .fill k b => o.dst = none ∧ fillOf k acc = none ∧ k < acc.length ∧ acc.length - 1 - k ∈ dd ∧ ∃ d f b0, acc[acc.length - 1 - k]? = some (.mk d f b0) ∧
      ∀ p : Nat → Nat, (∀ k, m.length ≤ p k) → ∀ M : AM, M[p k]? = some b0 → Step P nt ops o (fr (depG p acc dd ++ bs)) M (fun _ m' => m' = M.set (p k) b)
def AWg : List Oper → List (List Nat) → List Ent → (List Ent → Prop) → Prop
  | [], _, acc, Q => Q acc
  | o :: rest, D, acc, Q => ∃ e, EntOk P nt m ops bs o (D.headD []) acc e ∧ AWg rest D.tail (e :: acc) Q
end
section
variable {P : Program} {nt : Nat} {t : Fm} {m m0 : AM} {ops : Array Oper} {l : List Oper} {bs : List (Nat × Value)} {o : Oper} {rest : List Oper} {dd : List Nat} {D : List (List Nat)} {acc : List Ent} {Q : List Ent → Prop} {d : Nat} {v : Value}
theorem AWg.val (hd : o.dst = some d) (h : ∀ p : Nat → Nat, (∀ k, m.length ≤ p k) → ∀ N : AM, Step P nt ops o (fr (depG p acc dd ++ bs)) (m ++ N) (fun t' m' => t' d = some v ∧ m' = m ++ N)) (hr : AWg P nt m ops bs rest D (.val d v :: acc) Q) : AWg P nt m ops bs (o :: rest) (dd :: D) acc Q := ⟨.val d v, ⟨hd, h⟩, hr⟩
theorem AWg.ptr {b : Option Blk} (hd : o.dst = some d) (h : ∀ p : Nat → Nat, (∀ k, m.length ≤ p k) → ∀ N : AM, Step P nt ops o (fr (depG p acc dd ++ bs)) (m ++ N) (fun t' m' => t' d = some (.pointer (some ⟨(m ++ N).length, 0, none⟩)) ∧ m' = (m ++ N) ++ [b])) (hr : AWg P nt m ops bs rest D (.mk d (fun a => .pointer (some ⟨a, 0, none⟩)) b :: acc) Q) : AWg P nt m ops bs (o :: rest) (dd :: D) acc Q := ⟨.mk d (fun a => .pointer (some ⟨a, 0, none⟩)) b, ⟨hd, h⟩, hr⟩
theorem AWg.new (f : Nat → Value) {b : Option Blk} (hd : o.dst = some d) (h : ∀ p : Nat → Nat, (∀ k, m.length ≤ p k) → ∀ N : AM, Step P nt ops o (fr (depG p acc dd ++ bs)) (m ++ N) (fun t' m' => t' d = some (f (m ++ N).length) ∧ m' = (m ++ N) ++ [b])) (hr : AWg P nt m ops bs rest D (.mk d f b :: acc) Q) : AWg P nt m ops bs (o :: rest) (dd :: D) acc Q := ⟨.mk d f b, ⟨hd, h⟩, hr⟩
theorem AWg.fill (k : Nat) {d0 : Nat} {f0 : Nat → Value} {b b0 : Option Blk} (hd : o.dst = none) (h1 : fillOf k acc = none) (h2 : k < acc.length) (h3 : acc.length - 1 - k ∈ dd) (h4 : acc[acc.length - 1 - k]? = some (.mk d0 f0 b0))
    (h : ∀ p : Nat → Nat, (∀ k, m.length ≤ p k) → ∀ M : AM, M[p k]? = some b0 → Step P nt ops o (fr (depG p acc dd ++ bs)) M (fun _ m' => m' = M.set (p k) b)) (hr : AWg P nt m ops bs rest D (.fill k b :: acc) Q) : AWg P nt m ops bs (o :: rest) (dd :: D) acc Q := ⟨.fill k b, ⟨hd, h1, h2, h3, d0, f0, b0, h4, h⟩, hr⟩
section
variable {T : Nat} {pos : String} {af : Array Edge} {ty : TypeId} {b b0 : Option Blk}
end
theorem AWg.nil (h : Q acc) : AWg P nt m ops bs [] D acc Q := h
theorem AWg.get : ∀ {rest : List Oper} {D : List (List Nat)} {acc : List Ent} {Q : List Ent → Prop}, AWg P nt m ops bs rest D acc Q → ∃ a1 : List Ent, a1.length = rest.length ∧ Q (a1.reverse ++ acc) ∧ ∀ i o, rest[i]? = some o → ∃ e, a1[i]? = some e ∧ EntOk P nt m ops bs o (D.getD i []) ((a1.take i).reverse ++ acc) e
  | [], _, acc, Q, h => ⟨[], rfl, h, fun i o ho => by simp at ho⟩
  | o :: rest, D, acc, Q, h => by
    obtain ⟨e, h1, h2⟩ := h
    obtain ⟨a1, g1, g2, g3⟩ := AWg.get h2
    refine ⟨e :: a1, by simp [g1], by rw [List.reverse_cons, List.append_assoc]; exact g2, fun i o' ho => ?_⟩
    cases i with
    | zero =>
      simp only [List.getElem?_cons_zero, Option.some.injEq] at ho
      subst ho
      refine ⟨e, rfl, ?_⟩
      rw [List.take_zero, List.reverse_nil, List.nil_append]
      cases D <;> exact h1
    | succ i =>
      simp only [List.getElem?_cons_succ] at ho ⊢
      obtain ⟨e', k1, k2⟩ := g3 i o' ho
      refine ⟨e', k1, ?_⟩
      rw [List.take_succ_cons, List.reverse_cons, List.append_assoc]
      have : D.tail.getD i [] = D.getD (i + 1) [] := by cases D <;> simp
      rw [this] at k2
      exact k2
end
end Go.Proofs.Ytmomjannlnafcaa.Abs
namespace Go.Proofs.Ytmomjannlnafcaa.Abs
set_option linter.unusedSimpArgs false
set_option linter.unusedVariables false
open Go.RowKit
open Go.Proofs.Ytmomjannlnafcaa.Sim
/-- A slice that names a whole row of one's own: n elements of s cells each. -/
def Row (M : AM) (b0 s : Nat) (u : Value) (c : List Value) (n : Nat) : Prop :=
  (u = .slice none 0 0 ∧ c = [] ∧ n = 0) ∨ ∃ (a : Nat) (kd : Kind) (sz : Nat), b0 ≤ a ∧ u = .slice (some ⟨a, 0, none⟩) n n ∧ M[a]? = some (some { cells := c, kind := kd, size := sz }) ∧ c.length = n * s ∧ (kd = .own ∨ kd = .grow ∧ sz = s)
theorem Row.len {M : AM} {b0 s : Nat} {u : Value} {c : List Value} {n : Nat} (h : Row M b0 s u c n) : c.length = n * s := by
  rcases h with ⟨_, rfl, rfl⟩ | ⟨a, kd, sz, _, _, _, h, _⟩
  · simp
  · exact h
theorem Row.nil {M : AM} {b0 s : Nat} : Row M b0 s (.slice none 0 0) [] 0 := .inl ⟨rfl, rfl, rfl⟩
theorem Row.low {M : AM} {b0 b1 s : Nat} {u : Value} {c : List Value} {n : Nat} (h : Row M b0 s u c n) (hb : b1 ≤ b0) : Row M b1 s u c n := by
  rcases h with h | ⟨a, kd, sz, h1, h2⟩
  · exact .inl h
  · exact .inr ⟨a, kd, sz, by omega, h2⟩
theorem Row.old {M : AM} {b0 s : Nat} {u : Value} {c : List Value} {n : Nat} (h : Row M b0 s u c n) (T : AM) : Row (M ++ T) b0 s u c n := by
  rcases h with h | ⟨a, kd, sz, h1, h2, h3, h4⟩
  · exact .inl h
  · exact .inr ⟨a, kd, sz, h1, h2, get_old _ h3, h4⟩
theorem Row.sl {M : AM} {b0 s : Nat} {u : Value} {c : List Value} {n : Nat} (h : Row M b0 s u c n) (hM : 0 < M.length) : ∃ a, Sl u a 0 n ∧ a < M.length ∧ (0 < n → RdL M a 0 c) := by
  rcases h with ⟨rfl, rfl, rfl⟩ | ⟨a, kd, sz, h1, rfl, h3, h4, _⟩
  · exact ⟨0, .inl ⟨rfl, rfl⟩, hM, fun h => absurd h (by omega)⟩
  · exact ⟨a, Sl.mk (Nat.le_refl _), (List.getElem?_eq_some_iff.1 h3).1, fun _ => ⟨_, h3, fun j v hj => by simpa using hj⟩⟩
/-- The block is the only one that an append may take. -/
def NotOf (u : Value) (j : Nat) : Prop := ∀ n c, u ≠ .slice (some ⟨j, 0, none⟩) n c
theorem NotOf.row {M : AM} {b0 s : Nat} {u : Value} {c : List Value} {n j : Nat} (h : Row M b0 s u c n) (hj : j < b0) : NotOf u j := by
  intro n' c' e
  rcases h with ⟨h, _⟩ | ⟨a, kd, sz, h1, h2, _⟩
  · rw [e] at h; cases h
  · rw [e] at h2
    simp only [Value.slice.injEq, Option.some.injEq, Addr.mk.injEq] at h2
    omega
/-- What lies ahead is as it was. -/
theorem pre_keep {m0 M M' : AM} (h : ∃ N, M = m0 ++ N) (hl : M.length ≤ M'.length) (hk : ∀ j, j < m0.length → M'[j]? = M[j]?) : ∃ N, M' = m0 ++ N := by
  obtain ⟨N, rfl⟩ := h
  refine ⟨M'.drop m0.length, ?_⟩
  rw [List.length_append] at hl
  have e : M'.take m0.length = m0 := by
    apply List.ext_getElem?
    intro j
    by_cases hj : j < m0.length
    · rw [List.getElem?_take, if_pos hj, hk j hj, List.getElem?_append_left hj]
    · rw [List.getElem?_eq_none (by rw [List.length_take]; omega), List.getElem?_eq_none (by omega)]
  have h2 := List.take_append_drop m0.length M'
  rw [e] at h2
  exact h2.symm
section
variable {P : Program} {nt : Nat} {ops : Array Oper} {t : Fm} {m : AM} {K : Fm → AM → Prop} {d T : Nat} {p : String} {af : Array Edge}
theorem acells_sl {m : AM} {s n a o : Nat} {v : Value} {new : List Value} (hs : Sl v a o n) (hr : 0 < n → RdL m a o new) (hn : new.length = n * s) (h0 : 0 < s) : acells (m ++ [none]) s n v = some new ∧ aSliceLen v = some n := by
  rcases hs with ⟨rfl, rfl⟩ | ⟨c, hc, rfl⟩ | ⟨rfl, o', k, rfl⟩
  · obtain rfl : new = [] := List.eq_nil_of_length_eq_zero (by simpa using hn)
    exact ⟨by simp [acells], rfl⟩
  · refine ⟨?_, rfl⟩
    by_cases hz : n = 0
    · subst hz
      obtain rfl : new = [] := List.eq_nil_of_length_eq_zero (by simpa using hn)
      simp [acells]
    · obtain ⟨b, r1, r2⟩ := hr (by omega)
      have hr' : (m ++ [none])[a]? = some (some b) := get_old _ r1
      have hns : 0 < n * s := Nat.mul_pos (by omega) h0
      have hlast := r2 (n * s - 1) new[n * s - 1] (List.getElem?_eq_getElem (by omega))
      have hlen := (List.getElem?_eq_some_iff.1 hlast).1
      have htake : (b.cells.drop o).take (n * s) = new := by
        apply List.ext_getElem?
        intro j
        by_cases hj : j < n * s
        · rw [List.getElem?_take, if_pos hj, List.getElem?_drop, r2 j new[j] (List.getElem?_eq_getElem (by omega)), List.getElem?_eq_getElem (by omega)]
        · rw [List.getElem?_take, if_neg hj, List.getElem?_eq_none (by omega)]
      simp only [acells, hr']
      rw [if_neg hz, if_pos ⟨Nat.le_refl _, by omega⟩, htake]
  · obtain rfl : new = [] := List.eq_nil_of_length_eq_zero (by simpa using hn)
    exact ⟨by simp [acells], rfl⟩
/-- APPEND. -/
theorem Step.appRow {x y : Operand} {X Y e e' : TypeId} {by_ s a o n xl b0 : Nat} {z : Array Value} {c new : List Value} {u yv : Value} (hx : evo t x = some u) (hy : evo t y = some yv) (hr : Row m b0 s u c n) (hs : Sl yv a o xl) (hrd : 0 < xl → RdL m a o new) (hE : elemB P X = some (e, s, by_, z)) (hY : P.underlying Y = some (.slice e'))
    (hn : new.length = xl * s) (hn1 : new.all (·.oneCell') = true) (h0 : Nat.blt 0 s = true) (hb : (n + xl) * by_ ≤ 1099511627776 ∧ n + xl ≤ 1099511627776) (hlt : Nat.blt d nt = true) (hbm : b0 ≤ m.length)
    (hK : ∀ u' M', Row M' b0 s u' (c ++ new) (n + xl) → m.length ≤ M'.length → (∀ j, j < m.length → NotOf u j → M'[j]? = m[j]?) → K (put t d u') M') :
    Step P nt ops ⟨some d, .call ⟨.builtin .append, #[x, y], #[X, Y]⟩, T, p, af, none⟩ t m K := by
  have h0 : 0 < s := Nat.le_of_ble_eq_true h0
  obtain ⟨hc1, hc2⟩ := acells_sl hs hrd hn h0
  have fin : ∀ v m', aloud P ⟨some d, .call ⟨.builtin .append, #[x, y], #[X, Y]⟩, T, p, af, none⟩ (evD t) (m ++ [none]) m.length = some (v, m') → K (put t d v) m' → Step P nt ops ⟨some d, .call ⟨.builtin .append, #[x, y], #[X, Y]⟩, T, p, af, none⟩ t m K :=
    fun v m' h hk => .l rfl rfl hlt rfl (by simp [Op.operands, Call.operands, hx, hy]) (loud_of_aloud rfl h hk)
  have hnone : ¬ ((!(new.all (·.oneCell')) || s == 0) = true) := by simp [hn1]; omega
  have set1 : ∀ (M : AM) (b : Blk), M.length = m.length → (M ++ [none]).set m.length (some b) = M ++ [some b] := fun M b h => by
    rw [List.set_append_right _ _ (by omega), h]
    simp
  rcases hr with ⟨rfl, rfl, rfl⟩ | ⟨q, kd, sz, hq0, rfl, hq, hcl, hkd⟩
  · by_cases hx0 : xl = 0
    · subst hx0
      obtain rfl : new = [] := List.eq_nil_of_length_eq_zero (by simpa using hn)
      refine fin (.slice none 0 0) (m ++ [none]) ?_ (hK _ _ Row.nil (by simp) fun j hj _ => List.getElem?_append_left hj)
      simp only [aloud, evD_of hx, evD_of hy, aappend, hE, hY, hc1, hc2]
      rw [if_neg hnone, if_pos trivial]
    · refine fin (.slice (some ⟨m.length, 0, none⟩) xl xl) (m ++ [some { cells := new, kind := .grow, size := s }]) ?_ (hK _ _ (.inr ⟨m.length, .grow, s, hbm, by rw [Nat.zero_add], by simp, by simpa using hn, .inr ⟨rfl, rfl⟩⟩) (by simp) fun j hj _ => List.getElem?_append_left hj)
      simp only [aloud, evD_of hx, evD_of hy, aappend, hE, hY, hc1, hc2]
      rw [if_neg hnone, if_neg hx0, if_pos (by simpa using hb), set1 m _ rfl]
  · have hg : (m ++ [none])[q]? = some (some { cells := c, kind := kd, size := sz }) := get_old _ hq
    have hql := (List.getElem?_eq_some_iff.1 hq).1
    by_cases hx0 : xl = 0
    · subst hx0
      obtain rfl : new = [] := List.eq_nil_of_length_eq_zero (by simpa using hn)
      refine fin (.slice (some ⟨q, 0, none⟩) n n) (m ++ [none]) ?_ (hK _ _ (.inr ⟨q, kd, sz, hq0, rfl, by rw [List.append_nil]; exact hg, by rw [List.append_nil]; exact hcl, hkd⟩) (by simp) fun j hj _ => List.getElem?_append_left hj)
      simp only [aloud, evD_of hx, evD_of hy, aappend, hE, hY, hc1, hc2]
      rw [if_neg hnone, if_pos trivial]
    · have hcn : (c ++ new).length = (n + xl) * s := by rw [List.length_append, hcl, hn, Nat.add_mul]
      rcases hkd with rfl | ⟨rfl, rfl⟩
      · refine fin (.slice (some ⟨m.length, 0, none⟩) (n + xl) (n + xl)) (m ++ [some { cells := c ++ new, kind := .grow, size := s }]) ?_ (hK _ _ (.inr ⟨m.length, .grow, s, hbm, rfl, by simp, hcn, .inr ⟨rfl, rfl⟩⟩) (by simp) fun j hj _ => List.getElem?_append_left hj)
        simp only [aloud, evD_of hx, evD_of hy, aappend, hE, hY, hc1, hc2]
        rw [if_neg hnone, if_neg hx0]
        simp only [hg]
        rw [if_neg (by omega), if_pos ⟨hb.1, hb.2, Nat.le_refl _⟩, if_pos (by omega), set1 m _ rfl]
        simp [List.take_of_length_le (show c.length ≤ n * s by omega)]
      · refine fin (.slice (some ⟨m.length, 0, none⟩) (n + xl) (n + xl)) ((m.set q none) ++ [some { cells := c ++ new, kind := .grow, size := sz }]) ?_ (hK _ _ (.inr ⟨m.length, .grow, sz, hbm, rfl, by simp, hcn, .inr ⟨rfl, rfl⟩⟩) (by simp) fun j hj hne => ?_)
        · simp only [aloud, evD_of hx, evD_of hy, aappend, hE, hY, hc1, hc2]
          rw [if_neg hnone, if_neg hx0]
          simp only [hg]
          rw [if_neg (by omega), if_pos ⟨hb.1, hb.2, Nat.le_refl _⟩, if_pos ⟨by omega, trivial⟩, List.set_append_left _ _ hql, set1 (m.set q none) _ (by simp)]
          simp [List.take_of_length_le (show c.length ≤ n * sz by omega)]
        · rw [List.getElem?_append_left (by simpa using hj), List.getElem?_set_ne]
          rintro rfl
          exact hne n n rfl
end
end Go.Proofs.Ytmomjannlnafcaa.Abs
namespace Go.Proofs.Ytmomjannlnafcaa.Abs
set_option linter.unusedSimpArgs false
set_option linter.unusedVariables false
open Go.RowKit
open Go.Proofs.Ytmomjannlnafcaa.Sim
open Go.Proofs
def crP (j : List Job) (i : Nat) : List Nat := (List.range i).filter fun i => decide ((eJ j).getD i 0 = (lJ j).getD i 0)
theorem crP_len (j : List Job) (i : Nat) : (crP j i).length ≤ i := by
  have := List.length_filter_le (fun i => decide ((eJ j).getD i 0 = (lJ j).getD i 0)) (List.range i)
  rw [List.length_range] at this
  exact this
theorem crP_succ (j : List Job) (i : Nat) : crP j (i + 1) = if (eJ j).getD i 0 = (lJ j).getD i 0 then crP j i ++ [i] else crP j i := by
  unfold crP
  rw [List.range_succ, List.filter_append]
  by_cases h : (eJ j).getD i 0 = (lJ j).getD i 0
  · rw [if_pos h]
    rw [List.filter_cons, if_pos (decide_eq_true h)]
    rfl
  · rw [if_neg h]
    rw [List.filter_cons, if_neg (by rw [decide_eq_false h]; exact Bool.false_ne_true), List.filter_nil, List.append_nil]
set_option maxHeartbeats 8000000 in
set_option maxRecDepth 100000 in
theorem RCritical_ok {m : AM} {v : Value} {j : List Job} (hj : Jobs m v j) (hs : Short j) (hok : jobsB j = true) (hn : (sortL j).length = j.length) : ACall Try.prog 39 #[v] m (RowR (nv (crJ j)) m) := by
  have h40 := (JOk.of hok).len
  have hel := eJ_len j
  have hll := lJ_len j
  obtain ⟨a, o, h1, h2, h3⟩ := id hj
  obtain ⟨qv, cv, rfl⟩ : ∃ q c, v = .slice q j.length c := by rcases h1 with ⟨rfl, h⟩ | ⟨c, _, rfl⟩ | ⟨h, o', k, rfl⟩; exact ⟨none, 0, by rw [h]⟩; exact ⟨_, _, rfl⟩; exact ⟨_, 0, by rw [h]⟩
  have hRe := fun T => REarly_ok (hj.old T) hs hok hn
  refine ACall.start Try.func39 rfl rfl ?_
  (repeat (first | (with_reducible refine AWo.cons ?_) | ((with_reducible refine Step.id ?_); first | ((with_reducible apply Step.move); exact rfl; exact rfl) | ((with_reducible apply Step.assign); exact rfl; exact rfl)) | (with_reducible refine AWo.nil ?_) | ((with_reducible apply AW.seq)) | ((with_reducible apply Then.n)) | ((with_reducible apply AW.regL))))
  ((with_reducible apply Step.callX fit); exact rfl; exact Try.func35; exact rfl; exact rfl; exact (hRe _))
  rintro _ M1 ⟨N1, hN1⟩ ⟨u, rfl, hu⟩
  have hm1 : ∃ N, M1 = m ++ N := ⟨_, by rw [hN1, List.append_assoc]⟩
  have hj1 : Jobs M1 (.slice qv j.length cv) j := by obtain ⟨N, rfl⟩ := hm1; exact hj.old _
  have hRl := fun T => RLate_ok (hj1.old T) hs hok hn
  clear hN1 hRe
  (repeat (first | (with_reducible refine AWo.cons ?_) | ((with_reducible refine Step.id ?_); first | ((with_reducible apply Step.move); exact rfl; exact rfl) | ((with_reducible apply Step.assign); exact rfl; exact rfl) | ((with_reducible apply Step.neq); exact rfl; exact rfl; exact rfl) | ((with_reducible apply Step.extract); exact rfl; exact rfl; exact rfl)) | (with_reducible refine AWo.nil ?_) | ((with_reducible apply AW.seq)) | ((with_reducible apply Then.n)) | ((with_reducible apply AW.regL)) | ((with_reducible apply AW.skip)) | ((with_reducible apply AW.condF); exact rfl; (focus (rfl)))))
  ((with_reducible apply Step.callX fit); exact rfl; exact Try.func37; exact rfl; exact rfl; exact (hRl _))
  rintro _ M2 ⟨N2, hN2⟩ ⟨w, rfl, hw⟩
  have hm2 : ∃ N, M2 = m ++ N := by obtain ⟨N, e⟩ := hm1; exact ⟨_, by rw [hN2, e, List.append_assoc, List.append_assoc]⟩
  obtain ⟨ua, uo, u1, u2, u3⟩ : Ints M2 u (eJ j) := by
    rw [hN2]
    obtain ⟨ua, uo, u1, u2, u3⟩ := hu
    exact ⟨ua, uo, u1, by rw [List.length_append, List.length_append]; omega, fun k hk => ((u3 k hk).old _).old _⟩
  obtain ⟨wa, wo, w1, w2, w3⟩ := hw
  rw [hel] at u1 u3
  rw [hll] at w1 w3
  clear hN2 hRl
  (repeat (first | (with_reducible refine AWo.cons ?_) | ((with_reducible refine Step.id ?_); first | ((with_reducible apply Step.move); exact rfl; exact rfl) | ((with_reducible apply Step.assign); exact rfl; exact rfl) | ((with_reducible apply Step.len); exact rfl; (focus (assumption)); (focus (decide +kernel)); exact rfl) | ((with_reducible apply Step.extract); exact rfl; exact rfl; exact rfl)) | (with_reducible refine AWo.nil ?_) | ((with_reducible apply AW.seq)) | ((with_reducible apply Then.n)) | ((with_reducible apply AW.regL)) | ((with_reducible apply AW.block))))
  refine AW.loopW (fun n' t M => ∃ (i : Nat) (x : Value), n' = j.length - i ∧ i ≤ j.length ∧ (∃ N, M = M2 ++ N) ∧ Row M M2.length 1 x (iv (nv (crP j i))) (crP j i).length ∧
    t = fr [(4, u), (6, w), (8, x), (24, .int .i64 (j.length : Nat)), (25, .int .i64 (i : Nat))]) ⟨_, _, (by repeat (first | exact trivial | (refine And.intro rfl ?_))), 0, _, rfl, Nat.zero_le _, ⟨[], rfl⟩, Row.nil, rfl⟩ ?_
  rintro n' t M ⟨i, x, rfl, hi, hp, hrow, rfl⟩
  rcases Nat.lt_or_ge i j.length with hlt | hge
  · have ru : Rd M ua (uo + i) (.int .i64 ((eJ j).getD i 0)) := by obtain ⟨N, rfl⟩ := hp; exact (u3 i hlt).old _
    have rw' : Rd M wa (wo + i) (.int .i64 ((lJ j).getD i 0)) := by obtain ⟨N, rfl⟩ := hp; exact (w3 i hlt).old _
    have hst := crP_succ j i
    have hcl := crP_len j i
    have hML : M2.length ≤ M.length := by obtain ⟨N, rfl⟩ := hp; simp
    refine AW.rebase ?_
    by_cases he : (eJ j).getD i 0 = (lJ j).getD i 0
    · rw [if_pos he] at hst
      generalize (eJ j).getD i 0 = e1 at *
      generalize (lJ j).getD i 0 = e2 at *
      subst he
      (repeat (first | (with_reducible refine AWo.cons ?_) | ((with_reducible refine Step.id ?_); first | ((with_reducible apply Step.move); exact rfl; exact rfl) | ((with_reducible apply Step.assign); exact rfl; exact rfl) | ((with_reducible apply Step.load); exact rfl; (focus (decide +kernel)); exact rfl; (focus (exact Rd.old _ (by assumption)))) | ((with_reducible apply Step.ix1); exact rfl; (focus (assumption)); exact rfl; (focus (decide +kernel)); exact rfl; (focus (omega))) | ((with_reducible apply Step.lss); exact rfl; exact rfl; exact rfl) | ((with_reducible apply Step.eql); exact rfl; exact rfl; exact rfl) | ((with_reducible apply Step.buildS 0); exact rfl; exact rfl; exact (fun _ _ => bs23x); exact rfl; (focus (first | (simp only [List.nil_append, List.cons_append, List.set_cons_zero, List.set_cons_succ, iv_set, bv_set, iv_rep, bv_rep]; done) | (simp only [List.nil_append, List.cons_append, List.set_cons_zero, List.set_cons_succ, iv_set, bv_set, iv_rep, bv_rep]; rfl) | rfl)))) | (with_reducible refine AWo.nil ?_) | ((with_reducible apply AW.seq)) | ((with_reducible apply Then.n)) | ((with_reducible apply AW.regL)) | ((with_reducible apply AW.block)) | ((with_reducible apply AW.drawL fit); (focus (decide +kernel))) | ((with_reducible apply AW.skip)) | ((with_reducible apply AW.condT); exact rfl; (focus (first | (simp only [decide_eq_true_eq, decide_eq_false_iff_not, Bool.not_eq_true', Bool.not_eq_false', Bool.not_true, Bool.not_false]; first | assumption | omega) | (simp; done))))))
      ((with_reducible apply Step.appRow (n := (crP j i).length) (xl := 1) (b0 := M2.length) (new := [.int .i64 (i : Nat)])); exact rfl; exact rfl; exact (hrow.old _); exact (Sl.mk (Nat.le_refl _)); exact (fun _ => RdL.new rfl rfl); exact el23; exact un23; exact rfl; exact rfl; exact rfl; (focus (omega)); exact rfl; (focus (rw [List.length_append]; omega)))
      intro x' Ma hr hl hk
      have hpa : ∃ N, Ma = M2 ++ N := pre_keep (by obtain ⟨N, rfl⟩ := hp; exact ⟨_, List.append_assoc _ _ _⟩) hl fun b hb => hk b (by rw [List.length_append]; omega) (NotOf.row hrow hb)
      (repeat (first | (with_reducible refine AWo.cons ?_) | ((with_reducible refine Step.id ?_); first | ((with_reducible apply Step.move); exact rfl; exact rfl) | ((with_reducible apply Step.assign); exact rfl; exact rfl) | ((with_reducible apply Step.add); exact rfl; exact rfl; (focus (omega)); exact rfl)) | (with_reducible refine AWo.nil ?_) | ((with_reducible apply Then.n)) | ((with_reducible apply AW.regL)) | ((with_reducible apply InBlk.n))))
      refine ⟨_, _, by omega, (by repeat (first | exact trivial | (refine And.intro rfl ?_))), i + 1, x', rfl, by omega, hpa, ?_, rfl⟩
      rw [hst, nv_snoc, List.length_append, List.length_singleton]
      have e : iv (nv (crP j i) ++ [((i : Nat) : Int)]) = iv (nv (crP j i)) ++ [.int .i64 (i : Nat)] := by simp [iv]
      rw [e]
      exact hr
    · rw [if_neg he] at hst
      (repeat (first | (with_reducible refine AWo.cons ?_) | ((with_reducible refine Step.id ?_); first | ((with_reducible apply Step.move); exact rfl; exact rfl) | ((with_reducible apply Step.assign); exact rfl; exact rfl) | ((with_reducible apply Step.load); exact rfl; (focus (decide +kernel)); exact rfl; (focus (exact Rd.old _ (by assumption)))) | ((with_reducible apply Step.ix1); exact rfl; (focus (assumption)); exact rfl; (focus (decide +kernel)); exact rfl; (focus (omega))) | ((with_reducible apply Step.add); exact rfl; exact rfl; (focus (omega)); exact rfl) | ((with_reducible apply Step.lss); exact rfl; exact rfl; exact rfl) | ((with_reducible apply Step.eql); exact rfl; exact rfl; exact rfl)) | (with_reducible refine AWo.nil ?_) | ((with_reducible apply AW.seq)) | ((with_reducible apply Then.n)) | ((with_reducible apply AW.regL)) | ((with_reducible apply AW.block)) | ((with_reducible apply AW.drawL fit); (focus (decide +kernel))) | ((with_reducible apply InBlk.n)) | ((with_reducible apply AW.skip)) | ((with_reducible apply AW.condT); exact rfl; (focus ((simp only [decide_eq_true_eq, decide_eq_false_iff_not, Bool.not_eq_true', Bool.not_eq_false', Bool.not_true, Bool.not_false]; first | assumption | omega)))) | ((with_reducible apply AW.condF); exact rfl; (focus ((simp only [decide_eq_true_eq, decide_eq_false_iff_not, Bool.not_eq_true', Bool.not_eq_false', Bool.not_true, Bool.not_false]; first | assumption | omega))))))
      exact ⟨_, _, by omega, (by repeat (first | exact trivial | (refine And.intro rfl ?_))), i + 1, x, rfl, by omega, by rw [List.append_nil]; exact hp, by rw [hst, List.append_nil]; exact hrow, rfl⟩
  · obtain rfl : i = j.length := by omega
    have hc : crP j j.length = crJ j := rfl
    rw [hc] at hrow
    have hML : 0 < M.length := by obtain ⟨N, rfl⟩ := hp; obtain ⟨N', rfl⟩ := hm2; simp; omega
    obtain ⟨xa, xs, xl, xr⟩ := Row.sl hrow hML
    refine AW.rebase ?_
    (repeat (first | (with_reducible refine AWo.cons ?_) | ((with_reducible refine Step.id ?_); first | ((with_reducible apply Step.move); exact rfl; exact rfl) | ((with_reducible apply Step.assign); exact rfl; exact rfl) | ((with_reducible apply Step.lss); exact rfl; exact rfl; exact rfl)) | (with_reducible refine AWo.nil ?_) | ((with_reducible apply AW.seq)) | ((with_reducible apply Then.n)) | ((with_reducible apply AW.regL)) | ((with_reducible apply AW.exit)) | ((with_reducible apply InBlk.hit)) | ((with_reducible apply Then.e)) | ((with_reducible apply AW.condF); exact rfl; (focus ((simp only [decide_eq_true_eq, decide_eq_false_iff_not, Bool.not_eq_true', Bool.not_eq_false', Bool.not_true, Bool.not_false]; first | assumption | omega))))))
    (refine AW.ret ?_; (repeat (first | refine Then.r ?_ | refine InBlk.r ?_)))
    obtain ⟨N, rfl⟩ := hp
    obtain ⟨N', rfl⟩ := hm2
    refine ⟨_, rfl, _, by rw [List.append_nil, List.append_assoc], _, rfl, xa, 0, by rw [nv_len]; exact xs, by rw [List.append_nil]; exact xl, fun k hk => ?_⟩
    rw [nv_len] at hk
    have := (xr (by omega)).at_ k (iv_get (l := nv (crJ j)) (k := k) (by rw [nv_len]; exact hk))
    exact this.old _
set_option maxRecDepth 100000 in
theorem RCritical_no {m : AM} {v : Value} {j : List Job} (hj : Jobs m v j) (hs : Short j) {e : Int} (he : errJ j = e) (hne : e ≠ 0) : ACall Try.prog 39 #[v] m (Ret (.tuple #[.slice none 0 0, .int .i64 e]) m) := by
  have h := fun T => REarly_no (hj.old T) hs he hne
  refine ACall.start Try.func39 rfl rfl ?_
  (repeat (first | (with_reducible refine AWo.cons ?_) | ((with_reducible refine Step.id ?_); first | ((with_reducible apply Step.move); exact rfl; exact rfl) | ((with_reducible apply Step.assign); exact rfl; exact rfl) | ((with_reducible apply Step.neq); exact rfl; exact rfl; exact rfl) | ((with_reducible apply Step.extract); exact rfl; exact rfl; exact rfl) | ((with_reducible apply Step.callR fit); exact rfl; exact Try.func35; exact rfl; exact rfl; exact (h _))) | (with_reducible refine AWo.nil ?_) | ((with_reducible apply AW.seq)) | ((with_reducible apply Then.n)) | ((with_reducible apply AW.regL)) | ((with_reducible apply AW.condT); exact rfl; (focus ((simp only [decide_eq_true_eq, decide_eq_false_iff_not, Bool.not_eq_true', Bool.not_eq_false', Bool.not_true, Bool.not_false]; first | assumption | omega))))))
  (refine AW.retD (l := [(2, _), (3, _)]) (by repeat (first | exact trivial | (refine And.intro ⟨rfl, by (first | exact .int _ _ | exact Ren.of_g0 rfl)⟩ ?_))) ?_; (repeat (first | refine Then.r ?_ | refine InBlk.r ?_)))
  exact ⟨_, rfl, rfl, rfl⟩
end Go.Proofs.Ytmomjannlnafcaa.Abs
namespace Go.Proofs.Ytmomjannlnafcaa.Abs
set_option linter.unusedSimpArgs false
set_option linter.unusedVariables false
open Go.RowKit
open Go.Proofs.Ytmomjannlnafcaa.Sim
open Go.Proofs
theorem ints_old {m : AM} {v : Value} {l : List Int} (h : Ints m v l) (L : AM) : Ints (m ++ L) v l := by
  obtain ⟨a, o, h1, h2, h3⟩ := h
  exact ⟨a, o, h1, by rw [List.length_append]; omega, fun k hk => (h3 k hk).old L⟩
theorem pre_up2 {m A B : AM} (h : ∃ N, A = m ++ N) (k : ∃ N, B = A ++ N) : ∃ N, B = m ++ N := by
  obtain ⟨N, rfl⟩ := h
  obtain ⟨N', rfl⟩ := k
  exact ⟨_, List.append_assoc _ _ _⟩
theorem nv_crJ_len (j : List Job) : (nv (crJ j)).length ≤ j.length := by rw [nv_len]; exact crP_len j j.length
set_option maxHeartbeats 8000000 in
set_option maxRecDepth 100000 in
theorem BenchEarly_ok {m : AM} {v : Value} {j : List Job} (hj : Jobs m v j) (hs : Short j) : ACall Try.prog 8 #[v] m (Ret (.bool true) m) := by
  refine ACall.drop (.bool _) ?_
  have hM : 0 < m.length := by obtain ⟨a, o, h1, h2, h3⟩ := id hj; omega
  have haw : ∀ M, ACall Try.prog 24 #[] M (Ret (.bool true) M) := fun M => awake_ok
  have J0 : ∀ M, (∃ N, M = m ++ N) → Jobs M v j := fun M ⟨N, e⟩ => by rw [e]; exact hj.old _
  have up : ∀ {A B : AM}, (∃ N, A = m ++ N) → (∃ N, B = A ++ N) → ∃ N, B = m ++ N := pre_up2
  have hC := fun M h T => f34_ok ((J0 M h).old T) hs
  refine ACall.start Try.func8 rfl rfl ?_
  (repeat (first | (with_reducible refine AWo.cons ?_) | ((with_reducible refine Step.id ?_); first | ((with_reducible apply Step.move); exact rfl; exact rfl) | ((with_reducible apply Step.assign); exact rfl; exact rfl)) | (with_reducible refine AWo.nil ?_) | ((with_reducible apply AW.seq)) | ((with_reducible apply Then.n)) | ((with_reducible apply AW.regL))))
  rw [List.append_nil]
  have h0 : ∃ N, m = m ++ N := ⟨[], (List.append_nil m).symm⟩
  have c0 := hC m h0 []
  rw [List.append_nil] at c0
  ((with_reducible apply Step.callX fit); exact rfl; exact Try.func34; exact rfl; exact rfl; exact c0)
  rintro v1 M1 ⟨N1, hN1⟩ hJ1
  have hm1 := up h0 ⟨N1, hN1⟩
  clear hN1 c0
  by_cases he : errJ j = 0
  · obtain ⟨hok, hn⟩ := errJ_zero he
    have h40 := (JOk.of hok).len
    have hel := eJ_len j
    have hll := lJ_len j
    have hcl := nv_crJ_len j
    rw [conv_self hok] at hJ1
    (repeat ((with_reducible refine AWo.cons ?_)))
    ((with_reducible apply Step.callX fit); exact rfl; exact Try.func33; exact rfl; exact rfl; exact (Early_ok (hJ1.old _) hok hn))
    rintro _ M2 ⟨N2, hN2⟩ ⟨u, rfl, hu⟩
    have hm2 : ∃ N, M2 = m ++ N := up hm1 ⟨_, by rw [hN2, List.append_assoc]⟩
    clear hN2
    (repeat (first | (with_reducible refine AWo.cons ?_) | ((with_reducible refine Step.id ?_); first | ((with_reducible apply Step.move); exact rfl; exact rfl) | ((with_reducible apply Step.assign); exact rfl; exact rfl) | ((with_reducible apply Step.extract); exact rfl; exact rfl; exact rfl)) | (with_reducible refine AWo.nil ?_) | ((with_reducible apply AW.seq)) | ((with_reducible apply Then.n)) | ((with_reducible apply AW.regL))))
    ((with_reducible apply Step.callX fit); exact rfl; exact Try.func35; exact rfl; exact rfl; exact (REarly_ok ((J0 M2 hm2).old _) hs hok hn))
    rintro _ M3 ⟨N3, hN3⟩ ⟨u', rfl, hu'⟩
    have hm3 : ∃ N, M3 = m ++ N := up hm2 ⟨_, by rw [hN3, List.append_assoc]⟩
    have hu3 : Ints M3 u (eJ j) := by rw [hN3]; exact ints_old (ints_old hu _) _
    have eq1 := fun T => equal_ok (ints_old hu3 T) (ints_old hu' T) (by omega) (b := true) (by simp)
    clear hN3
    (repeat (first | (with_reducible refine AWo.cons ?_) | ((with_reducible refine Step.id ?_); first | ((with_reducible apply Step.gdT); exact rfl; exact rfl; (focus (rfl))) | ((with_reducible apply Step.move); exact rfl; exact rfl) | ((with_reducible apply Step.assign); exact rfl; exact rfl) | ((with_reducible apply Step.neq); exact rfl; exact rfl; exact rfl) | ((with_reducible apply Step.not); exact rfl; exact rfl) | ((with_reducible apply Step.extract); exact rfl; exact rfl; exact rfl) | ((with_reducible apply Step.pickF); exact rfl; exact rfl; exact rfl; exact rfl; (focus (rfl))) | ((with_reducible apply Step.callR fit); exact rfl; exact Try.func23; exact rfl; exact rfl; exact (eq1 _)) | ((with_reducible apply Step.callR fit); exact rfl; exact Try.func24; exact rfl; exact rfl; exact (haw _))) | (with_reducible refine AWo.nil ?_) | ((with_reducible apply AW.seq)) | ((with_reducible apply Then.n)) | ((with_reducible apply AW.regL)) | ((with_reducible apply AW.skip)) | ((with_reducible apply AW.condF); exact rfl; (focus (rfl)))))
    ((with_reducible apply Step.callX fit); exact rfl; exact Try.func34; exact rfl; exact rfl; exact (hC M3 hm3 _))
    rintro v4 M4 ⟨N4, hN4⟩ hJ4
    have hm4 : ∃ N, M4 = m ++ N := up hm3 ⟨_, by rw [hN4, List.append_assoc]⟩
    rw [conv_self hok] at hJ4
    clear hN4 eq1 hu hu' hu3
    (repeat ((with_reducible refine AWo.cons ?_)))
    ((with_reducible apply Step.callX fit); exact rfl; exact Try.func36; exact rfl; exact rfl; exact (Late_ok (hJ4.old _) hok hn))
    rintro _ M5 ⟨N5, hN5⟩ ⟨w, rfl, hw⟩
    have hm5 : ∃ N, M5 = m ++ N := up hm4 ⟨_, by rw [hN5, List.append_assoc]⟩
    clear hN5
    (repeat (first | (with_reducible refine AWo.cons ?_) | ((with_reducible refine Step.id ?_); first | ((with_reducible apply Step.move); exact rfl; exact rfl) | ((with_reducible apply Step.assign); exact rfl; exact rfl) | ((with_reducible apply Step.extract); exact rfl; exact rfl; exact rfl)) | (with_reducible refine AWo.nil ?_) | ((with_reducible apply AW.seq)) | ((with_reducible apply Then.n)) | ((with_reducible apply AW.regL))))
    ((with_reducible apply Step.callX fit); exact rfl; exact Try.func37; exact rfl; exact rfl; exact (RLate_ok ((J0 M5 hm5).old _) hs hok hn))
    rintro _ M6 ⟨N6, hN6⟩ ⟨w', rfl, hw'⟩
    have hm6 : ∃ N, M6 = m ++ N := up hm5 ⟨_, by rw [hN6, List.append_assoc]⟩
    have hw3 : Ints M6 w (lJ j) := by rw [hN6]; exact ints_old (ints_old hw _) _
    have eq2 := fun T => equal_ok (ints_old hw3 T) (ints_old hw' T) (by omega) (b := true) (by simp)
    clear hN6
    (repeat (first | (with_reducible refine AWo.cons ?_) | ((with_reducible refine Step.id ?_); first | ((with_reducible apply Step.gdT); exact rfl; exact rfl; (focus (rfl))) | ((with_reducible apply Step.move); exact rfl; exact rfl) | ((with_reducible apply Step.assign); exact rfl; exact rfl) | ((with_reducible apply Step.neq); exact rfl; exact rfl; exact rfl) | ((with_reducible apply Step.not); exact rfl; exact rfl) | ((with_reducible apply Step.extract); exact rfl; exact rfl; exact rfl) | ((with_reducible apply Step.pickF); exact rfl; exact rfl; exact rfl; exact rfl; (focus (rfl))) | ((with_reducible apply Step.callR fit); exact rfl; exact Try.func23; exact rfl; exact rfl; exact (eq2 _))) | (with_reducible refine AWo.nil ?_) | ((with_reducible apply AW.seq)) | ((with_reducible apply Then.n)) | ((with_reducible apply AW.regL)) | ((with_reducible apply AW.skip)) | ((with_reducible apply AW.condF); exact rfl; (focus (rfl)))))
    ((with_reducible apply Step.callX fit); exact rfl; exact Try.func34; exact rfl; exact rfl; exact (hC M6 hm6 _))
    rintro v7 M7 ⟨N7, hN7⟩ hJ7
    have hm7 : ∃ N, M7 = m ++ N := up hm6 ⟨_, by rw [hN7, List.append_assoc]⟩
    rw [conv_self hok] at hJ7
    clear hN7 eq2 hw hw' hw3
    (repeat ((with_reducible refine AWo.cons ?_)))
    ((with_reducible apply Step.callX fit); exact rfl; exact Try.func38; exact rfl; exact rfl; exact (Critical_ok (hJ7.old _) hok hn))
    rintro _ M8 ⟨N8, hN8⟩ ⟨x, rfl, hx⟩
    have hm8 : ∃ N, M8 = m ++ N := up hm7 ⟨_, by rw [hN8, List.append_assoc]⟩
    clear hN8
    (repeat (first | (with_reducible refine AWo.cons ?_) | ((with_reducible refine Step.id ?_); first | ((with_reducible apply Step.move); exact rfl; exact rfl) | ((with_reducible apply Step.assign); exact rfl; exact rfl) | ((with_reducible apply Step.extract); exact rfl; exact rfl; exact rfl)) | (with_reducible refine AWo.nil ?_) | ((with_reducible apply AW.seq)) | ((with_reducible apply Then.n)) | ((with_reducible apply AW.regL))))
    ((with_reducible apply Step.callX fit); exact rfl; exact Try.func39; exact rfl; exact rfl; exact (RCritical_ok ((J0 M8 hm8).old _) hs hok hn))
    rintro _ M9 ⟨N9, hN9⟩ ⟨x', rfl, hx'⟩
    have hm9 : ∃ N, M9 = m ++ N := up hm8 ⟨_, by rw [hN9, List.append_assoc]⟩
    have hx3 : Ints M9 x (nv (crJ j)) := by rw [hN9]; exact ints_old (ints_old hx _) _
    have eq3 := fun T => equal_ok (ints_old hx3 T) (ints_old hx' T) (by omega) (b := true) (by simp)
    clear hN9
    (repeat (first | (with_reducible refine AWo.cons ?_) | ((with_reducible refine Step.id ?_); first | ((with_reducible apply Step.gdT); exact rfl; exact rfl; (focus (rfl))) | ((with_reducible apply Step.move); exact rfl; exact rfl) | ((with_reducible apply Step.assign); exact rfl; exact rfl) | ((with_reducible apply Step.eql); exact rfl; exact rfl; exact rfl) | ((with_reducible apply Step.extract); exact rfl; exact rfl; exact rfl) | ((with_reducible apply Step.pickT); exact rfl; exact rfl; exact rfl; exact rfl; (focus (rfl))) | ((with_reducible apply Step.callR fit); exact rfl; exact Try.func23; exact rfl; exact rfl; exact (eq3 _))) | (with_reducible refine AWo.nil ?_) | ((with_reducible apply AW.seq)) | ((with_reducible apply Then.n)) | ((with_reducible apply AW.regL))))
    (refine AW.ret ?_; (repeat (first | refine Then.r ?_ | refine InBlk.r ?_)))
    obtain ⟨N, hN⟩ := hm9
    exact ⟨_, rfl, rfl, _, by rw [hN, List.append_assoc]⟩
  · obtain ⟨e, hee⟩ : ∃ e, errJ j = e := ⟨_, rfl⟩
    rw [hee] at he
    have hn0 : ∀ M T, 0 < M.length → Ints (M ++ T) (.slice none 0 0) [] := fun M T h => ⟨0, 0, .inl ⟨rfl, rfl⟩, by rw [List.length_append]; omega, fun k hk => by simp at hk⟩
    have hpos : ∀ {M : AM}, (∃ N, M = m ++ N) → 0 < M.length := fun ⟨N, e⟩ => by rw [e, List.length_append]; omega
    have eqn := fun M h T => equal_ok (hn0 M T h) (hn0 M T h) (by simp) (b := true) (by simp)
    (repeat (first | (with_reducible refine AWo.cons ?_) | ((with_reducible refine Step.id ?_); first | ((with_reducible apply Step.gdT); exact rfl; exact rfl; (focus (first | rfl | (simp; done)))) | ((with_reducible apply Step.move); exact rfl; exact rfl) | ((with_reducible apply Step.assign); exact rfl; exact rfl) | ((with_reducible apply Step.neq); exact rfl; exact rfl; exact rfl) | ((with_reducible apply Step.not); exact rfl; exact rfl) | ((with_reducible apply Step.extract); exact rfl; exact rfl; exact rfl) | ((with_reducible apply Step.pickF); exact rfl; exact rfl; exact rfl; exact rfl; (focus (first | rfl | (simp; done)))) | ((with_reducible apply Step.callR fit); exact rfl; exact Try.func33; exact rfl; exact rfl; exact (Early_no (checked_no (hJ1.old _) hee he) he)) | ((with_reducible apply Step.callR fit); exact rfl; exact Try.func35; exact rfl; exact rfl; exact (REarly_no ((J0 M1 hm1).old _) hs hee he)) | ((with_reducible apply Step.callR fit); exact rfl; exact Try.func23; exact rfl; exact rfl; exact (eqn M1 (hpos hm1) _)) | ((with_reducible apply Step.callR fit); exact rfl; exact Try.func24; exact rfl; exact rfl; exact (haw _))) | (with_reducible refine AWo.nil ?_) | ((with_reducible apply AW.seq)) | ((with_reducible apply Then.n)) | ((with_reducible apply AW.regL)) | ((with_reducible apply AW.skip)) | ((with_reducible apply AW.condF); exact rfl; (focus (rfl)))))
    ((with_reducible apply Step.callX fit); exact rfl; exact Try.func34; exact rfl; exact rfl; exact (hC M1 hm1 _))
    rintro v4 M4 ⟨N4, hN4⟩ hJ4
    have hm4 : ∃ N, M4 = m ++ N := up hm1 ⟨_, by rw [hN4, List.append_assoc]⟩
    clear hN4
    (repeat (first | (with_reducible refine AWo.cons ?_) | ((with_reducible refine Step.id ?_); first | ((with_reducible apply Step.gdT); exact rfl; exact rfl; (focus (rfl))) | ((with_reducible apply Step.move); exact rfl; exact rfl) | ((with_reducible apply Step.assign); exact rfl; exact rfl) | ((with_reducible apply Step.neq); exact rfl; exact rfl; exact rfl) | ((with_reducible apply Step.not); exact rfl; exact rfl) | ((with_reducible apply Step.extract); exact rfl; exact rfl; exact rfl) | ((with_reducible apply Step.pickF); exact rfl; exact rfl; exact rfl; exact rfl; (focus (rfl))) | ((with_reducible apply Step.callR fit); exact rfl; exact Try.func36; exact rfl; exact rfl; exact (Late_no (checked_no (hJ4.old _) hee he) he)) | ((with_reducible apply Step.callR fit); exact rfl; exact Try.func37; exact rfl; exact rfl; exact (RLate_no ((J0 M4 hm4).old _) hs hee he)) | ((with_reducible apply Step.callR fit); exact rfl; exact Try.func23; exact rfl; exact rfl; exact (eqn M4 (hpos hm4) _))) | (with_reducible refine AWo.nil ?_) | ((with_reducible apply AW.seq)) | ((with_reducible apply Then.n)) | ((with_reducible apply AW.regL)) | ((with_reducible apply AW.skip)) | ((with_reducible apply AW.condF); exact rfl; (focus ((simp; done))))))
    ((with_reducible apply Step.callX fit); exact rfl; exact Try.func34; exact rfl; exact rfl; exact (hC M4 hm4 _))
    rintro v7 M7 ⟨N7, hN7⟩ hJ7
    have hm7 : ∃ N, M7 = m ++ N := up hm4 ⟨_, by rw [hN7, List.append_assoc]⟩
    clear hN7
    (repeat (first | (with_reducible refine AWo.cons ?_) | ((with_reducible refine Step.id ?_); first | ((with_reducible apply Step.gdT); exact rfl; exact rfl; (focus (rfl))) | ((with_reducible apply Step.move); exact rfl; exact rfl) | ((with_reducible apply Step.assign); exact rfl; exact rfl) | ((with_reducible apply Step.eql); exact rfl; exact rfl; exact rfl) | ((with_reducible apply Step.extract); exact rfl; exact rfl; exact rfl) | ((with_reducible apply Step.pickT); exact rfl; exact rfl; exact rfl; exact rfl; (focus (rfl))) | ((with_reducible apply Step.callR fit); exact rfl; exact Try.func38; exact rfl; exact rfl; exact (Critical_no (checked_no (hJ7.old _) hee he) he)) | ((with_reducible apply Step.callR fit); exact rfl; exact Try.func39; exact rfl; exact rfl; exact (RCritical_no ((J0 M7 hm7).old _) hs hee he)) | ((with_reducible apply Step.callR fit); exact rfl; exact Try.func23; exact rfl; exact rfl; exact (eqn M7 (hpos hm7) _))) | (with_reducible refine AWo.nil ?_) | ((with_reducible apply AW.seq)) | ((with_reducible apply Then.n)) | ((with_reducible apply AW.regL))))
    (refine AW.ret ?_; (repeat (first | refine Then.r ?_ | refine InBlk.r ?_)))
    obtain ⟨N, hN⟩ := hm7
    exact ⟨_, rfl, by simp, _, by rw [hN, List.append_assoc]⟩
end Go.Proofs.Ytmomjannlnafcaa.Abs
namespace Go.Proofs.Ytmomjannlnafcaa.Abs
set_option linter.unusedSimpArgs false
set_option linter.unusedVariables false
open Go.RowKit
open Go.Proofs.Ytmomjannlnafcaa.Sim
open Go.ChangeShapes Go.WideShapes Go.Deep
def plN (bs : List AR) : Pl := fun i => (bs[i]?).bind mkP
def mkV2 (i : Nat) : Value → Value
  | .slice (some ⟨_, _, some k⟩) _ _ => .slice (some ⟨i, 0, some k⟩) 0 0
  | .slice (some ⟨_, _, none⟩) n _ => .slice (some ⟨i, 0, none⟩) n n
  | v => v
def mkB2 : AR → Option Blk
  | (.slice (some _) _ (_ + 1), c) => some { cells := c, kind := .ro }
  | _ => none
/-- A slice of the input, with its cells as the abstract memory has them; or what is no block. -/
def OkB (W : World) (R : Pl) (a : AR) : Prop := g0 a.1 = true ∨ (∃ x, a.1 = .slice (some x) 0 0) ∨
  ∃ b o n cap, a.1 = .slice (some ⟨b, o, none⟩) n (cap + 1) ∧ n ≤ cap + 1 ∧ b < W.heap.size ∧ ∀ j x, a.2[j]? = some x → ∃ x', W.cell? ⟨b, o + j, none⟩ = some x' ∧ Rel R x x'
theorem relN {W : World} {R : Pl} {bs : List AR} {i : Nat} {a : AR} (hi : bs[i]? = some a) (h : OkB W R a) : Rel (plN bs) (mkV2 i a.1) a.1 := by
  obtain ⟨v, c⟩ := a
  rcases h with h1 | ⟨⟨b, o, sp⟩, h1⟩ | ⟨b, o, n, cap, h1, h2, h3, h4⟩
  · simp only at h1 ⊢
    cases v with
    | slice x n cap => cases x with
      | none => exact g0_rel h1
      | some x => simp [g0] at h1
    | _ => exact g0_rel h1
  · simp only at h1 ⊢
    subst h1
    cases sp with
    | none =>
      have := Rel.slice (R := plN bs) i 0 0 0 ⟨b, o, 0 - 0⟩ (by simp [plN, hi, mkP]) (Nat.le_refl _)
      simpa [mkV2] using this
    | some k =>
      have := Rel.sliceSpot (R := plN bs) i 0 k ⟨b, o, 0 - 0⟩ (by simp [plN, hi, mkP])
      simpa [mkV2] using this
  · simp only at h1 ⊢
    subst h1
    have := Rel.slice (R := plN bs) i 0 n n ⟨b, o, cap + 1 - n⟩ (by simp [plN, hi, mkP]) (Nat.le_refl _)
    rw [show n + (cap + 1 - n) = cap + 1 by omega] at this
    simpa [mkV2] using this
def mkVs2 : Nat → List AR → List Value
  | _, [] => []
  | i, a :: l => mkV2 i a.1 :: mkVs2 (i + 1) l
theorem mkVs2_get : ∀ (l : List AR) (i k : Nat), (mkVs2 i l)[k]? = (l[k]?).map fun a => mkV2 (i + k) a.1
  | [], i, k => by simp [mkVs2]
  | a :: l, i, 0 => by simp [mkVs2]
  | a :: l, i, k + 1 => by simp only [mkVs2, List.getElem?_cons_succ, mkVs2_get l (i + 1) k]; congr 1; funext x; congr 1; omega
theorem mkVs2_len : ∀ (l : List AR) (i : Nat), (mkVs2 i l).length = l.length
  | [], _ => rfl
  | a :: l, i => by simp [mkVs2, mkVs2_len l (i + 1)]
theorem mkB2_none {W : World} {R : Pl} {a : AR} {b : Blk} (h : OkB W R a) (hb : mkB2 a = some b) : ∃ bb o n cap, a.1 = .slice (some ⟨bb, o, none⟩) n (cap + 1) ∧ b = { cells := a.2, kind := .ro } ∧ bb < W.heap.size ∧ ∀ j x, a.2[j]? = some x → ∃ x', W.cell? ⟨bb, o + j, none⟩ = some x' ∧ Rel R x x' := by
  obtain ⟨v, c⟩ := a
  rcases h with h1 | ⟨x, h1⟩ | ⟨bb, o, n, cap, h1, h2, h3, h4⟩
  · simp only at h1
    cases v with
    | slice x n cap => cases x with
      | none => simp [mkB2] at hb
      | some x => simp [g0] at h1
    | _ => simp [mkB2] at hb
  · simp only at h1
    subst h1
    simp [mkB2] at hb
  · simp only at h1
    subst h1
    simp only [mkB2, Option.some.injEq] at hb
    exact ⟨bb, o, n, cap, rfl, hb.symm, h3, h4⟩
theorem top_callN {P : Program} {f : FuncId} {W : World} (bs : List AR) (na : Nat) (h : ∀ a ∈ bs, OkB W (plN bs) a) (hc : ACall P f ((mkVs2 0 bs).take na).toArray (bs.map mkB2) (Ret (.bool true) (bs.map mkB2))) :
    Calls P f ((bs.take na).map (·.1)).toArray W fun e w' => e = .returned (.bool true) ∧ Below W.heap.size W w' := by
  have hm : MRep W.heap.size (plN bs) (bs.map mkB2) W := by
    refine ⟨fun i hi => ?_, fun i b hi => ?_, fun i j b c p q hi hj hb _ _ _ _ => ?_⟩
    · simp only [List.length_map] at hi
      simp [plN, List.getElem?_eq_none hi]
    · rw [List.getElem?_map] at hi
      cases ha : bs[i]? with
      | none => rw [ha] at hi; cases hi
      | some a =>
        rw [ha] at hi
        simp only [Option.map_some, Option.some.injEq] at hi
        obtain ⟨bb, o, n, cap, h1, rfl, h3, h4⟩ := mkB2_none (h _ (List.mem_of_getElem? ha)) hi
        obtain ⟨v, c⟩ := a
        simp only at h1 h4
        subst h1
        refine ⟨⟨bb, o, cap + 1 - n⟩, by simp [plN, ha, mkP], h3, ?_⟩
        exact ⟨fun e => by simp at e, fun j x hj => h4 j x hj⟩
    · rw [List.getElem?_map] at hi
      cases ha : bs[i]? with
      | none => rw [ha] at hi; cases hi
      | some a =>
        rw [ha] at hi
        simp only [Option.map_some, Option.some.injEq] at hi
        obtain ⟨bb, o, n, cap, h1, rfl, _⟩ := mkB2_none (h _ (List.mem_of_getElem? ha)) hi
        cases hb
  have hargs : Rels (plN bs) ((mkVs2 0 bs).take na).toArray ((bs.take na).map (·.1)).toArray := by
    refine ⟨by simp [mkVs2_len], fun i hi => ?_⟩
    simp only [List.size_toArray, List.length_take, mkVs2_len] at hi
    have hib : i < bs.length := by omega
    have ha : bs[i]? = some bs[i] := List.getElem?_eq_getElem hib
    have e1 : ((mkVs2 0 bs).take na).toArray.getD i undef = mkV2 i bs[i].1 := by
      simp [mkVs2_get, ha, List.getElem?_take, show i < na by omega]
    have e2 : ((bs.take na).map (·.1)).toArray.getD i undef = bs[i].1 := by simp [List.getElem?_take, show i < na by omega, ha]
    rw [e1, e2]
    exact relN ha (h _ (List.mem_of_getElem? ha))
  refine (hc W.heap.size (plN bs) W _ (Nat.le_refl _) hm hargs).mono ?_
  rintro e w' ⟨v, v', R', m', rfl, k1, k2, rfl, rfl⟩
  cases k1
  exact ⟨rfl, k2.below hm (Nat.le_refl _)⟩
section
variable {H : Type} {enc : TypeId × Value → H} {P : Program} {w : World} {base : Nat} {held : Bool}
theorem cell_some {a : Addr} {v : Value} (h : w.cell? a = some v) : a.spot = none ∧ a.block < w.heap.size := by
  unfold World.cell? at h
  cases hb : w.heap[a.block]? with
  | none => rw [hb] at h; cases h
  | some o =>
    refine ⟨?_, (Array.getElem?_eq_some_iff.1 hb).1⟩
    rw [hb] at h
    cases o with
    | cells c ty fz =>
      simp only at h
      split at h
      · cases h
      · rename_i hs
        cases hsp : a.spot with
        | none => rfl
        | some k => rw [hsp] at hs; simp at hs
    | _ => cases h
/-- A slice of ints that the input shows, wherever it stands. -/
theorem ints_sl {T e : TypeId} {fuel : Nat} {v : Value} {d : DataW H × List MemPlace} (ht : P.underlying T = some (.slice e)) (he : P.underlying e = some (.int .i64)) (hce : P.cellsOf e = 1) (h : DataW.trod enc P w base (fun _ => true) held fuel T [v] = some d) :
    ∃ l : List Int, l.length ≤ maxLen ∧ (∀ R, OkB w R (v, iv l)) ∧ ∀ (bs : List AR) (i : Nat), bs[i]? = some (v, iv l) → Ints (bs.map mkB2) (mkV2 i v) l := by
  rcases open_ints ht he hce h with ⟨hcs, _⟩ | ⟨x, n, c, zs, hcs, _, hl, hm, hz, _, hcell, _⟩
  · obtain rfl : v = .slice none 0 0 := by simpa using hcs
    refine ⟨[], Nat.zero_le _, fun R => .inl rfl, fun bs i hi => ⟨i, 0, .inl ⟨rfl, rfl⟩, by simp; exact (List.getElem?_eq_some_iff.1 hi).1, fun k hk => by simp at hk⟩⟩
  · obtain rfl : v = .slice (some x) n c := by simpa using hcs
    rw [if_pos rfl] at hz
    have hlen : (zs.take n).length = n := by simp; omega
    cases c with
    | zero =>
      obtain rfl : n = 0 := by omega
      have e0 : zs.take 0 = [] := by simp
      refine ⟨[], Nat.zero_le _, fun R => .inr (.inl ⟨x, rfl⟩), fun bs i hi => ?_⟩
      have hlt : i < (bs.map mkB2).length := by simp; exact (List.getElem?_eq_some_iff.1 hi).1
      obtain ⟨b, o, sp⟩ := x
      cases sp with
      | none => exact ⟨i, 0, Sl.mk (Nat.le_refl _), hlt, fun k hk => by simp at hk⟩
      | some k => exact ⟨i, 0, .inr (.inr ⟨rfl, 0, k, rfl⟩), hlt, fun k hk => by simp at hk⟩
    | succ c =>
      obtain ⟨b, o, sp⟩ := x
      have h0 := cell_some (hcell 0 (by omega))
      obtain rfl : sp = none := h0.1
      have hb : b < w.heap.size := h0.2
      refine ⟨zs.take n, by omega, fun R => .inr (.inr ⟨b, o, n, c, rfl, hl, hb, fun j x hj => ?_⟩), fun bs i hi => ?_⟩
      · simp only [iv, List.getElem?_map] at hj
        by_cases hjn : j < n
        · rw [List.getElem?_take, if_pos hjn, List.getElem?_eq_getElem (by omega)] at hj
          simp only [Option.map_some, Option.some.injEq] at hj
          have := hcell j (by omega)
          rw [Addr.add_lit] at this
          refine ⟨_, this, ?_⟩
          rw [← hj]
          simp only [List.getD_eq_getElem?_getD, List.getElem?_eq_getElem (show j < zs.length by omega), Option.getD_some]
          exact .int _ _
        · rw [List.getElem?_take, if_neg hjn] at hj
          cases hj
      · have hM : (bs.map mkB2)[i]? = some (some { cells := iv (zs.take n), kind := .ro }) := by rw [List.getElem?_map, hi]; rfl
        exact ints_at hM rfl n hlen.symm
end
end Go.Proofs.Ytmomjannlnafcaa.Abs
namespace Go.Proofs.Ytmomjannlnafcaa.Abs
set_option linter.unusedSimpArgs false
set_option linter.unusedVariables false
open Go.RowKit
open Go.Proofs.Ytmomjannlnafcaa.Sim
open Go.Proofs
open Go.ChangeShapes Go.WideShapes Go.Deep
/-- The cells of n jobs; the After of job k lies in block e0 + k. -/
def jobCs (F : Nat → Job) (s : Nat → Value) (e0 n : Nat) : List Value := (List.range n).flatMap fun k => (F k).cells (mkV2 (e0 + k) (s k))
theorem jobCs_succ (F : Nat → Job) (s : Nat → Value) (e0 n : Nat) : jobCs F s e0 (n + 1) = jobCs F s e0 n ++ (F n).cells (mkV2 (e0 + n) (s n)) := by
  simp [jobCs, List.range_succ, List.flatMap_append]
theorem jobCs_len (F : Nat → Job) (s : Nat → Value) (e0 : Nat) : ∀ n, (jobCs F s e0 n).length = n * 4
  | 0 => rfl
  | n + 1 => by rw [jobCs_succ, List.length_append, jobCs_len F s e0 n]; simp [Job.cells]; omega
theorem jobCs_get (F : Nat → Job) (s : Nat → Value) (e0 : Nat) : ∀ n k, k < n → ∀ q v, ((F k).cells (mkV2 (e0 + k) (s k)))[q]? = some v → (jobCs F s e0 n)[k * 4 + q]? = some v
  | 0, k, h, _, _, _ => by omega
  | n + 1, k, h, q, v, hq => by
    have hq4 : q < 4 := by have := (List.getElem?_eq_some_iff.1 hq).1; simpa [Job.cells] using this
    rw [jobCs_succ]
    rcases Nat.lt_succ_iff_lt_or_eq.1 h with h' | h'
    · rw [List.getElem?_append_left (by rw [jobCs_len]; omega)]
      exact jobCs_get F s e0 n k h' q v hq
    · subst h'
      rw [List.getElem?_append_right (by rw [jobCs_len]; omega), jobCs_len, Nat.add_sub_cancel_left]
      exact hq
theorem cells4 (x : Job) (w : Value) (q : Nat) (v : Value) (h : (x.cells w)[q]? = some v) : q = 0 ∧ v = .int .i64 x.time ∨ q = 1 ∧ v = .int .i64 x.due ∨ q = 2 ∧ v = .int .i64 x.weight ∨ q = 3 ∧ v = w := by
  match q, h with
  | 0, h => simp [Job.cells] at h; exact .inl ⟨rfl, h.symm⟩
  | 1, h => simp [Job.cells] at h; exact .inr (.inl ⟨rfl, h.symm⟩)
  | 2, h => simp [Job.cells] at h; exact .inr (.inr (.inl ⟨rfl, h.symm⟩))
  | 3, h => simp [Job.cells] at h; exact .inr (.inr (.inr ⟨rfl, h.symm⟩))
  | q + 4, h => simp [Job.cells] at h
section
variable {H : Type} {enc : TypeId × Value → H} {P : Program} {w : World} {base : Nat} {held : Bool}
theorem arg_jobs {r : Reach} {b0 : Nat} {T e tS tI : TypeId} {fs : Array Field} {a : Option Addr} {n c : Nat} {d : DataW H} {p : List MemPlace} (ht : P.underlying T = some (.slice e)) (he : P.underlying e = some (.struct fs)) (hone : oneCellFields P fs = true) (hC : P.cellsOf e = fs.size) (hsz : fs.size = 4)
    (hI : ∀ j f, j < 3 → fs[j]? = some f → P.underlying f.type = some (.int .i64)) (hS : ∀ f, fs[3]? = some f → f.type = tS) (hS1 : P.underlying tS = some (.slice tI)) (hS2 : P.underlying tI = some (.int .i64)) (hS3 : P.cellsOf tI = 1)
    (hok : Value.okWide P w r b0 T (.slice a n c)) (h : DataW.Trod enc P w base (fun _ => true) held T (.slice a n c) d p) :
    ∃ (F : Nat → Job) (s : Nat → Value), n ≤ maxLen ∧ (∀ k, (F k).after.length ≤ maxLen) ∧ (∀ R k, OkB w R (s k, iv (F k).after)) ∧
      (∀ (bs : List AR) (e0 : Nat), (∀ k, k < n → bs[e0 + k]? = some (s k, iv (F k).after)) → OkB w (plN bs) (.slice a n c, jobCs F s e0 n)) ∧
      (∀ (bs : List AR) (i e0 : Nat), bs[i]? = some (.slice a n c, jobCs F s e0 n) → (∀ k, k < n → bs[e0 + k]? = some (s k, iv (F k).after)) → Jobs (bs.map mkB2) (mkV2 i (.slice a n c)) ((List.range n).map F)) := by
  obtain ⟨fuel, h⟩ := h
  rcases ok_slice ht hok with ⟨rfl, rfl, rfl⟩ | ⟨b, o, rfl, hle, hlt⟩
  · exact ⟨fun _ => default, fun _ => .slice none 0 0, by unfold maxLen; omega, fun _ => by show ([] : List Int).length ≤ _; simp, fun R k => .inl rfl, fun bs e0 _ => .inl rfl, fun bs i e0 hi _ =>
      ⟨i, 0, .inl ⟨rfl, rfl⟩, by simp; exact (List.getElem?_eq_some_iff.1 hi).1, fun k hk => by simp at hk⟩⟩
  · rcases open_slice_fields ht he hone hC h with ⟨hcs, _⟩ | ⟨x, l, cap, m, D, Pl, hcs, _, hl, hm, hmm, _, hrow⟩
    · simp [Value.cells] at hcs
    · simp [Value.cells] at hcs
      obtain ⟨rfl, rfl, rfl⟩ := hcs
      rw [if_pos rfl] at hmm
      have key : ∀ k : Nat, ∃ q : Job × Value, q.1.after.length ≤ maxLen ∧ (∀ R, OkB w R (q.2, iv q.1.after)) ∧ (∀ (bs : List AR) (i : Nat), bs[i]? = some (q.2, iv q.1.after) → Ints (bs.map mkB2) (mkV2 i q.2) q.1.after) ∧
          (k < n → w.cell? ⟨b, o + (k * 4 + 0), none⟩ = some (.int .i64 q.1.time) ∧ w.cell? ⟨b, o + (k * 4 + 1), none⟩ = some (.int .i64 q.1.due) ∧ w.cell? ⟨b, o + (k * 4 + 2), none⟩ = some (.int .i64 q.1.weight) ∧ w.cell? ⟨b, o + (k * 4 + 3), none⟩ = some q.2) := fun k => by
        by_cases hk : k < n
        · obtain ⟨ys, nn, _, _, _, hf⟩ := hrow k (by omega)
          rw [hsz] at hf
          have fi : ∀ j, j < 3 → ∃ z : Int, w.cell? ⟨b, o + (k * 4 + j), none⟩ = some (.int .i64 z) := fun j hj => by
            have hfj : fs[j]? = some (fs[j]'(by omega)) := Array.getElem?_eq_getElem (by omega)
            obtain ⟨v, y, h1, _, h3⟩ := hf j _ hfj
            obtain ⟨z, hz, _⟩ := DataW.trod_int (hI j _ hj hfj) h3
            simp at hz
            subst hz
            rw [Addr.add_lit] at h1
            exact ⟨z, h1⟩
          obtain ⟨z0, g0'⟩ := fi 0 (by omega)
          obtain ⟨z1, g1'⟩ := fi 1 (by omega)
          obtain ⟨z2, g2'⟩ := fi 2 (by omega)
          have hf3 : fs[3]? = some (fs[3]'(by omega)) := Array.getElem?_eq_getElem (by omega)
          obtain ⟨v, y, h1, _, h3⟩ := hf 3 _ hf3
          rw [hS _ hf3] at h3
          rw [Addr.add_lit] at h1
          obtain ⟨l, l1, l2, l3⟩ := ints_sl hS1 hS2 hS3 h3
          exact ⟨(⟨z0, z1, z2, l⟩, v), l1, l2, l3, fun _ => ⟨g0', g1', g2', h1⟩⟩
        · exact ⟨(default, .slice none 0 0), by show ([] : List Int).length ≤ _; simp, fun R => .inl rfl, fun bs i hi => ⟨i, 0, .inl ⟨rfl, rfl⟩, by simp; exact (List.getElem?_eq_some_iff.1 hi).1, fun k hk => by simp [default, instInhabitedJob] at hk⟩, fun h => absurd h hk⟩
      obtain ⟨G, hG⟩ := Classical.axiomOfChoice key
      refine ⟨fun k => (G k).1, fun k => (G k).2, by omega, fun k => (hG k).1, fun R k => (hG k).2.1 R, fun bs e0 hbs => ?_, fun bs i e0 hi hbs => ?_⟩
      · cases c with
        | zero =>
          obtain rfl : n = 0 := by omega
          exact .inr (.inl ⟨⟨b, o, none⟩, rfl⟩)
        | succ c =>
          refine .inr (.inr ⟨b, o, n, c, rfl, hle, hlt, fun j x hj => ?_⟩)
          have hjl := (List.getElem?_eq_some_iff.1 hj).1
          simp only [jobCs_len] at hjl
          have hk : j / 4 < n := by omega
          have hj4 : j % 4 < 4 := Nat.mod_lt _ (by omega)
          have e : j = j / 4 * 4 + j % 4 := by omega
          generalize hkk : j / 4 = k at *
          generalize hqq : j % 4 = q at *
          subst e
          have hcells : ∃ v, ((G k).1.cells (mkV2 (e0 + k) (G k).2))[q]? = some v := ⟨_, List.getElem?_eq_getElem (by simpa [Job.cells] using hj4)⟩
          obtain ⟨v, hv⟩ := hcells
          have hget := jobCs_get (fun k => (G k).1) (fun k => (G k).2) e0 n k hk q v hv
          simp only at hj
          rw [hget] at hj
          injection hj with hj
          subst hj
          obtain ⟨c0, c1, c2, c3⟩ := (hG k).2.2.2 hk
          rcases cells4 _ _ _ _ hv with ⟨rfl, rfl⟩ | ⟨rfl, rfl⟩ | ⟨rfl, rfl⟩ | ⟨rfl, rfl⟩
          · exact ⟨_, c0, .int _ _⟩
          · exact ⟨_, c1, .int _ _⟩
          · exact ⟨_, c2, .int _ _⟩
          · exact ⟨_, c3, relN (hbs k hk) ((hG k).2.1 (fun _ => none))⟩
      · have hlen : i < (bs.map mkB2).length := by simp; exact (List.getElem?_eq_some_iff.1 hi).1
        refine ⟨i, 0, by simpa [mkV2] using Sl.mk (Nat.le_refl n), hlen, fun k hk => ?_⟩
        have hk' : k < n := by simpa using hk
        have eg : ((List.range n).map fun k => (G k).1).getD k default = (G k).1 := by simp [hk']
        rw [eg]
        refine ⟨mkV2 (e0 + k) (G k).2, ?_, (hG k).2.2.1 bs (e0 + k) (hbs k hk')⟩
        cases c with
        | zero => omega
        | succ c =>
          refine ⟨{ cells := jobCs (fun k => (G k).1) (fun k => (G k).2) e0 n, kind := .ro }, by rw [List.getElem?_map, hi]; rfl, fun j v hj => ?_⟩
          rw [Nat.zero_add]
          exact jobCs_get _ _ e0 n k hk' j v hj
end
end Go.Proofs.Ytmomjannlnafcaa.Abs
namespace Go.Proofs.Ytmomjannlnafcaa.Abs
set_option linter.unusedSimpArgs false
set_option linter.unusedVariables false
open Go.RowKit
open Go.Proofs.Ytmomjannlnafcaa.Sim
open Go.Proofs
theorem short_rows {F : Nat → Job} {n : Nat} (h : n ≤ maxLen) (hF : ∀ k, (F k).after.length ≤ maxLen) : Short ((List.range n).map F) := by
  unfold maxLen at *
  refine ⟨by simp; omega, fun k hk => ?_⟩
  have hk' : k < n := by simpa using hk
  have e : ((List.range n).map F).getD k default = F k := by simp [hk']
  rw [e]
  have := hF k
  omega
end Go.Proofs.Ytmomjannlnafcaa.Abs
