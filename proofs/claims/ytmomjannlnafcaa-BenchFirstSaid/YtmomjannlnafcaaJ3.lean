/- Chapter 8: the indices of two-bench jobs sorted; Johnson. -/
import Derived.Test.YtmomjannlnafcaaJ2
namespace Go.Proofs.Ytmomjannlnafcaa.Abs
set_option linter.unusedSimpArgs false
set_option linter.unusedVariables false
open Go.RowKit
open Go.Proofs.Ytmomjannlnafcaa.Sim
open Go.Proofs
theorem upI_mem {n : Nat} {x : Int} : x ∈ upI n ↔ 0 ≤ x ∧ x < n := by
  simp only [upI, List.mem_map, List.mem_range]
  constructor
  · rintro ⟨k, hk, rfl⟩; omega
  · rintro ⟨h1, h2⟩; exact ⟨x.toNat, by omega, by omega⟩
theorem upI_cross {le : Int → Int → Bool} {c : Int → Int → Int} {n : Nat} (h : ∀ x y : Int, 0 ≤ x → x < y → y < n → Cross le c x y) : (upI n).Pairwise (Cross le c) := by
  unfold upI
  rw [List.pairwise_map]
  refine List.Pairwise.imp_of_mem (fun {a b} ha hb hab => h a b (by omega) (by omega) ?_) (List.pairwise_lt_range)
  have := List.mem_range.1 hb
  omega
theorem g0_ivm (l : List Int) : ∀ v ∈ iv l, g0 v = true := g0_iv l
-- function 66
set_option maxRecDepth 100000 in
theorem sorted2_ok {m : AM} {v : Value} {j : List Two} {c : Two → Two → Int} {le : Int → Int → Bool} {g : Nat} {fn : Func} {bd : Code} (hf : Try.prog.funcs[g]? = some fn) (hb : fn.body = some bd) (hj : Twos m v j) (hlen : j.length ≤ 40) (hT : TO le)
    (hX : ∀ x y : Int, 0 ≤ x → x < y → y < j.length → Cross le (ixC j c) x y)
    (hc : ∀ (m : AM) (x y : Two), ACall Try.prog g (#[] ++ #[.agg x.cells.toArray, .agg y.cells.toArray] ++ #[]) m (Ret (.int .i64 (c x y)) m)) :
    ACall Try.prog 66 #[v, .func (.func g) #[] #[]] m (New (some { cells := iv (ms le (upI j.length)) }) j.length m) := by
  obtain ⟨a, o, k1, k2, k3⟩ := id hj
  obtain ⟨bv, hbv⟩ : ∃ bv : Blk, bv = { cells := [v] } := ⟨_, rfl⟩
  obtain ⟨bf, hbf⟩ : ∃ bf : Blk, bf = { cells := [.func (.func g) #[] #[]] } := ⟨_, rfl⟩
  have hC : CmpOk (m ++ [some bv, some bf, some { cells := iv (upI j.length) }]) (m.length + 2) 1 .own (ixC j c) (fun x => 0 ≤ x ∧ x < j.length) 102 #[.pointer (some ⟨m.length + 1, 0, none⟩), .pointer (some ⟨m.length + 0, 0, none⟩)] := by
    refine ⟨by simp, rfl, fun l x y hx hy => ?_⟩
    have hj' : Twos (St (m ++ [some bv, some bf, some { cells := iv (upI j.length) }]) (m.length + 2) .own 1 l) v j :=
      ⟨a, o, k1, by rw [St.len]; simp; omega, fun k hk => St.rdl_ne ((k3 k hk).old _) (by omega)⟩
    exact f102_ok hf hb hj' (St.rd_ne (Rd.new (L := [some bv, some bf, some { cells := iv (upI j.length) }]) (k := 1) rfl (by rw [hbf]; rfl)) (by omega))
      (St.rd_ne (Rd.new (L := [some bv, some bf, some { cells := iv (upI j.length) }]) (k := 0) rfl (by rw [hbv]; rfl)) (by omega)) (fun x y => hc _ x y) x y hx hy
  have hst := stable_ok hC hT Try.func102 rfl j.length (upI j.length) (upI_len _) hlen (fun x hx => upI_mem.1 hx) (upI_cross hX)
  rw [St.self (by rw [get_app]; rfl)] at hst
  have hset : St (m ++ [some bv, some bf, some { cells := iv (upI j.length) }]) (m.length + 2) .own 1 (ms le (upI j.length)) = m ++ [some bv, some bf, some { cells := iv (ms le (upI j.length)) }] := by
    unfold St; rw [set_app]; rfl
  rw [hset] at hst
  refine ACall.start Try.func66 rfl rfl ?_
  subst hbv hbf
  have hv := k1.cells
  (repeat (first | (with_reducible refine AWo.cons ?_) | ((with_reducible refine Step.id ?_); first | ((with_reducible apply Step.move); exact rfl; exact rfl) | ((with_reducible apply Step.assign); exact rfl; exact rfl) | ((with_reducible apply Step.load); exact rfl; (focus (decide +kernel)); exact rfl; (focus (exact Rd.new rfl rfl))) | ((with_reducible apply Step.len); exact rfl; (focus (assumption)); (focus (decide +kernel)); exact rfl) | ((with_reducible apply Step.fn); exact rfl; exact rfl; exact rfl) | ((with_reducible apply Step.callN fit (k := 2)); exact rfl; exact rfl; exact Try.func83; exact rfl; exact rfl; exact (upTo_ok _ (by omega)); (focus (first | (simp only [List.nil_append, List.cons_append, List.set_cons_zero, List.set_cons_succ, iv_set, bv_set, iv_rep, bv_rep]; done) | (simp only [List.nil_append, List.cons_append, List.set_cons_zero, List.set_cons_succ, iv_set, bv_set, iv_rep, bv_rep]; rfl) | rfl))) | ((with_reducible apply Step.callM fit); exact rfl; exact Try.func101; exact rfl; exact rfl; exact (hst)) | ((with_reducible apply Step.boxV 0); exact rfl; exact rfl; (focus (assumption)); exact rfl; (focus (first | (simp only [List.nil_append, List.cons_append, List.set_cons_zero, List.set_cons_succ, iv_set, bv_set, iv_rep, bv_rep]; done) | (simp only [List.nil_append, List.cons_append, List.set_cons_zero, List.set_cons_succ, iv_set, bv_set, iv_rep, bv_rep]; rfl) | rfl))) | ((with_reducible apply Step.box 1); exact rfl; exact rfl; (focus (kernel_rfl)); exact rfl; (focus (first | (simp only [List.nil_append, List.cons_append, List.set_cons_zero, List.set_cons_succ, iv_set, bv_set, iv_rep, bv_rep]; done) | (simp only [List.nil_append, List.cons_append, List.set_cons_zero, List.set_cons_succ, iv_set, bv_set, iv_rep, bv_rep]; rfl) | rfl)))) | (with_reducible refine AWo.nil ?_) | ((with_reducible apply AW.seq)) | ((with_reducible apply Then.n)) | ((with_reducible apply AW.regL))))
  refine AW.retB (l := [(4, .slice (some ⟨m.length + 0, 0, none⟩) j.length j.length)]) (L1 := [some { cells := iv (ms le (upI j.length)) }]) (Back.mv 0 2 rfl rfl rfl rfl (by intro j b hj h; rcases j with _ | _ | _ | _ | _ | _ | j <;> simp_all) (by repeat (first | exact CellsOk.nil | refine CellsOk.cons (by exact g0_iv _) ?_)) (by repeat (first | exact trivial | (refine And.intro ⟨_, rfl, by (exact Ren.slice_mv (by first | (simp; done) | omega | (simp; omega)))⟩ ?_)))) ?_
  exact ⟨_, rfl, rfl, rfl⟩
/-! ### Johnson's order -/
def jK (x : Two) : Int := if x.cut ≤ x.sew then 0 else 1
def jV (x : Two) : Int := if x.cut ≤ x.sew then x.cut else -x.sew
def leJ (j : List Two) (a b : Int) : Bool := decide (jK (j.getD a.toNat default) < jK (j.getD b.toNat default) ∨ jK (j.getD a.toNat default) = jK (j.getD b.toNat default) ∧ (jV (j.getD a.toNat default) < jV (j.getD b.toNat default) ∨ jV (j.getD a.toNat default) = jV (j.getD b.toNat default) ∧ a ≤ b))
theorem lex_to (f h : Int → Int) : TO (fun a b => decide (f a < f b ∨ f a = f b ∧ (h a < h b ∨ h a = h b ∧ a ≤ b))) := by
  refine ⟨fun a b => ?_, fun a b c h1 h2 => ?_, fun a b h1 h2 => ?_⟩
  · simp only [Bool.or_eq_true, decide_eq_true_eq]; omega
  · simp only [decide_eq_true_eq] at *; omega
  · simp only [decide_eq_true_eq] at *; omega
theorem leJ_to (j : List Two) : TO (leJ j) := lex_to (fun a => jK (j.getD a.toNat default)) (fun a => jV (j.getD a.toNat default))
theorem johnC_neg (x y : Two) : johnC x y < 0 ↔ jK x < jK y ∨ jK x = jK y ∧ jV x < jV y := by
  simp only [johnC, jK, jV, cmpI]
  by_cases f1 : x.cut ≤ x.sew <;> by_cases f2 : y.cut ≤ y.sew <;> simp [f1, f2]
  · split
    · simp; assumption
    · split <;> simp <;> omega
  · split
    · simp; omega
    · split <;> simp <;> omega
theorem leJ_cross (j : List Two) (x y : Int) (hxy : x < y) : Cross (leJ j) (ixC j johnC) x y := by
  unfold Cross ixC
  rw [johnC_neg]
  simp only [leJ, decide_eq_false_iff_not]
  omega
def johnL (j : List Two) : List Int := ms (leJ j) (upI j.length)
theorem johnL_len (j : List Two) : (johnL j).length = j.length := by simp [johnL, ms_len, upI_len]
-- function 20
set_option maxRecDepth 100000 in
/-- The program's Johnson: nil where the jobs are not valid. -/
theorem Johnson_ok {m : AM} {v : Value} {j : List Two} (hj : Twos m v j) (hlen : j.length ≤ 100000) (hok : twosB j = true) :
    ACall Try.prog 20 #[v] m (NewT (fun N => .tuple #[.slice (some ⟨N, 0, none⟩) j.length j.length, .int .i64 0]) (some { cells := iv (johnL j) }) m) := by
  obtain ⟨a, o, k1, k2, k3⟩ := id hj
  have h40 := (tlim_of hok).2
  have hs := sorted2_ok (m := m ++ []) (c := johnC) (le := leJ j) Try.func67 rfl (hj.old []) h40 (leJ_to j) (fun x y _ h _ => leJ_cross j x y h) (fun m x y => by rw [Array.append_empty, Array.empty_append]; exact f67_ok x y)
  refine ACall.start Try.func20 rfl rfl ?_
  (repeat (first | (with_reducible refine AWo.cons ?_) | ((with_reducible refine Step.id ?_); first | ((with_reducible apply Step.move); exact rfl; exact rfl) | ((with_reducible apply Step.assign); exact rfl; exact rfl) | ((with_reducible apply Step.not); exact rfl; exact rfl) | ((with_reducible apply Step.callR fit); exact rfl; exact Try.func65; exact rfl; exact rfl; exact (twos_ok (hj.old []) hlen hok)) | ((with_reducible apply Step.callN fit (k := 0)); exact rfl; exact rfl; exact Try.func66; exact rfl; exact rfl; exact (hs); (focus (first | (simp only [List.nil_append, List.cons_append, List.set_cons_zero, List.set_cons_succ, iv_set, bv_set, iv_rep, bv_rep]; done) | (simp only [List.nil_append, List.cons_append, List.set_cons_zero, List.set_cons_succ, iv_set, bv_set, iv_rep, bv_rep]; rfl) | rfl)))) | (with_reducible refine AWo.nil ?_) | ((with_reducible apply AW.seq)) | ((with_reducible apply Then.n)) | ((with_reducible apply AW.regL)) | ((with_reducible apply AW.skip)) | ((with_reducible apply AW.condF); exact rfl; (focus (rfl)))))
  (refine AW.retB (l := [(2, _), (3, _)]) (Or.inl ⟨rfl, (by repeat (first | exact trivial | (refine And.intro rfl ?_)))⟩) ?_; (repeat (first | refine Then.r ?_ | refine InBlk.r ?_)))
  exact ⟨_, rfl, rfl, rfl⟩
-- function 20
set_option maxRecDepth 100000 in
theorem Johnson_no {m : AM} {v : Value} {j : List Two} (hj : Twos m v j) (hlen : j.length ≤ 100000) (hok : twosB j = false) :
    ACall Try.prog 20 #[v] m (Ret (.tuple #[.slice none 0 0, .int .i64 2]) m) := by
  refine ACall.start Try.func20 rfl rfl ?_
  (repeat (first | (with_reducible refine AWo.cons ?_) | ((with_reducible refine Step.id ?_); first | ((with_reducible apply Step.move); exact rfl; exact rfl) | ((with_reducible apply Step.assign); exact rfl; exact rfl) | ((with_reducible apply Step.not); exact rfl; exact rfl) | ((with_reducible apply Step.callR fit); exact rfl; exact Try.func65; exact rfl; exact rfl; exact (twos_ok (hj.old []) hlen hok))) | (with_reducible refine AWo.nil ?_) | ((with_reducible apply AW.seq)) | ((with_reducible apply Then.n)) | ((with_reducible apply AW.regL)) | ((with_reducible apply AW.condT); exact rfl; (focus (rfl)))))
  (refine AW.retD (l := [(2, _), (3, _)]) (by repeat (first | exact trivial | (refine And.intro ⟨rfl, by (first | exact .int _ _ | exact Ren.of_g0 rfl)⟩ ?_))) ?_; (repeat (first | refine Then.r ?_ | refine InBlk.r ?_)))
  exact ⟨_, rfl, rfl, rfl⟩
end Go.Proofs.Ytmomjannlnafcaa.Abs
