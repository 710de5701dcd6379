/- Chapter 8: order (the program's and the reference's). -/
import Derived.Test.YtmomjannlnafcaaB3
namespace Go.Proofs.Ytmomjannlnafcaa.Abs
set_option linter.unusedSimpArgs false
set_option linter.unusedVariables false
open Go.RowKit
open Go.Proofs.Ytmomjannlnafcaa.Sim
open Go.Proofs
section
variable {P : Program} {nt : Nat} {ops : Array Oper} {t : Fm} {K : Fm → AM → Prop} {d T : Nat} {p : String} {af : Array Edge}
theorem Step.callC {args : Array Operand} {tys : Array TypeId} {g : FuncId} {vs : List Value} {fn : Func} {b : Code} {k : Nat} {l : List Int} {M L L0 : AM} {L1 : Kind → AM} (hP : Fit P) (hk : L.length = k) (ha : evL t args.toList = some vs) (hf : P.funcs[g]? = some fn) (hb : fn.body = some b)
    (hlt : Nat.blt d nt = true) (h : ACall P g vs.toArray (M ++ L) (Cloned l (M ++ L))) (hL0 : L ++ [none] = L0) (hL1 : ∀ kd, L ++ [some { cells := iv l, kind := kd }] = L1 kd) (h1 : l = [] → K (put t d (.slice none 0 0)) (M ++ L0))
    (h2 : ∀ kd : Kind, kd.solid = true → K (put t d (.slice (some ⟨M.length + k, 0, none⟩) l.length l.length)) (M ++ L1 kd)) : Step P nt ops ⟨some d, .call ⟨.value (.func g), args, tys⟩, T, p, af, none⟩ t (M ++ L) K :=
  .callF hP ha hf hb hlt h (by
    rintro v m' (⟨h0, rfl, rfl⟩ | ⟨kd, hkd, rfl, rfl⟩)
    · rw [List.append_assoc, hL0]; exact h1 h0
    · rw [List.length_append, hk, List.append_assoc, hL1]; exact h2 kd hkd)
/-- A call for its effect on memory. -/
theorem Step.callE {args : Array Operand} {tys : Array TypeId} {g : FuncId} {vs : List Value} {fn : Func} {b : Code} {m m' : AM} {r : Value} (hP : Fit P) (ha : evL t args.toList = some vs) (hf : P.funcs[g]? = some fn) (hb : fn.body = some b)
    (hlt : Nat.blt d nt = true) (h : ACall P g vs.toArray m (fun v m1 => v = r ∧ m1 = m')) (hK : K (put t d r) m') : Step P nt ops ⟨some d, .call ⟨.value (.func g), args, tys⟩, T, p, af, none⟩ t m K :=
  .callF hP ha hf hb hlt h (by rintro v m1 ⟨rfl, rfl⟩; exact hK)
end
def srt (l : List Int) : List Int := l.mergeSort (fun x y => decide (x ≤ y))
theorem srt_len (l : List Int) : (srt l).length = l.length := by simp [srt]
theorem sort_nil {m : AM} : ACall Try.prog 114 #[.slice none 0 0] m (fun v m' => v = .tuple #[] ∧ m' = m) :=
  ACall.of_calls (by kernel_rfl) (by kernel_rfl) fun w => closed_call fit (n := 300) (by kernel_rfl) (by kernel_rfl) (by kernel_rfl) w
theorem sort_ok {M L L' : AM} {k n : Nat} {kd : Kind} {l : List Int} (hb : L[k]? = some (some { cells := iv l, kind := kd })) (hs : kd.solid = true) (hn : n = l.length) (hlen : l.length ≤ 100000) (hL : L.set k (some { cells := iv (srt l), kind := kd }) = L') :
    ACall Try.prog 114 #[.slice (some ⟨M.length + k, 0, none⟩) n n] (M ++ L) (fun v m' => v = .tuple #[] ∧ m' = M ++ L') := by
  subst hL
  rw [← set_app]
  exact sort_call (b := { cells := iv l, kind := kd }) (by rw [get_app]; exact hb) hs rfl hn (srt_len l) fun blk off cap w hH hlt => AnyG.slices_Sort_int sortInt blk off cap l w hH hlt (by omega)
def upI (n : Nat) : List Int := (List.range n).map (Nat.cast : Nat → Int)
theorem upI_len (n : Nat) : (upI n).length = n := by simp [upI]
def orderB (l : List Int) (n : Nat) : Bool := decide (l.length = n) && decide (srt l = upI n)
-- function 90
set_option maxRecDepth 100000 in
theorem order_ok {m : AM} {v : Value} {l : List Int} (n : Nat) (hl : Ints m v l) (hlen : n ≤ 10000) {b : Bool} (hb : orderB l n = b) : ACall Try.prog 90 #[v, .int .i64 (n : Nat)] m (Ret (.bool b) m) := by
  subst hb
  obtain ⟨a, o, h1, h2, h3⟩ := id hl
  have hM : 0 < m.length := by omega
  refine ACall.start Try.func90 rfl rfl ?_
  by_cases hn : (l.length : Int) = (n : Int)
  · have hn' : l.length = n := by omega
    have hcl := clone_ok (m := m ++ []) (hl.old []) (by omega)
    (repeat (first | (with_reducible refine AWo.cons ?_) | ((with_reducible refine Step.id ?_); first | ((with_reducible apply Step.move); exact rfl; exact rfl) | ((with_reducible apply Step.assign); exact rfl; exact rfl) | ((with_reducible apply Step.neq); exact rfl; exact rfl; exact rfl) | ((with_reducible apply Step.len); exact rfl; (focus (assumption)); (focus (decide +kernel)); exact rfl)) | (with_reducible refine AWo.nil ?_) | ((with_reducible apply AW.seq)) | ((with_reducible apply Then.n)) | ((with_reducible apply AW.regL)) | ((with_reducible apply AW.skip)) | ((with_reducible apply AW.condF); exact rfl; (focus ((simp only [decide_eq_true_eq, decide_eq_false_iff_not, Bool.not_eq_true', Bool.not_eq_false', Bool.not_true, Bool.not_false]; first | assumption | omega))))))
    ((with_reducible apply Step.callC fit (k := 0)); exact rfl; exact rfl; exact Try.func77; exact rfl; exact rfl; exact hcl; (focus (first | (simp only [List.nil_append, List.cons_append, List.set_cons_zero, List.set_cons_succ, iv_set, bv_set, iv_rep, bv_rep]; done) | (simp only [List.nil_append, List.cons_append, List.set_cons_zero, List.set_cons_succ, iv_set, bv_set, iv_rep, bv_rep]; rfl) | rfl)); exact (fun _ => rfl))
    · intro h0
      subst h0
      simp at hn'
      subst hn'
      have eq := equal_ok (l := []) (k := upI 0) (b := true) (Ints.old [none, some { cells := iv (upI 0) }] (ints_nil hM)) (ints_new (M := m) (L := [none, some { cells := iv (upI 0) }]) (k := 1) rfl rfl 0 rfl) (by simp) rfl
      (repeat (first | (with_reducible refine AWo.cons ?_) | ((with_reducible refine Step.id ?_); first | ((with_reducible apply Step.move); exact rfl; exact rfl) | ((with_reducible apply Step.assign); exact rfl; exact rfl) | ((with_reducible apply Step.callR fit); exact rfl; exact Try.func114; exact rfl; exact rfl; exact (sort_nil.mono (fun _ _ ⟨a, b⟩ => ⟨a.symm, b.symm⟩))) | ((with_reducible apply Step.callN fit (k := 1)); exact rfl; exact rfl; exact Try.func83; exact rfl; exact rfl; exact (upTo_ok 0 (by omega)); (focus (first | (simp only [List.nil_append, List.cons_append, List.set_cons_zero, List.set_cons_succ, iv_set, bv_set, iv_rep, bv_rep]; done) | (simp only [List.nil_append, List.cons_append, List.set_cons_zero, List.set_cons_succ, iv_set, bv_set, iv_rep, bv_rep]; rfl) | rfl))) | ((with_reducible apply Step.callR fit); exact rfl; exact Try.func23; exact rfl; exact rfl; exact (eq))) | (with_reducible refine AWo.nil ?_) | ((with_reducible apply AW.seq)) | ((with_reducible apply Then.n)) | ((with_reducible apply AW.regL))))
      (refine AW.retD (l := [(4, _)]) (by repeat (first | exact trivial | (refine And.intro ⟨rfl, by (exact .bool _)⟩ ?_))) ?_; (repeat (first | refine Then.r ?_ | refine InBlk.r ?_)))
      exact ⟨_, rfl, by simp [orderB, srt, upI], rfl⟩
    · intro kd hkd
      have so := sort_ok (M := m) (L := [some { cells := iv l, kind := kd }]) (k := 0) (kd := kd) rfl hkd rfl (by omega) rfl
      have eq := equal_ok (m := m ++ [some { cells := iv (srt l), kind := kd }, some { cells := iv (upI n) }]) (l := srt l) (k := upI n) (ints_new (k := 0) rfl rfl l.length (srt_len l).symm) (ints_new (k := 1) rfl rfl n (upI_len n).symm) (by rw [srt_len]; omega) rfl
      (repeat (first | (with_reducible refine AWo.cons ?_) | ((with_reducible refine Step.id ?_); first | ((with_reducible apply Step.move); exact rfl; exact rfl) | ((with_reducible apply Step.assign); exact rfl; exact rfl)) | (with_reducible refine AWo.nil ?_) | ((with_reducible apply AW.seq)) | ((with_reducible apply Then.n)) | ((with_reducible apply AW.regL))))
      ((with_reducible apply Step.callE fit); exact rfl; exact Try.func114; exact rfl; exact rfl; exact so)
      (repeat (first | (with_reducible refine AWo.cons ?_) | ((with_reducible refine Step.id ?_); first | ((with_reducible apply Step.move); exact rfl; exact rfl) | ((with_reducible apply Step.assign); exact rfl; exact rfl) | ((with_reducible apply Step.callN fit (k := 1)); exact rfl; exact rfl; exact Try.func83; exact rfl; exact rfl; exact (upTo_ok n (by omega)); (focus (first | (simp only [List.nil_append, List.cons_append, List.set_cons_zero, List.set_cons_succ, iv_set, bv_set, iv_rep, bv_rep]; done) | (simp only [List.nil_append, List.cons_append, List.set_cons_zero, List.set_cons_succ, iv_set, bv_set, iv_rep, bv_rep]; rfl) | rfl))) | ((with_reducible apply Step.callR fit); exact rfl; exact Try.func23; exact rfl; exact rfl; exact (eq))) | (with_reducible refine AWo.nil ?_) | ((with_reducible apply AW.seq)) | ((with_reducible apply Then.n)) | ((with_reducible apply AW.regL))))
      (refine AW.retD (l := [(4, _)]) (by repeat (first | exact trivial | (refine And.intro ⟨rfl, by (exact .bool _)⟩ ?_))) ?_; (repeat (first | refine Then.r ?_ | refine InBlk.r ?_)))
      exact ⟨_, rfl, by simp [orderB, hn'], rfl⟩
  · (repeat (first | (with_reducible refine AWo.cons ?_) | ((with_reducible refine Step.id ?_); first | ((with_reducible apply Step.move); exact rfl; exact rfl) | ((with_reducible apply Step.assign); exact rfl; exact rfl) | ((with_reducible apply Step.neq); exact rfl; exact rfl; exact rfl) | ((with_reducible apply Step.len); exact rfl; (focus (assumption)); (focus (decide +kernel)); exact rfl)) | (with_reducible refine AWo.nil ?_) | ((with_reducible apply AW.seq)) | ((with_reducible apply Then.n)) | ((with_reducible apply AW.regL)) | ((with_reducible apply AW.condT); exact rfl; (focus ((simp only [decide_eq_true_eq, decide_eq_false_iff_not, Bool.not_eq_true', Bool.not_eq_false', Bool.not_true, Bool.not_false]; first | assumption | omega))))))
    (refine AW.retD (l := [(4, _)]) (by repeat (first | exact trivial | (refine And.intro ⟨rfl, by (exact .bool _)⟩ ?_))) ?_; (repeat (first | refine Then.r ?_ | refine InBlk.r ?_)))
    refine ⟨_, rfl, ?_, rfl⟩
    simp [orderB, show l.length ≠ n by omega]
end Go.Proofs.Ytmomjannlnafcaa.Abs
