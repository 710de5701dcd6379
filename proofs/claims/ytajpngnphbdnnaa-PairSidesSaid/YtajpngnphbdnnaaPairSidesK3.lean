/- Proved here: what the proof of PairSides rests on, part 3 of 5. Conditions: those that each theorem names. -/
import Derived.Test.YtajpngnphbdnnaaPairSidesK2
namespace Go.Proofs.Ytajpngnphbdnnaa.Abs
set_option linter.unusedSimpArgs false
set_option linter.unusedVariables false
open Go.RowKit
open Go.Proofs.Ytajpngnphbdnnaa.Sim
open Go.Proofs
/-- The first number below n of which pr says yes; -1. -/
def idxF (pr : Nat → Bool) (n : Nat) : Int := match (List.range n).find? pr with
  | some k => k
  | none => -1
theorem find_hit {pr : Nat → Bool} {n k : Nat} (hk : k < n) (h0 : ∀ i, i < k → pr i = false) (h1 : pr k = true) : (List.range n).find? pr = some k := by
  rw [List.find?_range_eq_some]
  exact ⟨h1, by simpa using hk, fun j hj => by simp [h0 j hj]⟩
theorem find_miss {pr : Nat → Bool} {n : Nat} (h0 : ∀ i, i < n → pr i = false) : (List.range n).find? pr = none := by
  rw [List.find?_eq_none]
  intro x hx
  simp [h0 x (by simpa using hx)]
theorem idxF_hit {pr : Nat → Bool} {n k : Nat} (hk : k < n) (h0 : ∀ i, i < k → pr i = false) (h1 : pr k = true) : idxF pr n = k := by simp [idxF, find_hit hk h0 h1]
theorem idxF_miss {pr : Nat → Bool} {n : Nat} (h0 : ∀ i, i < n → pr i = false) : idxF pr n = -1 := by simp [idxF, find_miss h0]
theorem idxF_any (pr : Nat → Bool) (n : Nat) : decide (0 ≤ idxF pr n) = (List.range n).any pr := by
  unfold idxF
  cases h : (List.range n).find? pr with
  | none =>
    have : (List.range n).any pr = false := by
      rw [List.any_eq_false]
      intro x hx; simpa using List.find?_eq_none.1 h x hx
    simp [this]
  | some k =>
    have : (List.range n).any pr = true := List.any_eq_true.2 ⟨k, List.mem_of_find?_eq_some h, List.find?_some h⟩
    simp [this]
theorem bs27 {m : AM} {n : Nat} : abuildSlice Try.prog m n 27 0 [] = some (.slice (some ⟨n, 0, none⟩) 0 0, m.set n (some { cells := [] })) := by kernel_rfl
theorem rows_rdl {m : AM} {a o : Nat} {c : List Value} (hpos : 0 < c.length) (h : ∀ k, k < c.length → Rd m a (o + k) (c.getD k undef)) : RdL m a o c := by
  obtain ⟨b, h1, _⟩ := h 0 hpos
  refine ⟨b, h1, fun j v hj => ?_⟩
  have hjl := (List.getElem?_eq_some_iff.1 hj).1
  obtain ⟨b', k1, k2⟩ := h j hjl
  rw [h1] at k1; injection k1 with k1; injection k1 with k1; subst k1
  rw [k2]
  simp [← hj, hjl]
theorem ints_rdl {m : AM} {a o : Nat} {l : List Int} (hpos : 0 < l.length) (h : ∀ k, k < l.length → Rd m a (o + k) (.int .i64 (l.getD k 0))) : RdL m a o (iv l) :=
  rows_rdl (by simpa [iv] using hpos) fun k hk => by
    have hk' : k < l.length := by simpa [iv] using hk
    have := h k hk'
    simpa [iv, hk'] using this
set_option maxRecDepth 100000 in
theorem equal_ok {m : AM} {v w : Value} {l k : List Int} (hl : Ints m v l) (hk : Ints m w k) (hlen : l.length ≤ 100000) {b : Bool} (hb : decide (l = k) = b) : ACall Try.prog 24 #[v, w] m (Ret (.bool b) m) := by
  subst hb
  obtain ⟨a, o, h1, h2, h3⟩ := hl
  obtain ⟨c, u, k1, k2, k3⟩ := hk
  refine ACall.start Try.func24 rfl rfl ?_
  by_cases hn : (l.length : Int) = (k.length : Int)
  · (repeat (first | (with_reducible refine AWo.cons ?_) | ((with_reducible refine Step.id ?_); first | ((with_reducible apply Step.move); exact rfl; exact rfl) | ((with_reducible apply Step.assign); exact rfl; exact rfl) | ((with_reducible apply Step.neq); exact rfl; exact rfl; exact rfl) | ((with_reducible apply Step.len); exact rfl; (focus (assumption)); (focus (decide +kernel)); exact rfl)) | (with_reducible refine AWo.nil ?_) | ((with_reducible apply AW.seq)) | ((with_reducible apply Then.n)) | ((with_reducible apply AW.regL)) | ((with_reducible apply AW.block)) | ((with_reducible apply AW.skip)) | ((with_reducible apply AW.condF); exact rfl; (focus ((simp only [decide_eq_true_eq, decide_eq_false_iff_not, Bool.not_eq_true', Bool.not_eq_false', Bool.not_true, Bool.not_false]; first | assumption | omega))))))
    refine AW.loopT (fun n t L => ∃ i : Nat, n = l.length - i ∧ i ≤ l.length ∧ l.take i = k.take i ∧ L = [] ∧
      t = [(0, v), (1, w), (12, .int .i64 (l.length : Nat)), (13, .int .i64 (i : Nat))]) ⟨_, _, _, (Or.inl ⟨rfl, (by repeat (first | exact trivial | (refine And.intro rfl ?_)))⟩), 0, rfl, Nat.zero_le _, rfl, rfl, rfl⟩ ?_
    rintro n t L ⟨i, rfl, hi, he, rfl, rfl⟩
    rcases Nat.lt_or_ge i l.length with hlt | hge
    · have r1 := h3 i hlt
      have r2 := k3 i (by omega)
      have ts := take_snoc l i 0 hlt
      have tk := take_snoc k i 0 (by omega)
      by_cases hx : l.getD i 0 = k.getD i 0
      · (repeat (first | (with_reducible refine AWo.cons ?_) | ((with_reducible refine Step.id ?_); first | ((with_reducible apply Step.move); exact rfl; exact rfl) | ((with_reducible apply Step.assign); exact rfl; exact rfl) | ((with_reducible apply Step.load); exact rfl; (focus (decide +kernel)); exact rfl; (focus (exact Rd.old _ (by assumption)))) | ((with_reducible apply Step.ix1); exact rfl; (focus (assumption)); exact rfl; (focus (decide +kernel)); exact rfl; (focus (omega))) | ((with_reducible apply Step.add); exact rfl; exact rfl; (focus (omega)); exact rfl) | ((with_reducible apply Step.lss); exact rfl; exact rfl; exact rfl) | ((with_reducible apply Step.neq); exact rfl; exact rfl; exact rfl)) | (with_reducible refine AWo.nil ?_) | ((with_reducible apply AW.seq)) | ((with_reducible apply Then.n)) | ((with_reducible apply AW.regL)) | ((with_reducible apply AW.block)) | ((with_reducible apply AW.drawL fit); (focus (decide +kernel))) | ((with_reducible apply InBlk.n)) | ((with_reducible apply AW.skip)) | ((with_reducible apply AW.condT); exact rfl; (focus ((simp only [decide_eq_true_eq, decide_eq_false_iff_not, Bool.not_eq_true', Bool.not_eq_false', Bool.not_true, Bool.not_false]; first | assumption | omega)))) | ((with_reducible apply AW.condF); exact rfl; (focus ((simp only [decide_eq_true_eq, decide_eq_false_iff_not, Bool.not_eq_true', Bool.not_eq_false', Bool.not_true, Bool.not_false]; first | assumption | omega))))))
        exact ⟨_, _, _, by omega, (Or.inl ⟨rfl, (by repeat (first | exact trivial | (refine And.intro rfl ?_)))⟩), i + 1, rfl, by omega, by rw [ts, tk, he, hx], rfl, rfl⟩
      · (repeat (first | (with_reducible refine AWo.cons ?_) | ((with_reducible refine Step.id ?_); first | ((with_reducible apply Step.move); exact rfl; exact rfl) | ((with_reducible apply Step.assign); exact rfl; exact rfl) | ((with_reducible apply Step.load); exact rfl; (focus (decide +kernel)); exact rfl; (focus (exact Rd.old _ (by assumption)))) | ((with_reducible apply Step.ix1); exact rfl; (focus (assumption)); exact rfl; (focus (decide +kernel)); exact rfl; (focus (omega))) | ((with_reducible apply Step.lss); exact rfl; exact rfl; exact rfl) | ((with_reducible apply Step.neq); exact rfl; exact rfl; exact rfl)) | (with_reducible refine AWo.nil ?_) | ((with_reducible apply AW.seq)) | ((with_reducible apply Then.n)) | ((with_reducible apply AW.regL)) | ((with_reducible apply AW.block)) | ((with_reducible apply AW.drawL fit); (focus (decide +kernel))) | ((with_reducible apply AW.skip)) | ((with_reducible apply AW.condT); exact rfl; (focus ((simp only [decide_eq_true_eq, decide_eq_false_iff_not, Bool.not_eq_true', Bool.not_eq_false', Bool.not_true, Bool.not_false]; first | assumption | omega))))))
        (refine AW.retD (l := [(4, _)]) (by repeat (first | exact trivial | (refine And.intro ⟨rfl, by (exact .bool _)⟩ ?_))) ?_; (repeat (first | refine Then.r ?_ | refine InBlk.r ?_)))
        refine ⟨_, rfl, ?_, rfl⟩
        rw [decide_eq_false (fun e => hx (by rw [e]))]
    · (repeat (first | (with_reducible refine AWo.cons ?_) | ((with_reducible refine Step.id ?_); first | ((with_reducible apply Step.assign); exact rfl; exact rfl) | ((with_reducible apply Step.lss); exact rfl; exact rfl; exact rfl)) | (with_reducible refine AWo.nil ?_) | ((with_reducible apply AW.seq)) | ((with_reducible apply Then.n)) | ((with_reducible apply AW.regL)) | ((with_reducible apply AW.exit)) | ((with_reducible apply InBlk.hit)) | ((with_reducible apply Then.e)) | ((with_reducible apply AW.condF); exact rfl; (focus ((simp only [decide_eq_true_eq, decide_eq_false_iff_not, Bool.not_eq_true', Bool.not_eq_false', Bool.not_true, Bool.not_false]; first | assumption | omega))))))
      (refine AW.retD (l := [(4, _)]) (by repeat (first | exact trivial | (refine And.intro ⟨rfl, by (exact .bool _)⟩ ?_))) ?_; (repeat (first | refine Then.r ?_ | refine InBlk.r ?_)))
      refine ⟨_, rfl, ?_, rfl⟩
      rw [List.take_of_length_le (by omega), List.take_of_length_le (by omega)] at he
      rw [decide_eq_true he]
  · (repeat (first | (with_reducible refine AWo.cons ?_) | ((with_reducible refine Step.id ?_); first | ((with_reducible apply Step.move); exact rfl; exact rfl) | ((with_reducible apply Step.assign); exact rfl; exact rfl) | ((with_reducible apply Step.neq); exact rfl; exact rfl; exact rfl) | ((with_reducible apply Step.len); exact rfl; (focus (assumption)); (focus (decide +kernel)); exact rfl)) | (with_reducible refine AWo.nil ?_) | ((with_reducible apply AW.seq)) | ((with_reducible apply Then.n)) | ((with_reducible apply AW.regL)) | ((with_reducible apply AW.condT); exact rfl; (focus ((simp only [decide_eq_true_eq, decide_eq_false_iff_not, Bool.not_eq_true', Bool.not_eq_false', Bool.not_true, Bool.not_false]; first | assumption | omega))))))
    (refine AW.retD (l := [(4, _)]) (by repeat (first | exact trivial | (refine And.intro ⟨rfl, by (exact .bool _)⟩ ?_))) ?_; (repeat (first | refine Then.r ?_ | refine InBlk.r ?_)))
    refine ⟨_, rfl, ?_, rfl⟩
    rw [decide_eq_false (fun e => hn (by rw [e]))]
theorem getD_l {l k : List Int} {i : Nat} (h : i < l.length) : (l ++ k).getD i 0 = l.getD i 0 := by simp [List.getElem?_append_left h]
theorem getD_r {l k : List Int} {i j : Nat} (h : i = l.length + j) : (l ++ k).getD i 0 = k.getD j 0 := by
  subst h; simp [List.getElem?_append_right]
theorem set_r {l k : List Int} {i j : Nat} {x : Int} (h : i = l.length + j) : (l ++ k).set i x = l ++ k.set j x := by
  subst h; simp
theorem mem_getD' {l : List Int} {k : Nat} (h : k < l.length) : l.getD k 0 ∈ l := by
  rw [List.getD_eq_getElem?_getD, List.getElem?_eq_getElem h]; exact List.getElem_mem h
theorem idxF_neg' {pr : Nat → Bool} {n : Nat} (h : idxF pr n < 0) : idxF pr n = -1 ∧ ∀ i, i < n → pr i = false := by
  unfold idxF at h ⊢
  cases h' : (List.range n).find? pr with
  | none =>
    refine ⟨rfl, fun i hi => ?_⟩
    have := List.find?_eq_none.1 h' i (by simpa using hi)
    simpa using this
  | some k => rw [h'] at h; simp at h; omega
theorem idxF_pos' {pr : Nat → Bool} {n : Nat} (h : 0 ≤ idxF pr n) : ∃ k : Nat, idxF pr n = k ∧ k < n ∧ pr k = true ∧ ∀ i, i < k → pr i = false := by
  unfold idxF at h ⊢
  cases h' : (List.range n).find? pr with
  | none => rw [h'] at h; simp at h
  | some k =>
    obtain ⟨h1, h2, h3⟩ := List.find?_range_eq_some.1 h'
    exact ⟨k, rfl, by simpa using h2, h1, fun i hi => by simpa using h3 i hi⟩
set_option maxRecDepth 100000 in
theorem indexF_ok {m : AM} {v : Value} {l : List Int} {g : FuncId} {cap : Array Value} {fn : Func} {bd : Code} (hl : Ints m v l) (hf : Try.prog.funcs[g]? = some fn) (hb : fn.body = some bd) (pr : Nat → Bool)
    (hlen : l.length ≤ 9223372036854775807) (hg : ∀ k, k < l.length → ACall Try.prog g (#[] ++ #[.int .i64 (l.getD k 0)] ++ cap) m (Ret (.bool (pr k)) m)) : ACall Try.prog 102 #[v, .func (.func g) #[] cap] m (Ret (.int .i64 (idxF pr l.length)) m) := by
  obtain ⟨a, o, h1, h2, h3⟩ := hl
  refine ACall.start Try.func102 rfl rfl ?_
  (repeat (first | (with_reducible refine AWo.cons ?_) | ((with_reducible refine Step.id ?_); first | ((with_reducible apply Step.move); exact rfl; exact rfl) | ((with_reducible apply Step.assign); exact rfl; exact rfl) | ((with_reducible apply Step.len); exact rfl; (focus (assumption)); (focus (decide +kernel)); exact rfl)) | (with_reducible refine AWo.nil ?_) | ((with_reducible apply AW.seq)) | ((with_reducible apply Then.n)) | ((with_reducible apply AW.regL)) | ((with_reducible apply AW.block))))
  refine AW.loopT (fun n t L => ∃ k : Nat, n = l.length - k ∧ k ≤ l.length ∧ (∀ i, i < k → pr i = false) ∧ L = [] ∧
    t = [(0, v), (1, .func (.func g) #[] cap), (7, .int .i64 (l.length : Nat)), (8, .int .i64 (k : Nat))]) ⟨_, _, _, (Or.inl ⟨rfl, (by repeat (first | exact trivial | (refine And.intro rfl ?_)))⟩), 0, rfl, Nat.zero_le _, by omega, rfl, rfl⟩ ?_
  rintro n t L ⟨k, rfl, hk, hz, rfl, rfl⟩
  rcases Nat.lt_or_ge k l.length with hlt | hge
  · have hgk := hg k hlt
    have hr := h3 k hlt
    cases hp : pr k with
    | true =>
      rw [hp] at hgk
      (repeat (first | (with_reducible refine AWo.cons ?_) | ((with_reducible refine Step.id ?_); first | ((with_reducible apply Step.move); exact rfl; exact rfl) | ((with_reducible apply Step.assign); exact rfl; exact rfl) | ((with_reducible apply Step.load); exact rfl; (focus (decide +kernel)); exact rfl; (focus (exact Rd.old _ (by assumption)))) | ((with_reducible apply Step.ix1); exact rfl; (focus (assumption)); exact rfl; (focus (decide +kernel)); exact rfl; (focus (omega))) | ((with_reducible apply Step.lss); exact rfl; exact rfl; exact rfl) | ((with_reducible apply Step.callV fit); exact rfl; exact rfl; exact hf; exact hb; exact rfl; exact ((by rw [List.append_nil]; exact hgk)))) | (with_reducible refine AWo.nil ?_) | ((with_reducible apply AW.seq)) | ((with_reducible apply Then.n)) | ((with_reducible apply AW.regL)) | ((with_reducible apply AW.block)) | ((with_reducible apply AW.skip)) | ((with_reducible apply AW.condT); exact rfl; (focus (first | rfl | (simp only [decide_eq_true_eq, decide_eq_false_iff_not, Bool.not_eq_true', Bool.not_eq_false', Bool.not_true, Bool.not_false]; first | assumption | omega))))))
      (refine AW.retD (l := [(4, _)]) (by repeat (first | exact trivial | (refine And.intro ⟨rfl, by (exact .int _ _)⟩ ?_))) ?_; (repeat (first | refine Then.r ?_ | refine InBlk.r ?_)))
      exact ⟨_, rfl, by rw [idxF_hit hlt hz hp], rfl⟩
    | false =>
      rw [hp] at hgk
      (repeat (first | (with_reducible refine AWo.cons ?_) | ((with_reducible refine Step.id ?_); first | ((with_reducible apply Step.move); exact rfl; exact rfl) | ((with_reducible apply Step.assign); exact rfl; exact rfl) | ((with_reducible apply Step.load); exact rfl; (focus (decide +kernel)); exact rfl; (focus (exact Rd.old _ (by assumption)))) | ((with_reducible apply Step.ix1); exact rfl; (focus (assumption)); exact rfl; (focus (decide +kernel)); exact rfl; (focus (omega))) | ((with_reducible apply Step.add); exact rfl; exact rfl; (focus (omega)); exact rfl) | ((with_reducible apply Step.lss); exact rfl; exact rfl; exact rfl) | ((with_reducible apply Step.callV fit); exact rfl; exact rfl; exact hf; exact hb; exact rfl; exact ((by rw [List.append_nil]; exact hgk)))) | (with_reducible refine AWo.nil ?_) | ((with_reducible apply AW.seq)) | ((with_reducible apply Then.n)) | ((with_reducible apply AW.regL)) | ((with_reducible apply AW.block)) | ((with_reducible apply InBlk.n)) | ((with_reducible apply AW.skip)) | ((with_reducible apply AW.condT); exact rfl; (focus ((simp only [decide_eq_true_eq, decide_eq_false_iff_not, Bool.not_eq_true', Bool.not_eq_false', Bool.not_true, Bool.not_false]; first | assumption | omega)))) | ((with_reducible apply AW.condF); exact rfl; (focus (rfl)))))
      exact ⟨_, _, _, by omega, (Or.inl ⟨rfl, (by repeat (first | exact trivial | (refine And.intro rfl ?_)))⟩), k + 1, rfl, by omega, fun i hi => by rcases Nat.lt_succ_iff_lt_or_eq.1 hi with h | h; exact hz i h; rw [h]; exact hp, rfl, rfl⟩
  · (repeat (first | (with_reducible refine AWo.cons ?_) | ((with_reducible refine Step.id ?_); first | ((with_reducible apply Step.assign); exact rfl; exact rfl) | ((with_reducible apply Step.lss); exact rfl; exact rfl; exact rfl)) | (with_reducible refine AWo.nil ?_) | ((with_reducible apply AW.seq)) | ((with_reducible apply Then.n)) | ((with_reducible apply AW.regL)) | ((with_reducible apply AW.exit)) | ((with_reducible apply InBlk.hit)) | ((with_reducible apply Then.e)) | ((with_reducible apply AW.condF); exact rfl; (focus ((simp only [decide_eq_true_eq, decide_eq_false_iff_not, Bool.not_eq_true', Bool.not_eq_false', Bool.not_true, Bool.not_false]; first | assumption | omega))))))
    obtain rfl : k = l.length := by omega
    (refine AW.retD (l := [(4, _)]) (by repeat (first | exact trivial | (refine And.intro ⟨rfl, by (exact .int _ _)⟩ ?_))) ?_; (repeat (first | refine Then.r ?_ | refine InBlk.r ?_)))
    exact ⟨_, rfl, by rw [idxF_miss hz], rfl⟩
set_option maxRecDepth 100000 in
theorem clone_pos {m : AM} {v : Value} {l : List Int} (hl : Ints m v l) (hpos : 0 < l.length) (hlen : l.length ≤ 1000000) : ACall Try.prog 92 #[v] m (New (some { cells := iv l, kind := .grow, size := 1 }) l.length m) := by
  obtain ⟨a, o, h1, h2, h3⟩ := hl
  refine ACall.start Try.func92 rfl rfl ?_
  rcases h1 with ⟨rfl, hn⟩ | ⟨c, hc, rfl⟩ | ⟨hn, _⟩
  · omega
  · have hr := ints_rdl (by omega) h3
    (repeat (first | (with_reducible refine AWo.cons ?_) | ((with_reducible refine Step.id ?_); first | ((with_reducible apply Step.move); exact rfl; exact rfl) | ((with_reducible apply Step.assign); exact rfl; exact rfl) | ((with_reducible apply Step.eqNil); exact rfl; exact rfl; exact un27; exact rfl) | ((with_reducible apply Step.buildS 0); exact rfl; exact rfl; exact (fun _ _ => bs27); exact rfl; (focus (first | (simp only [List.nil_append, List.cons_append, List.set_cons_zero, List.set_cons_succ, iv_set, bv_set, iv_rep, bv_rep]; done) | (simp only [List.nil_append, List.cons_append, List.set_cons_zero, List.set_cons_succ, iv_set, bv_set, iv_rep, bv_rep]; rfl) | rfl)))) | (with_reducible refine AWo.nil ?_) | ((with_reducible apply AW.seq)) | ((with_reducible apply Then.n)) | ((with_reducible apply AW.regL)) | ((with_reducible apply AW.skip)) | ((with_reducible apply AW.condF); exact rfl; (focus (rfl)))))
    ((with_reducible apply Step.appE (k := 1)); exact rfl; exact rfl; exact rfl; exact el27; exact un27; exact rfl; exact rfl; exact (hr.old _); (focus (simp [iv])); (focus (omega)); exact (iv_one _); (focus (omega)); exact rfl; (focus (first | (simp only [List.nil_append, List.cons_append, List.set_cons_zero, List.set_cons_succ, iv_set, bv_set, iv_rep, bv_rep]; done) | (simp only [List.nil_append, List.cons_append, List.set_cons_zero, List.set_cons_succ, iv_set, bv_set, iv_rep, bv_rep]; rfl) | rfl)))
    (repeat (first | (with_reducible refine AWo.cons ?_) | ((with_reducible refine Step.id ?_); ((with_reducible apply Step.assign); exact rfl; exact rfl)) | (with_reducible refine AWo.nil ?_) | ((with_reducible apply Then.n))))
    refine AW.retB (l := [(2, .slice (some ⟨m.length + 0, 0, none⟩) l.length l.length)]) (L1 := [some { cells := iv l, kind := .grow, size := 1 }]) (Back.mv 0 1 rfl rfl rfl rfl (by intro j b hj h; rcases j with _ | _ | _ | _ | _ | _ | j <;> simp_all) (by repeat (first | exact CellsOk.nil | refine CellsOk.cons (by exact g0_iv _) ?_)) (by repeat (first | exact trivial | (refine And.intro ⟨_, rfl, by (exact Ren.slice_mv (by first | (simp; done) | omega | (simp; omega)))⟩ ?_)))) ?_
    exact ⟨_, rfl, rfl, rfl⟩
  · omega
section
variable {m : AM} {r s : Nat} {kd : Kind}
set_option maxHeartbeats 1000000 in
set_option maxRecDepth 100000 in
theorem delete_ok {A Z : List Int} {n c : Nat} {g : FuncId} {cap : Array Value} {fn : Func} {bd : Code} (q : Int → Bool) (hr : r < m.length) (hkd : kd.solid = true) (hf : Try.prog.funcs[g]? = some fn) (hb : fn.body = some bd) (hA : A.length = n) (hnc : n ≤ c) (hc : c ≤ 1000000)
    (hg : ∀ row x, x ∈ A → ACall Try.prog g (#[] ++ #[.int .i64 x] ++ cap) (St m r kd s row) (Ret (.bool (q x)) (St m r kd s row))) :
    ACall Try.prog 84 #[.slice (some ⟨r, 0, none⟩) n c, .func (.func g) #[] cap] (St m r kd s (A ++ Z)) (Ret (.slice (some ⟨r, 0, none⟩) (A.filter fun x => !q x).length c) (St m r kd s ((A.filter fun x => !q x) ++ List.replicate (n - (A.filter fun x => !q x).length) 0 ++ Z))) := by
  subst hA
  have hints : Ints (St m r kd s (A ++ Z)) (.slice (some ⟨r, 0, none⟩) A.length c) A := ⟨r, 0, Sl.mk hnc, by rw [St.len]; exact hr, fun k hk => by
    have := St.rd (s := s) (kd := kd) (l := A ++ Z) hr (o := k) (by simp; omega)
    rw [getD_l hk] at this
    rwa [Nat.zero_add]⟩
  have hix := indexF_ok hints hf hb (fun k => q (A.getD k 0)) (by omega) (fun k hk => hg _ _ (mem_getD' hk))
  have hsl : Sl (.slice (some ⟨r, 0, none⟩) A.length c) r 0 A.length := Sl.mk hnc
  refine ACall.intro Try.func84 rfl (Nat.le_of_ble_eq_true rfl) ?_
  by_cases hno : idxF (fun k => q (A.getD k 0)) A.length < 0
  · obtain ⟨e1, e2⟩ := idxF_neg' hno
    have hfil : (A.filter fun x => !q x) = A := by
      rw [List.filter_eq_self]
      intro x hx
      obtain ⟨k, hk, rfl⟩ := List.getElem_of_mem hx
      have := e2 k hk
      simp only [List.getD_eq_getElem?_getD, List.getElem?_eq_getElem hk, Option.getD_some] at this
      simp [this]
    rw [e1] at hix
    (repeat (first | (with_reducible refine AWo.cons ?_) | ((with_reducible refine Step.id ?_); first | ((with_reducible apply Step.move); exact rfl; exact rfl) | ((with_reducible apply Step.assign); exact rfl; exact rfl) | ((with_reducible apply Step.eql); exact rfl; exact rfl; exact rfl) | ((with_reducible apply Step.callR fit); exact rfl; exact Try.func102; exact rfl; exact rfl; exact (hix))) | (with_reducible refine AWo.nil ?_) | ((with_reducible apply AW.seq)) | ((with_reducible apply Then.n)) | ((with_reducible apply AW.regL)) | ((with_reducible apply AW.condT); exact rfl; (focus (rfl)))))
    (refine AW.ret ?_; (repeat (first | refine Then.r ?_ | refine InBlk.r ?_)))
    refine ⟨_, rfl, by rw [hfil], ?_⟩
    rw [hfil, Nat.sub_self]; simp
  · obtain ⟨k0, e1, e2, e3, e4⟩ := idxF_pos' (pr := fun k => q (A.getD k 0)) (n := A.length) (by omega)
    rw [e1] at hix
    have hpre : (A.take k0).filter (fun x => !q x) = A.take k0 := by
      rw [List.filter_eq_self]
      intro x hx
      obtain ⟨i, hi, rfl⟩ := List.getElem_of_mem hx
      simp only [List.length_take] at hi
      have := e4 i (by omega)
      simp only [List.getD_eq_getElem?_getD, List.getElem?_eq_getElem (show i < A.length by omega), Option.getD_some] at this
      simp [this]
    (repeat (first | (with_reducible refine AWo.cons ?_) | ((with_reducible refine Step.id ?_); first | ((with_reducible apply Step.move); exact rfl; exact rfl) | ((with_reducible apply Step.assign); exact rfl; exact rfl) | ((with_reducible apply Step.add); exact rfl; exact rfl; (focus (omega)); exact rfl) | ((with_reducible apply Step.eql); exact rfl; exact rfl; exact rfl) | ((with_reducible apply Step.callR fit); exact rfl; exact Try.func102; exact rfl; exact rfl; exact (hix))) | (with_reducible refine AWo.nil ?_) | ((with_reducible apply AW.seq)) | ((with_reducible apply Then.n)) | ((with_reducible apply AW.regL)) | ((with_reducible apply AW.block)) | ((with_reducible apply AW.skip)) | ((with_reducible apply AW.condF); exact rfl; (focus (rfl)))))
    refine AW.loopW (fun u t M => ∃ (jj : Nat) (K Mid : List Int), u = A.length - jj ∧ jj ≤ A.length ∧ K = (A.take jj).filter (fun x => !q x) ∧ K.length + Mid.length = jj ∧ 0 < Mid.length ∧
      t = fr [(0, .slice (some ⟨r, 0, none⟩) A.length c), (1, .func (.func g) #[] cap), (5, .int .i64 ((K.length : Nat) : Int)), (6, .int .i64 ((jj : Nat) : Int))] ∧ M = St m r kd s (K ++ Mid ++ (A.drop jj ++ Z)))
      ⟨_, [(0, .slice (some ⟨r, 0, none⟩) A.length c), (1, .func (.func g) #[] cap), (5, .int .i64 ((k0 : Nat) : Int)), (6, .int .i64 ((k0 + 1 : Nat) : Int))], (by repeat (first | exact trivial | (refine And.intro rfl ?_))), k0 + 1, A.take k0, [A.getD k0 0], rfl, by omega, ?_, ?_, by simp, ?_, ?_⟩ ?_
    · rw [take_snoc A k0 0 e2, List.filter_append, hpre]; simp only [List.filter_cons, List.filter_nil, e3]; simp
    · simp; omega
    · simp [Nat.min_eq_left (Nat.le_of_lt e2)]
    · rw [← List.append_assoc, ← take_snoc A k0 0 e2, List.take_append_drop]
    rintro u t M ⟨jj, K, Mid, rfl, hjj, hK, hKM, hMid, rfl, rfl⟩
    rcases Nat.lt_or_ge jj A.length with hlt | hge
    · obtain ⟨x, hx⟩ : ∃ x, x = A.getD jj 0 := ⟨_, rfl⟩
      have hxA : x ∈ A := by rw [hx]; exact mem_getD' hlt
      have hdrop : A.drop jj = x :: A.drop (jj + 1) := by rw [List.drop_eq_getElem_cons hlt, hx]; simp [hlt]
      have hts := take_snoc A jj 0 hlt
      rw [← hx] at hts
      have hgx := hg (K ++ Mid ++ (A.drop jj ++ Z)) x hxA
      have hfs : (A.take (jj + 1)).filter (fun x => !q x) = K ++ if q x then [] else [x] := by
        rw [hts, List.filter_append, ← hK]; cases hq : q x <;> simp [hq]
      rw [hdrop] at hgx ⊢
      have hrd : Rd (St m r kd s (K ++ Mid ++ (x :: A.drop (jj + 1) ++ Z))) r jj (.int .i64 x) := by
        have := St.rd (s := s) (kd := kd) (l := K ++ Mid ++ (x :: A.drop (jj + 1) ++ Z)) hr (o := jj) (by simp; omega)
        rw [getD_r (j := 0) (by simp; omega)] at this
        exact this
      generalize hD : A.drop (jj + 1) = D at *
      cases hq : q x with
      | true =>
        rw [hq] at hgx hfs
        (repeat (first | (with_reducible refine AWo.cons ?_) | ((with_reducible refine Step.id ?_); first | ((with_reducible apply Step.move); exact rfl; exact rfl) | ((with_reducible apply Step.assign); exact rfl; exact rfl) | ((with_reducible apply Step.load); exact rfl; (focus (decide +kernel)); exact rfl; (focus (assumption))) | ((with_reducible apply Step.ix1z); exact rfl; (focus (assumption)); exact rfl; (focus (decide +kernel)); exact rfl; (focus (omega))) | ((with_reducible apply Step.add); exact rfl; exact rfl; (focus (omega)); exact rfl) | ((with_reducible apply Step.lss); exact rfl; exact rfl; exact rfl) | ((with_reducible apply Step.len); exact rfl; (focus (assumption)); (focus (decide +kernel)); exact rfl) | ((with_reducible apply Step.not); exact rfl; exact rfl) | ((with_reducible apply Step.callV fit); exact rfl; exact rfl; exact hf; exact hb; exact rfl; exact (hgx))) | (with_reducible refine AWo.nil ?_) | ((with_reducible apply AW.seq)) | ((with_reducible apply Then.n)) | ((with_reducible apply AW.regL)) | ((with_reducible apply AW.block)) | ((with_reducible apply InBlk.n)) | ((with_reducible apply AW.skip)) | ((with_reducible apply AW.condT); exact rfl; (focus ((simp only [decide_eq_true_eq, decide_eq_false_iff_not, Bool.not_eq_true', Bool.not_eq_false', Bool.not_true, Bool.not_false]; first | assumption | omega)))) | ((with_reducible apply AW.condF); exact rfl; (focus (rfl)))))
        exact ⟨_, [(0, .slice (some ⟨r, 0, none⟩) A.length c), (1, .func (.func g) #[] cap), (5, .int .i64 ((K.length : Nat) : Int)), (6, .int .i64 ((jj + 1 : Nat) : Int))], by omega, (by repeat (first | exact trivial | (refine And.intro rfl ?_))), jj + 1, K, Mid ++ [x], rfl, by omega, by rw [hfs]; simp, by simp; omega, by simp, rfl, by rw [hD]; simp⟩
      | false =>
        rw [hq] at hgx hfs
        obtain ⟨y, M', rfl⟩ : ∃ y M', Mid = y :: M' := by cases Mid with | nil => simp at hMid | cons y M' => exact ⟨y, M', rfl⟩
        simp only [List.length_cons] at hKM
        have hset : (K ++ (y :: M') ++ (x :: D ++ Z)).set K.length x = (K ++ [x]) ++ (M' ++ [x]) ++ (D ++ Z) := by
          rw [List.append_assoc, set_r (j := 0) (by omega)]; simp
        have hll : K.length < (K ++ (y :: M') ++ (x :: D ++ Z)).length := by simp
        (repeat (first | (with_reducible refine AWo.cons ?_) | ((with_reducible refine Step.id ?_); first | ((with_reducible apply Step.move); exact rfl; exact rfl) | ((with_reducible apply Step.assign); exact rfl; exact rfl) | ((with_reducible apply Step.load); exact rfl; (focus (decide +kernel)); exact rfl; (focus (assumption))) | ((with_reducible apply Step.ix1z); exact rfl; (focus (assumption)); exact rfl; (focus (decide +kernel)); exact rfl; (focus (omega))) | ((with_reducible apply Step.add); exact rfl; exact rfl; (focus (omega)); exact rfl) | ((with_reducible apply Step.lss); exact rfl; exact rfl; exact rfl) | ((with_reducible apply Step.len); exact rfl; (focus (assumption)); (focus (decide +kernel)); exact rfl) | ((with_reducible apply Step.not); exact rfl; exact rfl) | ((with_reducible apply Step.callV fit); exact rfl; exact rfl; exact hf; exact hb; exact rfl; exact (hgx)) | ((with_reducible apply Step.storeR); exact rfl; exact rfl; (focus (decide +kernel)); exact hr; exact hkd; (focus (first | omega | (simp [swp, ms_len]; omega))); exact rfl)) | (with_reducible refine AWo.nil ?_) | ((with_reducible apply AW.seq)) | ((with_reducible apply Then.n)) | ((with_reducible apply AW.regL)) | ((with_reducible apply AW.block)) | ((with_reducible apply InBlk.n)) | ((with_reducible apply AW.skip)) | ((with_reducible apply AW.condT); exact rfl; (focus (first | rfl | (simp only [decide_eq_true_eq, decide_eq_false_iff_not, Bool.not_eq_true', Bool.not_eq_false', Bool.not_true, Bool.not_false]; first | assumption | omega))))))
        refine ⟨_, [(0, .slice (some ⟨r, 0, none⟩) A.length c), (1, .func (.func g) #[] cap), (5, .int .i64 ((K.length + 1 : Nat) : Int)), (6, .int .i64 ((jj + 1 : Nat) : Int))], by omega, (by repeat (first | exact trivial | (refine And.intro rfl ?_))), jj + 1, K ++ [x], M' ++ [x], rfl, by omega, by rw [hfs]; simp, by simp; omega, by simp, by simp, ?_⟩
        rw [hD, ← hset]
    · obtain rfl : jj = A.length := by omega
      rw [List.take_length] at hK
      rw [List.drop_length, List.nil_append]
      have hcl : (K ++ Mid ++ Z).take (0 + K.length * 1) ++ List.replicate (A.length - K.length) 0 ++ (K ++ Mid ++ Z).drop (0 + K.length * 1 + (A.length - K.length)) = K ++ List.replicate (A.length - K.length) 0 ++ Z := by
        rw [Nat.zero_add, Nat.mul_one, show K.length + (A.length - K.length) = (K ++ Mid).length by simp; omega, List.drop_left]
        rw [List.append_assoc K Mid Z, List.take_left]
      have e0 : ((K.length : Nat) : Int) = ((K.length : Nat) : Int) := rfl
      (repeat (first | (with_reducible refine AWo.cons ?_) | ((with_reducible refine Step.id ?_); first | ((with_reducible apply Step.move); exact rfl; exact rfl) | ((with_reducible apply Step.slFrom); exact rfl; exact rfl; exact rfl; (focus (omega)); (focus (omega)); (focus (omega)); exact un27; exact sz3; exact rfl) | ((with_reducible apply Step.lss); exact rfl; exact rfl; exact rfl) | ((with_reducible apply Step.len); exact rfl; (focus (assumption)); (focus (decide +kernel)); exact rfl)) | (with_reducible refine AWo.nil ?_) | ((with_reducible apply AW.seq)) | ((with_reducible apply Then.n)) | ((with_reducible apply AW.regL)) | ((with_reducible apply AW.exit)) | ((with_reducible apply InBlk.hit)) | ((with_reducible apply Then.e)) | ((with_reducible apply AW.condF); exact rfl; (focus ((simp only [decide_eq_true_eq, decide_eq_false_iff_not, Bool.not_eq_true', Bool.not_eq_false', Bool.not_true, Bool.not_false]; first | assumption | omega))))))
      ((with_reducible apply Step.clearR); exact rfl; exact el27; exact hr; exact hkd; (focus (simp; omega)); (focus (omega)); exact hcl)
      (repeat (first | (with_reducible refine AWo.cons ?_) | ((with_reducible refine Step.id ?_); first | ((with_reducible apply Step.move); exact rfl; exact rfl) | ((with_reducible apply Step.assign); exact rfl; exact rfl) | ((with_reducible apply Step.slTo); exact rfl; exact rfl; (focus (assumption)); (focus (omega)); exact un27; exact sz3; exact rfl)) | (with_reducible refine AWo.nil ?_) | ((with_reducible apply AW.seq)) | ((with_reducible apply Then.n)) | ((with_reducible apply AW.regL))))
      (refine AW.ret ?_; (repeat (first | refine Then.r ?_ | refine InBlk.r ?_)))
      rw [← hK]
      exact ⟨_, rfl, rfl, rfl⟩
end
theorem nats_filter (l : List Nat) (q : Nat → Bool) (p : Int → Bool) (h : ∀ x, p (x : Nat) = q x) : (nats l).filter p = nats (l.filter q) := by
  unfold nats
  rw [List.filter_map]
  congr 1
  exact List.filter_congr fun x _ => h x
set_option maxRecDepth 100000 in
theorem same_ok {m : AM} {a : Nat} {x y : Int} (h : Rd m a 0 (.int .i64 x)) : ACall Try.prog 93 #[.int .i64 y, .pointer (some ⟨a, 0, none⟩)] m (Ret (.bool (decide (y = x))) m) := by
  rw [← List.append_nil m] at h
  refine ACall.start Try.func93 rfl rfl ?_
  (repeat (first | (with_reducible refine AWo.cons ?_) | ((with_reducible refine Step.id ?_); first | ((with_reducible apply Step.move); exact rfl; exact rfl) | ((with_reducible apply Step.assign); exact rfl; exact rfl) | ((with_reducible apply Step.load); exact rfl; (focus (decide +kernel)); exact rfl; (focus (assumption))) | ((with_reducible apply Step.eql); exact rfl; exact rfl; exact rfl)) | (with_reducible refine AWo.nil ?_) | ((with_reducible apply AW.seq)) | ((with_reducible apply Then.n)) | ((with_reducible apply AW.regL))))
  (refine AW.retD (l := [(3, _)]) (by repeat (first | exact trivial | (refine And.intro ⟨rfl, by (exact .bool _)⟩ ?_))) ?_; (repeat (first | refine Then.r ?_ | refine InBlk.r ?_)))
  exact ⟨_, rfl, rfl, rfl⟩
/-- A row of ints in a block that is not older than n0. -/
def IntsF (n0 : Nat) (M : AM) (v : Value) (l : List Int) : Prop := ∃ a o, n0 ≤ a ∧ Sl v a o l.length ∧ a < M.length ∧ ∀ k, k < l.length → Rd M a (o + k) (.int .i64 (l.getD k 0))
theorem IntsF.ints {n0 : Nat} {M : AM} {v : Value} {l : List Int} (h : IntsF n0 M v l) : Ints M v l := by
  obtain ⟨a, o, _, h1, h2, h3⟩ := h
  exact ⟨a, o, h1, h2, h3⟩
set_option maxHeartbeats 1000000 in
set_option maxRecDepth 100000 in
theorem without_ok {m : AM} {v : Value} {l : List Nat} {x : Nat} (hl : Ints m v (nats l)) (hlen : l.length ≤ 1000) (hx : x ∈ l) (hn : l.Nodup) : ACall Try.prog 57 #[v, .int .i64 (x : Nat)] m (More (fun M w => IntsF m.length M w (nats (l.erase x))) m) := by
  have hpos : 0 < (nats l).length := by rw [nats_len]; exact List.length_pos_of_mem hx
  have hlc : (nats l).length = l.length := nats_len l
  have herase : (nats l).filter (fun y => !(decide (y = ((x : Nat) : Int)))) = nats (l.erase x) := by
    rw [nats_filter l (fun y => !decide (y = x)) _ fun y => congrArg (!·) (decide_eq_decide.2 (by omega))]
    rw [hn.erase_eq_filter x]
    congr 1
  have hd := delete_ok (m := m ++ [some { cells := [.int .i64 (x : Nat)] }, some { cells := iv (nats l), kind := .grow, size := 1 }]) (r := m.length + 1) (s := 1) (kd := .grow) (A := nats l) (Z := []) (n := (nats l).length) (c := (nats l).length) (g := 93) (cap := #[.pointer (some ⟨m.length + 0, 0, none⟩)]) (fun y => decide (y = ((x : Nat) : Int)))
    (by simp) rfl Try.func93 rfl rfl (Nat.le_refl _) (by omega) (fun row y _ => by
      have := same_ok (m := St (m ++ [some { cells := [.int .i64 (x : Nat)] }, some { cells := iv (nats l), kind := .grow, size := 1 }]) (m.length + 1) .grow 1 row) (a := m.length + 0) (x := (x : Nat)) (y := y) (St.rd_ne (Rd.new rfl rfl) (by omega))
      simpa using this)
  rw [herase, List.append_nil, List.append_nil, St.self (by rw [get_app]; rfl)] at hd
  have hset : St (m ++ [some { cells := [.int .i64 (x : Nat)] }, some { cells := iv (nats l), kind := .grow, size := 1 }]) (m.length + 1) .grow 1 (nats (l.erase x) ++ List.replicate ((nats l).length - (nats (l.erase x)).length) 0) = m ++ [some { cells := [.int .i64 (x : Nat)] }, some { cells := iv (nats (l.erase x) ++ List.replicate ((nats l).length - (nats (l.erase x)).length) 0), kind := .grow, size := 1 }] := by
    unfold St; rw [set_app]; rfl
  rw [hset] at hd
  have hel : (l.erase x).length ≤ l.length := List.length_erase_le
  refine ACall.start Try.func57 rfl rfl ?_
  (repeat (first | (with_reducible refine AWo.cons ?_) | ((with_reducible refine Step.id ?_); first | ((with_reducible apply Step.move); exact rfl; exact rfl) | ((with_reducible apply Step.assign); exact rfl; exact rfl) | ((with_reducible apply Step.fn); exact rfl; exact rfl; exact rfl) | ((with_reducible apply Step.callN fit (k := 1)); exact rfl; exact rfl; exact Try.func92; exact rfl; exact rfl; exact (clone_pos (hl.old _) hpos (by omega)); (focus (first | (simp only [List.nil_append, List.cons_append, List.set_cons_zero, List.set_cons_succ, iv_set, bv_set, iv_rep, bv_rep]; done) | (simp only [List.nil_append, List.cons_append, List.set_cons_zero, List.set_cons_succ, iv_set, bv_set, iv_rep, bv_rep]; rfl) | rfl))) | ((with_reducible apply Step.callM fit); exact rfl; exact Try.func84; exact rfl; exact rfl; exact (hd)) | ((with_reducible apply Step.box 0); exact rfl; exact rfl; (focus (kernel_rfl)); exact rfl; (focus (first | (simp only [List.nil_append, List.cons_append, List.set_cons_zero, List.set_cons_succ, iv_set, bv_set, iv_rep, bv_rep]; done) | (simp only [List.nil_append, List.cons_append, List.set_cons_zero, List.set_cons_succ, iv_set, bv_set, iv_rep, bv_rep]; rfl) | rfl)))) | (with_reducible refine AWo.nil ?_) | ((with_reducible apply AW.seq)) | ((with_reducible apply Then.n)) | ((with_reducible apply AW.regL))))
  (refine AW.ret ?_; (repeat (first | refine Then.r ?_ | refine InBlk.r ?_)))
  exact ⟨_, rfl, _, rfl, ⟨m.length + 1, 0, by omega, Sl.mk (by simp; omega), by simp, fun k hk => Rd.new rfl (by
    rw [Nat.zero_add]
    have := iv_get (l := nats (l.erase x) ++ List.replicate ((nats l).length - (nats (l.erase x)).length) 0) (k := k) (by simp at hk ⊢; omega)
    rw [this, getD_l hk])⟩⟩
end Go.Proofs.Ytajpngnphbdnnaa.Abs
namespace Go.Proofs.Ytajpngnphbdnnaa.Abs
set_option linter.unusedSimpArgs false
set_option linter.unusedVariables false
open Go.RowKit
open Go.Proofs.Ytajpngnphbdnnaa.Sim
/-- Of n new variables those of A are made (slot dk k names the k-th), and those of S filled. -/
structure Mk (n : Nat) (B : AM) (A S : Nat → Bool) (dk : Nat → Nat) (c : Nat → List Value) (z : List Value) (p : Nat → Nat) (t : Fm) (m : AM) : Prop where
  pre : ∃ N, m = B ++ N
  ar : ∀ k, k < n → A k = true → t (dk k) = some (.pointer (some ⟨p k, 0, none⟩)) ∧ B.length ≤ p k ∧ m[p k]? = some (some { cells := cond (S k) (c k) z })
  dj : ∀ j k, j < n → k < n → A j = true → A k = true → p j = p k → j = k
  sa : ∀ k, k < n → S k = true → A k = true
theorem Mk.start (n : Nat) (B : AM) (dk : Nat → Nat) (c : Nat → List Value) (z : List Value) (t : Fm) : Mk n B (fun _ => false) (fun _ => false) dk c z (fun _ => 0) t B :=
  ⟨⟨[], (List.append_nil B).symm⟩, fun _ _ h => (by cases h), fun _ _ _ _ h => (by cases h), fun _ _ h => (by cases h)⟩
section
variable {n : Nat} {B : AM} {A A' S S' : Nat → Bool} {dk : Nat → Nat} {c : Nat → List Value} {z : List Value} {p : Nat → Nat} {t : Fm} {m : AM}
theorem Mk.congr (h : Mk n B A S dk c z p t m) (hA : ∀ k, k < n → A' k = A k) (hS : ∀ k, k < n → S' k = S k) : Mk n B A' S' dk c z p t m :=
  ⟨h.pre, fun k hk ha => by rw [hS k hk]; exact h.ar k hk (by rw [← hA k hk]; exact ha), fun j k hj hk h1 h2 => h.dj j k hj hk (by rw [← hA j hj]; exact h1) (by rw [← hA k hk]; exact h2), fun k hk hs => by rw [hA k hk]; exact h.sa k hk (by rw [← hS k hk]; exact hs)⟩
theorem Mk.slot (h : Mk n B A S dk c z p t m) (d : Nat) (v : Value) (hd : ∀ k, k < n → dk k ≠ d) : Mk n B A S dk c z p (put t d v) m :=
  ⟨h.pre, fun k hk ha => by
    obtain ⟨h1, h2, h3⟩ := h.ar k hk ha
    exact ⟨by rw [put_ne _ _ (hd k hk)]; exact h1, h2, h3⟩, h.dj, h.sa⟩
theorem Mk.alloc (h : Mk n B A S dk c z p t m) {k : Nat} (hk : k < n) (ha : A k = false) (hi : ∀ i j, i < n → j < n → dk i = dk j → i = j) :
    ∃ p', Mk n B (upL A k) S dk c z p' (put t (dk k) (.pointer (some ⟨m.length, 0, none⟩))) (m ++ [some { cells := z }]) := by
  have hs : S k = false := by
    cases e : S k with
    | false => rfl
    | true => rw [h.sa k hk e] at ha; cases ha
  refine ⟨fun i => if i = k then m.length else p i, ?_, fun j hj haj => ?_, fun i j hi' hj hai haj e => ?_, fun j hj hsj => by
    by_cases e : j = k
    · subst e; exact upL_same ..
    · rw [upL_ne A e]; exact h.sa j hj hsj⟩
  · obtain ⟨N, hN⟩ := h.pre
    exact ⟨N ++ [some { cells := z }], by rw [hN, List.append_assoc]⟩
  · by_cases e : j = k
    · subst e
      simp only [if_true]
      refine ⟨put_same .., ?_, by simp [hs]⟩
      obtain ⟨N, hN⟩ := h.pre
      rw [hN]; simp
    · rw [upL_ne A e] at haj
      obtain ⟨h1, h2, h3⟩ := h.ar j hj haj
      simp only [if_neg e]
      exact ⟨by rw [put_ne _ _ fun q => e (hi j k hj hk q)]; exact h1, h2, get_old _ h3⟩
  · by_cases e1 : i = k
    · by_cases e2 : j = k
      · rw [e1, e2]
      · simp only [if_pos e1, if_neg e2] at e
        rw [upL_ne A e2] at haj
        have := (List.getElem?_eq_some_iff.1 (h.ar j hj haj).2.2).1
        omega
    · rw [upL_ne A e1] at hai
      by_cases e2 : j = k
      · simp only [if_neg e1, if_pos e2] at e
        have := (List.getElem?_eq_some_iff.1 (h.ar i hi' hai).2.2).1
        omega
      · simp only [if_neg e1, if_neg e2] at e
        rw [upL_ne A e2] at haj
        exact h.dj i j hi' hj hai haj e
theorem Mk.store (h : Mk n B A S dk c z p t m) {k : Nat} (hk : k < n) (ha : A k = true) : Mk n B A (upL S k) dk c z p t (m.set (p k) (some { cells := c k })) := by
  have hlt := (List.getElem?_eq_some_iff.1 (h.ar k hk ha).2.2).1
  have hge := (h.ar k hk ha).2.1
  refine ⟨?_, fun j hj haj => ?_, h.dj, fun j hj hsj => by
    by_cases e : j = k
    · rw [e]; exact ha
    · rw [upL_ne S e] at hsj; exact h.sa j hj hsj⟩
  · obtain ⟨N, hN⟩ := h.pre
    exact ⟨N.set (p k - B.length) (some { cells := c k }), by rw [hN, List.set_append_right _ _ hge]⟩
  · obtain ⟨h1, h2, h3⟩ := h.ar j hj haj
    refine ⟨h1, h2, ?_⟩
    by_cases e : j = k
    · subst e
      rw [List.getElem?_set_self hlt, upL_same]; rfl
    · rw [upL_ne S e, List.getElem?_set_ne fun q => e (h.dj j k hj hk haj ha q.symm)]
      exact h3
theorem upL_shift (L : Nat → Bool) (a j : Nat) : (fun k => upL L (a + j) (a + k)) = upL (fun k => L (a + k)) j := by
  funext k
  by_cases e : k = j
  · subst e; rw [upL_same, upL_same]
  · rw [upL_ne _ e, upL_ne _ (by omega)]
theorem upL_out (L : Nat → Bool) {a i n : Nat} (h : i < a ∨ a + n ≤ i) : ∀ k, k < n → upL L i (a + k) = L (a + k) := fun k hk => upL_ne _ (by omega)
end
end Go.Proofs.Ytajpngnphbdnnaa.Abs
namespace Go.Proofs.Ytajpngnphbdnnaa.Abs
set_option linter.unusedSimpArgs false
set_option linter.unusedVariables false
open Go.RowKit
open Go.Proofs.Ytajpngnphbdnnaa.Sim
open Go.Proofs
set_option maxRecDepth 100000 in
theorem uright_ok {m : AM} (u : Ru) {b : Bool} (hb : uB u = b) : ACall Try.prog 65 #[u.v] m (Ret (.bool b) m) := by
  subst hb
  have hw := fun L => right_ok (m := m ++ L) u.w rfl
  have hl := fun L => right_ok (m := m ++ L) u.l rfl
  have r0 : ∀ T : AM, RdL (m ++ (some { cells := u.cells } :: T)) (m.length + 0) 0 u.w.cells := fun T => ⟨_, by rw [get_app]; rfl, fun j v hj => by
    rcases j with _ | _ | _ | _ | j <;> first | exact hj | (simp [Gl.cells] at hj)⟩
  have r4 : ∀ T : AM, RdL (m ++ (some { cells := u.cells } :: T)) (m.length + 0) (0 + 4) u.l.cells := fun T => ⟨_, by rw [get_app]; rfl, fun j v hj => by
    rcases j with _ | _ | _ | _ | j <;> first | exact hj | (simp [Gl.cells] at hj)⟩
  unfold uB
  refine ACall.start Try.func65 rfl rfl ?_
  cases h : gB u.w with
  | true =>
    rw [h] at hw
    (repeat (first | (with_reducible refine AWo.cons ?_) | ((with_reducible refine Step.id ?_); first | ((with_reducible apply Step.assign); exact rfl; exact rfl) | ((with_reducible apply Step.field0); exact rfl; (focus (decide +kernel)); exact rfl) | ((with_reducible apply Step.box 0); exact rfl; exact rfl; (focus (kernel_rfl)); exact rfl; (focus (first | (simp only [List.nil_append, List.cons_append, List.set_cons_zero, List.set_cons_succ, iv_set, bv_set, iv_rep, bv_rep]; done) | (simp only [List.nil_append, List.cons_append, List.set_cons_zero, List.set_cons_succ, iv_set, bv_set, iv_rep, bv_rep]; rfl) | rfl)))) | (with_reducible refine AWo.nil ?_) | ((with_reducible apply AW.seq)) | ((with_reducible apply Then.n)) | ((with_reducible apply AW.regL))))
    ((with_reducible apply Step.loadL (n := 4)); exact rfl; (focus (decide +kernel)); (focus (decide +kernel)); exact rfl; exact (r0 _); exact rfl; exact rfl)
    (repeat (first | (with_reducible refine AWo.cons ?_) | ((with_reducible refine Step.id ?_); first | ((with_reducible apply Step.gdT); exact rfl; exact rfl; (focus (rfl))) | ((with_reducible apply Step.move); exact rfl; exact rfl) | ((with_reducible apply Step.assign); exact rfl; exact rfl) | ((with_reducible apply Step.loadL (n := 4)); exact rfl; (focus (decide +kernel)); (focus (decide +kernel)); exact rfl; (focus (exact r4 _)); exact rfl; exact rfl) | ((with_reducible apply Step.field (k := 4)); exact rfl; (focus (decide +kernel)); exact rfl) | ((with_reducible apply Step.pickT); exact rfl; exact rfl; exact rfl; exact rfl; (focus (rfl))) | ((with_reducible apply Step.callR fit); exact rfl; exact Try.func64; exact rfl; exact rfl; exact (hw _)) | ((with_reducible apply Step.callR fit); exact rfl; exact Try.func64; exact rfl; exact rfl; exact (hl _))) | (with_reducible refine AWo.nil ?_) | ((with_reducible apply Then.n))))
    (refine AW.retD (l := [(2, _)]) (by repeat (first | exact trivial | (refine And.intro ⟨rfl, by (exact .bool _)⟩ ?_))) ?_; (repeat (first | refine Then.r ?_ | refine InBlk.r ?_)))
    exact ⟨_, rfl, by simp, rfl⟩
  | false =>
    rw [h] at hw
    (repeat (first | (with_reducible refine AWo.cons ?_) | ((with_reducible refine Step.id ?_); first | ((with_reducible apply Step.assign); exact rfl; exact rfl) | ((with_reducible apply Step.field0); exact rfl; (focus (decide +kernel)); exact rfl) | ((with_reducible apply Step.box 0); exact rfl; exact rfl; (focus (kernel_rfl)); exact rfl; (focus (first | (simp only [List.nil_append, List.cons_append, List.set_cons_zero, List.set_cons_succ, iv_set, bv_set, iv_rep, bv_rep]; done) | (simp only [List.nil_append, List.cons_append, List.set_cons_zero, List.set_cons_succ, iv_set, bv_set, iv_rep, bv_rep]; rfl) | rfl)))) | (with_reducible refine AWo.nil ?_) | ((with_reducible apply AW.seq)) | ((with_reducible apply Then.n)) | ((with_reducible apply AW.regL))))
    ((with_reducible apply Step.loadL (n := 4)); exact rfl; (focus (decide +kernel)); (focus (decide +kernel)); exact rfl; exact (r0 _); exact rfl; exact rfl)
    (repeat (first | (with_reducible refine AWo.cons ?_) | ((with_reducible refine Step.id ?_); first | ((with_reducible apply Step.gdF); exact rfl; exact rfl; (focus (rfl))) | ((with_reducible apply Step.move); exact rfl; exact rfl) | ((with_reducible apply Step.assign); exact rfl; exact rfl) | ((with_reducible apply Step.pickF); exact rfl; exact rfl; exact rfl; exact rfl; (focus (rfl))) | ((with_reducible apply Step.callR fit); exact rfl; exact Try.func64; exact rfl; exact rfl; exact (hw _))) | (with_reducible refine AWo.nil ?_) | ((with_reducible apply Then.n))))
    (refine AW.retD (l := [(2, _)]) (by repeat (first | exact trivial | (refine And.intro ⟨rfl, by (exact .bool _)⟩ ?_))) ?_; (repeat (first | refine Then.r ?_ | refine InBlk.r ?_)))
    exact ⟨_, rfl, by simp, rfl⟩
set_option maxRecDepth 100000 in
theorem wrong_ok {m : AM} (x : Gl) {b : Bool} (hb : (!gB x) = b) : ACall Try.prog 106 #[x.v] m (Ret (.bool b) m) := by
  subst hb
  have hr := fun L => right_ok (m := m ++ L) x rfl
  have r0 : ∀ T : AM, RdL (m ++ (some { cells := x.cells } :: T)) (m.length + 0) 0 x.cells := fun T => RdL.new rfl rfl
  refine ACall.start Try.func106 rfl rfl ?_
  (repeat (first | (with_reducible refine AWo.cons ?_) | ((with_reducible refine Step.id ?_); first | ((with_reducible apply Step.assign); exact rfl; exact rfl) | ((with_reducible apply Step.loadL (n := 4)); exact rfl; (focus (decide +kernel)); (focus (decide +kernel)); exact rfl; (focus (exact RdL.new rfl rfl)); exact rfl; exact rfl) | ((with_reducible apply Step.not); exact rfl; exact rfl) | ((with_reducible apply Step.callR fit); exact rfl; exact Try.func64; exact rfl; exact rfl; exact (hr _)) | ((with_reducible apply Step.box 0); exact rfl; exact rfl; (focus (kernel_rfl)); exact rfl; (focus (first | (simp only [List.nil_append, List.cons_append, List.set_cons_zero, List.set_cons_succ, iv_set, bv_set, iv_rep, bv_rep]; done) | (simp only [List.nil_append, List.cons_append, List.set_cons_zero, List.set_cons_succ, iv_set, bv_set, iv_rep, bv_rep]; rfl) | rfl)))) | (with_reducible refine AWo.nil ?_) | ((with_reducible apply AW.seq)) | ((with_reducible apply Then.n)) | ((with_reducible apply AW.regL))))
  (refine AW.retD (l := [(2, _)]) (by repeat (first | exact trivial | (refine And.intro ⟨rfl, by (exact .bool _)⟩ ?_))) ?_; (repeat (first | refine Then.r ?_ | refine InBlk.r ?_)))
  exact ⟨_, rfl, rfl, rfl⟩
/-- A row of gloves. -/
def Gls (m : AM) (v : Value) (l : List Gl) : Prop := ∃ a o, Sl v a o l.length ∧ a < m.length ∧ ∀ k, k < l.length → RdL m a (o + k * 4) (l.getD k default).cells
theorem Gls.old {m : AM} {v : Value} {l : List Gl} (L : AM) (h : Gls m v l) : Gls (m ++ L) v l := by
  obtain ⟨a, o, h1, h2, h3⟩ := h
  exact ⟨a, o, h1, by simp; omega, fun k hk => (h3 k hk).old L⟩
/-- A valid side. -/
def sB (l : List Gl) : Bool := decide (l.length ≤ 32) && l.all gB
set_option maxRecDepth 100000 in
theorem indexG_ok {m : AM} {v : Value} {j : List Gl} {g : FuncId} {cap : Array Value} {fn : Func} {bd : Code} (hj : Gls m v j) (hf : Try.prog.funcs[g]? = some fn) (hb : fn.body = some bd) (pr : Nat → Bool) (hcap : ∀ N, Ren rid N (.func (.func g) #[] cap) (.func (.func g) #[] cap))
    (hlen : j.length ≤ 100000) (hg : ∀ k, k < j.length → ACall Try.prog g (#[] ++ #[.agg (j.getD k default).cells.toArray] ++ cap) m (Ret (.bool (pr k)) m)) : ACall Try.prog 119 #[v, .func (.func g) #[] cap] m (Ret (.int .i64 (idxF pr j.length)) m) := by
  obtain ⟨a, o, h1, h2, h3⟩ := hj
  refine ACall.start Try.func119 rfl rfl ?_
  (repeat (first | (with_reducible refine AWo.cons ?_) | ((with_reducible refine Step.id ?_); first | ((with_reducible apply Step.move); exact rfl; exact rfl) | ((with_reducible apply Step.assign); exact rfl; exact rfl) | ((with_reducible apply Step.len); exact rfl; (focus (assumption)); (focus (decide +kernel)); exact rfl)) | (with_reducible refine AWo.nil ?_) | ((with_reducible apply AW.seq)) | ((with_reducible apply Then.n)) | ((with_reducible apply AW.regL)) | ((with_reducible apply AW.block))))
  refine AW.loopT (fun n t L => ∃ k : Nat, n = j.length - k ∧ k ≤ j.length ∧ (∀ i, i < k → pr i = false) ∧ L = [] ∧
    t = [(0, v), (1, .func (.func g) #[] cap), (7, .int .i64 (j.length : Nat)), (8, .int .i64 (k : Nat))]) ⟨_, _, _, (Or.inl ⟨rfl, (by repeat (first | exact trivial | (refine And.intro rfl ?_)))⟩), 0, rfl, Nat.zero_le _, by omega, rfl, rfl⟩ ?_
  rintro n t L ⟨k, rfl, hk, hz, rfl, rfl⟩
  rcases Nat.lt_or_ge k j.length with hlt | hge
  · cases hp : pr k with
    | true =>
      have hgk := hg k hlt
      rw [hp] at hgk
      (repeat (first | (with_reducible refine AWo.cons ?_) | ((with_reducible refine Step.id ?_); first | ((with_reducible apply Step.move); exact rfl; exact rfl) | ((with_reducible apply Step.assign); exact rfl; exact rfl) | ((with_reducible apply Step.loadL (n := 4)); exact rfl; (focus (decide +kernel)); (focus (decide +kernel)); exact rfl; (focus (exact RdL.old _ (h3 _ hlt))); exact rfl; exact rfl) | ((with_reducible apply Step.ix (s := 4)); exact rfl; (focus (assumption)); exact rfl; (focus (decide +kernel)); exact rfl; (focus (omega))) | ((with_reducible apply Step.lss); exact rfl; exact rfl; exact rfl) | ((with_reducible apply Step.callV fit); exact rfl; exact rfl; exact hf; exact hb; exact rfl; exact ((by rw [List.append_nil]; exact hgk)))) | (with_reducible refine AWo.nil ?_) | ((with_reducible apply AW.seq)) | ((with_reducible apply Then.n)) | ((with_reducible apply AW.regL)) | ((with_reducible apply AW.block)) | ((with_reducible apply AW.skip)) | ((with_reducible apply AW.condT); exact rfl; (focus (first | rfl | (simp only [decide_eq_true_eq, decide_eq_false_iff_not, Bool.not_eq_true', Bool.not_eq_false', Bool.not_true, Bool.not_false]; first | assumption | omega))))))
      (refine AW.retD (l := [(4, _)]) (by repeat (first | exact trivial | (refine And.intro ⟨rfl, by (exact .int _ _)⟩ ?_))) ?_; (repeat (first | refine Then.r ?_ | refine InBlk.r ?_)))
      exact ⟨_, rfl, by rw [idxF_hit hlt hz hp], rfl⟩
    | false =>
      have hgk := hg k hlt
      rw [hp] at hgk
      (repeat (first | (with_reducible refine AWo.cons ?_) | ((with_reducible refine Step.id ?_); first | ((with_reducible apply Step.move); exact rfl; exact rfl) | ((with_reducible apply Step.assign); exact rfl; exact rfl) | ((with_reducible apply Step.loadL (n := 4)); exact rfl; (focus (decide +kernel)); (focus (decide +kernel)); exact rfl; (focus (exact RdL.old _ (h3 _ hlt))); exact rfl; exact rfl) | ((with_reducible apply Step.ix (s := 4)); exact rfl; (focus (assumption)); exact rfl; (focus (decide +kernel)); exact rfl; (focus (omega))) | ((with_reducible apply Step.add); exact rfl; exact rfl; (focus (omega)); exact rfl) | ((with_reducible apply Step.lss); exact rfl; exact rfl; exact rfl) | ((with_reducible apply Step.callV fit); exact rfl; exact rfl; exact hf; exact hb; exact rfl; exact ((by rw [List.append_nil]; exact hgk)))) | (with_reducible refine AWo.nil ?_) | ((with_reducible apply AW.seq)) | ((with_reducible apply Then.n)) | ((with_reducible apply AW.regL)) | ((with_reducible apply AW.block)) | ((with_reducible apply InBlk.n)) | ((with_reducible apply AW.skip)) | ((with_reducible apply AW.condT); exact rfl; (focus ((simp only [decide_eq_true_eq, decide_eq_false_iff_not, Bool.not_eq_true', Bool.not_eq_false', Bool.not_true, Bool.not_false]; first | assumption | omega)))) | ((with_reducible apply AW.condF); exact rfl; (focus (rfl)))))
      exact ⟨_, _, _, by omega, (Or.inl ⟨rfl, (by repeat (first | exact trivial | (refine And.intro rfl ?_)))⟩), k + 1, rfl, by omega, fun i hi => by rcases Nat.lt_succ_iff_lt_or_eq.1 hi with h | h; exact hz i h; rw [h]; exact hp, rfl, rfl⟩
  · (repeat (first | (with_reducible refine AWo.cons ?_) | ((with_reducible refine Step.id ?_); first | ((with_reducible apply Step.assign); exact rfl; exact rfl) | ((with_reducible apply Step.lss); exact rfl; exact rfl; exact rfl)) | (with_reducible refine AWo.nil ?_) | ((with_reducible apply AW.seq)) | ((with_reducible apply Then.n)) | ((with_reducible apply AW.regL)) | ((with_reducible apply AW.exit)) | ((with_reducible apply InBlk.hit)) | ((with_reducible apply Then.e)) | ((with_reducible apply AW.condF); exact rfl; (focus ((simp only [decide_eq_true_eq, decide_eq_false_iff_not, Bool.not_eq_true', Bool.not_eq_false', Bool.not_true, Bool.not_false]; first | assumption | omega))))))
    obtain rfl : k = j.length := by omega
    (refine AW.retD (l := [(4, _)]) (by repeat (first | exact trivial | (refine And.intro ⟨rfl, by (exact .int _ _)⟩ ?_))) ?_; (repeat (first | refine Then.r ?_ | refine InBlk.r ?_)))
    exact ⟨_, rfl, by rw [idxF_miss hz], rfl⟩
set_option maxRecDepth 100000 in
theorem containsG_ok {m : AM} {v : Value} {j : List Gl} {g : FuncId} {cap : Array Value} {fn : Func} {bd : Code} (hj : Gls m v j) (hf : Try.prog.funcs[g]? = some fn) (hb : fn.body = some bd) (pr : Nat → Bool) (hcap : ∀ N, Ren rid N (.func (.func g) #[] cap) (.func (.func g) #[] cap))
    (hlen : j.length ≤ 100000) (hg : ∀ k, k < j.length → ACall Try.prog g (#[] ++ #[.agg (j.getD k default).cells.toArray] ++ cap) m (Ret (.bool (pr k)) m)) : ACall Try.prog 105 #[v, .func (.func g) #[] cap] m (Ret (.bool ((List.range j.length).any pr)) m) := by
  refine ACall.start Try.func105 rfl rfl ?_
  (repeat (first | (with_reducible refine AWo.cons ?_) | ((with_reducible refine Step.id ?_); first | ((with_reducible apply Step.move); exact rfl; exact rfl) | ((with_reducible apply Step.assign); exact rfl; exact rfl) | ((with_reducible apply Step.geq); exact rfl; exact rfl; exact rfl) | ((with_reducible apply Step.callR fit); exact rfl; exact Try.func119; exact rfl; exact rfl; exact ((by rw [List.append_nil]; exact indexG_ok hj hf hb pr hcap hlen hg)))) | (with_reducible refine AWo.nil ?_) | ((with_reducible apply AW.seq)) | ((with_reducible apply Then.n)) | ((with_reducible apply AW.regL))))
  (refine AW.retD (l := [(4, _)]) (by repeat (first | exact trivial | (refine And.intro ⟨rfl, by (exact .bool _)⟩ ?_))) ?_; (repeat (first | refine Then.r ?_ | refine InBlk.r ?_)))
  exact ⟨_, rfl, by rw [idxF_any], rfl⟩
set_option maxRecDepth 100000 in
theorem side_ok {m : AM} {v : Value} {j : List Gl} (hj : Gls m v j) (hlen : j.length ≤ 100000) {b : Bool} (hb : sB j = b) : ACall Try.prog 87 #[v] m (Ret (.bool b) m) := by
  subst hb
  obtain ⟨a, o, h1, h2, h3⟩ := id hj
  have hany : (List.range j.length).any (fun k => !gB (j.getD k default)) = !j.all gB := by
    rw [Bool.eq_iff_iff]
    simp only [List.any_eq_true, List.mem_range, Bool.not_eq_true', List.all_eq_false]
    constructor
    · rintro ⟨k, hk, e⟩; exact ⟨j[k], List.getElem_mem hk, by simpa [hk] using e⟩
    · rintro ⟨x, hx, e⟩
      obtain ⟨k, hk, rfl⟩ := List.getElem_of_mem hx
      exact ⟨k, hk, by simpa [hk] using e⟩
  refine ACall.start Try.func87 rfl rfl ?_
  by_cases h : (j.length : Int) ≤ 32
  · (repeat (first | (with_reducible refine AWo.cons ?_) | ((with_reducible refine Step.id ?_); first | ((with_reducible apply Step.gdT); exact rfl; exact rfl; (focus ((simp only [decide_eq_true_eq, decide_eq_false_iff_not, Bool.not_eq_true', Bool.not_eq_false', Bool.not_true, Bool.not_false]; first | assumption | omega)))) | ((with_reducible apply Step.move); exact rfl; exact rfl) | ((with_reducible apply Step.assign); exact rfl; exact rfl) | ((with_reducible apply Step.leq); exact rfl; exact rfl; exact rfl) | ((with_reducible apply Step.len); exact rfl; (focus (assumption)); (focus (decide +kernel)); exact rfl) | ((with_reducible apply Step.not); exact rfl; exact rfl) | ((with_reducible apply Step.pickT); exact rfl; exact rfl; exact rfl; exact rfl; (focus ((simp only [decide_eq_true_eq, decide_eq_false_iff_not, Bool.not_eq_true', Bool.not_eq_false', Bool.not_true, Bool.not_false]; first | assumption | omega)))) | ((with_reducible apply Step.callR fit); exact rfl; exact Try.func105; exact rfl; exact rfl; exact ((by rw [List.append_nil]; exact containsG_ok hj Try.func106 rfl (fun k => !gB (j.getD k default)) (fun _ => Ren.of_g0 rfl) hlen (fun k hk => wrong_ok _ rfl))))) | (with_reducible refine AWo.nil ?_) | ((with_reducible apply AW.seq)) | ((with_reducible apply Then.n)) | ((with_reducible apply AW.regL))))
    (refine AW.retD (l := [(2, _)]) (by repeat (first | exact trivial | (refine And.intro ⟨rfl, by (exact .bool _)⟩ ?_))) ?_; (repeat (first | refine Then.r ?_ | refine InBlk.r ?_)))
    exact ⟨_, rfl, by rw [hany]; simp [sB]; omega, rfl⟩
  · (repeat (first | (with_reducible refine AWo.cons ?_) | ((with_reducible refine Step.id ?_); first | ((with_reducible apply Step.gdF); exact rfl; exact rfl; (focus ((simp only [decide_eq_true_eq, decide_eq_false_iff_not, Bool.not_eq_true', Bool.not_eq_false', Bool.not_true, Bool.not_false]; first | assumption | omega)))) | ((with_reducible apply Step.move); exact rfl; exact rfl) | ((with_reducible apply Step.assign); exact rfl; exact rfl) | ((with_reducible apply Step.leq); exact rfl; exact rfl; exact rfl) | ((with_reducible apply Step.len); exact rfl; (focus (assumption)); (focus (decide +kernel)); exact rfl) | ((with_reducible apply Step.pickF); exact rfl; exact rfl; exact rfl; exact rfl; (focus ((simp only [decide_eq_true_eq, decide_eq_false_iff_not, Bool.not_eq_true', Bool.not_eq_false', Bool.not_true, Bool.not_false]; first | assumption | omega))))) | (with_reducible refine AWo.nil ?_) | ((with_reducible apply AW.seq)) | ((with_reducible apply Then.n)) | ((with_reducible apply AW.regL))))
    (refine AW.retD (l := [(2, _)]) (by repeat (first | exact trivial | (refine And.intro ⟨rfl, by (exact .bool _)⟩ ?_))) ?_; (repeat (first | refine Then.r ?_ | refine InBlk.r ?_)))
    exact ⟨_, rfl, by simp [sB]; omega, rfl⟩
/-- How much two gloves differ in a measure. -/
def df (x y : Gl) (k : Nat) : Int := max (x.g k - y.g k) (y.g k - x.g k)
def cst (u : Ru) (x y : Gl) : Nat → Option Int
  | 0 => some 0
  | k + 1 => match cst u x y k with
    | none => none
    | some s => if u.l.g k < df x y k then none else some (s + df x y k * u.w.g k)
/-- What a pair costs; -1 where it is not allowed. -/
def costF (u : Ru) (x y : Gl) : Int := match cst u x y 4 with
  | some s => s
  | none => -1
theorem df_bd {x y : Gl} (hx : gB x = true) (hy : gB y = true) {k : Nat} (hk : k < 4) : 0 ≤ df x y k ∧ df x y k ≤ 1000 := by
  have := gB_iff.1 hx k hk
  have := gB_iff.1 hy k hk
  unfold df; omega
theorem mul_bd {a b : Int} (ha : 0 ≤ a ∧ a ≤ 1000) (hb : 0 ≤ b ∧ b ≤ 1000) : 0 ≤ a * b ∧ a * b ≤ 1000000 :=
  ⟨Int.mul_nonneg ha.1 hb.1, by have := Int.mul_le_mul ha.2 hb.2 hb.1 (by omega); omega⟩
theorem cst_bd {u : Ru} {x y : Gl} (hu : gB u.w = true) (hx : gB x = true) (hy : gB y = true) : ∀ {k : Nat} {s : Int}, k ≤ 4 → cst u x y k = some s → 0 ≤ s ∧ s ≤ 1000000 * k
  | 0, s, _, h => by simp only [cst] at h; injection h with h; omega
  | k + 1, s, hk, h => by
    simp only [cst] at h
    cases hc : cst u x y k with
    | none => rw [hc] at h; cases h
    | some s0 =>
      rw [hc] at h
      simp only at h
      split at h
      · cases h
      · injection h with h
        have := cst_bd hu hx hy (k := k) (by omega) hc
        have := mul_bd (df_bd hx hy (show k < 4 by omega)) (gB_iff.1 hu k (by omega))
        omega
theorem cst_none {u : Ru} {x y : Gl} {k : Nat} (h : cst u x y k = none) : ∀ n, cst u x y (k + n) = none
  | 0 => h
  | n + 1 => by show cst u x y (k + n + 1) = none; simp only [cst]; rw [cst_none h n]
theorem costF_bd {u : Ru} {x y : Gl} (hu : gB u.w = true) (hx : gB x = true) (hy : gB y = true) : -1 ≤ costF u x y ∧ costF u x y ≤ 4000000 := by
  unfold costF
  cases h : cst u x y 4 with
  | none => simp
  | some s => have := cst_bd hu hx hy (Nat.le_refl 4) h; simp only; omega
def c2 (x y : Gl) : Nat → List Value
  | 0 => x.cells
  | _ => y.cells
def zG : List Value := [.int .i64 0, .int .i64 0, .int .i64 0, .int .i64 0]
set_option maxHeartbeats 4000000 in
set_option maxRecDepth 100000 in
theorem cost_ok {m : AM} (u : Ru) (x y : Gl) (hw : gB u.w = true) (hl : gB u.l = true) (hx : gB x = true) (hy : gB y = true) {c : Int} (hc : costF u x y = c) : ACall Try.prog 66 #[u.v, x.v, y.v] m (Ret (.int .i64 c) m) := by
  subst hc
  have m1 := fun L => measures_ok (m := m ++ L) x
  have m2 := fun L => measures_ok (m := m ++ L) y
  have m3 := fun L => measures_ok (m := m ++ L) u.w
  have m4 := fun L => measures_ok (m := m ++ L) u.l
  have r0 : ∀ (T : AM), RdL (m ++ (some { cells := u.cells } :: T)) (m.length + 0) 0 u.w.cells := fun T => ⟨_, by rw [get_app]; rfl, fun j v hj => by
    rcases j with _ | _ | _ | _ | j <;> first | exact hj | (simp [Gl.cells] at hj)⟩
  have r4 : ∀ (T : AM), RdL (m ++ (some { cells := u.cells } :: T)) (m.length + 0) (0 + 4) u.l.cells := fun T => ⟨_, by rw [get_app]; rfl, fun j v hj => by
    rcases j with _ | _ | _ | _ | j <;> first | exact hj | (simp [Gl.cells] at hj)⟩
  refine ACall.drop (Ren.of_g0 rfl) ?_
  refine ACall.start Try.func66 rfl rfl ?_
  (repeat (first | (with_reducible refine AWo.cons ?_) | ((with_reducible refine Step.id ?_); first | ((with_reducible apply Step.assign); exact rfl; exact rfl) | ((with_reducible apply Step.box 0); exact rfl; exact rfl; (focus (kernel_rfl)); exact rfl; (focus (first | (simp only [List.nil_append, List.cons_append, List.set_cons_zero, List.set_cons_succ, iv_set, bv_set, iv_rep, bv_rep]; done) | (simp only [List.nil_append, List.cons_append, List.set_cons_zero, List.set_cons_succ, iv_set, bv_set, iv_rep, bv_rep]; rfl) | rfl))) | ((with_reducible apply Step.box 1); exact rfl; exact rfl; (focus (kernel_rfl)); exact rfl; (focus (first | (simp only [List.nil_append, List.cons_append, List.set_cons_zero, List.set_cons_succ, iv_set, bv_set, iv_rep, bv_rep]; done) | (simp only [List.nil_append, List.cons_append, List.set_cons_zero, List.set_cons_succ, iv_set, bv_set, iv_rep, bv_rep]; rfl) | rfl))) | ((with_reducible apply Step.box 2); exact rfl; exact rfl; (focus (kernel_rfl)); exact rfl; (focus (first | (simp only [List.nil_append, List.cons_append, List.set_cons_zero, List.set_cons_succ, iv_set, bv_set, iv_rep, bv_rep]; done) | (simp only [List.nil_append, List.cons_append, List.set_cons_zero, List.set_cons_succ, iv_set, bv_set, iv_rep, bv_rep]; rfl) | rfl)))) | (with_reducible refine AWo.nil ?_) | ((fail_if_success (with_reducible refine AW.atR (id := 1) ?_)); ((with_reducible apply AW.seq))) | ((with_reducible apply Then.n)) | ((with_reducible apply AW.regL))))
  refine AW.seq ?_
  refine AW.anyI fit (fun L t m' => (∃ p, Mk 2 (m ++ [some { cells := u.cells }, some { cells := x.cells }, some { cells := y.cells }]) (fun k => L (4 + k)) (fun k => L (6 + k)) (fun k => 7 + k) (c2 x y) zG p t m') ∧
    t 3 = some (.pointer (some ⟨m.length + 0, 0, none⟩)) ∧ t 4 = some (.pointer (some ⟨m.length + 1, 0, none⟩)) ∧ t 5 = some (.pointer (some ⟨m.length + 2, 0, none⟩)) ∧ t 6 = some (.int .i64 0) ∧
    (L 0 = true → t 14 = some x.v) ∧ (L 1 = true → t 15 = some x.v) ∧ (L 2 = true → t 16 = some y.v) ∧ (L 3 = true → t 17 = some y.v)) (by decide +kernel) ?_ ?_ ?_
  · exact ⟨⟨_, Mk.start ..⟩, rfl, rfl, rfl, rfl, fun h => (by cases h), fun h => (by cases h), fun h => (by cases h), fun h => (by cases h)⟩
  · intro i o ho L t m' hI hLi hdep
    obtain ⟨⟨p, hp⟩, q3, q4, q5, q6, s0, s1, s2, s3⟩ := hI
    obtain ⟨N, rfl⟩ := hp.pre
    have hd : ∀ d, (d < 7 ∨ 9 ≤ d) → ∀ k, k < 2 → 7 + k ≠ d := fun d h k hk => by omega
    rcases i with _ | _ | _ | _ | _ | _ | _ | _ | i
    · injection ho with ho; subst ho
      exact Step.loadL (n := 4) q4 (by decide +kernel) (by decide +kernel) rfl ((RdL.new rfl rfl : RdL _ _ 0 x.cells).old N) rfl rfl ⟨⟨p, (hp.slot 14 _ (hd 14 (by omega))).congr (upL_out L (by omega)) (upL_out L (by omega))⟩, q3, q4, q5, q6, fun _ => rfl, s1, s2, s3⟩
    · injection ho with ho; subst ho
      have d0 := s0 (hdep 0 (by decide))
      exact Step.callR fit (vs := [x.v]) (by simp [evL, evo, d0]) Try.func95 rfl rfl (measures_ok x) ⟨⟨p, (hp.slot 15 _ (hd 15 (by omega))).congr (upL_out L (by omega)) (upL_out L (by omega))⟩, q3, q4, q5, q6, s0, fun _ => rfl, s2, s3⟩
    · injection ho with ho; subst ho
      exact Step.loadL (n := 4) q5 (by decide +kernel) (by decide +kernel) rfl ((RdL.new rfl rfl : RdL _ _ 0 y.cells).old N) rfl rfl ⟨⟨p, (hp.slot 16 _ (hd 16 (by omega))).congr (upL_out L (by omega)) (upL_out L (by omega))⟩, q3, q4, q5, q6, s0, s1, fun _ => rfl, s3⟩
    · injection ho with ho; subst ho
      have d2 := s2 (hdep 2 (by decide))
      exact Step.callR fit (vs := [y.v]) (by simp [evL, evo, d2]) Try.func95 rfl rfl (measures_ok y) ⟨⟨p, (hp.slot 17 _ (hd 17 (by omega))).congr (upL_out L (by omega)) (upL_out L (by omega))⟩, q3, q4, q5, q6, s0, s1, s2, fun _ => rfl⟩
    · injection ho with ho; subst ho
      obtain ⟨p', hp'⟩ := hp.alloc (k := 0) (by omega) hLi (fun i j _ _ h => by omega)
      exact Step.allocG ze113 rfl ⟨⟨p', hp'.congr (fun k _ => congrFun (upL_shift L 4 0) k) (upL_out L (by omega))⟩, q3, q4, q5, q6, s0, s1, s2, s3⟩
    · injection ho with ho; subst ho
      obtain ⟨p', hp'⟩ := hp.alloc (k := 1) (by omega) hLi (fun i j _ _ h => by omega)
      exact Step.allocG ze113 rfl ⟨⟨p', hp'.congr (fun k _ => congrFun (upL_shift L 4 1) k) (upL_out L (by omega))⟩, q3, q4, q5, q6, s0, s1, s2, s3⟩
    · injection ho with ho; subst ho
      have d := s1 (hdep 1 (by decide))
      have hA := hdep 4 (by decide)
      obtain ⟨e1, e2, e3⟩ := hp.ar 0 (by omega) hA
      exact Step.storeG (n := 4) e1 d e3 rfl (by decide +kernel) rfl (by kernel_rfl) (by cases L (6 + 0) <;> rfl) ⟨⟨p, (hp.store (k := 0) (by omega) hA).congr (upL_out L (by omega)) (fun k _ => congrFun (upL_shift L 6 0) k)⟩, q3, q4, q5, q6, s0, s1, s2, s3⟩
    · injection ho with ho; subst ho
      have d := s3 (hdep 3 (by decide))
      have hA := hdep 5 (by decide)
      obtain ⟨e1, e2, e3⟩ := hp.ar 1 (by omega) hA
      exact Step.storeG (n := 4) e1 d e3 rfl (by decide +kernel) rfl (by kernel_rfl) (by cases L (6 + 1) <;> rfl) ⟨⟨p, (hp.store (k := 1) (by omega) hA).congr (upL_out L (by omega)) (fun k _ => congrFun (upL_shift L 6 1) k)⟩, q3, q4, q5, q6, s0, s1, s2, s3⟩
    · simp at ho
  · intro L t m' hall hI
    obtain ⟨⟨p, hp⟩, q3, q4, q5, q6, _⟩ := hI
    have hA : ∀ k, k < 2 → L (4 + k) = true := fun k hk => hall _ (by simp; omega)
    have hS : ∀ k, k < 2 → L (6 + k) = true := fun k hk => hall _ (by simp; omega)
    obtain ⟨a1, a2, a3⟩ := hp.ar 0 (by omega) (hA 0 (by omega))
    obtain ⟨b1, b2, b3⟩ := hp.ar 1 (by omega) (hA 1 (by omega))
    simp only [hS 0 (by omega), hS 1 (by omega), cond_true] at a3 b3
    obtain ⟨N, hN⟩ := hp.pre
    clear hp hA hS hall
    generalize p 0 = p7 at *
    generalize p 1 = p8 at *
    have h7 : RdL m' p7 0 x.cells := ⟨_, a3, fun j v hj => by rw [Nat.zero_add]; exact hj⟩
    have h8 : RdL m' p8 0 y.cells := ⟨_, b3, fun j v hj => by rw [Nat.zero_add]; exact hj⟩
    have r0' : RdL m' (m.length + 0) 0 u.w.cells := by rw [hN]; exact (r0 _).old N
    have r4' : RdL m' (m.length + 0) (0 + 4) u.l.cells := by rw [hN]; exact (r4 _).old N
    have hpre : ∃ N, m' = m ++ N := ⟨_, by rw [hN, List.append_assoc]⟩
    have hw8 : p8 < m'.length := (List.getElem?_eq_some_iff.1 b3).1
    clear a2 a3 b2 b3 hN
    refine AW.weak (fr_all (l := [(3, .pointer (some ⟨m.length + 0, 0, none⟩)), (6, .int .i64 0), (7, .pointer (some ⟨p7, 0, none⟩)), (8, .pointer (some ⟨p8, 0, none⟩))]) ⟨q3, q6, a1, b1, trivial⟩) ?_
    generalize m.length + 0 = x3 at *
    clear q3 q4 q5 q6 a1 b1 r0 r4 m1 m2 m3 m4
    refine AW.seq ?_
    refine AW.anyI fit (fun L t m2 => (∃ p, Mk 2 m' (fun k => L (6 + k)) (fun k => L (8 + k)) (fun k => 9 + k) (c2 u.w u.l) zG p t m2) ∧
      t 3 = some (.pointer (some ⟨x3, 0, none⟩)) ∧ t 6 = some (.int .i64 0) ∧ t 7 = some (.pointer (some ⟨p7, 0, none⟩)) ∧ t 8 = some (.pointer (some ⟨p8, 0, none⟩)) ∧
      (L 0 = true → t 18 = some (.pointer (some ⟨x3, 0, none⟩))) ∧ (L 1 = true → t 19 = some u.w.v) ∧ (L 2 = true → t 20 = some u.w.v) ∧ (L 3 = true → t 21 = some (.pointer (some ⟨x3, 0 + 4, none⟩))) ∧ (L 4 = true → t 22 = some u.l.v) ∧ (L 5 = true → t 23 = some u.l.v)) (by decide +kernel) ?_ ?_ ?_
    · exact ⟨⟨_, Mk.start ..⟩, rfl, rfl, rfl, rfl, fun h => (by cases h), fun h => (by cases h), fun h => (by cases h), fun h => (by cases h), fun h => (by cases h), fun h => (by cases h)⟩
    · intro i o ho L t m2 hI hLi hdep
      obtain ⟨⟨p, hp⟩, q3, q6, q7, q8, s0, s1, s2, s3, s4, s5⟩ := hI
      obtain ⟨N, rfl⟩ := hp.pre
      have hd : ∀ d, (d < 9 ∨ 11 ≤ d) → ∀ k, k < 2 → 9 + k ≠ d := fun d h k hk => by omega
      rcases i with _ | _ | _ | _ | _ | _ | _ | _ | _ | _ | i
      · injection ho with ho; subst ho
        exact Step.field0 q3 (by decide +kernel) rfl ⟨⟨p, (hp.slot 18 _ (hd 18 (by omega))).congr (upL_out L (by omega)) (upL_out L (by omega))⟩, q3, q6, q7, q8, fun _ => rfl, s1, s2, s3, s4, s5⟩
      · injection ho with ho; subst ho
        have d := s0 (hdep 0 (by decide))
        exact Step.loadL (n := 4) d (by decide +kernel) (by decide +kernel) rfl (r0'.old N) rfl rfl ⟨⟨p, (hp.slot 19 _ (hd 19 (by omega))).congr (upL_out L (by omega)) (upL_out L (by omega))⟩, q3, q6, q7, q8, s0, fun _ => rfl, s2, s3, s4, s5⟩
      · injection ho with ho; subst ho
        have d := s1 (hdep 1 (by decide))
        exact Step.callR fit (vs := [u.w.v]) (by simp [evL, evo, d]) Try.func95 rfl rfl (measures_ok u.w) ⟨⟨p, (hp.slot 20 _ (hd 20 (by omega))).congr (upL_out L (by omega)) (upL_out L (by omega))⟩, q3, q6, q7, q8, s0, s1, fun _ => rfl, s3, s4, s5⟩
      · injection ho with ho; subst ho
        exact Step.field (k := 4) q3 (by decide +kernel) rfl ⟨⟨p, (hp.slot 21 _ (hd 21 (by omega))).congr (upL_out L (by omega)) (upL_out L (by omega))⟩, q3, q6, q7, q8, s0, s1, s2, fun _ => rfl, s4, s5⟩
      · injection ho with ho; subst ho
        have d := s3 (hdep 3 (by decide))
        exact Step.loadL (n := 4) d (by decide +kernel) (by decide +kernel) rfl (r4'.old N) rfl rfl ⟨⟨p, (hp.slot 22 _ (hd 22 (by omega))).congr (upL_out L (by omega)) (upL_out L (by omega))⟩, q3, q6, q7, q8, s0, s1, s2, s3, fun _ => rfl, s5⟩
      · injection ho with ho; subst ho
        have d := s4 (hdep 4 (by decide))
        exact Step.callR fit (vs := [u.l.v]) (by simp [evL, evo, d]) Try.func95 rfl rfl (measures_ok u.l) ⟨⟨p, (hp.slot 23 _ (hd 23 (by omega))).congr (upL_out L (by omega)) (upL_out L (by omega))⟩, q3, q6, q7, q8, s0, s1, s2, s3, s4, fun _ => rfl⟩
      · injection ho with ho; subst ho
        obtain ⟨p', hp'⟩ := hp.alloc (k := 0) (by omega) hLi (fun i j _ _ h => by omega)
        exact Step.allocG ze113 rfl ⟨⟨p', hp'.congr (fun k _ => congrFun (upL_shift L 6 0) k) (upL_out L (by omega))⟩, q3, q6, q7, q8, s0, s1, s2, s3, s4, s5⟩
      · injection ho with ho; subst ho
        obtain ⟨p', hp'⟩ := hp.alloc (k := 1) (by omega) hLi (fun i j _ _ h => by omega)
        exact Step.allocG ze113 rfl ⟨⟨p', hp'.congr (fun k _ => congrFun (upL_shift L 6 1) k) (upL_out L (by omega))⟩, q3, q6, q7, q8, s0, s1, s2, s3, s4, s5⟩
      · injection ho with ho; subst ho
        have d := s2 (hdep 2 (by decide))
        have hA := hdep 6 (by decide)
        obtain ⟨e1, e2, e3⟩ := hp.ar 0 (by omega) hA
        exact Step.storeG (n := 4) e1 d e3 rfl (by decide +kernel) rfl (by kernel_rfl) (by cases L (8 + 0) <;> rfl) ⟨⟨p, (hp.store (k := 0) (by omega) hA).congr (upL_out L (by omega)) (fun k _ => congrFun (upL_shift L 8 0) k)⟩, q3, q6, q7, q8, s0, s1, s2, s3, s4, s5⟩
      · injection ho with ho; subst ho
        have d := s5 (hdep 5 (by decide))
        have hA := hdep 7 (by decide)
        obtain ⟨e1, e2, e3⟩ := hp.ar 1 (by omega) hA
        exact Step.storeG (n := 4) e1 d e3 rfl (by decide +kernel) rfl (by kernel_rfl) (by cases L (8 + 1) <;> rfl) ⟨⟨p, (hp.store (k := 1) (by omega) hA).congr (upL_out L (by omega)) (fun k _ => congrFun (upL_shift L 8 1) k)⟩, q3, q6, q7, q8, s0, s1, s2, s3, s4, s5⟩
      · simp at ho
    · intro L t m2 hall hI
      obtain ⟨⟨p, hp⟩, q3, q6, q7, q8, _⟩ := hI
      have hA : ∀ k, k < 2 → L (6 + k) = true := fun k hk => hall _ (by simp; omega)
      have hS : ∀ k, k < 2 → L (8 + k) = true := fun k hk => hall _ (by simp; omega)
      obtain ⟨a1, a2, a3⟩ := hp.ar 0 (by omega) (hA 0 (by omega))
      obtain ⟨b1, b2, b3⟩ := hp.ar 1 (by omega) (hA 1 (by omega))
      simp only [hS 0 (by omega), hS 1 (by omega), cond_true] at a3 b3
      obtain ⟨N, hN⟩ := hp.pre
      have hpre2 : ∃ N, m2 = m ++ N := by obtain ⟨N', hN'⟩ := hpre; exact ⟨N' ++ N, by rw [hN, hN', List.append_assoc]⟩
      have rd : ∀ (q : Nat) (z : Gl), RdL m2 q 0 z.cells → ∀ k, k < 4 → ∀ T, Rd (m2 ++ T) q (0 + k * 1) (.int .i64 (z.g k)) := fun q z h k hk T => by
        have := (h.old T).at_ k (v := .int .i64 (z.g k)) (by rcases k with _ | _ | _ | _ | k <;> first | rfl | omega)
        rwa [Nat.mul_one]
      have h7' := rd p7 x (by rw [hN]; exact h7.old N)
      have h8' := rd p8 y (by rw [hN]; exact h8.old N)
      have h9' := rd (p 0) u.w ⟨_, a3, fun j v hj => by rw [Nat.zero_add]; exact hj⟩
      have h10' := rd (p 1) u.l ⟨_, b3, fun j v hj => by rw [Nat.zero_add]; exact hj⟩
      clear hp hA hS hall h7 h8 r0' r4' hpre hN rd a2 a3 b2 b3
      generalize p 0 = p9 at *
      generalize p 1 = p10 at *
      refine AW.weak (fr_all (l := [(6, .int .i64 0), (7, .pointer (some ⟨p7, 0, none⟩)), (8, .pointer (some ⟨p8, 0, none⟩)), (9, .pointer (some ⟨p9, 0, none⟩)), (10, .pointer (some ⟨p10, 0, none⟩))]) ⟨q6, q7, q8, a1, b1, trivial⟩) ?_
      clear q3 q6 q7 q8 a1 b1
      refine AW.rebase ?_
      (repeat (first | (with_reducible refine AWo.cons ?_) | ((with_reducible refine Step.id ?_); first | ((with_reducible apply Step.move); exact rfl; exact rfl) | ((with_reducible apply Step.assign); exact rfl; exact rfl)) | (with_reducible refine AWo.nil ?_) | ((with_reducible apply AW.seq)) | ((with_reducible apply Then.n)) | ((with_reducible apply AW.regL)) | ((with_reducible apply AW.block))))
      refine AW.loopT (fun rk t L' => ∃ (k : Nat) (s : Int), rk = 4 - k ∧ k ≤ 4 ∧ cst u x y k = some s ∧ L' = [] ∧
        t = [(6, .int .i64 0), (7, .pointer (some ⟨p7, 0, none⟩)), (8, .pointer (some ⟨p8, 0, none⟩)), (9, .pointer (some ⟨p9, 0, none⟩)), (10, .pointer (some ⟨p10, 0, none⟩)), (11, .int .i64 s), (24, .int .i64 (k : Nat))]) ⟨_, _, _, (Or.inl ⟨rfl, (by repeat (first | exact trivial | (refine And.intro rfl ?_)))⟩), 0, 0, rfl, Nat.zero_le _, rfl, rfl, rfl⟩ ?_
      rintro rk t L' ⟨k, s, rfl, hk, hs, rfl, rfl⟩
      rcases Nat.lt_or_ge k 4 with hlt | hge
      · have g1 := gB_iff.1 hx k hlt
        have g2 := gB_iff.1 hy k hlt
        have g3 := gB_iff.1 hw k hlt
        have sb := cst_bd hw hx hy (by omega) hs
        have db := df_bd hx hy hlt
        have pb := mul_bd db g3
        have hnx : cst u x y (k + 1) = if u.l.g k < df x y k then none else some (s + df x y k * u.w.g k) := by simp only [cst, hs]
        have edf : max (x.g k - y.g k) (y.g k - x.g k) = df x y k := rfl
        obtain ⟨pr, hpr⟩ : ∃ pr, df x y k * u.w.g k = pr := ⟨_, rfl⟩
        rw [hpr] at hnx pb
        by_cases hc : u.l.g k < df x y k
        · rw [if_pos hc] at hnx
          have hfin : costF u x y = -1 := by
            unfold costF
            have := cst_none hnx (3 - k)
            rw [show k + 1 + (3 - k) = 4 by omega] at this
            rw [this]
          (repeat (first | (with_reducible refine AWo.cons ?_) | ((with_reducible refine Step.id ?_); first | ((with_reducible apply Step.move); exact rfl; exact rfl) | ((with_reducible apply Step.assign); exact rfl; exact rfl) | ((with_reducible apply Step.load); exact rfl; (focus (decide +kernel)); exact rfl; (focus (first | exact h7' k hlt _ | exact h8' k hlt _))) | ((with_reducible apply Step.ixA (s := 1) (n := 4)); exact rfl; exact rfl; (focus (kernel_rfl)); exact rfl; (focus (omega))) | ((with_reducible apply Step.sub); exact rfl; exact rfl; (focus (omega)); exact rfl) | ((with_reducible apply Step.lss); exact rfl; exact rfl; exact rfl) | ((with_reducible apply Step.max); exact rfl; exact rfl; exact rfl)) | (with_reducible refine AWo.nil ?_) | ((fail_if_success (with_reducible refine AW.atR (id := 8) ?_)); ((with_reducible apply AW.seq))) | ((with_reducible apply Then.n)) | ((with_reducible apply AW.regL)) | ((with_reducible apply AW.block)) | ((with_reducible apply AW.drawL fit); (focus (decide +kernel))) | ((with_reducible apply AW.skip)) | ((with_reducible apply AW.condT); exact rfl; (focus ((simp only [decide_eq_true_eq, decide_eq_false_iff_not, Bool.not_eq_true', Bool.not_eq_false', Bool.not_true, Bool.not_false]; first | assumption | omega))))))
          rw [edf]
          (repeat (first | (with_reducible refine AWo.cons ?_) | ((with_reducible refine Step.id ?_); first | ((with_reducible apply Step.move); exact rfl; exact rfl) | ((with_reducible apply Step.assign); exact rfl; exact rfl) | ((with_reducible apply Step.load); exact rfl; (focus (decide +kernel)); exact rfl; (focus (exact h10' k hlt _))) | ((with_reducible apply Step.ixA (s := 1) (n := 4)); exact rfl; exact rfl; (focus (kernel_rfl)); exact rfl; (focus (omega))) | ((with_reducible apply Step.gtr); exact rfl; exact rfl; exact rfl)) | (with_reducible refine AWo.nil ?_) | ((with_reducible apply AW.seq)) | ((with_reducible apply Then.n)) | ((with_reducible apply AW.regL)) | ((with_reducible apply AW.condT); exact rfl; (focus ((simp only [decide_eq_true_eq, decide_eq_false_iff_not, Bool.not_eq_true', Bool.not_eq_false', Bool.not_true, Bool.not_false]; first | assumption | omega))))))
          (refine AW.ret ?_; (repeat (first | refine Then.r ?_ | refine InBlk.r ?_)))
          obtain ⟨N', hN'⟩ := hpre2
          exact ⟨_, rfl, by rw [hfin], N', by rw [hN', List.append_nil]⟩
        · rw [if_neg hc] at hnx
          (repeat (first | (with_reducible refine AWo.cons ?_) | ((with_reducible refine Step.id ?_); first | ((with_reducible apply Step.move); exact rfl; exact rfl) | ((with_reducible apply Step.assign); exact rfl; exact rfl) | ((with_reducible apply Step.load); exact rfl; (focus (decide +kernel)); exact rfl; (focus (first | exact h7' k hlt _ | exact h8' k hlt _))) | ((with_reducible apply Step.ixA (s := 1) (n := 4)); exact rfl; exact rfl; (focus (kernel_rfl)); exact rfl; (focus (omega))) | ((with_reducible apply Step.sub); exact rfl; exact rfl; (focus (omega)); exact rfl) | ((with_reducible apply Step.lss); exact rfl; exact rfl; exact rfl) | ((with_reducible apply Step.max); exact rfl; exact rfl; exact rfl)) | (with_reducible refine AWo.nil ?_) | ((fail_if_success (with_reducible refine AW.atR (id := 8) ?_)); ((with_reducible apply AW.seq))) | ((with_reducible apply Then.n)) | ((with_reducible apply AW.regL)) | ((with_reducible apply AW.block)) | ((with_reducible apply AW.drawL fit); (focus (decide +kernel))) | ((with_reducible apply AW.skip)) | ((with_reducible apply AW.condT); exact rfl; (focus ((simp only [decide_eq_true_eq, decide_eq_false_iff_not, Bool.not_eq_true', Bool.not_eq_false', Bool.not_true, Bool.not_false]; first | assumption | omega))))))
          rw [edf]
          (repeat (first | (with_reducible refine AWo.cons ?_) | ((with_reducible refine Step.id ?_); first | ((with_reducible apply Step.move); exact rfl; exact rfl) | ((with_reducible apply Step.assign); exact rfl; exact rfl) | ((with_reducible apply Step.load); exact rfl; (focus (decide +kernel)); exact rfl; (focus (first | exact h9' k hlt _ | exact h10' k hlt _))) | ((with_reducible apply Step.ixA (s := 1) (n := 4)); exact rfl; exact rfl; (focus (kernel_rfl)); exact rfl; (focus (omega))) | ((with_reducible apply Step.add); exact rfl; exact rfl; (focus (omega)); exact rfl) | ((with_reducible apply Step.mul); exact rfl; exact rfl; (focus (omega)); exact rfl) | ((with_reducible apply Step.gtr); exact rfl; exact rfl; exact rfl)) | (with_reducible refine AWo.nil ?_) | ((with_reducible apply AW.seq)) | ((with_reducible apply Then.n)) | ((with_reducible apply AW.regL)) | ((with_reducible apply InBlk.n)) | ((with_reducible apply AW.skip)) | ((with_reducible apply AW.condF); exact rfl; (focus ((simp only [decide_eq_true_eq, decide_eq_false_iff_not, Bool.not_eq_true', Bool.not_eq_false', Bool.not_true, Bool.not_false]; first | assumption | omega))))))
          exact ⟨_, _, _, by omega, (Or.inl ⟨rfl, (by repeat (first | exact trivial | (refine And.intro rfl ?_)))⟩), k + 1, _, rfl, by omega, by rw [hnx, hpr], rfl, rfl⟩
      · obtain rfl : k = 4 := by omega
        (repeat (first | (with_reducible refine AWo.cons ?_) | ((with_reducible refine Step.id ?_); first | ((with_reducible apply Step.move); exact rfl; exact rfl) | ((with_reducible apply Step.assign); exact rfl; exact rfl) | ((with_reducible apply Step.lss); exact rfl; exact rfl; exact rfl)) | (with_reducible refine AWo.nil ?_) | ((with_reducible apply AW.seq)) | ((with_reducible apply Then.n)) | ((with_reducible apply AW.regL)) | ((with_reducible apply AW.exit)) | ((with_reducible apply InBlk.hit)) | ((with_reducible apply Then.e)) | ((with_reducible apply AW.condF); exact rfl; (focus (rfl)))))
        (refine AW.ret ?_; (repeat (first | refine Then.r ?_ | refine InBlk.r ?_)))
        obtain ⟨N', hN'⟩ := hpre2
        exact ⟨_, rfl, by unfold costF; rw [hs], N', by rw [hN', List.append_nil]⟩
end Go.Proofs.Ytajpngnphbdnnaa.Abs
namespace Go.Proofs.Ytajpngnphbdnnaa.Abs
set_option linter.unusedSimpArgs false
set_option linter.unusedVariables false
open Go.RowKit
open Go.Proofs.Ytajpngnphbdnnaa.Sim
open Go.Proofs
open Hung
/-- A table of costs. -/
def Tab (m : AM) (v : Value) (c : Nat → Nat → Int) (l r : Nat) : Prop := ∃ a cv b o, v = .pointer (some ⟨a, 0, none⟩) ∧ a < m.length ∧ Rd m a 0 cv ∧ Rd m a 1 (.int .i64 (l : Nat)) ∧ Rd m a 2 (.int .i64 (r : Nat)) ∧ Sl cv b o l ∧ b < m.length ∧
  ∀ i, i < l → ∃ w, Rd m b (o + i) w ∧ Ints m w (tab (c i) r)
theorem Tab.old {m : AM} {v : Value} {c : Nat → Nat → Int} {l r : Nat} (L : AM) (h : Tab m v c l r) : Tab (m ++ L) v c l r := by
  obtain ⟨a, cv, b, o, rfl, h1, h2, h3, h4, h5, h6, h7⟩ := h
  exact ⟨a, cv, b, o, rfl, by simp; omega, h2.old L, h3.old L, h4.old L, h5, by simp; omega, fun i hi => by
    obtain ⟨w, k1, k2⟩ := h7 i hi
    exact ⟨w, k1.old L, k2.old L⟩⟩
/-- Costs are small. -/
def Cs (c : Nat → Nat → Int) : Prop := ∀ i j, -1 ≤ c i j ∧ c i j ≤ 4000000
/-- What a pair adds, or 0 where one of both is none. -/
def wv (c : Nat → Nat → Int) (l r i j : Nat) : Int := if i < l ∧ j < r then wo c i j else 0
theorem wo_bd {c : Nat → Nat → Int} (hc : Cs c) (i j : Nat) : 0 ≤ wo c i j ∧ wo c i j ≤ 1000000000 := by
  have := hc i j
  unfold wo; split <;> omega
theorem wv_bd {c : Nat → Nat → Int} (hc : Cs c) (l r i j : Nat) : 0 ≤ wv c l r i j ∧ wv c l r i j ≤ 1000000000 := by
  have := wo_bd hc i j
  unfold wv; split <;> omega
set_option maxRecDepth 100000 in
theorem worth_ok {m : AM} {v : Value} {c : Nat → Nat → Int} {l r : Nat} (ht : Tab m v c l r) (hc : Cs c) (i j : Nat) {x : Int} (hx : wv c l r i j = x) : ACall Try.prog 58 #[v, .int .i64 (i : Nat), .int .i64 (j : Nat)] m (Ret (.int .i64 x) m) := by
  subst hx
  obtain ⟨a, cv, b, o, rfl, h1, h2, h3, h4, h5, h6, h7⟩ := ht
  refine ACall.start Try.func58 rfl rfl ?_
  by_cases hi : i < l
  · by_cases hj : j < r
    · obtain ⟨w, k1, b', o', k2, k3, k4⟩ := h7 i hi
      rw [tab_len] at k2 k4
      have k5 := k4 j hj
      rw [tab_get (c i) hj] at k5
      have hcb := hc i j
      by_cases hn : c i j < 0
      · (repeat (first | (with_reducible refine AWo.cons ?_) | ((with_reducible refine Step.id ?_); first | ((with_reducible apply Step.gdT); exact rfl; exact rfl; (focus ((simp only [decide_eq_true_eq, decide_eq_false_iff_not, Bool.not_eq_true', Bool.not_eq_false', Bool.not_true, Bool.not_false]; first | assumption | omega)))) | ((with_reducible apply Step.move); exact rfl; exact rfl) | ((with_reducible apply Step.assign); exact rfl; exact rfl) | ((with_reducible apply Step.load); exact rfl; (focus (decide +kernel)); exact rfl; (focus (first | exact h2.old [] | exact h3.old [] | exact h4.old [] | exact k1.old [] | exact k5.old []))) | ((with_reducible apply Step.ix1); exact rfl; (focus (assumption)); exact rfl; (focus (decide +kernel)); exact rfl; (focus (omega))) | ((with_reducible apply Step.field0); exact rfl; (focus (decide +kernel)); exact rfl) | ((with_reducible apply Step.field (k := 1)); exact rfl; (focus (decide +kernel)); exact rfl) | ((with_reducible apply Step.field (k := 2)); exact rfl; (focus (decide +kernel)); exact rfl) | ((with_reducible apply Step.lss); exact rfl; exact rfl; exact rfl) | ((with_reducible apply Step.geq); exact rfl; exact rfl; exact rfl) | ((with_reducible apply Step.nilp); exact rfl; exact rfl) | ((with_reducible apply Step.pickF); exact rfl; exact rfl; exact rfl; exact rfl; (focus ((simp only [decide_eq_true_eq, decide_eq_false_iff_not, Bool.not_eq_true', Bool.not_eq_false', Bool.not_true, Bool.not_false]; first | assumption | omega))))) | (with_reducible refine AWo.nil ?_) | ((with_reducible apply AW.seq)) | ((with_reducible apply Then.n)) | ((with_reducible apply AW.regL)) | ((with_reducible apply AW.condT); exact rfl; (focus ((simp only [decide_eq_true_eq, decide_eq_false_iff_not, Bool.not_eq_true', Bool.not_eq_false', Bool.not_true, Bool.not_false]; first | assumption | omega))))))
        (refine AW.retD (l := [(6, _)]) (by repeat (first | exact trivial | (refine And.intro ⟨rfl, by (exact .int _ _)⟩ ?_))) ?_; (repeat (first | refine Then.r ?_ | refine InBlk.r ?_)))
        exact ⟨_, rfl, by simp [wv, wo, hi, hj, hn], rfl⟩
      · (repeat (first | (with_reducible refine AWo.cons ?_) | ((with_reducible refine Step.id ?_); first | ((with_reducible apply Step.gdT); exact rfl; exact rfl; (focus ((simp only [decide_eq_true_eq, decide_eq_false_iff_not, Bool.not_eq_true', Bool.not_eq_false', Bool.not_true, Bool.not_false]; first | assumption | omega)))) | ((with_reducible apply Step.move); exact rfl; exact rfl) | ((with_reducible apply Step.assign); exact rfl; exact rfl) | ((with_reducible apply Step.load); exact rfl; (focus (decide +kernel)); exact rfl; (focus (first | exact h2.old [] | exact h3.old [] | exact h4.old [] | exact k1.old [] | exact k5.old []))) | ((with_reducible apply Step.ix1); exact rfl; (focus (assumption)); exact rfl; (focus (decide +kernel)); exact rfl; (focus (omega))) | ((with_reducible apply Step.field0); exact rfl; (focus (decide +kernel)); exact rfl) | ((with_reducible apply Step.field (k := 1)); exact rfl; (focus (decide +kernel)); exact rfl) | ((with_reducible apply Step.field (k := 2)); exact rfl; (focus (decide +kernel)); exact rfl) | ((with_reducible apply Step.sub); exact rfl; exact rfl; (focus (omega)); exact rfl) | ((with_reducible apply Step.lss); exact rfl; exact rfl; exact rfl) | ((with_reducible apply Step.geq); exact rfl; exact rfl; exact rfl) | ((with_reducible apply Step.nilp); exact rfl; exact rfl) | ((with_reducible apply Step.pickF); exact rfl; exact rfl; exact rfl; exact rfl; (focus ((simp only [decide_eq_true_eq, decide_eq_false_iff_not, Bool.not_eq_true', Bool.not_eq_false', Bool.not_true, Bool.not_false]; first | assumption | omega))))) | (with_reducible refine AWo.nil ?_) | ((with_reducible apply AW.seq)) | ((with_reducible apply Then.n)) | ((with_reducible apply AW.regL)) | ((with_reducible apply AW.skip)) | ((with_reducible apply AW.condF); exact rfl; (focus ((simp only [decide_eq_true_eq, decide_eq_false_iff_not, Bool.not_eq_true', Bool.not_eq_false', Bool.not_true, Bool.not_false]; first | assumption | omega))))))
        (refine AW.retD (l := [(6, _)]) (by repeat (first | exact trivial | (refine And.intro ⟨rfl, by (exact .int _ _)⟩ ?_))) ?_; (repeat (first | refine Then.r ?_ | refine InBlk.r ?_)))
        exact ⟨_, rfl, by simp [wv, wo, hi, hj, hn], rfl⟩
    · (repeat (first | (with_reducible refine AWo.cons ?_) | ((with_reducible refine Step.id ?_); first | ((with_reducible apply Step.gdT); exact rfl; exact rfl; (focus ((simp only [decide_eq_true_eq, decide_eq_false_iff_not, Bool.not_eq_true', Bool.not_eq_false', Bool.not_true, Bool.not_false]; first | assumption | omega)))) | ((with_reducible apply Step.gdF); exact rfl; exact rfl; (focus ((simp only [decide_eq_true_eq, decide_eq_false_iff_not, Bool.not_eq_true', Bool.not_eq_false', Bool.not_true, Bool.not_false]; first | assumption | omega)))) | ((with_reducible apply Step.move); exact rfl; exact rfl) | ((with_reducible apply Step.assign); exact rfl; exact rfl) | ((with_reducible apply Step.load); exact rfl; (focus (decide +kernel)); exact rfl; (focus (first | exact h3.old [] | exact h4.old []))) | ((with_reducible apply Step.field (k := 1)); exact rfl; (focus (decide +kernel)); exact rfl) | ((with_reducible apply Step.field (k := 2)); exact rfl; (focus (decide +kernel)); exact rfl) | ((with_reducible apply Step.geq); exact rfl; exact rfl; exact rfl) | ((with_reducible apply Step.nilp); exact rfl; exact rfl) | ((with_reducible apply Step.pickT); exact rfl; exact rfl; exact rfl; exact rfl; (focus ((simp only [decide_eq_true_eq, decide_eq_false_iff_not, Bool.not_eq_true', Bool.not_eq_false', Bool.not_true, Bool.not_false]; first | assumption | omega)))) | ((with_reducible apply Step.pickF); exact rfl; exact rfl; exact rfl; exact rfl; (focus ((simp only [decide_eq_true_eq, decide_eq_false_iff_not, Bool.not_eq_true', Bool.not_eq_false', Bool.not_true, Bool.not_false]; first | assumption | omega))))) | (with_reducible refine AWo.nil ?_) | ((with_reducible apply AW.seq)) | ((with_reducible apply Then.n)) | ((with_reducible apply AW.regL)) | ((with_reducible apply AW.condT); exact rfl; (focus (rfl)))))
      (refine AW.retD (l := [(6, _)]) (by repeat (first | exact trivial | (refine And.intro ⟨rfl, by (exact .int _ _)⟩ ?_))) ?_; (repeat (first | refine Then.r ?_ | refine InBlk.r ?_)))
      exact ⟨_, rfl, by simp [wv, hj], rfl⟩
  · (repeat (first | (with_reducible refine AWo.cons ?_) | ((with_reducible refine Step.id ?_); first | ((with_reducible apply Step.gdF); exact rfl; exact rfl; (focus (first | rfl | (simp only [decide_eq_true_eq, decide_eq_false_iff_not, Bool.not_eq_true', Bool.not_eq_false', Bool.not_true, Bool.not_false]; first | assumption | omega)))) | ((with_reducible apply Step.move); exact rfl; exact rfl) | ((with_reducible apply Step.assign); exact rfl; exact rfl) | ((with_reducible apply Step.load); exact rfl; (focus (decide +kernel)); exact rfl; (focus (exact h3.old []))) | ((with_reducible apply Step.field (k := 1)); exact rfl; (focus (decide +kernel)); exact rfl) | ((with_reducible apply Step.geq); exact rfl; exact rfl; exact rfl) | ((with_reducible apply Step.nilp); exact rfl; exact rfl) | ((with_reducible apply Step.pickT); exact rfl; exact rfl; exact rfl; exact rfl; (focus (first | rfl | (simp only [decide_eq_true_eq, decide_eq_false_iff_not, Bool.not_eq_true', Bool.not_eq_false', Bool.not_true, Bool.not_false]; first | assumption | omega))))) | (with_reducible refine AWo.nil ?_) | ((with_reducible apply AW.seq)) | ((with_reducible apply Then.n)) | ((with_reducible apply AW.regL)) | ((with_reducible apply AW.condT); exact rfl; (focus (rfl)))))
    (refine AW.retD (l := [(6, _)]) (by repeat (first | exact trivial | (refine And.intro ⟨rfl, by (exact .int _ _)⟩ ?_))) ?_; (repeat (first | refine Then.r ?_ | refine InBlk.r ?_)))
    exact ⟨_, rfl, by simp [wv, hi], rfl⟩
def atN (L : List Nat) (i : Nat) : Nat := if i < L.length then L.getD i 0 else 32
set_option maxRecDepth 100000 in
theorem at_ok {m : AM} {v : Value} {L : List Nat} (hl : Ints m v (nats L)) (hlen : L.length ≤ 100000) (i : Nat) (hi : i ≤ 100000) : ACall Try.prog 88 #[v, .int .i64 (i : Nat)] m (Ret (.int .i64 ((atN L i : Nat) : Int)) m) := by
  obtain ⟨a, o, h1, h2, h3⟩ := hl
  rw [nats_len] at h1 h3
  refine ACall.start Try.func88 rfl rfl ?_
  by_cases h : i < L.length
  · have hr := h3 i h
    rw [nats_get] at hr
    (repeat (first | (with_reducible refine AWo.cons ?_) | ((with_reducible refine Step.id ?_); first | ((with_reducible apply Step.move); exact rfl; exact rfl) | ((with_reducible apply Step.assign); exact rfl; exact rfl) | ((with_reducible apply Step.load); exact rfl; (focus (decide +kernel)); exact rfl; (focus (exact Rd.old _ (by assumption)))) | ((with_reducible apply Step.ix1); exact rfl; (focus (assumption)); exact rfl; (focus (decide +kernel)); exact rfl; (focus (omega))) | ((with_reducible apply Step.lss); exact rfl; exact rfl; exact rfl) | ((with_reducible apply Step.len); exact rfl; (focus (assumption)); (focus (decide +kernel)); exact rfl)) | (with_reducible refine AWo.nil ?_) | ((with_reducible apply AW.seq)) | ((with_reducible apply Then.n)) | ((with_reducible apply AW.regL)) | ((with_reducible apply AW.condT); exact rfl; (focus ((simp only [decide_eq_true_eq, decide_eq_false_iff_not, Bool.not_eq_true', Bool.not_eq_false', Bool.not_true, Bool.not_false]; first | assumption | omega))))))
    (refine AW.retD (l := [(4, _)]) (by repeat (first | exact trivial | (refine And.intro ⟨rfl, by (exact .int _ _)⟩ ?_))) ?_; (repeat (first | refine Then.r ?_ | refine InBlk.r ?_)))
    exact ⟨_, rfl, by simp [atN, h], rfl⟩
  · (repeat (first | (with_reducible refine AWo.cons ?_) | ((with_reducible refine Step.id ?_); first | ((with_reducible apply Step.move); exact rfl; exact rfl) | ((with_reducible apply Step.assign); exact rfl; exact rfl) | ((with_reducible apply Step.lss); exact rfl; exact rfl; exact rfl) | ((with_reducible apply Step.len); exact rfl; (focus (assumption)); (focus (decide +kernel)); exact rfl)) | (with_reducible refine AWo.nil ?_) | ((with_reducible apply AW.seq)) | ((with_reducible apply Then.n)) | ((with_reducible apply AW.regL)) | ((with_reducible apply AW.skip)) | ((with_reducible apply AW.condF); exact rfl; (focus ((simp only [decide_eq_true_eq, decide_eq_false_iff_not, Bool.not_eq_true', Bool.not_eq_false', Bool.not_true, Bool.not_false]; first | assumption | omega))))))
    (refine AW.retD (l := [(4, _)]) (by repeat (first | exact trivial | (refine And.intro ⟨rfl, by (exact .int _ _)⟩ ?_))) ?_; (repeat (first | refine Then.r ?_ | refine InBlk.r ?_)))
    exact ⟨_, rfl, by simp [atN, h], rfl⟩
/-- The loss of row i and column j, counted from 1. -/
def lossN (c : Nat → Nat → Int) (l r : Nat) (L R : List Nat) (i j : Nat) : Int := -wv c l r (atN L (i - 1)) (atN R (j - 1))
set_option maxHeartbeats 4000000 in
set_option maxRecDepth 100000 in
theorem loss_ok {m : AM} {tv lv rv : Value} {c : Nat → Nat → Int} {l r : Nat} {L R : List Nat} {q3 q4 q5 q10 : Nat} (ht : Tab m tv c l r) (hc : Cs c) (hL : Ints m lv (nats L)) (hR : Ints m rv (nats R)) (lL : L.length ≤ 1000) (lR : R.length ≤ 1000)
    (r3 : Rd m q3 0 tv) (r4 : Rd m q4 0 lv) (r5 : Rd m q5 0 rv) (r10 : Rd m q10 0 (.func (.func 88) #[] #[])) (i j : Nat) (hi : i ≤ 1000) (hj : j ≤ 1000) {x : Int} (hx : lossN c l r L R (i + 1) (j + 1) = x) :
    ACall Try.prog 89 #[.int .i64 ((i + 1 : Nat) : Int), .int .i64 ((j + 1 : Nat) : Int), .pointer (some ⟨q3, 0, none⟩), .pointer (some ⟨q10, 0, none⟩), .pointer (some ⟨q4, 0, none⟩), .pointer (some ⟨q5, 0, none⟩)] m (Ret (.int .i64 x) m) := by
  subst hx
  have a1 := at_ok hL (by omega) i (by omega)
  have a2 := at_ok hR (by omega) j (by omega)
  have a3 := worth_ok ht hc (atN L i) (atN R j) rfl
  have e : lossN c l r L R (i + 1) (j + 1) = -wv c l r (atN L i) (atN R j) := rfl
  have hb := wv_bd hc l r (atN L i) (atN R j)
  rw [e]
  generalize wv c l r (atN L i) (atN R j) = y at *
  generalize atN L i = x1 at *
  generalize atN R j = x2 at *
  have e1 : ((i + 1 : Nat) : Int) - 1 = (i : Nat) := by omega
  have e2 : ((j + 1 : Nat) : Int) - 1 = (j : Nat) := by omega
  rw [← List.append_nil m] at r3 r4 r5 r10 a1 a2 a3
  have hf : Try.prog.funcs[88]? = some Try.f88 := Try.func88
  have hb : Try.f88.body = some (Try.f88.body.get rfl) := rfl
  rw [← e1] at a1
  rw [← e2] at a2
  refine ACall.start Try.func89 rfl rfl ?_
  (repeat' (first | (with_reducible refine AWo.cons ?_) | ((with_reducible refine Step.id ?_); first | ((with_reducible apply Step.move); exact rfl; exact rfl) | ((with_reducible apply Step.assign); exact rfl; exact rfl) | ((with_reducible apply Step.load); exact rfl; (focus (decide +kernel)); exact rfl; (focus (assumption))) | ((with_reducible apply Step.sub); exact rfl; exact rfl; (focus (omega)); exact rfl) | ((with_reducible apply Step.neg); exact rfl; (focus (omega)); exact rfl) | ((with_reducible apply Step.callV fit); exact rfl; exact rfl; exact hf; exact hb; exact rfl; exact (a1)) | ((with_reducible apply Step.callV fit); exact rfl; exact rfl; exact hf; exact hb; exact rfl; exact (a2)) | ((with_reducible apply Step.callR fit); exact rfl; exact Try.func58; exact rfl; exact rfl; exact (a3))) | (with_reducible refine AWo.nil ?_) | ((with_reducible apply AW.seq)) | ((with_reducible apply Then.n)) | ((with_reducible apply AW.regL)) | ((with_reducible apply AW.drawT fit (T := (.step 1 (.step 2 (.step 3 (.step 4 (.step 8 (.step 9 (.both (.step 0 (.both (.step 5 (.step 6 (.step 7 (.step 10 (.step 11 (.step 12 (.step 13 .done))))))) (.both (.step 6 (.both (.step 5 (.step 7 (.step 10 (.step 11 (.step 12 (.step 13 .done)))))) (.step 7 (.step 5 (.step 10 (.step 11 (.step 12 (.step 13 .done)))))))) (.step 7 (.both (.step 5 (.step 6 (.step 10 (.step 11 (.step 12 (.step 13 .done)))))) (.step 6 (.step 5 (.step 10 (.step 11 (.step 12 (.step 13 .done))))))))))) (.both (.step 5 (.step 6 (.step 7 (.both (.step 0 (.step 10 (.step 11 (.step 12 (.step 13 .done))))) (.step 10 (.step 0 (.step 11 (.step 12 (.step 13 .done))))))))) (.both (.step 6 (.both (.step 0 (.both (.step 5 (.step 7 (.step 10 (.step 11 (.step 12 (.step 13 .done)))))) (.step 7 (.step 5 (.step 10 (.step 11 (.step 12 (.step 13 .done)))))))) (.both (.step 5 (.step 7 (.both (.step 0 (.step 10 (.step 11 (.step 12 (.step 13 .done))))) (.step 10 (.step 0 (.step 11 (.step 12 (.step 13 .done)))))))) (.step 7 (.both (.step 0 (.step 5 (.step 10 (.step 11 (.step 12 (.step 13 .done)))))) (.step 5 (.both (.step 0 (.step 10 (.step 11 (.step 12 (.step 13 .done))))) (.step 10 (.step 0 (.step 11 (.step 12 (.step 13 .done)))))))))))) (.step 7 (.both (.step 0 (.both (.step 5 (.step 6 (.step 10 (.step 11 (.step 12 (.step 13 .done)))))) (.step 6 (.step 5 (.step 10 (.step 11 (.step 12 (.step 13 .done)))))))) (.both (.step 5 (.step 6 (.both (.step 0 (.step 10 (.step 11 (.step 12 (.step 13 .done))))) (.step 10 (.step 0 (.step 11 (.step 12 (.step 13 .done)))))))) (.step 6 (.both (.step 0 (.step 5 (.step 10 (.step 11 (.step 12 (.step 13 .done)))))) (.step 5 (.both (.step 0 (.step 10 (.step 11 (.step 12 (.step 13 .done))))) (.step 10 (.step 0 (.step 11 (.step 12 (.step 13 .done))))))))))))))))))))))); (focus (decide +kernel))) | ((with_reducible apply AWt.step); exact rfl) | ((with_reducible apply AWt.done)) | refine AWt.both ?_ ?_))
  all_goals ((refine AW.retD (l := [(8, _)]) (by repeat (first | exact trivial | (refine And.intro ⟨rfl, by (exact .int _ _)⟩ ?_))) ?_; (repeat (first | refine Then.r ?_ | refine InBlk.r ?_))); exact ⟨_, rfl, rfl, rfl⟩)
end Go.Proofs.Ytajpngnphbdnnaa.Abs
namespace Go.Proofs.Ytajpngnphbdnnaa.Abs
set_option linter.unusedSimpArgs false
set_option linter.unusedVariables false
open Go.RowKit
open Go.Proofs.Ytajpngnphbdnnaa.Sim
open Go.Proofs
theorem bl82 {l r : Int} : abuild Try.prog 82 [(1, .int .i64 l), (2, .int .i64 r)] = some (.agg #[.slice none 0 0, .int .i64 l, .int .i64 r]) := by kernel_rfl
theorem el80 : elemB Try.prog 80 = some (27, 1, 24, #[.slice none 0 0]) := by kernel_rfl
theorem bs80 {m : AM} {k n c : Nat} {q : Option Addr} : abuildSlice Try.prog m k 80 1 [(0, .slice q n c)] = some (.slice (some ⟨k, 0, none⟩) 1 1, m.set k (some { cells := [.slice q n c] })) := by kernel_rfl
/-- A slice that grew one by one. -/
def Spn (M : AM) (n0 : Nat) (cv : Value) (ws : List Value) : Prop := (ws = [] ∧ cv = .slice none 0 0) ∨ (0 < ws.length ∧ ∃ s, n0 ≤ s ∧ cv = .slice (some ⟨s, 0, none⟩) ws.length ws.length ∧ M[s]? = some (some { cells := ws, kind := .grow, size := 1 }))
/-- The rows that it names. -/
def Rws (M : AM) (n0 a : Nat) (ws : List Value) (c : Nat → Nat → Int) (r : Nat) : Prop := ∀ i, i < ws.length → ∃ b, n0 ≤ b ∧ b ≠ a ∧ ws[i]? = some (.slice (some ⟨b, 0, none⟩) r r) ∧ M[b]? = some (some { cells := iv (tab (c i) r) })
theorem pre_set {m N : AM} {p : Nat} {x : Option Blk} (h : m.length ≤ p) : ∃ N', (m ++ N).set p x = m ++ N' := ⟨N.set (p - m.length) x, List.set_append_right _ _ h⟩
theorem RdL.set {M : AM} {a i o : Nat} {c : List Value} {x : Option Blk} (h : RdL M i o c) (hn : i ≠ a) : RdL (M.set a x) i o c := by
  obtain ⟨b, h1, h2⟩ := h
  exact ⟨b, by rw [List.getElem?_set_ne (Ne.symm hn)]; exact h1, h2⟩
theorem Spn.grow {M : AM} {n0 a : Nat} {cv : Value} {ws : List Value} {c : Nat → Nat → Int} {r : Nat} (h : Spn M n0 cv ws) (hr : Rws M n0 a ws c r) {b : Nat} (hb : n0 ≤ b) (hba : b ≠ a) (hrow : M[b]? = some (some { cells := iv (tab (c ws.length) r) })) (h0 : n0 ≤ M.length) :
    (ws = [] → Spn (M ++ [some { cells := [.slice (some ⟨b, 0, none⟩) r r], kind := .grow, size := 1 }]) n0 (.slice (some ⟨M.length, 0, none⟩) 1 1) [.slice (some ⟨b, 0, none⟩) r r] ∧ Rws (M ++ [some { cells := [.slice (some ⟨b, 0, none⟩) r r], kind := .grow, size := 1 }]) n0 a [.slice (some ⟨b, 0, none⟩) r r] c r) ∧
    (∀ s, cv = .slice (some ⟨s, 0, none⟩) ws.length ws.length → M[s]? = some (some { cells := ws, kind := .grow, size := 1 }) →
      Spn (M.set s none ++ [some { cells := ws ++ [.slice (some ⟨b, 0, none⟩) r r], kind := .grow, size := 1 }]) n0 (.slice (some ⟨M.length, 0, none⟩) (ws.length + 1) (ws.length + 1)) (ws ++ [.slice (some ⟨b, 0, none⟩) r r]) ∧
      Rws (M.set s none ++ [some { cells := ws ++ [.slice (some ⟨b, 0, none⟩) r r], kind := .grow, size := 1 }]) n0 a (ws ++ [.slice (some ⟨b, 0, none⟩) r r]) c r) := by
  constructor
  · rintro rfl
    refine ⟨.inr ⟨by simp, M.length, h0, rfl, by simp⟩, fun i hi => ?_⟩
    obtain rfl : i = 0 := by simp at hi; omega
    exact ⟨b, hb, hba, rfl, get_old _ hrow⟩
  · intro s hcv hs
    refine ⟨.inr ⟨by simp, M.length, h0, by simp, by rw [List.getElem?_append_right (by simp)]; simp⟩, fun i hi => ?_⟩
    have key : ∀ q (row : List Int), M[q]? = some (some ({ cells := iv row } : Blk)) → (M.set s none ++ [some ({ cells := ws ++ [.slice (some ⟨b, 0, none⟩) r r], kind := .grow, size := 1 } : Blk)])[q]? = some (some ({ cells := iv row } : Blk)) := fun q row hq => by
      refine get_old _ ?_
      rw [List.getElem?_set_ne]
      · exact hq
      · intro e
        rw [← e, hs] at hq
        injection hq with hq; injection hq with hq; injection hq with _ hk; cases hk
    simp only [List.length_append, List.length_singleton] at hi
    by_cases e : i < ws.length
    · obtain ⟨q, h1, h2, h3, h4⟩ := hr i e
      exact ⟨q, h1, h2, by rw [List.getElem?_append_left e]; exact h3, key q _ h4⟩
    · obtain rfl : i = ws.length := by omega
      exact ⟨b, hb, hba, by simp, key b _ hrow⟩
theorem Spn.old {M : AM} {n0 : Nat} {cv : Value} {ws : List Value} (L : AM) (h : Spn M n0 cv ws) : Spn (M ++ L) n0 cv ws := by
  rcases h with h | ⟨h1, s, h2, h3, h4⟩
  · exact .inl h
  · exact .inr ⟨h1, s, h2, h3, get_old L h4⟩
theorem Rws.old {M : AM} {n0 a : Nat} {ws : List Value} {c : Nat → Nat → Int} {r : Nat} (L : AM) (h : Rws M n0 a ws c r) : Rws (M ++ L) n0 a ws c r := fun i hi => by
  obtain ⟨b, h1, h2, h3, h4⟩ := h i hi
  exact ⟨b, h1, h2, h3, get_old L h4⟩
theorem Spn.set {M : AM} {n0 a : Nat} {cv : Value} {ws : List Value} {x : Option Blk} (h : Spn M n0 cv ws) (ha : ∀ s, cv = .slice (some ⟨s, 0, none⟩) ws.length ws.length → s ≠ a) : Spn (M.set a x) n0 cv ws := by
  rcases h with h | ⟨h1, s, h2, h3, h4⟩
  · exact .inl h
  · exact .inr ⟨h1, s, h2, h3, by rw [List.getElem?_set_ne (Ne.symm (ha s h3))]; exact h4⟩
theorem Rws.set {M : AM} {n0 a : Nat} {ws : List Value} {c : Nat → Nat → Int} {r : Nat} {x : Option Blk} (h : Rws M n0 a ws c r) : Rws (M.set a x) n0 a ws c r := fun i hi => by
  obtain ⟨b, h1, h2, h3, h4⟩ := h i hi
  exact ⟨b, h1, h2, h3, by rw [List.getElem?_set_ne (Ne.symm h2)]; exact h4⟩
/-- The costs of two sides. -/
def cT (u : Ru) (L R : List Gl) (i j : Nat) : Int := if i < L.length ∧ j < R.length then costF u (L.getD i default) (R.getD j default) else -1
theorem all_getD {L : List Gl} (h : L.all gB = true) {i : Nat} (hi : i < L.length) : gB (L.getD i default) = true := by
  have := List.all_eq_true.1 h (L.getD i default) (by rw [List.getD_eq_getElem?_getD, List.getElem?_eq_getElem hi]; exact List.getElem_mem hi)
  exact this
theorem cT_cs {u : Ru} {L R : List Gl} (hu : uB u = true) (hL : sB L = true) (hR : sB R = true) : Cs (cT u L R) := fun i j => by
  simp only [sB, uB, Bool.and_eq_true] at hu hL hR
  unfold cT
  split
  · rename_i h
    exact costF_bd hu.1 (all_getD hL.2 h.1) (all_getD hR.2 h.2)
  · omega
set_option maxRecDepth 100000 in
theorem costs_no {m : AM} {lv rv : Value} {u : Ru} {L R : List Gl} (hl : Gls m lv L) (hr : Gls m rv R) (h1 : L.length ≤ 100000) (h2 : R.length ≤ 100000) (hn : (sB L && sB R && uB u) = false) : ACall Try.prog 54 #[lv, rv, u.v] m (Ret (.pointer none) m) := by
  have c1 := fun T => side_ok (hl.old T) h1 rfl
  have c2 := fun T => side_ok (hr.old T) h2 rfl
  have c3 := fun T => uright_ok (m := m ++ T) u rfl
  have r0 : ∀ T : AM, RdL (m ++ (some { cells := u.cells } :: T)) (m.length + 0) 0 u.cells := fun T => RdL.new rfl rfl
  refine ACall.start Try.func54 rfl rfl ?_
  cases e1 : sB L with
  | false =>
    rw [e1] at c1
    (repeat (first | (with_reducible refine AWo.cons ?_) | ((with_reducible refine Step.id ?_); first | ((with_reducible apply Step.gdF); exact rfl; exact rfl; (focus (rfl))) | ((with_reducible apply Step.move); exact rfl; exact rfl) | ((with_reducible apply Step.assign); exact rfl; exact rfl) | ((with_reducible apply Step.not); exact rfl; exact rfl) | ((with_reducible apply Step.pickT); exact rfl; exact rfl; exact rfl; exact rfl; (focus (rfl))) | ((with_reducible apply Step.callR fit); exact rfl; exact Try.func87; exact rfl; exact rfl; exact (c1 _)) | ((with_reducible apply Step.box 0); exact rfl; exact rfl; (focus (kernel_rfl)); exact rfl; (focus (first | (simp only [List.nil_append, List.cons_append, List.set_cons_zero, List.set_cons_succ, iv_set, bv_set, iv_rep, bv_rep]; done) | (simp only [List.nil_append, List.cons_append, List.set_cons_zero, List.set_cons_succ, iv_set, bv_set, iv_rep, bv_rep]; rfl) | rfl)))) | (with_reducible refine AWo.nil ?_) | ((with_reducible apply AW.seq)) | ((with_reducible apply Then.n)) | ((with_reducible apply AW.regL)) | ((with_reducible apply AW.condT); exact rfl; (focus (rfl)))))
    (refine AW.retD (l := [(6, _)]) (by repeat (first | exact trivial | (refine And.intro ⟨rfl, by (exact Ren.of_g0 rfl)⟩ ?_))) ?_; (repeat (first | refine Then.r ?_ | refine InBlk.r ?_)))
    exact ⟨_, rfl, rfl, rfl⟩
  | true =>
    rw [e1] at c1 hn
    cases e2 : sB R with
    | false =>
      rw [e2] at c2
      (repeat (first | (with_reducible refine AWo.cons ?_) | ((with_reducible refine Step.id ?_); first | ((with_reducible apply Step.gdT); exact rfl; exact rfl; (focus (rfl))) | ((with_reducible apply Step.gdF); exact rfl; exact rfl; (focus (rfl))) | ((with_reducible apply Step.move); exact rfl; exact rfl) | ((with_reducible apply Step.assign); exact rfl; exact rfl) | ((with_reducible apply Step.not); exact rfl; exact rfl) | ((with_reducible apply Step.pickT); exact rfl; exact rfl; exact rfl; exact rfl; (focus (rfl))) | ((with_reducible apply Step.pickF); exact rfl; exact rfl; exact rfl; exact rfl; (focus (rfl))) | ((with_reducible apply Step.callR fit); exact rfl; exact Try.func87; exact rfl; exact rfl; exact (c1 _)) | ((with_reducible apply Step.callR fit); exact rfl; exact Try.func87; exact rfl; exact rfl; exact (c2 _)) | ((with_reducible apply Step.box 0); exact rfl; exact rfl; (focus (kernel_rfl)); exact rfl; (focus (first | (simp only [List.nil_append, List.cons_append, List.set_cons_zero, List.set_cons_succ, iv_set, bv_set, iv_rep, bv_rep]; done) | (simp only [List.nil_append, List.cons_append, List.set_cons_zero, List.set_cons_succ, iv_set, bv_set, iv_rep, bv_rep]; rfl) | rfl)))) | (with_reducible refine AWo.nil ?_) | ((with_reducible apply AW.seq)) | ((with_reducible apply Then.n)) | ((with_reducible apply AW.regL)) | ((with_reducible apply AW.condT); exact rfl; (focus (rfl)))))
      (refine AW.retD (l := [(6, _)]) (by repeat (first | exact trivial | (refine And.intro ⟨rfl, by (exact Ren.of_g0 rfl)⟩ ?_))) ?_; (repeat (first | refine Then.r ?_ | refine InBlk.r ?_)))
      exact ⟨_, rfl, rfl, rfl⟩
    | true =>
      rw [e2] at c2 hn
      have e3 : uB u = false := by simpa using hn
      rw [e3] at c3
      (repeat (first | (with_reducible refine AWo.cons ?_) | ((with_reducible refine Step.id ?_); first | ((with_reducible apply Step.gdT); exact rfl; exact rfl; (focus (rfl))) | ((with_reducible apply Step.move); exact rfl; exact rfl) | ((with_reducible apply Step.assign); exact rfl; exact rfl) | ((with_reducible apply Step.loadL (n := 8)); exact rfl; (focus (decide +kernel)); (focus (decide +kernel)); exact rfl; (focus (exact RdL.new rfl rfl)); exact rfl; exact rfl) | ((with_reducible apply Step.not); exact rfl; exact rfl) | ((with_reducible apply Step.pickF); exact rfl; exact rfl; exact rfl; exact rfl; (focus (rfl))) | ((with_reducible apply Step.callR fit); exact rfl; exact Try.func87; exact rfl; exact rfl; exact (c1 _)) | ((with_reducible apply Step.callR fit); exact rfl; exact Try.func87; exact rfl; exact rfl; exact (c2 _)) | ((with_reducible apply Step.callR fit); exact rfl; exact Try.func65; exact rfl; exact rfl; exact (c3 _)) | ((with_reducible apply Step.box 0); exact rfl; exact rfl; (focus (kernel_rfl)); exact rfl; (focus (first | (simp only [List.nil_append, List.cons_append, List.set_cons_zero, List.set_cons_succ, iv_set, bv_set, iv_rep, bv_rep]; done) | (simp only [List.nil_append, List.cons_append, List.set_cons_zero, List.set_cons_succ, iv_set, bv_set, iv_rep, bv_rep]; rfl) | rfl)))) | (with_reducible refine AWo.nil ?_) | ((with_reducible apply AW.seq)) | ((with_reducible apply Then.n)) | ((with_reducible apply AW.regL)) | ((with_reducible apply AW.condT); exact rfl; (focus (rfl)))))
      (refine AW.retD (l := [(6, _)]) (by repeat (first | exact trivial | (refine And.intro ⟨rfl, by (exact Ren.of_g0 rfl)⟩ ?_))) ?_; (repeat (first | refine Then.r ?_ | refine InBlk.r ?_)))
      exact ⟨_, rfl, rfl, rfl⟩
set_option maxHeartbeats 4000000 in
set_option maxRecDepth 100000 in
theorem costs_ok {m : AM} {lv rv : Value} {u : Ru} {L R : List Gl} (hl : Gls m lv L) (hr : Gls m rv R) (hL : sB L = true) (hR : sB R = true) (hu : uB u = true) : ACall Try.prog 54 #[lv, rv, u.v] m (More (fun M v => Tab M v (cT u L R) L.length R.length) m) := by
  have h1 : L.length ≤ 32 ∧ L.all gB = true := by simpa [sB] using hL
  have h2 : R.length ≤ 32 ∧ R.all gB = true := by simpa [sB] using hR
  have h3 : gB u.w = true ∧ gB u.l = true := by simpa [uB] using hu
  have c1 := fun T => side_ok (hl.old T) (by omega) hL
  have c2 := fun T => side_ok (hr.old T) (by omega) hR
  have c3 := fun T => uright_ok (m := m ++ T) u hu
  have r0 : ∀ T : AM, RdL (m ++ (some { cells := u.cells } :: T)) (m.length + 0) 0 u.cells := fun T => RdL.new rfl rfl
  obtain ⟨la, lo, l1, l2, l3⟩ := id hl
  obtain ⟨ra, ro, r1, r2, r3⟩ := id hr
  refine ACall.start Try.func54 rfl rfl ?_
  (repeat (first | (with_reducible refine AWo.cons ?_) | ((with_reducible refine Step.id ?_); first | ((with_reducible apply Step.gdT); exact rfl; exact rfl; (focus (rfl))) | ((with_reducible apply Step.move); exact rfl; exact rfl) | ((with_reducible apply Step.assign); exact rfl; exact rfl) | ((with_reducible apply Step.loadL (n := 8)); exact rfl; (focus (decide +kernel)); (focus (decide +kernel)); exact rfl; (focus (exact RdL.new rfl rfl)); exact rfl; exact rfl) | ((with_reducible apply Step.len); exact rfl; (focus (assumption)); (focus (decide +kernel)); exact rfl) | ((with_reducible apply Step.not); exact rfl; exact rfl) | ((with_reducible apply Step.pickF); exact rfl; exact rfl; exact rfl; exact rfl; (focus (rfl))) | ((with_reducible apply Step.callR fit); exact rfl; exact Try.func87; exact rfl; exact rfl; exact (c1 _)) | ((with_reducible apply Step.callR fit); exact rfl; exact Try.func87; exact rfl; exact rfl; exact (c2 _)) | ((with_reducible apply Step.callR fit); exact rfl; exact Try.func65; exact rfl; exact rfl; exact (c3 _)) | ((with_reducible apply Step.box 0); exact rfl; exact rfl; (focus (kernel_rfl)); exact rfl; (focus (first | (simp only [List.nil_append, List.cons_append, List.set_cons_zero, List.set_cons_succ, iv_set, bv_set, iv_rep, bv_rep]; done) | (simp only [List.nil_append, List.cons_append, List.set_cons_zero, List.set_cons_succ, iv_set, bv_set, iv_rep, bv_rep]; rfl) | rfl))) | ((with_reducible apply Step.box 1); exact rfl; exact rfl; (focus (kernel_rfl)); exact rfl; (focus (first | (simp only [List.nil_append, List.cons_append, List.set_cons_zero, List.set_cons_succ, iv_set, bv_set, iv_rep, bv_rep]; done) | (simp only [List.nil_append, List.cons_append, List.set_cons_zero, List.set_cons_succ, iv_set, bv_set, iv_rep, bv_rep]; rfl) | rfl))) | ((with_reducible apply Step.build); exact rfl; exact bl82; exact rfl)) | (with_reducible refine AWo.nil ?_) | ((with_reducible apply AW.seq)) | ((with_reducible apply Then.n)) | ((with_reducible apply AW.regL)) | ((with_reducible apply AW.block)) | ((with_reducible apply AW.skip)) | ((with_reducible apply AW.condF); exact rfl; (focus (rfl)))))
  clear c1 c2 c3
  refine AW.loopW (fun rk t M => ∃ (k : Nat) (N : AM) (cv : Value) (ws : List Value), rk = L.length - k ∧ k ≤ L.length ∧ M = m ++ N ∧ RdL M (m.length + 0) 0 u.cells ∧ M[m.length + 1]? = some (some { cells := [cv, .int .i64 (L.length : Nat), .int .i64 (R.length : Nat)] }) ∧
    Spn M (m.length + 2) cv ws ∧ ws.length = k ∧ Rws M (m.length + 2) (m.length + 1) ws (cT u L R) R.length ∧
    t = fr [(1, rv), (5, .pointer (some ⟨m.length + 0, 0, none⟩)), (7, .pointer (some ⟨m.length + 1, 0, none⟩)), (32, lv), (33, .int .i64 (L.length : Nat)), (34, .int .i64 (k : Nat))])
    ⟨_, _, (by repeat (first | exact trivial | (refine And.intro rfl ?_))), 0, _, _, [], rfl, Nat.zero_le _, rfl, r0 _, by rw [get_app]; rfl, .inl ⟨rfl, rfl⟩, rfl, fun i hi => by simp at hi, rfl⟩ ?_
  rintro rk t M ⟨k, N, cv, ws, rfl, hk, hM, rU, hT, hsp, hws, hrw, rfl⟩
  rcases Nat.lt_or_ge k L.length with hlt | hge
  · have hxv := all_getD h1.2 hlt
    have hML0 : m.length + 2 ≤ M.length := by have := (List.getElem?_eq_some_iff.1 hT).1; omega
    have w5 : Low M.length (.pointer (some ⟨m.length + 0, 0, none⟩)) := .ptr (by omega)
    have w7 : Low M.length (.pointer (some ⟨m.length + 1, 0, none⟩)) := .ptr (by omega)
    have wl : Low M.length lv := Low.of_sl l1 (by rw [hM]; simp; omega)
    have wr : Low M.length rv := Low.of_sl r1 (by rw [hM]; simp; omega)
    have hg0 : ∀ v ∈ (L.getD k default).cells, g0 v = true := fun v hv => g0_iv [_, _, _, _] v hv
    have rx : ∀ T, RdL (M ++ T) la (lo + k * 4) (L.getD k default).cells := fun T => by rw [hM]; exact ((l3 k hlt).old N).old T
    have ry : ∀ j, j < R.length → ∀ T, RdL (M ++ T) ra (ro + j * 4) (R.getD j default).cells := fun j hj T => by rw [hM]; exact ((r3 j hj).old N).old T
    refine AW.rebase ?_
    (repeat (first | (with_reducible refine AWo.cons ?_) | ((with_reducible refine Step.id ?_); first | ((with_reducible apply Step.move); exact rfl; exact rfl) | ((with_reducible apply Step.assign); exact rfl; exact rfl) | ((with_reducible apply Step.loadL (n := 4)); exact rfl; (focus (decide +kernel)); (focus (decide +kernel)); exact rfl; (focus (exact rx _)); exact rfl; exact rfl) | ((with_reducible apply Step.ix (s := 4)); exact rfl; (focus (assumption)); exact rfl; (focus (decide +kernel)); exact rfl; (focus (omega))) | ((with_reducible apply Step.lss); exact rfl; exact rfl; exact rfl) | ((with_reducible apply Step.len); exact rfl; (focus (assumption)); (focus (decide +kernel)); exact rfl) | ((with_reducible apply Step.alloc 0); exact rfl; exact ze33; exact rfl; (focus (first | (simp only [List.nil_append, List.cons_append, List.set_cons_zero, List.set_cons_succ, iv_set, bv_set, iv_rep, bv_rep]; done) | (simp only [List.nil_append, List.cons_append, List.set_cons_zero, List.set_cons_succ, iv_set, bv_set, iv_rep, bv_rep]; rfl) | rfl))) | ((with_reducible apply Step.storeA (k := 0) (n := 4)); exact rfl; exact rfl; exact rfl; exact rfl; (focus (decide +kernel)); exact rfl; (focus (kernel_rfl)); exact rfl; (focus (first | (simp only [List.nil_append, List.cons_append, List.set_cons_zero, List.set_cons_succ, iv_set, bv_set, iv_rep, bv_rep]; done) | (simp only [List.nil_append, List.cons_append, List.set_cons_zero, List.set_cons_succ, iv_set, bv_set, iv_rep, bv_rep]; rfl) | rfl))) | ((with_reducible apply Step.make1 1); exact rfl; exact rfl; exact rfl; exact el27; (focus (omega)); exact rfl; (focus (first | (simp only [List.nil_append, List.cons_append, List.set_cons_zero, List.set_cons_succ, iv_set, bv_set, iv_rep, bv_rep]; done) | (simp only [List.nil_append, List.cons_append, List.set_cons_zero, List.set_cons_succ, iv_set, bv_set, iv_rep, bv_rep]; rfl) | rfl)))) | (with_reducible refine AWo.nil ?_) | ((with_reducible apply AW.seq)) | ((with_reducible apply Then.n)) | ((with_reducible apply AW.regL)) | ((with_reducible apply AW.block)) | ((with_reducible apply AW.skip)) | ((with_reducible apply AW.condT); exact rfl; (focus ((simp only [decide_eq_true_eq, decide_eq_false_iff_not, Bool.not_eq_true', Bool.not_eq_false', Bool.not_true, Bool.not_false]; first | assumption | omega))))))
    refine AW.loopT (fun rk t L' => ∃ j : Nat, rk = R.length - j ∧ j ≤ R.length ∧ L' = [some { cells := (L.getD k default).cells }, some { cells := iv (tab (fun q => if q < j then cT u L R k q else 0) R.length) }] ∧
      t = [(1, rv), (5, .pointer (some ⟨m.length + 0, 0, none⟩)), (7, .pointer (some ⟨m.length + 1, 0, none⟩)), (32, lv), (33, .int .i64 (L.length : Nat)), (34, .int .i64 (k : Nat)), (9, .pointer (some ⟨M.length + 0, 0, none⟩)), (10, .slice (some ⟨M.length + 1, 0, none⟩) R.length R.length), (41, rv), (42, .int .i64 (R.length : Nat)), (43, .int .i64 (j : Nat))])
      ⟨_, _, _, (Or.inl ⟨rfl, (by repeat (first | exact trivial | (refine And.intro rfl ?_)))⟩), 0, rfl, Nat.zero_le _, by rw [tab_rep]; simp; rfl, rfl⟩ ?_
    rintro rk t L' ⟨j, rfl, hj, rfl, rfl⟩
    rcases Nat.lt_or_ge j R.length with hjl | hjg
    · have hyv := all_getD h2.2 hjl
      have hcst := fun T => cost_ok (m := M ++ T) u _ _ h3.1 h3.2 hxv hyv rfl
      have ecT : cT u L R k j = costF u (L.getD k default) (R.getD j default) := if_pos ⟨hlt, hjl⟩
      rw [← ecT] at hcst
      (repeat (first | (with_reducible refine AWo.cons ?_) | ((with_reducible refine Step.id ?_); first | ((with_reducible apply Step.move); exact rfl; exact rfl) | ((with_reducible apply Step.assign); exact rfl; exact rfl) | ((with_reducible apply Step.loadL (n := 4)); exact rfl; (focus (decide +kernel)); (focus (decide +kernel)); exact rfl; (focus (first | exact RdL.new rfl rfl | exact ry j hjl _)); exact rfl; exact rfl) | ((with_reducible apply Step.loadL (n := 8)); exact rfl; (focus (decide +kernel)); (focus (decide +kernel)); exact rfl; (focus (exact RdL.old _ (by assumption))); exact rfl; exact rfl) | ((with_reducible apply Step.ix1z); exact rfl; (focus (exact Sl.mk (by omega))); exact rfl; (focus (decide +kernel)); exact rfl; (focus (omega))) | ((with_reducible apply Step.ix (s := 4)); exact rfl; (focus (assumption)); exact rfl; (focus (decide +kernel)); exact rfl; (focus (omega))) | ((with_reducible apply Step.add); exact rfl; exact rfl; (focus (omega)); exact rfl) | ((with_reducible apply Step.lss); exact rfl; exact rfl; exact rfl) | ((with_reducible apply Step.callR fit); exact rfl; exact Try.func66; exact rfl; exact rfl; exact (hcst _)) | ((with_reducible apply Step.store (k := 1)); exact rfl; exact rfl; exact rfl; exact rfl; (focus (decide +kernel)); exact rfl; exact rfl; (focus (first | omega | (simp [iv, bv]; done) | (simp [iv, bv]; omega))); (focus (first | (simp only [List.nil_append, List.cons_append, List.set_cons_zero, List.set_cons_succ, iv_set, bv_set, iv_rep, bv_rep]; done) | (simp only [List.nil_append, List.cons_append, List.set_cons_zero, List.set_cons_succ, iv_set, bv_set, iv_rep, bv_rep]; rfl) | rfl))) | ((with_reducible apply Step.alloc 2); exact rfl; exact ze33; exact rfl; (focus (first | (simp only [List.nil_append, List.cons_append, List.set_cons_zero, List.set_cons_succ, iv_set, bv_set, iv_rep, bv_rep]; done) | (simp only [List.nil_append, List.cons_append, List.set_cons_zero, List.set_cons_succ, iv_set, bv_set, iv_rep, bv_rep]; rfl) | rfl))) | ((with_reducible apply Step.storeA (k := 2) (n := 4)); exact rfl; exact rfl; exact rfl; exact rfl; (focus (decide +kernel)); exact rfl; (focus (kernel_rfl)); exact rfl; (focus (first | (simp only [List.nil_append, List.cons_append, List.set_cons_zero, List.set_cons_succ, iv_set, bv_set, iv_rep, bv_rep]; done) | (simp only [List.nil_append, List.cons_append, List.set_cons_zero, List.set_cons_succ, iv_set, bv_set, iv_rep, bv_rep]; rfl) | rfl)))) | (with_reducible refine AWo.nil ?_) | ((with_reducible apply AW.seq)) | ((with_reducible apply Then.n)) | ((with_reducible apply AW.regL)) | ((with_reducible apply AW.block)) | ((with_reducible apply InBlk.n)) | ((with_reducible apply AW.skip)) | ((with_reducible apply AW.condT); exact rfl; (focus ((simp only [decide_eq_true_eq, decide_eq_false_iff_not, Bool.not_eq_true', Bool.not_eq_false', Bool.not_true, Bool.not_false]; first | assumption | omega))))))
      refine ⟨_, _, [some { cells := (L.getD k default).cells }, some { cells := iv (tab (Hung.up (fun q => if q < j then cT u L R k q else 0) j (cT u L R k j)) R.length) }], ?_, by rw [← tab_set]; exact (Back.trim rfl rfl (by repeat (first | exact CellsOk.nil | refine CellsOk.cons (by first | assumption | exact g0_iv _) ?_)) (by repeat (first | exact trivial | (refine And.intro ⟨rfl, by (first | exact Low.rid (by assumption) (by simp) | exact .int _ _ | exact .slice _ _ _ _ (by first | (simp; done) | omega | (simp; omega)) | exact .ptr _ _ (by first | (simp; done) | omega | (simp; omega)))⟩ ?_)))), j + 1, rfl, by omega, ?_, rfl⟩
      · omega
      · have : Hung.up (fun q => if q < j then cT u L R k q else 0) j (cT u L R k j) = fun q => if q < j + 1 then cT u L R k q else 0 := by
          funext q
          simp only [Hung.up]
          by_cases e : q = j
          · subst e; rw [if_pos rfl, if_pos (by omega)]
          · rw [if_neg e]
            by_cases d : q < j
            · rw [if_pos d, if_pos (by omega)]
            · rw [if_neg d, if_neg (by omega)]
        rw [this]
    · obtain rfl : j = R.length := by omega
      have etab : tab (fun q => if q < R.length then cT u L R k q else 0) R.length = tab (cT u L R k) R.length := tab_congr fun q hq => if_pos hq
      rw [etab]
      have rcv : ∀ T, Rd (M ++ T) (m.length + 1) 0 cv := fun T => Rd.old T (show Rd M (m.length + 1) 0 cv from ⟨_, hT, rfl⟩)
      obtain ⟨M3, hM3⟩ : ∃ M3, M ++ [some { cells := (L.getD k default).cells }, some { cells := iv (tab (cT u L R k) R.length) }, some { cells := [.slice (some ⟨M.length + 1, 0, none⟩) R.length R.length] }] = M3 := ⟨_, rfl⟩
      have g1 : M3[M.length + 1]? = some (some { cells := iv (tab (cT u L R ws.length) R.length) }) := by rw [← hM3, get_app, hws]; rfl
      have g2 : M3[M.length + 2]? = some (some { cells := [.slice (some ⟨M.length + 1, 0, none⟩) R.length R.length] }) := by rw [← hM3, get_app]; rfl
      have g3 : M3[m.length + 1]? = some (some { cells := [cv, .int .i64 (L.length : Nat), .int .i64 (R.length : Nat)] }) := by rw [← hM3]; exact get_old _ hT
      have g4 : RdL M3 (m.length + 0) 0 u.cells := by rw [← hM3]; exact rU.old _
      have s3 : Spn M3 (m.length + 2) cv ws := by rw [← hM3]; exact hsp.old _
      have w3 : Rws M3 (m.length + 2) (m.length + 1) ws (cT u L R) R.length := by rw [← hM3]; exact hrw.old _
      have l3' : M3.length = M.length + 3 := by rw [← hM3]; simp
      have p3 : ∃ N', M3 = m ++ N' := ⟨_, by rw [← hM3, hM, List.append_assoc]⟩
      have hML : m.length + 2 ≤ M.length := by have := (List.getElem?_eq_some_iff.1 hT).1; omega
      obtain ⟨G1, G2⟩ := s3.grow w3 (b := M.length + 1) (by omega) (by omega) g1 (by omega)
      rcases hsp with ⟨z1, z2⟩ | ⟨z1, sp, z2, z3, z4⟩
      · obtain ⟨y1, y2⟩ := G1 z1
        subst z1 z2
        (repeat (first | (with_reducible refine AWo.cons ?_) | ((with_reducible refine Step.id ?_); first | ((with_reducible apply Step.move); exact rfl; exact rfl) | ((with_reducible apply Step.load); exact rfl; (focus (decide +kernel)); exact rfl; (focus (exact rcv _))) | ((with_reducible apply Step.field0); exact rfl; (focus (decide +kernel)); exact rfl) | ((with_reducible apply Step.lss); exact rfl; exact rfl; exact rfl) | ((with_reducible apply Step.nilp); exact rfl; exact rfl) | ((with_reducible apply Step.buildS 2); exact rfl; exact rfl; exact (fun _ _ => bs80); exact rfl; (focus (first | (simp only [List.nil_append, List.cons_append, List.set_cons_zero, List.set_cons_succ, iv_set, bv_set, iv_rep, bv_rep]; done) | (simp only [List.nil_append, List.cons_append, List.set_cons_zero, List.set_cons_succ, iv_set, bv_set, iv_rep, bv_rep]; rfl) | rfl)))) | (with_reducible refine AWo.nil ?_) | ((with_reducible apply AW.seq)) | ((with_reducible apply Then.n)) | ((with_reducible apply AW.regL)) | ((with_reducible apply AW.exit)) | ((with_reducible apply InBlk.hit)) | ((with_reducible apply Then.e)) | ((with_reducible apply AW.condF); exact rfl; (focus ((simp only [decide_eq_true_eq, decide_eq_false_iff_not, Bool.not_eq_true', Bool.not_eq_false', Bool.not_true, Bool.not_false]; first | assumption | omega))))))
        rw [hM3]
        ((with_reducible apply Step.appN); exact rfl; exact rfl; exact el80; exact un80; exact g2; exact rfl; (focus (decide +kernel)); exact rfl)
        (repeat (first | (with_reducible refine AWo.cons ?_) | ((with_reducible refine Step.id ?_); first | ((with_reducible apply Step.field0); exact rfl; (focus (decide +kernel)); exact rfl) | ((with_reducible apply Step.nilp); exact rfl; exact rfl))))
        ((with_reducible apply Step.storeC); exact rfl; exact rfl; exact (get_old _ g3); exact rfl; (focus (decide +kernel)); exact rfl; exact rfl; (focus (simp)))
        (repeat (first | (with_reducible refine AWo.cons ?_) | ((with_reducible refine Step.id ?_); first | ((with_reducible apply Step.move); exact rfl; exact rfl) | ((with_reducible apply Step.add); exact rfl; exact rfl; (focus (omega)); exact rfl)) | (with_reducible refine AWo.nil ?_) | ((with_reducible apply Then.n)) | ((with_reducible apply AW.regL)) | ((with_reducible apply InBlk.n))))
        obtain ⟨N', hN'⟩ := p3
        obtain ⟨N2, hN2⟩ := pre_set (m := m) (N := N' ++ [some { cells := [.slice (some ⟨M.length + 1, 0, none⟩) R.length R.length], kind := .grow, size := 1 }]) (p := m.length + 1) (x := some { cells := [.slice (some ⟨M3.length, 0, none⟩) 1 1, .int .i64 (L.length : Nat), .int .i64 (R.length : Nat)] }) (by omega)
        refine ⟨_, [(1, rv), (5, .pointer (some ⟨m.length + 0, 0, none⟩)), (7, .pointer (some ⟨m.length + 1, 0, none⟩)), (32, lv), (33, .int .i64 (L.length : Nat)), (34, .int .i64 ((k + 1 : Nat) : Int))], ?_, (by repeat (first | exact trivial | (refine And.intro rfl ?_))), k + 1, N2, _, _, rfl, by omega, ?_, ?_, List.getElem?_set_self (by simp; omega), y1.set ?_, ?_, y2.set, rfl⟩
        · omega
        · rw [← hN2]
          rw [hN', List.append_assoc]; rfl
        · exact RdL.set (g4.old _) (by omega)
        · intro s' hs'
          injection hs' with hs'
          injection hs' with hs'
          injection hs' with hs'
          omega
        · simp at hws ⊢; omega
      · obtain ⟨y1, y2⟩ := G2 sp z3 (by rw [← hM3]; exact get_old _ z4)
        subst z3
        (repeat (first | (with_reducible refine AWo.cons ?_) | ((with_reducible refine Step.id ?_); first | ((with_reducible apply Step.move); exact rfl; exact rfl) | ((with_reducible apply Step.load); exact rfl; (focus (decide +kernel)); exact rfl; (focus (exact rcv _))) | ((with_reducible apply Step.field0); exact rfl; (focus (decide +kernel)); exact rfl) | ((with_reducible apply Step.lss); exact rfl; exact rfl; exact rfl) | ((with_reducible apply Step.nilp); exact rfl; exact rfl) | ((with_reducible apply Step.buildS 2); exact rfl; exact rfl; exact (fun _ _ => bs80); exact rfl; (focus (first | (simp only [List.nil_append, List.cons_append, List.set_cons_zero, List.set_cons_succ, iv_set, bv_set, iv_rep, bv_rep]; done) | (simp only [List.nil_append, List.cons_append, List.set_cons_zero, List.set_cons_succ, iv_set, bv_set, iv_rep, bv_rep]; rfl) | rfl)))) | (with_reducible refine AWo.nil ?_) | ((with_reducible apply AW.seq)) | ((with_reducible apply Then.n)) | ((with_reducible apply AW.regL)) | ((with_reducible apply AW.exit)) | ((with_reducible apply InBlk.hit)) | ((with_reducible apply Then.e)) | ((with_reducible apply AW.condF); exact rfl; (focus ((simp only [decide_eq_true_eq, decide_eq_false_iff_not, Bool.not_eq_true', Bool.not_eq_false', Bool.not_true, Bool.not_false]; first | assumption | omega))))))
        rw [hM3]
        ((with_reducible apply Step.appB); exact rfl; exact rfl; exact el80; exact un80; (focus (rw [← hM3]; exact get_old _ z4)); exact rfl; exact g2; exact rfl; (focus (omega)); exact rfl)
        have hspa : sp ≠ m.length + 1 := by omega
        have hspm : m.length ≤ sp := by omega
        (repeat (first | (with_reducible refine AWo.cons ?_) | ((with_reducible refine Step.id ?_); first | ((with_reducible apply Step.field0); exact rfl; (focus (decide +kernel)); exact rfl) | ((with_reducible apply Step.nilp); exact rfl; exact rfl))))
        ((with_reducible apply Step.storeC); exact rfl; exact rfl; exact (get_old _ (show (M3.set sp none)[m.length + 1]? = some (some { cells := [.slice (some ⟨sp, 0, none⟩) ws.length ws.length, .int .i64 (L.length : Nat), .int .i64 (R.length : Nat)] }) by rw [List.getElem?_set_ne hspa]; exact g3)); exact rfl; (focus (decide +kernel)); exact rfl; exact rfl; (focus (simp)))
        (repeat (first | (with_reducible refine AWo.cons ?_) | ((with_reducible refine Step.id ?_); first | ((with_reducible apply Step.move); exact rfl; exact rfl) | ((with_reducible apply Step.add); exact rfl; exact rfl; (focus (omega)); exact rfl)) | (with_reducible refine AWo.nil ?_) | ((with_reducible apply Then.n)) | ((with_reducible apply AW.regL)) | ((with_reducible apply InBlk.n))))
        obtain ⟨N', hN'⟩ := p3
        obtain ⟨N2, hN2⟩ := pre_set (m := m) (N := N'.set (sp - m.length) none ++ [some { cells := ws ++ [.slice (some ⟨M.length + 1, 0, none⟩) R.length R.length], kind := .grow, size := 1 }]) (p := m.length + 1) (x := some { cells := [.slice (some ⟨M3.length, 0, none⟩) (ws.length + 1) (ws.length + 1), .int .i64 (L.length : Nat), .int .i64 (R.length : Nat)] }) (by omega)
        refine ⟨_, [(1, rv), (5, .pointer (some ⟨m.length + 0, 0, none⟩)), (7, .pointer (some ⟨m.length + 1, 0, none⟩)), (32, lv), (33, .int .i64 (L.length : Nat)), (34, .int .i64 ((k + 1 : Nat) : Int))], ?_, (by repeat (first | exact trivial | (refine And.intro rfl ?_))), k + 1, N2, _, _, rfl, by omega, ?_, ?_, List.getElem?_set_self (by simp; omega), y1.set ?_, ?_, y2.set, rfl⟩
        · omega
        · rw [← hN2]
          rw [hN', ← List.append_assoc, ← List.set_append_right _ _ hspm]; rfl
        · exact RdL.set ((g4.set (by omega)).old _) (by omega)
        · intro s' hs'
          injection hs' with hs'
          injection hs' with hs'
          injection hs' with hs'
          omega
        · simp at hws ⊢; omega
  · obtain rfl : k = L.length := by omega
    (repeat (first | (with_reducible refine AWo.cons ?_) | ((with_reducible refine Step.id ?_); first | ((with_reducible apply Step.move); exact rfl; exact rfl) | ((with_reducible apply Step.assign); exact rfl; exact rfl) | ((with_reducible apply Step.lss); exact rfl; exact rfl; exact rfl)) | (with_reducible refine AWo.nil ?_) | ((with_reducible apply AW.seq)) | ((with_reducible apply Then.n)) | ((with_reducible apply AW.regL)) | ((with_reducible apply AW.exit)) | ((with_reducible apply InBlk.hit)) | ((with_reducible apply Then.e)) | ((with_reducible apply AW.condF); exact rfl; (focus ((simp only [decide_eq_true_eq, decide_eq_false_iff_not, Bool.not_eq_true', Bool.not_eq_false', Bool.not_true, Bool.not_false]; first | assumption | omega))))))
    (refine AW.ret ?_; (repeat (first | refine Then.r ?_ | refine InBlk.r ?_)))
    have hal : m.length + 1 < M.length := (List.getElem?_eq_some_iff.1 hT).1
    rcases hsp with ⟨z1, z2⟩ | ⟨z1, sp, z2, z3, z4⟩
    · refine ⟨_, rfl, N, hM, m.length + 1, cv, 0, 0, rfl, hal, ⟨_, hT, rfl⟩, ⟨_, hT, rfl⟩, ⟨_, hT, rfl⟩, ?_, by omega, fun i hi => ?_⟩
      · rw [z2, ← hws, z1]; exact Sl.nil _ _
      · rw [z1] at hws; simp at hws; omega
    · refine ⟨_, rfl, N, hM, m.length + 1, cv, sp, 0, rfl, hal, ⟨_, hT, rfl⟩, ⟨_, hT, rfl⟩, ⟨_, hT, rfl⟩, ?_, (List.getElem?_eq_some_iff.1 z4).1, fun i hi => ?_⟩
      · rw [z3, hws]; exact Sl.mk (Nat.le_refl _)
      · obtain ⟨b, b1, b2, b3, b4⟩ := hrw i (by omega)
        exact ⟨_, ⟨_, z4, by rw [Nat.zero_add]; exact b3⟩, ints_at b4 rfl _ (by simp)⟩
end Go.Proofs.Ytajpngnphbdnnaa.Abs
namespace Go.Proofs.Ytajpngnphbdnnaa.Abs
set_option linter.unusedSimpArgs false
set_option linter.unusedVariables false
open Go.RowKit
open Go.Proofs.Ytajpngnphbdnnaa.Sim
open Go.Proofs
open Hung
theorem ze108 : zeroB Try.prog 108 = some #[.nilFunc] := by kernel_rfl
theorem up_cast (f : Nat → Nat) (k x : Nat) : Hung.up (fun i => ((f i : Nat) : Int)) k (x : Int) = fun i => ((Hung.up f k x i : Nat) : Int) := by
  funext i; unfold Hung.up; split <;> rfl
theorem Best.congr {w w' : Nat → Nat → Int} {l r : Nat} {a b : Nat → Int} {x : Int} (h : Best w l r a b x) (hw : ∀ i q, i < l → q < r → w i q = w' i q) : Best w' l r a b x := by
  obtain ⟨⟨h1, h2, h3⟩, h4, ⟨p, p1, p2⟩, h6, h7⟩ := h
  refine ⟨⟨h1, h2, fun i q hi hq => by rw [← hw i q hi hq]; exact h3 i q hi hq⟩, h4, ⟨p, p1, ?_⟩, h6, h7⟩
  rw [← p2]
  refine sN_congr fun i hi => ?_
  by_cases hq : p i < r
  · simp only [if_pos hq]; exact (hw i _ hi hq).symm
  · simp only [if_neg hq]
/-- The columns taken are few. -/
theorem Iv.len {loss : Nat → Nat → Int} {n i : Nat} {V0 : Int} {u v : Nat → Int} {row way : Nat → Nat} {least : Nat → Int} {used : Nat → Bool} {j : Nat} {rest : List Nat} (h : Iv loss n i V0 u v row way least used j rest) : rest.length ≤ n := by
  have key : ∀ l, Ch loss u v row way l → l.Nodup := fun l hl => by
    induction hl with
    | base => simp
    | step k l _ _ _ _ hk _ ih => exact List.nodup_cons.2 ⟨hk, ih⟩
  have := nodup_le (key _ h.ch) (k := List.range (n + 1)) fun x hx => by
    rcases List.mem_cons.1 hx with rfl | hx
    · have := h.jn; simp; omega
    · have := (h.rn x hx).1; simp; omega
  simp at this; omega
section
variable {d least u v : Nat → Int} {used : Nat → Bool} {way row : Nat → Nat} {j k n : Nat} {dl : Int}
theorem lS_zero : lS d least used 0 = least := by funext x; exact if_neg fun h => by have := h.1; have := h.2.1; omega
theorem wS_zero : wS d least used j way 0 = way := by funext x; exact if_neg fun h => by have := h.1; have := h.2.1; omega
theorem lS_hit (hu : used (k + 1) = false) (h : d (k + 1) < least (k + 1)) : up (lS d least used k) (k + 1) (d (k + 1)) = lS d least used (k + 1) := by
  funext x
  simp only [up, lS]
  by_cases e : x = k + 1
  · subst e; rw [if_pos rfl, if_pos (show tk d least used (k + 1) (k + 1) from ⟨by omega, by omega, hu, h⟩)]
  · rw [if_neg e]
    by_cases c : tk d least used k x
    · rw [if_pos c, if_pos (show tk d least used (k + 1) x from ⟨c.1, by have := c.2.1; omega, c.2.2⟩)]
    · rw [if_neg c, if_neg (show ¬ tk d least used (k + 1) x from fun q => c ⟨q.1, by have := q.2.1; omega, q.2.2⟩)]
theorem wS_hit (hu : used (k + 1) = false) (h : d (k + 1) < least (k + 1)) : up (wS d least used j way k) (k + 1) j = wS d least used j way (k + 1) := by
  funext x
  simp only [up, wS]
  by_cases e : x = k + 1
  · subst e; rw [if_pos rfl, if_pos (show tk d least used (k + 1) (k + 1) from ⟨by omega, by omega, hu, h⟩)]
  · rw [if_neg e]
    by_cases c : tk d least used k x
    · rw [if_pos c, if_pos (show tk d least used (k + 1) x from ⟨c.1, by have := c.2.1; omega, c.2.2⟩)]
    · rw [if_neg c, if_neg (show ¬ tk d least used (k + 1) x from fun q => c ⟨q.1, by have := q.2.1; omega, q.2.2⟩)]
theorem lS_miss (h : ¬ (used (k + 1) = false ∧ d (k + 1) < least (k + 1))) : lS d least used (k + 1) = lS d least used k := by
  funext x
  simp only [lS]
  by_cases c : tk d least used k x
  · rw [if_pos c, if_pos (show tk d least used (k + 1) x from ⟨c.1, by have := c.2.1; omega, c.2.2⟩)]
  · rw [if_neg c, if_neg (show ¬ tk d least used (k + 1) x from fun q => by
      by_cases e : x = k + 1
      · subst e; exact h q.2.2
      · exact c ⟨q.1, by have := q.2.1; omega, q.2.2⟩)]
theorem wS_miss (h : ¬ (used (k + 1) = false ∧ d (k + 1) < least (k + 1))) : wS d least used j way (k + 1) = wS d least used j way k := by
  funext x
  simp only [wS]
  by_cases c : tk d least used k x
  · rw [if_pos c, if_pos (show tk d least used (k + 1) x from ⟨c.1, by have := c.2.1; omega, c.2.2⟩)]
  · rw [if_neg c, if_neg (show ¬ tk d least used (k + 1) x from fun q => by
      by_cases e : x = k + 1
      · subst e; exact h q.2.2
      · exact c ⟨q.1, by have := q.2.1; omega, q.2.2⟩)]
theorem lS_next : lS d least used k (k + 1) = least (k + 1) := if_neg fun h => by have := h.2.1; omega
theorem lS_at {x : Nat} (h : x ≤ k) (hk : k ≤ n) : lS d least used n x = lS d least used k x := by
  simp only [lS]
  by_cases c : tk d least used k x
  · rw [if_pos c, if_pos (show tk d least used n x from ⟨c.1, by have := c.2.1; omega, c.2.2⟩)]
  · rw [if_neg c, if_neg (show ¬ tk d least used n x from fun q => c ⟨q.1, h, q.2.2⟩)]
theorem dS_yes {L : Nat → Int} (hu : used (k + 1) = false) (h : L (k + 1) < (dS L used k).1) : dS L used (k + 1) = (L (k + 1), k + 1) := if_pos ⟨hu, h⟩
theorem dS_no {L : Nat → Int} (h : ¬ (used (k + 1) = false ∧ L (k + 1) < (dS L used k).1)) : dS L used (k + 1) = dS L used k := if_neg h
theorem uU_zero : uU u row used dl 0 = u := by funext x; exact if_neg fun h => by obtain ⟨c, h, _⟩ := inU_iff.1 h; omega
theorem vU_zero : vU v used dl 0 = v := by funext x; exact if_neg fun h => by have := h.1; omega
theorem lU_zero : lU v used dl 0 = v := by funext x; exact if_neg fun h => by have := h.1; omega
theorem uU_at (hu : ∀ c, c < k → used c = true → row c ≠ row k) : uU u row used dl k (row k) = u (row k) := if_neg fun h => by
  obtain ⟨c, h1, h2, h3⟩ := inU_iff.1 h
  exact hu c h1 h2 h3
theorem uU_yes (hu : used k = true) : up (uU u row used dl k) (row k) (u (row k) + dl) = uU u row used dl (k + 1) := by
  funext x
  simp only [up, uU, inU_iff]
  by_cases e : x = row k
  · subst e; rw [if_pos rfl, if_pos ⟨k, by omega, hu, rfl⟩]
  · rw [if_neg e]
    by_cases c : ∃ c, c < k ∧ used c = true ∧ row c = x
    · obtain ⟨c, c1, c2, c3⟩ := c
      rw [if_pos ⟨c, c1, c2, c3⟩, if_pos ⟨c, by omega, c2, c3⟩]
    · rw [if_neg c, if_neg fun ⟨q, q1, q2, q3⟩ => by
        by_cases e' : q = k
        · subst e'; exact e q3.symm
        · exact c ⟨q, by omega, q2, q3⟩]
theorem uU_no (hu : used k = false) : uU u row used dl (k + 1) = uU u row used dl k := by
  funext x
  simp only [uU, inU_iff]
  by_cases c : ∃ c, c < k ∧ used c = true ∧ row c = x
  · obtain ⟨c, c1, c2, c3⟩ := c
    rw [if_pos ⟨c, by omega, c2, c3⟩, if_pos ⟨c, c1, c2, c3⟩]
  · rw [if_neg c, if_neg fun ⟨q, q1, q2, q3⟩ => by
      by_cases e' : q = k
      · subst e'; rw [hu] at q2; cases q2
      · exact c ⟨q, by omega, q2, q3⟩]
theorem vU_at : vU v used dl k k = v k := if_neg fun h => by omega
theorem lU_at : lU v used dl k k = v k := if_neg fun h => by omega
theorem vU_yes (hu : used k = true) : up (vU v used dl k) k (v k - dl) = vU v used dl (k + 1) := by
  funext x
  simp only [up, vU]
  by_cases e : x = k
  · subst e; rw [if_pos rfl, if_pos ⟨by omega, hu⟩]
  · rw [if_neg e]
    by_cases c : x < k ∧ used x = true
    · rw [if_pos c, if_pos ⟨by omega, c.2⟩]
    · rw [if_neg c, if_neg fun q => c ⟨by omega, q.2⟩]
theorem vU_no (hu : used k = false) : vU v used dl (k + 1) = vU v used dl k := by
  funext x
  simp only [vU]
  by_cases c : x < k ∧ used x = true
  · rw [if_pos c, if_pos ⟨by omega, c.2⟩]
  · rw [if_neg c, if_neg fun q => by
      by_cases e : x = k
      · subst e; rw [hu] at q; cases q.2
      · exact c ⟨by omega, q.2⟩]
theorem lU_yes (hu : used k = false) : up (lU v used dl k) k (v k - dl) = lU v used dl (k + 1) := by
  funext x
  simp only [up, lU]
  by_cases e : x = k
  · subst e; rw [if_pos rfl, if_pos ⟨by omega, hu⟩]
  · rw [if_neg e]
    by_cases c : x < k ∧ used x = false
    · rw [if_pos c, if_pos ⟨by omega, c.2⟩]
    · rw [if_neg c, if_neg fun q => c ⟨by omega, q.2⟩]
theorem lU_no (hu : used k = true) : lU v used dl (k + 1) = lU v used dl k := by
  funext x
  simp only [lU]
  by_cases c : x < k ∧ used x = false
  · rw [if_pos c, if_pos ⟨by omega, c.2⟩]
  · rw [if_neg c, if_neg fun q => by
      by_cases e : x = k
      · subst e; rw [hu] at q; cases q.2
      · exact c ⟨by omega, q.2⟩]
end
section
variable {M T : AM} {N k : Nat} {b0 b1 b2 b3 b4 : Option Blk}
theorem rt0 (f : Nat → Int) (hk : k < N) : Rd (M ++ (some { cells := iv (tab f N) } :: T)) (M.length + 0) k (.int .i64 (f k)) := by rw [← tab_get f hk]; exact Rd.new rfl (iv_get (by simp; omega))
theorem rt1 (f : Nat → Int) (hk : k < N) : Rd (M ++ (b0 :: some { cells := iv (tab f N) } :: T)) (M.length + 1) k (.int .i64 (f k)) := by rw [← tab_get f hk]; exact Rd.new rfl (iv_get (by simp; omega))
theorem rt2 (f : Nat → Int) (hk : k < N) : Rd (M ++ (b0 :: b1 :: some { cells := iv (tab f N) } :: T)) (M.length + 2) k (.int .i64 (f k)) := by rw [← tab_get f hk]; exact Rd.new rfl (iv_get (by simp; omega))
theorem rt3 (f : Nat → Int) (hk : k < N) : Rd (M ++ (b0 :: b1 :: b2 :: some { cells := iv (tab f N) } :: T)) (M.length + 3) k (.int .i64 (f k)) := by rw [← tab_get f hk]; exact Rd.new rfl (iv_get (by simp; omega))
theorem rt4 (f : Nat → Int) (hk : k < N) : Rd (M ++ (b0 :: b1 :: b2 :: b3 :: some { cells := iv (tab f N) } :: T)) (M.length + 4) k (.int .i64 (f k)) := by rw [← tab_get f hk]; exact Rd.new rfl (iv_get (by simp; omega))
theorem rt5 (f : Nat → Bool) (hk : k < N) : Rd (M ++ (b0 :: b1 :: b2 :: b3 :: b4 :: some { cells := bv (tabB f N) } :: T)) (M.length + 5) k (.bool (f k)) := by rw [← tabB_get f hk]; exact Rd.new rfl (bv_get (by simp; omega))
end
theorem loss_w {c : Nat → Nat → Int} {l r : Nat} {L R : List Nat} (hl32 : l ≤ 32) (hr32 : r ≤ 32) (iL : ∀ x ∈ L, x < l) (iR : ∀ x ∈ R, x < r) (x y : Nat) : lossN c l r L R (x + 1) (y + 1) = -(if x < L.length ∧ y < R.length then wo c (L.getD x 0) (R.getD y 0) else 0) := by
  simp only [lossN, Nat.add_sub_cancel, wv, atN]
  by_cases h1 : x < L.length
  · by_cases h2 : y < R.length
    · have := iL _ (getD_mem' h1)
      have := iR _ (getD_mem' h2)
      rw [if_pos h1, if_pos h2, if_pos ⟨by assumption, by assumption⟩, if_pos ⟨h1, h2⟩]
    · rw [if_neg h2, if_neg (by omega), if_neg (by omega)]
  · rw [if_neg h1, if_neg (by omega), if_neg (by omega)]
/-- What the search comes to, the prices moved. -/
theorem Ov.fin {c : Nat → Nat → Int} {l r n : Nat} {L R : List Nat} {u v : Nat → Int} {row : Nat → Nat} (hc : Cs c) (hl32 : l ≤ 32) (hr32 : r ≤ 32) (iL : ∀ x ∈ L, x < l) (iR : ∀ x ∈ R, x < r) (hn : n + 1 = max L.length R.length) (ov : Ov (lossN c l r L R) (n + 1) (n + 1 + 1) u v row) :
    Best (fun i q => wo c (L.getD i 0) (R.getD q 0)) L.length R.length (fun x => -u (x + 1) + minF (fun x => -v (x + 1)) n) (fun x => -v (x + 1) - minF (fun x => -v (x + 1)) n) (sN (fun k => -lossN c l r L R (row (k + 1)) (k + 1)) (n + 1)) := by
  refine Best.congr (w := fun i q => if i < L.length ∧ q < R.length then wo c (L.getD i 0) (R.getD q 0) else 0) (ov.best (fun x y _ _ => loss_w hl32 hr32 iL iR x y) (fun x y _ _ => ?_) (by omega) (by omega) (fun x y _ _ h => if_neg (by omega)) ?_ fun q hq => minF_le (fun x => -v (x + 1)) (by omega)) fun i q hi hq => if_pos ⟨hi, hq⟩
  · have := wo_bd hc (L.getD x 0) (R.getD y 0)
    split <;> omega
  · obtain ⟨k, h1, h2⟩ := minF_at (fun x => -v (x + 1)) n
    exact ⟨k, by omega, h2⟩
theorem Best.none {w : Nat → Nat → Int} {a b : Nat → Int} : Best w 0 0 a b 0 :=
  ⟨⟨fun i hi => by omega, fun q hq => by omega, fun i q hi => by omega⟩, rfl, ⟨fun _ => 0, fun i i' hi => by omega, rfl⟩, fun q hq => by omega, fun q hq => by omega⟩
set_option maxHeartbeats 8000000 in
set_option maxRecDepth 100000 in
theorem assign_ok {m : AM} {tv lv rv : Value} {c : Nat → Nat → Int} {l r : Nat} {L R : List Nat} (ht : Tab m tv c l r) (hc : Cs c) (hl32 : l ≤ 32) (hr32 : r ≤ 32) (hL : Ints m lv (nats L)) (hR : Ints m rv (nats R)) (lL : L.length ≤ 32) (lR : R.length ≤ 32) (iL : ∀ x ∈ L, x < l) (iR : ∀ x ∈ R, x < r) :
    ACall Try.prog 56 #[tv, lv, rv] m (More (fun M v => ∃ (va vb : Value) (a b : Nat → Int) (best : Int), v = .tuple #[.int .i64 best, va, vb] ∧ Best (fun i q => wo c (L.getD i 0) (R.getD q 0)) L.length R.length a b best ∧ Ints M va (tab a L.length) ∧ Ints M vb (tab b R.length)) m) := by
  obtain ⟨la, lo, l1, l2, l3⟩ := id hL
  obtain ⟨ra, ro, r1, r2, r3⟩ := id hR
  have hlc := l1.cells
  have hrc := r1.cells
  rw [nats_len] at l1 r1
  obtain ⟨n, hn⟩ : ∃ n : Nat, n = max L.length R.length := ⟨_, rfl⟩
  have hnI : max ((L.length : Nat) : Int) ((R.length : Nat) : Int) = ((n : Nat) : Int) := by omega
  have htc : tv.cells = #[tv] ∧ tv.oneCell' = true := by obtain ⟨ta, tcv, tb, to, rfl, _⟩ := id ht; exact ⟨rfl, rfl⟩
  refine ACall.start Try.func56 rfl rfl ?_
  (repeat (first | (with_reducible refine AWo.cons ?_) | ((with_reducible refine Step.id ?_); first | ((with_reducible apply Step.assign); exact rfl; exact rfl) | ((with_reducible apply Step.load); exact rfl; (focus (decide +kernel)); exact rfl; (focus (exact Rd.new rfl rfl))) | ((with_reducible apply Step.len); exact rfl; (focus (assumption)); (focus (decide +kernel)); exact rfl) | ((with_reducible apply Step.max); exact rfl; exact rfl; exact rfl) | ((with_reducible apply Step.boxV 0); exact rfl; exact rfl; (focus (assumption)); exact rfl; (focus (first | (simp only [List.nil_append, List.cons_append, List.set_cons_zero, List.set_cons_succ, iv_set, bv_set, iv_rep, bv_rep]; done) | (simp only [List.nil_append, List.cons_append, List.set_cons_zero, List.set_cons_succ, iv_set, bv_set, iv_rep, bv_rep]; rfl) | rfl))) | ((with_reducible apply Step.boxV 1); exact rfl; exact rfl; (focus (assumption)); exact rfl; (focus (first | (simp only [List.nil_append, List.cons_append, List.set_cons_zero, List.set_cons_succ, iv_set, bv_set, iv_rep, bv_rep]; done) | (simp only [List.nil_append, List.cons_append, List.set_cons_zero, List.set_cons_succ, iv_set, bv_set, iv_rep, bv_rep]; rfl) | rfl))) | ((with_reducible apply Step.boxV 2); exact rfl; exact rfl; (focus (assumption)); exact rfl; (focus (first | (simp only [List.nil_append, List.cons_append, List.set_cons_zero, List.set_cons_succ, iv_set, bv_set, iv_rep, bv_rep]; done) | (simp only [List.nil_append, List.cons_append, List.set_cons_zero, List.set_cons_succ, iv_set, bv_set, iv_rep, bv_rep]; rfl) | rfl)))) | (with_reducible refine AWo.nil ?_) | ((fail_if_success (with_reducible refine AW.atR (id := 2) ?_)); ((with_reducible apply AW.seq))) | ((with_reducible apply Then.n)) | ((with_reducible apply AW.regL))))
  rw [hnI]
  (repeat (first | (with_reducible refine AWo.cons ?_) | ((with_reducible refine Step.id ?_); first | ((with_reducible apply Step.assign); exact rfl; exact rfl) | ((with_reducible apply Step.fn); exact rfl; exact rfl; exact rfl) | ((with_reducible apply Step.alloc 3); exact rfl; exact ze108; exact rfl; (focus (first | (simp only [List.nil_append, List.cons_append, List.set_cons_zero, List.set_cons_succ, iv_set, bv_set, iv_rep, bv_rep]; done) | (simp only [List.nil_append, List.cons_append, List.set_cons_zero, List.set_cons_succ, iv_set, bv_set, iv_rep, bv_rep]; rfl) | rfl))) | ((with_reducible apply Step.store (k := 3)); exact rfl; exact rfl; exact rfl; exact rfl; (focus (decide +kernel)); exact rfl; exact rfl; (focus (first | omega | (simp [iv, bv]; done) | (simp [iv, bv]; omega))); (focus (first | (simp only [List.nil_append, List.cons_append, List.set_cons_zero, List.set_cons_succ, iv_set, bv_set, iv_rep, bv_rep]; done) | (simp only [List.nil_append, List.cons_append, List.set_cons_zero, List.set_cons_succ, iv_set, bv_set, iv_rep, bv_rep]; rfl) | rfl)))) | (with_reducible refine AWo.nil ?_) | ((fail_if_success (with_reducible refine AW.atR (id := 4) ?_)); ((with_reducible apply AW.seq))) | ((with_reducible apply Then.n)) | ((with_reducible apply AW.regL))))
  refine AW.rebase ?_
  have ht' := ht.old [some { cells := [tv] }, some { cells := [lv] }, some { cells := [rv] }, some { cells := [.func (.func 88) #[] #[]] }]
  have hL' := hL.old [some { cells := [tv] }, some { cells := [lv] }, some { cells := [rv] }, some { cells := [.func (.func 88) #[] #[]] }]
  have hR' := hR.old [some { cells := [tv] }, some { cells := [lv] }, some { cells := [rv] }, some { cells := [.func (.func 88) #[] #[]] }]
  have q3 : Rd (m ++ [some { cells := [tv] }, some { cells := [lv] }, some { cells := [rv] }, some { cells := [.func (.func 88) #[] #[]] }]) (m.length + 0) 0 tv := Rd.new rfl rfl
  have q4 : Rd (m ++ [some { cells := [tv] }, some { cells := [lv] }, some { cells := [rv] }, some { cells := [.func (.func 88) #[] #[]] }]) (m.length + 1) 0 lv := Rd.new rfl rfl
  have q5 : Rd (m ++ [some { cells := [tv] }, some { cells := [lv] }, some { cells := [rv] }, some { cells := [.func (.func 88) #[] #[]] }]) (m.length + 2) 0 rv := Rd.new rfl rfl
  have q10 : Rd (m ++ [some { cells := [tv] }, some { cells := [lv] }, some { cells := [rv] }, some { cells := [.func (.func 88) #[] #[]] }]) (m.length + 3) 0 (.func (.func 88) #[] #[]) := Rd.new rfl rfl
  obtain ⟨M, hM⟩ : ∃ M, m ++ [some { cells := [tv] }, some { cells := [lv] }, some { cells := [rv] }, some { cells := [.func (.func 88) #[] #[]] }] = M := ⟨_, rfl⟩
  have hMl : M.length = m.length + 4 := by rw [← hM]; simp
  have hMN : ∃ N, M = m ++ N := ⟨_, hM.symm⟩
  rw [hM] at ht' hL' hR' q3 q4 q5 q10 ⊢
  clear hM
  generalize hx3 : m.length + 0 = x3 at *
  generalize hx4 : m.length + 1 = x4 at *
  generalize hx5 : m.length + 2 = x5 at *
  generalize hx10 : m.length + 3 = x10 at *
  have b3 : x3 < M.length := by omega
  have b4 : x4 < M.length := by omega
  have b5 : x5 < M.length := by omega
  have b10 : x10 < M.length := by omega
  clear hx3 hx4 hx5 hx10 hMl
  have w4 : Low M.length (.pointer (some ⟨x4, 0, none⟩)) := .ptr b4
  have w5 : Low M.length (.pointer (some ⟨x5, 0, none⟩)) := .ptr b5
  have w11 : Low M.length (.func (.func 89) #[] #[.pointer (some ⟨x3, 0, none⟩), .pointer (some ⟨x10, 0, none⟩), .pointer (some ⟨x4, 0, none⟩), .pointer (some ⟨x5, 0, none⟩)]) := Low.func (c := [_, _, _, _]) fun v hv => by
    simp only [List.mem_cons, List.not_mem_nil, or_false] at hv
    rcases hv with rfl | rfl | rfl | rfl
    · exact .ptr b3
    · exact .ptr b10
    · exact w4
    · exact w5
  have e1 : ((n : Nat) : Int) + 1 = ((n + 1 : Nat) : Int) := by omega
  refine AW.joinG (fr [(4, .pointer (some ⟨x4, 0, none⟩)), (5, .pointer (some ⟨x5, 0, none⟩)), (6, .int .i64 0), (9, .int .i64 (n : Nat)), (11, .func (.func 89) #[] #[.pointer (some ⟨x3, 0, none⟩), .pointer (some ⟨x10, 0, none⟩), .pointer (some ⟨x4, 0, none⟩), .pointer (some ⟨x5, 0, none⟩)]),
    (12, .slice (some ⟨M.length + 0, 0, none⟩) (n + 1) (n + 1)), (13, .slice (some ⟨M.length + 1, 0, none⟩) (n + 1) (n + 1)), (14, .slice (some ⟨M.length + 2, 0, none⟩) (n + 1) (n + 1)), (15, .slice (some ⟨M.length + 3, 0, none⟩) (n + 1) (n + 1))])
    (M ++ [some { cells := iv (List.replicate (n + 1) 0) }, some { cells := iv (List.replicate (n + 1) 0) }, some { cells := iv (List.replicate (n + 1) 0) }, some { cells := iv (List.replicate (n + 1) 0) }]) ?_ ?_
  · (repeat' (first | ((with_reducible refine Step.id ?_); first | ((with_reducible apply Step.move); exact rfl; exact rfl) | ((with_reducible apply Step.assign); exact rfl; exact rfl) | ((with_reducible apply Step.addE); exact rfl; exact rfl; (focus (assumption)); (focus (omega)); exact rfl) | ((with_reducible apply Step.make1 0); exact rfl; exact rfl; exact rfl; exact el27; (focus (omega)); exact rfl; (focus (first | (simp only [List.nil_append, List.cons_append, List.set_cons_zero, List.set_cons_succ, iv_set, bv_set, iv_rep, bv_rep]; done) | (simp only [List.nil_append, List.cons_append, List.set_cons_zero, List.set_cons_succ, iv_set, bv_set, iv_rep, bv_rep]; rfl) | rfl))) | ((with_reducible apply Step.make1 1); exact rfl; exact rfl; exact rfl; exact el27; (focus (omega)); exact rfl; (focus (first | (simp only [List.nil_append, List.cons_append, List.set_cons_zero, List.set_cons_succ, iv_set, bv_set, iv_rep, bv_rep]; done) | (simp only [List.nil_append, List.cons_append, List.set_cons_zero, List.set_cons_succ, iv_set, bv_set, iv_rep, bv_rep]; rfl) | rfl))) | ((with_reducible apply Step.make1 2); exact rfl; exact rfl; exact rfl; exact el27; (focus (omega)); exact rfl; (focus (first | (simp only [List.nil_append, List.cons_append, List.set_cons_zero, List.set_cons_succ, iv_set, bv_set, iv_rep, bv_rep]; done) | (simp only [List.nil_append, List.cons_append, List.set_cons_zero, List.set_cons_succ, iv_set, bv_set, iv_rep, bv_rep]; rfl) | rfl))) | ((with_reducible apply Step.make1 3); exact rfl; exact rfl; exact rfl; exact el27; (focus (omega)); exact rfl; (focus (first | (simp only [List.nil_append, List.cons_append, List.set_cons_zero, List.set_cons_succ, iv_set, bv_set, iv_rep, bv_rep]; done) | (simp only [List.nil_append, List.cons_append, List.set_cons_zero, List.set_cons_succ, iv_set, bv_set, iv_rep, bv_rep]; rfl) | rfl)))) | ((with_reducible apply Then.n)) | ((with_reducible apply AW.drawT fit (T := (.step 0 (.step 1 (.step 3 (.step 4 (.step 6 (.step 7 (.step 9 (.step 10 (.both (.step 2 (.step 12 (.both (.step 5 (.step 13 (.both (.step 8 (.step 14 (.step 11 (.step 15 .done)))) (.step 11 (.step 8 (.step 14 (.step 15 .done))))))) (.both (.step 8 (.both (.step 5 (.step 13 (.step 14 (.step 11 (.step 15 .done))))) (.step 11 (.step 5 (.step 13 (.step 14 (.step 15 .done))))))) (.step 11 (.both (.step 5 (.step 13 (.step 8 (.step 14 (.step 15 .done))))) (.step 8 (.step 5 (.step 13 (.step 14 (.step 15 .done))))))))))) (.both (.step 5 (.both (.step 2 (.step 12 (.step 13 (.both (.step 8 (.step 14 (.step 11 (.step 15 .done)))) (.step 11 (.step 8 (.step 14 (.step 15 .done)))))))) (.both (.step 8 (.both (.step 2 (.step 12 (.step 13 (.step 14 (.step 11 (.step 15 .done)))))) (.step 11 (.step 2 (.step 12 (.step 13 (.step 14 (.step 15 .done)))))))) (.step 11 (.both (.step 2 (.step 12 (.step 13 (.step 8 (.step 14 (.step 15 .done)))))) (.step 8 (.step 2 (.step 12 (.step 13 (.step 14 (.step 15 .done))))))))))) (.both (.step 8 (.both (.step 2 (.step 12 (.both (.step 5 (.step 13 (.step 14 (.step 11 (.step 15 .done))))) (.step 11 (.step 5 (.step 13 (.step 14 (.step 15 .done)))))))) (.both (.step 5 (.both (.step 2 (.step 12 (.step 13 (.step 14 (.step 11 (.step 15 .done)))))) (.step 11 (.step 2 (.step 12 (.step 13 (.step 14 (.step 15 .done)))))))) (.step 11 (.both (.step 2 (.step 12 (.step 5 (.step 13 (.step 14 (.step 15 .done)))))) (.step 5 (.step 2 (.step 12 (.step 13 (.step 14 (.step 15 .done))))))))))) (.step 11 (.both (.step 2 (.step 12 (.both (.step 5 (.step 13 (.step 8 (.step 14 (.step 15 .done))))) (.step 8 (.step 5 (.step 13 (.step 14 (.step 15 .done)))))))) (.both (.step 5 (.both (.step 2 (.step 12 (.step 13 (.step 8 (.step 14 (.step 15 .done)))))) (.step 8 (.step 2 (.step 12 (.step 13 (.step 14 (.step 15 .done)))))))) (.step 8 (.both (.step 2 (.step 12 (.step 5 (.step 13 (.step 14 (.step 15 .done)))))) (.step 5 (.step 2 (.step 12 (.step 13 (.step 14 (.step 15 .done)))))))))))))))))))))))); (focus (decide +kernel))) | ((with_reducible apply AWt.step); exact rfl) | ((with_reducible apply AWt.done)) | refine AWt.both ?_ ?_))
    all_goals first | (refine Gc.perm [0,1,2,3] rfl (by decide) ?_ (CellsOk.ren ?_) ?_; (focus (intro p hp; rcases p with _ | _ | _ | _ | p <;> first | rfl | exact absurd hp (lenB (n := 4) rfl))); (focus (repeat (first | exact CellsOk.nil | refine CellsOk.cons (by exact g0_iv _) ?_))); (focus ((repeat (first | exact trivial | (refine And.intro ⟨_, rfl, ?_⟩ ?_; (focus (first | exact Low.sg (by assumption) (by simp) | exact .int _ _ | (refine Ren.slice_sg ?_; (focus (first | (simp; done) | omega | (simp; omega))))))))); done))) | (refine Gc.perm [0,1,3,2] rfl (by decide) ?_ (CellsOk.ren ?_) ?_; (focus (intro p hp; rcases p with _ | _ | _ | _ | p <;> first | rfl | exact absurd hp (lenB (n := 4) rfl))); (focus (repeat (first | exact CellsOk.nil | refine CellsOk.cons (by exact g0_iv _) ?_))); (focus ((repeat (first | exact trivial | (refine And.intro ⟨_, rfl, ?_⟩ ?_; (focus (first | exact Low.sg (by assumption) (by simp) | exact .int _ _ | (refine Ren.slice_sg ?_; (focus (first | (simp; done) | omega | (simp; omega))))))))); done))) | (refine Gc.perm [0,2,1,3] rfl (by decide) ?_ (CellsOk.ren ?_) ?_; (focus (intro p hp; rcases p with _ | _ | _ | _ | p <;> first | rfl | exact absurd hp (lenB (n := 4) rfl))); (focus (repeat (first | exact CellsOk.nil | refine CellsOk.cons (by exact g0_iv _) ?_))); (focus ((repeat (first | exact trivial | (refine And.intro ⟨_, rfl, ?_⟩ ?_; (focus (first | exact Low.sg (by assumption) (by simp) | exact .int _ _ | (refine Ren.slice_sg ?_; (focus (first | (simp; done) | omega | (simp; omega))))))))); done))) | (refine Gc.perm [0,2,3,1] rfl (by decide) ?_ (CellsOk.ren ?_) ?_; (focus (intro p hp; rcases p with _ | _ | _ | _ | p <;> first | rfl | exact absurd hp (lenB (n := 4) rfl))); (focus (repeat (first | exact CellsOk.nil | refine CellsOk.cons (by exact g0_iv _) ?_))); (focus ((repeat (first | exact trivial | (refine And.intro ⟨_, rfl, ?_⟩ ?_; (focus (first | exact Low.sg (by assumption) (by simp) | exact .int _ _ | (refine Ren.slice_sg ?_; (focus (first | (simp; done) | omega | (simp; omega))))))))); done))) | (refine Gc.perm [0,3,1,2] rfl (by decide) ?_ (CellsOk.ren ?_) ?_; (focus (intro p hp; rcases p with _ | _ | _ | _ | p <;> first | rfl | exact absurd hp (lenB (n := 4) rfl))); (focus (repeat (first | exact CellsOk.nil | refine CellsOk.cons (by exact g0_iv _) ?_))); (focus ((repeat (first | exact trivial | (refine And.intro ⟨_, rfl, ?_⟩ ?_; (focus (first | exact Low.sg (by assumption) (by simp) | exact .int _ _ | (refine Ren.slice_sg ?_; (focus (first | (simp; done) | omega | (simp; omega))))))))); done))) | (refine Gc.perm [0,3,2,1] rfl (by decide) ?_ (CellsOk.ren ?_) ?_; (focus (intro p hp; rcases p with _ | _ | _ | _ | p <;> first | rfl | exact absurd hp (lenB (n := 4) rfl))); (focus (repeat (first | exact CellsOk.nil | refine CellsOk.cons (by exact g0_iv _) ?_))); (focus ((repeat (first | exact trivial | (refine And.intro ⟨_, rfl, ?_⟩ ?_; (focus (first | exact Low.sg (by assumption) (by simp) | exact .int _ _ | (refine Ren.slice_sg ?_; (focus (first | (simp; done) | omega | (simp; omega))))))))); done))) | (refine Gc.perm [1,0,2,3] rfl (by decide) ?_ (CellsOk.ren ?_) ?_; (focus (intro p hp; rcases p with _ | _ | _ | _ | p <;> first | rfl | exact absurd hp (lenB (n := 4) rfl))); (focus (repeat (first | exact CellsOk.nil | refine CellsOk.cons (by exact g0_iv _) ?_))); (focus ((repeat (first | exact trivial | (refine And.intro ⟨_, rfl, ?_⟩ ?_; (focus (first | exact Low.sg (by assumption) (by simp) | exact .int _ _ | (refine Ren.slice_sg ?_; (focus (first | (simp; done) | omega | (simp; omega))))))))); done))) | (refine Gc.perm [1,0,3,2] rfl (by decide) ?_ (CellsOk.ren ?_) ?_; (focus (intro p hp; rcases p with _ | _ | _ | _ | p <;> first | rfl | exact absurd hp (lenB (n := 4) rfl))); (focus (repeat (first | exact CellsOk.nil | refine CellsOk.cons (by exact g0_iv _) ?_))); (focus ((repeat (first | exact trivial | (refine And.intro ⟨_, rfl, ?_⟩ ?_; (focus (first | exact Low.sg (by assumption) (by simp) | exact .int _ _ | (refine Ren.slice_sg ?_; (focus (first | (simp; done) | omega | (simp; omega))))))))); done))) | (refine Gc.perm [1,2,0,3] rfl (by decide) ?_ (CellsOk.ren ?_) ?_; (focus (intro p hp; rcases p with _ | _ | _ | _ | p <;> first | rfl | exact absurd hp (lenB (n := 4) rfl))); (focus (repeat (first | exact CellsOk.nil | refine CellsOk.cons (by exact g0_iv _) ?_))); (focus ((repeat (first | exact trivial | (refine And.intro ⟨_, rfl, ?_⟩ ?_; (focus (first | exact Low.sg (by assumption) (by simp) | exact .int _ _ | (refine Ren.slice_sg ?_; (focus (first | (simp; done) | omega | (simp; omega))))))))); done))) | (refine Gc.perm [1,2,3,0] rfl (by decide) ?_ (CellsOk.ren ?_) ?_; (focus (intro p hp; rcases p with _ | _ | _ | _ | p <;> first | rfl | exact absurd hp (lenB (n := 4) rfl))); (focus (repeat (first | exact CellsOk.nil | refine CellsOk.cons (by exact g0_iv _) ?_))); (focus ((repeat (first | exact trivial | (refine And.intro ⟨_, rfl, ?_⟩ ?_; (focus (first | exact Low.sg (by assumption) (by simp) | exact .int _ _ | (refine Ren.slice_sg ?_; (focus (first | (simp; done) | omega | (simp; omega))))))))); done))) | (refine Gc.perm [1,3,0,2] rfl (by decide) ?_ (CellsOk.ren ?_) ?_; (focus (intro p hp; rcases p with _ | _ | _ | _ | p <;> first | rfl | exact absurd hp (lenB (n := 4) rfl))); (focus (repeat (first | exact CellsOk.nil | refine CellsOk.cons (by exact g0_iv _) ?_))); (focus ((repeat (first | exact trivial | (refine And.intro ⟨_, rfl, ?_⟩ ?_; (focus (first | exact Low.sg (by assumption) (by simp) | exact .int _ _ | (refine Ren.slice_sg ?_; (focus (first | (simp; done) | omega | (simp; omega))))))))); done))) | (refine Gc.perm [1,3,2,0] rfl (by decide) ?_ (CellsOk.ren ?_) ?_; (focus (intro p hp; rcases p with _ | _ | _ | _ | p <;> first | rfl | exact absurd hp (lenB (n := 4) rfl))); (focus (repeat (first | exact CellsOk.nil | refine CellsOk.cons (by exact g0_iv _) ?_))); (focus ((repeat (first | exact trivial | (refine And.intro ⟨_, rfl, ?_⟩ ?_; (focus (first | exact Low.sg (by assumption) (by simp) | exact .int _ _ | (refine Ren.slice_sg ?_; (focus (first | (simp; done) | omega | (simp; omega))))))))); done))) | (refine Gc.perm [2,0,1,3] rfl (by decide) ?_ (CellsOk.ren ?_) ?_; (focus (intro p hp; rcases p with _ | _ | _ | _ | p <;> first | rfl | exact absurd hp (lenB (n := 4) rfl))); (focus (repeat (first | exact CellsOk.nil | refine CellsOk.cons (by exact g0_iv _) ?_))); (focus ((repeat (first | exact trivial | (refine And.intro ⟨_, rfl, ?_⟩ ?_; (focus (first | exact Low.sg (by assumption) (by simp) | exact .int _ _ | (refine Ren.slice_sg ?_; (focus (first | (simp; done) | omega | (simp; omega))))))))); done))) | (refine Gc.perm [2,0,3,1] rfl (by decide) ?_ (CellsOk.ren ?_) ?_; (focus (intro p hp; rcases p with _ | _ | _ | _ | p <;> first | rfl | exact absurd hp (lenB (n := 4) rfl))); (focus (repeat (first | exact CellsOk.nil | refine CellsOk.cons (by exact g0_iv _) ?_))); (focus ((repeat (first | exact trivial | (refine And.intro ⟨_, rfl, ?_⟩ ?_; (focus (first | exact Low.sg (by assumption) (by simp) | exact .int _ _ | (refine Ren.slice_sg ?_; (focus (first | (simp; done) | omega | (simp; omega))))))))); done))) | (refine Gc.perm [2,1,0,3] rfl (by decide) ?_ (CellsOk.ren ?_) ?_; (focus (intro p hp; rcases p with _ | _ | _ | _ | p <;> first | rfl | exact absurd hp (lenB (n := 4) rfl))); (focus (repeat (first | exact CellsOk.nil | refine CellsOk.cons (by exact g0_iv _) ?_))); (focus ((repeat (first | exact trivial | (refine And.intro ⟨_, rfl, ?_⟩ ?_; (focus (first | exact Low.sg (by assumption) (by simp) | exact .int _ _ | (refine Ren.slice_sg ?_; (focus (first | (simp; done) | omega | (simp; omega))))))))); done))) | (refine Gc.perm [2,1,3,0] rfl (by decide) ?_ (CellsOk.ren ?_) ?_; (focus (intro p hp; rcases p with _ | _ | _ | _ | p <;> first | rfl | exact absurd hp (lenB (n := 4) rfl))); (focus (repeat (first | exact CellsOk.nil | refine CellsOk.cons (by exact g0_iv _) ?_))); (focus ((repeat (first | exact trivial | (refine And.intro ⟨_, rfl, ?_⟩ ?_; (focus (first | exact Low.sg (by assumption) (by simp) | exact .int _ _ | (refine Ren.slice_sg ?_; (focus (first | (simp; done) | omega | (simp; omega))))))))); done))) | (refine Gc.perm [2,3,0,1] rfl (by decide) ?_ (CellsOk.ren ?_) ?_; (focus (intro p hp; rcases p with _ | _ | _ | _ | p <;> first | rfl | exact absurd hp (lenB (n := 4) rfl))); (focus (repeat (first | exact CellsOk.nil | refine CellsOk.cons (by exact g0_iv _) ?_))); (focus ((repeat (first | exact trivial | (refine And.intro ⟨_, rfl, ?_⟩ ?_; (focus (first | exact Low.sg (by assumption) (by simp) | exact .int _ _ | (refine Ren.slice_sg ?_; (focus (first | (simp; done) | omega | (simp; omega))))))))); done))) | (refine Gc.perm [2,3,1,0] rfl (by decide) ?_ (CellsOk.ren ?_) ?_; (focus (intro p hp; rcases p with _ | _ | _ | _ | p <;> first | rfl | exact absurd hp (lenB (n := 4) rfl))); (focus (repeat (first | exact CellsOk.nil | refine CellsOk.cons (by exact g0_iv _) ?_))); (focus ((repeat (first | exact trivial | (refine And.intro ⟨_, rfl, ?_⟩ ?_; (focus (first | exact Low.sg (by assumption) (by simp) | exact .int _ _ | (refine Ren.slice_sg ?_; (focus (first | (simp; done) | omega | (simp; omega))))))))); done))) | (refine Gc.perm [3,0,1,2] rfl (by decide) ?_ (CellsOk.ren ?_) ?_; (focus (intro p hp; rcases p with _ | _ | _ | _ | p <;> first | rfl | exact absurd hp (lenB (n := 4) rfl))); (focus (repeat (first | exact CellsOk.nil | refine CellsOk.cons (by exact g0_iv _) ?_))); (focus ((repeat (first | exact trivial | (refine And.intro ⟨_, rfl, ?_⟩ ?_; (focus (first | exact Low.sg (by assumption) (by simp) | exact .int _ _ | (refine Ren.slice_sg ?_; (focus (first | (simp; done) | omega | (simp; omega))))))))); done))) | (refine Gc.perm [3,0,2,1] rfl (by decide) ?_ (CellsOk.ren ?_) ?_; (focus (intro p hp; rcases p with _ | _ | _ | _ | p <;> first | rfl | exact absurd hp (lenB (n := 4) rfl))); (focus (repeat (first | exact CellsOk.nil | refine CellsOk.cons (by exact g0_iv _) ?_))); (focus ((repeat (first | exact trivial | (refine And.intro ⟨_, rfl, ?_⟩ ?_; (focus (first | exact Low.sg (by assumption) (by simp) | exact .int _ _ | (refine Ren.slice_sg ?_; (focus (first | (simp; done) | omega | (simp; omega))))))))); done))) | (refine Gc.perm [3,1,0,2] rfl (by decide) ?_ (CellsOk.ren ?_) ?_; (focus (intro p hp; rcases p with _ | _ | _ | _ | p <;> first | rfl | exact absurd hp (lenB (n := 4) rfl))); (focus (repeat (first | exact CellsOk.nil | refine CellsOk.cons (by exact g0_iv _) ?_))); (focus ((repeat (first | exact trivial | (refine And.intro ⟨_, rfl, ?_⟩ ?_; (focus (first | exact Low.sg (by assumption) (by simp) | exact .int _ _ | (refine Ren.slice_sg ?_; (focus (first | (simp; done) | omega | (simp; omega))))))))); done))) | (refine Gc.perm [3,1,2,0] rfl (by decide) ?_ (CellsOk.ren ?_) ?_; (focus (intro p hp; rcases p with _ | _ | _ | _ | p <;> first | rfl | exact absurd hp (lenB (n := 4) rfl))); (focus (repeat (first | exact CellsOk.nil | refine CellsOk.cons (by exact g0_iv _) ?_))); (focus ((repeat (first | exact trivial | (refine And.intro ⟨_, rfl, ?_⟩ ?_; (focus (first | exact Low.sg (by assumption) (by simp) | exact .int _ _ | (refine Ren.slice_sg ?_; (focus (first | (simp; done) | omega | (simp; omega))))))))); done))) | (refine Gc.perm [3,2,0,1] rfl (by decide) ?_ (CellsOk.ren ?_) ?_; (focus (intro p hp; rcases p with _ | _ | _ | _ | p <;> first | rfl | exact absurd hp (lenB (n := 4) rfl))); (focus (repeat (first | exact CellsOk.nil | refine CellsOk.cons (by exact g0_iv _) ?_))); (focus ((repeat (first | exact trivial | (refine And.intro ⟨_, rfl, ?_⟩ ?_; (focus (first | exact Low.sg (by assumption) (by simp) | exact .int _ _ | (refine Ren.slice_sg ?_; (focus (first | (simp; done) | omega | (simp; omega))))))))); done))) | (refine Gc.perm [3,2,1,0] rfl (by decide) ?_ (CellsOk.ren ?_) ?_; (focus (intro p hp; rcases p with _ | _ | _ | _ | p <;> first | rfl | exact absurd hp (lenB (n := 4) rfl))); (focus (repeat (first | exact CellsOk.nil | refine CellsOk.cons (by exact g0_iv _) ?_))); (focus ((repeat (first | exact trivial | (refine And.intro ⟨_, rfl, ?_⟩ ?_; (focus (first | exact Low.sg (by assumption) (by simp) | exact .int _ _ | (refine Ren.slice_sg ?_; (focus (first | (simp; done) | omega | (simp; omega))))))))); done)))
  have hLs : Ls (lossN c l r L R) n := fun i k _ _ _ _ => by
    have := wv_bd hc l r (atN L (i - 1)) (atN R (k - 1))
    unfold lossN; omega
  have hloss : ∀ (Y : AM) (i j : Nat), 1 ≤ i → i ≤ 1000 → 1 ≤ j → j ≤ 1000 → ACall Try.prog 89 (#[] ++ #[.int .i64 (i : Nat), .int .i64 (j : Nat)] ++ #[.pointer (some ⟨x3, 0, none⟩), .pointer (some ⟨x10, 0, none⟩), .pointer (some ⟨x4, 0, none⟩), .pointer (some ⟨x5, 0, none⟩)]) (M ++ Y) (Ret (.int .i64 (lossN c l r L R i j)) (M ++ Y)) := fun Y i j i1 i2 j1 j2 => by
    obtain ⟨i, rfl⟩ : ∃ x, i = x + 1 := ⟨i - 1, by omega⟩
    obtain ⟨j, rfl⟩ : ∃ x, j = x + 1 := ⟨j - 1, by omega⟩
    exact loss_ok (ht'.old Y) hc (hL'.old Y) (hR'.old Y) (by omega) (by omega) (q3.old Y) (q4.old Y) (q5.old Y) (q10.old Y) i j (by omega) (by omega) rfl
  have hf : Try.prog.funcs[89]? = some Try.f89 := Try.func89
  have hb : Try.f89.body = some (Try.f89.body.get rfl) := rfl
  have hn32 : n ≤ 32 := by omega
  clear ht hL hR l3 r3
  (repeat (first | (with_reducible refine AWo.cons ?_) | ((with_reducible refine Step.id ?_); ((with_reducible apply Step.assign); exact rfl; exact rfl)) | (with_reducible refine AWo.nil ?_) | ((with_reducible apply AW.seq)) | ((with_reducible apply Then.n)) | ((with_reducible apply AW.regL)) | ((with_reducible apply AW.block))))
  refine AW.loopT (fun rk t L' => ∃ (i : Nat) (u v : Nat → Int) (row way : Nat → Nat), rk = n + 1 - i ∧ 1 ≤ i ∧ i ≤ n + 1 ∧ Ov (lossN c l r L R) n i u v row ∧ (∀ k, 1 ≤ k → k ≤ n → -1000000000 ≤ u k ∧ u k ≤ 0 ∧ -1000000000 ≤ v k ∧ v k ≤ 0) ∧
      L' = [some { cells := iv (tab u (n + 1)) }, some { cells := iv (tab v (n + 1)) }, some { cells := iv (tab (fun k => ((row k : Nat) : Int)) (n + 1)) }, some { cells := iv (tab (fun k => ((way k : Nat) : Int)) (n + 1)) }] ∧
      t = [(4, .pointer (some ⟨x4, 0, none⟩)), (5, .pointer (some ⟨x5, 0, none⟩)), (6, .int .i64 0), (9, .int .i64 (n : Nat)), (11, .func (.func 89) #[] #[.pointer (some ⟨x3, 0, none⟩), .pointer (some ⟨x10, 0, none⟩), .pointer (some ⟨x4, 0, none⟩), .pointer (some ⟨x5, 0, none⟩)]), (12, .slice (some ⟨M.length + 0, 0, none⟩) (n + 1) (n + 1)), (13, .slice (some ⟨M.length + 1, 0, none⟩) (n + 1) (n + 1)), (14, .slice (some ⟨M.length + 2, 0, none⟩) (n + 1) (n + 1)), (15, .slice (some ⟨M.length + 3, 0, none⟩) (n + 1) (n + 1)), (16, .int .i64 (i : Nat))])
      ⟨_, _, [some { cells := iv (List.replicate (n + 1) 0) }, some { cells := iv (List.replicate (n + 1) 0) }, some { cells := iv (List.replicate (n + 1) 0) }, some { cells := iv (List.replicate (n + 1) 0) }], (Or.inl ⟨rfl, (by repeat (first | exact trivial | (refine And.intro rfl ?_)))⟩), 1, fun _ => 0, fun _ => 0, fun _ => 0, fun _ => 0, rfl, by omega, by omega, Ov.start _ _, fun _ _ _ => by simp, by simp only [tab_rep]; rfl, rfl⟩ ?_
  rintro rk t L' ⟨i, u, v, row, way, rfl, hi1, hi2, ov, huv, rfl, rfl⟩
  have hlt0 : True := trivial
  rcases Nat.lt_or_ge i (n + 1) with hlt | hge
  · have hin : i ≤ n := by omega
    have iv0 := ov.begin hi1 way
    have hV0 := ov.v0
    (repeat (first | (with_reducible refine AWo.cons ?_) | ((with_reducible refine Step.id ?_); first | ((with_reducible apply Step.move); exact rfl; exact rfl) | ((with_reducible apply Step.leq); exact rfl; exact rfl; exact rfl)) | (with_reducible refine AWo.nil ?_) | ((with_reducible apply AW.seq)) | ((with_reducible apply Then.n)) | ((with_reducible apply AW.regL)) | ((with_reducible apply AW.block)) | ((with_reducible apply AW.skip)) | ((with_reducible apply AW.condT); exact rfl; (focus ((simp only [decide_eq_true_eq, decide_eq_false_iff_not, Bool.not_eq_true', Bool.not_eq_false', Bool.not_true, Bool.not_false]; first | assumption | omega))))))
    ((with_reducible apply Step.ix1z (k := 0)); exact rfl; exact (Sl.mk (by omega)); exact rfl; (focus (decide +kernel)); exact rfl; (focus (omega)))
    (repeat (first | (with_reducible refine AWo.cons ?_) | ((with_reducible refine Step.id ?_); ((with_reducible apply Step.store (k := 2)); exact rfl; exact rfl; exact rfl; exact rfl; (focus (decide +kernel)); exact rfl; exact rfl; (focus (first | omega | (simp [iv, bv]; done) | (simp [iv, bv]; omega))); (focus (first | (simp only [List.nil_append, List.cons_append, List.set_cons_zero, List.set_cons_succ, iv_set, bv_set, iv_rep, bv_rep]; done) | (simp only [List.nil_append, List.cons_append, List.set_cons_zero, List.set_cons_succ, iv_set, bv_set, iv_rep, bv_rep]; rfl) | rfl)))) | (with_reducible refine AWo.nil ?_) | ((with_reducible apply Then.n))))
    rw [tab_set, up_cast]
    refine AW.joinG (fr [(4, .pointer (some ⟨x4, 0, none⟩)), (5, .pointer (some ⟨x5, 0, none⟩)), (6, .int .i64 0), (9, .int .i64 (n : Nat)), (11, .func (.func 89) #[] #[.pointer (some ⟨x3, 0, none⟩), .pointer (some ⟨x10, 0, none⟩), .pointer (some ⟨x4, 0, none⟩), .pointer (some ⟨x5, 0, none⟩)]), (12, .slice (some ⟨M.length + 0, 0, none⟩) (n + 1) (n + 1)), (13, .slice (some ⟨M.length + 1, 0, none⟩) (n + 1) (n + 1)), (14, .slice (some ⟨M.length + 2, 0, none⟩) (n + 1) (n + 1)), (15, .slice (some ⟨M.length + 3, 0, none⟩) (n + 1) (n + 1)), (16, .int .i64 (i : Nat)), (17, .slice (some ⟨M.length + 4, 0, none⟩) (n + 1) (n + 1)), (18, .slice (some ⟨M.length + 5, 0, none⟩) (n + 1) (n + 1))])
      (M ++ [some { cells := iv (tab u (n + 1)) }, some { cells := iv (tab v (n + 1)) }, some { cells := iv (tab (fun z => (((up row 0 i) z : Nat) : Int)) (n + 1)) }, some { cells := iv (tab (fun z => (((way) z : Nat) : Int)) (n + 1)) }, some { cells := iv (List.replicate (n + 1) 0) }, some { cells := bv (List.replicate (n + 1) false) }]) ?_ ?_
    · (repeat' (first | ((with_reducible refine Step.id ?_); first | ((with_reducible apply Step.move); exact rfl; exact rfl) | ((with_reducible apply Step.assign); exact rfl; exact rfl) | ((with_reducible apply Step.addE); exact rfl; exact rfl; (focus (assumption)); (focus (omega)); exact rfl) | ((with_reducible apply Step.make1 4); exact rfl; exact rfl; exact rfl; exact el27; (focus (omega)); exact rfl; (focus (first | (simp only [List.nil_append, List.cons_append, List.set_cons_zero, List.set_cons_succ, iv_set, bv_set, iv_rep, bv_rep]; done) | (simp only [List.nil_append, List.cons_append, List.set_cons_zero, List.set_cons_succ, iv_set, bv_set, iv_rep, bv_rep]; rfl) | rfl))) | ((with_reducible apply Step.make1 4); exact rfl; exact rfl; exact rfl; exact el88; (focus (omega)); exact rfl; (focus (first | (simp only [List.nil_append, List.cons_append, List.set_cons_zero, List.set_cons_succ, iv_set, bv_set, iv_rep, bv_rep]; done) | (simp only [List.nil_append, List.cons_append, List.set_cons_zero, List.set_cons_succ, iv_set, bv_set, iv_rep, bv_rep]; rfl) | rfl))) | ((with_reducible apply Step.make1 5); exact rfl; exact rfl; exact rfl; exact el27; (focus (omega)); exact rfl; (focus (first | (simp only [List.nil_append, List.cons_append, List.set_cons_zero, List.set_cons_succ, iv_set, bv_set, iv_rep, bv_rep]; done) | (simp only [List.nil_append, List.cons_append, List.set_cons_zero, List.set_cons_succ, iv_set, bv_set, iv_rep, bv_rep]; rfl) | rfl))) | ((with_reducible apply Step.make1 5); exact rfl; exact rfl; exact rfl; exact el88; (focus (omega)); exact rfl; (focus (first | (simp only [List.nil_append, List.cons_append, List.set_cons_zero, List.set_cons_succ, iv_set, bv_set, iv_rep, bv_rep]; done) | (simp only [List.nil_append, List.cons_append, List.set_cons_zero, List.set_cons_succ, iv_set, bv_set, iv_rep, bv_rep]; rfl) | rfl)))) | ((with_reducible apply Then.n)) | ((with_reducible apply AW.drawT fit (T := (.step 0 (.step 1 (.step 3 (.step 4 (.both (.step 2 (.step 6 (.step 5 (.step 7 .done)))) (.step 5 (.step 2 (.step 6 (.step 7 .done))))))))))); (focus (decide +kernel))) | ((with_reducible apply AWt.step); exact rfl) | ((with_reducible apply AWt.done)) | refine AWt.both ?_ ?_))
      all_goals first | (refine Gc.perm [0,1,2,3,4,5] rfl (by decide) ?_ (CellsOk.ren ?_) ?_; (focus (intro p hp; rcases p with _ | _ | _ | _ | _ | _ | p <;> first | rfl | exact absurd hp (lenB (n := 6) rfl))); (focus (repeat (first | exact CellsOk.nil | refine CellsOk.cons (by first | exact g0_iv _ | exact g0_bv _) ?_))); (focus ((repeat (first | exact trivial | (refine And.intro ⟨_, rfl, ?_⟩ ?_; (focus (first | exact Low.sg (by assumption) (by simp) | exact .int _ _ | (refine Ren.slice_sg ?_; (focus (first | (simp; done) | omega | (simp; omega))))))))); done))) | (refine Gc.perm [0,1,2,3,5,4] rfl (by decide) ?_ (CellsOk.ren ?_) ?_; (focus (intro p hp; rcases p with _ | _ | _ | _ | _ | _ | p <;> first | rfl | exact absurd hp (lenB (n := 6) rfl))); (focus (repeat (first | exact CellsOk.nil | refine CellsOk.cons (by first | exact g0_iv _ | exact g0_bv _) ?_))); (focus ((repeat (first | exact trivial | (refine And.intro ⟨_, rfl, ?_⟩ ?_; (focus (first | exact Low.sg (by assumption) (by simp) | exact .int _ _ | (refine Ren.slice_sg ?_; (focus (first | (simp; done) | omega | (simp; omega))))))))); done)))
    (repeat (first | (with_reducible refine AWo.cons ?_) | ((with_reducible refine Step.id ?_); first | ((with_reducible apply Step.move); exact rfl; exact rfl) | ((with_reducible apply Step.len); exact rfl; (focus (exact Sl.mk (by omega))); (focus (decide +kernel)); exact rfl)) | (with_reducible refine AWo.nil ?_) | ((with_reducible apply AW.seq)) | ((with_reducible apply Then.n)) | ((with_reducible apply AW.regL)) | ((with_reducible apply AW.block))))
    refine AW.loopT (fun rk t L' => ∃ k : Nat, rk = n + 1 - k ∧ k ≤ n + 1 ∧ L' = [some { cells := iv (tab u (n + 1)) }, some { cells := iv (tab v (n + 1)) }, some { cells := iv (tab (fun z => (((up row 0 i) z : Nat) : Int)) (n + 1)) }, some { cells := iv (tab (fun z => (((way) z : Nat) : Int)) (n + 1)) }, some { cells := iv (tab (fun x => if x < k then 1152921504606846976 else 0) (n + 1)) }, some { cells := bv (tabB (fun _ => false) (n + 1)) }] ∧
      t = [(4, .pointer (some ⟨x4, 0, none⟩)), (5, .pointer (some ⟨x5, 0, none⟩)), (6, .int .i64 0), (9, .int .i64 (n : Nat)), (11, .func (.func 89) #[] #[.pointer (some ⟨x3, 0, none⟩), .pointer (some ⟨x10, 0, none⟩), .pointer (some ⟨x4, 0, none⟩), .pointer (some ⟨x5, 0, none⟩)]), (12, .slice (some ⟨M.length + 0, 0, none⟩) (n + 1) (n + 1)), (13, .slice (some ⟨M.length + 1, 0, none⟩) (n + 1) (n + 1)), (14, .slice (some ⟨M.length + 2, 0, none⟩) (n + 1) (n + 1)), (15, .slice (some ⟨M.length + 3, 0, none⟩) (n + 1) (n + 1)), (16, .int .i64 (i : Nat)), (17, .slice (some ⟨M.length + 4, 0, none⟩) (n + 1) (n + 1)), (18, .slice (some ⟨M.length + 5, 0, none⟩) (n + 1) (n + 1)), (62, .int .i64 ((n + 1 : Nat) : Int)), (63, .int .i64 (k : Nat))])
      ⟨_, _, [some { cells := iv (tab u (n + 1)) }, some { cells := iv (tab v (n + 1)) }, some { cells := iv (tab (fun z => (((up row 0 i) z : Nat) : Int)) (n + 1)) }, some { cells := iv (tab (fun z => (((way) z : Nat) : Int)) (n + 1)) }, some { cells := iv (List.replicate (n + 1) 0) }, some { cells := bv (List.replicate (n + 1) false) }], (Or.inl ⟨rfl, (by repeat (first | exact trivial | (refine And.intro rfl ?_)))⟩), 0, rfl, Nat.zero_le _, by simp only [tab_rep, tabB_rep]; simp, rfl⟩ ?_
    · rintro rk t L' ⟨k, rfl, hk, rfl, rfl⟩
      rcases Nat.lt_or_ge k (n + 1) with hkl | hkg
      · (repeat (first | (with_reducible refine AWo.cons ?_) | ((with_reducible refine Step.id ?_); first | ((with_reducible apply Step.move); exact rfl; exact rfl) | ((with_reducible apply Step.assign); exact rfl; exact rfl) | ((with_reducible apply Step.ix1z); exact rfl; (focus (exact Sl.mk (by omega))); exact rfl; (focus (decide +kernel)); exact rfl; (focus (omega))) | ((with_reducible apply Step.add); exact rfl; exact rfl; (focus (omega)); exact rfl) | ((with_reducible apply Step.lss); exact rfl; exact rfl; exact rfl) | ((with_reducible apply Step.store (k := 4)); exact rfl; exact rfl; exact rfl; exact rfl; (focus (decide +kernel)); exact rfl; exact rfl; (focus (first | omega | (simp [iv, bv]; done) | (simp [iv, bv]; omega))); (focus (first | (simp only [List.nil_append, List.cons_append, List.set_cons_zero, List.set_cons_succ, iv_set, bv_set, iv_rep, bv_rep]; done) | (simp only [List.nil_append, List.cons_append, List.set_cons_zero, List.set_cons_succ, iv_set, bv_set, iv_rep, bv_rep]; rfl) | rfl)))) | (with_reducible refine AWo.nil ?_) | ((with_reducible apply AW.seq)) | ((with_reducible apply Then.n)) | ((with_reducible apply AW.regL)) | ((with_reducible apply AW.block)) | ((with_reducible apply InBlk.n)) | ((with_reducible apply AW.skip)) | ((with_reducible apply AW.condT); exact rfl; (focus ((simp only [decide_eq_true_eq, decide_eq_false_iff_not, Bool.not_eq_true', Bool.not_eq_false', Bool.not_true, Bool.not_false]; first | assumption | omega))))))
        refine ⟨_, _, _, by omega, (Or.inl ⟨rfl, (by repeat (first | exact trivial | (refine And.intro rfl ?_)))⟩), k + 1, rfl, by omega, ?_, rfl⟩
        rw [tab_set]
        have : tab (up (fun x => if x < k then (1152921504606846976 : Int) else 0) k 1152921504606846976) (n + 1) = tab (fun x => if x < k + 1 then 1152921504606846976 else 0) (n + 1) := tab_congr fun x hx => by
          simp only [up]
          by_cases e : x = k
          · subst e; rw [if_pos rfl, if_pos (by omega)]
          · rw [if_neg e]
            by_cases c : x < k
            · rw [if_pos c, if_pos (by omega)]
            · rw [if_neg c, if_neg (by omega)]
        rw [this]
      · obtain rfl : k = n + 1 := by omega
        have hbig : tab (fun x => if x < n + 1 then (1152921504606846976 : Int) else 0) (n + 1) = tab (fun _ => 1152921504606846976) (n + 1) := tab_congr fun x hx => if_pos hx
        rw [hbig]
        clear hbig
        (repeat (first | (with_reducible refine AWo.cons ?_) | ((with_reducible refine Step.id ?_); first | ((with_reducible apply Step.assign); exact rfl; exact rfl) | ((with_reducible apply Step.lss); exact rfl; exact rfl; exact rfl)) | (with_reducible refine AWo.nil ?_) | ((with_reducible apply AW.seq)) | ((with_reducible apply Then.n)) | ((with_reducible apply AW.regL)) | ((with_reducible apply AW.block)) | ((with_reducible apply AW.exit)) | ((with_reducible apply InBlk.hit)) | ((with_reducible apply Then.e)) | ((with_reducible apply AW.condF); exact rfl; (focus ((simp only [decide_eq_true_eq, decide_eq_false_iff_not, Bool.not_eq_true', Bool.not_eq_false', Bool.not_true, Bool.not_false]; first | assumption | omega))))))
        generalize hV : v 0 = V0 at *
        generalize hrow : up row 0 i = row1 at *
        generalize hle0 : (fun _ => (1152921504606846976 : Int)) = least0 at *
        generalize hus0 : (fun _ : Nat => false) = used0 at *
        clear hrow hle0 hus0 hV huv ov
        refine AW.loopT (fun rk t L' => ∃ (u v least : Nat → Int) (way : Nat → Nat) (used : Nat → Bool) (j : Nat) (rest : List Nat), rk = n + 1 - rest.length ∧ Iv (lossN c l r L R) n i V0 u v row1 way least used j rest ∧
          L' = [some { cells := iv (tab u (n + 1)) }, some { cells := iv (tab v (n + 1)) }, some { cells := iv (tab (fun z => (((row1) z : Nat) : Int)) (n + 1)) }, some { cells := iv (tab (fun z => (((way) z : Nat) : Int)) (n + 1)) }, some { cells := iv (tab (least) (n + 1)) }, some { cells := bv (tabB (used) (n + 1)) }] ∧ t = [(4, .pointer (some ⟨x4, 0, none⟩)), (5, .pointer (some ⟨x5, 0, none⟩)), (6, .int .i64 0), (9, .int .i64 (n : Nat)), (11, .func (.func 89) #[] #[.pointer (some ⟨x3, 0, none⟩), .pointer (some ⟨x10, 0, none⟩), .pointer (some ⟨x4, 0, none⟩), .pointer (some ⟨x5, 0, none⟩)]), (12, .slice (some ⟨M.length + 0, 0, none⟩) (n + 1) (n + 1)), (13, .slice (some ⟨M.length + 1, 0, none⟩) (n + 1) (n + 1)), (14, .slice (some ⟨M.length + 2, 0, none⟩) (n + 1) (n + 1)), (15, .slice (some ⟨M.length + 3, 0, none⟩) (n + 1) (n + 1)), (16, .int .i64 (i : Nat)), (17, .slice (some ⟨M.length + 4, 0, none⟩) (n + 1) (n + 1)), (18, .slice (some ⟨M.length + 5, 0, none⟩) (n + 1) (n + 1)), (20, .int .i64 (j : Nat))])
          ⟨_, _, _, (Or.inl ⟨rfl, (by repeat (first | exact trivial | (refine And.intro rfl ?_)))⟩), u, v, _, way, _, 0, [], rfl, iv0, rfl, rfl⟩ ?_
        clear iv0
        clear u v way least0 used0
        rintro rk t L' ⟨u, v, least, way, used, j, rest, rfl, iw, rfl, rfl⟩
        have hjn := iw.jn
        have hrl := Iv.len iw
        by_cases hrj : row1 j = 0
        · have hrj0 : (((row1 j : Nat) : Int)) = 0 := by omega
          (repeat (first | (with_reducible refine AWo.cons ?_) | ((with_reducible refine Step.id ?_); first | ((with_reducible apply Step.move); exact rfl; exact rfl) | ((with_reducible apply Step.load); exact rfl; (focus (decide +kernel)); exact rfl; (focus (exact rt2 _ (by omega)))) | ((with_reducible apply Step.ix1z); exact rfl; (focus (exact Sl.mk (by omega))); exact rfl; (focus (decide +kernel)); exact rfl; (focus (omega))) | ((with_reducible apply Step.neq); exact rfl; exact rfl; exact rfl)) | (with_reducible refine AWo.nil ?_) | ((with_reducible apply AW.seq)) | ((with_reducible apply Then.n)) | ((with_reducible apply AW.regL)) | ((with_reducible apply AW.block)) | ((with_reducible apply AW.exit)) | ((with_reducible apply InBlk.hit)) | ((with_reducible apply Then.e)) | ((with_reducible apply AW.condF); exact rfl; (focus ((simp only [decide_eq_true_eq, decide_eq_false_iff_not, Bool.not_eq_true', Bool.not_eq_false', Bool.not_true, Bool.not_false]; first | assumption | omega))))))
          have ag := iw.found hin hLs hV0 hrj
          have hbu := fun r => iw.bu hin hLs (r := r)
          have hbv := fun k => iw.bv hin hLs (k := k)
          have huz := iw.uz
          have huv' : ∀ k, 1 ≤ k → k ≤ n → -1000000000 ≤ u k ∧ u k ≤ 0 ∧ -1000000000 ≤ v k ∧ v k ≤ 0 := fun k k1 k2 => by
            have h2 := hbv k k1 k2
            by_cases hk : k ≤ i
            · have h1 := hbu k k1 hk; omega
            · have h1 := huz k (by omega); omega
          clear hbu hbv huz iw hrj hrj0 hjn hrl
          refine AW.loopT (fun rk t L' => ∃ (row : Nat → Nat) (j : Nat) (rest : List Nat), rk = rest.length ∧ Ag (lossN c l r L R) n i u v row way j rest ∧
            L' = [some { cells := iv (tab u (n + 1)) }, some { cells := iv (tab v (n + 1)) }, some { cells := iv (tab (fun z => (((row) z : Nat) : Int)) (n + 1)) }, some { cells := iv (tab (fun z => (((way) z : Nat) : Int)) (n + 1)) }, some { cells := iv (tab (least) (n + 1)) }, some { cells := bv (tabB (used) (n + 1)) }] ∧ t = [(4, .pointer (some ⟨x4, 0, none⟩)), (5, .pointer (some ⟨x5, 0, none⟩)), (6, .int .i64 0), (9, .int .i64 (n : Nat)), (11, .func (.func 89) #[] #[.pointer (some ⟨x3, 0, none⟩), .pointer (some ⟨x10, 0, none⟩), .pointer (some ⟨x4, 0, none⟩), .pointer (some ⟨x5, 0, none⟩)]), (12, .slice (some ⟨M.length + 0, 0, none⟩) (n + 1) (n + 1)), (13, .slice (some ⟨M.length + 1, 0, none⟩) (n + 1) (n + 1)), (14, .slice (some ⟨M.length + 2, 0, none⟩) (n + 1) (n + 1)), (15, .slice (some ⟨M.length + 3, 0, none⟩) (n + 1) (n + 1)), (16, .int .i64 (i : Nat)), (17, .slice (some ⟨M.length + 4, 0, none⟩) (n + 1) (n + 1)), (18, .slice (some ⟨M.length + 5, 0, none⟩) (n + 1) (n + 1)), (20, .int .i64 (j : Nat))])
            ⟨_, _, _, (Or.inl ⟨rfl, (by repeat (first | exact trivial | (refine And.intro rfl ?_)))⟩), row1, j, rest, rfl, ag, rfl, rfl⟩ ?_
          clear ag
          clear rest j row1
          rintro rk t L' ⟨row, j, rest, rfl, ag, rfl, rfl⟩
          have hjn := ag.jn
          by_cases hj0 : j = 0
          · subst hj0
            (repeat (first | (with_reducible refine AWo.cons ?_) | ((with_reducible refine Step.id ?_); first | ((with_reducible apply Step.move); exact rfl; exact rfl) | ((with_reducible apply Step.assign); exact rfl; exact rfl) | ((with_reducible apply Step.add); exact rfl; exact rfl; (focus (omega)); exact rfl) | ((with_reducible apply Step.neq); exact rfl; exact rfl; exact rfl)) | (with_reducible refine AWo.nil ?_) | ((with_reducible apply AW.seq)) | ((with_reducible apply Then.n)) | ((with_reducible apply AW.regL)) | ((with_reducible apply AW.exit)) | ((with_reducible apply InBlk.n)) | ((with_reducible apply InBlk.hit)) | ((with_reducible apply Then.e)) | ((with_reducible apply AW.condF); exact rfl; (focus (rfl)))))
            refine ⟨_, _, [some { cells := iv (tab u (n + 1)) }, some { cells := iv (tab v (n + 1)) }, some { cells := iv (tab (fun z => (((row) z : Nat) : Int)) (n + 1)) }, some { cells := iv (tab (fun z => (((way) z : Nat) : Int)) (n + 1)) }], ?_, (Back.trim rfl rfl (by repeat (first | exact CellsOk.nil | refine CellsOk.cons (by exact g0_iv _) ?_)) (by repeat (first | exact trivial | (refine And.intro ⟨rfl, by (first | exact Low.rid (by assumption) (by simp) | exact .int _ _ | exact .slice _ _ _ _ (by first | (simp; done) | omega | (simp; omega)))⟩ ?_)))), i + 1, u, v, row, way, rfl, by omega, by omega, ag.done, huv', rfl, rfl⟩
            omega
          · have hj1 : ¬ ((j : Nat) : Int) = 0 := by omega
            obtain ⟨wn, rest', ag', hlt'⟩ := ag.step hj0
            (repeat (first | (with_reducible refine AWo.cons ?_) | ((with_reducible refine Step.id ?_); first | ((with_reducible apply Step.move); exact rfl; exact rfl) | ((with_reducible apply Step.assign); exact rfl; exact rfl) | ((with_reducible apply Step.load); exact rfl; (focus (decide +kernel)); exact rfl; (focus (first | exact rt3 _ (by omega) | exact rt2 _ (by omega)))) | ((with_reducible apply Step.ix1z); exact rfl; (focus (exact Sl.mk (by omega))); exact rfl; (focus (decide +kernel)); exact rfl; (focus (omega))) | ((with_reducible apply Step.neq); exact rfl; exact rfl; exact rfl) | ((with_reducible apply Step.store (k := 2)); exact rfl; exact rfl; exact rfl; exact rfl; (focus (decide +kernel)); exact rfl; exact rfl; (focus (first | omega | (simp [iv, bv]; done) | (simp [iv, bv]; omega))); (focus (first | (simp only [List.nil_append, List.cons_append, List.set_cons_zero, List.set_cons_succ, iv_set, bv_set, iv_rep, bv_rep]; done) | (simp only [List.nil_append, List.cons_append, List.set_cons_zero, List.set_cons_succ, iv_set, bv_set, iv_rep, bv_rep]; rfl) | rfl)))) | (with_reducible refine AWo.nil ?_) | ((with_reducible apply AW.seq)) | ((with_reducible apply Then.n)) | ((with_reducible apply AW.regL)) | ((with_reducible apply AW.block)) | ((with_reducible apply InBlk.n)) | ((with_reducible apply AW.skip)) | ((with_reducible apply AW.condT); exact rfl; (focus ((simp only [decide_eq_true_eq, decide_eq_false_iff_not, Bool.not_eq_true', Bool.not_eq_false', Bool.not_true, Bool.not_false]; first | assumption | omega))))))
            exact ⟨_, _, [some { cells := iv (tab u (n + 1)) }, some { cells := iv (tab v (n + 1)) }, some { cells := iv (tab (fun z => (((up row j (row (way j))) z : Nat) : Int)) (n + 1)) }, some { cells := iv (tab (fun z => (((way) z : Nat) : Int)) (n + 1)) }, some { cells := iv (tab (least) (n + 1)) }, some { cells := bv (tabB (used) (n + 1)) }], hlt', by rw [tab_set, up_cast]; exact (Or.inl ⟨rfl, (by repeat (first | exact trivial | (refine And.intro rfl ?_)))⟩), _, _, rest', rfl, ag', rfl, rfl⟩
        · have hrj1 : ¬ (((row1 j : Nat) : Int)) = 0 := by omega
          have hrb := iw.rb j hjn
          (repeat (first | (with_reducible refine AWo.cons ?_) | ((with_reducible refine Step.id ?_); first | ((with_reducible apply Step.move); exact rfl; exact rfl) | ((with_reducible apply Step.assign); exact rfl; exact rfl) | ((with_reducible apply Step.load); exact rfl; (focus (decide +kernel)); exact rfl; (focus (exact rt2 _ (by omega)))) | ((with_reducible apply Step.ix1z); exact rfl; (focus (exact Sl.mk (by omega))); exact rfl; (focus (decide +kernel)); exact rfl; (focus (omega))) | ((with_reducible apply Step.neq); exact rfl; exact rfl; exact rfl) | ((with_reducible apply Step.store (k := 5)); exact rfl; exact rfl; exact rfl; exact rfl; (focus (decide +kernel)); exact rfl; exact rfl; (focus (first | omega | (simp [iv, bv]; done) | (simp [iv, bv]; omega))); (focus (first | (simp only [List.nil_append, List.cons_append, List.set_cons_zero, List.set_cons_succ, iv_set, bv_set, iv_rep, bv_rep]; done) | (simp only [List.nil_append, List.cons_append, List.set_cons_zero, List.set_cons_succ, iv_set, bv_set, iv_rep, bv_rep]; rfl) | rfl)))) | (with_reducible refine AWo.nil ?_) | ((with_reducible apply AW.seq)) | ((with_reducible apply Then.n)) | ((with_reducible apply AW.regL)) | ((with_reducible apply AW.block)) | ((with_reducible apply AW.skip)) | ((with_reducible apply AW.condT); exact rfl; (focus ((simp only [decide_eq_true_eq, decide_eq_false_iff_not, Bool.not_eq_true', Bool.not_eq_false', Bool.not_true, Bool.not_false]; first | assumption | omega))))))
          rw [tabB_set]
          have hsc := iw.scan hin hLs hrj
          have hus := fun k hk => iw.used' (k := k) hk
          have h0T : (0 : Nat) ∈ j :: rest := iw.ch.zero
          have hwyT : ∀ k, k ∈ j :: rest → wS (dK (lossN c l r L R) u v (row1 j)) least (up used j true) j way n k = way k := fun k hk => if_neg fun h => by
            have h1 := h.2.2.1
            rw [hus k h.2.1] at h1
            simp only [decide_eq_false_iff_not] at h1
            exact h1 hk
          have hnx := iw.next hin hLs hrj hwyT hsc
          have hbu := fun r => iw.bu hin hLs (r := r)
          have hbv := fun k => iw.bv hin hLs (k := k)
          have hle : ∀ k, 1 ≤ k → k ≤ n → least k = 1152921504606846976 ∨ (-1000000000 ≤ least k ∧ least k ≤ 3000000000) ∨ up used j true k = true := fun k k1 k2 => by
            by_cases e : rest = []
            · exact .inl (iw.l0 e k k1 k2)
            · by_cases hk : k ∈ j :: rest
              · exact .inr (.inr (by rw [hus k k2]; simpa using hk))
              · obtain ⟨_, h2, h3⟩ := iw.l1 k k1 k2 (fun h => hk (List.mem_cons_of_mem _ h)) e
                have h4 := iw.rn _ h2
                have h5 := iw.rb _ h4.1
                have b1 := hbu (row1 (way k)) (by omega) h5
                have b2 := hbv k k1 k2
                have b3 := hLs (row1 (way k)) k (by omega) (by omega) k1 k2
                exact .inr (.inl (by omega))
          have hinjU : ∀ k, k ≤ n → up used j true k = true → ∀ c, c < k → up used j true c = true → row1 c ≠ row1 k := fun k hk hu c hck huc e => by
            rw [hus c (by omega)] at huc
            simp only [decide_eq_true_eq] at huc
            have hz : row1 c ≠ 0 := by
              rcases List.mem_cons.1 huc with h | h
              · rw [h]; exact hrj
              · exact (iw.rn c h).2
            have := iw.inj c k (by omega) hk e hz
            omega
          have hrowT : ∀ k, k ≤ n → up used j true k = true → 1 ≤ row1 k ∧ row1 k ≤ i := fun k hk hu => by
            rw [hus k hk] at hu
            simp only [decide_eq_true_eq] at hu
            have hz : row1 k ≠ 0 := by
              rcases List.mem_cons.1 hu with h | h
              · rw [h]; exact hrj
              · exact (iw.rn k h).2
            exact ⟨by omega, iw.rb k hk⟩
          have hv0 := iw.v0
          have hui := iw.ul
          have hui0 := (iw.bu hin hLs (r := i) hi1 (Nat.le_refl _)).2
          have hu0 : up used j true 0 = true := by rw [hus 0 (Nat.zero_le _)]; simpa using h0T
          have hlS : ∀ k, k ≤ n → up used j true k = false → -1000000000 ≤ lS (dK (lossN c l r L R) u v (row1 j)) least (up used j true) n k ∧ lS (dK (lossN c l r L R) u v (row1 j)) least (up used j true) n k ≤ 3000000000 := fun k hk hu => by
            by_cases k0 : k = 0
            · subst k0; rw [hu0] at hu; cases hu
            · rw [hus k hk] at hu
              simp only [decide_eq_false_iff_not] at hu
              obtain ⟨_, _, _, h1, h2⟩ := hsc.ok k (by omega) hk hu
              omega
          clear hsc hwyT h0T hus iw
          generalize hus1 : up used j true = used1 at *
          generalize hdk : dK (lossN c l r L R) u v (row1 j) = dk at *
          have hdk' : ∀ k, dk k = lossN c l r L R (row1 j) k - u (row1 j) - v k := fun k => by rw [← hdk]; rfl
          clear hus1 hdk
          generalize hLN : lS dk least used1 n = LN at *
          have hLN' : ∀ k, k < n → LN (k + 1) = lS dk least used1 (k + 1) (k + 1) := fun k hk => by rw [← hLN]; exact lS_at (Nat.le_refl _) (by omega)
          refine AW.loopT (fun rk t L' => ∃ k : Nat, rk = n - k ∧ k ≤ n ∧ L' = [some { cells := iv (tab u (n + 1)) }, some { cells := iv (tab v (n + 1)) }, some { cells := iv (tab (fun z => (((row1) z : Nat) : Int)) (n + 1)) }, some { cells := iv (tab (fun z => (((wS dk least used1 j way k) z : Nat) : Int)) (n + 1)) }, some { cells := iv (tab (lS dk least used1 k) (n + 1)) }, some { cells := bv (tabB (used1) (n + 1)) }] ∧
            t = [(4, .pointer (some ⟨x4, 0, none⟩)), (5, .pointer (some ⟨x5, 0, none⟩)), (6, .int .i64 0), (9, .int .i64 (n : Nat)), (11, .func (.func 89) #[] #[.pointer (some ⟨x3, 0, none⟩), .pointer (some ⟨x10, 0, none⟩), .pointer (some ⟨x4, 0, none⟩), .pointer (some ⟨x5, 0, none⟩)]), (12, .slice (some ⟨M.length + 0, 0, none⟩) (n + 1) (n + 1)), (13, .slice (some ⟨M.length + 1, 0, none⟩) (n + 1) (n + 1)), (14, .slice (some ⟨M.length + 2, 0, none⟩) (n + 1) (n + 1)), (15, .slice (some ⟨M.length + 3, 0, none⟩) (n + 1) (n + 1)), (16, .int .i64 (i : Nat)), (17, .slice (some ⟨M.length + 4, 0, none⟩) (n + 1) (n + 1)), (18, .slice (some ⟨M.length + 5, 0, none⟩) (n + 1) (n + 1)), (20, .int .i64 (j : Nat)), (21, .int .i64 (dS LN used1 k).1), (22, .int .i64 ((dS LN used1 k).2 : Nat)), (23, .int .i64 ((k + 1 : Nat) : Int))])
            ⟨_, [(4, .pointer (some ⟨x4, 0, none⟩)), (5, .pointer (some ⟨x5, 0, none⟩)), (6, .int .i64 0), (9, .int .i64 (n : Nat)), (11, .func (.func 89) #[] #[.pointer (some ⟨x3, 0, none⟩), .pointer (some ⟨x10, 0, none⟩), .pointer (some ⟨x4, 0, none⟩), .pointer (some ⟨x5, 0, none⟩)]), (12, .slice (some ⟨M.length + 0, 0, none⟩) (n + 1) (n + 1)), (13, .slice (some ⟨M.length + 1, 0, none⟩) (n + 1) (n + 1)), (14, .slice (some ⟨M.length + 2, 0, none⟩) (n + 1) (n + 1)), (15, .slice (some ⟨M.length + 3, 0, none⟩) (n + 1) (n + 1)), (16, .int .i64 (i : Nat)), (17, .slice (some ⟨M.length + 4, 0, none⟩) (n + 1) (n + 1)), (18, .slice (some ⟨M.length + 5, 0, none⟩) (n + 1) (n + 1)), (20, .int .i64 (j : Nat)), (21, .int .i64 (dS LN used1 0).1), (22, .int .i64 ((dS LN used1 0).2 : Nat)), (23, .int .i64 ((0 + 1 : Nat) : Int))], _, by simp only [wS_zero, lS_zero]; exact (Or.inl ⟨rfl, (by repeat (first | exact trivial | (refine And.intro rfl ?_)))⟩), 0, rfl, Nat.zero_le _, rfl, rfl⟩ ?_
          · rintro rk t L' ⟨k, rfl, hk, rfl, rfl⟩
            rcases Nat.lt_or_ge k n with hkl | hkg
            · cases hu : used1 (k + 1) with
              | true =>
                have m1 : ¬ (used1 (k + 1) = false ∧ dk (k + 1) < least (k + 1)) := fun h => by rw [hu] at h; cases h.1
                have m2 := dS_no (L := LN) (used := used1) (k := k) fun h => by rw [hu] at h; cases h.1
                have hr5 : ∀ (b0 b1 b2 b3 b4 : Option Blk) (T : AM), Rd (M ++ (b0 :: b1 :: b2 :: b3 :: b4 :: some { cells := bv (tabB (used1) (n + 1)) } :: T)) (M.length + 5) (k + 1) (.bool true) := fun _ _ _ _ _ _ => by rw [← hu]; exact rt5 _ (by omega)
                (repeat (first | (with_reducible refine AWo.cons ?_) | ((with_reducible refine Step.id ?_); first | ((with_reducible apply Step.move); exact rfl; exact rfl) | ((with_reducible apply Step.assign); exact rfl; exact rfl) | ((with_reducible apply Step.load); exact rfl; (focus (decide +kernel)); exact rfl; (focus (exact hr5 _ _ _ _ _ _))) | ((with_reducible apply Step.ix1z); exact rfl; (focus (exact Sl.mk (by omega))); exact rfl; (focus (decide +kernel)); exact rfl; (focus (omega))) | ((with_reducible apply Step.add); exact rfl; exact rfl; (focus (omega)); exact rfl) | ((with_reducible apply Step.leq); exact rfl; exact rfl; exact rfl)) | (with_reducible refine AWo.nil ?_) | ((with_reducible apply AW.seq)) | ((with_reducible apply Then.n)) | ((with_reducible apply AW.regL)) | ((with_reducible apply AW.block)) | ((with_reducible apply AW.exit)) | ((with_reducible apply InBlk.hit)) | ((with_reducible apply Then.e)) | ((with_reducible apply AW.skip)) | ((with_reducible apply AW.condT); exact rfl; (focus (first | rfl | (simp only [decide_eq_true_eq, decide_eq_false_iff_not, Bool.not_eq_true', Bool.not_eq_false', Bool.not_true, Bool.not_false]; first | assumption | omega))))))
                exact ⟨_, [(4, .pointer (some ⟨x4, 0, none⟩)), (5, .pointer (some ⟨x5, 0, none⟩)), (6, .int .i64 0), (9, .int .i64 (n : Nat)), (11, .func (.func 89) #[] #[.pointer (some ⟨x3, 0, none⟩), .pointer (some ⟨x10, 0, none⟩), .pointer (some ⟨x4, 0, none⟩), .pointer (some ⟨x5, 0, none⟩)]), (12, .slice (some ⟨M.length + 0, 0, none⟩) (n + 1) (n + 1)), (13, .slice (some ⟨M.length + 1, 0, none⟩) (n + 1) (n + 1)), (14, .slice (some ⟨M.length + 2, 0, none⟩) (n + 1) (n + 1)), (15, .slice (some ⟨M.length + 3, 0, none⟩) (n + 1) (n + 1)), (16, .int .i64 (i : Nat)), (17, .slice (some ⟨M.length + 4, 0, none⟩) (n + 1) (n + 1)), (18, .slice (some ⟨M.length + 5, 0, none⟩) (n + 1) (n + 1)), (20, .int .i64 (j : Nat)), (21, .int .i64 (dS LN used1 k).1), (22, .int .i64 ((dS LN used1 k).2 : Nat)), (23, .int .i64 ((k + 1 + 1 : Nat) : Int))], _, by omega, (Or.inl ⟨rfl, (by repeat (first | exact trivial | (refine And.intro rfl ?_)))⟩), k + 1, rfl, by omega, by rw [wS_miss m1, lS_miss m1], by rw [m2]⟩
              | false =>
                have hr5 : ∀ (b0 b1 b2 b3 b4 : Option Blk) (T : AM), Rd (M ++ (b0 :: b1 :: b2 :: b3 :: b4 :: some { cells := bv (tabB (used1) (n + 1)) } :: T)) (M.length + 5) (k + 1) (.bool false) := fun _ _ _ _ _ _ => by rw [← hu]; exact rt5 _ (by omega)
                have b1 := hbu (row1 j) (by omega) hrb
                have b2 := hbv (k + 1) (by omega) (by omega)
                have b3 := hLs (row1 j) (k + 1) (by omega) (by omega) (by omega) (by omega)
                (repeat (first | (with_reducible refine AWo.cons ?_) | ((with_reducible refine Step.id ?_); first | ((with_reducible apply Step.move); exact rfl; exact rfl) | ((with_reducible apply Step.load); exact rfl; (focus (decide +kernel)); exact rfl; (focus (exact hr5 _ _ _ _ _ _))) | ((with_reducible apply Step.ix1z); exact rfl; (focus (exact Sl.mk (by omega))); exact rfl; (focus (decide +kernel)); exact rfl; (focus (omega))) | ((with_reducible apply Step.leq); exact rfl; exact rfl; exact rfl)) | (with_reducible refine AWo.nil ?_) | ((fail_if_success (with_reducible refine AW.atR (id := 23) ?_)); ((with_reducible apply AW.seq))) | ((with_reducible apply Then.n)) | ((with_reducible apply AW.regL)) | ((with_reducible apply AW.block)) | ((with_reducible apply AW.skip)) | ((with_reducible apply AW.condT); exact rfl; (focus ((simp only [decide_eq_true_eq, decide_eq_false_iff_not, Bool.not_eq_true', Bool.not_eq_false', Bool.not_true, Bool.not_false]; first | assumption | omega)))) | ((with_reducible apply AW.condF); exact rfl; (focus (rfl)))))
                refine AW.joinS [(4, .pointer (some ⟨x4, 0, none⟩)), (5, .pointer (some ⟨x5, 0, none⟩)), (6, .int .i64 0), (9, .int .i64 (n : Nat)), (11, .func (.func 89) #[] #[.pointer (some ⟨x3, 0, none⟩), .pointer (some ⟨x10, 0, none⟩), .pointer (some ⟨x4, 0, none⟩), .pointer (some ⟨x5, 0, none⟩)]), (12, .slice (some ⟨M.length + 0, 0, none⟩) (n + 1) (n + 1)), (13, .slice (some ⟨M.length + 1, 0, none⟩) (n + 1) (n + 1)), (14, .slice (some ⟨M.length + 2, 0, none⟩) (n + 1) (n + 1)), (15, .slice (some ⟨M.length + 3, 0, none⟩) (n + 1) (n + 1)), (16, .int .i64 (i : Nat)), (17, .slice (some ⟨M.length + 4, 0, none⟩) (n + 1) (n + 1)), (18, .slice (some ⟨M.length + 5, 0, none⟩) (n + 1) (n + 1)), (20, .int .i64 (j : Nat)), (21, .int .i64 (dS LN used1 k).1), (22, .int .i64 ((dS LN used1 k).2 : Nat)), (23, .int .i64 ((k + 1 : Nat) : Int)), (24, .int .i64 (lossN c l r L R (row1 j) (k + 1) - u (row1 j) - v (k + 1)))] (M ++ [some { cells := iv (tab u (n + 1)) }, some { cells := iv (tab v (n + 1)) }, some { cells := iv (tab (fun z => (((row1) z : Nat) : Int)) (n + 1)) }, some { cells := iv (tab (fun z => (((wS dk least used1 j way k) z : Nat) : Int)) (n + 1)) }, some { cells := iv (tab (lS dk least used1 k) (n + 1)) }, some { cells := bv (tabB (used1) (n + 1)) }]) ?_ ?_
                · (repeat' (first | ((with_reducible refine Step.id ?_); first | ((with_reducible apply Step.move); exact rfl; exact rfl) | ((with_reducible apply Step.assign); exact rfl; exact rfl) | ((with_reducible apply Step.load); exact rfl; (focus (decide +kernel)); exact rfl; (focus (first | exact rt0 _ (by omega) | exact rt1 _ (by omega) | exact rt2 _ (by omega)))) | ((with_reducible apply Step.ix1z); exact rfl; (focus (exact Sl.mk (by omega))); exact rfl; (focus (decide +kernel)); exact rfl; (focus (omega))) | ((with_reducible apply Step.sub); exact rfl; exact rfl; (focus (omega)); exact rfl) | ((with_reducible apply Step.callV fit); exact rfl; exact rfl; exact hf; exact hb; exact rfl; exact (hloss _ _ _ (by omega) (by omega) (by omega) (by omega)))) | ((with_reducible apply Then.n)) | ((with_reducible apply AW.drawT fit (T := (.step 0 (.step 1 (.step 2 (.step 3 (.step 4 (.step 5 (.step 7 (.step 8 (.step 9 (.step 10 (.step 15 (.step 16 (.step 17 (.both (.step 6 (.step 11 (.step 12 (.step 13 (.step 14 (.step 18 (.step 19 (.step 20 .done)))))))) (.both (.step 11 (.step 12 (.both (.step 6 (.step 13 (.step 14 (.step 18 (.step 19 (.step 20 .done)))))) (.both (.step 13 (.both (.step 6 (.step 14 (.step 18 (.step 19 (.step 20 .done))))) (.step 18 (.step 6 (.step 14 (.step 19 (.step 20 .done))))))) (.step 18 (.both (.step 6 (.step 13 (.step 14 (.step 19 (.step 20 .done))))) (.step 13 (.step 6 (.step 14 (.step 19 (.step 20 .done))))))))))) (.step 18 (.both (.step 6 (.step 11 (.step 12 (.step 13 (.step 14 (.step 19 (.step 20 .done))))))) (.step 11 (.step 12 (.both (.step 6 (.step 13 (.step 14 (.step 19 (.step 20 .done))))) (.step 13 (.step 6 (.step 14 (.step 19 (.step 20 .done))))))))))))))))))))))))))); (focus (decide +kernel))) | ((with_reducible apply AWt.step); exact rfl) | ((with_reducible apply AWt.done)) | refine AWt.both ?_ ?_))
                  all_goals exact ⟨rfl, (by repeat (first | exact trivial | (refine And.intro rfl ?_)))⟩
                rw [← hdk' (k + 1)]
                have hLk := hLN' k hkl
                have hnx' := lS_next (d := dk) (least := least) (used := used1) (k := k)
                have hr4 : ∀ (b0 b1 b2 b3 : Option Blk) (T : AM), Rd (M ++ (b0 :: b1 :: b2 :: b3 :: some { cells := iv (tab (lS dk least used1 k) (n + 1)) } :: T)) (M.length + 4) (k + 1) (.int .i64 (least (k + 1))) := fun _ _ _ _ _ => by rw [← hnx']; exact rt4 _ (by omega)
                by_cases hh : dk (k + 1) < least (k + 1)
                · have w1 := wS_hit (j := j) (way := way) hu hh
                  have w2 := lS_hit hu hh
                  have hLv : LN (k + 1) = dk (k + 1) := by rw [hLk, ← w2, up_same]
                  have hr4' : ∀ (b0 b1 b2 b3 : Option Blk) (T : AM), Rd (M ++ (b0 :: b1 :: b2 :: b3 :: some { cells := iv ((tab (lS dk least used1 k) (n + 1)).set (k + 1) (dk (k + 1))) } :: T)) (M.length + 4) (k + 1) (.int .i64 (dk (k + 1))) := fun b0 b1 b2 b3 T => by
                    rw [tab_set, w2]
                    have := up_same (lS dk least used1 k) (k + 1) (dk (k + 1))
                    rw [w2] at this
                    have h := rt4 (M := M) (T := T) (b0 := b0) (b1 := b1) (b2 := b2) (b3 := b3) (lS dk least used1 (k + 1)) (show k + 1 < n + 1 by omega)
                    rw [this] at h
                    exact h
                  by_cases hd : dk (k + 1) < (dS LN used1 k).1
                  · have m2 := dS_yes hu (L := LN) (by rw [hLv]; exact hd)
                    (repeat (first | (with_reducible refine AWo.cons ?_) | ((with_reducible refine Step.id ?_); first | ((with_reducible apply Step.move); exact rfl; exact rfl) | ((with_reducible apply Step.assign); exact rfl; exact rfl) | ((with_reducible apply Step.load); exact rfl; (focus (decide +kernel)); exact rfl; (focus (first | exact hr4 _ _ _ _ _ | exact hr4' _ _ _ _ _))) | ((with_reducible apply Step.ix1z); exact rfl; (focus (exact Sl.mk (by omega))); exact rfl; (focus (decide +kernel)); exact rfl; (focus (omega))) | ((with_reducible apply Step.add); exact rfl; exact rfl; (focus (omega)); exact rfl) | ((with_reducible apply Step.lss); exact rfl; exact rfl; exact rfl) | ((with_reducible apply Step.store (k := 3)); exact rfl; exact rfl; exact rfl; exact rfl; (focus (decide +kernel)); exact rfl; exact rfl; (focus (first | omega | (simp [iv, bv]; done) | (simp [iv, bv]; omega))); (focus (first | (simp only [List.nil_append, List.cons_append, List.set_cons_zero, List.set_cons_succ, iv_set, bv_set, iv_rep, bv_rep]; done) | (simp only [List.nil_append, List.cons_append, List.set_cons_zero, List.set_cons_succ, iv_set, bv_set, iv_rep, bv_rep]; rfl) | rfl))) | ((with_reducible apply Step.store (k := 4)); exact rfl; exact rfl; exact rfl; exact rfl; (focus (decide +kernel)); exact rfl; exact rfl; (focus (first | omega | (simp [iv, bv]; done) | (simp [iv, bv]; omega))); (focus (first | (simp only [List.nil_append, List.cons_append, List.set_cons_zero, List.set_cons_succ, iv_set, bv_set, iv_rep, bv_rep]; done) | (simp only [List.nil_append, List.cons_append, List.set_cons_zero, List.set_cons_succ, iv_set, bv_set, iv_rep, bv_rep]; rfl) | rfl)))) | (with_reducible refine AWo.nil ?_) | ((with_reducible apply AW.seq)) | ((with_reducible apply Then.n)) | ((with_reducible apply AW.regL)) | ((with_reducible apply InBlk.n)) | ((with_reducible apply AW.condT); exact rfl; (focus ((simp only [decide_eq_true_eq, decide_eq_false_iff_not, Bool.not_eq_true', Bool.not_eq_false', Bool.not_true, Bool.not_false]; first | assumption | omega))))))
                    exact ⟨_, [(4, .pointer (some ⟨x4, 0, none⟩)), (5, .pointer (some ⟨x5, 0, none⟩)), (6, .int .i64 0), (9, .int .i64 (n : Nat)), (11, .func (.func 89) #[] #[.pointer (some ⟨x3, 0, none⟩), .pointer (some ⟨x10, 0, none⟩), .pointer (some ⟨x4, 0, none⟩), .pointer (some ⟨x5, 0, none⟩)]), (12, .slice (some ⟨M.length + 0, 0, none⟩) (n + 1) (n + 1)), (13, .slice (some ⟨M.length + 1, 0, none⟩) (n + 1) (n + 1)), (14, .slice (some ⟨M.length + 2, 0, none⟩) (n + 1) (n + 1)), (15, .slice (some ⟨M.length + 3, 0, none⟩) (n + 1) (n + 1)), (16, .int .i64 (i : Nat)), (17, .slice (some ⟨M.length + 4, 0, none⟩) (n + 1) (n + 1)), (18, .slice (some ⟨M.length + 5, 0, none⟩) (n + 1) (n + 1)), (20, .int .i64 (j : Nat)), (21, .int .i64 (dk (k + 1))), (22, .int .i64 ((k + 1 : Nat) : Int)), (23, .int .i64 ((k + 1 + 1 : Nat) : Int))], [some { cells := iv (tab u (n + 1)) }, some { cells := iv (tab v (n + 1)) }, some { cells := iv (tab (fun z => (((row1) z : Nat) : Int)) (n + 1)) }, some { cells := iv (tab (fun z => (((up (wS dk least used1 j way k) (k + 1) j) z : Nat) : Int)) (n + 1)) }, some { cells := iv (tab (up (lS dk least used1 k) (k + 1) (dk (k + 1))) (n + 1)) }, some { cells := bv (tabB (used1) (n + 1)) }], by omega, by rw [tab_set, tab_set, up_cast]; exact (Or.inl ⟨rfl, (by repeat (first | exact trivial | (refine And.intro rfl ?_)))⟩), k + 1, rfl, by omega, by rw [w1, w2], by rw [m2, hLv]⟩
                  · have m2 := dS_no (L := LN) (used := used1) (k := k) fun h => hd (by rw [← hLv]; exact h.2)
                    (repeat (first | (with_reducible refine AWo.cons ?_) | ((with_reducible refine Step.id ?_); first | ((with_reducible apply Step.move); exact rfl; exact rfl) | ((with_reducible apply Step.assign); exact rfl; exact rfl) | ((with_reducible apply Step.load); exact rfl; (focus (decide +kernel)); exact rfl; (focus (first | exact hr4 _ _ _ _ _ | exact hr4' _ _ _ _ _))) | ((with_reducible apply Step.ix1z); exact rfl; (focus (exact Sl.mk (by omega))); exact rfl; (focus (decide +kernel)); exact rfl; (focus (omega))) | ((with_reducible apply Step.add); exact rfl; exact rfl; (focus (omega)); exact rfl) | ((with_reducible apply Step.lss); exact rfl; exact rfl; exact rfl) | ((with_reducible apply Step.store (k := 3)); exact rfl; exact rfl; exact rfl; exact rfl; (focus (decide +kernel)); exact rfl; exact rfl; (focus (first | omega | (simp [iv, bv]; done) | (simp [iv, bv]; omega))); (focus (first | (simp only [List.nil_append, List.cons_append, List.set_cons_zero, List.set_cons_succ, iv_set, bv_set, iv_rep, bv_rep]; done) | (simp only [List.nil_append, List.cons_append, List.set_cons_zero, List.set_cons_succ, iv_set, bv_set, iv_rep, bv_rep]; rfl) | rfl))) | ((with_reducible apply Step.store (k := 4)); exact rfl; exact rfl; exact rfl; exact rfl; (focus (decide +kernel)); exact rfl; exact rfl; (focus (first | omega | (simp [iv, bv]; done) | (simp [iv, bv]; omega))); (focus (first | (simp only [List.nil_append, List.cons_append, List.set_cons_zero, List.set_cons_succ, iv_set, bv_set, iv_rep, bv_rep]; done) | (simp only [List.nil_append, List.cons_append, List.set_cons_zero, List.set_cons_succ, iv_set, bv_set, iv_rep, bv_rep]; rfl) | rfl)))) | (with_reducible refine AWo.nil ?_) | ((with_reducible apply AW.seq)) | ((with_reducible apply Then.n)) | ((with_reducible apply AW.regL)) | ((with_reducible apply InBlk.n)) | ((with_reducible apply AW.skip)) | ((with_reducible apply AW.condT); exact rfl; (focus ((simp only [decide_eq_true_eq, decide_eq_false_iff_not, Bool.not_eq_true', Bool.not_eq_false', Bool.not_true, Bool.not_false]; first | assumption | omega)))) | ((with_reducible apply AW.condF); exact rfl; (focus ((simp only [decide_eq_true_eq, decide_eq_false_iff_not, Bool.not_eq_true', Bool.not_eq_false', Bool.not_true, Bool.not_false]; first | assumption | omega))))))
                    exact ⟨_, [(4, .pointer (some ⟨x4, 0, none⟩)), (5, .pointer (some ⟨x5, 0, none⟩)), (6, .int .i64 0), (9, .int .i64 (n : Nat)), (11, .func (.func 89) #[] #[.pointer (some ⟨x3, 0, none⟩), .pointer (some ⟨x10, 0, none⟩), .pointer (some ⟨x4, 0, none⟩), .pointer (some ⟨x5, 0, none⟩)]), (12, .slice (some ⟨M.length + 0, 0, none⟩) (n + 1) (n + 1)), (13, .slice (some ⟨M.length + 1, 0, none⟩) (n + 1) (n + 1)), (14, .slice (some ⟨M.length + 2, 0, none⟩) (n + 1) (n + 1)), (15, .slice (some ⟨M.length + 3, 0, none⟩) (n + 1) (n + 1)), (16, .int .i64 (i : Nat)), (17, .slice (some ⟨M.length + 4, 0, none⟩) (n + 1) (n + 1)), (18, .slice (some ⟨M.length + 5, 0, none⟩) (n + 1) (n + 1)), (20, .int .i64 (j : Nat)), (21, .int .i64 (dS LN used1 k).1), (22, .int .i64 (((dS LN used1 k).2 : Nat) : Int)), (23, .int .i64 ((k + 1 + 1 : Nat) : Int))], [some { cells := iv (tab u (n + 1)) }, some { cells := iv (tab v (n + 1)) }, some { cells := iv (tab (fun z => (((row1) z : Nat) : Int)) (n + 1)) }, some { cells := iv (tab (fun z => (((up (wS dk least used1 j way k) (k + 1) j) z : Nat) : Int)) (n + 1)) }, some { cells := iv (tab (up (lS dk least used1 k) (k + 1) (dk (k + 1))) (n + 1)) }, some { cells := bv (tabB (used1) (n + 1)) }], by omega, by rw [tab_set, tab_set, up_cast]; exact (Or.inl ⟨rfl, (by repeat (first | exact trivial | (refine And.intro rfl ?_)))⟩), k + 1, rfl, by omega, by rw [w1, w2], by rw [m2]⟩
                · have m1 : ¬ (used1 (k + 1) = false ∧ dk (k + 1) < least (k + 1)) := fun h => hh h.2
                  have w1 := wS_miss (j := j) (way := way) m1
                  have w2 := lS_miss m1
                  have hLv : LN (k + 1) = least (k + 1) := by rw [hLk, w2, hnx']
                  by_cases hd : least (k + 1) < (dS LN used1 k).1
                  · have m2 := dS_yes hu (L := LN) (by rw [hLv]; exact hd)
                    (repeat (first | (with_reducible refine AWo.cons ?_) | ((with_reducible refine Step.id ?_); first | ((with_reducible apply Step.move); exact rfl; exact rfl) | ((with_reducible apply Step.assign); exact rfl; exact rfl) | ((with_reducible apply Step.load); exact rfl; (focus (decide +kernel)); exact rfl; (focus (exact hr4 _ _ _ _ _))) | ((with_reducible apply Step.ix1z); exact rfl; (focus (exact Sl.mk (by omega))); exact rfl; (focus (decide +kernel)); exact rfl; (focus (omega))) | ((with_reducible apply Step.add); exact rfl; exact rfl; (focus (omega)); exact rfl) | ((with_reducible apply Step.lss); exact rfl; exact rfl; exact rfl)) | (with_reducible refine AWo.nil ?_) | ((with_reducible apply AW.seq)) | ((with_reducible apply Then.n)) | ((with_reducible apply AW.regL)) | ((with_reducible apply InBlk.n)) | ((with_reducible apply AW.skip)) | ((with_reducible apply AW.condT); exact rfl; (focus ((simp only [decide_eq_true_eq, decide_eq_false_iff_not, Bool.not_eq_true', Bool.not_eq_false', Bool.not_true, Bool.not_false]; first | assumption | omega)))) | ((with_reducible apply AW.condF); exact rfl; (focus ((simp only [decide_eq_true_eq, decide_eq_false_iff_not, Bool.not_eq_true', Bool.not_eq_false', Bool.not_true, Bool.not_false]; first | assumption | omega))))))
                    exact ⟨_, [(4, .pointer (some ⟨x4, 0, none⟩)), (5, .pointer (some ⟨x5, 0, none⟩)), (6, .int .i64 0), (9, .int .i64 (n : Nat)), (11, .func (.func 89) #[] #[.pointer (some ⟨x3, 0, none⟩), .pointer (some ⟨x10, 0, none⟩), .pointer (some ⟨x4, 0, none⟩), .pointer (some ⟨x5, 0, none⟩)]), (12, .slice (some ⟨M.length + 0, 0, none⟩) (n + 1) (n + 1)), (13, .slice (some ⟨M.length + 1, 0, none⟩) (n + 1) (n + 1)), (14, .slice (some ⟨M.length + 2, 0, none⟩) (n + 1) (n + 1)), (15, .slice (some ⟨M.length + 3, 0, none⟩) (n + 1) (n + 1)), (16, .int .i64 (i : Nat)), (17, .slice (some ⟨M.length + 4, 0, none⟩) (n + 1) (n + 1)), (18, .slice (some ⟨M.length + 5, 0, none⟩) (n + 1) (n + 1)), (20, .int .i64 (j : Nat)), (21, .int .i64 (least (k + 1))), (22, .int .i64 ((k + 1 : Nat) : Int)), (23, .int .i64 ((k + 1 + 1 : Nat) : Int))], [some { cells := iv (tab u (n + 1)) }, some { cells := iv (tab v (n + 1)) }, some { cells := iv (tab (fun z => (((row1) z : Nat) : Int)) (n + 1)) }, some { cells := iv (tab (fun z => (((wS dk least used1 j way k) z : Nat) : Int)) (n + 1)) }, some { cells := iv (tab (lS dk least used1 k) (n + 1)) }, some { cells := bv (tabB (used1) (n + 1)) }], by omega, (Or.inl ⟨rfl, (by repeat (first | exact trivial | (refine And.intro rfl ?_)))⟩), k + 1, rfl, by omega, by rw [w1, w2], by rw [m2, hLv]⟩
                  · have m2 := dS_no (L := LN) (used := used1) (k := k) fun h => hd (by rw [← hLv]; exact h.2)
                    (repeat (first | (with_reducible refine AWo.cons ?_) | ((with_reducible refine Step.id ?_); first | ((with_reducible apply Step.move); exact rfl; exact rfl) | ((with_reducible apply Step.assign); exact rfl; exact rfl) | ((with_reducible apply Step.load); exact rfl; (focus (decide +kernel)); exact rfl; (focus (exact hr4 _ _ _ _ _))) | ((with_reducible apply Step.ix1z); exact rfl; (focus (exact Sl.mk (by omega))); exact rfl; (focus (decide +kernel)); exact rfl; (focus (omega))) | ((with_reducible apply Step.add); exact rfl; exact rfl; (focus (omega)); exact rfl) | ((with_reducible apply Step.lss); exact rfl; exact rfl; exact rfl)) | (with_reducible refine AWo.nil ?_) | ((with_reducible apply AW.seq)) | ((with_reducible apply Then.n)) | ((with_reducible apply AW.regL)) | ((with_reducible apply InBlk.n)) | ((with_reducible apply AW.skip)) | ((with_reducible apply AW.condF); exact rfl; (focus ((simp only [decide_eq_true_eq, decide_eq_false_iff_not, Bool.not_eq_true', Bool.not_eq_false', Bool.not_true, Bool.not_false]; first | assumption | omega))))))
                    exact ⟨_, [(4, .pointer (some ⟨x4, 0, none⟩)), (5, .pointer (some ⟨x5, 0, none⟩)), (6, .int .i64 0), (9, .int .i64 (n : Nat)), (11, .func (.func 89) #[] #[.pointer (some ⟨x3, 0, none⟩), .pointer (some ⟨x10, 0, none⟩), .pointer (some ⟨x4, 0, none⟩), .pointer (some ⟨x5, 0, none⟩)]), (12, .slice (some ⟨M.length + 0, 0, none⟩) (n + 1) (n + 1)), (13, .slice (some ⟨M.length + 1, 0, none⟩) (n + 1) (n + 1)), (14, .slice (some ⟨M.length + 2, 0, none⟩) (n + 1) (n + 1)), (15, .slice (some ⟨M.length + 3, 0, none⟩) (n + 1) (n + 1)), (16, .int .i64 (i : Nat)), (17, .slice (some ⟨M.length + 4, 0, none⟩) (n + 1) (n + 1)), (18, .slice (some ⟨M.length + 5, 0, none⟩) (n + 1) (n + 1)), (20, .int .i64 (j : Nat)), (21, .int .i64 (dS LN used1 k).1), (22, .int .i64 (((dS LN used1 k).2 : Nat) : Int)), (23, .int .i64 ((k + 1 + 1 : Nat) : Int))], [some { cells := iv (tab u (n + 1)) }, some { cells := iv (tab v (n + 1)) }, some { cells := iv (tab (fun z => (((row1) z : Nat) : Int)) (n + 1)) }, some { cells := iv (tab (fun z => (((wS dk least used1 j way k) z : Nat) : Int)) (n + 1)) }, some { cells := iv (tab (lS dk least used1 k) (n + 1)) }, some { cells := bv (tabB (used1) (n + 1)) }], by omega, (Or.inl ⟨rfl, (by repeat (first | exact trivial | (refine And.intro rfl ?_)))⟩), k + 1, rfl, by omega, by rw [w1, w2], by rw [m2]⟩
            · have hkn : k = n := by omega
              rw [hkn, hLN]
              clear hkn hkg
              (repeat (first | (with_reducible refine AWo.cons ?_) | ((with_reducible refine Step.id ?_); first | ((with_reducible apply Step.move); exact rfl; exact rfl) | ((with_reducible apply Step.leq); exact rfl; exact rfl; exact rfl) | ((with_reducible apply Step.len); exact rfl; (focus (exact Sl.mk (by omega))); (focus (decide +kernel)); exact rfl)) | (with_reducible refine AWo.nil ?_) | ((with_reducible apply AW.seq)) | ((with_reducible apply Then.n)) | ((with_reducible apply AW.regL)) | ((with_reducible apply AW.block)) | ((with_reducible apply AW.exit)) | ((with_reducible apply InBlk.hit)) | ((with_reducible apply Then.e)) | ((with_reducible apply AW.condF); exact rfl; (focus ((simp only [decide_eq_true_eq, decide_eq_false_iff_not, Bool.not_eq_true', Bool.not_eq_false', Bool.not_true, Bool.not_false]; first | assumption | omega))))))
              have hdl1 := hnx.2.1
              have hdl2 := hnx.2.2
              have hiw := hnx.1
              clear hnx hLN hLN' hle
              have hnn := hiw.jn
              generalize (dS LN used1 n).1 = dl at *
              generalize (dS LN used1 n).2 = nx at *
              generalize wS dk least used1 j way n = way1 at *
              clear hdk'
              refine AW.loopT (fun rk t L' => ∃ k : Nat, rk = n + 1 - k ∧ k ≤ n + 1 ∧ L' = [some { cells := iv (tab (uU u row1 used1 dl k) (n + 1)) }, some { cells := iv (tab (vU v used1 dl k) (n + 1)) }, some { cells := iv (tab (fun z => (((row1) z : Nat) : Int)) (n + 1)) }, some { cells := iv (tab (fun z => (((way1) z : Nat) : Int)) (n + 1)) }, some { cells := iv (tab (lU LN used1 dl k) (n + 1)) }, some { cells := bv (tabB (used1) (n + 1)) }] ∧
                t = [(4, .pointer (some ⟨x4, 0, none⟩)), (5, .pointer (some ⟨x5, 0, none⟩)), (6, .int .i64 0), (9, .int .i64 (n : Nat)), (11, .func (.func 89) #[] #[.pointer (some ⟨x3, 0, none⟩), .pointer (some ⟨x10, 0, none⟩), .pointer (some ⟨x4, 0, none⟩), .pointer (some ⟨x5, 0, none⟩)]), (12, .slice (some ⟨M.length + 0, 0, none⟩) (n + 1) (n + 1)), (13, .slice (some ⟨M.length + 1, 0, none⟩) (n + 1) (n + 1)), (14, .slice (some ⟨M.length + 2, 0, none⟩) (n + 1) (n + 1)), (15, .slice (some ⟨M.length + 3, 0, none⟩) (n + 1) (n + 1)), (16, .int .i64 (i : Nat)), (17, .slice (some ⟨M.length + 4, 0, none⟩) (n + 1) (n + 1)), (18, .slice (some ⟨M.length + 5, 0, none⟩) (n + 1) (n + 1)), (21, .int .i64 dl), (22, .int .i64 (nx : Nat)), (132, .slice (some ⟨M.length + 5, 0, none⟩) (n + 1) (n + 1)), (133, .int .i64 ((n + 1 : Nat) : Int)), (134, .int .i64 (k : Nat))])
                ⟨_, _, _, by rw [← uU_zero (u := u) (row := row1) (used := used1) (dl := dl), ← vU_zero (v := v) (used := used1) (dl := dl), ← lU_zero (v := LN) (used := used1) (dl := dl)]; exact (Or.inl ⟨rfl, (by repeat (first | exact trivial | (refine And.intro rfl ?_)))⟩), 0, rfl, Nat.zero_le _, by simp only [uU_zero, vU_zero, lU_zero], rfl⟩ ?_
              rintro rk t L' ⟨k, rfl, hk, rfl, rfl⟩
              rcases Nat.lt_or_ge k (n + 1) with hkl | hkg
              · cases hu : used1 k with
                | true =>
                  have hr5 : ∀ (b0 b1 b2 b3 b4 : Option Blk) (T : AM), Rd (M ++ (b0 :: b1 :: b2 :: b3 :: b4 :: some { cells := bv (tabB (used1) (n + 1)) } :: T)) (M.length + 5) k (.bool true) := fun _ _ _ _ _ _ => by rw [← hu]; exact rt5 _ (by omega)
                  have hrk := hrowT k (by omega) hu
                  have b1 := hbu (row1 k) hrk.1 hrk.2
                  have b2 : -50000000000 ≤ v k ∧ v k ≤ 50000000000 := by
                    by_cases k0 : k = 0
                    · subst k0; omega
                    · have := hbv k (by omega) (by omega); omega
                  have ua := uU_at (u := u) (dl := dl) (hinjU k (by omega) hu)
                  have va := vU_at (v := v) (used := used1) (dl := dl) (k := k)
                  have uy := uU_yes (u := u) (row := row1) (dl := dl) hu
                  have vy := vU_yes (v := v) (dl := dl) hu
                  have ln := lU_no (v := LN) (dl := dl) hu
                  have hr0 : ∀ (T : AM), Rd (M ++ (some { cells := iv (tab (uU u row1 used1 dl k) (n + 1)) } :: T)) (M.length + 0) (row1 k) (.int .i64 (u (row1 k))) := fun _ => by rw [← ua]; exact rt0 _ (by omega)
                  have hr1 : ∀ (b0 : Option Blk) (T : AM), Rd (M ++ (b0 :: some { cells := iv (tab (vU v used1 dl k) (n + 1)) } :: T)) (M.length + 1) k (.int .i64 (v k)) := fun b0 T => by
                    have h := rt1 (M := M) (T := T) (b0 := b0) (vU v used1 dl k) (show k < n + 1 by omega)
                    rw [va] at h; exact h
                  (repeat (first | (with_reducible refine AWo.cons ?_) | ((with_reducible refine Step.id ?_); first | ((with_reducible apply Step.move); exact rfl; exact rfl) | ((with_reducible apply Step.assign); exact rfl; exact rfl) | ((with_reducible apply Step.load); exact rfl; (focus (decide +kernel)); exact rfl; (focus (first | exact hr5 _ _ _ _ _ _ | exact rt2 _ (by omega) | exact hr0 _ | exact hr1 _ _))) | ((with_reducible apply Step.ix1z); exact rfl; (focus (exact Sl.mk (by omega))); exact rfl; (focus (decide +kernel)); exact rfl; (focus (omega))) | ((with_reducible apply Step.add); exact rfl; exact rfl; (focus (omega)); exact rfl) | ((with_reducible apply Step.sub); exact rfl; exact rfl; (focus (omega)); exact rfl) | ((with_reducible apply Step.lss); exact rfl; exact rfl; exact rfl) | ((with_reducible apply Step.store (k := 0)); exact rfl; exact rfl; exact rfl; exact rfl; (focus (decide +kernel)); exact rfl; exact rfl; (focus (first | omega | (simp [iv, bv]; done) | (simp [iv, bv]; omega))); (focus (first | (simp only [List.nil_append, List.cons_append, List.set_cons_zero, List.set_cons_succ, iv_set, bv_set, iv_rep, bv_rep]; done) | (simp only [List.nil_append, List.cons_append, List.set_cons_zero, List.set_cons_succ, iv_set, bv_set, iv_rep, bv_rep]; rfl) | rfl))) | ((with_reducible apply Step.store (k := 1)); exact rfl; exact rfl; exact rfl; exact rfl; (focus (decide +kernel)); exact rfl; exact rfl; (focus (first | omega | (simp [iv, bv]; done) | (simp [iv, bv]; omega))); (focus (first | (simp only [List.nil_append, List.cons_append, List.set_cons_zero, List.set_cons_succ, iv_set, bv_set, iv_rep, bv_rep]; done) | (simp only [List.nil_append, List.cons_append, List.set_cons_zero, List.set_cons_succ, iv_set, bv_set, iv_rep, bv_rep]; rfl) | rfl)))) | (with_reducible refine AWo.nil ?_) | ((with_reducible apply AW.seq)) | ((with_reducible apply Then.n)) | ((with_reducible apply AW.regL)) | ((with_reducible apply AW.block)) | ((with_reducible apply InBlk.n)) | ((with_reducible apply AW.skip)) | ((with_reducible apply AW.condT); exact rfl; (focus (first | rfl | (simp only [decide_eq_true_eq, decide_eq_false_iff_not, Bool.not_eq_true', Bool.not_eq_false', Bool.not_true, Bool.not_false]; first | assumption | omega))))))
                  exact ⟨_, [(4, .pointer (some ⟨x4, 0, none⟩)), (5, .pointer (some ⟨x5, 0, none⟩)), (6, .int .i64 0), (9, .int .i64 (n : Nat)), (11, .func (.func 89) #[] #[.pointer (some ⟨x3, 0, none⟩), .pointer (some ⟨x10, 0, none⟩), .pointer (some ⟨x4, 0, none⟩), .pointer (some ⟨x5, 0, none⟩)]), (12, .slice (some ⟨M.length + 0, 0, none⟩) (n + 1) (n + 1)), (13, .slice (some ⟨M.length + 1, 0, none⟩) (n + 1) (n + 1)), (14, .slice (some ⟨M.length + 2, 0, none⟩) (n + 1) (n + 1)), (15, .slice (some ⟨M.length + 3, 0, none⟩) (n + 1) (n + 1)), (16, .int .i64 (i : Nat)), (17, .slice (some ⟨M.length + 4, 0, none⟩) (n + 1) (n + 1)), (18, .slice (some ⟨M.length + 5, 0, none⟩) (n + 1) (n + 1)), (21, .int .i64 dl), (22, .int .i64 (nx : Nat)), (132, .slice (some ⟨M.length + 5, 0, none⟩) (n + 1) (n + 1)), (133, .int .i64 ((n + 1 : Nat) : Int)), (134, .int .i64 ((k + 1 : Nat) : Int))],
                    [some { cells := iv (tab (up (uU u row1 used1 dl k) (row1 k) (u (row1 k) + dl)) (n + 1)) }, some { cells := iv (tab (up (vU v used1 dl k) k (v k - dl)) (n + 1)) }, some { cells := iv (tab (fun z => (((row1) z : Nat) : Int)) (n + 1)) }, some { cells := iv (tab (fun z => (((way1) z : Nat) : Int)) (n + 1)) }, some { cells := iv (tab (lU LN used1 dl k) (n + 1)) }, some { cells := bv (tabB (used1) (n + 1)) }], by omega, by rw [tab_set, tab_set]; exact (Or.inl ⟨rfl, (by repeat (first | exact trivial | (refine And.intro rfl ?_)))⟩), k + 1, rfl, by omega, by rw [uy, vy, ln], rfl⟩
                | false =>
                  have hr5 : ∀ (b0 b1 b2 b3 b4 : Option Blk) (T : AM), Rd (M ++ (b0 :: b1 :: b2 :: b3 :: b4 :: some { cells := bv (tabB (used1) (n + 1)) } :: T)) (M.length + 5) k (.bool false) := fun _ _ _ _ _ _ => by rw [← hu]; exact rt5 _ (by omega)
                  have b3 := hlS k (by omega) hu
                  have la := lU_at (v := LN) (used := used1) (dl := dl) (k := k)
                  have ly := lU_yes (v := LN) (dl := dl) hu
                  have un := uU_no (u := u) (row := row1) (dl := dl) hu
                  have vn := vU_no (v := v) (dl := dl) hu
                  have hr4 : ∀ (b0 b1 b2 b3 : Option Blk) (T : AM), Rd (M ++ (b0 :: b1 :: b2 :: b3 :: some { cells := iv (tab (lU LN used1 dl k) (n + 1)) } :: T)) (M.length + 4) k (.int .i64 (LN k)) := fun b0 b1 b2 b3 T => by
                    have h := rt4 (M := M) (T := T) (b0 := b0) (b1 := b1) (b2 := b2) (b3 := b3) (lU LN used1 dl k) (show k < n + 1 by omega)
                    rw [la] at h; exact h
                  (repeat (first | (with_reducible refine AWo.cons ?_) | ((with_reducible refine Step.id ?_); first | ((with_reducible apply Step.move); exact rfl; exact rfl) | ((with_reducible apply Step.assign); exact rfl; exact rfl) | ((with_reducible apply Step.load); exact rfl; (focus (decide +kernel)); exact rfl; (focus (first | exact hr5 _ _ _ _ _ _ | exact hr4 _ _ _ _ _))) | ((with_reducible apply Step.ix1z); exact rfl; (focus (exact Sl.mk (by omega))); exact rfl; (focus (decide +kernel)); exact rfl; (focus (omega))) | ((with_reducible apply Step.add); exact rfl; exact rfl; (focus (omega)); exact rfl) | ((with_reducible apply Step.sub); exact rfl; exact rfl; (focus (omega)); exact rfl) | ((with_reducible apply Step.lss); exact rfl; exact rfl; exact rfl) | ((with_reducible apply Step.store (k := 4)); exact rfl; exact rfl; exact rfl; exact rfl; (focus (decide +kernel)); exact rfl; exact rfl; (focus (first | omega | (simp [iv, bv]; done) | (simp [iv, bv]; omega))); (focus (first | (simp only [List.nil_append, List.cons_append, List.set_cons_zero, List.set_cons_succ, iv_set, bv_set, iv_rep, bv_rep]; done) | (simp only [List.nil_append, List.cons_append, List.set_cons_zero, List.set_cons_succ, iv_set, bv_set, iv_rep, bv_rep]; rfl) | rfl)))) | (with_reducible refine AWo.nil ?_) | ((with_reducible apply AW.seq)) | ((with_reducible apply Then.n)) | ((with_reducible apply AW.regL)) | ((with_reducible apply AW.block)) | ((with_reducible apply InBlk.n)) | ((with_reducible apply AW.skip)) | ((with_reducible apply AW.condT); exact rfl; (focus ((simp only [decide_eq_true_eq, decide_eq_false_iff_not, Bool.not_eq_true', Bool.not_eq_false', Bool.not_true, Bool.not_false]; first | assumption | omega)))) | ((with_reducible apply AW.condF); exact rfl; (focus (rfl)))))
                  exact ⟨_, [(4, .pointer (some ⟨x4, 0, none⟩)), (5, .pointer (some ⟨x5, 0, none⟩)), (6, .int .i64 0), (9, .int .i64 (n : Nat)), (11, .func (.func 89) #[] #[.pointer (some ⟨x3, 0, none⟩), .pointer (some ⟨x10, 0, none⟩), .pointer (some ⟨x4, 0, none⟩), .pointer (some ⟨x5, 0, none⟩)]), (12, .slice (some ⟨M.length + 0, 0, none⟩) (n + 1) (n + 1)), (13, .slice (some ⟨M.length + 1, 0, none⟩) (n + 1) (n + 1)), (14, .slice (some ⟨M.length + 2, 0, none⟩) (n + 1) (n + 1)), (15, .slice (some ⟨M.length + 3, 0, none⟩) (n + 1) (n + 1)), (16, .int .i64 (i : Nat)), (17, .slice (some ⟨M.length + 4, 0, none⟩) (n + 1) (n + 1)), (18, .slice (some ⟨M.length + 5, 0, none⟩) (n + 1) (n + 1)), (21, .int .i64 dl), (22, .int .i64 (nx : Nat)), (132, .slice (some ⟨M.length + 5, 0, none⟩) (n + 1) (n + 1)), (133, .int .i64 ((n + 1 : Nat) : Int)), (134, .int .i64 ((k + 1 : Nat) : Int))],
                    [some { cells := iv (tab (uU u row1 used1 dl k) (n + 1)) }, some { cells := iv (tab (vU v used1 dl k) (n + 1)) }, some { cells := iv (tab (fun z => (((row1) z : Nat) : Int)) (n + 1)) }, some { cells := iv (tab (fun z => (((way1) z : Nat) : Int)) (n + 1)) }, some { cells := iv (tab (up (lU LN used1 dl k) k (LN k - dl)) (n + 1)) }, some { cells := bv (tabB (used1) (n + 1)) }], by omega, by rw [tab_set]; exact (Or.inl ⟨rfl, (by repeat (first | exact trivial | (refine And.intro rfl ?_)))⟩), k + 1, rfl, by omega, by rw [ly, un, vn], rfl⟩
              · have hkn : k = n + 1 := by omega
                rw [hkn]
                (repeat (first | (with_reducible refine AWo.cons ?_) | ((with_reducible refine Step.id ?_); first | ((with_reducible apply Step.move); exact rfl; exact rfl) | ((with_reducible apply Step.assign); exact rfl; exact rfl) | ((with_reducible apply Step.lss); exact rfl; exact rfl; exact rfl)) | (with_reducible refine AWo.nil ?_) | ((with_reducible apply AW.seq)) | ((with_reducible apply Then.n)) | ((with_reducible apply AW.regL)) | ((with_reducible apply AW.exit)) | ((with_reducible apply InBlk.n)) | ((with_reducible apply InBlk.hit)) | ((with_reducible apply Then.e)) | ((with_reducible apply AW.condF); exact rfl; (focus ((simp only [decide_eq_true_eq, decide_eq_false_iff_not, Bool.not_eq_true', Bool.not_eq_false', Bool.not_true, Bool.not_false]; first | assumption | omega))))))
                refine ⟨_, _, _, ?_, (Or.inl ⟨rfl, (by repeat (first | exact trivial | (refine And.intro rfl ?_)))⟩), _, _, _, _, _, nx, j :: rest, rfl, hiw, rfl, rfl⟩
                simp only [List.length_cons]; omega
  · have hie : i = n + 1 := by omega
    subst hie
    clear hge hi1 hi2 hlt0
    obtain ⟨p, p1, p2, p3, p4⟩ := ov.all
    have hrw : ∀ k, k < n → 1 ≤ row (k + 1) ∧ row (k + 1) ≤ n := fun k hk => by
      obtain ⟨q, q1, q2⟩ := p4 k hk
      rw [← q2, p3 q q1]; omega
    clear p1 p2 p3 p4
    clear p
    (repeat (first | (with_reducible refine AWo.cons ?_) | ((with_reducible refine Step.id ?_); first | ((with_reducible apply Step.move); exact rfl; exact rfl) | ((with_reducible apply Step.assign); exact rfl; exact rfl) | ((with_reducible apply Step.leq); exact rfl; exact rfl; exact rfl)) | (with_reducible refine AWo.nil ?_) | ((with_reducible apply AW.seq)) | ((with_reducible apply Then.n)) | ((with_reducible apply AW.regL)) | ((with_reducible apply AW.block)) | ((with_reducible apply AW.exit)) | ((with_reducible apply InBlk.hit)) | ((with_reducible apply Then.e)) | ((with_reducible apply AW.condF); exact rfl; (focus ((simp only [decide_eq_true_eq, decide_eq_false_iff_not, Bool.not_eq_true', Bool.not_eq_false', Bool.not_true, Bool.not_false]; first | assumption | omega))))))
    refine AW.loopT (fun rk t L' => ∃ k : Nat, rk = n - k ∧ k ≤ n ∧ L' = [some { cells := iv (tab u (n + 1)) }, some { cells := iv (tab v (n + 1)) }, some { cells := iv (tab (fun z => (((row) z : Nat) : Int)) (n + 1)) }, some { cells := iv (tab (fun z => (((way) z : Nat) : Int)) (n + 1)) }] ∧ 0 ≤ sN (fun x => -lossN c l r L R (row (x + 1)) (x + 1)) k ∧ sN (fun x => -lossN c l r L R (row (x + 1)) (x + 1)) k ≤ 1000000000 * k ∧
      t = [(4, .pointer (some ⟨x4, 0, none⟩)), (5, .pointer (some ⟨x5, 0, none⟩)), (9, .int .i64 (n : Nat)), (11, .func (.func 89) #[] #[.pointer (some ⟨x3, 0, none⟩), .pointer (some ⟨x10, 0, none⟩), .pointer (some ⟨x4, 0, none⟩), .pointer (some ⟨x5, 0, none⟩)]), (6, .int .i64 (sN (fun x => -lossN c l r L R (row (x + 1)) (x + 1)) k)), (12, .slice (some ⟨M.length + 0, 0, none⟩) (n + 1) (n + 1)), (13, .slice (some ⟨M.length + 1, 0, none⟩) (n + 1) (n + 1)), (14, .slice (some ⟨M.length + 2, 0, none⟩) (n + 1) (n + 1)), (15, .slice (some ⟨M.length + 3, 0, none⟩) (n + 1) (n + 1)), (26, .int .i64 ((k + 1 : Nat) : Int))])
      ⟨_, [(4, .pointer (some ⟨x4, 0, none⟩)), (5, .pointer (some ⟨x5, 0, none⟩)), (9, .int .i64 (n : Nat)), (11, .func (.func 89) #[] #[.pointer (some ⟨x3, 0, none⟩), .pointer (some ⟨x10, 0, none⟩), .pointer (some ⟨x4, 0, none⟩), .pointer (some ⟨x5, 0, none⟩)]), (6, .int .i64 (sN (fun x => -lossN c l r L R (row (x + 1)) (x + 1)) 0)), (12, .slice (some ⟨M.length + 0, 0, none⟩) (n + 1) (n + 1)), (13, .slice (some ⟨M.length + 1, 0, none⟩) (n + 1) (n + 1)), (14, .slice (some ⟨M.length + 2, 0, none⟩) (n + 1) (n + 1)), (15, .slice (some ⟨M.length + 3, 0, none⟩) (n + 1) (n + 1)), (26, .int .i64 ((0 + 1 : Nat) : Int))], _, (Or.inl ⟨rfl, (by repeat (first | exact trivial | (refine And.intro rfl ?_)))⟩), 0, rfl, Nat.zero_le _, rfl, by simp [sN], by simp [sN], rfl⟩ ?_
    rintro rk t L' ⟨k, rfl, hk, rfl, hs1, hs2, rfl⟩
    rcases Nat.lt_or_ge k n with hkl | hkg
    · have hr1 := hrw k hkl
      have b3 := hLs (row (k + 1)) (k + 1) (by omega) (by omega) (by omega) (by omega)
      have hsn : sN (fun x => -lossN c l r L R (row (x + 1)) (x + 1)) (k + 1) = sN (fun x => -lossN c l r L R (row (x + 1)) (x + 1)) k + -lossN c l r L R (row (k + 1)) (k + 1) := rfl
      have hl0 := hloss
      generalize hSk : sN (fun x => -lossN c l r L R (row (x + 1)) (x + 1)) k = Sk at *
      (repeat (first | (with_reducible refine AWo.cons ?_) | ((with_reducible refine Step.id ?_); first | ((with_reducible apply Step.move); exact rfl; exact rfl) | ((with_reducible apply Step.assign); exact rfl; exact rfl) | ((with_reducible apply Step.load); exact rfl; (focus (decide +kernel)); exact rfl; (focus (exact rt2 _ (by omega)))) | ((with_reducible apply Step.ix1z); exact rfl; (focus (exact Sl.mk (by omega))); exact rfl; (focus (decide +kernel)); exact rfl; (focus (omega))) | ((with_reducible apply Step.add); exact rfl; exact rfl; (focus (omega)); exact rfl) | ((with_reducible apply Step.sub); exact rfl; exact rfl; (focus (omega)); exact rfl) | ((with_reducible apply Step.leq); exact rfl; exact rfl; exact rfl) | ((with_reducible apply Step.callV fit); exact rfl; exact rfl; exact hf; exact hb; exact rfl; exact (hl0 _ _ _ (by omega) (by omega) (by omega) (by omega)))) | (with_reducible refine AWo.nil ?_) | ((with_reducible apply AW.seq)) | ((with_reducible apply Then.n)) | ((with_reducible apply AW.regL)) | ((with_reducible apply AW.block)) | ((with_reducible apply InBlk.n)) | ((with_reducible apply AW.skip)) | ((with_reducible apply AW.condT); exact rfl; (focus ((simp only [decide_eq_true_eq, decide_eq_false_iff_not, Bool.not_eq_true', Bool.not_eq_false', Bool.not_true, Bool.not_false]; first | assumption | omega))))))
      exact ⟨_, [(4, .pointer (some ⟨x4, 0, none⟩)), (5, .pointer (some ⟨x5, 0, none⟩)), (9, .int .i64 (n : Nat)), (11, .func (.func 89) #[] #[.pointer (some ⟨x3, 0, none⟩), .pointer (some ⟨x10, 0, none⟩), .pointer (some ⟨x4, 0, none⟩), .pointer (some ⟨x5, 0, none⟩)]), (6, .int .i64 (Sk - lossN c l r L R (row (k + 1)) (k + 1))), (12, .slice (some ⟨M.length + 0, 0, none⟩) (n + 1) (n + 1)), (13, .slice (some ⟨M.length + 1, 0, none⟩) (n + 1) (n + 1)), (14, .slice (some ⟨M.length + 2, 0, none⟩) (n + 1) (n + 1)), (15, .slice (some ⟨M.length + 3, 0, none⟩) (n + 1) (n + 1)), (26, .int .i64 ((k + 1 + 1 : Nat) : Int))], _, by omega, (Or.inl ⟨rfl, (by repeat (first | exact trivial | (refine And.intro rfl ?_)))⟩), k + 1, rfl, by omega, rfl, by omega, by omega, by rw [hsn, Int.sub_eq_add_neg]⟩
    · have hkn : k = n := by omega
      subst hkn
      clear hkg hk hs1 hs2
      have hIu : ∀ T : AM, Ints (M ++ (some { cells := iv (tab u (k + 1)) } :: T)) (tailV (M.length + 0) 0 k k) (tab (fun x => u (x + 1)) k) := fun T => by
        unfold tailV
        by_cases h0 : k = 0
        · subst h0; rw [if_pos rfl]; exact ⟨M.length + 0, 0, Sl.mk (Nat.le_refl _), by simp, fun x hx => by simp at hx⟩
        · rw [if_neg h0]
          refine ⟨M.length + 0, 0 + 1, by rw [tab_len]; exact Sl.mk (Nat.le_refl _), by simp, fun x hx => ?_⟩
          rw [tab_len] at hx
          rw [tab_get _ hx, show 0 + 1 + x = x + 1 by omega]
          exact rt0 u (by omega)
      have hIv : ∀ (b0 : Option Blk) (T : AM), Ints (M ++ (b0 :: some { cells := iv (tab v (k + 1)) } :: T)) (tailV (M.length + 1) 0 k k) (tab (fun x => v (x + 1)) k) := fun b0 T => by
        unfold tailV
        by_cases h0 : k = 0
        · subst h0; rw [if_pos rfl]; exact ⟨M.length + 1, 0, Sl.mk (Nat.le_refl _), by simp, fun x hx => by simp at hx⟩
        · rw [if_neg h0]
          refine ⟨M.length + 1, 0 + 1, by rw [tab_len]; exact Sl.mk (Nat.le_refl _), by simp, fun x hx => ?_⟩
          rw [tab_len] at hx
          rw [tab_get _ hx, show 0 + 1 + x = x + 1 by omega]
          exact rt1 v (by omega)
      have hbu : ∀ x, x < k → -9000000000000000000 ≤ u (x + 1) ∧ u (x + 1) ≤ 9000000000000000000 := fun x hx => by have := huv (x + 1) (by omega) (by omega); omega
      have hbv : ∀ x, x < k → -9000000000000000000 ≤ v (x + 1) ∧ v (x + 1) ≤ 9000000000000000000 := fun x hx => by have := huv (x + 1) (by omega) (by omega); omega
      (repeat (first | (with_reducible refine AWo.cons ?_) | ((with_reducible refine Step.id ?_); first | ((with_reducible apply Step.move); exact rfl; exact rfl) | ((with_reducible apply Step.leq); exact rfl; exact rfl; exact rfl)) | (with_reducible refine AWo.nil ?_) | ((fail_if_success (with_reducible refine AW.atR (id := 44) ?_)); ((with_reducible apply AW.seq))) | ((with_reducible apply Then.n)) | ((with_reducible apply AW.regL)) | ((with_reducible apply AW.exit)) | ((with_reducible apply InBlk.hit)) | ((with_reducible apply Then.e)) | ((with_reducible apply AW.condF); exact rfl; (focus ((simp only [decide_eq_true_eq, decide_eq_false_iff_not, Bool.not_eq_true', Bool.not_eq_false', Bool.not_true, Bool.not_false]; first | assumption | omega))))))
      refine AW.joinG (fr [(4, .pointer (some ⟨x4, 0, none⟩)), (5, .pointer (some ⟨x5, 0, none⟩)), (6, .int .i64 (sN (fun x => -lossN c l r L R (row (x + 1)) (x + 1)) k)), (9, .int .i64 (k : Nat)), (7, .slice (some ⟨M.length + 0, 0, none⟩) k k), (8, .slice (some ⟨M.length + 1, 0, none⟩) k k)])
        (M ++ [some { cells := iv (tab (fun x => -u (x + 1)) k) }, some { cells := iv (tab (fun x => -v (x + 1)) k) }]) ?_ ?_
      · (repeat' (first | ((with_reducible refine Step.id ?_); first | ((with_reducible apply Step.move); exact rfl; exact rfl) | ((with_reducible apply Step.assign); exact rfl; exact rfl) | ((with_reducible apply Step.tail); exact rfl; exact rfl; (focus (first | assumption | exact OwnAt.new rfl rfl)); exact un27; exact sz3; exact rfl; (focus (first | (simp only [List.nil_append, List.cons_append, List.set_cons_zero, List.set_cons_succ, iv_set, bv_set, iv_rep, bv_rep]; done) | (simp only [List.nil_append, List.cons_append, List.set_cons_zero, List.set_cons_succ, iv_set, bv_set, iv_rep, bv_rep]; rfl) | rfl))) | ((with_reducible apply Step.callN fit (k := 5)); exact rfl; exact rfl; exact Try.func90; exact rfl; exact rfl; exact (negated_ok (f := fun x => u (x + 1)) (hIu _) (by omega) hbu); (focus (first | (simp only [List.nil_append, List.cons_append, List.set_cons_zero, List.set_cons_succ, iv_set, bv_set, iv_rep, bv_rep]; done) | (simp only [List.nil_append, List.cons_append, List.set_cons_zero, List.set_cons_succ, iv_set, bv_set, iv_rep, bv_rep]; rfl) | rfl))) | ((with_reducible apply Step.callN fit (k := 6)); exact rfl; exact rfl; exact Try.func90; exact rfl; exact rfl; exact (negated_ok (f := fun x => u (x + 1)) (hIu _) (by omega) hbu); (focus (first | (simp only [List.nil_append, List.cons_append, List.set_cons_zero, List.set_cons_succ, iv_set, bv_set, iv_rep, bv_rep]; done) | (simp only [List.nil_append, List.cons_append, List.set_cons_zero, List.set_cons_succ, iv_set, bv_set, iv_rep, bv_rep]; rfl) | rfl))) | ((with_reducible apply Step.callN fit (k := 7)); exact rfl; exact rfl; exact Try.func90; exact rfl; exact rfl; exact (negated_ok (f := fun x => v (x + 1)) (hIv _ _) (by omega) hbv); (focus (first | (simp only [List.nil_append, List.cons_append, List.set_cons_zero, List.set_cons_succ, iv_set, bv_set, iv_rep, bv_rep]; done) | (simp only [List.nil_append, List.cons_append, List.set_cons_zero, List.set_cons_succ, iv_set, bv_set, iv_rep, bv_rep]; rfl) | rfl)))) | ((with_reducible apply Then.n)) | ((with_reducible apply AW.drawT fit (T := (.step 0 (.step 3 (.both (.step 1 (.both (.step 2 (.step 4 (.step 5 (.step 6 (.step 7 .done))))) (.step 4 (.step 2 (.step 5 (.step 6 (.step 7 .done))))))) (.step 4 (.step 1 (.step 2 (.step 5 (.step 6 (.step 7 .done))))))))))); (focus (decide +kernel))) | ((with_reducible apply AWt.step); exact rfl) | ((with_reducible apply AWt.done)) | refine AWt.both ?_ ?_))
        all_goals first | (refine Gc.perm [5,7] rfl (by decide) ?_ (CellsOk.ren ?_) ?_; (focus (intro p hp; rcases p with _ | _ | p <;> first | rfl | exact absurd hp (lenB (n := 2) rfl))); (focus (repeat (first | exact CellsOk.nil | refine CellsOk.cons (by exact g0_iv _) ?_))); (focus ((repeat (first | exact trivial | (refine And.intro ⟨_, rfl, ?_⟩ ?_; (focus (first | exact Low.sg (by assumption) (by simp) | exact .int _ _ | (refine Ren.slice_sg ?_; (focus (first | (simp; done) | omega | (simp; omega))))))))); done))) | (refine Gc.perm [5,6] rfl (by decide) ?_ (CellsOk.ren ?_) ?_; (focus (intro p hp; rcases p with _ | _ | p <;> first | rfl | exact absurd hp (lenB (n := 2) rfl))); (focus (repeat (exact CellsOk.nil))); (focus ((repeat (first | exact trivial | (refine And.intro ⟨_, rfl, ?_⟩ ?_; (focus (exact Low.sg (by assumption) (by simp)))))); done))) | (refine Gc.perm [5,4] rfl (by decide) ?_ (CellsOk.ren ?_) ?_; (focus (intro p hp; rcases p with _ | _ | p <;> first | rfl | exact absurd hp (lenB (n := 2) rfl))); (focus (repeat (exact CellsOk.nil))); (focus ((repeat (first | exact trivial | (refine And.intro ⟨_, rfl, ?_⟩ ?_; (focus (exact Low.sg (by assumption) (by simp)))))); done))) | (refine Gc.perm [6,7] rfl (by decide) ?_ (CellsOk.ren ?_) ?_; (focus (intro p hp; rcases p with _ | _ | p <;> first | rfl | exact absurd hp (lenB (n := 2) rfl))); (focus (repeat (first | exact CellsOk.nil | refine CellsOk.cons (by exact g0_iv _) ?_))); (focus ((repeat (first | exact trivial | (refine And.intro ⟨_, rfl, ?_⟩ ?_; (focus (first | exact Low.sg (by assumption) (by simp) | exact .int _ _ | (refine Ren.slice_sg ?_; (focus (first | (simp; done) | omega | (simp; omega))))))))); done))) | (refine Gc.perm [6,5] rfl (by decide) ?_ (CellsOk.ren ?_) ?_; (focus (intro p hp; rcases p with _ | _ | p <;> first | rfl | exact absurd hp (lenB (n := 2) rfl))); (focus (repeat (exact CellsOk.nil))); (focus ((repeat (first | exact trivial | (refine And.intro ⟨_, rfl, ?_⟩ ?_; (focus (exact Low.sg (by assumption) (by simp)))))); done))) | (refine Gc.perm [6,4] rfl (by decide) ?_ (CellsOk.ren ?_) ?_; (focus (intro p hp; rcases p with _ | _ | p <;> first | rfl | exact absurd hp (lenB (n := 2) rfl))); (focus (repeat (exact CellsOk.nil))); (focus ((repeat (first | exact trivial | (refine And.intro ⟨_, rfl, ?_⟩ ?_; (focus (exact Low.sg (by assumption) (by simp)))))); done))) | (refine Gc.perm [7,6] rfl (by decide) ?_ (CellsOk.ren ?_) ?_; (focus (intro p hp; rcases p with _ | _ | p <;> first | rfl | exact absurd hp (lenB (n := 2) rfl))); (focus (repeat (exact CellsOk.nil))); (focus ((repeat (first | exact trivial | (refine And.intro ⟨_, rfl, ?_⟩ ?_; (focus (exact Low.sg (by assumption) (by simp)))))); done))) | (refine Gc.perm [7,5] rfl (by decide) ?_ (CellsOk.ren ?_) ?_; (focus (intro p hp; rcases p with _ | _ | p <;> first | rfl | exact absurd hp (lenB (n := 2) rfl))); (focus (repeat (exact CellsOk.nil))); (focus ((repeat (first | exact trivial | (refine And.intro ⟨_, rfl, ?_⟩ ?_; (focus (exact Low.sg (by assumption) (by simp)))))); done))) | (refine Gc.perm [7,4] rfl (by decide) ?_ (CellsOk.ren ?_) ?_; (focus (intro p hp; rcases p with _ | _ | p <;> first | rfl | exact absurd hp (lenB (n := 2) rfl))); (focus (repeat (exact CellsOk.nil))); (focus ((repeat (first | exact trivial | (refine And.intro ⟨_, rfl, ?_⟩ ?_; (focus (exact Low.sg (by assumption) (by simp)))))); done))) | (refine Gc.perm [4,7] rfl (by decide) ?_ (CellsOk.ren ?_) ?_; (focus (intro p hp; rcases p with _ | _ | p <;> first | rfl | exact absurd hp (lenB (n := 2) rfl))); (focus (repeat (exact CellsOk.nil))); (focus ((repeat (first | exact trivial | (refine And.intro ⟨_, rfl, ?_⟩ ?_; (focus (exact Low.sg (by assumption) (by simp)))))); done))) | (refine Gc.perm [4,6] rfl (by decide) ?_ (CellsOk.ren ?_) ?_; (focus (intro p hp; rcases p with _ | _ | p <;> first | rfl | exact absurd hp (lenB (n := 2) rfl))); (focus (repeat (exact CellsOk.nil))); (focus ((repeat (first | exact trivial | (refine And.intro ⟨_, rfl, ?_⟩ ?_; (focus (exact Low.sg (by assumption) (by simp)))))); done))) | (refine Gc.perm [4,5] rfl (by decide) ?_ (CellsOk.ren ?_) ?_; (focus (intro p hp; rcases p with _ | _ | p <;> first | rfl | exact absurd hp (lenB (n := 2) rfl))); (focus (repeat (exact CellsOk.nil))); (focus ((repeat (first | exact trivial | (refine And.intro ⟨_, rfl, ?_⟩ ?_; (focus (exact Low.sg (by assumption) (by simp)))))); done)))
      clear hIu hIv hbu hbv
      obtain ⟨N0, hN0⟩ := hMN
      have eL : ((L.length : Nat) : Int) = ((L.length : Nat) : Int) := rfl
      have eR : ((R.length : Nat) : Int) = ((R.length : Nat) : Int) := rfl
      rcases Nat.eq_zero_or_pos k with hk0 | hk0
      · obtain rfl : k = 0 := hk0
        (repeat (first | (with_reducible refine AWo.cons ?_) | ((with_reducible refine Step.id ?_); first | ((with_reducible apply Step.move); exact rfl; exact rfl) | ((with_reducible apply Step.assign); exact rfl; exact rfl) | ((with_reducible apply Step.load); exact rfl; (focus (decide +kernel)); exact rfl; (focus (first | exact q4.old _ | exact q5.old _))) | ((with_reducible apply Step.slTo); exact rfl; exact rfl; (focus (assumption)); (focus (omega)); exact un27; exact sz3; exact rfl) | ((with_reducible apply Step.gtr); exact rfl; exact rfl; exact rfl) | ((with_reducible apply Step.len); exact rfl; (focus (assumption)); (focus (decide +kernel)); exact rfl)) | (with_reducible refine AWo.nil ?_) | ((with_reducible apply AW.seq)) | ((with_reducible apply Then.n)) | ((with_reducible apply AW.regL)) | ((with_reducible apply AW.drawL fit); (focus (decide +kernel))) | ((with_reducible apply AW.skip)) | ((with_reducible apply AW.condF); exact rfl; (focus (rfl)))))
        (refine AW.ret ?_; (repeat (first | refine Then.r ?_ | refine InBlk.r ?_)))
        have hL0 : L.length = 0 := by omega
        have hR0 : R.length = 0 := by omega
        rw [hL0, hR0]
        exact ⟨_, rfl, N0 ++ [some { cells := iv (tab (fun x => -u (x + 1)) 0) }, some { cells := iv (tab (fun x => -v (x + 1)) 0) }], by rw [hN0, List.append_assoc], _, _, fun _ => 0, fun _ => 0, 0, rfl, Best.none, ⟨M.length + 0, 0, Sl.mk (Nat.le_refl _), by simp, fun x hx => by simp at hx⟩, ⟨M.length + 1, 0, Sl.mk (Nat.le_refl _), by simp, fun x hx => by simp at hx⟩⟩
      · obtain ⟨q, rfl⟩ : ∃ q, k = q + 1 := ⟨k - 1, by omega⟩
        have hfin := Ov.fin hc hl32 hr32 iL iR hn ov
        have hmin := minF_at (fun x => -v (x + 1)) q
        have hlow : 0 ≤ minF (fun x => -v (x + 1)) q ∧ minF (fun x => -v (x + 1)) q ≤ 1000000000 := by
          obtain ⟨z, z1, z2⟩ := hmin
          rw [z2]
          have := huv (z + 1) (by omega) (by omega)
          omega
        have hIb : ∀ (b0 : Option Blk) (T : AM), Ints (M ++ (b0 :: some { cells := iv (tab (fun x => -v (x + 1)) (q + 1)) } :: T)) (.slice (some ⟨M.length + 1, 0, none⟩) (q + 1) (q + 1)) (tab (fun x => -v (x + 1)) (q + 1)) := fun b0 T => ints_new rfl rfl _ (by simp)
        (repeat (first | (with_reducible refine AWo.cons ?_) | ((with_reducible refine Step.id ?_); first | ((with_reducible apply Step.move); exact rfl; exact rfl) | ((with_reducible apply Step.assign); exact rfl; exact rfl) | ((with_reducible apply Step.gtr); exact rfl; exact rfl; exact rfl) | ((with_reducible apply Step.callR fit); exact rfl; exact Try.func91; exact rfl; exact rfl; exact (min_ok (hIb _ _) (by omega)))) | (with_reducible refine AWo.nil ?_) | ((with_reducible apply AW.seq)) | ((with_reducible apply Then.n)) | ((with_reducible apply AW.regL)) | ((with_reducible apply AW.block)) | ((with_reducible apply AW.condT); exact rfl; (focus ((simp only [decide_eq_true_eq, decide_eq_false_iff_not, Bool.not_eq_true', Bool.not_eq_false', Bool.not_true, Bool.not_false]; first | assumption | omega))))))
        generalize hlw : minF (fun x => -v (x + 1)) q = low at *
        refine AW.loopT (fun rk t L' => ∃ k : Nat, rk = q + 1 - k ∧ k ≤ q + 1 ∧ L' = [some { cells := iv (tab (fun x => if x < k then -u (x + 1) + low else -u (x + 1)) (q + 1)) }, some { cells := iv (tab (fun x => if x < k then -v (x + 1) - low else -v (x + 1)) (q + 1)) }] ∧
          t = [(4, .pointer (some ⟨x4, 0, none⟩)), (5, .pointer (some ⟨x5, 0, none⟩)), (6, .int .i64 (sN (fun x => -lossN c l r L R (row (x + 1)) (x + 1)) (q + 1))), (7, .slice (some ⟨M.length + 0, 0, none⟩) (q + 1) (q + 1)), (8, .slice (some ⟨M.length + 1, 0, none⟩) (q + 1) (q + 1)), (27, .int .i64 low), (207, .int .i64 ((q + 1 : Nat) : Int)), (208, .int .i64 (k : Nat))])
          ⟨_, _, _, (Or.inl ⟨rfl, (by repeat (first | exact trivial | (refine And.intro rfl ?_)))⟩), 0, rfl, Nat.zero_le _, by simp, rfl⟩ ?_
        rintro rk t L' ⟨k, rfl, hk, rfl, rfl⟩
        rcases Nat.lt_or_ge k (q + 1) with hkl | hkg
        · have hb := huv (k + 1) (by omega) (by omega)
          have hra : ∀ T : AM, Rd (M ++ (some { cells := iv (tab (fun x => if x < k then -u (x + 1) + low else -u (x + 1)) (q + 1)) } :: T)) (M.length + 0) k (.int .i64 (-u (k + 1))) := fun T => by
            have h := rt0 (M := M) (T := T) (fun x => if x < k then -u (x + 1) + low else -u (x + 1)) (show k < q + 1 by omega)
            simp only [Nat.lt_irrefl, if_false] at h; exact h
          have hrb : ∀ (b0 : Option Blk) (T : AM), Rd (M ++ (b0 :: some { cells := iv (tab (fun x => if x < k then -v (x + 1) - low else -v (x + 1)) (q + 1)) } :: T)) (M.length + 1) k (.int .i64 (-v (k + 1))) := fun b0 T => by
            have h := rt1 (M := M) (T := T) (b0 := b0) (fun x => if x < k then -v (x + 1) - low else -v (x + 1)) (show k < q + 1 by omega)
            simp only [Nat.lt_irrefl, if_false] at h; exact h
          have ea : up (fun x => if x < k then -u (x + 1) + low else -u (x + 1)) k (-u (k + 1) + low) = fun x => if x < k + 1 then -u (x + 1) + low else -u (x + 1) := by
            funext x
            simp only [up]
            by_cases e : x = k
            · subst e; rw [if_pos rfl, if_pos (by omega)]
            · rw [if_neg e]
              by_cases d : x < k
              · rw [if_pos d, if_pos (by omega)]
              · rw [if_neg d, if_neg (by omega)]
          have eb : up (fun x => if x < k then -v (x + 1) - low else -v (x + 1)) k (-v (k + 1) - low) = fun x => if x < k + 1 then -v (x + 1) - low else -v (x + 1) := by
            funext x
            simp only [up]
            by_cases e : x = k
            · subst e; rw [if_pos rfl, if_pos (by omega)]
            · rw [if_neg e]
              by_cases d : x < k
              · rw [if_pos d, if_pos (by omega)]
              · rw [if_neg d, if_neg (by omega)]
          (repeat (first | (with_reducible refine AWo.cons ?_) | ((with_reducible refine Step.id ?_); first | ((with_reducible apply Step.move); exact rfl; exact rfl) | ((with_reducible apply Step.assign); exact rfl; exact rfl) | ((with_reducible apply Step.load); exact rfl; (focus (decide +kernel)); exact rfl; (focus (first | exact hra _ | exact hrb _ _))) | ((with_reducible apply Step.ix1z); exact rfl; (focus (exact Sl.mk (by omega))); exact rfl; (focus (decide +kernel)); exact rfl; (focus (omega))) | ((with_reducible apply Step.add); exact rfl; exact rfl; (focus (omega)); exact rfl) | ((with_reducible apply Step.sub); exact rfl; exact rfl; (focus (omega)); exact rfl) | ((with_reducible apply Step.lss); exact rfl; exact rfl; exact rfl) | ((with_reducible apply Step.store (k := 0)); exact rfl; exact rfl; exact rfl; exact rfl; (focus (decide +kernel)); exact rfl; exact rfl; (focus (first | omega | (simp [iv, bv]; done) | (simp [iv, bv]; omega))); (focus (first | (simp only [List.nil_append, List.cons_append, List.set_cons_zero, List.set_cons_succ, iv_set, bv_set, iv_rep, bv_rep]; done) | (simp only [List.nil_append, List.cons_append, List.set_cons_zero, List.set_cons_succ, iv_set, bv_set, iv_rep, bv_rep]; rfl) | rfl))) | ((with_reducible apply Step.store (k := 1)); exact rfl; exact rfl; exact rfl; exact rfl; (focus (decide +kernel)); exact rfl; exact rfl; (focus (first | omega | (simp [iv, bv]; done) | (simp [iv, bv]; omega))); (focus (first | (simp only [List.nil_append, List.cons_append, List.set_cons_zero, List.set_cons_succ, iv_set, bv_set, iv_rep, bv_rep]; done) | (simp only [List.nil_append, List.cons_append, List.set_cons_zero, List.set_cons_succ, iv_set, bv_set, iv_rep, bv_rep]; rfl) | rfl)))) | (with_reducible refine AWo.nil ?_) | ((with_reducible apply AW.seq)) | ((with_reducible apply Then.n)) | ((with_reducible apply AW.regL)) | ((with_reducible apply AW.block)) | ((with_reducible apply AW.drawL fit); (focus (decide +kernel))) | ((with_reducible apply InBlk.n)) | ((with_reducible apply AW.skip)) | ((with_reducible apply AW.condT); exact rfl; (focus ((simp only [decide_eq_true_eq, decide_eq_false_iff_not, Bool.not_eq_true', Bool.not_eq_false', Bool.not_true, Bool.not_false]; first | assumption | omega))))))
          exact ⟨_, [(4, .pointer (some ⟨x4, 0, none⟩)), (5, .pointer (some ⟨x5, 0, none⟩)), (6, .int .i64 (sN (fun x => -lossN c l r L R (row (x + 1)) (x + 1)) (q + 1))), (7, .slice (some ⟨M.length + 0, 0, none⟩) (q + 1) (q + 1)), (8, .slice (some ⟨M.length + 1, 0, none⟩) (q + 1) (q + 1)), (27, .int .i64 low), (207, .int .i64 ((q + 1 : Nat) : Int)), (208, .int .i64 ((k + 1 : Nat) : Int))],
            [some { cells := iv (tab (up (fun x => if x < k then -u (x + 1) + low else -u (x + 1)) k (-u (k + 1) + low)) (q + 1)) }, some { cells := iv (tab (up (fun x => if x < k then -v (x + 1) - low else -v (x + 1)) k (-v (k + 1) - low)) (q + 1)) }], by omega, by rw [tab_set, tab_set]; exact (Or.inl ⟨rfl, (by repeat (first | exact trivial | (refine And.intro rfl ?_)))⟩), k + 1, rfl, by omega, by rw [ea, eb], rfl⟩
        · have hkq : k = q + 1 := by omega
          subst hkq
          have ea : tab (fun x => if x < q + 1 then -u (x + 1) + low else -u (x + 1)) (q + 1) = tab (fun x => -u (x + 1) + low) (q + 1) := tab_congr fun x hx => if_pos hx
          have eb : tab (fun x => if x < q + 1 then -v (x + 1) - low else -v (x + 1)) (q + 1) = tab (fun x => -v (x + 1) - low) (q + 1) := tab_congr fun x hx => if_pos hx
          rw [ea, eb]
          (repeat (first | (with_reducible refine AWo.cons ?_) | ((with_reducible refine Step.id ?_); first | ((with_reducible apply Step.move); exact rfl; exact rfl) | ((with_reducible apply Step.assign); exact rfl; exact rfl) | ((with_reducible apply Step.load); exact rfl; (focus (decide +kernel)); exact rfl; (focus (first | exact q4.old _ | exact q5.old _))) | ((with_reducible apply Step.slTo); exact rfl; exact rfl; (focus (assumption)); (focus (omega)); exact un27; exact sz3; exact rfl) | ((with_reducible apply Step.lss); exact rfl; exact rfl; exact rfl) | ((with_reducible apply Step.len); exact rfl; (focus (assumption)); (focus (decide +kernel)); exact rfl)) | (with_reducible refine AWo.nil ?_) | ((with_reducible apply AW.seq)) | ((with_reducible apply Then.n)) | ((with_reducible apply AW.regL)) | ((with_reducible apply AW.drawL fit); (focus (decide +kernel))) | ((with_reducible apply AW.exit)) | ((with_reducible apply InBlk.hit)) | ((with_reducible apply Then.e)) | ((with_reducible apply AW.condF); exact rfl; (focus ((simp only [decide_eq_true_eq, decide_eq_false_iff_not, Bool.not_eq_true', Bool.not_eq_false', Bool.not_true, Bool.not_false]; first | assumption | omega))))))
          (refine AW.ret ?_; (repeat (first | refine Then.r ?_ | refine InBlk.r ?_)))
          refine ⟨_, rfl, N0 ++ [some { cells := iv (tab (fun x => -u (x + 1) + low) (q + 1)) }, some { cells := iv (tab (fun x => -v (x + 1) - low) (q + 1)) }], by rw [hN0, List.append_assoc], _, _, _, _, _, rfl, hfin, ?_, ?_⟩
          · exact ⟨M.length + 0, 0, by rw [tab_len]; exact Sl.mk (by omega), by simp, fun x hx => by
              rw [tab_len] at hx
              rw [tab_get _ hx, Nat.zero_add]
              exact rt0 _ (by omega)⟩
          · exact ⟨M.length + 1, 0, by rw [tab_len]; exact Sl.mk (by omega), by simp, fun x hx => by
              rw [tab_len] at hx
              rw [tab_get _ hx, Nat.zero_add]
              exact rt1 _ (by omega)⟩
end Go.Proofs.Ytajpngnphbdnnaa.Abs
