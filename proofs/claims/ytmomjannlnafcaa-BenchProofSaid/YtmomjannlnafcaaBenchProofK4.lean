/- Proved here: what the proof of BenchProof rests on, part 4 of 4. Conditions: those that each theorem names. -/
import Derived.Test.YtmomjannlnafcaaBenchProofK3
namespace Go.Proofs.Ytmomjannlnafcaa.Abs
set_option linter.unusedSimpArgs false
set_option linter.unusedVariables false
open Go.RowKit
open Go.Proofs.Ytmomjannlnafcaa.Sim
open Go.Proofs
def setB (n : Nat) (b : Nat → Bool) : List Int := (upI n).filter fun x => b x.toNat
theorem upI_succ (n : Nat) : upI (n + 1) = upI n ++ [(n : Int)] := by simp [upI, List.range_succ]
theorem setB_succ (n : Nat) (b : Nat → Bool) : setB (n + 1) b = setB n b ++ if b n then [(n : Int)] else [] := by
  unfold setB
  rw [upI_succ, List.filter_append]
  congr 1
  cases h : b n <;> simp [h]
theorem setB_mem {n : Nat} {b : Nat → Bool} {x : Int} : x ∈ setB n b ↔ 0 ≤ x ∧ x < n ∧ b x.toNat = true := by
  unfold setB
  rw [List.mem_filter, mem_upI, and_assoc]
def preL (j : List Job) (set : List Int) (t : Int) (b : Nat → Bool) (i : Nat) : Int × Int := (setB i b).foldl (lastS j set t) (-1, 0)
theorem preL_succ (j : List Job) (set : List Int) (t : Int) (b : Nat → Bool) (i : Nat) : preL j set t b (i + 1) = if b i then lastS j set t (preL j set t b i) i else preL j set t b i := by
  unfold preL
  rw [setB_succ]
  cases h : b i <;> simp [foldl_snoc]
theorem preL_pen (j : List Job) (set : List Int) (t : Int) (b : Nat → Bool) : ∀ i, (preL j set t b i).1 = -1 ∨ ∃ q : Nat, q < i ∧ (preL j set t b i).1 = (q : Int) ∧ (preL j set t b i).2 = penJ (j.getD q default) t
  | 0 => .inl rfl
  | i + 1 => by
    have ih := preL_pen j set t b i
    have ih' : (preL j set t b i).1 = -1 ∨ ∃ q : Nat, q < i + 1 ∧ (preL j set t b i).1 = (q : Int) ∧ (preL j set t b i).2 = penJ (j.getD q default) t := by
      rcases ih with h | ⟨q, h1, h2⟩
      · exact .inl h
      · exact .inr ⟨q, by omega, h2⟩
    rw [preL_succ]
    unfold lastS
    split
    · split
      · exact ih'
      · split
        · exact .inr ⟨i, by omega, rfl, by simp [jb]⟩
        · exact ih'
    · exact ih'
def frJ (j : List Job) (b : Nat → Bool) (i k : Nat) : Bool := b i && (List.range k).all fun q => !(decide (q ≠ i) && b q && decide ((i : Int) ∈ aft j q))
theorem frJ_succ (j : List Job) (b : Nat → Bool) (i k : Nat) : frJ j b i (k + 1) = (frJ j b i k && !(decide (k ≠ i) && b k && decide ((i : Int) ∈ aft j k))) := by
  unfold frJ
  rw [List.range_succ, List.all_append]
  simp only [List.all_cons, List.all_nil, Bool.and_true, Bool.and_assoc]
theorem frJ_end {j : List Job} {b : Nat → Bool} {i : Nat} (hi : i < j.length) (hs : ∀ i, i < j.length → (i : Int) ∉ aft j i) : frJ j b i j.length = (b i && !blkJ j (setB j.length b) i) := by
  unfold frJ
  congr 1
  rw [Bool.eq_iff_iff, List.all_eq_true]
  simp only [List.mem_range, Bool.not_eq_true', Bool.eq_false_iff]
  constructor
  · intro h hb
    unfold blkJ at hb
    rw [List.any_eq_true] at hb
    obtain ⟨x, hx, hx2⟩ := hb
    obtain ⟨x0, x1, x2⟩ := setB_mem.1 hx
    obtain ⟨q, rfl⟩ := Int.eq_ofNat_of_zero_le x0
    have hq : q < j.length := by omega
    refine h q hq ?_
    have hne : q ≠ i := fun e => by
      subst e
      exact hs q hq (by simpa [jb, aft] using hx2)
    simp only [jb, Int.toNat_natCast] at x2 hx2
    simp only [aft, x2, hx2, hne, ne_eq, not_false_eq_true, decide_true, Bool.and_true]
  · intro h q hq hb
    refine h ?_
    simp only [Bool.and_eq_true, decide_eq_true_eq] at hb
    unfold blkJ
    rw [List.any_eq_true]
    exact ⟨(q : Int), setB_mem.2 ⟨by omega, by omega, by simpa using hb.1.2⟩, by simpa [jb, aft] using hb.2⟩
theorem self_not {j : List Job} {P : List Nat} (hJ : JOk j) (hT : Topo j P) (hn : P.length = j.length) (i : Nat) (hi : i < j.length) : (i : Int) ∉ aft j i := by
  intro h
  obtain ⟨q, hq, e⟩ := List.getElem_of_mem (hT.all hn hi)
  have e' : P.getD q 0 = i := by simp only [List.getD_eq_getElem?_getD, List.getElem?_eq_getElem hq, Option.getD_some]; exact e
  have al := hT.al q hq
  unfold alOk at al
  rw [e', List.all_eq_true] at al
  have := al _ h
  simp only [Int.toNat_natCast, decide_eq_true_eq] at this
  obtain ⟨p, hp, e2⟩ := List.getElem_of_mem this
  simp only [List.length_take] at hp
  rw [List.getElem_take] at e2
  have := (List.getElem_inj hT.nd).1 (e2.trans e.symm)
  omega
theorem preL_lastF {j : List Job} {b : Nat → Bool} {set : List Int} (h : setB j.length b = set) : preL j set (sumJ j set) b j.length = lastF j set := by
  unfold preL lastF
  rw [h]
set_option maxHeartbeats 4000000 in
set_option maxRecDepth 100000 in
theorem Rlast_ok {m : AM} {v : Value} {j : List Job} {r : Nat} {b : Nat → Bool} {t : Int} (hj : Jobs m v j) (hJ : JOk j) (hself : ∀ i, i < j.length → (i : Int) ∉ aft j i) (hr : r < m.length) (hb : Boos m r j.length b) (ht : -1000000 ≤ t ∧ t ≤ 1000000) {set : List Int} (hset : setB j.length b = set) {x : Int} (hx : (preL j set t b j.length).1 = x) :
    ACall Try.prog 87 #[v, .slice (some ⟨r, 0, none⟩) j.length j.length, .int .i64 t] m (Ret (.int .i64 x) m) := by
  subst hx
  obtain ⟨a, o, h1, h2, h3⟩ := id hj
  have h40 := hJ.len
  have sr : Sl (.slice (some ⟨r, 0, none⟩) j.length j.length) r 0 j.length := Sl.mk (Nat.le_refl _)
  refine ACall.start Try.func87 rfl rfl ?_
  (repeat (first | (with_reducible refine AWo.cons ?_) | ((with_reducible refine Step.id ?_); first | ((with_reducible apply Step.move); exact rfl; exact rfl) | ((with_reducible apply Step.assign); exact rfl; exact rfl) | ((with_reducible apply Step.len); exact rfl; (focus (assumption)); (focus (decide +kernel)); exact rfl)) | (with_reducible refine AWo.nil ?_) | ((with_reducible apply AW.seq)) | ((with_reducible apply Then.n)) | ((with_reducible apply AW.regL)) | ((with_reducible apply AW.block))))
  refine AW.loopT (fun n' t' L => ∃ (i : Nat) (st : Int × Int), n' = j.length - i ∧ i ≤ j.length ∧ st = preL j set t b i ∧ L = [] ∧
    t' = [(0, v), (1, .slice (some ⟨r, 0, none⟩) j.length j.length), (2, .int .i64 t), (7, .int .i64 st.1), (12, .int .i64 (j.length : Nat)), (13, .int .i64 (i : Nat))]) ⟨_, _, _, (Or.inl ⟨rfl, (by repeat (first | exact trivial | (refine And.intro rfl ?_)))⟩), 0, (-1, 0), rfl, Nat.zero_le _, rfl, rfl, rfl⟩ ?_
  rintro n' t' L ⟨i, ⟨bst, lst⟩, rfl, hi, hst, rfl, rfl⟩
  rcases Nat.lt_or_ge i j.length with hlt | hge
  · have hbi := hb i hlt
    have f0 : frJ j b i 0 = b i := by simp [frJ]
    (repeat (first | (with_reducible refine AWo.cons ?_) | ((with_reducible refine Step.id ?_); first | ((with_reducible apply Step.move); exact rfl; exact rfl) | ((with_reducible apply Step.assign); exact rfl; exact rfl) | ((with_reducible apply Step.load); exact rfl; (focus (decide +kernel)); exact rfl; (focus (exact Rd.old _ (by assumption)))) | ((with_reducible apply Step.ix1z); exact rfl; (focus (assumption)); exact rfl; (focus (decide +kernel)); exact rfl; (focus (omega))) | ((with_reducible apply Step.lss); exact rfl; exact rfl; exact rfl) | ((with_reducible apply Step.len); exact rfl; (focus (assumption)); (focus (decide +kernel)); exact rfl)) | (with_reducible refine AWo.nil ?_) | ((with_reducible apply AW.seq)) | ((with_reducible apply Then.n)) | ((with_reducible apply AW.regL)) | ((with_reducible apply AW.block)) | ((with_reducible apply AW.skip)) | ((with_reducible apply AW.condT); exact rfl; (focus ((simp only [decide_eq_true_eq, decide_eq_false_iff_not, Bool.not_eq_true', Bool.not_eq_false', Bool.not_true, Bool.not_false]; first | assumption | omega))))))
    refine AW.loopT (fun n' t' L => ∃ k : Nat, n' = j.length - k ∧ k ≤ j.length ∧ L = [] ∧
      t' = [(0, v), (1, .slice (some ⟨r, 0, none⟩) j.length j.length), (2, .int .i64 t), (7, .int .i64 bst), (8, .int .i64 (i : Nat)), (9, .bool (frJ j b i k)), (12, .int .i64 (j.length : Nat)), (13, .int .i64 (i : Nat)), (21, .int .i64 (j.length : Nat)), (22, .int .i64 (k : Nat))])
      ⟨_, [(0, v), (1, .slice (some ⟨r, 0, none⟩) j.length j.length), (2, .int .i64 t), (7, .int .i64 bst), (8, .int .i64 (i : Nat)), (9, .bool (b i)), (12, .int .i64 (j.length : Nat)), (13, .int .i64 (i : Nat)), (21, .int .i64 (j.length : Nat)), (22, .int .i64 ((0 : Nat) : Int))], [], (Or.inl ⟨rfl, (by repeat (first | exact trivial | (refine And.intro rfl ?_)))⟩), 0, rfl, Nat.zero_le _, rfl, by rw [f0]⟩ ?_
    rintro n' t' L ⟨k, rfl, hk, rfl, rfl⟩
    rcases Nat.lt_or_ge k j.length with hlt2 | hge2
    · have hbk := hb k hlt2
      have fs := frJ_succ j b i k
      have hal := hJ.alen hlt2
      have af := fun (L : AM) (q : Bool) (hq : decide ((i : Int) ∈ aft j k) = q) => after_ok i k (hj.old L) hlt2 (by omega) hq
      generalize frJ j b i k = fr at *
      generalize decide ((i : Int) ∈ aft j k) = q at *
      generalize b k = bk at *
      cases fr with
      | false =>
        (repeat (first | (with_reducible refine AWo.cons ?_) | ((with_reducible refine Step.id ?_); first | ((with_reducible apply Step.gdU); exact rfl; exact rfl) | ((with_reducible apply Step.gdF); exact rfl; exact rfl; (focus (rfl))) | ((with_reducible apply Step.move); exact rfl; exact rfl) | ((with_reducible apply Step.assign); exact rfl; exact rfl) | ((with_reducible apply Step.add); exact rfl; exact rfl; (focus (omega)); exact rfl) | ((with_reducible apply Step.lss); exact rfl; exact rfl; exact rfl) | ((with_reducible apply Step.pickF); exact rfl; exact rfl; exact rfl; exact rfl; (focus (rfl)))) | (with_reducible refine AWo.nil ?_) | ((with_reducible apply AW.seq)) | ((with_reducible apply Then.n)) | ((with_reducible apply AW.regL)) | ((with_reducible apply AW.block)) | ((with_reducible apply InBlk.n)) | ((with_reducible apply AW.skip)) | ((with_reducible apply AW.condT); exact rfl; (focus ((simp only [decide_eq_true_eq, decide_eq_false_iff_not, Bool.not_eq_true', Bool.not_eq_false', Bool.not_true, Bool.not_false]; first | assumption | omega))))))
        exact ⟨_, [(0, v), (1, .slice (some ⟨r, 0, none⟩) j.length j.length), (2, .int .i64 t), (7, .int .i64 bst), (8, .int .i64 (i : Nat)), (9, .bool false), (12, .int .i64 (j.length : Nat)), (13, .int .i64 (i : Nat)), (21, .int .i64 (j.length : Nat)), (22, .int .i64 ((k + 1 : Nat) : Int))], [], by omega, (Or.inl ⟨rfl, (by repeat (first | exact trivial | (refine And.intro rfl ?_)))⟩), k + 1, rfl, by omega, rfl, by rw [fs]; rfl⟩
      | true =>
        by_cases hki : k = i
        · subst hki
          (repeat (first | (with_reducible refine AWo.cons ?_) | ((with_reducible refine Step.id ?_); first | ((with_reducible apply Step.gdT); exact rfl; exact rfl; (focus (rfl))) | ((with_reducible apply Step.gdF); exact rfl; exact rfl; (focus (first | rfl | (simp; done)))) | ((with_reducible apply Step.move); exact rfl; exact rfl) | ((with_reducible apply Step.assign); exact rfl; exact rfl) | ((with_reducible apply Step.add); exact rfl; exact rfl; (focus (omega)); exact rfl) | ((with_reducible apply Step.lss); exact rfl; exact rfl; exact rfl) | ((with_reducible apply Step.neq); exact rfl; exact rfl; exact rfl) | ((with_reducible apply Step.not); exact rfl; exact rfl) | ((with_reducible apply Step.pickT); exact rfl; exact rfl; exact rfl; exact rfl; (focus (rfl))) | ((with_reducible apply Step.pickF); exact rfl; exact rfl; exact rfl; exact rfl; (focus (first | rfl | (simp; done))))) | (with_reducible refine AWo.nil ?_) | ((with_reducible apply AW.seq)) | ((with_reducible apply Then.n)) | ((with_reducible apply AW.regL)) | ((with_reducible apply AW.block)) | ((with_reducible apply InBlk.n)) | ((with_reducible apply AW.skip)) | ((with_reducible apply AW.condT); exact rfl; (focus ((simp only [decide_eq_true_eq, decide_eq_false_iff_not, Bool.not_eq_true', Bool.not_eq_false', Bool.not_true, Bool.not_false]; first | assumption | omega))))))
          exact ⟨_, [(0, v), (1, .slice (some ⟨r, 0, none⟩) j.length j.length), (2, .int .i64 t), (7, .int .i64 bst), (8, .int .i64 (k : Nat)), (9, .bool true), (12, .int .i64 (j.length : Nat)), (13, .int .i64 (k : Nat)), (21, .int .i64 (j.length : Nat)), (22, .int .i64 ((k + 1 : Nat) : Int))], [], by omega, (Or.inl ⟨rfl, (by repeat (first | exact trivial | (refine And.intro rfl ?_)))⟩), k + 1, rfl, by omega, rfl, by rw [fs]; simp⟩
        · have hki' : ((k : Nat) : Int) ≠ ((i : Nat) : Int) := by omega
          cases bk with
          | false =>
            (repeat (first | (with_reducible refine AWo.cons ?_) | ((with_reducible refine Step.id ?_); first | ((with_reducible apply Step.gdT); exact rfl; exact rfl; (focus (first | rfl | (simp only [decide_eq_true_eq, decide_eq_false_iff_not, Bool.not_eq_true', Bool.not_eq_false', Bool.not_true, Bool.not_false]; first | assumption | omega)))) | ((with_reducible apply Step.gdF); exact rfl; exact rfl; (focus (rfl))) | ((with_reducible apply Step.move); exact rfl; exact rfl) | ((with_reducible apply Step.assign); exact rfl; exact rfl) | ((with_reducible apply Step.load); exact rfl; (focus (decide +kernel)); exact rfl; (focus (exact Rd.old _ (by assumption)))) | ((with_reducible apply Step.ix1z); exact rfl; (focus (assumption)); exact rfl; (focus (decide +kernel)); exact rfl; (focus (omega))) | ((with_reducible apply Step.add); exact rfl; exact rfl; (focus (omega)); exact rfl) | ((with_reducible apply Step.lss); exact rfl; exact rfl; exact rfl) | ((with_reducible apply Step.neq); exact rfl; exact rfl; exact rfl) | ((with_reducible apply Step.not); exact rfl; exact rfl) | ((with_reducible apply Step.pickT); exact rfl; exact rfl; exact rfl; exact rfl; (focus (first | rfl | (simp only [decide_eq_true_eq, decide_eq_false_iff_not, Bool.not_eq_true', Bool.not_eq_false', Bool.not_true, Bool.not_false]; first | assumption | omega)))) | ((with_reducible apply Step.pickF); exact rfl; exact rfl; exact rfl; exact rfl; (focus (rfl)))) | (with_reducible refine AWo.nil ?_) | ((with_reducible apply AW.seq)) | ((with_reducible apply Then.n)) | ((with_reducible apply AW.regL)) | ((with_reducible apply AW.block)) | ((with_reducible apply InBlk.n)) | ((with_reducible apply AW.skip)) | ((with_reducible apply AW.condT); exact rfl; (focus ((simp only [decide_eq_true_eq, decide_eq_false_iff_not, Bool.not_eq_true', Bool.not_eq_false', Bool.not_true, Bool.not_false]; first | assumption | omega))))))
            exact ⟨_, [(0, v), (1, .slice (some ⟨r, 0, none⟩) j.length j.length), (2, .int .i64 t), (7, .int .i64 bst), (8, .int .i64 (i : Nat)), (9, .bool true), (12, .int .i64 (j.length : Nat)), (13, .int .i64 (i : Nat)), (21, .int .i64 (j.length : Nat)), (22, .int .i64 ((k + 1 : Nat) : Int))], [], by omega, (Or.inl ⟨rfl, (by repeat (first | exact trivial | (refine And.intro rfl ?_)))⟩), k + 1, rfl, by omega, rfl, by rw [fs]; simp⟩
          | true =>
            have af' := fun L => af L q rfl
            cases q with
            | false =>
              (repeat (first | (with_reducible refine AWo.cons ?_) | ((with_reducible refine Step.id ?_); first | ((with_reducible apply Step.gdT); exact rfl; exact rfl; (focus (first | rfl | (simp only [decide_eq_true_eq, decide_eq_false_iff_not, Bool.not_eq_true', Bool.not_eq_false', Bool.not_true, Bool.not_false]; first | assumption | omega)))) | ((with_reducible apply Step.move); exact rfl; exact rfl) | ((with_reducible apply Step.assign); exact rfl; exact rfl) | ((with_reducible apply Step.load); exact rfl; (focus (decide +kernel)); exact rfl; (focus (exact Rd.old _ (by assumption)))) | ((with_reducible apply Step.ix1z); exact rfl; (focus (assumption)); exact rfl; (focus (decide +kernel)); exact rfl; (focus (omega))) | ((with_reducible apply Step.add); exact rfl; exact rfl; (focus (omega)); exact rfl) | ((with_reducible apply Step.lss); exact rfl; exact rfl; exact rfl) | ((with_reducible apply Step.neq); exact rfl; exact rfl; exact rfl) | ((with_reducible apply Step.not); exact rfl; exact rfl) | ((with_reducible apply Step.pickT); exact rfl; exact rfl; exact rfl; exact rfl; (focus (first | rfl | (simp only [decide_eq_true_eq, decide_eq_false_iff_not, Bool.not_eq_true', Bool.not_eq_false', Bool.not_true, Bool.not_false]; first | assumption | omega)))) | ((with_reducible apply Step.callR fit); exact rfl; exact Try.func81; exact rfl; exact rfl; exact (af' _))) | (with_reducible refine AWo.nil ?_) | ((with_reducible apply AW.seq)) | ((with_reducible apply Then.n)) | ((with_reducible apply AW.regL)) | ((with_reducible apply AW.block)) | ((with_reducible apply InBlk.n)) | ((with_reducible apply AW.skip)) | ((with_reducible apply AW.condT); exact rfl; (focus ((simp only [decide_eq_true_eq, decide_eq_false_iff_not, Bool.not_eq_true', Bool.not_eq_false', Bool.not_true, Bool.not_false]; first | assumption | omega))))))
              exact ⟨_, [(0, v), (1, .slice (some ⟨r, 0, none⟩) j.length j.length), (2, .int .i64 t), (7, .int .i64 bst), (8, .int .i64 (i : Nat)), (9, .bool true), (12, .int .i64 (j.length : Nat)), (13, .int .i64 (i : Nat)), (21, .int .i64 (j.length : Nat)), (22, .int .i64 ((k + 1 : Nat) : Int))], [], by omega, (Or.inl ⟨rfl, (by repeat (first | exact trivial | (refine And.intro rfl ?_)))⟩), k + 1, rfl, by omega, rfl, by rw [fs]; simp⟩
            | true =>
              (repeat (first | (with_reducible refine AWo.cons ?_) | ((with_reducible refine Step.id ?_); first | ((with_reducible apply Step.gdT); exact rfl; exact rfl; (focus (first | rfl | (simp only [decide_eq_true_eq, decide_eq_false_iff_not, Bool.not_eq_true', Bool.not_eq_false', Bool.not_true, Bool.not_false]; first | assumption | omega)))) | ((with_reducible apply Step.move); exact rfl; exact rfl) | ((with_reducible apply Step.assign); exact rfl; exact rfl) | ((with_reducible apply Step.load); exact rfl; (focus (decide +kernel)); exact rfl; (focus (exact Rd.old _ (by assumption)))) | ((with_reducible apply Step.ix1z); exact rfl; (focus (assumption)); exact rfl; (focus (decide +kernel)); exact rfl; (focus (omega))) | ((with_reducible apply Step.add); exact rfl; exact rfl; (focus (omega)); exact rfl) | ((with_reducible apply Step.lss); exact rfl; exact rfl; exact rfl) | ((with_reducible apply Step.neq); exact rfl; exact rfl; exact rfl) | ((with_reducible apply Step.not); exact rfl; exact rfl) | ((with_reducible apply Step.pickT); exact rfl; exact rfl; exact rfl; exact rfl; (focus (first | rfl | (simp only [decide_eq_true_eq, decide_eq_false_iff_not, Bool.not_eq_true', Bool.not_eq_false', Bool.not_true, Bool.not_false]; first | assumption | omega)))) | ((with_reducible apply Step.callR fit); exact rfl; exact Try.func81; exact rfl; exact rfl; exact (af' _))) | (with_reducible refine AWo.nil ?_) | ((with_reducible apply AW.seq)) | ((with_reducible apply Then.n)) | ((with_reducible apply AW.regL)) | ((with_reducible apply AW.block)) | ((with_reducible apply InBlk.n)) | ((with_reducible apply AW.skip)) | ((with_reducible apply AW.condT); exact rfl; (focus ((simp only [decide_eq_true_eq, decide_eq_false_iff_not, Bool.not_eq_true', Bool.not_eq_false', Bool.not_true, Bool.not_false]; first | assumption | omega))))))
              exact ⟨_, [(0, v), (1, .slice (some ⟨r, 0, none⟩) j.length j.length), (2, .int .i64 t), (7, .int .i64 bst), (8, .int .i64 (i : Nat)), (9, .bool false), (12, .int .i64 (j.length : Nat)), (13, .int .i64 (i : Nat)), (21, .int .i64 (j.length : Nat)), (22, .int .i64 ((k + 1 : Nat) : Int))], [], by omega, (Or.inl ⟨rfl, (by repeat (first | exact trivial | (refine And.intro rfl ?_)))⟩), k + 1, rfl, by omega, rfl, by rw [fs]; simp [hki]⟩
    · obtain rfl : k = j.length := by omega
      have fe := frJ_end (b := b) hlt hself
      rw [hset] at fe
      have ps := preL_succ j set t b i
      have pp := preL_pen j set t b i
      rw [← hst] at ps pp
      obtain ⟨w, hrw, hw⟩ := h3 i hlt
      obtain ⟨_, _, w1, _, _⟩ := id hw
      have hone := w1.one
      have hnum := hJ.num i hlt
      have pn := fun (L : AM) => RPen_ok (m := m ++ L) (w := w) (j.getD i default) t hone ⟨by omega, by omega⟩ ⟨by omega, by omega⟩ ht
      obtain ⟨c, hc⟩ : ∃ c, c = (frJ j b i j.length && (decide (bst < 0) || decide (penJ (j.getD i default) t ≤ lst))) := ⟨_, rfl⟩
      have pc : preL j set t b (i + 1) = if c then ((i : Int), penJ (j.getD i default) t) else (bst, lst) := by
        rw [ps, hc, fe]
        unfold lastS
        simp only [jb, Int.toNat_natCast]
        cases b i <;> cases blkJ j set i <;> simp
      (repeat (first | (with_reducible refine AWo.cons ?_) | ((with_reducible refine Step.id ?_); ((with_reducible apply Step.lss); exact rfl; exact rfl; exact rfl)) | (with_reducible refine AWo.nil ?_) | ((fail_if_success (with_reducible refine AW.atR (id := 11) ?_)); ((with_reducible apply AW.seq))) | ((with_reducible apply Then.n)) | ((with_reducible apply AW.regL)) | ((with_reducible apply AW.exit)) | ((with_reducible apply InBlk.hit)) | ((with_reducible apply Then.e)) | ((with_reducible apply AW.condF); exact rfl; (focus ((simp only [decide_eq_true_eq, decide_eq_false_iff_not, Bool.not_eq_true', Bool.not_eq_false', Bool.not_true, Bool.not_false]; first | assumption | omega))))))
      refine AW.joinS [(0, v), (1, .slice (some ⟨r, 0, none⟩) j.length j.length), (2, .int .i64 t), (7, .int .i64 bst), (8, .int .i64 (i : Nat)), (12, .int .i64 (j.length : Nat)), (13, .int .i64 (i : Nat)), (64, .bool c)] (m ++ []) ?_ ?_
      · clear pc ps fe
        generalize frJ j b i j.length = fr at *
        cases fr with
        | false =>
          obtain rfl : c = false := by simpa using hc
          (repeat' (first | ((with_reducible refine Step.id ?_); first | ((with_reducible apply Step.gdU); exact rfl; exact rfl) | ((with_reducible apply Step.gdF); exact rfl; exact rfl; (focus (rfl))) | ((with_reducible apply Step.move); exact rfl; exact rfl) | ((with_reducible apply Step.pickF); exact rfl; exact rfl; exact rfl; exact rfl; (focus (rfl)))) | ((with_reducible apply Then.n)) | ((with_reducible apply AW.drawT fit (T := (.step 0 (.step 1 (.step 2 (.step 3 (.step 4 (.step 5 (.step 6 (.step 7 (.step 8 (.step 9 (.step 11 (.step 12 (.step 13 (.step 15 (.both (.step 10 (.step 14 (.step 16 (.step 17 (.step 18 (.step 19 .done)))))) (.step 14 (.step 10 (.step 16 (.step 17 (.step 18 (.step 19 .done))))))))))))))))))))))); (focus (decide +kernel))) | ((with_reducible apply AWt.step); exact rfl) | ((with_reducible apply AWt.done)) | refine AWt.both ?_ ?_))
          all_goals exact ⟨rfl, (by repeat (first | exact trivial | (refine And.intro rfl ?_)))⟩
        | true =>
          by_cases hb0 : bst < 0
          · obtain rfl : c = true := by simpa [hb0] using hc
            (repeat' (first | ((with_reducible refine Step.id ?_); first | ((with_reducible apply Step.gdT); exact rfl; exact rfl; (focus (rfl))) | ((with_reducible apply Step.gdF); exact rfl; exact rfl; (focus ((simp only [decide_eq_true_eq, decide_eq_false_iff_not, Bool.not_eq_true', Bool.not_eq_false', Bool.not_true, Bool.not_false]; first | assumption | omega)))) | ((with_reducible apply Step.move); exact rfl; exact rfl) | ((with_reducible apply Step.lss); exact rfl; exact rfl; exact rfl) | ((with_reducible apply Step.pickT); exact rfl; exact rfl; exact rfl; exact rfl; (focus (first | rfl | (simp only [decide_eq_true_eq, decide_eq_false_iff_not, Bool.not_eq_true', Bool.not_eq_false', Bool.not_true, Bool.not_false]; first | assumption | omega))))) | ((with_reducible apply Then.n)) | ((with_reducible apply AW.drawT fit (T := (.step 0 (.step 1 (.step 2 (.step 3 (.step 4 (.step 5 (.step 6 (.step 7 (.step 8 (.step 9 (.step 11 (.step 12 (.step 13 (.step 15 (.both (.step 10 (.step 14 (.step 16 (.step 17 (.step 18 (.step 19 .done)))))) (.step 14 (.step 10 (.step 16 (.step 17 (.step 18 (.step 19 .done))))))))))))))))))))))); (focus (decide +kernel))) | ((with_reducible apply AWt.step); exact rfl) | ((with_reducible apply AWt.done)) | refine AWt.both ?_ ?_))
            all_goals exact ⟨rfl, (by repeat (first | exact trivial | (refine And.intro rfl ?_)))⟩
          · obtain ⟨q, hq, e1, e2⟩ : ∃ q : Nat, q < i ∧ bst = (q : Int) ∧ lst = penJ (j.getD q default) t := by
              rcases pp with h | h
              · exact absurd (show bst = -1 from h) (by omega)
              · exact h
            subst e1
            subst e2
            have hqn : q < j.length := by omega
            obtain ⟨w', hrw', hw'⟩ := h3 q hqn
            obtain ⟨_, _, w1', _, _⟩ := id hw'
            have hone' := w1'.one
            have hnum' := hJ.num q hqn
            have pn' := fun (L : AM) => RPen_ok (m := m ++ L) (w := w') (j.getD q default) t hone' ⟨by omega, by omega⟩ ⟨by omega, by omega⟩ ht
            have hc2 : c = decide (penJ (j.getD i default) t ≤ penJ (j.getD q default) t) := by rw [hc]; simp [hb0]
            subst hc2
            clear hc hst
            generalize j.getD i default = x at *
            generalize j.getD q default = y at *
            generalize hpx : penJ x t = px at *
            generalize hpy : penJ y t = py at *
            obtain ⟨x1, x2, x3, af⟩ := x
            obtain ⟨y1, y2, y3, af'⟩ := y
            simp only [Job.cells] at *
            have hw1 := job_one (x := x1) (y := x2) (z := x3) hone
            have hw2 := job_one (x := y1) (y := y2) (z := y3) hone'
            (repeat' (first | ((with_reducible refine Step.id ?_); first | ((with_reducible apply Step.gdT); exact rfl; exact rfl; (focus (rfl))) | ((with_reducible apply Step.move); exact rfl; exact rfl) | ((with_reducible apply Step.loadL (n := 4)); exact rfl; (focus (decide +kernel)); (focus (decide +kernel)); exact rfl; (focus (exact RdL.old _ (by assumption))); exact rfl; exact rfl) | ((with_reducible apply Step.ix (s := 4)); exact rfl; (focus (assumption)); exact rfl; (focus (decide +kernel)); exact rfl; (focus (omega))) | ((with_reducible apply Step.lss); exact rfl; exact rfl; exact rfl) | ((with_reducible apply Step.leq); exact rfl; exact rfl; exact rfl) | ((with_reducible apply Step.pickT); exact rfl; exact rfl; exact rfl; exact rfl; (focus (rfl))) | ((with_reducible apply Step.pickF); exact rfl; exact rfl; exact rfl; exact rfl; (focus (rfl))) | ((with_reducible apply Step.callR fit); exact rfl; exact Try.func64; exact rfl; exact rfl; exact (pn _)) | ((with_reducible apply Step.callR fit); exact rfl; exact Try.func64; exact rfl; exact rfl; exact (pn' _))) | ((with_reducible apply Then.n)) | ((with_reducible apply AW.drawT fit (T := (.step 0 (.step 1 (.step 2 (.step 3 (.step 4 (.step 5 (.step 6 (.step 7 (.step 8 (.step 9 (.step 11 (.step 12 (.step 13 (.step 15 (.both (.step 10 (.step 14 (.step 16 (.step 17 (.step 18 (.step 19 .done)))))) (.step 14 (.step 10 (.step 16 (.step 17 (.step 18 (.step 19 .done))))))))))))))))))))))); (focus (decide +kernel))) | ((with_reducible apply AWt.step); exact rfl) | ((with_reducible apply AWt.done)) | refine AWt.both ?_ ?_))
            all_goals exact ⟨rfl, (by repeat (first | exact trivial | (refine And.intro rfl ?_)))⟩
      cases c with
      | true =>
        (repeat (first | (with_reducible refine AWo.cons ?_) | ((with_reducible refine Step.id ?_); first | ((with_reducible apply Step.move); exact rfl; exact rfl) | ((with_reducible apply Step.assign); exact rfl; exact rfl) | ((with_reducible apply Step.add); exact rfl; exact rfl; (focus (omega)); exact rfl)) | (with_reducible refine AWo.nil ?_) | ((with_reducible apply Then.n)) | ((with_reducible apply AW.regL)) | ((with_reducible apply InBlk.n)) | ((with_reducible apply AW.condT); exact rfl; (focus (rfl)))))
        exact ⟨_, [(0, v), (1, .slice (some ⟨r, 0, none⟩) j.length j.length), (2, .int .i64 t), (7, .int .i64 (i : Nat)), (12, .int .i64 (j.length : Nat)), (13, .int .i64 ((i + 1 : Nat) : Int))], [], by omega, (Or.inl ⟨rfl, (by repeat (first | exact trivial | (refine And.intro rfl ?_)))⟩), i + 1, ((i : Int), penJ (j.getD i default) t), rfl, by omega, by rw [pc]; rfl, rfl, rfl⟩
      | false =>
        (repeat (first | (with_reducible refine AWo.cons ?_) | ((with_reducible refine Step.id ?_); first | ((with_reducible apply Step.move); exact rfl; exact rfl) | ((with_reducible apply Step.add); exact rfl; exact rfl; (focus (omega)); exact rfl)) | (with_reducible refine AWo.nil ?_) | ((with_reducible apply Then.n)) | ((with_reducible apply AW.regL)) | ((with_reducible apply InBlk.n)) | ((with_reducible apply AW.skip)) | ((with_reducible apply AW.condF); exact rfl; (focus (rfl)))))
        exact ⟨_, [(0, v), (1, .slice (some ⟨r, 0, none⟩) j.length j.length), (2, .int .i64 t), (7, .int .i64 bst), (12, .int .i64 (j.length : Nat)), (13, .int .i64 ((i + 1 : Nat) : Int))], [], by omega, (Or.inl ⟨rfl, (by repeat (first | exact trivial | (refine And.intro rfl ?_)))⟩), i + 1, (bst, lst), rfl, by omega, by rw [pc]; rfl, rfl, rfl⟩
  · obtain rfl : i = j.length := by omega
    (repeat (first | (with_reducible refine AWo.cons ?_) | ((with_reducible refine Step.id ?_); first | ((with_reducible apply Step.move); exact rfl; exact rfl) | ((with_reducible apply Step.assign); exact rfl; exact rfl) | ((with_reducible apply Step.lss); exact rfl; exact rfl; exact rfl)) | (with_reducible refine AWo.nil ?_) | ((with_reducible apply AW.seq)) | ((with_reducible apply Then.n)) | ((with_reducible apply AW.regL)) | ((with_reducible apply AW.exit)) | ((with_reducible apply InBlk.hit)) | ((with_reducible apply Then.e)) | ((with_reducible apply AW.condF); exact rfl; (focus ((simp only [decide_eq_true_eq, decide_eq_false_iff_not, Bool.not_eq_true', Bool.not_eq_false', Bool.not_true, Bool.not_false]; first | assumption | omega))))))
    (refine AW.retD (l := [(6, _)]) (by repeat (first | exact trivial | (refine And.intro ⟨rfl, by (exact .int _ _)⟩ ?_))) ?_; (repeat (first | refine Then.r ?_ | refine InBlk.r ?_)))
    exact ⟨_, rfl, by rw [← hst], rfl⟩
end Go.Proofs.Ytmomjannlnafcaa.Abs
namespace Go.Proofs.Ytmomjannlnafcaa.Abs
set_option linter.unusedSimpArgs false
set_option linter.unusedVariables false
open Go.RowKit
open Go.Proofs.Ytmomjannlnafcaa.Sim
open Go.Proofs
def bR (n : Nat) (b : Nat → Bool) : List Bool := (List.range n).map b
theorem bR_len (n : Nat) (b : Nat → Bool) : (bR n b).length = n := by simp [bR]
theorem bR_get {n k : Nat} (b : Nat → Bool) (h : k < n) : (bR n b).getD k false = b k := by simp [bR, h]
theorem bR_congr {n : Nat} {b c : Nat → Bool} (h : ∀ i, i < n → b i = c i) : bR n b = bR n c := List.map_congr_left fun i hi => h i (List.mem_range.1 hi)
theorem bR_zero (n : Nat) : List.replicate n false = bR n (fun _ => false) := by
  refine List.ext_getElem (by simp [bR]) fun i h1 h2 => ?_
  simp [bR]
theorem bR_set (b : Nat → Bool) {n k : Nat} (x : Bool) : (bR n b).set k x = bR n (fun i => if i = k then x else b i) := by
  refine List.ext_getElem (by simp [bR]) fun i h1 h2 => ?_
  simp only [bR, List.getElem_set, List.getElem_map, List.getElem_range]
  by_cases e : k = i
  · subst e; simp
  · rw [if_neg e, if_neg (fun h => e h.symm)]
theorem bR_boos {m L : AM} {n k : Nat} {b : Nat → Bool} (h : L[k]? = some (some { cells := bv (bR n b) })) : Boos (m ++ L) (m.length + k) n b := fun i hi => by
  have := Rd.new (M := m) (L := L) (k := k) (o := i) (v := .bool (b i)) h (by
    show (bv (bR n b))[i]? = _
    rw [bv_get (by rw [bR_len]; exact hi), bR_get b hi])
  exact this
theorem upI_get {n k : Nat} (h : k < n) : (upI n).getD k 0 = (k : Int) := by simp [upI, h]
def outR (j : List Job) (k : Nat) : List Int := tab (fun q => if j.length ≤ q + k then (lawO j).getD q 0 else 0) j.length
theorem outR_len (j : List Job) (k : Nat) : (outR j k).length = j.length := tab_len _ _
theorem outR_zero (j : List Job) : List.replicate j.length (0 : Int) = outR j 0 := by
  rw [tab_rep]
  exact tab_congr fun i hi => by rw [if_neg (by omega)]
section
variable {j : List Job} {P : List Nat}
theorem outR_end (hT : Topo j P) (hn : P.length = j.length) : outR j j.length = lawO j := by
  have hl := lawO_len hT hn
  refine ext_getDI (by rw [outR_len, hl]) fun k hk => ?_
  rw [outR_len] at hk
  unfold outR
  rw [tab_get _ hk, if_pos (by omega)]
theorem outR_set (hT : Topo j P) (hn : P.length = j.length) {k : Nat} (hk : k < j.length) : (outR j k).set (j.length - 1 - k) (pk j k).1 = outR j (k + 1) := by
  unfold outR
  rw [tab_set]
  refine tab_congr fun q hq => ?_
  by_cases e : q = j.length - 1 - k
  · rw [if_pos e, if_pos (by omega), lawO_get hT hn hq, show j.length - 1 - q = k by omega]
  · rw [if_neg e]
    by_cases h : j.length ≤ q + k
    · rw [if_pos h, if_pos (by omega)]
    · rw [if_neg h, if_neg (by omega)]
theorem left_set (hT : Topo j P) (hn : P.length = j.length) {k : Nat} (hk : k ≤ j.length) : setB j.length (fun i => decide ((i : Int) ∈ (lawN j k).left)) = (lawN j k).left := by
  have inv := lawN_inv hT hn k hk
  have h := inv.left
  generalize (lawN j k).left = left at *
  unfold setB
  rw [h]
  refine List.filter_congr fun x hx => ?_
  have hx0 := (mem_upI.1 hx).1
  show decide (((x.toNat : Nat) : Int) ∈ _) = _
  rw [Int.toNat_of_nonneg hx0, decide_eq_decide, List.mem_filter]
  simp [hx]
end
set_option maxHeartbeats 4000000 in
set_option maxRecDepth 100000 in
theorem RLawler_ok {m : AM} {v : Value} {j : List Job} (hj : Jobs m v j) (hs : Short j) (hok : jobsB j = true) (hn : (sortL j).length = j.length) : ACall Try.prog 41 #[v] m (NewT (fun N => .tuple #[.slice (some ⟨N, 0, none⟩) j.length j.length, .int .i64 (lawW j), .int .i64 0]) (some { cells := iv (lawO j) }) m) := by
  have hJ := JOk.of hok
  have hT := sortL_topo j
  have h40 := hJ.len
  have e0 : errJ j = 0 := by simp [errJ, hok, hn]
  have hself := self_not hJ hT hn
  obtain ⟨a, o, h1, h2, h3⟩ := id hj
  obtain ⟨su, hsu⟩ : ∃ su : Nat → Int, su = fun k => sm (fun k => (jb j ((upI j.length).getD k 0)).time) k := ⟨_, rfl⟩
  have su0 : su 0 = 0 := by rw [hsu]; rfl
  have suS : ∀ k, k < j.length → su (k + 1) = su k + (j.getD k default).time := fun k hk => by
    rw [hsu]
    show sm _ (k + 1) = _
    rw [sm, upI_get hk]; simp [jb]
  have suE : su j.length = sumJ j (upI j.length) := by rw [hsu]; unfold sumJ; rw [upI_len]
  have suB : ∀ k, k ≤ j.length → (k : Int) ≤ su k ∧ su k ≤ 10000 * k := fun k hk => by
    rw [hsu]; exact sumJ_bd hJ (fun x hx => mem_upI.1 hx) k (by rw [upI_len]; exact hk)
  clear hsu
  refine ACall.start Try.func41 rfl rfl ?_
  (repeat (first | (with_reducible refine AWo.cons ?_) | ((with_reducible refine Step.id ?_); first | ((with_reducible apply Step.move); exact rfl; exact rfl) | ((with_reducible apply Step.assign); exact rfl; exact rfl) | ((with_reducible apply Step.neq); exact rfl; exact rfl; exact rfl) | ((with_reducible apply Step.len); exact rfl; (focus (assumption)); (focus (decide +kernel)); exact rfl) | ((with_reducible apply Step.callR fit); exact rfl; exact Try.func86; exact rfl; exact rfl; exact (Rchecked_ok (hj.old []) hs e0)) | ((with_reducible apply Step.make1 0); exact rfl; exact rfl; exact rfl; exact el84; (focus (omega)); exact rfl; (focus (first | (simp only [List.nil_append, List.cons_append, List.set_cons_zero, List.set_cons_succ, iv_set, bv_set, iv_rep, bv_rep]; done) | (simp only [List.nil_append, List.cons_append, List.set_cons_zero, List.set_cons_succ, iv_set, bv_set, iv_rep, bv_rep]; rfl) | rfl)))) | (with_reducible refine AWo.nil ?_) | ((with_reducible apply AW.seq)) | ((with_reducible apply Then.n)) | ((with_reducible apply AW.regL)) | ((with_reducible apply AW.block)) | ((with_reducible apply AW.skip)) | ((with_reducible apply AW.condF); exact rfl; (focus (rfl)))))
  refine AW.loopT (fun n' t L => ∃ k : Nat, n' = j.length - k ∧ k ≤ j.length ∧ L = [some { cells := bv (bR j.length (fun i => decide (i < k))) }] ∧
    t = [(0, v), (6, .slice (some ⟨m.length + 0, 0, none⟩) j.length j.length), (7, .int .i64 (su k)), (22, .int .i64 (j.length : Nat)), (23, .int .i64 (k : Nat))])
    ⟨_, [(0, v), (6, .slice (some ⟨m.length + 0, 0, none⟩) j.length j.length), (7, .int .i64 0), (22, .int .i64 (j.length : Nat)), (23, .int .i64 ((0 : Nat) : Int))], [some { cells := bv (List.replicate j.length false) }], (Or.inl ⟨rfl, (by repeat (first | exact trivial | (refine And.intro rfl ?_)))⟩), 0, rfl, Nat.zero_le _, by rw [bR_zero]; simp, by rw [su0]⟩ ?_
  rintro n' t L ⟨k, rfl, hk, rfl, rfl⟩
  rcases Nat.lt_or_ge k j.length with hlt | hge
  · obtain ⟨w, hr, hw⟩ := h3 k hlt
    have hnum := hJ.num k hlt
    have s1 := suS k hlt
    have b1 := suB k hk
    have lR := bR_len j.length (fun i => decide (i < k))
    have stp : (bR j.length (fun i => decide (i < k))).set k true = bR j.length (fun i => decide (i < k + 1)) := by
      rw [bR_set]
      refine bR_congr fun i hi => ?_
      by_cases e : i = k
      · rw [if_pos e, decide_eq_true (by omega)]
      · rw [if_neg e, decide_eq_decide]; omega
    generalize bR j.length (fun i => decide (i < k)) = row at *
    generalize j.getD k default = x at *
    obtain ⟨x1, x2, x3, af⟩ := x
    simp only [Job.cells] at *
    (repeat (first | (with_reducible refine AWo.cons ?_) | ((with_reducible refine Step.id ?_); first | ((with_reducible apply Step.move); exact rfl; exact rfl) | ((with_reducible apply Step.assign); exact rfl; exact rfl) | ((with_reducible apply Step.load); exact rfl; (focus (decide +kernel)); exact rfl; (focus (exact Rd.old _ (hr.at_ 0 rfl)))) | ((with_reducible apply Step.ix1z); exact rfl; (focus (exact Sl.mk (by omega))); exact rfl; (focus (decide +kernel)); exact rfl; (focus (omega))) | ((with_reducible apply Step.ix (s := 4)); exact rfl; (focus (assumption)); exact rfl; (focus (decide +kernel)); exact rfl; (focus (omega))) | ((with_reducible apply Step.field0); exact rfl; (focus (decide +kernel)); exact rfl) | ((with_reducible apply Step.add); exact rfl; exact rfl; (focus (omega)); exact rfl) | ((with_reducible apply Step.lss); exact rfl; exact rfl; exact rfl) | ((with_reducible apply Step.store (k := 0)); exact rfl; exact rfl; exact rfl; exact rfl; (focus (decide +kernel)); exact rfl; exact rfl; (focus (first | omega | (simp [iv, bv]; done) | (simp [iv, bv]; omega))); (focus (first | (simp only [List.nil_append, List.cons_append, List.set_cons_zero, List.set_cons_succ, iv_set, bv_set, iv_rep, bv_rep]; done) | (simp only [List.nil_append, List.cons_append, List.set_cons_zero, List.set_cons_succ, iv_set, bv_set, iv_rep, bv_rep]; rfl) | rfl)))) | (with_reducible refine AWo.nil ?_) | ((with_reducible apply AW.seq)) | ((with_reducible apply Then.n)) | ((with_reducible apply AW.regL)) | ((with_reducible apply AW.block)) | ((with_reducible apply InBlk.n)) | ((with_reducible apply AW.skip)) | ((with_reducible apply AW.condT); exact rfl; (focus ((simp only [decide_eq_true_eq, decide_eq_false_iff_not, Bool.not_eq_true', Bool.not_eq_false', Bool.not_true, Bool.not_false]; first | assumption | omega))))))
    exact ⟨_, [(0, v), (6, .slice (some ⟨m.length + 0, 0, none⟩) j.length j.length), (7, .int .i64 (su k + x1)), (22, .int .i64 (j.length : Nat)), (23, .int .i64 ((k + 1 : Nat) : Int))], [some { cells := bv (row.set k true) }], by omega, (Or.inl ⟨rfl, (by repeat (first | exact trivial | (refine And.intro rfl ?_)))⟩), k + 1, rfl, by omega, by rw [stp], by rw [s1]⟩
  · obtain rfl : k = j.length := by omega
    have l0 : (lawN j 0).left = upI j.length := rfl
    have w0 : (lawN j 0).worst = 0 := rfl
    have e1 : bR j.length (fun i => decide (i < j.length)) = bR j.length (fun i => decide ((i : Int) ∈ (lawN j 0).left)) := by
      refine bR_congr fun i hi => ?_
      rw [decide_eq_decide, l0, mem_upI]; omega
    have hb := suB j.length (Nat.le_refl _)
    rw [suE, ← l0] at hb ⊢
    rw [e1]
    obtain ⟨s0, hs0⟩ : ∃ s0, sumJ j (lawN j 0).left = s0 := ⟨_, rfl⟩
    rw [hs0]
    obtain ⟨row0, hrow0⟩ : ∃ row0, bR j.length (fun i => decide ((i : Int) ∈ (lawN j 0).left)) = row0 := ⟨_, rfl⟩
    rw [hrow0]
    (repeat (first | (with_reducible refine AWo.cons ?_) | ((with_reducible refine Step.id ?_); first | ((with_reducible apply Step.move); exact rfl; exact rfl) | ((with_reducible apply Step.assign); exact rfl; exact rfl) | ((with_reducible apply Step.sub); exact rfl; exact rfl; (focus (omega)); exact rfl) | ((with_reducible apply Step.lss); exact rfl; exact rfl; exact rfl) | ((with_reducible apply Step.len); exact rfl; (focus (assumption)); (focus (decide +kernel)); exact rfl) | ((with_reducible apply Step.make1 1); exact rfl; exact rfl; exact rfl; exact el23; (focus (omega)); exact rfl; (focus (first | (simp only [List.nil_append, List.cons_append, List.set_cons_zero, List.set_cons_succ, iv_set, bv_set, iv_rep, bv_rep]; done) | (simp only [List.nil_append, List.cons_append, List.set_cons_zero, List.set_cons_succ, iv_set, bv_set, iv_rep, bv_rep]; rfl) | rfl)))) | (with_reducible refine AWo.nil ?_) | ((with_reducible apply AW.seq)) | ((with_reducible apply Then.n)) | ((with_reducible apply AW.regL)) | ((with_reducible apply AW.block)) | ((with_reducible apply AW.exit)) | ((with_reducible apply InBlk.hit)) | ((with_reducible apply Then.e)) | ((with_reducible apply AW.condF); exact rfl; (focus ((simp only [decide_eq_true_eq, decide_eq_false_iff_not, Bool.not_eq_true', Bool.not_eq_false', Bool.not_true, Bool.not_false]; first | assumption | omega))))))
    refine AW.loopT (fun n' t L => ∃ (k : Nat) (y : Int), n' = j.length - k ∧ k ≤ j.length ∧ y = (j.length : Int) - 1 - k ∧ L = [some { cells := bv (bR j.length (fun i => decide ((i : Int) ∈ (lawN j k).left))) }, some { cells := iv (outR j k) }] ∧
      t = [(0, v), (6, .slice (some ⟨m.length + 0, 0, none⟩) j.length j.length), (7, .int .i64 (sumJ j (lawN j k).left)), (9, .slice (some ⟨m.length + 1, 0, none⟩) j.length j.length), (10, .int .i64 (lawN j k).worst), (11, .int .i64 y)])
      ⟨_, [(0, v), (6, .slice (some ⟨m.length + 0, 0, none⟩) j.length j.length), (7, .int .i64 s0), (9, .slice (some ⟨m.length + 1, 0, none⟩) j.length j.length), (10, .int .i64 0), (11, .int .i64 ((j.length : Int) - 1))], [some { cells := bv row0 }, some { cells := iv (List.replicate j.length 0) }], (Or.inl ⟨rfl, (by repeat (first | exact trivial | (refine And.intro rfl ?_)))⟩), 0, (j.length : Int) - 1, rfl, Nat.zero_le _, by simp, by rw [hrow0, outR_zero], by rw [hs0, w0]⟩ ?_
    clear hb hs0 hrow0 e1
    rintro n' t L ⟨k, y, rfl, hk, hy, rfl, rfl⟩
    have inv := lawN_inv hT hn k hk
    rcases Nat.lt_or_ge k j.length with hlt | hge
    · obtain ⟨q, rfl⟩ : ∃ q : Nat, y = (q : Int) := ⟨y.toNat, by omega⟩
      have hq : q = j.length - 1 - k := by omega
      obtain ⟨p1, p2, p3, p4⟩ := pk_ok hT hn hlt
      have hin := inv.inj _ p1
      have os := outR_set hT hn hlt
      have sl := sum_left hT hn hlt
      have ls := left_set hT hn hk
      have lO := outR_len j k
      have lR := bR_len j.length (fun i => decide ((i : Int) ∈ (lawN j k).left))
      have sb := sumJ_bd hJ inv.inj _ (Nat.le_refl _)
      have sb' : (lawN j k).left.length ≤ sumJ j (lawN j k).left ∧ sumJ j (lawN j k).left ≤ 10000 * (lawN j k).left.length := sb
      have ll := inv.llen
      have eW : (lawN j (k + 1)).worst = max (lawN j k).worst (pk j k).2 := rfl
      have pl : (preL j (lawN j k).left (sumJ j (lawN j k).left) (fun i => decide ((i : Int) ∈ (lawN j k).left)) j.length).1 = (pk j k).1 := by
        rw [preL_lastF ls]; rfl
      have stp : (bR j.length (fun i => decide ((i : Int) ∈ (lawN j k).left))).set (pk j k).1.toNat false = bR j.length (fun i => decide ((i : Int) ∈ (lawN j (k + 1)).left)) := by
        rw [bR_set]
        refine bR_congr fun i hi => ?_
        have eL : (lawN j (k + 1)).left = (lawN j k).left.filter fun x => !decide (x = (pk j k).1) := rfl
        rw [eL]
        by_cases e : i = (pk j k).1.toNat
        · rw [if_pos e, eq_comm, decide_eq_false_iff_not, List.mem_filter]
          have : (i : Int) = (pk j k).1 := by omega
          simp [this]
        · rw [if_neg e, decide_eq_decide, List.mem_filter]
          have : (i : Int) ≠ (pk j k).1 := by omega
          simp [this]
      have RL := fun (L : AM) (h : L[0]? = some (some { cells := bv (bR j.length (fun i => decide ((i : Int) ∈ (lawN j k).left))) })) => Rlast_ok (m := m ++ L) (r := m.length + 0) (b := fun i => decide ((i : Int) ∈ (lawN j k).left)) (t := sumJ j (lawN j k).left) (hj.old L) hJ hself (by have := (List.getElem?_eq_some_iff.1 h).1; simp; omega) (bR_boos h) ⟨by omega, by omega⟩ ls pl
      clear pl ls p1 p2 p4 sb inv
      obtain ⟨row2, hrow2⟩ : ∃ row2, bR j.length (fun i => decide ((i : Int) ∈ (lawN j (k + 1)).left)) = row2 := ⟨_, rfl⟩
      rw [hrow2] at stp
      generalize bR j.length (fun i => decide ((i : Int) ∈ (lawN j k).left)) = row at *
      have hol : (outR j (k + 1)).length = j.length := outR_len j (k + 1)
      rw [← os] at hol
      generalize outR j k = out at *
      generalize (lawN j k).worst = worst at *
      generalize sumJ j (lawN j k).left = tt at *
      generalize hpk : pk j k = pq at *
      obtain ⟨i, p⟩ := pq
      simp only at *
      obtain ⟨ik, rfl⟩ := Int.eq_ofNat_of_zero_le hin.1
      have hik : ik < j.length := by omega
      obtain ⟨w, hr, hw⟩ := h3 ik hik
      obtain ⟨_, _, w1, _, _⟩ := id hw
      have hone := w1.one
      have hnum := hJ.num ik hik
      have pn := fun (L : AM) => RPen_ok (m := m ++ L) (w := w) (j.getD ik default) tt hone ⟨by omega, by omega⟩ ⟨by omega, by omega⟩ ⟨by omega, by omega⟩
      simp only [jb, Int.toNat_natCast] at p3 stp sl
      rw [← p3] at pn
      clear p3
      generalize j.getD ik default = x at *
      obtain ⟨x1, x2, x3, af⟩ := x
      simp only [Job.cells] at *
      have hw1 := job_one (x := x1) (y := x2) (z := x3) hone
      (repeat (first | (with_reducible refine AWo.cons ?_) | ((with_reducible refine Step.id ?_); first | ((with_reducible apply Step.move); exact rfl; exact rfl) | ((with_reducible apply Step.assign); exact rfl; exact rfl) | ((with_reducible apply Step.load); exact rfl; (focus (decide +kernel)); exact rfl; (focus (exact Rd.old _ (hr.at_ 0 rfl)))) | ((with_reducible apply Step.loadL (n := 4)); exact rfl; (focus (decide +kernel)); (focus (decide +kernel)); exact rfl; (focus (exact RdL.old _ (by assumption))); exact rfl; exact rfl) | ((with_reducible apply Step.ix1z); exact rfl; (focus (exact Sl.mk (by omega))); exact rfl; (focus (decide +kernel)); exact rfl; (focus (omega))) | ((with_reducible apply Step.ix (s := 4)); exact rfl; (focus (assumption)); exact rfl; (focus (decide +kernel)); exact rfl; (focus (omega))) | ((with_reducible apply Step.field0); exact rfl; (focus (decide +kernel)); exact rfl) | ((with_reducible apply Step.sub); exact rfl; exact rfl; (focus (omega)); exact rfl) | ((with_reducible apply Step.geq); exact rfl; exact rfl; exact rfl) | ((with_reducible apply Step.max); exact rfl; exact rfl; exact rfl) | ((with_reducible apply Step.callR fit); exact rfl; exact Try.func87; exact rfl; exact rfl; exact (RL _ rfl)) | ((with_reducible apply Step.callR fit); exact rfl; exact Try.func64; exact rfl; exact rfl; exact (pn _)) | ((with_reducible apply Step.store (k := 0)); exact rfl; exact rfl; exact rfl; exact rfl; (focus (decide +kernel)); exact rfl; exact rfl; (focus (first | omega | (simp [iv, bv]; done) | (simp [iv, bv]; omega))); (focus (first | (simp only [List.nil_append, List.cons_append, List.set_cons_zero, List.set_cons_succ, iv_set, bv_set, iv_rep, bv_rep]; done) | (simp only [List.nil_append, List.cons_append, List.set_cons_zero, List.set_cons_succ, iv_set, bv_set, iv_rep, bv_rep]; rfl) | rfl))) | ((with_reducible apply Step.store (k := 1)); exact rfl; exact rfl; exact rfl; exact rfl; (focus (decide +kernel)); exact rfl; exact rfl; (focus (first | omega | (simp [iv, bv]; done) | (simp [iv, bv]; omega))); (focus (first | (simp only [List.nil_append, List.cons_append, List.set_cons_zero, List.set_cons_succ, iv_set, bv_set, iv_rep, bv_rep]; done) | (simp only [List.nil_append, List.cons_append, List.set_cons_zero, List.set_cons_succ, iv_set, bv_set, iv_rep, bv_rep]; rfl) | rfl)))) | (with_reducible refine AWo.nil ?_) | ((with_reducible apply AW.seq)) | ((with_reducible apply Then.n)) | ((with_reducible apply AW.regL)) | ((with_reducible apply AW.block)) | ((with_reducible apply InBlk.n)) | ((with_reducible apply AW.skip)) | ((with_reducible apply AW.condT); exact rfl; (focus (rfl)))))
      exact ⟨_, [(0, v), (6, .slice (some ⟨m.length + 0, 0, none⟩) j.length j.length), (7, .int .i64 (tt - x1)), (9, .slice (some ⟨m.length + 1, 0, none⟩) j.length j.length), (10, .int .i64 (max worst p)), (11, .int .i64 ((q : Int) - 1))], [some { cells := bv (row.set ik false) }, some { cells := iv (out.set q (ik : Int)) }], by omega, (Or.inl ⟨rfl, (by repeat (first | exact trivial | (refine And.intro rfl ?_)))⟩), k + 1, (q : Int) - 1, rfl, by omega, by omega, by rw [stp, hrow2, ← os, hq], by rw [sl, eW]⟩
    · obtain rfl : k = j.length := by omega
      have oe := outR_end hT hn
      have hW : (lawN j j.length).worst = lawW j := rfl
      rw [oe, hW]
      generalize bR j.length (fun i => decide ((i : Int) ∈ (lawN j j.length).left)) = row at *
      (repeat (first | (with_reducible refine AWo.cons ?_) | ((with_reducible refine Step.id ?_); first | ((with_reducible apply Step.move); exact rfl; exact rfl) | ((with_reducible apply Step.assign); exact rfl; exact rfl) | ((with_reducible apply Step.geq); exact rfl; exact rfl; exact rfl)) | (with_reducible refine AWo.nil ?_) | ((with_reducible apply AW.seq)) | ((with_reducible apply Then.n)) | ((with_reducible apply AW.regL)) | ((with_reducible apply AW.exit)) | ((with_reducible apply InBlk.hit)) | ((with_reducible apply Then.e)) | ((with_reducible apply AW.condF); exact rfl; (focus ((simp only [decide_eq_true_eq, decide_eq_false_iff_not, Bool.not_eq_true', Bool.not_eq_false', Bool.not_true, Bool.not_false]; first | assumption | omega))))))
      refine AW.retB (l := [(2, .slice (some ⟨m.length + 0, 0, none⟩) j.length j.length), (3, .int .i64 (lawW j)), (4, .int .i64 0)]) (L1 := [some { cells := iv (lawO j) }]) (Back.mvC 0 1 rfl rfl rfl rfl (by intro j b hj h; rcases j with _ | _ | _ | _ | _ | _ | _ | _ | j <;> first | exact absurd rfl hj | exact h | (simp at h; done)) (by repeat (first | exact CellsP.nil | (refine CellsP.cons ?_ ?_; (focus (exact cells_iv _))))) (by repeat (first | exact trivial | (refine And.intro ⟨_, rfl, by (first | exact .int _ _ | exact Ren.slice_mv (by first | (simp; done) | omega | (simp; omega)))⟩ ?_)))) ?_
      exact ⟨_, rfl, rfl, rfl⟩
set_option maxRecDepth 100000 in
theorem RLawler_no {m : AM} {v : Value} {j : List Job} (hj : Jobs m v j) (hs : Short j) {e : Int} (he : errJ j = e) (hne : e ≠ 0) : ACall Try.prog 41 #[v] m (Ret (.tuple #[.slice none 0 0, .int .i64 0, .int .i64 e]) m) := by
  refine ACall.start Try.func41 rfl rfl ?_
  (repeat (first | (with_reducible refine AWo.cons ?_) | ((with_reducible refine Step.id ?_); first | ((with_reducible apply Step.move); exact rfl; exact rfl) | ((with_reducible apply Step.assign); exact rfl; exact rfl) | ((with_reducible apply Step.neq); exact rfl; exact rfl; exact rfl) | ((with_reducible apply Step.callR fit); exact rfl; exact Try.func86; exact rfl; exact rfl; exact (Rchecked_ok (hj.old []) hs he))) | (with_reducible refine AWo.nil ?_) | ((with_reducible apply AW.seq)) | ((with_reducible apply Then.n)) | ((with_reducible apply AW.regL)) | ((with_reducible apply AW.condT); exact rfl; (focus ((simp only [decide_eq_true_eq, decide_eq_false_iff_not, Bool.not_eq_true', Bool.not_eq_false', Bool.not_true, Bool.not_false]; first | assumption | omega))))))
  (refine AW.retD (l := [(2, _), (3, _), (4, _)]) (by repeat (first | exact trivial | (refine And.intro ⟨rfl, by (first | exact .int _ _ | exact Ren.of_g0 rfl)⟩ ?_))) ?_; (repeat (first | refine Then.r ?_ | refine InBlk.r ?_)))
  exact ⟨_, rfl, rfl, rfl⟩
end Go.Proofs.Ytmomjannlnafcaa.Abs
namespace Go.Proofs.Ytmomjannlnafcaa.Abs
set_option linter.unusedSimpArgs false
set_option linter.unusedVariables false
open Go.RowKit
open Go.Proofs.Ytmomjannlnafcaa.Sim
open Go.Proofs
theorem ris_low {n : Nat} {l : List Int} {i : Nat} (h : ∀ q, q < i → risOk n l q = true) : ∀ q, q < i → (q : Int) ≤ l.getD q 0 ∧ l.getD q 0 < n
  | 0, hq => by
    have := h 0 hq
    simp only [risOk, decide_eq_true_eq] at this
    omega
  | q + 1, hq => by
    have ih := ris_low h q (by omega)
    have := h (q + 1) hq
    simp only [risOk, decide_eq_true_eq, Nat.add_sub_cancel] at this
    omega
theorem asc_eq : ∀ {l k : List Int}, l.Pairwise (· < ·) → k.Pairwise (· < ·) → (∀ x, x ∈ l ↔ x ∈ k) → l = k
  | [], [], _, _, _ => rfl
  | [], y :: k, _, _, h => by have := (h y).2 (by simp); simp at this
  | x :: l, [], _, _, h => by have := (h x).1 (by simp); simp at this
  | x :: l, y :: k, h1, h2, h => by
    obtain ⟨a1, a2⟩ := List.pairwise_cons.1 h1
    obtain ⟨b1, b2⟩ := List.pairwise_cons.1 h2
    have e : x = y := by
      rcases List.mem_cons.1 ((h x).1 (by simp)) with e | e
      · exact e
      · rcases List.mem_cons.1 ((h y).2 (by simp)) with e' | e'
        · exact e'.symm
        · have := a1 _ e'; have := b1 _ e; omega
    subst e
    congr 1
    refine asc_eq a2 b2 fun z => ?_
    have hz := h z
    simp only [List.mem_cons] at hz
    constructor
    · intro m
      rcases hz.1 (.inr m) with e | e
      · have := a1 _ m; omega
      · exact e
    · intro m
      rcases hz.2 (.inr m) with e | e
      · have := b1 _ m; omega
      · exact e
theorem ris_step {n : Nat} {l : List Int} (h : ∀ q, q < l.length → risOk n l q = true) (i : Nat) : ∀ d, i + d + 1 < l.length → l.getD i 0 < l.getD (i + d + 1) 0
  | 0, hd => by
    have := h (i + 0 + 1) hd
    simp only [risOk, decide_eq_true_eq, Nat.add_sub_cancel, Nat.add_zero] at this ⊢
    omega
  | d + 1, hd => by
    have ih := ris_step h i d (by omega)
    have := h (i + (d + 1) + 1) hd
    simp only [risOk, decide_eq_true_eq, Nat.add_sub_cancel] at this
    rw [show i + (d + 1) = i + d + 1 by omega] at this ⊢
    omega
theorem ris_asc {n : Nat} {l : List Int} (h : ∀ q, q < l.length → risOk n l q = true) : l.Pairwise (· < ·) := by
  rw [List.pairwise_iff_getElem]
  intro i k hi hk hik
  have := ris_step h i (k - i - 1) (by omega)
  rw [show i + (k - i - 1) + 1 = k by omega] at this
  simpa [hi, hk] using this
theorem ris_in {n : Nat} {l : List Int} (h : ∀ q, q < l.length → risOk n l q = true) : ∀ x ∈ l, 0 ≤ x ∧ x < n := fun x hx => by
  obtain ⟨i, hi, e⟩ := List.getElem_of_mem hx
  have := ris_low h i hi
  have e' : l.getD i 0 = x := by simp only [List.getD_eq_getElem?_getD, List.getElem?_eq_getElem hi, Option.getD_some]; exact e
  rw [e'] at this
  omega
theorem upI_asc (n : Nat) : (upI n).Pairwise (· < ·) := by
  rw [List.pairwise_iff_getElem]
  intro i k hi hk hik
  simp only [upI, List.getElem_map, List.getElem_range]
  omega
theorem ris_setB {n : Nat} {l : List Int} (h : ∀ q, q < l.length → risOk n l q = true) : setB n (fun i => decide ((i : Int) ∈ l)) = l := by
  refine asc_eq ((upI_asc n).filter _) (ris_asc h) fun x => ?_
  rw [setB_mem]
  constructor
  · rintro ⟨h0, _, h2⟩
    have := of_decide_eq_true h2
    rwa [Int.toNat_of_nonneg h0] at this
  · intro hx
    have := ris_in h x hx
    exact ⟨this.1, this.2, by rw [Int.toNat_of_nonneg this.1]; exact decide_eq_true hx⟩
theorem ris_len {n : Nat} {l : List Int} (h : ∀ q, q < l.length → risOk n l q = true) : l.length ≤ n := by
  rw [← ris_setB h]
  have := List.length_filter_le (fun x => decide (((x.toNat : Nat) : Int) ∈ l)) (upI n)
  rw [upI_len] at this
  exact this
theorem ris_sm {j : List Job} (hJ : JOk j) {l : List Int} : ∀ i, (∀ q, q < i → risOk j.length l q = true) → 0 ≤ sm (fun k => (jb j (l.getD k 0)).time) i ∧ sm (fun k => (jb j (l.getD k 0)).time) i ≤ 10000 * i
  | 0, _ => by simp [sm]
  | i + 1, h => by
    have ih := ris_sm hJ i fun q hq => h q (by omega)
    have hl := ris_low h i (by omega)
    have hnum := hJ.num (l.getD i 0).toNat (by omega)
    have h3 : 1 ≤ (jb j (l.getD i 0)).time ∧ (jb j (l.getD i 0)).time ≤ 10000 := ⟨hnum.1, hnum.2.1⟩
    simp only [sm]
    omega
theorem ris_all {n : Nat} {l : List Int} (h : ∀ q, q < l.length → risOk n l q = true) : risB n l = true := by
  simp only [risB, List.all_eq_true, List.mem_range]
  exact h
def errB (j : List Job) (l : List Int) : Int := if jobsB j = true then if risB j.length l = true then errJ j else 2 else 2
def valB (j : List Job) (l : List Int) : Int := if errB j l = 0 then (lastF j l).2 else 0
set_option maxHeartbeats 2000000 in
set_option maxRecDepth 100000 in
theorem RBound_ok {m : AM} {v u : Value} {j : List Job} {l : List Int} (hj : Jobs m v j) (hs : Short j) (hl : Ints m u l) (hlen : l.length ≤ 9223372036854775807) : ACall Try.prog 42 #[v, u] m (Ret (.tuple #[.int .i64 (valB j l), .int .i64 (errB j l)]) m) := by
  obtain ⟨ja, o, h1, h2, h3⟩ := id hj
  obtain ⟨b, z, k1, k2, k3⟩ := id hl
  obtain ⟨s1, s2⟩ := id hs
  refine ACall.start Try.func42 rfl rfl ?_
  cases hok : jobsB j with
  | false =>
    (repeat (first | (with_reducible refine AWo.cons ?_) | ((with_reducible refine Step.id ?_); first | ((with_reducible apply Step.move); exact rfl; exact rfl) | ((with_reducible apply Step.assign); exact rfl; exact rfl) | ((with_reducible apply Step.not); exact rfl; exact rfl) | ((with_reducible apply Step.callR fit); exact rfl; exact Try.func44; exact rfl; exact rfl; exact (RJobs_ok (hj.old []) s2 s1 hok))) | (with_reducible refine AWo.nil ?_) | ((with_reducible apply AW.seq)) | ((with_reducible apply Then.n)) | ((with_reducible apply AW.regL)) | ((with_reducible apply AW.condT); exact rfl; (focus (rfl)))))
    (refine AW.retD (l := [(4, _), (5, _)]) (by repeat (first | exact trivial | (refine And.intro ⟨rfl, by (exact .int _ _)⟩ ?_))) ?_; (repeat (first | refine Then.r ?_ | refine InBlk.r ?_)))
    exact ⟨_, rfl, by simp [valB, errB, hok], rfl⟩
  | true =>
    have hJ := JOk.of hok
    have h40 := hJ.len
    obtain ⟨su, hsu⟩ : ∃ su : Nat → Int, su = fun i => sm (fun k => (jb j (l.getD k 0)).time) i := ⟨_, rfl⟩
    have su0 : su 0 = 0 := by rw [hsu]; rfl
    have suS : ∀ i, su (i + 1) = su i + (jb j (l.getD i 0)).time := fun i => by rw [hsu]; rfl
    have suB : ∀ i, (∀ q, q < i → risOk j.length l q = true) → 0 ≤ su i ∧ su i ≤ 10000 * i := fun i h => by rw [hsu]; exact ris_sm hJ i h
    have suE : su l.length = sumJ j l := by rw [hsu]; rfl
    clear hsu
    (repeat (first | (with_reducible refine AWo.cons ?_) | ((with_reducible refine Step.id ?_); first | ((with_reducible apply Step.move); exact rfl; exact rfl) | ((with_reducible apply Step.assign); exact rfl; exact rfl) | ((with_reducible apply Step.len); exact rfl; (focus (assumption)); (focus (decide +kernel)); exact rfl) | ((with_reducible apply Step.not); exact rfl; exact rfl) | ((with_reducible apply Step.callR fit); exact rfl; exact Try.func44; exact rfl; exact rfl; exact (RJobs_ok (hj.old []) s2 s1 hok)) | ((with_reducible apply Step.make1 0); exact rfl; exact rfl; exact rfl; exact el84; (focus (omega)); exact rfl; (focus (first | (simp only [List.nil_append, List.cons_append, List.set_cons_zero, List.set_cons_succ, iv_set, bv_set, iv_rep, bv_rep]; done) | (simp only [List.nil_append, List.cons_append, List.set_cons_zero, List.set_cons_succ, iv_set, bv_set, iv_rep, bv_rep]; rfl) | rfl)))) | (with_reducible refine AWo.nil ?_) | ((with_reducible apply AW.seq)) | ((with_reducible apply Then.n)) | ((with_reducible apply AW.regL)) | ((with_reducible apply AW.block)) | ((with_reducible apply AW.skip)) | ((with_reducible apply AW.condF); exact rfl; (focus (rfl)))))
    refine AW.loopT (fun n' t L => ∃ i : Nat, n' = l.length - i ∧ i ≤ l.length ∧ (∀ q, q < i → risOk j.length l q = true) ∧ L = [some { cells := bv (bR j.length (fun k => decide ((k : Int) ∈ l.take i))) }] ∧
      t = [(0, v), (1, u), (6, .slice (some ⟨m.length + 0, 0, none⟩) j.length j.length), (7, .int .i64 (su i)), (17, u), (18, .int .i64 (l.length : Nat)), (19, .int .i64 (i : Nat))])
      ⟨_, [(0, v), (1, u), (6, .slice (some ⟨m.length + 0, 0, none⟩) j.length j.length), (7, .int .i64 0), (17, u), (18, .int .i64 (l.length : Nat)), (19, .int .i64 ((0 : Nat) : Int))], [some { cells := bv (List.replicate j.length false) }], (Or.inl ⟨rfl, (by repeat (first | exact trivial | (refine And.intro rfl ?_)))⟩), 0, rfl, Nat.zero_le _, by omega, by rw [bR_zero]; simp, by rw [su0]⟩ ?_
    rintro n' t L ⟨i, rfl, hi, hris, rfl, rfl⟩
    rcases Nat.lt_or_ge i l.length with hlt2 | hge2
    · have hri := k3 i hlt2
      have badi : risOk j.length l i = false → errB j l = 2 ∧ valB j l = 0 := fun e => by
        have e2 : errB j l = 2 := by simp [errB, risB_not hlt2 e]
        exact ⟨e2, by simp [valB, e2]⟩
      have next : risOk j.length l i = true → ∀ q, q < i + 1 → risOk j.length l q = true := fun e q hq => by
        rcases Nat.lt_succ_iff_lt_or_eq.1 hq with h | h
        · exact hris q h
        · rw [h]; exact e
      have stp : ∀ x : Nat, l.getD i 0 = (x : Int) → (bR j.length (fun k => decide ((k : Int) ∈ l.take i))).set x true = bR j.length (fun k => decide ((k : Int) ∈ l.take (i + 1))) := fun x hx => by
        rw [bR_set]
        refine bR_congr fun k hk => ?_
        rw [take_snoc l i 0 hlt2, hx]
        by_cases e : k = x
        · rw [if_pos e]; simp [e]
        · rw [if_neg e, decide_eq_decide, List.mem_append]
          have : (k : Int) ≠ (x : Int) := by omega
          simp [this]
      have lR := bR_len j.length (fun k => decide ((k : Int) ∈ l.take i))
      have b1 := suB i hris
      have b2 := suB (i + 1)
      have s3 := suS i
      have low := fun e => ris_low (next e) i (by omega)
      obtain ⟨row2, hrow2⟩ : ∃ row2, bR j.length (fun k => decide ((k : Int) ∈ l.take (i + 1))) = row2 := ⟨_, rfl⟩
      rw [hrow2] at stp
      generalize bR j.length (fun k => decide ((k : Int) ∈ l.take i)) = row at *
      by_cases d1 : l.getD i 0 < 0
      · obtain ⟨e1, e2⟩ := badi (by simp only [risOk, decide_eq_false_iff_not]; omega)
        rw [e1, e2]
        (repeat (first | (with_reducible refine AWo.cons ?_) | ((with_reducible refine Step.id ?_); first | ((with_reducible apply Step.gdU); exact rfl; exact rfl) | ((with_reducible apply Step.gdF); exact rfl; exact rfl; (focus (first | rfl | (simp only [decide_eq_true_eq, decide_eq_false_iff_not, Bool.not_eq_true', Bool.not_eq_false', Bool.not_true, Bool.not_false]; first | assumption | omega)))) | ((with_reducible apply Step.move); exact rfl; exact rfl) | ((with_reducible apply Step.assign); exact rfl; exact rfl) | ((with_reducible apply Step.load); exact rfl; (focus (decide +kernel)); exact rfl; (focus (exact Rd.old _ (by assumption)))) | ((with_reducible apply Step.ix1); exact rfl; (focus (assumption)); exact rfl; (focus (decide +kernel)); exact rfl; (focus (omega))) | ((with_reducible apply Step.lss); exact rfl; exact rfl; exact rfl) | ((with_reducible apply Step.pickT); exact rfl; exact rfl; exact rfl; exact rfl; (focus (first | rfl | (simp only [decide_eq_true_eq, decide_eq_false_iff_not, Bool.not_eq_true', Bool.not_eq_false', Bool.not_true, Bool.not_false]; first | assumption | omega))))) | (with_reducible refine AWo.nil ?_) | ((with_reducible apply AW.seq)) | ((with_reducible apply Then.n)) | ((with_reducible apply AW.regL)) | ((with_reducible apply AW.block)) | ((with_reducible apply AW.skip)) | ((with_reducible apply AW.condT); exact rfl; (focus (first | rfl | (simp only [decide_eq_true_eq, decide_eq_false_iff_not, Bool.not_eq_true', Bool.not_eq_false', Bool.not_true, Bool.not_false]; first | assumption | omega))))))
        (refine AW.retD (l := [(4, _), (5, _)]) (by repeat (first | exact trivial | (refine And.intro ⟨rfl, by (exact .int _ _)⟩ ?_))) ?_; (repeat (first | refine Then.r ?_ | refine InBlk.r ?_)))
        exact ⟨_, rfl, rfl, rfl⟩
      · by_cases d2 : (j.length : Int) ≤ l.getD i 0
        · obtain ⟨e1, e2⟩ := badi (by simp only [risOk, decide_eq_false_iff_not]; omega)
          rw [e1, e2]
          (repeat (first | (with_reducible refine AWo.cons ?_) | ((with_reducible refine Step.id ?_); first | ((with_reducible apply Step.gdU); exact rfl; exact rfl) | ((with_reducible apply Step.gdT); exact rfl; exact rfl; (focus ((simp only [decide_eq_true_eq, decide_eq_false_iff_not, Bool.not_eq_true', Bool.not_eq_false', Bool.not_true, Bool.not_false]; first | assumption | omega)))) | ((with_reducible apply Step.gdF); exact rfl; exact rfl; (focus ((simp only [decide_eq_true_eq, decide_eq_false_iff_not, Bool.not_eq_true', Bool.not_eq_false', Bool.not_true, Bool.not_false]; first | assumption | omega)))) | ((with_reducible apply Step.move); exact rfl; exact rfl) | ((with_reducible apply Step.assign); exact rfl; exact rfl) | ((with_reducible apply Step.load); exact rfl; (focus (decide +kernel)); exact rfl; (focus (exact Rd.old _ (by assumption)))) | ((with_reducible apply Step.ix1); exact rfl; (focus (assumption)); exact rfl; (focus (decide +kernel)); exact rfl; (focus (omega))) | ((with_reducible apply Step.lss); exact rfl; exact rfl; exact rfl) | ((with_reducible apply Step.geq); exact rfl; exact rfl; exact rfl) | ((with_reducible apply Step.len); exact rfl; (focus (assumption)); (focus (decide +kernel)); exact rfl) | ((with_reducible apply Step.pickT); exact rfl; exact rfl; exact rfl; exact rfl; (focus ((simp only [decide_eq_true_eq, decide_eq_false_iff_not, Bool.not_eq_true', Bool.not_eq_false', Bool.not_true, Bool.not_false]; first | assumption | omega)))) | ((with_reducible apply Step.pickF); exact rfl; exact rfl; exact rfl; exact rfl; (focus ((simp only [decide_eq_true_eq, decide_eq_false_iff_not, Bool.not_eq_true', Bool.not_eq_false', Bool.not_true, Bool.not_false]; first | assumption | omega))))) | (with_reducible refine AWo.nil ?_) | ((with_reducible apply AW.seq)) | ((with_reducible apply Then.n)) | ((with_reducible apply AW.regL)) | ((with_reducible apply AW.block)) | ((with_reducible apply AW.skip)) | ((with_reducible apply AW.condT); exact rfl; (focus (first | rfl | (simp only [decide_eq_true_eq, decide_eq_false_iff_not, Bool.not_eq_true', Bool.not_eq_false', Bool.not_true, Bool.not_false]; first | assumption | omega))))))
          (refine AW.retD (l := [(4, _), (5, _)]) (by repeat (first | exact trivial | (refine And.intro ⟨rfl, by (exact .int _ _)⟩ ?_))) ?_; (repeat (first | refine Then.r ?_ | refine InBlk.r ?_)))
          exact ⟨_, rfl, rfl, rfl⟩
        · obtain ⟨x, hx⟩ : ∃ x : Nat, l.getD i 0 = (x : Int) := ⟨(l.getD i 0).toNat, by omega⟩
          have hxn : x < j.length := by omega
          obtain ⟨w, hr, hw⟩ := h3 x hxn
          have st := stp x hx
          have hb2 : risOk j.length l i = true → i < 40 ∧ 0 ≤ su (i + 1) ∧ su (i + 1) ≤ 10000 * (i + 1) := fun e => by
            have := low e
            have := b2 (next e)
            omega
          rw [hx] at s3 hri d1 d2
          simp only [jb, Int.toNat_natCast] at s3
          by_cases d3 : (i : Int) > 0
          · have hrp := k3 (i - 1) (by omega)
            have ep : ((i : Nat) : Int) - 1 = ((i - 1 : Nat) : Int) := by omega
            by_cases d4 : l.getD i 0 ≤ l.getD (i - 1) 0
            · obtain ⟨e1, e2⟩ := badi (by simp only [risOk, decide_eq_false_iff_not]; omega)
              rw [e1, e2]
              rw [hx] at d4
              (repeat (first | (with_reducible refine AWo.cons ?_) | ((with_reducible refine Step.id ?_); first | ((with_reducible apply Step.gdT); exact rfl; exact rfl; (focus (first | rfl | (simp only [decide_eq_true_eq, decide_eq_false_iff_not, Bool.not_eq_true', Bool.not_eq_false', Bool.not_true, Bool.not_false]; first | assumption | omega)))) | ((with_reducible apply Step.move); exact rfl; exact rfl) | ((with_reducible apply Step.assign); exact rfl; exact rfl) | ((with_reducible apply Step.load); exact rfl; (focus (decide +kernel)); exact rfl; (focus (exact Rd.old _ (by assumption)))) | ((with_reducible apply Step.ix1); exact rfl; (focus (assumption)); exact rfl; (focus (decide +kernel)); exact rfl; (focus (omega))) | ((with_reducible apply Step.subE); exact rfl; exact rfl; (focus (assumption)); (focus (omega)); exact rfl) | ((with_reducible apply Step.lss); exact rfl; exact rfl; exact rfl) | ((with_reducible apply Step.gtr); exact rfl; exact rfl; exact rfl) | ((with_reducible apply Step.geq); exact rfl; exact rfl; exact rfl) | ((with_reducible apply Step.len); exact rfl; (focus (assumption)); (focus (decide +kernel)); exact rfl) | ((with_reducible apply Step.pickT); exact rfl; exact rfl; exact rfl; exact rfl; (focus ((simp only [decide_eq_true_eq, decide_eq_false_iff_not, Bool.not_eq_true', Bool.not_eq_false', Bool.not_true, Bool.not_false]; first | assumption | omega)))) | ((with_reducible apply Step.pickF); exact rfl; exact rfl; exact rfl; exact rfl; (focus (first | rfl | (simp only [decide_eq_true_eq, decide_eq_false_iff_not, Bool.not_eq_true', Bool.not_eq_false', Bool.not_true, Bool.not_false]; first | assumption | omega))))) | (with_reducible refine AWo.nil ?_) | ((with_reducible apply AW.seq)) | ((with_reducible apply Then.n)) | ((with_reducible apply AW.regL)) | ((with_reducible apply AW.block)) | ((with_reducible apply AW.skip)) | ((with_reducible apply AW.condT); exact rfl; (focus ((simp only [decide_eq_true_eq, decide_eq_false_iff_not, Bool.not_eq_true', Bool.not_eq_false', Bool.not_true, Bool.not_false]; first | assumption | omega))))))
              (refine AW.retD (l := [(4, _), (5, _)]) (by repeat (first | exact trivial | (refine And.intro ⟨rfl, by (exact .int _ _)⟩ ?_))) ?_; (repeat (first | refine Then.r ?_ | refine InBlk.r ?_)))
              exact ⟨_, rfl, rfl, rfl⟩
            · have hro : risOk j.length l i = true := by simp only [risOk, decide_eq_true_eq]; omega
              have e := next hro
              have b3 := hb2 hro
              rw [hx] at d4
              rw [s3] at b3
              generalize j.getD x default = y at *
              obtain ⟨y1, y2, y3, af⟩ := y
              simp only [Job.cells] at *
              (repeat (first | (with_reducible refine AWo.cons ?_) | ((with_reducible refine Step.id ?_); first | ((with_reducible apply Step.gdT); exact rfl; exact rfl; (focus (first | rfl | (simp only [decide_eq_true_eq, decide_eq_false_iff_not, Bool.not_eq_true', Bool.not_eq_false', Bool.not_true, Bool.not_false]; first | assumption | omega)))) | ((with_reducible apply Step.move); exact rfl; exact rfl) | ((with_reducible apply Step.assign); exact rfl; exact rfl) | ((with_reducible apply Step.load); exact rfl; (focus (decide +kernel)); exact rfl; (focus (first | exact Rd.old _ (by assumption) | exact Rd.old _ (hr.at_ 0 rfl)))) | ((with_reducible apply Step.ix1z); exact rfl; (focus (exact Sl.mk (by omega))); exact rfl; (focus (decide +kernel)); exact rfl; (focus (omega))) | ((with_reducible apply Step.ix1); exact rfl; (focus (assumption)); exact rfl; (focus (decide +kernel)); exact rfl; (focus (omega))) | ((with_reducible apply Step.ix (s := 4)); exact rfl; (focus (assumption)); exact rfl; (focus (decide +kernel)); exact rfl; (focus (omega))) | ((with_reducible apply Step.field0); exact rfl; (focus (decide +kernel)); exact rfl) | ((with_reducible apply Step.subE); exact rfl; exact rfl; (focus (assumption)); (focus (omega)); exact rfl) | ((with_reducible apply Step.add); exact rfl; exact rfl; (focus (omega)); exact rfl) | ((with_reducible apply Step.lss); exact rfl; exact rfl; exact rfl) | ((with_reducible apply Step.gtr); exact rfl; exact rfl; exact rfl) | ((with_reducible apply Step.geq); exact rfl; exact rfl; exact rfl) | ((with_reducible apply Step.len); exact rfl; (focus (assumption)); (focus (decide +kernel)); exact rfl) | ((with_reducible apply Step.pickT); exact rfl; exact rfl; exact rfl; exact rfl; (focus ((simp only [decide_eq_true_eq, decide_eq_false_iff_not, Bool.not_eq_true', Bool.not_eq_false', Bool.not_true, Bool.not_false]; first | assumption | omega)))) | ((with_reducible apply Step.pickF); exact rfl; exact rfl; exact rfl; exact rfl; (focus (first | rfl | (simp only [decide_eq_true_eq, decide_eq_false_iff_not, Bool.not_eq_true', Bool.not_eq_false', Bool.not_true, Bool.not_false]; first | assumption | omega)))) | ((with_reducible apply Step.store (k := 0)); exact rfl; exact rfl; exact rfl; exact rfl; (focus (decide +kernel)); exact rfl; exact rfl; (focus (first | omega | (simp [iv, bv]; done) | (simp [iv, bv]; omega))); (focus (first | (simp only [List.nil_append, List.cons_append, List.set_cons_zero, List.set_cons_succ, iv_set, bv_set, iv_rep, bv_rep]; done) | (simp only [List.nil_append, List.cons_append, List.set_cons_zero, List.set_cons_succ, iv_set, bv_set, iv_rep, bv_rep]; rfl) | rfl)))) | (with_reducible refine AWo.nil ?_) | ((with_reducible apply AW.seq)) | ((with_reducible apply Then.n)) | ((with_reducible apply AW.regL)) | ((with_reducible apply AW.block)) | ((with_reducible apply InBlk.n)) | ((with_reducible apply AW.skip)) | ((with_reducible apply AW.condT); exact rfl; (focus ((simp only [decide_eq_true_eq, decide_eq_false_iff_not, Bool.not_eq_true', Bool.not_eq_false', Bool.not_true, Bool.not_false]; first | assumption | omega)))) | ((with_reducible apply AW.condF); exact rfl; (focus ((simp only [decide_eq_true_eq, decide_eq_false_iff_not, Bool.not_eq_true', Bool.not_eq_false', Bool.not_true, Bool.not_false]; first | assumption | omega))))))
              exact ⟨_, [(0, v), (1, u), (6, .slice (some ⟨m.length + 0, 0, none⟩) j.length j.length), (7, .int .i64 (su i + y1)), (17, u), (18, .int .i64 (l.length : Nat)), (19, .int .i64 ((i + 1 : Nat) : Int))], [some { cells := bv (row.set x true) }], by omega, (Or.inl ⟨rfl, (by repeat (first | exact trivial | (refine And.intro rfl ?_)))⟩), i + 1, rfl, by omega, e, by rw [hrow2, st], by rw [s3]⟩
          · have hro : risOk j.length l i = true := by simp only [risOk, decide_eq_true_eq]; omega
            have e := next hro
            have b3 := hb2 hro
            rw [s3] at b3
            generalize j.getD x default = y at *
            obtain ⟨y1, y2, y3, af⟩ := y
            simp only [Job.cells] at *
            (repeat (first | (with_reducible refine AWo.cons ?_) | ((with_reducible refine Step.id ?_); first | ((with_reducible apply Step.gdT); exact rfl; exact rfl; (focus (first | rfl | (simp only [decide_eq_true_eq, decide_eq_false_iff_not, Bool.not_eq_true', Bool.not_eq_false', Bool.not_true, Bool.not_false]; first | assumption | omega)))) | ((with_reducible apply Step.gdF); exact rfl; exact rfl; (focus ((simp only [decide_eq_true_eq, decide_eq_false_iff_not, Bool.not_eq_true', Bool.not_eq_false', Bool.not_true, Bool.not_false]; first | assumption | omega)))) | ((with_reducible apply Step.move); exact rfl; exact rfl) | ((with_reducible apply Step.assign); exact rfl; exact rfl) | ((with_reducible apply Step.load); exact rfl; (focus (decide +kernel)); exact rfl; (focus (first | exact Rd.old _ (by assumption) | exact Rd.old _ (hr.at_ 0 rfl)))) | ((with_reducible apply Step.ix1z); exact rfl; (focus (exact Sl.mk (by omega))); exact rfl; (focus (decide +kernel)); exact rfl; (focus (omega))) | ((with_reducible apply Step.ix1); exact rfl; (focus (assumption)); exact rfl; (focus (decide +kernel)); exact rfl; (focus (omega))) | ((with_reducible apply Step.ix (s := 4)); exact rfl; (focus (assumption)); exact rfl; (focus (decide +kernel)); exact rfl; (focus (omega))) | ((with_reducible apply Step.field0); exact rfl; (focus (decide +kernel)); exact rfl) | ((with_reducible apply Step.add); exact rfl; exact rfl; (focus (omega)); exact rfl) | ((with_reducible apply Step.lss); exact rfl; exact rfl; exact rfl) | ((with_reducible apply Step.gtr); exact rfl; exact rfl; exact rfl) | ((with_reducible apply Step.geq); exact rfl; exact rfl; exact rfl) | ((with_reducible apply Step.len); exact rfl; (focus (assumption)); (focus (decide +kernel)); exact rfl) | ((with_reducible apply Step.pickF); exact rfl; exact rfl; exact rfl; exact rfl; (focus (first | rfl | (simp only [decide_eq_true_eq, decide_eq_false_iff_not, Bool.not_eq_true', Bool.not_eq_false', Bool.not_true, Bool.not_false]; first | assumption | omega)))) | ((with_reducible apply Step.store (k := 0)); exact rfl; exact rfl; exact rfl; exact rfl; (focus (decide +kernel)); exact rfl; exact rfl; (focus (first | omega | (simp [iv, bv]; done) | (simp [iv, bv]; omega))); (focus (first | (simp only [List.nil_append, List.cons_append, List.set_cons_zero, List.set_cons_succ, iv_set, bv_set, iv_rep, bv_rep]; done) | (simp only [List.nil_append, List.cons_append, List.set_cons_zero, List.set_cons_succ, iv_set, bv_set, iv_rep, bv_rep]; rfl) | rfl)))) | (with_reducible refine AWo.nil ?_) | ((with_reducible apply AW.seq)) | ((with_reducible apply Then.n)) | ((with_reducible apply AW.regL)) | ((with_reducible apply AW.block)) | ((with_reducible apply InBlk.n)) | ((with_reducible apply AW.skip)) | ((with_reducible apply AW.condT); exact rfl; (focus ((simp only [decide_eq_true_eq, decide_eq_false_iff_not, Bool.not_eq_true', Bool.not_eq_false', Bool.not_true, Bool.not_false]; first | assumption | omega)))) | ((with_reducible apply AW.condF); exact rfl; (focus (rfl)))))
            exact ⟨_, [(0, v), (1, u), (6, .slice (some ⟨m.length + 0, 0, none⟩) j.length j.length), (7, .int .i64 (su i + y1)), (17, u), (18, .int .i64 (l.length : Nat)), (19, .int .i64 ((i + 1 : Nat) : Int))], [some { cells := bv (row.set x true) }], by omega, (Or.inl ⟨rfl, (by repeat (first | exact trivial | (refine And.intro rfl ?_)))⟩), i + 1, rfl, by omega, e, by rw [hrow2, st], by rw [s3]⟩
    · obtain rfl : i = l.length := by omega
      have hrb := ris_all hris
      rw [List.take_of_length_le (Nat.le_refl _), suE]
      by_cases hn : (sortL j).length = j.length
      · have e0 : errJ j = 0 := by simp [errJ, hok, hn]
        have e1 : errB j l = 0 := by simp [errB, hok, hrb, e0]
        have e2 : valB j l = (lastF j l).2 := by simp [valB, e1]
        rw [e1, e2]
        have hll := ris_len hris
        have sb := suB l.length hris
        rw [suE] at sb
        by_cases hz : l.length = 0
        · obtain rfl : l = [] := List.eq_nil_of_length_eq_zero hz
          generalize bR j.length (fun k => decide ((k : Int) ∈ ([] : List Int))) = row at *
          (repeat (first | (with_reducible refine AWo.cons ?_) | ((with_reducible refine Step.id ?_); first | ((with_reducible apply Step.move); exact rfl; exact rfl) | ((with_reducible apply Step.assign); exact rfl; exact rfl) | ((with_reducible apply Step.lss); exact rfl; exact rfl; exact rfl) | ((with_reducible apply Step.eql); exact rfl; exact rfl; exact rfl) | ((with_reducible apply Step.neq); exact rfl; exact rfl; exact rfl) | ((with_reducible apply Step.len); exact rfl; (focus (assumption)); (focus (decide +kernel)); exact rfl) | ((with_reducible apply Step.callR fit); exact rfl; exact Try.func86; exact rfl; exact rfl; exact (Rchecked_ok (hj.old _) hs e0))) | (with_reducible refine AWo.nil ?_) | ((with_reducible apply AW.seq)) | ((with_reducible apply Then.n)) | ((with_reducible apply AW.regL)) | ((with_reducible apply AW.exit)) | ((with_reducible apply InBlk.hit)) | ((with_reducible apply Then.e)) | ((with_reducible apply AW.skip)) | ((with_reducible apply AW.condT); exact rfl; (focus (rfl))) | ((with_reducible apply AW.condF); exact rfl; (focus (rfl)))))
          (refine AW.retD (l := [(4, _), (5, _)]) (by repeat (first | exact trivial | (refine And.intro ⟨rfl, by (exact .int _ _)⟩ ?_))) ?_; (repeat (first | refine Then.r ?_ | refine InBlk.r ?_)))
          exact ⟨_, rfl, rfl, rfl⟩
        · have hT := sortL_topo j
          have hset := ris_setB hris
          have hne : l ≠ [] := fun e => hz (by rw [e]; rfl)
          obtain ⟨p1, p2, p3, p4⟩ := lastF_ok hT hn (ris_in hris) hne
          have hin := ris_in hris _ p1
          have pl : (preL j l (sumJ j l) (fun i => decide ((i : Int) ∈ l)) j.length).1 = (lastF j l).1 := by rw [preL_lastF hset]
          have RL := fun (L : AM) (h : L[0]? = some (some { cells := bv (bR j.length (fun i => decide ((i : Int) ∈ l))) })) => Rlast_ok (m := m ++ L) (r := m.length + 0) (b := fun i => decide ((i : Int) ∈ l)) (t := sumJ j l) (hj.old L) hJ (self_not hJ hT hn) (by have := (List.getElem?_eq_some_iff.1 h).1; simp; omega) (bR_boos h) ⟨by omega, by omega⟩ hset pl
          generalize bR j.length (fun i => decide ((i : Int) ∈ l)) = row at *
          clear pl hset p1 p2 p4
          generalize sumJ j l = tt at *
          generalize lastF j l = pq at *
          obtain ⟨i, p⟩ := pq
          simp only at *
          obtain ⟨ik, rfl⟩ := Int.eq_ofNat_of_zero_le hin.1
          have hik : ik < j.length := by omega
          obtain ⟨w, hr, hw⟩ := h3 ik hik
          obtain ⟨_, _, w1, _, _⟩ := id hw
          have hone := w1.one
          have hnum := hJ.num ik hik
          have pn := fun (L : AM) => RPen_ok (m := m ++ L) (w := w) (j.getD ik default) tt hone ⟨by omega, by omega⟩ ⟨by omega, by omega⟩ ⟨by omega, by omega⟩
          simp only [jb, Int.toNat_natCast] at p3
          rw [← p3] at pn
          clear p3
          generalize j.getD ik default = x at *
          obtain ⟨x1, x2, x3, af⟩ := x
          simp only [Job.cells] at *
          have hw1 := job_one (x := x1) (y := x2) (z := x3) hone
          (repeat (first | (with_reducible refine AWo.cons ?_) | ((with_reducible refine Step.id ?_); first | ((with_reducible apply Step.move); exact rfl; exact rfl) | ((with_reducible apply Step.assign); exact rfl; exact rfl) | ((with_reducible apply Step.loadL (n := 4)); exact rfl; (focus (decide +kernel)); (focus (decide +kernel)); exact rfl; (focus (exact RdL.old _ (by assumption))); exact rfl; exact rfl) | ((with_reducible apply Step.ix (s := 4)); exact rfl; (focus (assumption)); exact rfl; (focus (decide +kernel)); exact rfl; (focus (omega))) | ((with_reducible apply Step.lss); exact rfl; exact rfl; exact rfl) | ((with_reducible apply Step.eql); exact rfl; exact rfl; exact rfl) | ((with_reducible apply Step.neq); exact rfl; exact rfl; exact rfl) | ((with_reducible apply Step.len); exact rfl; (focus (assumption)); (focus (decide +kernel)); exact rfl) | ((with_reducible apply Step.callR fit); exact rfl; exact Try.func86; exact rfl; exact rfl; exact (Rchecked_ok (hj.old _) hs e0)) | ((with_reducible apply Step.callR fit); exact rfl; exact Try.func87; exact rfl; exact rfl; exact (RL _ rfl)) | ((with_reducible apply Step.callR fit); exact rfl; exact Try.func64; exact rfl; exact rfl; exact (pn _))) | (with_reducible refine AWo.nil ?_) | ((with_reducible apply AW.seq)) | ((with_reducible apply Then.n)) | ((with_reducible apply AW.regL)) | ((with_reducible apply AW.exit)) | ((with_reducible apply InBlk.hit)) | ((with_reducible apply Then.e)) | ((with_reducible apply AW.skip)) | ((with_reducible apply AW.condF); exact rfl; (focus (first | rfl | (simp only [decide_eq_true_eq, decide_eq_false_iff_not, Bool.not_eq_true', Bool.not_eq_false', Bool.not_true, Bool.not_false]; first | assumption | omega))))))
          (refine AW.retD (l := [(4, _), (5, _)]) (by repeat (first | exact trivial | (refine And.intro ⟨rfl, by (exact .int _ _)⟩ ?_))) ?_; (repeat (first | refine Then.r ?_ | refine InBlk.r ?_)))
          exact ⟨_, rfl, rfl, rfl⟩
      · have e0 : errJ j = 10 := by simp [errJ, hok, hn]
        have e1 : errB j l = 10 := by simp [errB, hok, hrb, e0]
        have e2 : valB j l = 0 := by simp [valB, e1]
        rw [e1, e2]
        generalize bR j.length (fun i => decide ((i : Int) ∈ l)) = row at *
        (repeat (first | (with_reducible refine AWo.cons ?_) | ((with_reducible refine Step.id ?_); first | ((with_reducible apply Step.move); exact rfl; exact rfl) | ((with_reducible apply Step.assign); exact rfl; exact rfl) | ((with_reducible apply Step.lss); exact rfl; exact rfl; exact rfl) | ((with_reducible apply Step.neq); exact rfl; exact rfl; exact rfl) | ((with_reducible apply Step.callR fit); exact rfl; exact Try.func86; exact rfl; exact rfl; exact (Rchecked_ok (hj.old _) hs e0))) | (with_reducible refine AWo.nil ?_) | ((with_reducible apply AW.seq)) | ((with_reducible apply Then.n)) | ((with_reducible apply AW.regL)) | ((with_reducible apply AW.exit)) | ((with_reducible apply InBlk.hit)) | ((with_reducible apply Then.e)) | ((with_reducible apply AW.condT); exact rfl; (focus (rfl))) | ((with_reducible apply AW.condF); exact rfl; (focus ((simp only [decide_eq_true_eq, decide_eq_false_iff_not, Bool.not_eq_true', Bool.not_eq_false', Bool.not_true, Bool.not_false]; first | assumption | omega))))))
        (refine AW.retD (l := [(4, _), (5, _)]) (by repeat (first | exact trivial | (refine And.intro ⟨rfl, by (exact .int _ _)⟩ ?_))) ?_; (repeat (first | refine Then.r ?_ | refine InBlk.r ?_)))
        exact ⟨_, rfl, rfl, rfl⟩
end Go.Proofs.Ytmomjannlnafcaa.Abs
namespace Go.Proofs.Ytmomjannlnafcaa.Abs
set_option linter.unusedSimpArgs false
set_option linter.unusedVariables false
open Go.RowKit
open Go.Proofs.Ytmomjannlnafcaa.Sim
open Go.Proofs
theorem risB_all {n : Nat} {l : List Int} (h : risB n l = true) : ∀ q, q < l.length → risOk n l q = true := by
  simpa only [risB, List.all_eq_true, List.mem_range] using h
theorem asc_ris {n : Nat} {l : List Int} (h : l.Pairwise (· < ·)) (hin : ∀ x ∈ l, 0 ≤ x ∧ x < n) : risB n l = true := by
  refine ris_all fun q hq => ?_
  have h1 := hin _ (mem_getD' hq)
  simp only [risOk, decide_eq_true_eq]
  refine ⟨h1.1, h1.2, ?_⟩
  by_cases e : q = 0
  · exact .inl e
  · right
    rw [List.pairwise_iff_getElem] at h
    have := h (q - 1) q (by omega) hq (by omega)
    have e1 : l.getD (q - 1) 0 = l[q - 1] := by simp only [List.getD_eq_getElem?_getD, List.getElem?_eq_getElem (show q - 1 < l.length by omega), Option.getD_some]
    have e2 : l.getD q 0 = l[q] := by simp only [List.getD_eq_getElem?_getD, List.getElem?_eq_getElem hq, Option.getD_some]
    rw [e1, e2]
    exact this
theorem lawP_bound {j : List Job} (hok : jobsB j = true) (hn : (sortL j).length = j.length) : errB j (lawP j) = 0 ∧ valB j (lawP j) = lawW j ∧ (lawP j).length ≤ 40 := by
  have hJ := JOk.of hok
  have hT := sortL_topo j
  have h40 := hJ.len
  have key : (∃ s, s ≤ j.length ∧ lawP j = (lawN j s).left ∨ lawP j = []) ∧ (lastF j (lawP j)).2 = lawW j := by
    rcases lawP_ok hT hn hJ with ⟨h0, h1, h2⟩ | ⟨h0, s, hs, h1, h2⟩
    · refine ⟨⟨0, .inr h1⟩, ?_⟩
      rw [h1, h2]; rfl
    · refine ⟨⟨s, .inl ⟨by omega, h1⟩⟩, ?_⟩
      rw [h1, h2]; rfl
  obtain ⟨⟨s, hs⟩, h2⟩ := key
  have hr : risB j.length (lawP j) = true := by
    rcases hs with ⟨hs, e⟩ | e
    · rw [e]
      refine asc_ris ?_ (lawN_inv hT hn s hs).inj
      rw [← left_set hT hn hs]
      exact (upI_asc _).filter _
    · rw [e]; rfl
  have e0 : errB j (lawP j) = 0 := by simp [errB, hok, hr, errJ, hn]
  refine ⟨e0, by simp [valB, e0, h2], ?_⟩
  have := ris_len (risB_all hr)
  omega
set_option maxHeartbeats 2000000 in
set_option maxRecDepth 100000 in
theorem BenchProof_ok {m : AM} {v : Value} {j : List Job} (hj : Jobs m v j) (hs : Short j) : ACall Try.prog 9 #[v] m (Ret (.bool true) m) := by
  obtain ⟨a, o, h1, h2, h3⟩ := id hj
  refine ACall.start Try.func9 rfl rfl ?_
  (repeat (first | (with_reducible refine AWo.cons ?_) | ((with_reducible refine Step.id ?_); first | ((with_reducible apply Step.move); exact rfl; exact rfl) | ((with_reducible apply Step.assign); exact rfl; exact rfl)) | (with_reducible refine AWo.nil ?_) | ((with_reducible apply AW.seq)) | ((with_reducible apply Then.n)) | ((with_reducible apply AW.regL))))
  ((with_reducible apply Step.callX fit); exact rfl; exact Try.func34; exact rfl; exact rfl; exact (f34_ok (hj.old []) hs))
  intro v1 M1 hM1 hJ1
  obtain ⟨N1, hN1⟩ : ∃ N, M1 = m ++ N := by obtain ⟨N, rfl⟩ := hM1; exact ⟨N, by simp⟩
  have hj1 : Jobs M1 v j := by rw [hN1]; exact hj.old N1
  by_cases he : errJ j = 0
  · obtain ⟨hok, hn⟩ := errJ_zero he
    have hJ := JOk.of hok
    have n40 := hJ.len
    obtain ⟨p1, p2, p3⟩ := lawP_bound hok hn
    rw [conv_self hok] at hJ1
    have iP : ∀ L, Ints (M1 ++ gb (iv (lawP j)) 1 :: L) (gv (M1.length + 0) (lawP j).length) (lawP j) := fun L => gints (k := 0) rfl rfl
    have rb := fun (L : AM) => RBound_ok (hj1.old (gb (iv (lawP j)) 1 :: L)) hs (iP L) (by omega)
    rw [p1, p2] at rb
    subst hN1
    (repeat (first | (with_reducible refine AWo.cons ?_) | ((with_reducible refine Step.id ?_); first | ((with_reducible apply Step.gdT); exact rfl; exact rfl; (focus (rfl))) | ((with_reducible apply Step.move); exact rfl; exact rfl) | ((with_reducible apply Step.assign); exact rfl; exact rfl) | ((with_reducible apply Step.eql); exact rfl; exact rfl; exact rfl) | ((with_reducible apply Step.neq); exact rfl; exact rfl; exact rfl) | ((with_reducible apply Step.not); exact rfl; exact rfl) | ((with_reducible apply Step.extract); exact rfl; exact rfl; exact rfl) | ((with_reducible apply Step.pickT); exact rfl; exact rfl; exact rfl; exact rfl; (focus (rfl))) | ((with_reducible apply Step.pickF); exact rfl; exact rfl; exact rfl; exact rfl; (focus (rfl))) | ((with_reducible apply Step.callT fit (k := 0)); exact rfl; exact rfl; exact Try.func40; exact rfl; exact rfl; exact (Proof_ok (hJ1.old _) hok hn); (focus (first | (simp only [List.nil_append, List.cons_append, List.set_cons_zero, List.set_cons_succ, iv_set, bv_set, iv_rep, bv_rep]; done) | (simp only [List.nil_append, List.cons_append, List.set_cons_zero, List.set_cons_succ, iv_set, bv_set, iv_rep, bv_rep]; rfl) | rfl))) | ((with_reducible apply Step.callT fit (k := 1)); exact rfl; exact rfl; exact Try.func41; exact rfl; exact rfl; exact (RLawler_ok (hj1.old _) hs hok hn); (focus (first | (simp only [List.nil_append, List.cons_append, List.set_cons_zero, List.set_cons_succ, iv_set, bv_set, iv_rep, bv_rep]; done) | (simp only [List.nil_append, List.cons_append, List.set_cons_zero, List.set_cons_succ, iv_set, bv_set, iv_rep, bv_rep]; rfl) | rfl))) | ((with_reducible apply Step.callR fit); exact rfl; exact Try.func42; exact rfl; exact rfl; exact (rb _)) | ((with_reducible apply Step.callR fit); exact rfl; exact Try.func24; exact rfl; exact rfl; exact (awake_ok))) | (with_reducible refine AWo.nil ?_) | ((with_reducible apply AW.seq)) | ((with_reducible apply Then.n)) | ((with_reducible apply AW.regL)) | ((with_reducible apply AW.skip)) | ((with_reducible apply AW.condF); exact rfl; (focus (rfl)))))
    (refine AW.retX (l := [(2, _)]) rfl (by repeat (first | exact trivial | (refine And.intro ⟨rfl, by (exact .bool _)⟩ ?_))) ?_; (repeat (first | refine Then.r ?_ | refine InBlk.r ?_)))
    exact ⟨_, rfl, by simp, rfl⟩
  · obtain ⟨e, hee⟩ : ∃ e, errJ j = e := ⟨_, rfl⟩
    rw [hee] at he
    have n1 := checked_no hJ1 hee he
    subst hN1
    (repeat (first | (with_reducible refine AWo.cons ?_) | ((with_reducible refine Step.id ?_); first | ((with_reducible apply Step.gdT); exact rfl; exact rfl; (focus ((simp; done)))) | ((with_reducible apply Step.move); exact rfl; exact rfl) | ((with_reducible apply Step.assign); exact rfl; exact rfl) | ((with_reducible apply Step.eql); exact rfl; exact rfl; exact rfl) | ((with_reducible apply Step.neq); exact rfl; exact rfl; exact rfl) | ((with_reducible apply Step.len); exact rfl; (focus (exact Sl.nil 0 0)); (focus (decide +kernel)); exact rfl) | ((with_reducible apply Step.not); exact rfl; exact rfl) | ((with_reducible apply Step.extract); exact rfl; exact rfl; exact rfl) | ((with_reducible apply Step.pickF); exact rfl; exact rfl; exact rfl; exact rfl; (focus ((simp; done)))) | ((with_reducible apply Step.callR fit); exact rfl; exact Try.func40; exact rfl; exact rfl; exact (Proof_no he (fun L => by rw [List.append_assoc]; exact n1 _))) | ((with_reducible apply Step.callR fit); exact rfl; exact Try.func41; exact rfl; exact rfl; exact (RLawler_no (hj1.old _) hs hee he)) | ((with_reducible apply Step.callR fit); exact rfl; exact Try.func24; exact rfl; exact rfl; exact (awake_ok))) | (with_reducible refine AWo.nil ?_) | ((with_reducible apply AW.seq)) | ((with_reducible apply Then.n)) | ((with_reducible apply AW.regL)) | ((with_reducible apply AW.skip)) | ((with_reducible apply AW.condT); exact rfl; (focus ((simp only [decide_eq_true_eq, decide_eq_false_iff_not, Bool.not_eq_true', Bool.not_eq_false', Bool.not_true, Bool.not_false]; first | assumption | omega)))) | ((with_reducible apply AW.condF); exact rfl; (focus (rfl)))))
    (refine AW.retX (l := [(2, _)]) rfl (by repeat (first | exact trivial | (refine And.intro ⟨rfl, by (exact .bool _)⟩ ?_))) ?_; (repeat (first | refine Then.r ?_ | refine InBlk.r ?_)))
    exact ⟨_, rfl, rfl, rfl⟩
end Go.Proofs.Ytmomjannlnafcaa.Abs
namespace Go.Proofs.Ytmomjannlnafcaa.Abs
set_option linter.unusedSimpArgs false
set_option linter.unusedVariables false
open Go.RowKit
open Go.Proofs.Ytmomjannlnafcaa.Sim
open Go.ChangeShapes Go.WideShapes Go.Deep
def plN (bs : List AR) : Pl := fun i => (bs[i]?).bind mkP
def mkV2 (i : Nat) : Value → Value
  | .slice (some ⟨_, _, some k⟩) _ _ => .slice (some ⟨i, 0, some k⟩) 0 0
  | .slice (some ⟨_, _, none⟩) n _ => .slice (some ⟨i, 0, none⟩) n n
  | v => v
def mkB2 : AR → Option Blk
  | (.slice (some _) _ (_ + 1), c) => some { cells := c, kind := .ro }
  | _ => none
/-- A slice of the input, with its cells as the abstract memory has them; or what is no block. -/
def OkB (W : World) (R : Pl) (a : AR) : Prop := g0 a.1 = true ∨ (∃ x, a.1 = .slice (some x) 0 0) ∨
  ∃ b o n cap, a.1 = .slice (some ⟨b, o, none⟩) n (cap + 1) ∧ n ≤ cap + 1 ∧ b < W.heap.size ∧ ∀ j x, a.2[j]? = some x → ∃ x', W.cell? ⟨b, o + j, none⟩ = some x' ∧ Rel R x x'
theorem relN {W : World} {R : Pl} {bs : List AR} {i : Nat} {a : AR} (hi : bs[i]? = some a) (h : OkB W R a) : Rel (plN bs) (mkV2 i a.1) a.1 := by
  obtain ⟨v, c⟩ := a
  rcases h with h1 | ⟨⟨b, o, sp⟩, h1⟩ | ⟨b, o, n, cap, h1, h2, h3, h4⟩
  · simp only at h1 ⊢
    cases v with
    | slice x n cap => cases x with
      | none => exact g0_rel h1
      | some x => simp [g0] at h1
    | _ => exact g0_rel h1
  · simp only at h1 ⊢
    subst h1
    cases sp with
    | none =>
      have := Rel.slice (R := plN bs) i 0 0 0 ⟨b, o, 0 - 0⟩ (by simp [plN, hi, mkP]) (Nat.le_refl _)
      simpa [mkV2] using this
    | some k =>
      have := Rel.sliceSpot (R := plN bs) i 0 k ⟨b, o, 0 - 0⟩ (by simp [plN, hi, mkP])
      simpa [mkV2] using this
  · simp only at h1 ⊢
    subst h1
    have := Rel.slice (R := plN bs) i 0 n n ⟨b, o, cap + 1 - n⟩ (by simp [plN, hi, mkP]) (Nat.le_refl _)
    rw [show n + (cap + 1 - n) = cap + 1 by omega] at this
    simpa [mkV2] using this
def mkVs2 : Nat → List AR → List Value
  | _, [] => []
  | i, a :: l => mkV2 i a.1 :: mkVs2 (i + 1) l
theorem mkVs2_get : ∀ (l : List AR) (i k : Nat), (mkVs2 i l)[k]? = (l[k]?).map fun a => mkV2 (i + k) a.1
  | [], i, k => by simp [mkVs2]
  | a :: l, i, 0 => by simp [mkVs2]
  | a :: l, i, k + 1 => by simp only [mkVs2, List.getElem?_cons_succ, mkVs2_get l (i + 1) k]; congr 1; funext x; congr 1; omega
theorem mkVs2_len : ∀ (l : List AR) (i : Nat), (mkVs2 i l).length = l.length
  | [], _ => rfl
  | a :: l, i => by simp [mkVs2, mkVs2_len l (i + 1)]
theorem mkB2_none {W : World} {R : Pl} {a : AR} {b : Blk} (h : OkB W R a) (hb : mkB2 a = some b) : ∃ bb o n cap, a.1 = .slice (some ⟨bb, o, none⟩) n (cap + 1) ∧ b = { cells := a.2, kind := .ro } ∧ bb < W.heap.size ∧ ∀ j x, a.2[j]? = some x → ∃ x', W.cell? ⟨bb, o + j, none⟩ = some x' ∧ Rel R x x' := by
  obtain ⟨v, c⟩ := a
  rcases h with h1 | ⟨x, h1⟩ | ⟨bb, o, n, cap, h1, h2, h3, h4⟩
  · simp only at h1
    cases v with
    | slice x n cap => cases x with
      | none => simp [mkB2] at hb
      | some x => simp [g0] at h1
    | _ => simp [mkB2] at hb
  · simp only at h1
    subst h1
    simp [mkB2] at hb
  · simp only at h1
    subst h1
    simp only [mkB2, Option.some.injEq] at hb
    exact ⟨bb, o, n, cap, rfl, hb.symm, h3, h4⟩
theorem top_callN {P : Program} {f : FuncId} {W : World} (bs : List AR) (na : Nat) (h : ∀ a ∈ bs, OkB W (plN bs) a) (hc : ACall P f ((mkVs2 0 bs).take na).toArray (bs.map mkB2) (Ret (.bool true) (bs.map mkB2))) :
    Calls P f ((bs.take na).map (·.1)).toArray W fun e w' => e = .returned (.bool true) ∧ Below W.heap.size W w' := by
  have hm : MRep W.heap.size (plN bs) (bs.map mkB2) W := by
    refine ⟨fun i hi => ?_, fun i b hi => ?_, fun i j b c p q hi hj hb _ _ _ _ => ?_⟩
    · simp only [List.length_map] at hi
      simp [plN, List.getElem?_eq_none hi]
    · rw [List.getElem?_map] at hi
      cases ha : bs[i]? with
      | none => rw [ha] at hi; cases hi
      | some a =>
        rw [ha] at hi
        simp only [Option.map_some, Option.some.injEq] at hi
        obtain ⟨bb, o, n, cap, h1, rfl, h3, h4⟩ := mkB2_none (h _ (List.mem_of_getElem? ha)) hi
        obtain ⟨v, c⟩ := a
        simp only at h1 h4
        subst h1
        refine ⟨⟨bb, o, cap + 1 - n⟩, by simp [plN, ha, mkP], h3, ?_⟩
        exact ⟨fun e => by simp at e, fun j x hj => h4 j x hj⟩
    · rw [List.getElem?_map] at hi
      cases ha : bs[i]? with
      | none => rw [ha] at hi; cases hi
      | some a =>
        rw [ha] at hi
        simp only [Option.map_some, Option.some.injEq] at hi
        obtain ⟨bb, o, n, cap, h1, rfl, _⟩ := mkB2_none (h _ (List.mem_of_getElem? ha)) hi
        cases hb
  have hargs : Rels (plN bs) ((mkVs2 0 bs).take na).toArray ((bs.take na).map (·.1)).toArray := by
    refine ⟨by simp [mkVs2_len], fun i hi => ?_⟩
    simp only [List.size_toArray, List.length_take, mkVs2_len] at hi
    have hib : i < bs.length := by omega
    have ha : bs[i]? = some bs[i] := List.getElem?_eq_getElem hib
    have e1 : ((mkVs2 0 bs).take na).toArray.getD i undef = mkV2 i bs[i].1 := by
      simp [mkVs2_get, ha, List.getElem?_take, show i < na by omega]
    have e2 : ((bs.take na).map (·.1)).toArray.getD i undef = bs[i].1 := by simp [List.getElem?_take, show i < na by omega, ha]
    rw [e1, e2]
    exact relN ha (h _ (List.mem_of_getElem? ha))
  refine (hc W.heap.size (plN bs) W _ (Nat.le_refl _) hm hargs).mono ?_
  rintro e w' ⟨v, v', R', m', rfl, k1, k2, rfl, rfl⟩
  cases k1
  exact ⟨rfl, k2.below hm (Nat.le_refl _)⟩
section
variable {H : Type} {enc : TypeId × Value → H} {P : Program} {w : World} {base : Nat} {held : Bool}
theorem cell_some {a : Addr} {v : Value} (h : w.cell? a = some v) : a.spot = none ∧ a.block < w.heap.size := by
  unfold World.cell? at h
  cases hb : w.heap[a.block]? with
  | none => rw [hb] at h; cases h
  | some o =>
    refine ⟨?_, (Array.getElem?_eq_some_iff.1 hb).1⟩
    rw [hb] at h
    cases o with
    | cells c ty fz =>
      simp only at h
      split at h
      · cases h
      · rename_i hs
        cases hsp : a.spot with
        | none => rfl
        | some k => rw [hsp] at hs; simp at hs
    | _ => cases h
/-- A slice of ints that the input shows, wherever it stands. -/
theorem ints_sl {T e : TypeId} {fuel : Nat} {v : Value} {d : DataW H × List MemPlace} (ht : P.underlying T = some (.slice e)) (he : P.underlying e = some (.int .i64)) (hce : P.cellsOf e = 1) (h : DataW.trod enc P w base (fun _ => true) held fuel T [v] = some d) :
    ∃ l : List Int, l.length ≤ maxLen ∧ (∀ R, OkB w R (v, iv l)) ∧ ∀ (bs : List AR) (i : Nat), bs[i]? = some (v, iv l) → Ints (bs.map mkB2) (mkV2 i v) l := by
  rcases open_ints ht he hce h with ⟨hcs, _⟩ | ⟨x, n, c, zs, hcs, _, hl, hm, hz, _, hcell, _⟩
  · obtain rfl : v = .slice none 0 0 := by simpa using hcs
    refine ⟨[], Nat.zero_le _, fun R => .inl rfl, fun bs i hi => ⟨i, 0, .inl ⟨rfl, rfl⟩, by simp; exact (List.getElem?_eq_some_iff.1 hi).1, fun k hk => by simp at hk⟩⟩
  · obtain rfl : v = .slice (some x) n c := by simpa using hcs
    rw [if_pos rfl] at hz
    have hlen : (zs.take n).length = n := by simp; omega
    cases c with
    | zero =>
      obtain rfl : n = 0 := by omega
      have e0 : zs.take 0 = [] := by simp
      refine ⟨[], Nat.zero_le _, fun R => .inr (.inl ⟨x, rfl⟩), fun bs i hi => ?_⟩
      have hlt : i < (bs.map mkB2).length := by simp; exact (List.getElem?_eq_some_iff.1 hi).1
      obtain ⟨b, o, sp⟩ := x
      cases sp with
      | none => exact ⟨i, 0, Sl.mk (Nat.le_refl _), hlt, fun k hk => by simp at hk⟩
      | some k => exact ⟨i, 0, .inr (.inr ⟨rfl, 0, k, rfl⟩), hlt, fun k hk => by simp at hk⟩
    | succ c =>
      obtain ⟨b, o, sp⟩ := x
      have h0 := cell_some (hcell 0 (by omega))
      obtain rfl : sp = none := h0.1
      have hb : b < w.heap.size := h0.2
      refine ⟨zs.take n, by omega, fun R => .inr (.inr ⟨b, o, n, c, rfl, hl, hb, fun j x hj => ?_⟩), fun bs i hi => ?_⟩
      · simp only [iv, List.getElem?_map] at hj
        by_cases hjn : j < n
        · rw [List.getElem?_take, if_pos hjn, List.getElem?_eq_getElem (by omega)] at hj
          simp only [Option.map_some, Option.some.injEq] at hj
          have := hcell j (by omega)
          rw [Addr.add_lit] at this
          refine ⟨_, this, ?_⟩
          rw [← hj]
          simp only [List.getD_eq_getElem?_getD, List.getElem?_eq_getElem (show j < zs.length by omega), Option.getD_some]
          exact .int _ _
        · rw [List.getElem?_take, if_neg hjn] at hj
          cases hj
      · have hM : (bs.map mkB2)[i]? = some (some { cells := iv (zs.take n), kind := .ro }) := by rw [List.getElem?_map, hi]; rfl
        exact ints_at hM rfl n hlen.symm
end
end Go.Proofs.Ytmomjannlnafcaa.Abs
namespace Go.Proofs.Ytmomjannlnafcaa.Abs
set_option linter.unusedSimpArgs false
set_option linter.unusedVariables false
open Go.RowKit
open Go.Proofs.Ytmomjannlnafcaa.Sim
open Go.Proofs
open Go.ChangeShapes Go.WideShapes Go.Deep
/-- The cells of n jobs; the After of job k lies in block e0 + k. -/
def jobCs (F : Nat → Job) (s : Nat → Value) (e0 n : Nat) : List Value := (List.range n).flatMap fun k => (F k).cells (mkV2 (e0 + k) (s k))
theorem jobCs_succ (F : Nat → Job) (s : Nat → Value) (e0 n : Nat) : jobCs F s e0 (n + 1) = jobCs F s e0 n ++ (F n).cells (mkV2 (e0 + n) (s n)) := by
  simp [jobCs, List.range_succ, List.flatMap_append]
theorem jobCs_len (F : Nat → Job) (s : Nat → Value) (e0 : Nat) : ∀ n, (jobCs F s e0 n).length = n * 4
  | 0 => rfl
  | n + 1 => by rw [jobCs_succ, List.length_append, jobCs_len F s e0 n]; simp [Job.cells]; omega
theorem jobCs_get (F : Nat → Job) (s : Nat → Value) (e0 : Nat) : ∀ n k, k < n → ∀ q v, ((F k).cells (mkV2 (e0 + k) (s k)))[q]? = some v → (jobCs F s e0 n)[k * 4 + q]? = some v
  | 0, k, h, _, _, _ => by omega
  | n + 1, k, h, q, v, hq => by
    have hq4 : q < 4 := by have := (List.getElem?_eq_some_iff.1 hq).1; simpa [Job.cells] using this
    rw [jobCs_succ]
    rcases Nat.lt_succ_iff_lt_or_eq.1 h with h' | h'
    · rw [List.getElem?_append_left (by rw [jobCs_len]; omega)]
      exact jobCs_get F s e0 n k h' q v hq
    · subst h'
      rw [List.getElem?_append_right (by rw [jobCs_len]; omega), jobCs_len, Nat.add_sub_cancel_left]
      exact hq
theorem cells4 (x : Job) (w : Value) (q : Nat) (v : Value) (h : (x.cells w)[q]? = some v) : q = 0 ∧ v = .int .i64 x.time ∨ q = 1 ∧ v = .int .i64 x.due ∨ q = 2 ∧ v = .int .i64 x.weight ∨ q = 3 ∧ v = w := by
  match q, h with
  | 0, h => simp [Job.cells] at h; exact .inl ⟨rfl, h.symm⟩
  | 1, h => simp [Job.cells] at h; exact .inr (.inl ⟨rfl, h.symm⟩)
  | 2, h => simp [Job.cells] at h; exact .inr (.inr (.inl ⟨rfl, h.symm⟩))
  | 3, h => simp [Job.cells] at h; exact .inr (.inr (.inr ⟨rfl, h.symm⟩))
  | q + 4, h => simp [Job.cells] at h
section
variable {H : Type} {enc : TypeId × Value → H} {P : Program} {w : World} {base : Nat} {held : Bool}
theorem arg_jobs {r : Reach} {b0 : Nat} {T e tS tI : TypeId} {fs : Array Field} {a : Option Addr} {n c : Nat} {d : DataW H} {p : List MemPlace} (ht : P.underlying T = some (.slice e)) (he : P.underlying e = some (.struct fs)) (hone : oneCellFields P fs = true) (hC : P.cellsOf e = fs.size) (hsz : fs.size = 4)
    (hI : ∀ j f, j < 3 → fs[j]? = some f → P.underlying f.type = some (.int .i64)) (hS : ∀ f, fs[3]? = some f → f.type = tS) (hS1 : P.underlying tS = some (.slice tI)) (hS2 : P.underlying tI = some (.int .i64)) (hS3 : P.cellsOf tI = 1)
    (hok : Value.okWide P w r b0 T (.slice a n c)) (h : DataW.Trod enc P w base (fun _ => true) held T (.slice a n c) d p) :
    ∃ (F : Nat → Job) (s : Nat → Value), n ≤ maxLen ∧ (∀ k, (F k).after.length ≤ maxLen) ∧ (∀ R k, OkB w R (s k, iv (F k).after)) ∧
      (∀ (bs : List AR) (e0 : Nat), (∀ k, k < n → bs[e0 + k]? = some (s k, iv (F k).after)) → OkB w (plN bs) (.slice a n c, jobCs F s e0 n)) ∧
      (∀ (bs : List AR) (i e0 : Nat), bs[i]? = some (.slice a n c, jobCs F s e0 n) → (∀ k, k < n → bs[e0 + k]? = some (s k, iv (F k).after)) → Jobs (bs.map mkB2) (mkV2 i (.slice a n c)) ((List.range n).map F)) := by
  obtain ⟨fuel, h⟩ := h
  rcases ok_slice ht hok with ⟨rfl, rfl, rfl⟩ | ⟨b, o, rfl, hle, hlt⟩
  · exact ⟨fun _ => default, fun _ => .slice none 0 0, by unfold maxLen; omega, fun _ => by show ([] : List Int).length ≤ _; simp, fun R k => .inl rfl, fun bs e0 _ => .inl rfl, fun bs i e0 hi _ =>
      ⟨i, 0, .inl ⟨rfl, rfl⟩, by simp; exact (List.getElem?_eq_some_iff.1 hi).1, fun k hk => by simp at hk⟩⟩
  · rcases open_slice_fields ht he hone hC h with ⟨hcs, _⟩ | ⟨x, l, cap, m, D, Pl, hcs, _, hl, hm, hmm, _, hrow⟩
    · simp [Value.cells] at hcs
    · simp [Value.cells] at hcs
      obtain ⟨rfl, rfl, rfl⟩ := hcs
      rw [if_pos rfl] at hmm
      have key : ∀ k : Nat, ∃ q : Job × Value, q.1.after.length ≤ maxLen ∧ (∀ R, OkB w R (q.2, iv q.1.after)) ∧ (∀ (bs : List AR) (i : Nat), bs[i]? = some (q.2, iv q.1.after) → Ints (bs.map mkB2) (mkV2 i q.2) q.1.after) ∧
          (k < n → w.cell? ⟨b, o + (k * 4 + 0), none⟩ = some (.int .i64 q.1.time) ∧ w.cell? ⟨b, o + (k * 4 + 1), none⟩ = some (.int .i64 q.1.due) ∧ w.cell? ⟨b, o + (k * 4 + 2), none⟩ = some (.int .i64 q.1.weight) ∧ w.cell? ⟨b, o + (k * 4 + 3), none⟩ = some q.2) := fun k => by
        by_cases hk : k < n
        · obtain ⟨ys, nn, _, _, _, hf⟩ := hrow k (by omega)
          rw [hsz] at hf
          have fi : ∀ j, j < 3 → ∃ z : Int, w.cell? ⟨b, o + (k * 4 + j), none⟩ = some (.int .i64 z) := fun j hj => by
            have hfj : fs[j]? = some (fs[j]'(by omega)) := Array.getElem?_eq_getElem (by omega)
            obtain ⟨v, y, h1, _, h3⟩ := hf j _ hfj
            obtain ⟨z, hz, _⟩ := DataW.trod_int (hI j _ hj hfj) h3
            simp at hz
            subst hz
            rw [Addr.add_lit] at h1
            exact ⟨z, h1⟩
          obtain ⟨z0, g0'⟩ := fi 0 (by omega)
          obtain ⟨z1, g1'⟩ := fi 1 (by omega)
          obtain ⟨z2, g2'⟩ := fi 2 (by omega)
          have hf3 : fs[3]? = some (fs[3]'(by omega)) := Array.getElem?_eq_getElem (by omega)
          obtain ⟨v, y, h1, _, h3⟩ := hf 3 _ hf3
          rw [hS _ hf3] at h3
          rw [Addr.add_lit] at h1
          obtain ⟨l, l1, l2, l3⟩ := ints_sl hS1 hS2 hS3 h3
          exact ⟨(⟨z0, z1, z2, l⟩, v), l1, l2, l3, fun _ => ⟨g0', g1', g2', h1⟩⟩
        · exact ⟨(default, .slice none 0 0), by show ([] : List Int).length ≤ _; simp, fun R => .inl rfl, fun bs i hi => ⟨i, 0, .inl ⟨rfl, rfl⟩, by simp; exact (List.getElem?_eq_some_iff.1 hi).1, fun k hk => by simp [default, instInhabitedJob] at hk⟩, fun h => absurd h hk⟩
      obtain ⟨G, hG⟩ := Classical.axiomOfChoice key
      refine ⟨fun k => (G k).1, fun k => (G k).2, by omega, fun k => (hG k).1, fun R k => (hG k).2.1 R, fun bs e0 hbs => ?_, fun bs i e0 hi hbs => ?_⟩
      · cases c with
        | zero =>
          obtain rfl : n = 0 := by omega
          exact .inr (.inl ⟨⟨b, o, none⟩, rfl⟩)
        | succ c =>
          refine .inr (.inr ⟨b, o, n, c, rfl, hle, hlt, fun j x hj => ?_⟩)
          have hjl := (List.getElem?_eq_some_iff.1 hj).1
          simp only [jobCs_len] at hjl
          have hk : j / 4 < n := by omega
          have hj4 : j % 4 < 4 := Nat.mod_lt _ (by omega)
          have e : j = j / 4 * 4 + j % 4 := by omega
          generalize hkk : j / 4 = k at *
          generalize hqq : j % 4 = q at *
          subst e
          have hcells : ∃ v, ((G k).1.cells (mkV2 (e0 + k) (G k).2))[q]? = some v := ⟨_, List.getElem?_eq_getElem (by simpa [Job.cells] using hj4)⟩
          obtain ⟨v, hv⟩ := hcells
          have hget := jobCs_get (fun k => (G k).1) (fun k => (G k).2) e0 n k hk q v hv
          simp only at hj
          rw [hget] at hj
          injection hj with hj
          subst hj
          obtain ⟨c0, c1, c2, c3⟩ := (hG k).2.2.2 hk
          rcases cells4 _ _ _ _ hv with ⟨rfl, rfl⟩ | ⟨rfl, rfl⟩ | ⟨rfl, rfl⟩ | ⟨rfl, rfl⟩
          · exact ⟨_, c0, .int _ _⟩
          · exact ⟨_, c1, .int _ _⟩
          · exact ⟨_, c2, .int _ _⟩
          · exact ⟨_, c3, relN (hbs k hk) ((hG k).2.1 (fun _ => none))⟩
      · have hlen : i < (bs.map mkB2).length := by simp; exact (List.getElem?_eq_some_iff.1 hi).1
        refine ⟨i, 0, by simpa [mkV2] using Sl.mk (Nat.le_refl n), hlen, fun k hk => ?_⟩
        have hk' : k < n := by simpa using hk
        have eg : ((List.range n).map fun k => (G k).1).getD k default = (G k).1 := by simp [hk']
        rw [eg]
        refine ⟨mkV2 (e0 + k) (G k).2, ?_, (hG k).2.2.1 bs (e0 + k) (hbs k hk')⟩
        cases c with
        | zero => omega
        | succ c =>
          refine ⟨{ cells := jobCs (fun k => (G k).1) (fun k => (G k).2) e0 n, kind := .ro }, by rw [List.getElem?_map, hi]; rfl, fun j v hj => ?_⟩
          rw [Nat.zero_add]
          exact jobCs_get _ _ e0 n k hk' j v hj
end
end Go.Proofs.Ytmomjannlnafcaa.Abs
namespace Go.Proofs.Ytmomjannlnafcaa.Abs
set_option linter.unusedSimpArgs false
set_option linter.unusedVariables false
open Go.RowKit
open Go.Proofs.Ytmomjannlnafcaa.Sim
open Go.Proofs
theorem short_rows {F : Nat → Job} {n : Nat} (h : n ≤ maxLen) (hF : ∀ k, (F k).after.length ≤ maxLen) : Short ((List.range n).map F) := by
  unfold maxLen at *
  refine ⟨by simp; omega, fun k hk => ?_⟩
  have hk' : k < n := by simpa using hk
  have e : ((List.range n).map F).getD k default = F k := by simp [hk']
  rw [e]
  have := hF k
  omega
end Go.Proofs.Ytmomjannlnafcaa.Abs
