/- Proved here: what the proof of BenchEnds rests on, part 3 of 3. Conditions: those that each theorem names. -/
import Derived.Test.YtmomjannlnafcaaBenchEndsK2
namespace Go.Proofs.Ytmomjannlnafcaa.Abs
set_option linter.unusedSimpArgs false
set_option linter.unusedVariables false
open Go.RowKit
open Go.Proofs.Ytmomjannlnafcaa.Sim
open Go.Proofs
abbrev aft (j : List Job) (i : Nat) : List Int := (j.getD i default).after
abbrev tmJ (j : List Job) (i : Nat) : Int := (j.getD i default).time
structure JOk (j : List Job) : Prop where
  len : j.length ≤ 40
  num : ∀ k, k < j.length → 1 ≤ (j.getD k default).time ∧ (j.getD k default).time ≤ 10000 ∧ 0 ≤ (j.getD k default).due ∧ (j.getD k default).due ≤ 1000000 ∧ 0 ≤ (j.getD k default).weight ∧ (j.getD k default).weight ≤ 1000
  ris : ∀ k, k < j.length → ∀ i, i < (aft j k).length → 0 ≤ (aft j k).getD i 0 ∧ (aft j k).getD i 0 < j.length ∧ (i = 0 ∨ (aft j k).getD (i - 1) 0 < (aft j k).getD i 0)
theorem JOk.of {j : List Job} (h : jobsB j = true) : JOk j := by
  simp only [jobsB, Bool.and_eq_true, decide_eq_true_eq, List.all_eq_true] at h
  have key : ∀ k, k < j.length → jobB j.length (j.getD k default) = true := fun k hk => h.2 _ (by
    rw [List.getD_eq_getElem?_getD, List.getElem?_eq_getElem hk]; exact List.getElem_mem hk)
  refine ⟨h.1, fun k hk => ?_, fun k hk i hi => ?_⟩
  · have := key k hk
    simp only [jobB, numsB, Bool.and_eq_true, decide_eq_true_eq] at this
    exact this.1
  · have := key k hk
    simp only [jobB, risB, Bool.and_eq_true, List.all_eq_true, List.mem_range] at this
    have := this.2 i hi
    simpa only [risOk, decide_eq_true_eq] using this
theorem JOk.low {j : List Job} (h : JOk j) {k : Nat} (hk : k < j.length) : ∀ i, i < (aft j k).length → (i : Int) ≤ (aft j k).getD i 0
  | 0, hi => (h.ris k hk 0 hi).1
  | i + 1, hi => by
    have h1 := h.low hk i (by omega)
    have h2 := (h.ris k hk (i + 1) hi).2.2
    rw [Nat.add_sub_cancel] at h2
    omega
theorem JOk.alen {j : List Job} (h : JOk j) {k : Nat} (hk : k < j.length) : (aft j k).length ≤ j.length := by
  by_cases h0 : (aft j k).length = 0
  · omega
  · have h1 := h.low hk ((aft j k).length - 1) (by omega)
    have h2 := h.ris k hk ((aft j k).length - 1) (by omega)
    omega
theorem JOk.mem {j : List Job} (h : JOk j) {k : Nat} (hk : k < j.length) {a : Int} (ha : a ∈ aft j k) : 0 ≤ a ∧ a < j.length := by
  obtain ⟨i, hi, rfl⟩ := List.getElem_of_mem ha
  have := h.ris k hk i hi
  rw [List.getD_eq_getElem?_getD, List.getElem?_eq_getElem hi, Option.getD_some] at this
  exact ⟨this.1, this.2.1⟩
def readyJ (j : List Job) (P : List Nat) (i : Nat) : Bool := decide (i ∉ P) && (aft j i).all fun a => decide (a.toNat ∈ P)
def sortF (j : List Job) : Nat → List Nat → List Nat
  | 0, P => P
  | f + 1, P => match (List.range j.length).find? (readyJ j P) with
    | none => P
    | some i => sortF j f (P ++ [i])
def sortL (j : List Job) : List Nat := sortF j j.length []
theorem sortF_none {j : List Job} {P : List Nat} (h : ∀ i, i < j.length → readyJ j P i = false) : ∀ f, sortF j f P = P
  | 0 => rfl
  | f + 1 => by rw [sortF, find_miss h]
theorem sortF_some {j : List Job} {P : List Nat} {i : Nat} (hi : i < j.length) (h0 : ∀ k, k < i → readyJ j P k = false) (h1 : readyJ j P i = true) (f : Nat) : sortF j (f + 1) P = sortF j f (P ++ [i]) := by
  rw [sortF, find_hit hi h0 h1]
/-- What is placed, as a row. -/
def plR (n : Nat) (P : List Nat) : List Bool := (List.range n).map fun i => decide (i ∈ P)
theorem plR_len (n : Nat) (P : List Nat) : (plR n P).length = n := by simp [plR]
theorem plR_get {n i : Nat} (P : List Nat) (h : i < n) : (plR n P).getD i false = decide (i ∈ P) := by simp [plR, h]
theorem plR_zero (n : Nat) : List.replicate n false = plR n [] := by
  simp only [plR, List.not_mem_nil, decide_false]
  rw [List.map_const']; simp
theorem plR_set {n i : Nat} (P : List Nat) : (plR n P).set i true = plR n (P ++ [i]) := by
  apply List.ext_getElem?
  intro k
  by_cases hk : k < n
  · by_cases e : i = k
    · subst e; rw [List.getElem?_set_self (by rw [plR_len]; exact hk)]; simp [plR, hk]
    · rw [List.getElem?_set_ne e]; simp [plR, hk, Ne.symm e]
  · rw [List.getElem?_eq_none (by rw [List.length_set, plR_len]; omega), List.getElem?_eq_none (by rw [plR_len]; omega)]
def nv (P : List Nat) : List Int := P.map (Nat.cast : Nat → Int)
theorem nv_len (P : List Nat) : (nv P).length = P.length := by simp [nv]
theorem nv_snoc (P : List Nat) (i : Nat) : nv (P ++ [i]) = nv P ++ [(i : Int)] := by simp [nv]
theorem bs23x {m : AM} {n : Nat} {x : Int} : abuildSlice Try.prog m n 23 1 [(0, .int .i64 x)] = some (.slice (some ⟨n, 0, none⟩) 1 1, m.set n (some { cells := [.int .i64 x] })) := by kernel_rfl
theorem ze84 : zeroB Try.prog 84 = some #[.slice none 0 0] := by kernel_rfl
theorem ze23 : zeroB Try.prog 23 = some #[.slice none 0 0] := by kernel_rfl
/-- A slice of bools that reads as the function b. -/
def Boos (m : AM) (r n : Nat) (b : Nat → Bool) : Prop := ∀ i, i < n → Rd m r i (.bool (b i))
set_option maxRecDepth 100000 in
theorem f123_ok {m : AM} {p r n : Nat} {b : Nat → Bool} (a : Int) (ha : 0 ≤ a ∧ a < n) (hp : Rd m p 0 (.slice (some ⟨r, 0, none⟩) n n)) (hb : Boos m r n b) : ACall Try.prog 123 #[.int .i64 a, .pointer (some ⟨p, 0, none⟩)] m (Ret (.bool (!b a.toNat)) m) := by
  obtain ⟨k, rfl⟩ := Int.eq_ofNat_of_zero_le ha.1
  have hr := hb k (by omega)
  refine ACall.start Try.func123 rfl rfl ?_
  rw [← List.append_nil m] at hp hr
  (repeat (first | (with_reducible refine AWo.cons ?_) | ((with_reducible refine Step.id ?_); first | ((with_reducible apply Step.move); exact rfl; exact rfl) | ((with_reducible apply Step.assign); exact rfl; exact rfl) | ((with_reducible apply Step.load); exact rfl; (focus (decide +kernel)); exact rfl; (focus (assumption))) | ((with_reducible apply Step.ix1z); exact rfl; (focus (exact Sl.mk (by omega))); exact rfl; (focus (decide +kernel)); exact rfl; (focus (omega))) | ((with_reducible apply Step.not); exact rfl; exact rfl)) | (with_reducible refine AWo.nil ?_) | ((with_reducible apply AW.seq)) | ((with_reducible apply Then.n)) | ((with_reducible apply AW.regL))))
  (refine AW.retD (l := [(3, _)]) (by repeat (first | exact trivial | (refine And.intro ⟨rfl, by (exact .bool _)⟩ ?_))) ?_; (repeat (first | refine Then.r ?_ | refine InBlk.r ?_)))
  exact ⟨_, rfl, rfl, rfl⟩
set_option maxHeartbeats 2000000 in
set_option maxRecDepth 100000 in
theorem sort_ok' {m : AM} {v : Value} {j : List Job} (hj : Jobs m v j) (hok : JOk j) {P0 : List Nat} (hP0 : sortL j = P0) : ACall Try.prog 106 #[v] m (NewG (iv (nv P0)) 1 P0.length m) := by
  subst hP0
  have h40 := hok.len
  obtain ⟨a, o, h1, h2, h3⟩ := hj
  refine ACall.start Try.func106 rfl rfl ?_
  (repeat (first | (with_reducible refine AWo.cons ?_) | ((with_reducible refine Step.id ?_); first | ((with_reducible apply Step.move); exact rfl; exact rfl) | ((with_reducible apply Step.assign); exact rfl; exact rfl) | ((with_reducible apply Step.len); exact rfl; (focus (assumption)); (focus (decide +kernel)); exact rfl) | ((with_reducible apply Step.make1 0); exact rfl; exact rfl; exact rfl; exact el84; (focus (omega)); exact rfl; (focus (first | (simp only [List.nil_append, List.cons_append, List.set_cons_zero, List.set_cons_succ, iv_set, bv_set, iv_rep, bv_rep]; done) | (simp only [List.nil_append, List.cons_append, List.set_cons_zero, List.set_cons_succ, iv_set, bv_set, iv_rep, bv_rep]; rfl) | rfl))) | ((with_reducible apply Step.alloc 1); exact rfl; exact ze84; exact rfl; (focus (first | (simp only [List.nil_append, List.cons_append, List.set_cons_zero, List.set_cons_succ, iv_set, bv_set, iv_rep, bv_rep]; done) | (simp only [List.nil_append, List.cons_append, List.set_cons_zero, List.set_cons_succ, iv_set, bv_set, iv_rep, bv_rep]; rfl) | rfl))) | ((with_reducible apply Step.store (k := 1)); exact rfl; exact rfl; exact rfl; exact rfl; (focus (decide +kernel)); exact rfl; exact rfl; (focus (first | omega | (simp [iv, bv]; done) | (simp [iv, bv]; omega))); (focus (first | (simp only [List.nil_append, List.cons_append, List.set_cons_zero, List.set_cons_succ, iv_set, bv_set, iv_rep, bv_rep]; done) | (simp only [List.nil_append, List.cons_append, List.set_cons_zero, List.set_cons_succ, iv_set, bv_set, iv_rep, bv_rep]; rfl) | rfl)))) | (with_reducible refine AWo.nil ?_) | ((with_reducible apply AW.seq)) | ((with_reducible apply Then.n)) | ((with_reducible apply AW.regL)) | ((with_reducible apply AW.block)) | ((with_reducible apply AW.scope)) | ((with_reducible apply AW.label))))
  refine AW.loopT (fun n' t L => ∃ P : List Nat, n' = j.length - P.length ∧ P.length ≤ j.length ∧ sortF j (j.length - P.length) P = sortL j ∧
    L = [some { cells := bv (plR j.length P) }, some { cells := [.slice (some ⟨m.length + 0, 0, none⟩) j.length j.length] }, gb (iv (nv P)) 1] ∧
    t = [(0, v), (3, gv (m.length + 2) P.length), (4, .pointer (some ⟨m.length + 1, 0, none⟩))]) ⟨_, _, [some { cells := bv (List.replicate j.length false) }, some { cells := [.slice (some ⟨m.length + 0, 0, none⟩) j.length j.length] }] ++ [none], (Back.padC rfl (by repeat (first | exact trivial | (refine And.intro ⟨rfl, by (first | exact Ren.of_gv (by first | (simp; done) | omega | (simp; omega)) | exact .ptr _ _ (by first | (simp; done) | omega | (simp; omega)) | exact Ren.of_sl (by assumption) (by first | omega | (simp; omega)))⟩ ?_))) (by repeat (first | exact CellsP.nil | (refine CellsP.cons ?_ ?_; (focus (first | exact cells_bv _ | ((repeat (first | exact cells_nil | (refine cells_cons ?_ ?_; (focus (exact .slice _ _ _ _ (by first | (simp; done) | omega | (simp; omega))))))); done))))))), [], rfl, Nat.zero_le _, rfl, by rw [plR_zero]; rfl, rfl⟩ ?_
  rintro n' t L ⟨P, rfl, hP, hsort, rfl, rfl⟩
  by_cases hfull : P.length = j.length
  · rw [show j.length - P.length = 0 by omega] at hsort
    simp only [sortF] at hsort
    rw [← hsort]
    (repeat (first | (with_reducible refine AWo.cons ?_) | ((with_reducible refine Step.id ?_); first | ((with_reducible apply Step.move); exact rfl; exact rfl) | ((with_reducible apply Step.assign); exact rfl; exact rfl) | ((with_reducible apply Step.lss); exact rfl; exact rfl; exact rfl) | ((with_reducible apply Step.len); exact rfl; (focus (first | assumption | exact gv_sl _ _)); (focus (decide +kernel)); exact rfl)) | (with_reducible refine AWo.nil ?_) | ((with_reducible apply AW.seq)) | ((with_reducible apply Then.n)) | ((with_reducible apply AW.regL)) | ((with_reducible apply AW.exit)) | ((with_reducible apply InBlk.hit)) | ((with_reducible apply Then.e)) | ((with_reducible apply AW.condF); exact rfl; (focus ((simp only [decide_eq_true_eq, decide_eq_false_iff_not, Bool.not_eq_true', Bool.not_eq_false', Bool.not_true, Bool.not_false]; first | assumption | omega))))))
    refine AW.retB (l := [(2, gv (m.length + 0) P.length)]) (L1 := [gb (iv (nv P)) 1]) (Back.mvC 0 2 rfl rfl rfl rfl (by intro j b hj h; rcases j with _ | _ | _ | _ | _ | _ | _ | _ | j <;> first | exact absurd rfl hj | exact h | (simp at h; done)) (by repeat (first | exact CellsP.nil | (refine CellsP.gb ?_ ?_; (focus (exact cells_iv _))))) (by repeat (first | exact trivial | (refine And.intro ⟨_, rfl, by (exact Ren.gv_mv (by first | (simp; done) | omega | (simp; omega)))⟩ ?_)))) ?_
    exact ⟨_, rfl, rfl, rfl⟩
  · (repeat (first | (with_reducible refine AWo.cons ?_) | ((with_reducible refine Step.id ?_); first | ((with_reducible apply Step.move); exact rfl; exact rfl) | ((with_reducible apply Step.lss); exact rfl; exact rfl; exact rfl) | ((with_reducible apply Step.len); exact rfl; (focus (first | assumption | exact gv_sl _ _)); (focus (decide +kernel)); exact rfl)) | (with_reducible refine AWo.nil ?_) | ((with_reducible apply AW.seq)) | ((with_reducible apply Then.n)) | ((with_reducible apply AW.regL)) | ((with_reducible apply AW.block)) | ((with_reducible apply AW.skip)) | ((with_reducible apply AW.condT); exact rfl; (focus ((simp only [decide_eq_true_eq, decide_eq_false_iff_not, Bool.not_eq_true', Bool.not_eq_false', Bool.not_true, Bool.not_false]; first | assumption | omega))))))
    refine AW.loopT (fun n' t L => ∃ i : Nat, n' = j.length - i ∧ i ≤ j.length ∧ (∀ k, k < i → readyJ j P k = false) ∧
      L = [some { cells := bv (plR j.length P) }, some { cells := [.slice (some ⟨m.length + 0, 0, none⟩) j.length j.length] }, gb (iv (nv P)) 1] ∧
      t = [(0, v), (3, gv (m.length + 2) P.length), (4, .pointer (some ⟨m.length + 1, 0, none⟩)), (15, v), (16, .int .i64 (j.length : Nat)), (17, .int .i64 (i : Nat))]) ⟨_, _, _, (Or.inl ⟨rfl, (by repeat (first | exact trivial | (refine And.intro rfl ?_)))⟩), 0, rfl, Nat.zero_le _, by omega, rfl, rfl⟩ ?_
    rintro n' t L ⟨i, rfl, hi, hno, rfl, rfl⟩
    rcases Nat.lt_or_ge i j.length with hlt | hge
    · obtain ⟨w, hr, hw⟩ := h3 i hlt
      obtain ⟨wa, wo, w1, w2, w3⟩ := id hw
      have hone := w1.one
      have hal := hok.alen hlt
      have hmem := fun a ha => hok.mem hlt (a := a) ha
      have gP := plR_get P hlt
      have lP := plR_len j.length P
      have rdef : readyJ j P i = (decide (i ∉ P) && (aft j i).all fun a => decide (a.toNat ∈ P)) := rfl
      have step := sortF_some (j := j) (P := P) hlt hno
      have next : readyJ j P i = false → ∀ k, k < i + 1 → readyJ j P k = false := fun e k hk => by
        rcases Nat.lt_succ_iff_lt_or_eq.1 hk with h | h
        · exact hno k h
        · rw [h]; exact e
      simp only [aft] at *
      generalize j.getD i default = x at *
      obtain ⟨x1, x2, x3, l⟩ := x
      have hw1 := job_one (x := x1) (y := x2) (z := x3) hone
      simp only [Job.cells] at *
      by_cases hin : i ∈ P
      · rw [decide_eq_true hin] at gP
        have hro : ∀ L, Rd (m ++ (some { cells := bv (plR j.length P) } :: L)) (m.length + 0) i (.bool true) := fun L => by
          rw [← gP]; exact Rd.new rfl (bv_get (by omega))
        (repeat (first | (with_reducible refine AWo.cons ?_) | ((with_reducible refine Step.id ?_); first | ((with_reducible apply Step.gdF); exact rfl; exact rfl; (focus (rfl))) | ((with_reducible apply Step.move); exact rfl; exact rfl) | ((with_reducible apply Step.assign); exact rfl; exact rfl) | ((with_reducible apply Step.load); exact rfl; (focus (decide +kernel)); exact rfl; (focus (first | exact hro _ | exact Rd.new rfl rfl))) | ((with_reducible apply Step.loadL (n := 4)); exact rfl; (focus (decide +kernel)); (focus (decide +kernel)); exact rfl; (focus (exact RdL.old _ (by assumption))); exact rfl; exact rfl) | ((with_reducible apply Step.ix1z); exact rfl; (focus (exact Sl.mk (by omega))); exact rfl; (focus (decide +kernel)); exact rfl; (focus (omega))) | ((with_reducible apply Step.ix (s := 4)); exact rfl; (focus (assumption)); exact rfl; (focus (decide +kernel)); exact rfl; (focus (omega))) | ((with_reducible apply Step.add); exact rfl; exact rfl; (focus (omega)); exact rfl) | ((with_reducible apply Step.lss); exact rfl; exact rfl; exact rfl) | ((with_reducible apply Step.pickT); exact rfl; exact rfl; exact rfl; exact rfl; (focus (rfl))) | ((with_reducible apply Step.alloc 3); exact rfl; exact ze87; exact rfl; (focus (first | (simp only [List.nil_append, List.cons_append, List.set_cons_zero, List.set_cons_succ, iv_set, bv_set, iv_rep, bv_rep]; done) | (simp only [List.nil_append, List.cons_append, List.set_cons_zero, List.set_cons_succ, iv_set, bv_set, iv_rep, bv_rep]; rfl) | rfl))) | ((with_reducible apply Step.storeA (k := 3) (n := 4)); exact rfl; exact rfl; exact rfl; exact rfl; (focus (decide +kernel)); exact rfl; (focus (first | assumption | exact hw1)); exact rfl; (focus (first | (simp only [List.nil_append, List.cons_append, List.set_cons_zero, List.set_cons_succ, iv_set, bv_set, iv_rep, bv_rep]; done) | (simp only [List.nil_append, List.cons_append, List.set_cons_zero, List.set_cons_succ, iv_set, bv_set, iv_rep, bv_rep]; rfl) | rfl)))) | (with_reducible refine AWo.nil ?_) | ((with_reducible apply AW.seq)) | ((with_reducible apply Then.n)) | ((with_reducible apply AW.regL)) | ((with_reducible apply AW.block)) | ((with_reducible apply AW.exit)) | ((with_reducible apply InBlk.hit)) | ((with_reducible apply Then.e)) | ((with_reducible apply AW.skip)) | ((with_reducible apply AW.condT); exact rfl; (focus (first | rfl | (simp only [decide_eq_true_eq, decide_eq_false_iff_not, Bool.not_eq_true', Bool.not_eq_false', Bool.not_true, Bool.not_false]; first | assumption | omega))))))
        exact ⟨_, _, [some { cells := bv (plR j.length P) }, some { cells := [.slice (some ⟨m.length + 0, 0, none⟩) j.length j.length] }, gb (iv (nv P)) 1], by omega, (Back.trimC rfl rfl (by repeat (first | exact CellsP.nil | (refine CellsP.cons ?_ ?_; (focus (first | exact cells_bv _ | ((repeat (first | exact cells_nil | (refine cells_cons ?_ ?_; (focus (exact .slice _ _ _ _ (by first | (simp; done) | omega | (simp; omega))))))); done)))) | (refine CellsP.gb ?_ ?_; (focus (exact cells_iv _))))) (by repeat (first | exact trivial | (refine And.intro ⟨rfl, by (first | exact .int _ _ | exact Ren.of_gv (by first | (simp; done) | omega | (simp; omega)) | exact .ptr _ _ (by first | (simp; done) | omega | (simp; omega)) | exact Ren.of_sl (by assumption) (by first | omega | (simp; omega)))⟩ ?_)))), i + 1, rfl, by omega, next (by rw [rdef]; simp [hin]), rfl, rfl⟩
      · rw [decide_eq_false hin] at gP
        have hro : ∀ L, Rd (m ++ (some { cells := bv (plR j.length P) } :: L)) (m.length + 0) i (.bool false) := fun L => by
          rw [← gP]; exact Rd.new rfl (bv_get (by omega))
        have call := f94_ok (m := m ++ [some { cells := bv (plR j.length P) }, some { cells := [.slice (some ⟨m.length + 0, 0, none⟩) j.length j.length] }, gb (iv (nv P)) 1, some { cells := [.int .i64 x1, .int .i64 x2, .int .i64 x3, w] }]) (v := w) (l := l) (g := 123) (cap := #[.pointer (some ⟨m.length + 1, 0, none⟩)]) (hw.old _) Try.func123 rfl (fun k => !decide ((l.getD k 0).toNat ∈ P)) (by omega)
          (fun k hk => by
            have hm := hmem (l.getD k 0) (by rw [List.getD_eq_getElem?_getD, List.getElem?_eq_getElem hk]; exact List.getElem_mem hk)
            exact f123_ok (b := fun i => decide (i ∈ P)) (l.getD k 0) hm (Rd.new rfl rfl) (fun i hi => by
              have := plR_get P hi
              show Rd _ _ _ (.bool (decide (i ∈ P)))
              rw [← this]; exact Rd.new rfl (bv_get (by rw [plR_len]; exact hi))))
          (any_all l 0 (fun a => decide (a.toNat ∈ P)))
        cases hall : l.all (fun a => decide (a.toNat ∈ P)) with
        | false =>
          rw [hall] at call
          (repeat (first | (with_reducible refine AWo.cons ?_) | ((with_reducible refine Step.id ?_); first | ((with_reducible apply Step.gdT); exact rfl; exact rfl; (focus (rfl))) | ((with_reducible apply Step.move); exact rfl; exact rfl) | ((with_reducible apply Step.assign); exact rfl; exact rfl) | ((with_reducible apply Step.load); exact rfl; (focus (decide +kernel)); exact rfl; (focus (first | exact hro _ | exact Rd.new rfl rfl))) | ((with_reducible apply Step.loadL (n := 4)); exact rfl; (focus (decide +kernel)); (focus (decide +kernel)); exact rfl; (focus (exact RdL.old _ (by assumption))); exact rfl; exact rfl) | ((with_reducible apply Step.ix1z); exact rfl; (focus (exact Sl.mk (by omega))); exact rfl; (focus (decide +kernel)); exact rfl; (focus (omega))) | ((with_reducible apply Step.ix (s := 4)); exact rfl; (focus (assumption)); exact rfl; (focus (decide +kernel)); exact rfl; (focus (omega))) | ((with_reducible apply Step.field (k := 3)); exact rfl; (focus (decide +kernel)); exact rfl) | ((with_reducible apply Step.add); exact rfl; exact rfl; (focus (omega)); exact rfl) | ((with_reducible apply Step.lss); exact rfl; exact rfl; exact rfl) | ((with_reducible apply Step.fn); exact rfl; exact rfl; exact rfl) | ((with_reducible apply Step.pickF); exact rfl; exact rfl; exact rfl; exact rfl; (focus (rfl))) | ((with_reducible apply Step.callR fit); exact rfl; exact Try.func94; exact rfl; exact rfl; exact (call)) | ((with_reducible apply Step.alloc 3); exact rfl; exact ze87; exact rfl; (focus (first | (simp only [List.nil_append, List.cons_append, List.set_cons_zero, List.set_cons_succ, iv_set, bv_set, iv_rep, bv_rep]; done) | (simp only [List.nil_append, List.cons_append, List.set_cons_zero, List.set_cons_succ, iv_set, bv_set, iv_rep, bv_rep]; rfl) | rfl))) | ((with_reducible apply Step.storeA (k := 3) (n := 4)); exact rfl; exact rfl; exact rfl; exact rfl; (focus (decide +kernel)); exact rfl; (focus (first | assumption | exact hw1)); exact rfl; (focus (first | (simp only [List.nil_append, List.cons_append, List.set_cons_zero, List.set_cons_succ, iv_set, bv_set, iv_rep, bv_rep]; done) | (simp only [List.nil_append, List.cons_append, List.set_cons_zero, List.set_cons_succ, iv_set, bv_set, iv_rep, bv_rep]; rfl) | rfl)))) | (with_reducible refine AWo.nil ?_) | ((with_reducible apply AW.seq)) | ((with_reducible apply Then.n)) | ((with_reducible apply AW.regL)) | ((with_reducible apply AW.block)) | ((with_reducible apply AW.exit)) | ((with_reducible apply InBlk.hit)) | ((with_reducible apply Then.e)) | ((with_reducible apply AW.skip)) | ((with_reducible apply AW.condT); exact rfl; (focus (first | rfl | (simp only [decide_eq_true_eq, decide_eq_false_iff_not, Bool.not_eq_true', Bool.not_eq_false', Bool.not_true, Bool.not_false]; first | assumption | omega))))))
          exact ⟨_, _, [some { cells := bv (plR j.length P) }, some { cells := [.slice (some ⟨m.length + 0, 0, none⟩) j.length j.length] }, gb (iv (nv P)) 1], by omega, (Back.trimC rfl rfl (by repeat (first | exact CellsP.nil | (refine CellsP.cons ?_ ?_; (focus (first | exact cells_bv _ | ((repeat (first | exact cells_nil | (refine cells_cons ?_ ?_; (focus (exact .slice _ _ _ _ (by first | (simp; done) | omega | (simp; omega))))))); done)))) | (refine CellsP.gb ?_ ?_; (focus (exact cells_iv _))))) (by repeat (first | exact trivial | (refine And.intro ⟨rfl, by (first | exact .int _ _ | exact Ren.of_gv (by first | (simp; done) | omega | (simp; omega)) | exact .ptr _ _ (by first | (simp; done) | omega | (simp; omega)) | exact Ren.of_sl (by assumption) (by first | omega | (simp; omega)))⟩ ?_)))), i + 1, rfl, by omega, next (by rw [rdef, hall]; simp), rfl, rfl⟩
        | true =>
          rw [hall] at call
          have st := step (by rw [rdef, hall]; simp [hin]) (j.length - P.length - 1)
          rw [show j.length - P.length - 1 + 1 = j.length - P.length by omega, hsort] at st
          have hset := plR_set (n := j.length) (i := i) P
          have hln := nv_len P
          have hli := iv_len (nv P)
          have hnl : (iv (nv P)).length = P.length * 1 := by omega
          have hg0 : ∀ v ∈ iv (nv P) ++ [Value.int .i64 ((i : Nat) : Int)], g0 v = true := fun v hv => by
            rcases List.mem_append.1 hv with h | h
            · exact g0_iv _ v h
            · obtain rfl : v = Value.int .i64 ((i : Nat) : Int) := by simpa using h
              rfl
          (repeat (first | (with_reducible refine AWo.cons ?_) | ((with_reducible refine Step.id ?_); first | ((with_reducible apply Step.gdT); exact rfl; exact rfl; (focus (rfl))) | ((with_reducible apply Step.move); exact rfl; exact rfl) | ((with_reducible apply Step.assign); exact rfl; exact rfl) | ((with_reducible apply Step.load); exact rfl; (focus (decide +kernel)); exact rfl; (focus (first | exact hro _ | exact Rd.new rfl rfl))) | ((with_reducible apply Step.loadL (n := 4)); exact rfl; (focus (decide +kernel)); (focus (decide +kernel)); exact rfl; (focus (exact RdL.old _ (by assumption))); exact rfl; exact rfl) | ((with_reducible apply Step.ix1z); exact rfl; (focus (exact Sl.mk (by omega))); exact rfl; (focus (decide +kernel)); exact rfl; (focus (omega))) | ((with_reducible apply Step.ix (s := 4)); exact rfl; (focus (assumption)); exact rfl; (focus (decide +kernel)); exact rfl; (focus (omega))) | ((with_reducible apply Step.field (k := 3)); exact rfl; (focus (decide +kernel)); exact rfl) | ((with_reducible apply Step.lss); exact rfl; exact rfl; exact rfl) | ((with_reducible apply Step.fn); exact rfl; exact rfl; exact rfl) | ((with_reducible apply Step.pickF); exact rfl; exact rfl; exact rfl; exact rfl; (focus (rfl))) | ((with_reducible apply Step.callR fit); exact rfl; exact Try.func94; exact rfl; exact rfl; exact (call)) | ((with_reducible apply Step.store (k := 0)); exact rfl; exact rfl; exact rfl; exact rfl; (focus (decide +kernel)); exact rfl; exact rfl; (focus (first | omega | (simp [iv, bv]; done) | (simp [iv, bv]; omega))); (focus (first | (simp only [List.nil_append, List.cons_append, List.set_cons_zero, List.set_cons_succ, iv_set, bv_set, iv_rep, bv_rep]; done) | (simp only [List.nil_append, List.cons_append, List.set_cons_zero, List.set_cons_succ, iv_set, bv_set, iv_rep, bv_rep]; rfl) | rfl))) | ((with_reducible apply Step.alloc 3); exact rfl; exact ze87; exact rfl; (focus (first | (simp only [List.nil_append, List.cons_append, List.set_cons_zero, List.set_cons_succ, iv_set, bv_set, iv_rep, bv_rep]; done) | (simp only [List.nil_append, List.cons_append, List.set_cons_zero, List.set_cons_succ, iv_set, bv_set, iv_rep, bv_rep]; rfl) | rfl))) | ((with_reducible apply Step.storeA (k := 3) (n := 4)); exact rfl; exact rfl; exact rfl; exact rfl; (focus (decide +kernel)); exact rfl; (focus (first | assumption | exact hw1)); exact rfl; (focus (first | (simp only [List.nil_append, List.cons_append, List.set_cons_zero, List.set_cons_succ, iv_set, bv_set, iv_rep, bv_rep]; done) | (simp only [List.nil_append, List.cons_append, List.set_cons_zero, List.set_cons_succ, iv_set, bv_set, iv_rep, bv_rep]; rfl) | rfl))) | ((with_reducible apply Step.buildS 4); exact rfl; exact rfl; exact (fun _ _ => bs23x); exact rfl; (focus (first | (simp only [List.nil_append, List.cons_append, List.set_cons_zero, List.set_cons_succ, iv_set, bv_set, iv_rep, bv_rep]; done) | (simp only [List.nil_append, List.cons_append, List.set_cons_zero, List.set_cons_succ, iv_set, bv_set, iv_rep, bv_rep]; rfl) | rfl)))) | (with_reducible refine AWo.nil ?_) | ((with_reducible apply AW.seq)) | ((with_reducible apply Then.n)) | ((with_reducible apply AW.regL)) | ((with_reducible apply AW.block)) | ((with_reducible apply AW.skip)) | ((with_reducible apply AW.condT); exact rfl; (focus ((simp only [decide_eq_true_eq, decide_eq_false_iff_not, Bool.not_eq_true', Bool.not_eq_false', Bool.not_true, Bool.not_false]; first | assumption | omega)))) | ((with_reducible apply AW.condF); exact rfl; (focus (rfl)))))
          ((with_reducible apply Step.appG (k := 5)); exact rfl; exact rfl; exact rfl; exact el23; exact un23; exact rfl; exact rfl; exact rfl; exact hnl; exact rfl; exact rfl; exact rfl; (focus (omega)); exact rfl; (focus (first | (simp only [List.nil_append, List.cons_append, List.set_cons_zero, List.set_cons_succ, iv_set, bv_set, iv_rep, bv_rep]; done) | (simp only [List.nil_append, List.cons_append, List.set_cons_zero, List.set_cons_succ, iv_set, bv_set, iv_rep, bv_rep]; rfl) | rfl)))
          (repeat (first | (with_reducible refine AWo.cons ?_) | ((with_reducible refine Step.id ?_); ((with_reducible apply Step.assign); exact rfl; exact rfl)) | (with_reducible refine AWo.nil ?_) | ((with_reducible apply Then.n)) | ((with_reducible apply AW.exit)) | ((with_reducible apply InBlk.hit)) | ((with_reducible apply InBlk.miss); exact rfl) | ((with_reducible apply Then.e))))
          refine ⟨_, [(0, v), (3, .slice (some ⟨m.length + 2, 0, none⟩) (P.length + 1) (P.length + 1)), (4, .pointer (some ⟨m.length + 1, 0, none⟩))], [some { cells := bv ((plR j.length P).set i true) }, some { cells := [.slice (some ⟨m.length + 0, 0, none⟩) j.length j.length] }, some { cells := iv (nv P) ++ [.int .i64 ((i : Nat) : Int)], kind := .grow, size := 1 }], ?_, (Back.mvC 2 5 rfl rfl rfl rfl (by intro j b hj h; rcases j with _ | _ | _ | _ | _ | _ | _ | _ | j <;> first | exact absurd rfl hj | exact h | (simp at h; done)) (by repeat (first | exact CellsP.nil | (refine CellsP.cons ?_ ?_; (focus (first | exact cells_bv _ | exact cells_g0 (by assumption) | ((repeat (first | exact cells_nil | (refine cells_cons ?_ ?_; (focus (exact Ren.slice_ne (by first | (simp; done) | omega | (simp; omega)) (by omega)))))); done)))))) (by repeat (first | exact trivial | (refine And.intro ⟨_, rfl, by (first | exact Ren.slice_mv (by first | (simp; done) | omega | (simp; omega)) | exact Ren.of_sl_ne (by assumption) (by first | omega | (simp; omega)) (by first | omega | (simp; omega)) | exact Ren.ptr_ne (by first | (simp; done) | omega | (simp; omega)) (by omega))⟩ ?_)))), P ++ [i], rfl, ?_, ?_, ?_, ?_⟩
          · simp; omega
          · simp; omega
          · rw [List.length_append, List.length_singleton, show j.length - (P.length + 1) = j.length - P.length - 1 by omega]; exact st.symm
          · rw [hset, nv_snoc, gb_pos (by simp [iv])]
            simp [iv]
          · rw [gv_pos (by simp)]; simp
    · obtain rfl : i = j.length := by omega
      rw [sortF_none hno] at hsort
      rw [← hsort]
      (repeat (first | (with_reducible refine AWo.cons ?_) | ((with_reducible refine Step.id ?_); first | ((with_reducible apply Step.move); exact rfl; exact rfl) | ((with_reducible apply Step.assign); exact rfl; exact rfl) | ((with_reducible apply Step.lss); exact rfl; exact rfl; exact rfl)) | (with_reducible refine AWo.nil ?_) | ((with_reducible apply AW.seq)) | ((with_reducible apply Then.n)) | ((with_reducible apply AW.regL)) | ((with_reducible apply AW.exit)) | ((with_reducible apply InBlk.hit)) | ((with_reducible apply InBlk.miss); exact rfl) | ((with_reducible apply Then.e)) | ((with_reducible apply AW.condF); exact rfl; (focus ((simp only [decide_eq_true_eq, decide_eq_false_iff_not, Bool.not_eq_true', Bool.not_eq_false', Bool.not_true, Bool.not_false]; first | assumption | omega))))))
      refine AW.retB (l := [(2, gv (m.length + 0) P.length)]) (L1 := [gb (iv (nv P)) 1]) (Back.mvC 0 2 rfl rfl rfl rfl (by intro j b hj h; rcases j with _ | _ | _ | _ | _ | _ | _ | _ | j <;> first | exact absurd rfl hj | exact h | (simp at h; done)) (by repeat (first | exact CellsP.nil | (refine CellsP.gb ?_ ?_; (focus (exact cells_iv _))))) (by repeat (first | exact trivial | (refine And.intro ⟨_, rfl, by (exact Ren.gv_mv (by first | (simp; done) | omega | (simp; omega)))⟩ ?_)))) ?_
      exact ⟨_, rfl, rfl, rfl⟩
end Go.Proofs.Ytmomjannlnafcaa.Abs
namespace Go.Proofs.Ytmomjannlnafcaa.Abs
set_option linter.unusedSimpArgs false
set_option linter.unusedVariables false
open Go.RowKit
open Go.Proofs.Ytmomjannlnafcaa.Sim
open Go.Proofs
theorem idxF_succ (pr : Nat → Bool) (i : Nat) : idxF pr (i + 1) = if idxF pr i < 0 then (if pr i then (i : Int) else -1) else idxF pr i := by
  unfold idxF
  rw [List.range_succ, List.find?_append]
  cases h : (List.range i).find? pr with
  | none =>
    simp only [Option.none_or]
    cases hp : pr i with
    | true => simp [hp]
    | false => simp [hp]
  | some k => simp; omega
theorem idxF_neg {pr : Nat → Bool} {n : Nat} (h : idxF pr n < 0) : idxF pr n = -1 ∧ ∀ i, i < n → pr i = false := by
  unfold idxF at h ⊢
  cases h' : (List.range n).find? pr with
  | none =>
    refine ⟨rfl, fun i hi => ?_⟩
    have := List.find?_eq_none.1 h' i (by simpa using hi)
    simpa using this
  | some k => rw [h'] at h; simp at h; omega
theorem idxF_pos {pr : Nat → Bool} {n : Nat} (h : 0 ≤ idxF pr n) : ∃ k : Nat, idxF pr n = k ∧ k < n ∧ pr k = true ∧ ∀ i, i < k → pr i = false := by
  unfold idxF at h ⊢
  cases h' : (List.range n).find? pr with
  | none => rw [h'] at h; simp at h
  | some k =>
    obtain ⟨h1, h2, h3⟩ := List.find?_range_eq_some.1 h'
    exact ⟨k, rfl, by simpa using h2, h1, fun i hi => by simpa using h3 i hi⟩
theorem sortF_len (j : List Job) : ∀ (f : Nat) (P : List Nat), (sortF j f P).length ≤ f + P.length
  | 0, P => by simp [sortF]
  | f + 1, P => by
    rw [sortF]
    split
    · omega
    · have := sortF_len j f (P ++ [‹Nat›])
      simp at this; omega
theorem sortF_stuck {j : List Job} {P : List Nat} {f : Nat} (h : ∀ i, i < j.length → readyJ j P i = false) (hs : sortF j f P = sortL j) : sortL j = P := by rw [← hs, sortF_none h]
set_option maxHeartbeats 2000000 in
set_option maxRecDepth 100000 in
theorem RSorted_ok {m : AM} {v : Value} {j : List Job} (hj : Jobs m v j) (hok : JOk j) {P0 : List Nat} (hP0 : sortL j = P0) (hn : P0.length = j.length) : ACall Try.prog 96 #[v] m (NewT (fun N => .tuple #[gv N P0.length, .bool true]) (gb (iv (nv P0)) 1) m) := by
  subst hP0
  have h40 := hok.len
  obtain ⟨a, o, h1, h2, h3⟩ := hj
  refine ACall.start Try.func96 rfl rfl ?_
  (repeat (first | (with_reducible refine AWo.cons ?_) | ((with_reducible refine Step.id ?_); first | ((with_reducible apply Step.move); exact rfl; exact rfl) | ((with_reducible apply Step.assign); exact rfl; exact rfl) | ((with_reducible apply Step.len); exact rfl; (focus (assumption)); (focus (decide +kernel)); exact rfl) | ((with_reducible apply Step.make1 0); exact rfl; exact rfl; exact rfl; exact el84; (focus (omega)); exact rfl; (focus (first | (simp only [List.nil_append, List.cons_append, List.set_cons_zero, List.set_cons_succ, iv_set, bv_set, iv_rep, bv_rep]; done) | (simp only [List.nil_append, List.cons_append, List.set_cons_zero, List.set_cons_succ, iv_set, bv_set, iv_rep, bv_rep]; rfl) | rfl)))) | (with_reducible refine AWo.nil ?_) | ((with_reducible apply AW.seq)) | ((with_reducible apply Then.n)) | ((with_reducible apply AW.regL)) | ((with_reducible apply AW.block))))
  refine AW.loopT (fun n' t L => ∃ P : List Nat, n' = j.length - P.length ∧ P.length ≤ j.length ∧ sortF j (j.length - P.length) P = sortL j ∧
    L = [some { cells := bv (plR j.length P) }, gb (iv (nv P)) 1] ∧
    t = [(0, v), (4, gv (m.length + 1) P.length), (5, .slice (some ⟨m.length + 0, 0, none⟩) j.length j.length), (15, .int .i64 (j.length : Nat)), (16, .int .i64 (P.length : Nat))]) ⟨_, _, [some { cells := bv (List.replicate j.length false) }] ++ [none], (Back.padC rfl (by repeat (first | exact trivial | (refine And.intro ⟨rfl, by (first | exact .int _ _ | exact Ren.of_gv (by first | (simp; done) | omega | (simp; omega)) | exact .slice _ _ _ _ (by first | (simp; done) | omega | (simp; omega)) | exact Ren.of_sl (by assumption) (by first | omega | (simp; omega)))⟩ ?_))) (by repeat (first | exact CellsP.nil | (refine CellsP.cons ?_ ?_; (focus (exact cells_bv _)))))), [], rfl, Nat.zero_le _, rfl, by rw [plR_zero]; rfl, rfl⟩ ?_
  rintro n' t L ⟨P, rfl, hP, hsort, rfl, rfl⟩
  have lP := plR_len j.length P
  by_cases hfull : P.length = j.length
  · rw [show j.length - P.length = 0 by omega] at hsort
    simp only [sortF] at hsort
    rw [← hsort]
    (repeat (first | (with_reducible refine AWo.cons ?_) | ((with_reducible refine Step.id ?_); first | ((with_reducible apply Step.move); exact rfl; exact rfl) | ((with_reducible apply Step.assign); exact rfl; exact rfl) | ((with_reducible apply Step.lss); exact rfl; exact rfl; exact rfl)) | (with_reducible refine AWo.nil ?_) | ((with_reducible apply AW.seq)) | ((with_reducible apply Then.n)) | ((with_reducible apply AW.regL)) | ((with_reducible apply AW.exit)) | ((with_reducible apply InBlk.hit)) | ((with_reducible apply Then.e)) | ((with_reducible apply AW.condF); exact rfl; (focus ((simp only [decide_eq_true_eq, decide_eq_false_iff_not, Bool.not_eq_true', Bool.not_eq_false', Bool.not_true, Bool.not_false]; first | assumption | omega))))))
    refine AW.retB (l := [(2, gv (m.length + 0) P.length), (3, .bool true)]) (L1 := [gb (iv (nv P)) 1]) (Back.mvC 0 1 rfl rfl rfl rfl (by intro j b hj h; rcases j with _ | _ | _ | _ | _ | _ | _ | _ | j <;> first | exact absurd rfl hj | exact h | (simp at h; done)) (by repeat (first | exact CellsP.nil | (refine CellsP.gb ?_ ?_; (focus (exact cells_iv _))))) (by repeat (first | exact trivial | (refine And.intro ⟨_, rfl, by (first | exact .bool _ | exact Ren.gv_mv (by first | (simp; done) | omega | (simp; omega)))⟩ ?_)))) ?_
    exact ⟨_, rfl, rfl, rfl⟩
  · (repeat (first | (with_reducible refine AWo.cons ?_) | ((with_reducible refine Step.id ?_); first | ((with_reducible apply Step.move); exact rfl; exact rfl) | ((with_reducible apply Step.assign); exact rfl; exact rfl) | ((with_reducible apply Step.lss); exact rfl; exact rfl; exact rfl) | ((with_reducible apply Step.len); exact rfl; (focus (assumption)); (focus (decide +kernel)); exact rfl)) | (with_reducible refine AWo.nil ?_) | ((with_reducible apply AW.seq)) | ((with_reducible apply Then.n)) | ((with_reducible apply AW.regL)) | ((with_reducible apply AW.block)) | ((with_reducible apply AW.skip)) | ((with_reducible apply AW.condT); exact rfl; (focus ((simp only [decide_eq_true_eq, decide_eq_false_iff_not, Bool.not_eq_true', Bool.not_eq_false', Bool.not_true, Bool.not_false]; first | assumption | omega))))))
    refine AW.loopT (fun n' t L => ∃ i : Nat, n' = j.length - i ∧ i ≤ j.length ∧
      L = [some { cells := bv (plR j.length P) }, gb (iv (nv P)) 1] ∧
      t = [(0, v), (4, gv (m.length + 1) P.length), (5, .slice (some ⟨m.length + 0, 0, none⟩) j.length j.length), (15, .int .i64 (j.length : Nat)), (16, .int .i64 (P.length : Nat)), (6, .int .i64 (idxF (readyJ j P) i)), (18, v), (19, .int .i64 (j.length : Nat)), (20, .int .i64 (i : Nat))]) ⟨_, _, _, (Or.inl ⟨rfl, (by repeat (first | exact trivial | (refine And.intro rfl ?_)))⟩), 0, rfl, Nat.zero_le _, rfl, rfl⟩ ?_
    rintro n' t L ⟨i, rfl, hi, rfl, rfl⟩
    rcases Nat.lt_or_ge i j.length with hlt | hge
    · obtain ⟨w, hr, hw⟩ := h3 i hlt
      obtain ⟨wa, wo, w1, w2, w3⟩ := id hw
      have hal := hok.alen hlt
      have hmem := fun a ha => hok.mem hlt (a := a) ha
      have gP := plR_get P hlt
      have ix := idxF_succ (readyJ j P) i
      have rdef : readyJ j P i = (decide (i ∉ P) && (aft j i).all fun a => decide (a.toNat ∈ P)) := rfl
      simp only [aft] at *
      generalize j.getD i default = x at *
      obtain ⟨x1, x2, x3, l⟩ := x
      simp only [Job.cells] at *
      have hro : Rd (m ++ [some { cells := bv (plR j.length P) }, gb (iv (nv P)) 1]) (m.length + 0) i (.bool (decide (i ∈ P))) := by
        rw [← gP]; exact Rd.new rfl (bv_get (by omega))
      generalize hX : idxF (readyJ j P) i = X at *
      (repeat (first | (with_reducible refine AWo.cons ?_) | ((with_reducible refine Step.id ?_); first | ((with_reducible apply Step.move); exact rfl; exact rfl) | ((with_reducible apply Step.assign); exact rfl; exact rfl) | ((with_reducible apply Step.lss); exact rfl; exact rfl; exact rfl)) | (with_reducible refine AWo.nil ?_) | ((fail_if_success (with_reducible refine AW.atR (id := 9) ?_)); ((with_reducible apply AW.seq))) | ((with_reducible apply Then.n)) | ((with_reducible apply AW.regL)) | ((with_reducible apply AW.block)) | ((with_reducible apply AW.skip)) | ((with_reducible apply AW.condT); exact rfl; (focus ((simp only [decide_eq_true_eq, decide_eq_false_iff_not, Bool.not_eq_true', Bool.not_eq_false', Bool.not_true, Bool.not_false]; first | assumption | omega))))))
      refine AW.joinS [(0, v), (4, gv (m.length + 1) P.length), (5, .slice (some ⟨m.length + 0, 0, none⟩) j.length j.length), (15, .int .i64 (j.length : Nat)), (16, .int .i64 (P.length : Nat)), (6, .int .i64 X), (18, v), (19, .int .i64 (j.length : Nat)), (20, .int .i64 (i : Nat)), (7, .int .i64 (i : Nat)), (8, .bool (decide (i ∉ P) && decide (X < 0)))] (m ++ [some { cells := bv (plR j.length P) }, gb (iv (nv P)) 1]) ?_ ?_
      · by_cases hin : i ∈ P
        · rw [show (decide (i ∉ P) && decide (X < 0)) = false by simp [hin]]
          rw [decide_eq_true hin] at hro
          (repeat (first | (with_reducible refine AWo.cons ?_) | ((with_reducible refine Step.id ?_); first | ((with_reducible apply Step.gdF); exact rfl; exact rfl; (focus (rfl))) | ((with_reducible apply Step.move); exact rfl; exact rfl) | ((with_reducible apply Step.assign); exact rfl; exact rfl) | ((with_reducible apply Step.load); exact rfl; (focus (decide +kernel)); exact rfl; (focus (assumption))) | ((with_reducible apply Step.ix1z); exact rfl; (focus (exact Sl.mk (by omega))); exact rfl; (focus (decide +kernel)); exact rfl; (focus (omega))) | ((with_reducible apply Step.not); exact rfl; exact rfl) | ((with_reducible apply Step.pickF); exact rfl; exact rfl; exact rfl; exact rfl; (focus (rfl)))) | (with_reducible refine AWo.nil ?_) | ((with_reducible apply Then.n)) | ((with_reducible apply AW.regL))))
          exact ⟨rfl, (by repeat (first | exact trivial | (refine And.intro rfl ?_)))⟩
        · rw [show (decide (i ∉ P) && decide (X < 0)) = decide (X < 0) by simp [hin]]
          rw [decide_eq_false hin] at hro
          (repeat (first | (with_reducible refine AWo.cons ?_) | ((with_reducible refine Step.id ?_); first | ((with_reducible apply Step.gdT); exact rfl; exact rfl; (focus (rfl))) | ((with_reducible apply Step.move); exact rfl; exact rfl) | ((with_reducible apply Step.assign); exact rfl; exact rfl) | ((with_reducible apply Step.load); exact rfl; (focus (decide +kernel)); exact rfl; (focus (assumption))) | ((with_reducible apply Step.ix1z); exact rfl; (focus (exact Sl.mk (by omega))); exact rfl; (focus (decide +kernel)); exact rfl; (focus (omega))) | ((with_reducible apply Step.lss); exact rfl; exact rfl; exact rfl) | ((with_reducible apply Step.not); exact rfl; exact rfl) | ((with_reducible apply Step.pickT); exact rfl; exact rfl; exact rfl; exact rfl; (focus (rfl)))) | (with_reducible refine AWo.nil ?_) | ((with_reducible apply Then.n)) | ((with_reducible apply AW.regL))))
          exact ⟨rfl, (by repeat (first | exact trivial | (refine And.intro rfl ?_)))⟩
      generalize hb0 : (decide (i ∉ P) && decide (X < 0)) = b0
      (repeat (first | (with_reducible refine AWo.cons ?_) | ((with_reducible refine Step.id ?_); first | ((with_reducible apply Step.move); exact rfl; exact rfl) | ((with_reducible apply Step.load); exact rfl; (focus (decide +kernel)); exact rfl; (focus (exact Rd.old _ (hr.at_ 3 rfl)))) | ((with_reducible apply Step.ix (s := 4)); exact rfl; (focus (assumption)); exact rfl; (focus (decide +kernel)); exact rfl; (focus (omega))) | ((with_reducible apply Step.field (k := 3)); exact rfl; (focus (decide +kernel)); exact rfl) | ((with_reducible apply Step.len); exact rfl; (focus (assumption)); (focus (decide +kernel)); exact rfl)) | (with_reducible refine AWo.nil ?_) | ((with_reducible apply AW.seq)) | ((with_reducible apply Then.n)) | ((with_reducible apply AW.regL)) | ((with_reducible apply AW.block))))
      refine AW.loopT (fun n' t L => ∃ q : Nat, n' = l.length - q ∧ q ≤ l.length ∧
        L = [some { cells := bv (plR j.length P) }, gb (iv (nv P)) 1] ∧
        t = [(0, v), (4, gv (m.length + 1) P.length), (5, .slice (some ⟨m.length + 0, 0, none⟩) j.length j.length), (15, .int .i64 (j.length : Nat)), (16, .int .i64 (P.length : Nat)), (6, .int .i64 X), (18, v), (19, .int .i64 (j.length : Nat)), (20, .int .i64 (i : Nat)), (7, .int .i64 (i : Nat)), (8, .bool (b0 && (l.take q).all fun a => decide (a.toNat ∈ P))), (36, w), (37, .int .i64 (l.length : Nat)), (38, .int .i64 (q : Nat))]) ⟨_, [(0, v), (4, gv (m.length + 1) P.length), (5, .slice (some ⟨m.length + 0, 0, none⟩) j.length j.length), (15, .int .i64 (j.length : Nat)), (16, .int .i64 (P.length : Nat)), (6, .int .i64 X), (18, v), (19, .int .i64 (j.length : Nat)), (20, .int .i64 (i : Nat)), (7, .int .i64 (i : Nat)), (8, .bool b0), (36, w), (37, .int .i64 (l.length : Nat)), (38, .int .i64 ((0 : Nat) : Int))], _, (Or.inl ⟨rfl, (by repeat (first | exact trivial | (refine And.intro rfl ?_)))⟩), 0, rfl, Nat.zero_le _, rfl, by simp⟩ ?_
      rintro n' t L ⟨q, rfl, hq, rfl, rfl⟩
      rcases Nat.lt_or_ge q l.length with hlt2 | hge2
      · have hm := hmem (l.getD q 0) (by rw [List.getD_eq_getElem?_getD, List.getElem?_eq_getElem hlt2]; exact List.getElem_mem hlt2)
        have hrq := w3 q hlt2
        have ts := take_snoc l q 0 hlt2
        have al : ((l.take (q + 1)).all fun a => decide (a.toNat ∈ P)) = ((l.take q).all (fun a => decide (a.toNat ∈ P)) && decide ((l.getD q 0).toNat ∈ P)) := by rw [ts, List.all_append]; simp
        obtain ⟨z, hz⟩ := Int.eq_ofNat_of_zero_le hm.1
        have gz := plR_get (n := j.length) (i := z) P (by omega)
        rw [hz] at hrq al
        have hrz : Rd (m ++ [some { cells := bv (plR j.length P) }, gb (iv (nv P)) 1]) (m.length + 0) z (.bool (decide (z ∈ P))) := by
          rw [← gz]; exact Rd.new rfl (bv_get (by omega))
        have hzl : z < j.length := by omega
        have al2 : (b0 && (l.take (q + 1)).all fun a => decide (a.toNat ∈ P)) = ((b0 && (l.take q).all fun a => decide (a.toNat ∈ P)) && decide (z ∈ P)) := by rw [al, Int.toNat_natCast, Bool.and_assoc]
        generalize (b0 && (l.take q).all fun a => decide (a.toNat ∈ P)) = c at *
        cases c with
        | false =>
          (repeat (first | (with_reducible refine AWo.cons ?_) | ((with_reducible refine Step.id ?_); first | ((with_reducible apply Step.gdF); exact rfl; exact rfl; (focus (rfl))) | ((with_reducible apply Step.move); exact rfl; exact rfl) | ((with_reducible apply Step.assign); exact rfl; exact rfl) | ((with_reducible apply Step.load); exact rfl; (focus (decide +kernel)); exact rfl; (focus (exact Rd.old _ (by assumption)))) | ((with_reducible apply Step.ix1); exact rfl; (focus (assumption)); exact rfl; (focus (decide +kernel)); exact rfl; (focus (omega))) | ((with_reducible apply Step.add); exact rfl; exact rfl; (focus (omega)); exact rfl) | ((with_reducible apply Step.lss); exact rfl; exact rfl; exact rfl) | ((with_reducible apply Step.pickF); exact rfl; exact rfl; exact rfl; exact rfl; (focus (rfl)))) | (with_reducible refine AWo.nil ?_) | ((with_reducible apply AW.seq)) | ((with_reducible apply Then.n)) | ((with_reducible apply AW.regL)) | ((with_reducible apply AW.block)) | ((with_reducible apply InBlk.n)) | ((with_reducible apply AW.skip)) | ((with_reducible apply AW.condT); exact rfl; (focus ((simp only [decide_eq_true_eq, decide_eq_false_iff_not, Bool.not_eq_true', Bool.not_eq_false', Bool.not_true, Bool.not_false]; first | assumption | omega))))))
          exact ⟨_, [(0, v), (4, gv (m.length + 1) P.length), (5, .slice (some ⟨m.length + 0, 0, none⟩) j.length j.length), (15, .int .i64 (j.length : Nat)), (16, .int .i64 (P.length : Nat)), (6, .int .i64 X), (18, v), (19, .int .i64 (j.length : Nat)), (20, .int .i64 (i : Nat)), (7, .int .i64 (i : Nat)), (8, .bool false), (36, w), (37, .int .i64 (l.length : Nat)), (38, .int .i64 (q + 1 : Nat))], _, by omega, (Or.inl ⟨rfl, (by repeat (first | exact trivial | (refine And.intro rfl ?_)))⟩), q + 1, rfl, by omega, rfl, by rw [al2]; rfl⟩
        | true =>
          (repeat (first | (with_reducible refine AWo.cons ?_) | ((with_reducible refine Step.id ?_); first | ((with_reducible apply Step.gdT); exact rfl; exact rfl; (focus (rfl))) | ((with_reducible apply Step.move); exact rfl; exact rfl) | ((with_reducible apply Step.assign); exact rfl; exact rfl) | ((with_reducible apply Step.load); exact rfl; (focus (decide +kernel)); exact rfl; (focus (first | assumption | exact Rd.old _ (by assumption)))) | ((with_reducible apply Step.ix1z); exact rfl; (focus (exact Sl.mk (by omega))); exact rfl; (focus (decide +kernel)); exact rfl; (focus (omega))) | ((with_reducible apply Step.ix1); exact rfl; (focus (assumption)); exact rfl; (focus (decide +kernel)); exact rfl; (focus (omega))) | ((with_reducible apply Step.add); exact rfl; exact rfl; (focus (omega)); exact rfl) | ((with_reducible apply Step.lss); exact rfl; exact rfl; exact rfl) | ((with_reducible apply Step.pickT); exact rfl; exact rfl; exact rfl; exact rfl; (focus (rfl)))) | (with_reducible refine AWo.nil ?_) | ((with_reducible apply AW.seq)) | ((with_reducible apply Then.n)) | ((with_reducible apply AW.regL)) | ((with_reducible apply AW.block)) | ((with_reducible apply InBlk.n)) | ((with_reducible apply AW.skip)) | ((with_reducible apply AW.condT); exact rfl; (focus ((simp only [decide_eq_true_eq, decide_eq_false_iff_not, Bool.not_eq_true', Bool.not_eq_false', Bool.not_true, Bool.not_false]; first | assumption | omega))))))
          exact ⟨_, [(0, v), (4, gv (m.length + 1) P.length), (5, .slice (some ⟨m.length + 0, 0, none⟩) j.length j.length), (15, .int .i64 (j.length : Nat)), (16, .int .i64 (P.length : Nat)), (6, .int .i64 X), (18, v), (19, .int .i64 (j.length : Nat)), (20, .int .i64 (i : Nat)), (7, .int .i64 (i : Nat)), (8, .bool (decide (z ∈ P))), (36, w), (37, .int .i64 (l.length : Nat)), (38, .int .i64 (q + 1 : Nat))], _, by omega, (Or.inl ⟨rfl, (by repeat (first | exact trivial | (refine And.intro rfl ?_)))⟩), q + 1, rfl, by omega, rfl, by rw [al2]; rfl⟩
      · obtain rfl : q = l.length := by omega
        rw [List.take_length] at *
        have hfin : (b0 && l.all fun a => decide (a.toNat ∈ P)) = (decide (X < 0) && readyJ j P i) := by
          rw [rdef, ← hb0]
          cases decide (i ∉ P) <;> cases decide (X < 0) <;> simp
        rw [hfin]
        by_cases hX0 : X < 0
        · rw [if_pos hX0] at ix
          rw [decide_eq_true hX0, Bool.true_and]
          cases hrd : readyJ j P i with
          | true =>
            rw [hrd, if_pos rfl] at ix
            (repeat (first | (with_reducible refine AWo.cons ?_) | ((with_reducible refine Step.id ?_); first | ((with_reducible apply Step.move); exact rfl; exact rfl) | ((with_reducible apply Step.assign); exact rfl; exact rfl) | ((with_reducible apply Step.add); exact rfl; exact rfl; (focus (omega)); exact rfl) | ((with_reducible apply Step.lss); exact rfl; exact rfl; exact rfl)) | (with_reducible refine AWo.nil ?_) | ((with_reducible apply AW.seq)) | ((with_reducible apply Then.n)) | ((with_reducible apply AW.regL)) | ((with_reducible apply AW.exit)) | ((with_reducible apply InBlk.n)) | ((with_reducible apply InBlk.hit)) | ((with_reducible apply Then.e)) | ((with_reducible apply AW.condT); exact rfl; (focus (rfl))) | ((with_reducible apply AW.condF); exact rfl; (focus ((simp only [decide_eq_true_eq, decide_eq_false_iff_not, Bool.not_eq_true', Bool.not_eq_false', Bool.not_true, Bool.not_false]; first | assumption | omega))))))
            exact ⟨_, [(0, v), (4, gv (m.length + 1) P.length), (5, .slice (some ⟨m.length + 0, 0, none⟩) j.length j.length), (15, .int .i64 (j.length : Nat)), (16, .int .i64 (P.length : Nat)), (6, .int .i64 (i : Nat)), (18, v), (19, .int .i64 (j.length : Nat)), (20, .int .i64 (i + 1 : Nat))], _, by omega, (Or.inl ⟨rfl, (by repeat (first | exact trivial | (refine And.intro rfl ?_)))⟩), i + 1, rfl, by omega, rfl, by rw [ix]⟩
          | false =>
            rw [hrd, if_neg (by simp)] at ix
            have hX1 : X = -1 := by rw [← hX]; exact (idxF_neg (by rw [hX]; exact hX0)).1
            subst hX1
            (repeat (first | (with_reducible refine AWo.cons ?_) | ((with_reducible refine Step.id ?_); first | ((with_reducible apply Step.move); exact rfl; exact rfl) | ((with_reducible apply Step.add); exact rfl; exact rfl; (focus (omega)); exact rfl) | ((with_reducible apply Step.lss); exact rfl; exact rfl; exact rfl)) | (with_reducible refine AWo.nil ?_) | ((with_reducible apply AW.seq)) | ((with_reducible apply Then.n)) | ((with_reducible apply AW.regL)) | ((with_reducible apply AW.exit)) | ((with_reducible apply InBlk.n)) | ((with_reducible apply InBlk.hit)) | ((with_reducible apply Then.e)) | ((with_reducible apply AW.skip)) | ((with_reducible apply AW.condF); exact rfl; (focus (first | rfl | (simp only [decide_eq_true_eq, decide_eq_false_iff_not, Bool.not_eq_true', Bool.not_eq_false', Bool.not_true, Bool.not_false]; first | assumption | omega))))))
            exact ⟨_, [(0, v), (4, gv (m.length + 1) P.length), (5, .slice (some ⟨m.length + 0, 0, none⟩) j.length j.length), (15, .int .i64 (j.length : Nat)), (16, .int .i64 (P.length : Nat)), (6, .int .i64 (-1)), (18, v), (19, .int .i64 (j.length : Nat)), (20, .int .i64 (i + 1 : Nat))], _, by omega, (Or.inl ⟨rfl, (by repeat (first | exact trivial | (refine And.intro rfl ?_)))⟩), i + 1, rfl, by omega, rfl, by rw [ix]⟩
        · rw [if_neg hX0] at ix
          rw [decide_eq_false hX0, Bool.false_and]
          (repeat (first | (with_reducible refine AWo.cons ?_) | ((with_reducible refine Step.id ?_); first | ((with_reducible apply Step.move); exact rfl; exact rfl) | ((with_reducible apply Step.add); exact rfl; exact rfl; (focus (omega)); exact rfl) | ((with_reducible apply Step.lss); exact rfl; exact rfl; exact rfl)) | (with_reducible refine AWo.nil ?_) | ((with_reducible apply AW.seq)) | ((with_reducible apply Then.n)) | ((with_reducible apply AW.regL)) | ((with_reducible apply AW.exit)) | ((with_reducible apply InBlk.n)) | ((with_reducible apply InBlk.hit)) | ((with_reducible apply Then.e)) | ((with_reducible apply AW.skip)) | ((with_reducible apply AW.condF); exact rfl; (focus (first | rfl | (simp only [decide_eq_true_eq, decide_eq_false_iff_not, Bool.not_eq_true', Bool.not_eq_false', Bool.not_true, Bool.not_false]; first | assumption | omega))))))
          exact ⟨_, [(0, v), (4, gv (m.length + 1) P.length), (5, .slice (some ⟨m.length + 0, 0, none⟩) j.length j.length), (15, .int .i64 (j.length : Nat)), (16, .int .i64 (P.length : Nat)), (6, .int .i64 X), (18, v), (19, .int .i64 (j.length : Nat)), (20, .int .i64 (i + 1 : Nat))], _, by omega, (Or.inl ⟨rfl, (by repeat (first | exact trivial | (refine And.intro rfl ?_)))⟩), i + 1, rfl, by omega, rfl, by rw [ix]⟩
    · obtain rfl : i = j.length := by omega
      by_cases hX0 : idxF (readyJ j P) j.length < 0
      · exfalso
        have := sortF_stuck (idxF_neg hX0).2 hsort
        rw [this] at hn
        omega
      · obtain ⟨k, hk, hkl, hk1, hk0⟩ := idxF_pos (pr := readyJ j P) (n := j.length) (by omega)
        rw [hk] at *
        have st := sortF_some (j := j) (P := P) hkl hk0 hk1 (j.length - P.length - 1)
        rw [show j.length - P.length - 1 + 1 = j.length - P.length by omega, hsort] at st
        have hset := plR_set (n := j.length) (i := k) P
        have hln := nv_len P
        have hli := iv_len (nv P)
        have hnl : (iv (nv P)).length = P.length * 1 := by omega
        have hg0 : ∀ v ∈ iv (nv P) ++ [Value.int .i64 ((k : Nat) : Int)], g0 v = true := fun v hv => by
          rcases List.mem_append.1 hv with h | h
          · exact g0_iv _ v h
          · obtain rfl : v = Value.int .i64 ((k : Nat) : Int) := by simpa using h
            rfl
        (repeat (first | (with_reducible refine AWo.cons ?_) | ((with_reducible refine Step.id ?_); first | ((with_reducible apply Step.move); exact rfl; exact rfl) | ((with_reducible apply Step.ix1z); exact rfl; (focus (exact Sl.mk (by omega))); exact rfl; (focus (decide +kernel)); exact rfl; (focus (omega))) | ((with_reducible apply Step.lss); exact rfl; exact rfl; exact rfl) | ((with_reducible apply Step.store (k := 0)); exact rfl; exact rfl; exact rfl; exact rfl; (focus (decide +kernel)); exact rfl; exact rfl; (focus (first | omega | (simp [iv, bv]; done) | (simp [iv, bv]; omega))); (focus (first | (simp only [List.nil_append, List.cons_append, List.set_cons_zero, List.set_cons_succ, iv_set, bv_set, iv_rep, bv_rep]; done) | (simp only [List.nil_append, List.cons_append, List.set_cons_zero, List.set_cons_succ, iv_set, bv_set, iv_rep, bv_rep]; rfl) | rfl))) | ((with_reducible apply Step.buildS 2); exact rfl; exact rfl; exact (fun _ _ => bs23x); exact rfl; (focus (first | (simp only [List.nil_append, List.cons_append, List.set_cons_zero, List.set_cons_succ, iv_set, bv_set, iv_rep, bv_rep]; done) | (simp only [List.nil_append, List.cons_append, List.set_cons_zero, List.set_cons_succ, iv_set, bv_set, iv_rep, bv_rep]; rfl) | rfl)))) | (with_reducible refine AWo.nil ?_) | ((with_reducible apply AW.seq)) | ((with_reducible apply Then.n)) | ((with_reducible apply AW.regL)) | ((with_reducible apply AW.exit)) | ((with_reducible apply InBlk.hit)) | ((with_reducible apply Then.e)) | ((with_reducible apply AW.skip)) | ((with_reducible apply AW.condF); exact rfl; (focus (first | rfl | (simp only [decide_eq_true_eq, decide_eq_false_iff_not, Bool.not_eq_true', Bool.not_eq_false', Bool.not_true, Bool.not_false]; first | assumption | omega))))))
        ((with_reducible apply Step.appG (k := 3)); exact rfl; exact rfl; exact rfl; exact el23; exact un23; exact rfl; exact rfl; exact rfl; exact hnl; exact rfl; exact rfl; exact rfl; (focus (omega)); exact rfl; (focus (first | (simp only [List.nil_append, List.cons_append, List.set_cons_zero, List.set_cons_succ, iv_set, bv_set, iv_rep, bv_rep]; done) | (simp only [List.nil_append, List.cons_append, List.set_cons_zero, List.set_cons_succ, iv_set, bv_set, iv_rep, bv_rep]; rfl) | rfl)))
        (repeat (first | (with_reducible refine AWo.cons ?_) | ((with_reducible refine Step.id ?_); first | ((with_reducible apply Step.move); exact rfl; exact rfl) | ((with_reducible apply Step.assign); exact rfl; exact rfl) | ((with_reducible apply Step.add); exact rfl; exact rfl; (focus (omega)); exact rfl)) | (with_reducible refine AWo.nil ?_) | ((with_reducible apply Then.n)) | ((with_reducible apply AW.regL)) | ((with_reducible apply InBlk.n))))
        refine ⟨_, [(0, v), (4, .slice (some ⟨m.length + 1, 0, none⟩) (P.length + 1) (P.length + 1)), (5, .slice (some ⟨m.length + 0, 0, none⟩) j.length j.length), (15, .int .i64 (j.length : Nat)), (16, .int .i64 (P.length + 1 : Nat))], [some { cells := bv ((plR j.length P).set k true) }, some { cells := iv (nv P) ++ [.int .i64 ((k : Nat) : Int)], kind := .grow, size := 1 }], ?_, (Back.mvC 1 3 rfl rfl rfl rfl (by intro j b hj h; rcases j with _ | _ | _ | _ | _ | _ | _ | _ | j <;> first | exact absurd rfl hj | exact h | (simp at h; done)) (by repeat (first | exact CellsP.nil | (refine CellsP.cons ?_ ?_; (focus (first | exact cells_bv _ | exact cells_g0 (by assumption)))))) (by repeat (first | exact trivial | (refine And.intro ⟨_, rfl, by (first | exact .int _ _ | exact Ren.slice_mv (by first | (simp; done) | omega | (simp; omega)) | exact Ren.slice_ne (by first | (simp; done) | omega | (simp; omega)) (by omega) | exact Ren.of_sl_ne (by assumption) (by first | omega | (simp; omega)) (by first | omega | (simp; omega)))⟩ ?_)))), P ++ [k], rfl, ?_, ?_, ?_, ?_⟩
        · simp; omega
        · simp; omega
        · rw [List.length_append, List.length_singleton, show j.length - (P.length + 1) = j.length - P.length - 1 by omega]; exact st.symm
        · rw [hset, nv_snoc, gb_pos (by simp [iv])]
          simp [iv]
        · rw [gv_pos (by simp)]; simp
end Go.Proofs.Ytmomjannlnafcaa.Abs
namespace Go.Proofs.Ytmomjannlnafcaa.Abs
set_option linter.unusedSimpArgs false
set_option linter.unusedVariables false
open Go.RowKit
open Go.Proofs.Ytmomjannlnafcaa.Sim
open Go.Proofs
set_option maxHeartbeats 2000000 in
set_option maxRecDepth 100000 in
theorem RSorted_no {m : AM} {v : Value} {j : List Job} (hj : Jobs m v j) (hok : JOk j) {P0 : List Nat} (hP0 : sortL j = P0) (hn : P0.length ≠ j.length) : ACall Try.prog 96 #[v] m (Ret (.tuple #[.slice none 0 0, .bool false]) m) := by
  subst hP0
  have h40 := hok.len
  obtain ⟨a, o, h1, h2, h3⟩ := hj
  refine ACall.start Try.func96 rfl rfl ?_
  (repeat (first | (with_reducible refine AWo.cons ?_) | ((with_reducible refine Step.id ?_); first | ((with_reducible apply Step.move); exact rfl; exact rfl) | ((with_reducible apply Step.assign); exact rfl; exact rfl) | ((with_reducible apply Step.len); exact rfl; (focus (assumption)); (focus (decide +kernel)); exact rfl) | ((with_reducible apply Step.make1 0); exact rfl; exact rfl; exact rfl; exact el84; (focus (omega)); exact rfl; (focus (first | (simp only [List.nil_append, List.cons_append, List.set_cons_zero, List.set_cons_succ, iv_set, bv_set, iv_rep, bv_rep]; done) | (simp only [List.nil_append, List.cons_append, List.set_cons_zero, List.set_cons_succ, iv_set, bv_set, iv_rep, bv_rep]; rfl) | rfl)))) | (with_reducible refine AWo.nil ?_) | ((with_reducible apply AW.seq)) | ((with_reducible apply Then.n)) | ((with_reducible apply AW.regL)) | ((with_reducible apply AW.block))))
  refine AW.loopT (fun n' t L => ∃ P : List Nat, n' = j.length - P.length ∧ P.length ≤ j.length ∧ sortF j (j.length - P.length) P = sortL j ∧
    L = [some { cells := bv (plR j.length P) }, gb (iv (nv P)) 1] ∧
    t = [(0, v), (4, gv (m.length + 1) P.length), (5, .slice (some ⟨m.length + 0, 0, none⟩) j.length j.length), (15, .int .i64 (j.length : Nat)), (16, .int .i64 (P.length : Nat))]) ⟨_, _, [some { cells := bv (List.replicate j.length false) }] ++ [none], (Back.padC rfl (by repeat (first | exact trivial | (refine And.intro ⟨rfl, by (first | exact .int _ _ | exact Ren.of_gv (by first | (simp; done) | omega | (simp; omega)) | exact .slice _ _ _ _ (by first | (simp; done) | omega | (simp; omega)) | exact Ren.of_sl (by assumption) (by first | omega | (simp; omega)))⟩ ?_))) (by repeat (first | exact CellsP.nil | (refine CellsP.cons ?_ ?_; (focus (exact cells_bv _)))))), [], rfl, Nat.zero_le _, rfl, by rw [plR_zero]; rfl, rfl⟩ ?_
  rintro n' t L ⟨P, rfl, hP, hsort, rfl, rfl⟩
  have lP := plR_len j.length P
  by_cases hfull : P.length = j.length
  · rw [show j.length - P.length = 0 by omega] at hsort
    simp only [sortF] at hsort
    rw [← hsort] at hn
    exact absurd hfull hn
  · (repeat (first | (with_reducible refine AWo.cons ?_) | ((with_reducible refine Step.id ?_); first | ((with_reducible apply Step.move); exact rfl; exact rfl) | ((with_reducible apply Step.assign); exact rfl; exact rfl) | ((with_reducible apply Step.lss); exact rfl; exact rfl; exact rfl) | ((with_reducible apply Step.len); exact rfl; (focus (assumption)); (focus (decide +kernel)); exact rfl)) | (with_reducible refine AWo.nil ?_) | ((with_reducible apply AW.seq)) | ((with_reducible apply Then.n)) | ((with_reducible apply AW.regL)) | ((with_reducible apply AW.block)) | ((with_reducible apply AW.skip)) | ((with_reducible apply AW.condT); exact rfl; (focus ((simp only [decide_eq_true_eq, decide_eq_false_iff_not, Bool.not_eq_true', Bool.not_eq_false', Bool.not_true, Bool.not_false]; first | assumption | omega))))))
    refine AW.loopT (fun n' t L => ∃ i : Nat, n' = j.length - i ∧ i ≤ j.length ∧
      L = [some { cells := bv (plR j.length P) }, gb (iv (nv P)) 1] ∧
      t = [(0, v), (4, gv (m.length + 1) P.length), (5, .slice (some ⟨m.length + 0, 0, none⟩) j.length j.length), (15, .int .i64 (j.length : Nat)), (16, .int .i64 (P.length : Nat)), (6, .int .i64 (idxF (readyJ j P) i)), (18, v), (19, .int .i64 (j.length : Nat)), (20, .int .i64 (i : Nat))]) ⟨_, _, _, (Or.inl ⟨rfl, (by repeat (first | exact trivial | (refine And.intro rfl ?_)))⟩), 0, rfl, Nat.zero_le _, rfl, rfl⟩ ?_
    rintro n' t L ⟨i, rfl, hi, rfl, rfl⟩
    rcases Nat.lt_or_ge i j.length with hlt | hge
    · obtain ⟨w, hr, hw⟩ := h3 i hlt
      obtain ⟨wa, wo, w1, w2, w3⟩ := id hw
      have hal := hok.alen hlt
      have hmem := fun a ha => hok.mem hlt (a := a) ha
      have gP := plR_get P hlt
      have ix := idxF_succ (readyJ j P) i
      have rdef : readyJ j P i = (decide (i ∉ P) && (aft j i).all fun a => decide (a.toNat ∈ P)) := rfl
      simp only [aft] at *
      generalize j.getD i default = x at *
      obtain ⟨x1, x2, x3, l⟩ := x
      simp only [Job.cells] at *
      have hro : Rd (m ++ [some { cells := bv (plR j.length P) }, gb (iv (nv P)) 1]) (m.length + 0) i (.bool (decide (i ∈ P))) := by
        rw [← gP]; exact Rd.new rfl (bv_get (by omega))
      generalize hX : idxF (readyJ j P) i = X at *
      (repeat (first | (with_reducible refine AWo.cons ?_) | ((with_reducible refine Step.id ?_); first | ((with_reducible apply Step.move); exact rfl; exact rfl) | ((with_reducible apply Step.assign); exact rfl; exact rfl) | ((with_reducible apply Step.lss); exact rfl; exact rfl; exact rfl)) | (with_reducible refine AWo.nil ?_) | ((fail_if_success (with_reducible refine AW.atR (id := 9) ?_)); ((with_reducible apply AW.seq))) | ((with_reducible apply Then.n)) | ((with_reducible apply AW.regL)) | ((with_reducible apply AW.block)) | ((with_reducible apply AW.skip)) | ((with_reducible apply AW.condT); exact rfl; (focus ((simp only [decide_eq_true_eq, decide_eq_false_iff_not, Bool.not_eq_true', Bool.not_eq_false', Bool.not_true, Bool.not_false]; first | assumption | omega))))))
      refine AW.joinS [(0, v), (4, gv (m.length + 1) P.length), (5, .slice (some ⟨m.length + 0, 0, none⟩) j.length j.length), (15, .int .i64 (j.length : Nat)), (16, .int .i64 (P.length : Nat)), (6, .int .i64 X), (18, v), (19, .int .i64 (j.length : Nat)), (20, .int .i64 (i : Nat)), (7, .int .i64 (i : Nat)), (8, .bool (decide (i ∉ P) && decide (X < 0)))] (m ++ [some { cells := bv (plR j.length P) }, gb (iv (nv P)) 1]) ?_ ?_
      · by_cases hin : i ∈ P
        · rw [show (decide (i ∉ P) && decide (X < 0)) = false by simp [hin]]
          rw [decide_eq_true hin] at hro
          (repeat (first | (with_reducible refine AWo.cons ?_) | ((with_reducible refine Step.id ?_); first | ((with_reducible apply Step.gdF); exact rfl; exact rfl; (focus (rfl))) | ((with_reducible apply Step.move); exact rfl; exact rfl) | ((with_reducible apply Step.assign); exact rfl; exact rfl) | ((with_reducible apply Step.load); exact rfl; (focus (decide +kernel)); exact rfl; (focus (assumption))) | ((with_reducible apply Step.ix1z); exact rfl; (focus (exact Sl.mk (by omega))); exact rfl; (focus (decide +kernel)); exact rfl; (focus (omega))) | ((with_reducible apply Step.not); exact rfl; exact rfl) | ((with_reducible apply Step.pickF); exact rfl; exact rfl; exact rfl; exact rfl; (focus (rfl)))) | (with_reducible refine AWo.nil ?_) | ((with_reducible apply Then.n)) | ((with_reducible apply AW.regL))))
          exact ⟨rfl, (by repeat (first | exact trivial | (refine And.intro rfl ?_)))⟩
        · rw [show (decide (i ∉ P) && decide (X < 0)) = decide (X < 0) by simp [hin]]
          rw [decide_eq_false hin] at hro
          (repeat (first | (with_reducible refine AWo.cons ?_) | ((with_reducible refine Step.id ?_); first | ((with_reducible apply Step.gdT); exact rfl; exact rfl; (focus (rfl))) | ((with_reducible apply Step.move); exact rfl; exact rfl) | ((with_reducible apply Step.assign); exact rfl; exact rfl) | ((with_reducible apply Step.load); exact rfl; (focus (decide +kernel)); exact rfl; (focus (assumption))) | ((with_reducible apply Step.ix1z); exact rfl; (focus (exact Sl.mk (by omega))); exact rfl; (focus (decide +kernel)); exact rfl; (focus (omega))) | ((with_reducible apply Step.lss); exact rfl; exact rfl; exact rfl) | ((with_reducible apply Step.not); exact rfl; exact rfl) | ((with_reducible apply Step.pickT); exact rfl; exact rfl; exact rfl; exact rfl; (focus (rfl)))) | (with_reducible refine AWo.nil ?_) | ((with_reducible apply Then.n)) | ((with_reducible apply AW.regL))))
          exact ⟨rfl, (by repeat (first | exact trivial | (refine And.intro rfl ?_)))⟩
      generalize hb0 : (decide (i ∉ P) && decide (X < 0)) = b0
      (repeat (first | (with_reducible refine AWo.cons ?_) | ((with_reducible refine Step.id ?_); first | ((with_reducible apply Step.move); exact rfl; exact rfl) | ((with_reducible apply Step.load); exact rfl; (focus (decide +kernel)); exact rfl; (focus (exact Rd.old _ (hr.at_ 3 rfl)))) | ((with_reducible apply Step.ix (s := 4)); exact rfl; (focus (assumption)); exact rfl; (focus (decide +kernel)); exact rfl; (focus (omega))) | ((with_reducible apply Step.field (k := 3)); exact rfl; (focus (decide +kernel)); exact rfl) | ((with_reducible apply Step.len); exact rfl; (focus (assumption)); (focus (decide +kernel)); exact rfl)) | (with_reducible refine AWo.nil ?_) | ((with_reducible apply AW.seq)) | ((with_reducible apply Then.n)) | ((with_reducible apply AW.regL)) | ((with_reducible apply AW.block))))
      refine AW.loopT (fun n' t L => ∃ q : Nat, n' = l.length - q ∧ q ≤ l.length ∧
        L = [some { cells := bv (plR j.length P) }, gb (iv (nv P)) 1] ∧
        t = [(0, v), (4, gv (m.length + 1) P.length), (5, .slice (some ⟨m.length + 0, 0, none⟩) j.length j.length), (15, .int .i64 (j.length : Nat)), (16, .int .i64 (P.length : Nat)), (6, .int .i64 X), (18, v), (19, .int .i64 (j.length : Nat)), (20, .int .i64 (i : Nat)), (7, .int .i64 (i : Nat)), (8, .bool (b0 && (l.take q).all fun a => decide (a.toNat ∈ P))), (36, w), (37, .int .i64 (l.length : Nat)), (38, .int .i64 (q : Nat))]) ⟨_, [(0, v), (4, gv (m.length + 1) P.length), (5, .slice (some ⟨m.length + 0, 0, none⟩) j.length j.length), (15, .int .i64 (j.length : Nat)), (16, .int .i64 (P.length : Nat)), (6, .int .i64 X), (18, v), (19, .int .i64 (j.length : Nat)), (20, .int .i64 (i : Nat)), (7, .int .i64 (i : Nat)), (8, .bool b0), (36, w), (37, .int .i64 (l.length : Nat)), (38, .int .i64 ((0 : Nat) : Int))], _, (Or.inl ⟨rfl, (by repeat (first | exact trivial | (refine And.intro rfl ?_)))⟩), 0, rfl, Nat.zero_le _, rfl, by simp⟩ ?_
      rintro n' t L ⟨q, rfl, hq, rfl, rfl⟩
      rcases Nat.lt_or_ge q l.length with hlt2 | hge2
      · have hm := hmem (l.getD q 0) (by rw [List.getD_eq_getElem?_getD, List.getElem?_eq_getElem hlt2]; exact List.getElem_mem hlt2)
        have hrq := w3 q hlt2
        have ts := take_snoc l q 0 hlt2
        have al : ((l.take (q + 1)).all fun a => decide (a.toNat ∈ P)) = ((l.take q).all (fun a => decide (a.toNat ∈ P)) && decide ((l.getD q 0).toNat ∈ P)) := by rw [ts, List.all_append]; simp
        obtain ⟨z, hz⟩ := Int.eq_ofNat_of_zero_le hm.1
        have gz := plR_get (n := j.length) (i := z) P (by omega)
        rw [hz] at hrq al
        have hrz : Rd (m ++ [some { cells := bv (plR j.length P) }, gb (iv (nv P)) 1]) (m.length + 0) z (.bool (decide (z ∈ P))) := by
          rw [← gz]; exact Rd.new rfl (bv_get (by omega))
        have hzl : z < j.length := by omega
        have al2 : (b0 && (l.take (q + 1)).all fun a => decide (a.toNat ∈ P)) = ((b0 && (l.take q).all fun a => decide (a.toNat ∈ P)) && decide (z ∈ P)) := by rw [al, Int.toNat_natCast, Bool.and_assoc]
        generalize (b0 && (l.take q).all fun a => decide (a.toNat ∈ P)) = c at *
        cases c with
        | false =>
          (repeat (first | (with_reducible refine AWo.cons ?_) | ((with_reducible refine Step.id ?_); first | ((with_reducible apply Step.gdF); exact rfl; exact rfl; (focus (rfl))) | ((with_reducible apply Step.move); exact rfl; exact rfl) | ((with_reducible apply Step.assign); exact rfl; exact rfl) | ((with_reducible apply Step.load); exact rfl; (focus (decide +kernel)); exact rfl; (focus (exact Rd.old _ (by assumption)))) | ((with_reducible apply Step.ix1); exact rfl; (focus (assumption)); exact rfl; (focus (decide +kernel)); exact rfl; (focus (omega))) | ((with_reducible apply Step.add); exact rfl; exact rfl; (focus (omega)); exact rfl) | ((with_reducible apply Step.lss); exact rfl; exact rfl; exact rfl) | ((with_reducible apply Step.pickF); exact rfl; exact rfl; exact rfl; exact rfl; (focus (rfl)))) | (with_reducible refine AWo.nil ?_) | ((with_reducible apply AW.seq)) | ((with_reducible apply Then.n)) | ((with_reducible apply AW.regL)) | ((with_reducible apply AW.block)) | ((with_reducible apply InBlk.n)) | ((with_reducible apply AW.skip)) | ((with_reducible apply AW.condT); exact rfl; (focus ((simp only [decide_eq_true_eq, decide_eq_false_iff_not, Bool.not_eq_true', Bool.not_eq_false', Bool.not_true, Bool.not_false]; first | assumption | omega))))))
          exact ⟨_, [(0, v), (4, gv (m.length + 1) P.length), (5, .slice (some ⟨m.length + 0, 0, none⟩) j.length j.length), (15, .int .i64 (j.length : Nat)), (16, .int .i64 (P.length : Nat)), (6, .int .i64 X), (18, v), (19, .int .i64 (j.length : Nat)), (20, .int .i64 (i : Nat)), (7, .int .i64 (i : Nat)), (8, .bool false), (36, w), (37, .int .i64 (l.length : Nat)), (38, .int .i64 (q + 1 : Nat))], _, by omega, (Or.inl ⟨rfl, (by repeat (first | exact trivial | (refine And.intro rfl ?_)))⟩), q + 1, rfl, by omega, rfl, by rw [al2]; rfl⟩
        | true =>
          (repeat (first | (with_reducible refine AWo.cons ?_) | ((with_reducible refine Step.id ?_); first | ((with_reducible apply Step.gdT); exact rfl; exact rfl; (focus (rfl))) | ((with_reducible apply Step.move); exact rfl; exact rfl) | ((with_reducible apply Step.assign); exact rfl; exact rfl) | ((with_reducible apply Step.load); exact rfl; (focus (decide +kernel)); exact rfl; (focus (first | assumption | exact Rd.old _ (by assumption)))) | ((with_reducible apply Step.ix1z); exact rfl; (focus (exact Sl.mk (by omega))); exact rfl; (focus (decide +kernel)); exact rfl; (focus (omega))) | ((with_reducible apply Step.ix1); exact rfl; (focus (assumption)); exact rfl; (focus (decide +kernel)); exact rfl; (focus (omega))) | ((with_reducible apply Step.add); exact rfl; exact rfl; (focus (omega)); exact rfl) | ((with_reducible apply Step.lss); exact rfl; exact rfl; exact rfl) | ((with_reducible apply Step.pickT); exact rfl; exact rfl; exact rfl; exact rfl; (focus (rfl)))) | (with_reducible refine AWo.nil ?_) | ((with_reducible apply AW.seq)) | ((with_reducible apply Then.n)) | ((with_reducible apply AW.regL)) | ((with_reducible apply AW.block)) | ((with_reducible apply InBlk.n)) | ((with_reducible apply AW.skip)) | ((with_reducible apply AW.condT); exact rfl; (focus ((simp only [decide_eq_true_eq, decide_eq_false_iff_not, Bool.not_eq_true', Bool.not_eq_false', Bool.not_true, Bool.not_false]; first | assumption | omega))))))
          exact ⟨_, [(0, v), (4, gv (m.length + 1) P.length), (5, .slice (some ⟨m.length + 0, 0, none⟩) j.length j.length), (15, .int .i64 (j.length : Nat)), (16, .int .i64 (P.length : Nat)), (6, .int .i64 X), (18, v), (19, .int .i64 (j.length : Nat)), (20, .int .i64 (i : Nat)), (7, .int .i64 (i : Nat)), (8, .bool (decide (z ∈ P))), (36, w), (37, .int .i64 (l.length : Nat)), (38, .int .i64 (q + 1 : Nat))], _, by omega, (Or.inl ⟨rfl, (by repeat (first | exact trivial | (refine And.intro rfl ?_)))⟩), q + 1, rfl, by omega, rfl, by rw [al2]; rfl⟩
      · obtain rfl : q = l.length := by omega
        rw [List.take_length] at *
        have hfin : (b0 && l.all fun a => decide (a.toNat ∈ P)) = (decide (X < 0) && readyJ j P i) := by
          rw [rdef, ← hb0]
          cases decide (i ∉ P) <;> cases decide (X < 0) <;> simp
        rw [hfin]
        by_cases hX0 : X < 0
        · rw [if_pos hX0] at ix
          rw [decide_eq_true hX0, Bool.true_and]
          cases hrd : readyJ j P i with
          | true =>
            rw [hrd, if_pos rfl] at ix
            (repeat (first | (with_reducible refine AWo.cons ?_) | ((with_reducible refine Step.id ?_); first | ((with_reducible apply Step.move); exact rfl; exact rfl) | ((with_reducible apply Step.assign); exact rfl; exact rfl) | ((with_reducible apply Step.add); exact rfl; exact rfl; (focus (omega)); exact rfl) | ((with_reducible apply Step.lss); exact rfl; exact rfl; exact rfl)) | (with_reducible refine AWo.nil ?_) | ((with_reducible apply AW.seq)) | ((with_reducible apply Then.n)) | ((with_reducible apply AW.regL)) | ((with_reducible apply AW.exit)) | ((with_reducible apply InBlk.n)) | ((with_reducible apply InBlk.hit)) | ((with_reducible apply Then.e)) | ((with_reducible apply AW.condT); exact rfl; (focus (rfl))) | ((with_reducible apply AW.condF); exact rfl; (focus ((simp only [decide_eq_true_eq, decide_eq_false_iff_not, Bool.not_eq_true', Bool.not_eq_false', Bool.not_true, Bool.not_false]; first | assumption | omega))))))
            exact ⟨_, [(0, v), (4, gv (m.length + 1) P.length), (5, .slice (some ⟨m.length + 0, 0, none⟩) j.length j.length), (15, .int .i64 (j.length : Nat)), (16, .int .i64 (P.length : Nat)), (6, .int .i64 (i : Nat)), (18, v), (19, .int .i64 (j.length : Nat)), (20, .int .i64 (i + 1 : Nat))], _, by omega, (Or.inl ⟨rfl, (by repeat (first | exact trivial | (refine And.intro rfl ?_)))⟩), i + 1, rfl, by omega, rfl, by rw [ix]⟩
          | false =>
            rw [hrd, if_neg (by simp)] at ix
            have hX1 : X = -1 := by rw [← hX]; exact (idxF_neg (by rw [hX]; exact hX0)).1
            subst hX1
            (repeat (first | (with_reducible refine AWo.cons ?_) | ((with_reducible refine Step.id ?_); first | ((with_reducible apply Step.move); exact rfl; exact rfl) | ((with_reducible apply Step.add); exact rfl; exact rfl; (focus (omega)); exact rfl) | ((with_reducible apply Step.lss); exact rfl; exact rfl; exact rfl)) | (with_reducible refine AWo.nil ?_) | ((with_reducible apply AW.seq)) | ((with_reducible apply Then.n)) | ((with_reducible apply AW.regL)) | ((with_reducible apply AW.exit)) | ((with_reducible apply InBlk.n)) | ((with_reducible apply InBlk.hit)) | ((with_reducible apply Then.e)) | ((with_reducible apply AW.skip)) | ((with_reducible apply AW.condF); exact rfl; (focus (first | rfl | (simp only [decide_eq_true_eq, decide_eq_false_iff_not, Bool.not_eq_true', Bool.not_eq_false', Bool.not_true, Bool.not_false]; first | assumption | omega))))))
            exact ⟨_, [(0, v), (4, gv (m.length + 1) P.length), (5, .slice (some ⟨m.length + 0, 0, none⟩) j.length j.length), (15, .int .i64 (j.length : Nat)), (16, .int .i64 (P.length : Nat)), (6, .int .i64 (-1)), (18, v), (19, .int .i64 (j.length : Nat)), (20, .int .i64 (i + 1 : Nat))], _, by omega, (Or.inl ⟨rfl, (by repeat (first | exact trivial | (refine And.intro rfl ?_)))⟩), i + 1, rfl, by omega, rfl, by rw [ix]⟩
        · rw [if_neg hX0] at ix
          rw [decide_eq_false hX0, Bool.false_and]
          (repeat (first | (with_reducible refine AWo.cons ?_) | ((with_reducible refine Step.id ?_); first | ((with_reducible apply Step.move); exact rfl; exact rfl) | ((with_reducible apply Step.add); exact rfl; exact rfl; (focus (omega)); exact rfl) | ((with_reducible apply Step.lss); exact rfl; exact rfl; exact rfl)) | (with_reducible refine AWo.nil ?_) | ((with_reducible apply AW.seq)) | ((with_reducible apply Then.n)) | ((with_reducible apply AW.regL)) | ((with_reducible apply AW.exit)) | ((with_reducible apply InBlk.n)) | ((with_reducible apply InBlk.hit)) | ((with_reducible apply Then.e)) | ((with_reducible apply AW.skip)) | ((with_reducible apply AW.condF); exact rfl; (focus (first | rfl | (simp only [decide_eq_true_eq, decide_eq_false_iff_not, Bool.not_eq_true', Bool.not_eq_false', Bool.not_true, Bool.not_false]; first | assumption | omega))))))
          exact ⟨_, [(0, v), (4, gv (m.length + 1) P.length), (5, .slice (some ⟨m.length + 0, 0, none⟩) j.length j.length), (15, .int .i64 (j.length : Nat)), (16, .int .i64 (P.length : Nat)), (6, .int .i64 X), (18, v), (19, .int .i64 (j.length : Nat)), (20, .int .i64 (i + 1 : Nat))], _, by omega, (Or.inl ⟨rfl, (by repeat (first | exact trivial | (refine And.intro rfl ?_)))⟩), i + 1, rfl, by omega, rfl, by rw [ix]⟩
    · obtain rfl : i = j.length := by omega
      by_cases hX0 : idxF (readyJ j P) j.length < 0
      · (repeat (first | (with_reducible refine AWo.cons ?_) | ((with_reducible refine Step.id ?_); first | ((with_reducible apply Step.move); exact rfl; exact rfl) | ((with_reducible apply Step.assign); exact rfl; exact rfl) | ((with_reducible apply Step.lss); exact rfl; exact rfl; exact rfl)) | (with_reducible refine AWo.nil ?_) | ((with_reducible apply AW.seq)) | ((with_reducible apply Then.n)) | ((with_reducible apply AW.regL)) | ((with_reducible apply AW.exit)) | ((with_reducible apply InBlk.hit)) | ((with_reducible apply Then.e)) | ((with_reducible apply AW.condT); exact rfl; (focus ((simp only [decide_eq_true_eq, decide_eq_false_iff_not, Bool.not_eq_true', Bool.not_eq_false', Bool.not_true, Bool.not_false]; first | assumption | omega)))) | ((with_reducible apply AW.condF); exact rfl; (focus ((simp only [decide_eq_true_eq, decide_eq_false_iff_not, Bool.not_eq_true', Bool.not_eq_false', Bool.not_true, Bool.not_false]; first | assumption | omega))))))
        (refine AW.retD (l := [(2, _), (3, _)]) (by repeat (first | exact trivial | (refine And.intro ⟨rfl, by (first | exact .bool _ | exact Ren.of_g0 rfl)⟩ ?_))) ?_; (repeat (first | refine Then.r ?_ | refine InBlk.r ?_)))
        exact ⟨_, rfl, rfl, rfl⟩
      · obtain ⟨k, hk, hkl, hk1, hk0⟩ := idxF_pos (pr := readyJ j P) (n := j.length) (by omega)
        rw [hk] at *
        have st := sortF_some (j := j) (P := P) hkl hk0 hk1 (j.length - P.length - 1)
        rw [show j.length - P.length - 1 + 1 = j.length - P.length by omega, hsort] at st
        have hset := plR_set (n := j.length) (i := k) P
        have hln := nv_len P
        have hli := iv_len (nv P)
        have hnl : (iv (nv P)).length = P.length * 1 := by omega
        have hg0 : ∀ v ∈ iv (nv P) ++ [Value.int .i64 ((k : Nat) : Int)], g0 v = true := fun v hv => by
          rcases List.mem_append.1 hv with h | h
          · exact g0_iv _ v h
          · obtain rfl : v = Value.int .i64 ((k : Nat) : Int) := by simpa using h
            rfl
        (repeat (first | (with_reducible refine AWo.cons ?_) | ((with_reducible refine Step.id ?_); first | ((with_reducible apply Step.move); exact rfl; exact rfl) | ((with_reducible apply Step.ix1z); exact rfl; (focus (exact Sl.mk (by omega))); exact rfl; (focus (decide +kernel)); exact rfl; (focus (omega))) | ((with_reducible apply Step.lss); exact rfl; exact rfl; exact rfl) | ((with_reducible apply Step.store (k := 0)); exact rfl; exact rfl; exact rfl; exact rfl; (focus (decide +kernel)); exact rfl; exact rfl; (focus (first | omega | (simp [iv, bv]; done) | (simp [iv, bv]; omega))); (focus (first | (simp only [List.nil_append, List.cons_append, List.set_cons_zero, List.set_cons_succ, iv_set, bv_set, iv_rep, bv_rep]; done) | (simp only [List.nil_append, List.cons_append, List.set_cons_zero, List.set_cons_succ, iv_set, bv_set, iv_rep, bv_rep]; rfl) | rfl))) | ((with_reducible apply Step.buildS 2); exact rfl; exact rfl; exact (fun _ _ => bs23x); exact rfl; (focus (first | (simp only [List.nil_append, List.cons_append, List.set_cons_zero, List.set_cons_succ, iv_set, bv_set, iv_rep, bv_rep]; done) | (simp only [List.nil_append, List.cons_append, List.set_cons_zero, List.set_cons_succ, iv_set, bv_set, iv_rep, bv_rep]; rfl) | rfl)))) | (with_reducible refine AWo.nil ?_) | ((with_reducible apply AW.seq)) | ((with_reducible apply Then.n)) | ((with_reducible apply AW.regL)) | ((with_reducible apply AW.exit)) | ((with_reducible apply InBlk.hit)) | ((with_reducible apply Then.e)) | ((with_reducible apply AW.skip)) | ((with_reducible apply AW.condF); exact rfl; (focus (first | rfl | (simp only [decide_eq_true_eq, decide_eq_false_iff_not, Bool.not_eq_true', Bool.not_eq_false', Bool.not_true, Bool.not_false]; first | assumption | omega))))))
        ((with_reducible apply Step.appG (k := 3)); exact rfl; exact rfl; exact rfl; exact el23; exact un23; exact rfl; exact rfl; exact rfl; exact hnl; exact rfl; exact rfl; exact rfl; (focus (omega)); exact rfl; (focus (first | (simp only [List.nil_append, List.cons_append, List.set_cons_zero, List.set_cons_succ, iv_set, bv_set, iv_rep, bv_rep]; done) | (simp only [List.nil_append, List.cons_append, List.set_cons_zero, List.set_cons_succ, iv_set, bv_set, iv_rep, bv_rep]; rfl) | rfl)))
        (repeat (first | (with_reducible refine AWo.cons ?_) | ((with_reducible refine Step.id ?_); first | ((with_reducible apply Step.move); exact rfl; exact rfl) | ((with_reducible apply Step.assign); exact rfl; exact rfl) | ((with_reducible apply Step.add); exact rfl; exact rfl; (focus (omega)); exact rfl)) | (with_reducible refine AWo.nil ?_) | ((with_reducible apply Then.n)) | ((with_reducible apply AW.regL)) | ((with_reducible apply InBlk.n))))
        refine ⟨_, [(0, v), (4, .slice (some ⟨m.length + 1, 0, none⟩) (P.length + 1) (P.length + 1)), (5, .slice (some ⟨m.length + 0, 0, none⟩) j.length j.length), (15, .int .i64 (j.length : Nat)), (16, .int .i64 (P.length + 1 : Nat))], [some { cells := bv ((plR j.length P).set k true) }, some { cells := iv (nv P) ++ [.int .i64 ((k : Nat) : Int)], kind := .grow, size := 1 }], ?_, (Back.mvC 1 3 rfl rfl rfl rfl (by intro j b hj h; rcases j with _ | _ | _ | _ | _ | _ | _ | _ | j <;> first | exact absurd rfl hj | exact h | (simp at h; done)) (by repeat (first | exact CellsP.nil | (refine CellsP.cons ?_ ?_; (focus (first | exact cells_bv _ | exact cells_g0 (by assumption)))))) (by repeat (first | exact trivial | (refine And.intro ⟨_, rfl, by (first | exact .int _ _ | exact Ren.slice_mv (by first | (simp; done) | omega | (simp; omega)) | exact Ren.slice_ne (by first | (simp; done) | omega | (simp; omega)) (by omega) | exact Ren.of_sl_ne (by assumption) (by first | omega | (simp; omega)) (by first | omega | (simp; omega)))⟩ ?_)))), P ++ [k], rfl, ?_, ?_, ?_, ?_⟩
        · simp; omega
        · simp; omega
        · rw [List.length_append, List.length_singleton, show j.length - (P.length + 1) = j.length - P.length - 1 by omega]; exact st.symm
        · rw [hset, nv_snoc, gb_pos (by simp [iv])]
          simp [iv]
        · rw [gv_pos (by simp)]; simp
theorem after_len {j : List Job} (h : JOk j) : ∀ k, k < j.length → (j.getD k default).after.length ≤ 9223372036854775807 := fun k hk => by
  have := h.alen hk
  have := h.len
  simp only [aft] at *
  omega
/-- The Afters are no longer than slices can be. -/
def Short (j : List Job) : Prop := j.length ≤ 9223372036854775807 ∧ ∀ k, k < j.length → (j.getD k default).after.length ≤ 9223372036854775807
set_option maxRecDepth 100000 in
theorem checked_ok {m : AM} {v : Value} {j : List Job} (hj : Jobs m v j) (hok : jobsB j = true) (hn : (sortL j).length = j.length) : ACall Try.prog 78 #[v] m (NewT (fun N => .tuple #[gv N j.length, .int .i64 0]) (gb (iv (nv (sortL j))) 1) m) := by
  have hJ := JOk.of hok
  have h40 := hJ.len
  obtain ⟨a, o, h1, h2, h3⟩ := id hj
  have so := sort_ok' (m := m ++ []) (hj.old []) hJ rfl
  rw [hn] at so
  refine ACall.start Try.func78 rfl rfl ?_
  (repeat (first | (with_reducible refine AWo.cons ?_) | ((with_reducible refine Step.id ?_); first | ((with_reducible apply Step.move); exact rfl; exact rfl) | ((with_reducible apply Step.assign); exact rfl; exact rfl) | ((with_reducible apply Step.lss); exact rfl; exact rfl; exact rfl) | ((with_reducible apply Step.len); exact rfl; (focus (first | assumption | exact gv_sl _ _)); (focus (decide +kernel)); exact rfl) | ((with_reducible apply Step.not); exact rfl; exact rfl) | ((with_reducible apply Step.callR fit); exact rfl; exact Try.func88; exact rfl; exact rfl; exact (jobs_ok (hj.old []) (after_len hJ) (by omega) hok)) | ((with_reducible apply Step.callG fit (k := 0)); exact rfl; exact rfl; exact Try.func106; exact rfl; exact rfl; exact (so); (focus (first | (simp only [List.nil_append, List.cons_append, List.set_cons_zero, List.set_cons_succ, iv_set, bv_set, iv_rep, bv_rep]; done) | (simp only [List.nil_append, List.cons_append, List.set_cons_zero, List.set_cons_succ, iv_set, bv_set, iv_rep, bv_rep]; rfl) | rfl)))) | (with_reducible refine AWo.nil ?_) | ((with_reducible apply AW.seq)) | ((with_reducible apply Then.n)) | ((with_reducible apply AW.regL)) | ((with_reducible apply AW.skip)) | ((with_reducible apply AW.condF); exact rfl; (focus (first | rfl | (simp only [decide_eq_true_eq, decide_eq_false_iff_not, Bool.not_eq_true', Bool.not_eq_false', Bool.not_true, Bool.not_false]; first | assumption | omega))))))
  refine AW.retB (l := [(2, gv (m.length + 0) j.length), (3, .int .i64 0)]) (L1 := [gb (iv (nv (sortL j))) 1]) (Back.trimC rfl rfl (by repeat (first | exact CellsP.nil | (refine CellsP.gb ?_ ?_; (focus (exact cells_iv _))))) (by repeat (first | exact trivial | (refine And.intro ⟨rfl, by (first | exact .int _ _ | exact Ren.of_gv (by first | (simp; done) | omega | (simp; omega)))⟩ ?_)))) ?_
  exact ⟨_, rfl, rfl, rfl⟩
set_option maxRecDepth 100000 in
theorem checked_arg {m : AM} {v : Value} {j : List Job} (hj : Jobs m v j) (hs : Short j) (hok : jobsB j = false) : ACall Try.prog 78 #[v] m (Ret (.tuple #[.slice none 0 0, .int .i64 2]) m) := by
  refine ACall.start Try.func78 rfl rfl ?_
  (repeat (first | (with_reducible refine AWo.cons ?_) | ((with_reducible refine Step.id ?_); first | ((with_reducible apply Step.move); exact rfl; exact rfl) | ((with_reducible apply Step.assign); exact rfl; exact rfl) | ((with_reducible apply Step.not); exact rfl; exact rfl) | ((with_reducible apply Step.callR fit); exact rfl; exact Try.func88; exact rfl; exact rfl; exact (jobs_ok (hj.old []) hs.2 hs.1 hok))) | (with_reducible refine AWo.nil ?_) | ((with_reducible apply AW.seq)) | ((with_reducible apply Then.n)) | ((with_reducible apply AW.regL)) | ((with_reducible apply AW.condT); exact rfl; (focus (rfl)))))
  (refine AW.retD (l := [(2, _), (3, _)]) (by repeat (first | exact trivial | (refine And.intro ⟨rfl, by (first | exact .int _ _ | exact Ren.of_g0 rfl)⟩ ?_))) ?_; (repeat (first | refine Then.r ?_ | refine InBlk.r ?_)))
  exact ⟨_, rfl, rfl, rfl⟩
set_option maxRecDepth 100000 in
theorem checked_loop {m : AM} {v : Value} {j : List Job} (hj : Jobs m v j) (hok : jobsB j = true) (hn : (sortL j).length ≠ j.length) : ACall Try.prog 78 #[v] m (Ret (.tuple #[.slice none 0 0, .int .i64 10]) m) := by
  have hJ := JOk.of hok
  have h40 := hJ.len
  obtain ⟨a, o, h1, h2, h3⟩ := id hj
  have so := sort_ok' (m := m ++ []) (hj.old []) hJ rfl
  have hlt : (sortL j).length < j.length := by
    have := sortF_len j j.length []
    simp only [List.length_nil, Nat.add_zero] at this
    unfold sortL at *
    omega
  refine ACall.start Try.func78 rfl rfl ?_
  (repeat (first | (with_reducible refine AWo.cons ?_) | ((with_reducible refine Step.id ?_); first | ((with_reducible apply Step.move); exact rfl; exact rfl) | ((with_reducible apply Step.assign); exact rfl; exact rfl) | ((with_reducible apply Step.lss); exact rfl; exact rfl; exact rfl) | ((with_reducible apply Step.len); exact rfl; (focus (first | assumption | exact gv_sl _ _)); (focus (decide +kernel)); exact rfl) | ((with_reducible apply Step.not); exact rfl; exact rfl) | ((with_reducible apply Step.callR fit); exact rfl; exact Try.func88; exact rfl; exact rfl; exact (jobs_ok (hj.old []) (after_len hJ) (by omega) hok)) | ((with_reducible apply Step.callG fit (k := 0)); exact rfl; exact rfl; exact Try.func106; exact rfl; exact rfl; exact (so); (focus (first | (simp only [List.nil_append, List.cons_append, List.set_cons_zero, List.set_cons_succ, iv_set, bv_set, iv_rep, bv_rep]; done) | (simp only [List.nil_append, List.cons_append, List.set_cons_zero, List.set_cons_succ, iv_set, bv_set, iv_rep, bv_rep]; rfl) | rfl)))) | (with_reducible refine AWo.nil ?_) | ((with_reducible apply AW.seq)) | ((with_reducible apply Then.n)) | ((with_reducible apply AW.regL)) | ((with_reducible apply AW.skip)) | ((with_reducible apply AW.condT); exact rfl; (focus ((simp only [decide_eq_true_eq, decide_eq_false_iff_not, Bool.not_eq_true', Bool.not_eq_false', Bool.not_true, Bool.not_false]; first | assumption | omega)))) | ((with_reducible apply AW.condF); exact rfl; (focus (rfl)))))
  (refine AW.retD (l := [(2, _), (3, _)]) (by repeat (first | exact trivial | (refine And.intro ⟨rfl, by (first | exact .int _ _ | exact Ren.of_g0 rfl)⟩ ?_))) ?_; (repeat (first | refine Then.r ?_ | refine InBlk.r ?_)))
  exact ⟨_, rfl, rfl, rfl⟩
/-- The error of jobs. -/
def errJ (j : List Job) : Int := if jobsB j = true then if (sortL j).length = j.length then 0 else 10 else 2
set_option maxRecDepth 100000 in
theorem Rchecked_ok {m : AM} {v : Value} {j : List Job} (hj : Jobs m v j) (hs : Short j) {e : Int} (he : errJ j = e) : ACall Try.prog 86 #[v] m (Ret (.int .i64 e) m) := by
  subst he
  obtain ⟨a, o, h1, h2, h3⟩ := id hj
  refine ACall.start Try.func86 rfl rfl ?_
  cases hok : jobsB j with
  | false =>
    (repeat (first | (with_reducible refine AWo.cons ?_) | ((with_reducible refine Step.id ?_); first | ((with_reducible apply Step.move); exact rfl; exact rfl) | ((with_reducible apply Step.assign); exact rfl; exact rfl) | ((with_reducible apply Step.not); exact rfl; exact rfl) | ((with_reducible apply Step.callR fit); exact rfl; exact Try.func44; exact rfl; exact rfl; exact (RJobs_ok (hj.old []) hs.2 hs.1 hok))) | (with_reducible refine AWo.nil ?_) | ((with_reducible apply AW.seq)) | ((with_reducible apply Then.n)) | ((with_reducible apply AW.regL)) | ((with_reducible apply AW.condT); exact rfl; (focus (rfl)))))
    (refine AW.retD (l := [(2, _)]) (by repeat (first | exact trivial | (refine And.intro ⟨rfl, by (exact .int _ _)⟩ ?_))) ?_; (repeat (first | refine Then.r ?_ | refine InBlk.r ?_)))
    exact ⟨_, rfl, by simp [errJ, hok], rfl⟩
  | true =>
    by_cases hn : (sortL j).length = j.length
    · (repeat (first | (with_reducible refine AWo.cons ?_) | ((with_reducible refine Step.id ?_); first | ((with_reducible apply Step.move); exact rfl; exact rfl) | ((with_reducible apply Step.assign); exact rfl; exact rfl) | ((with_reducible apply Step.not); exact rfl; exact rfl) | ((with_reducible apply Step.extract); exact rfl; exact rfl; exact rfl) | ((with_reducible apply Step.callR fit); exact rfl; exact Try.func44; exact rfl; exact rfl; exact (RJobs_ok (hj.old []) hs.2 hs.1 hok)) | ((with_reducible apply Step.callT fit (k := 0)); exact rfl; exact rfl; exact Try.func96; exact rfl; exact rfl; exact (RSorted_ok (hj.old []) (JOk.of hok) rfl hn); (focus (first | (simp only [List.nil_append, List.cons_append, List.set_cons_zero, List.set_cons_succ, iv_set, bv_set, iv_rep, bv_rep]; done) | (simp only [List.nil_append, List.cons_append, List.set_cons_zero, List.set_cons_succ, iv_set, bv_set, iv_rep, bv_rep]; rfl) | rfl)))) | (with_reducible refine AWo.nil ?_) | ((with_reducible apply AW.seq)) | ((with_reducible apply Then.n)) | ((with_reducible apply AW.regL)) | ((with_reducible apply AW.skip)) | ((with_reducible apply AW.condF); exact rfl; (focus (rfl)))))
      (refine AW.retD (l := [(2, _)]) (by repeat (first | exact trivial | (refine And.intro ⟨rfl, by (exact .int _ _)⟩ ?_))) ?_; (repeat (first | refine Then.r ?_ | refine InBlk.r ?_)))
      exact ⟨_, rfl, by simp [errJ, hok, hn], rfl⟩
    · (repeat (first | (with_reducible refine AWo.cons ?_) | ((with_reducible refine Step.id ?_); first | ((with_reducible apply Step.move); exact rfl; exact rfl) | ((with_reducible apply Step.assign); exact rfl; exact rfl) | ((with_reducible apply Step.not); exact rfl; exact rfl) | ((with_reducible apply Step.extract); exact rfl; exact rfl; exact rfl) | ((with_reducible apply Step.callR fit); exact rfl; exact Try.func44; exact rfl; exact rfl; exact (RJobs_ok (hj.old []) hs.2 hs.1 hok)) | ((with_reducible apply Step.callR fit); exact rfl; exact Try.func96; exact rfl; exact rfl; exact (RSorted_no (hj.old []) (JOk.of hok) rfl hn))) | (with_reducible refine AWo.nil ?_) | ((with_reducible apply AW.seq)) | ((with_reducible apply Then.n)) | ((with_reducible apply AW.regL)) | ((with_reducible apply AW.skip)) | ((with_reducible apply AW.condT); exact rfl; (focus (rfl))) | ((with_reducible apply AW.condF); exact rfl; (focus (rfl)))))
      (refine AW.retD (l := [(2, _)]) (by repeat (first | exact trivial | (refine And.intro ⟨rfl, by (exact .int _ _)⟩ ?_))) ?_; (repeat (first | refine Then.r ?_ | refine InBlk.r ?_)))
      exact ⟨_, rfl, by simp [errJ, hok, hn], rfl⟩
set_option maxRecDepth 100000 in
theorem Sorted_ok {m : AM} {v : Value} {j : List Job} (hj : Jobs m v j) (hok : jobsB j = true) (hn : (sortL j).length = j.length) : ACall Try.prog 43 #[v] m (NewT (fun N => .tuple #[gv N j.length, .int .i64 0]) (gb (iv (nv (sortL j))) 1) m) := by
  refine ACall.start Try.func43 rfl rfl ?_
  (repeat (first | (with_reducible refine AWo.cons ?_) | ((with_reducible refine Step.id ?_); first | ((with_reducible apply Step.move); exact rfl; exact rfl) | ((with_reducible apply Step.assign); exact rfl; exact rfl) | ((with_reducible apply Step.extract); exact rfl; exact rfl; exact rfl) | ((with_reducible apply Step.callT fit (k := 0)); exact rfl; exact rfl; exact Try.func78; exact rfl; exact rfl; exact (checked_ok (hj.old []) hok hn); (focus (first | (simp only [List.nil_append, List.cons_append, List.set_cons_zero, List.set_cons_succ, iv_set, bv_set, iv_rep, bv_rep]; done) | (simp only [List.nil_append, List.cons_append, List.set_cons_zero, List.set_cons_succ, iv_set, bv_set, iv_rep, bv_rep]; rfl) | rfl)))) | (with_reducible refine AWo.nil ?_) | ((with_reducible apply AW.seq)) | ((with_reducible apply Then.n)) | ((with_reducible apply AW.regL))))
  (refine AW.retB (l := [(2, _), (3, _)]) (Or.inl ⟨rfl, (by repeat (first | exact trivial | (refine And.intro rfl ?_)))⟩) ?_; (repeat (first | refine Then.r ?_ | refine InBlk.r ?_)))
  exact ⟨_, rfl, rfl, rfl⟩
set_option maxRecDepth 100000 in
theorem Sorted_no {m : AM} {v : Value} {e : Int} (h : ∀ L, ACall Try.prog 78 #[v] (m ++ L) (Ret (.tuple #[.slice none 0 0, .int .i64 e]) (m ++ L))) : ACall Try.prog 43 #[v] m (Ret (.tuple #[.slice none 0 0, .int .i64 e]) m) := by
  refine ACall.start Try.func43 rfl rfl ?_
  (repeat (first | (with_reducible refine AWo.cons ?_) | ((with_reducible refine Step.id ?_); first | ((with_reducible apply Step.move); exact rfl; exact rfl) | ((with_reducible apply Step.assign); exact rfl; exact rfl) | ((with_reducible apply Step.extract); exact rfl; exact rfl; exact rfl) | ((with_reducible apply Step.callR fit); exact rfl; exact Try.func78; exact rfl; exact rfl; exact (h []))) | (with_reducible refine AWo.nil ?_) | ((with_reducible apply AW.seq)) | ((with_reducible apply Then.n)) | ((with_reducible apply AW.regL))))
  (refine AW.retD (l := [(2, _), (3, _)]) (by repeat (first | exact trivial | (refine And.intro ⟨rfl, by (first | exact .int _ _ | exact Ren.of_g0 rfl)⟩ ?_))) ?_; (repeat (first | refine Then.r ?_ | refine InBlk.r ?_)))
  exact ⟨_, rfl, rfl, rfl⟩
set_option maxRecDepth 100000 in
theorem RSort_ok {m : AM} {v : Value} {j : List Job} (hj : Jobs m v j) (hs : Short j) (hok : jobsB j = true) (hn : (sortL j).length = j.length) : ACall Try.prog 59 #[v] m (NewT (fun N => .tuple #[gv N j.length, .int .i64 0]) (gb (iv (nv (sortL j))) 1) m) := by
  have e0 : errJ j = 0 := by simp [errJ, hok, hn]
  have rs := RSorted_ok (m := m ++ []) (hj.old []) (JOk.of hok) rfl hn
  rw [hn] at rs
  refine ACall.start Try.func59 rfl rfl ?_
  (repeat (first | (with_reducible refine AWo.cons ?_) | ((with_reducible refine Step.id ?_); first | ((with_reducible apply Step.move); exact rfl; exact rfl) | ((with_reducible apply Step.assign); exact rfl; exact rfl) | ((with_reducible apply Step.neq); exact rfl; exact rfl; exact rfl) | ((with_reducible apply Step.extract); exact rfl; exact rfl; exact rfl) | ((with_reducible apply Step.callR fit); exact rfl; exact Try.func86; exact rfl; exact rfl; exact (Rchecked_ok (hj.old []) hs e0)) | ((with_reducible apply Step.callT fit (k := 0)); exact rfl; exact rfl; exact Try.func96; exact rfl; exact rfl; exact (rs); (focus (first | (simp only [List.nil_append, List.cons_append, List.set_cons_zero, List.set_cons_succ, iv_set, bv_set, iv_rep, bv_rep]; done) | (simp only [List.nil_append, List.cons_append, List.set_cons_zero, List.set_cons_succ, iv_set, bv_set, iv_rep, bv_rep]; rfl) | rfl)))) | (with_reducible refine AWo.nil ?_) | ((with_reducible apply AW.seq)) | ((with_reducible apply Then.n)) | ((with_reducible apply AW.regL)) | ((with_reducible apply AW.skip)) | ((with_reducible apply AW.condF); exact rfl; (focus (rfl)))))
  refine AW.retB (l := [(2, gv (m.length + 0) j.length), (3, .int .i64 0)]) (L1 := [gb (iv (nv (sortL j))) 1]) (Back.trimC rfl rfl (by repeat (first | exact CellsP.nil | (refine CellsP.gb ?_ ?_; (focus (exact cells_iv _))))) (by repeat (first | exact trivial | (refine And.intro ⟨rfl, by (first | exact .int _ _ | exact Ren.of_gv (by first | (simp; done) | omega | (simp; omega)))⟩ ?_)))) ?_
  exact ⟨_, rfl, rfl, rfl⟩
set_option maxRecDepth 100000 in
theorem RSort_no {m : AM} {v : Value} {j : List Job} (hj : Jobs m v j) (hs : Short j) {e : Int} (he : errJ j = e) (hne : e ≠ 0) : ACall Try.prog 59 #[v] m (Ret (.tuple #[.slice none 0 0, .int .i64 e]) m) := by
  refine ACall.start Try.func59 rfl rfl ?_
  (repeat (first | (with_reducible refine AWo.cons ?_) | ((with_reducible refine Step.id ?_); first | ((with_reducible apply Step.move); exact rfl; exact rfl) | ((with_reducible apply Step.assign); exact rfl; exact rfl) | ((with_reducible apply Step.neq); exact rfl; exact rfl; exact rfl) | ((with_reducible apply Step.callR fit); exact rfl; exact Try.func86; exact rfl; exact rfl; exact (Rchecked_ok (hj.old []) hs he))) | (with_reducible refine AWo.nil ?_) | ((with_reducible apply AW.seq)) | ((with_reducible apply Then.n)) | ((with_reducible apply AW.regL)) | ((with_reducible apply AW.condT); exact rfl; (focus ((simp only [decide_eq_true_eq, decide_eq_false_iff_not, Bool.not_eq_true', Bool.not_eq_false', Bool.not_true, Bool.not_false]; first | assumption | omega))))))
  (refine AW.retD (l := [(2, _), (3, _)]) (by repeat (first | exact trivial | (refine And.intro ⟨rfl, by (first | exact .int _ _ | exact Ren.of_g0 rfl)⟩ ?_))) ?_; (repeat (first | refine Then.r ?_ | refine InBlk.r ?_)))
  exact ⟨_, rfl, rfl, rfl⟩
end Go.Proofs.Ytmomjannlnafcaa.Abs
namespace Go.Proofs.Ytmomjannlnafcaa.Abs
set_option linter.unusedSimpArgs false
set_option linter.unusedVariables false
open Go.RowKit
open Go.Proofs.Ytmomjannlnafcaa.Sim
open Go.Proofs
set_option maxRecDepth 100000 in
theorem clone_nil {m : AM} : ACall Try.prog 77 #[.slice none 0 0] m (Ret (.slice none 0 0) m) := by
  refine ACall.start Try.func77 rfl rfl ?_
  (repeat (first | (with_reducible refine AWo.cons ?_) | ((with_reducible refine Step.id ?_); first | ((with_reducible apply Step.move); exact rfl; exact rfl) | ((with_reducible apply Step.assign); exact rfl; exact rfl) | ((with_reducible apply Step.nilNil); exact rfl; exact rfl; exact un23; exact rfl)) | (with_reducible refine AWo.nil ?_) | ((with_reducible apply AW.seq)) | ((with_reducible apply Then.n)) | ((with_reducible apply AW.regL)) | ((with_reducible apply AW.condT); exact rfl; (focus (rfl)))))
  (refine AW.retD (l := [(2, _)]) (by repeat (first | exact trivial | (refine And.intro ⟨rfl, by (exact Ren.of_g0 rfl)⟩ ?_))) ?_; (repeat (first | refine Then.r ?_ | refine InBlk.r ?_)))
  exact ⟨_, rfl, rfl, rfl⟩
set_option maxRecDepth 100000 in
theorem clone_empty {m : AM} {a o c : Nat} {q : Addr} (h1 : Sl (.slice (some q) 0 c) a o 0) : ACall Try.prog 77 #[.slice (some q) 0 c] m (New (some { cells := [] }) 0 m) := by
  refine ACall.start Try.func77 rfl rfl ?_
  (repeat (first | (with_reducible refine AWo.cons ?_) | ((with_reducible refine Step.id ?_); first | ((with_reducible apply Step.move); exact rfl; exact rfl) | ((with_reducible apply Step.assign); exact rfl; exact rfl) | ((with_reducible apply Step.eqNil); exact rfl; exact rfl; exact un23; exact rfl) | ((with_reducible apply Step.buildS 0); exact rfl; exact rfl; exact (fun _ _ => bs23); exact rfl; (focus (first | (simp only [List.nil_append, List.cons_append, List.set_cons_zero, List.set_cons_succ, iv_set, bv_set, iv_rep, bv_rep]; done) | (simp only [List.nil_append, List.cons_append, List.set_cons_zero, List.set_cons_succ, iv_set, bv_set, iv_rep, bv_rep]; rfl) | rfl)))) | (with_reducible refine AWo.nil ?_) | ((with_reducible apply AW.seq)) | ((with_reducible apply Then.n)) | ((with_reducible apply AW.regL)) | ((with_reducible apply AW.skip)) | ((with_reducible apply AW.condF); exact rfl; (focus (rfl)))))
  ((with_reducible apply Step.app0 (k := 1)); exact rfl; exact rfl; exact rfl; exact el23; exact un23; exact rfl; exact rfl; (focus (first | (simp only [List.nil_append, List.cons_append, List.set_cons_zero, List.set_cons_succ, iv_set, bv_set, iv_rep, bv_rep]; done) | (simp only [List.nil_append, List.cons_append, List.set_cons_zero, List.set_cons_succ, iv_set, bv_set, iv_rep, bv_rep]; rfl) | rfl)))
  (repeat (first | (with_reducible refine AWo.cons ?_) | ((with_reducible refine Step.id ?_); ((with_reducible apply Step.assign); exact rfl; exact rfl)) | (with_reducible refine AWo.nil ?_) | ((with_reducible apply Then.n))))
  refine AW.retB (l := [(2, _)]) (L1 := [some { cells := [] }]) (Back.trim rfl rfl (by repeat (first | exact CellsOk.nil | refine CellsOk.cons (by (intro v hv; simp at hv; done)) ?_)) (by repeat (first | exact trivial | (refine And.intro ⟨rfl, by (exact .slice _ _ _ _ (by first | (simp; done) | omega | (simp; omega)))⟩ ?_)))) ?_
  exact ⟨_, rfl, rfl, rfl⟩
set_option maxRecDepth 100000 in
theorem clone_pos {m : AM} {v : Value} {l : List Int} (hl : Ints m v l) (hpos : 0 < l.length) (hlen : l.length ≤ 1000000) : ACall Try.prog 77 #[v] m (New (some { cells := iv l, kind := .grow, size := 1 }) l.length m) := by
  obtain ⟨a, o, h1, h2, h3⟩ := hl
  refine ACall.start Try.func77 rfl rfl ?_
  rcases h1 with ⟨rfl, hn⟩ | ⟨c, hc, rfl⟩ | ⟨hn, _⟩
  · omega
  · have hr := ints_rdl (by omega) h3
    (repeat (first | (with_reducible refine AWo.cons ?_) | ((with_reducible refine Step.id ?_); first | ((with_reducible apply Step.move); exact rfl; exact rfl) | ((with_reducible apply Step.assign); exact rfl; exact rfl) | ((with_reducible apply Step.eqNil); exact rfl; exact rfl; exact un23; exact rfl) | ((with_reducible apply Step.buildS 0); exact rfl; exact rfl; exact (fun _ _ => bs23); exact rfl; (focus (first | (simp only [List.nil_append, List.cons_append, List.set_cons_zero, List.set_cons_succ, iv_set, bv_set, iv_rep, bv_rep]; done) | (simp only [List.nil_append, List.cons_append, List.set_cons_zero, List.set_cons_succ, iv_set, bv_set, iv_rep, bv_rep]; rfl) | rfl)))) | (with_reducible refine AWo.nil ?_) | ((with_reducible apply AW.seq)) | ((with_reducible apply Then.n)) | ((with_reducible apply AW.regL)) | ((with_reducible apply AW.skip)) | ((with_reducible apply AW.condF); exact rfl; (focus (rfl)))))
    ((with_reducible apply Step.appE (k := 1)); exact rfl; exact rfl; exact rfl; exact el23; exact un23; exact rfl; exact rfl; exact (hr.old _); (focus (simp [iv])); (focus (omega)); exact (iv_one _); (focus (omega)); exact rfl; (focus (first | (simp only [List.nil_append, List.cons_append, List.set_cons_zero, List.set_cons_succ, iv_set, bv_set, iv_rep, bv_rep]; done) | (simp only [List.nil_append, List.cons_append, List.set_cons_zero, List.set_cons_succ, iv_set, bv_set, iv_rep, bv_rep]; rfl) | rfl)))
    (repeat (first | (with_reducible refine AWo.cons ?_) | ((with_reducible refine Step.id ?_); ((with_reducible apply Step.assign); exact rfl; exact rfl)) | (with_reducible refine AWo.nil ?_) | ((with_reducible apply Then.n))))
    refine AW.retB (l := [(2, .slice (some ⟨m.length + 0, 0, none⟩) l.length l.length)]) (L1 := [some { cells := iv l, kind := .grow, size := 1 }]) (Back.mv 0 1 rfl rfl rfl rfl (by intro j b hj h; rcases j with _ | _ | _ | _ | _ | _ | j <;> simp_all) (by repeat (first | exact CellsOk.nil | refine CellsOk.cons (by exact g0_iv _) ?_)) (by repeat (first | exact trivial | (refine And.intro ⟨_, rfl, by (exact Ren.slice_mv (by first | (simp; done) | omega | (simp; omega)))⟩ ?_)))) ?_
    exact ⟨_, rfl, rfl, rfl⟩
  · omega
theorem bl87 {x y z : Int} {q : Option Addr} {n c : Nat} : abuild Try.prog 87 [(0, .int .i64 x), (1, .int .i64 y), (2, .int .i64 z), (3, .slice q n c)] = some (.agg #[.int .i64 x, .int .i64 y, .int .i64 z, .slice q n c]) := by kernel_rfl
theorem bs51 {m : AM} {k : Nat} {x y z : Int} {q : Option Addr} {n c : Nat} : abuildSlice Try.prog m k 51 1 [(0, .agg #[.int .i64 x, .int .i64 y, .int .i64 z, .slice q n c])] = some (.slice (some ⟨k, 0, none⟩) 1 1, m.set k (some { cells := [.int .i64 x, .int .i64 y, .int .i64 z, .slice q n c] })) := by kernel_rfl
theorem el51 : elemB Try.prog 51 = some (87, 4, 48, #[.int .i64 0, .int .i64 0, .int .i64 0, .slice none 0 0]) := by kernel_rfl
theorem sz3 : szB Try.prog 3 = some 1 := by kernel_rfl
theorem un51 : Try.prog.underlying 51 = some (.slice 87) := by kernel_rfl
/-- A job as the program gets it. -/
def cvJ (x : Job) : Job := { x with after := x.after.take 60 }
def convJ (j : List Job) : List Job := (j.take 42).map cvJ
/-- Cells that show jobs. -/
def JCells (M : AM) (c : List Value) (js : List Job) : Prop := c.length = js.length * 4 ∧ ∀ k, k < js.length → ∃ w, (∀ q v, ((js.getD k default).cells w)[q]? = some v → c[k * 4 + q]? = some v) ∧ Ints M w (js.getD k default).after
theorem JCells.nil (M : AM) : JCells M [] [] := ⟨rfl, fun k hk => by simp at hk⟩
theorem JCells.snoc {M : AM} {L : AM} {c : List Value} {js : List Job} {x : Job} {w : Value} (h : JCells M c js) (hw : Ints (M ++ L) w x.after) : JCells (M ++ L) (c ++ x.cells w) (js ++ [x]) := by
  obtain ⟨h1, h2⟩ := h
  refine ⟨by simp [Job.cells, h1]; omega, fun k hk => ?_⟩
  simp only [List.length_append, List.length_singleton] at hk
  rcases Nat.lt_succ_iff_lt_or_eq.1 hk with hk | hk
  · obtain ⟨w', k1, k2⟩ := h2 k hk
    have e : (js ++ [x]).getD k default = js.getD k default := by simp [List.getElem?_append_left hk]
    refine ⟨w', fun q v hq => ?_, by rw [e]; exact k2.old L⟩
    rw [e] at hq
    have hq4 : q < 4 := by have := (List.getElem?_eq_some_iff.1 hq).1; simpa [Job.cells] using this
    rw [List.getElem?_append_left (by omega)]
    exact k1 q v hq
  · subst hk
    have e : (js ++ [x]).getD js.length default = x := by simp
    rw [e]
    refine ⟨w, fun q v hq => ?_, hw⟩
    rw [List.getElem?_append_right (by omega), h1, Nat.add_sub_cancel_left]
    exact hq
theorem JCells.jobs {M : AM} {c : List Value} {js : List Job} (h : JCells M c js) : Jobs (M ++ [gb c 4]) (gv M.length js.length) js := by
  obtain ⟨h1, h2⟩ := h
  refine ⟨M.length, 0, gv_sl _ _, by simp, fun k hk => ?_⟩
  obtain ⟨w, k1, k2⟩ := h2 k hk
  refine ⟨w, ⟨_, by rw [show M.length = M.length + 0 by omega, get_app, List.getElem?_cons_zero, gb_pos (by omega)], fun q v hq => ?_⟩, k2.old _⟩
  rw [Nat.zero_add]
  exact k1 q v hq
theorem conv_snoc {j : List Job} {k : Nat} (h : k < j.length) : (j.take (k + 1)).map cvJ = (j.take k).map cvJ ++ [cvJ (j.getD k default)] := by
  rw [take_snoc j k default h, List.map_append]; rfl
set_option maxHeartbeats 4000000 in
set_option maxRecDepth 100000 in
theorem f34_ok {m : AM} {v : Value} {j : List Job} (hj : Jobs m v j) (hs : Short j) : ACall Try.prog 34 #[v] m (More (fun M v => Jobs M v (convJ j)) m) := by
  obtain ⟨a, o, h1, h2, h3⟩ := hj
  obtain ⟨s1, s2⟩ := hs
  refine ACall.start Try.func34 rfl rfl ?_
  (repeat (first | (with_reducible refine AWo.cons ?_) | ((with_reducible refine Step.id ?_); first | ((with_reducible apply Step.move); exact rfl; exact rfl) | ((with_reducible apply Step.assign); exact rfl; exact rfl) | ((with_reducible apply Step.len); exact rfl; (focus (assumption)); (focus (decide +kernel)); exact rfl)) | (with_reducible refine AWo.nil ?_) | ((with_reducible apply AW.seq)) | ((with_reducible apply Then.n)) | ((with_reducible apply AW.regL)) | ((with_reducible apply AW.block))))
  refine AW.pad [(3, .slice none 0 0), (6, v), (7, .int .i64 (j.length : Nat)), (8, .int .i64 ((0 : Nat) : Int))] (by repeat (first | exact trivial | (refine And.intro ⟨rfl, by (first | exact .int _ _ | exact Ren.of_g0 rfl | exact Ren.of_sl (by assumption) (by first | omega | (simp; omega)))⟩ ?_))) CellsP.nil ?_
  refine AW.loopW (fun n' t m' => ∃ (k : Nat) (M N : AM) (c : List Value), n' = j.length - k ∧ k ≤ j.length ∧ k ≤ 42 ∧ M = m ++ N ∧ JCells M c ((j.take k).map cvJ) ∧ m' = M ++ [gb c 4] ∧
    t = fr [(3, gv (M.length + 0) k), (6, v), (7, .int .i64 (j.length : Nat)), (8, .int .i64 (k : Nat))]) ⟨_, _, (by repeat (first | exact trivial | (refine And.intro rfl ?_))), 0, m, [], [], rfl, Nat.zero_le _, Nat.zero_le _, by simp, JCells.nil m, rfl, rfl⟩ ?_
  rintro n' t m' ⟨k, M, N, c, rfl, hk, hk2, hM, hc, rfl, rfl⟩
  have hlk : ((j.take k).map cvJ).length = k := by simp; omega
  have fin : (k = j.length ∨ k = 42) → Jobs (M ++ [gb c 4]) (gv (M.length + 0) k) (convJ j) := fun h => by
    have e : (j.take k).map cvJ = convJ j := by
      unfold convJ
      rcases h with h | h
      · rw [List.take_of_length_le (show j.length ≤ k by omega), List.take_of_length_le (show j.length ≤ 42 by omega)]
      · rw [h]
    have := hc.jobs
    rwa [hlk, e] at this
  rcases Nat.lt_or_ge k j.length with hlt | hge
  · obtain ⟨w, hr, hw⟩ := h3 k hlt
    have hal := s2 k hlt
    have hr' : RdL M a (o + k * 4) ((j.getD k default).cells w) := by rw [hM]; exact hr.old N
    have hw' : Ints M w (j.getD k default).after := by rw [hM]; exact hw.old N
    have ha' : a < M.length := by rw [hM]; simp; omega
    have cs := conv_snoc hlt
    have hcl := hc.1
    rw [hlk] at hcl
    have snoc := fun (L : AM) (u : Value) (hu : Ints (M ++ L) u (cvJ (j.getD k default)).after) => hc.snoc hu
    rw [← cs] at snoc
    obtain ⟨wa, wo, w1, w2, w3⟩ := id hw'
    have hone := w1.one
    simp only [cvJ, Job.cells] at *
    generalize j.getD k default = x at *
    obtain ⟨x1, x2, x3, l⟩ := x
    simp only at *
    have hw1 := job_one (x := x1) (y := x2) (z := x3) hone
    by_cases hk3 : (41 : Int) < (k : Int)
    · (repeat (first | (with_reducible refine AWo.cons ?_) | ((with_reducible refine Step.id ?_); first | ((with_reducible apply Step.move); exact rfl; exact rfl) | ((with_reducible apply Step.assign); exact rfl; exact rfl) | ((with_reducible apply Step.loadL (n := 4)); exact rfl; (focus (decide +kernel)); (focus (decide +kernel)); exact rfl; (focus (exact RdL.old _ (by assumption))); exact rfl; exact rfl) | ((with_reducible apply Step.ix (s := 4)); exact rfl; (focus (assumption)); exact rfl; (focus (decide +kernel)); exact rfl; (focus (omega))) | ((with_reducible apply Step.lss); exact rfl; exact rfl; exact rfl) | ((with_reducible apply Step.gtr); exact rfl; exact rfl; exact rfl) | ((with_reducible apply Step.alloc 1); exact rfl; exact ze60; exact rfl; (focus (first | (simp only [List.nil_append, List.cons_append, List.set_cons_zero, List.set_cons_succ, iv_set, bv_set, iv_rep, bv_rep]; done) | (simp only [List.nil_append, List.cons_append, List.set_cons_zero, List.set_cons_succ, iv_set, bv_set, iv_rep, bv_rep]; rfl) | rfl))) | ((with_reducible apply Step.storeA (k := 1) (n := 4)); exact rfl; exact rfl; exact rfl; exact rfl; (focus (decide +kernel)); exact rfl; (focus (first | assumption | exact hw1)); exact rfl; (focus (first | (simp only [List.nil_append, List.cons_append, List.set_cons_zero, List.set_cons_succ, iv_set, bv_set, iv_rep, bv_rep]; done) | (simp only [List.nil_append, List.cons_append, List.set_cons_zero, List.set_cons_succ, iv_set, bv_set, iv_rep, bv_rep]; rfl) | rfl)))) | (with_reducible refine AWo.nil ?_) | ((with_reducible apply AW.seq)) | ((with_reducible apply Then.n)) | ((with_reducible apply AW.regL)) | ((with_reducible apply AW.block)) | ((with_reducible apply AW.exit)) | ((with_reducible apply InBlk.hit)) | ((with_reducible apply InBlk.miss); exact rfl) | ((with_reducible apply Then.e)) | ((with_reducible apply AW.skip)) | ((with_reducible apply AW.condT); exact rfl; (focus ((simp only [decide_eq_true_eq, decide_eq_false_iff_not, Bool.not_eq_true', Bool.not_eq_false', Bool.not_true, Bool.not_false]; first | assumption | omega))))))
      (refine AW.ret ?_; (repeat (first | refine Then.r ?_ | refine InBlk.r ?_)))
      exact ⟨_, rfl, N ++ [gb c 4, some { cells := [.int .i64 x1, .int .i64 x2, .int .i64 x3, w] }], by rw [hM, List.append_assoc]; rfl, by
        have := (fin (.inr (by omega))).old [some { cells := [.int .i64 x1, .int .i64 x2, .int .i64 x3, w] }]
        rwa [List.append_assoc] at this⟩
    · (repeat (first | (with_reducible refine AWo.cons ?_) | ((with_reducible refine Step.id ?_); first | ((with_reducible apply Step.move); exact rfl; exact rfl) | ((with_reducible apply Step.assign); exact rfl; exact rfl) | ((with_reducible apply Step.loadL (n := 4)); exact rfl; (focus (decide +kernel)); (focus (decide +kernel)); exact rfl; (focus (exact RdL.old _ (by assumption))); exact rfl; exact rfl) | ((with_reducible apply Step.ix (s := 4)); exact rfl; (focus (assumption)); exact rfl; (focus (decide +kernel)); exact rfl; (focus (omega))) | ((with_reducible apply Step.lss); exact rfl; exact rfl; exact rfl) | ((with_reducible apply Step.gtr); exact rfl; exact rfl; exact rfl) | ((with_reducible apply Step.alloc 1); exact rfl; exact ze60; exact rfl; (focus (first | (simp only [List.nil_append, List.cons_append, List.set_cons_zero, List.set_cons_succ, iv_set, bv_set, iv_rep, bv_rep]; done) | (simp only [List.nil_append, List.cons_append, List.set_cons_zero, List.set_cons_succ, iv_set, bv_set, iv_rep, bv_rep]; rfl) | rfl))) | ((with_reducible apply Step.storeA (k := 1) (n := 4)); exact rfl; exact rfl; exact rfl; exact rfl; (focus (decide +kernel)); exact rfl; (focus (first | assumption | exact hw1)); exact rfl; (focus (first | (simp only [List.nil_append, List.cons_append, List.set_cons_zero, List.set_cons_succ, iv_set, bv_set, iv_rep, bv_rep]; done) | (simp only [List.nil_append, List.cons_append, List.set_cons_zero, List.set_cons_succ, iv_set, bv_set, iv_rep, bv_rep]; rfl) | rfl)))) | (with_reducible refine AWo.nil ?_) | ((with_reducible apply AW.seq)) | ((with_reducible apply Then.n)) | ((fail_if_success (with_reducible refine AW.atL (id := 6) ?_)); ((with_reducible apply AW.regL))) | ((with_reducible apply AW.block)) | ((with_reducible apply AW.skip)) | ((with_reducible apply AW.condT); exact rfl; (focus ((simp only [decide_eq_true_eq, decide_eq_false_iff_not, Bool.not_eq_true', Bool.not_eq_false', Bool.not_true, Bool.not_false]; first | assumption | omega)))) | ((with_reducible apply AW.condF); exact rfl; (focus ((simp only [decide_eq_true_eq, decide_eq_false_iff_not, Bool.not_eq_true', Bool.not_eq_false', Bool.not_true, Bool.not_false]; first | assumption | omega))))))
      have e60 : min ((l.length : Nat) : Int) 60 = ((min l.length 60 : Nat) : Int) := by omega
      have hmn : min l.length 60 ≤ l.length := Nat.min_le_left _ _
      rcases w1 with ⟨rfl, hn⟩ | ⟨cp, hcp, rfl⟩ | ⟨hn, so, sk, rfl⟩
      · obtain rfl : l = [] := List.eq_nil_of_length_eq_zero hn
        have e0 : min ((0 : Nat) : Int) 60 = ((0 : Nat) : Int) := rfl
        refine AW.via [(3, .slice (some ⟨M.length + 3, 0, none⟩) (k + 1) (k + 1)), (6, v), (7, .int .i64 (j.length : Nat)), (8, .int .i64 (k : Nat))] (M ++ [none, some { cells := [.int .i64 x1, .int .i64 x2, .int .i64 x3, .slice none 0 0] }, some { cells := [.int .i64 x1, .int .i64 x2, .int .i64 x3, .slice none 0 0] }, some { cells := c ++ [.int .i64 x1, .int .i64 x2, .int .i64 x3, .slice none 0 0], kind := .grow, size := 4 }]) ?_ ?_
        · (repeat' (first | ((with_reducible refine Step.id ?_); first | ((with_reducible apply Step.move); exact rfl; exact rfl) | ((with_reducible apply Step.load); exact rfl; (focus (decide +kernel)); exact rfl; (focus (exact Rd.new rfl rfl))) | ((with_reducible apply Step.field0); exact rfl; (focus (decide +kernel)); exact rfl) | ((with_reducible apply Step.field (k := 1)); exact rfl; (focus (decide +kernel)); exact rfl) | ((with_reducible apply Step.field (k := 2)); exact rfl; (focus (decide +kernel)); exact rfl) | ((with_reducible apply Step.field (k := 3)); exact rfl; (focus (decide +kernel)); exact rfl) | ((with_reducible apply Step.slToNil); exact rfl; exact rfl; (focus (assumption)); exact un23; exact sz3; exact rfl) | ((with_reducible apply Step.len); exact rfl; (focus (exact Sl.nil 0 0)); (focus (decide +kernel)); exact rfl) | ((with_reducible apply Step.min); exact rfl; exact rfl; exact rfl) | ((with_reducible apply Step.callR fit); exact rfl; exact Try.func77; exact rfl; exact rfl; exact (clone_nil)) | ((with_reducible apply Step.buildS 2); exact rfl; exact rfl; exact (fun _ _ => bs51); exact rfl; (focus (first | (simp only [List.nil_append, List.cons_append, List.set_cons_zero, List.set_cons_succ, iv_set, bv_set, iv_rep, bv_rep]; done) | (simp only [List.nil_append, List.cons_append, List.set_cons_zero, List.set_cons_succ, iv_set, bv_set, iv_rep, bv_rep]; rfl) | rfl))) | ((with_reducible apply Step.build); exact rfl; exact bl87; exact rfl)) | ((with_reducible apply AW.drawT fit (T := (.step 0 (.step 1 (.step 3 (.step 5 (.step 7 (.step 8 (.step 9 (.step 10 (.step 11 (.step 12 (.step 13 (.both (.step 2 (.both (.step 4 (.both (.step 6 (.step 14 (.step 15 (.step 16 (.step 17 (.step 18 .done)))))) (.step 14 (.step 6 (.step 15 (.step 16 (.step 17 (.step 18 .done)))))))) (.both (.step 6 (.both (.step 4 (.step 14 (.step 15 (.step 16 (.step 17 (.step 18 .done)))))) (.step 14 (.step 4 (.step 15 (.step 16 (.step 17 (.step 18 .done)))))))) (.step 14 (.step 4 (.step 6 (.step 15 (.step 16 (.step 17 (.step 18 .done)))))))))) (.both (.step 4 (.both (.step 2 (.both (.step 6 (.step 14 (.step 15 (.step 16 (.step 17 (.step 18 .done)))))) (.step 14 (.step 6 (.step 15 (.step 16 (.step 17 (.step 18 .done)))))))) (.both (.step 6 (.both (.step 2 (.step 14 (.step 15 (.step 16 (.step 17 (.step 18 .done)))))) (.step 14 (.step 2 (.step 15 (.step 16 (.step 17 (.step 18 .done)))))))) (.step 14 (.step 2 (.step 6 (.step 15 (.step 16 (.step 17 (.step 18 .done)))))))))) (.both (.step 6 (.both (.step 2 (.both (.step 4 (.step 14 (.step 15 (.step 16 (.step 17 (.step 18 .done)))))) (.step 14 (.step 4 (.step 15 (.step 16 (.step 17 (.step 18 .done)))))))) (.both (.step 4 (.both (.step 2 (.step 14 (.step 15 (.step 16 (.step 17 (.step 18 .done)))))) (.step 14 (.step 2 (.step 15 (.step 16 (.step 17 (.step 18 .done)))))))) (.step 14 (.step 2 (.step 4 (.step 15 (.step 16 (.step 17 (.step 18 .done)))))))))) (.step 14 (.step 2 (.step 4 (.step 6 (.step 15 (.step 16 (.step 17 (.step 18 .done)))))))))))))))))))))))); (focus (decide +kernel))) | ((with_reducible apply AWt.step); exact rfl) | refine AWt.both ?_ ?_))
          all_goals ((with_reducible apply Step.appG (k := 3)); exact rfl; exact rfl; exact rfl; exact el51; exact un51; exact rfl; exact rfl; exact rfl; exact hcl; exact rfl; exact rfl; exact rfl; (focus (omega)); exact rfl; (focus (first | (simp only [List.nil_append, List.cons_append, List.set_cons_zero, List.set_cons_succ, iv_set, bv_set, iv_rep, bv_rep]; done) | (simp only [List.nil_append, List.cons_append, List.set_cons_zero, List.set_cons_succ, iv_set, bv_set, iv_rep, bv_rep]; rfl) | rfl)))
          all_goals (repeat' (first | ((with_reducible refine Step.id ?_); ((with_reducible apply Step.assign); exact rfl; exact rfl)) | ((with_reducible apply AWt.step); exact rfl) | ((with_reducible apply AWt.done))))
          all_goals exact ⟨rfl, rfl, (by repeat (first | exact trivial | (refine And.intro rfl ?_)))⟩
        intro t' ht'
        refine InBlk.n ?_
        refine Then.n ?_
        refine AW.weak ht' ?_
        (repeat (first | (with_reducible refine AWo.cons ?_) | ((with_reducible refine Step.id ?_); first | ((with_reducible apply Step.move); exact rfl; exact rfl) | ((with_reducible apply Step.add); exact rfl; exact rfl; (focus (omega)); exact rfl)) | (with_reducible refine AWo.nil ?_) | ((with_reducible apply Then.n)) | ((with_reducible apply AW.regL))))
        refine ⟨_, [(3, .slice (some ⟨M.length + 3, 0, none⟩) (k + 1) (k + 1)), (6, v), (7, .int .i64 (j.length : Nat)), (8, .int .i64 (k + 1 : Nat))], ?_, (by repeat (first | exact trivial | (refine And.intro rfl ?_))), k + 1, M ++ [none, some { cells := [.int .i64 x1, .int .i64 x2, .int .i64 x3, .slice none 0 0] }, some { cells := [.int .i64 x1, .int .i64 x2, .int .i64 x3, .slice none 0 0] }], N ++ [none, some { cells := [.int .i64 x1, .int .i64 x2, .int .i64 x3, .slice none 0 0] }, some { cells := [.int .i64 x1, .int .i64 x2, .int .i64 x3, .slice none 0 0] }], c ++ [.int .i64 x1, .int .i64 x2, .int .i64 x3, .slice none 0 0], rfl, hlt, by omega, by rw [hM, List.append_assoc], snoc _ _ (ints_nil (by simp)), ?_, ?_⟩
        · omega
        · rw [gb_pos (by simp), List.append_assoc]; rfl
        · rw [gv_pos (by omega)]; simp
      · have hl1 : ∀ h, h ≤ cp → Sl (.slice (some ⟨wa, wo, none⟩) h cp) wa wo h := fun h hh => Sl.mk hh
        by_cases hl0 : l.length = 0
        · obtain rfl : l = [] := List.eq_nil_of_length_eq_zero hl0
          have e0 : min ((0 : Nat) : Int) 60 = ((0 : Nat) : Int) := rfl
          have hsl : Sl (.slice (some ⟨wa, wo, none⟩) 0 cp) wa wo 0 := Sl.mk hcp
          simp only [List.length_nil] at *
          refine AW.via [(3, .slice (some ⟨M.length + 4, 0, none⟩) (k + 1) (k + 1)), (6, v), (7, .int .i64 (j.length : Nat)), (8, .int .i64 (k : Nat))] (M ++ [none, some { cells := [.int .i64 x1, .int .i64 x2, .int .i64 x3, .slice (some ⟨wa, wo, none⟩) 0 cp] }, some { cells := [] }, some { cells := [.int .i64 x1, .int .i64 x2, .int .i64 x3, .slice (some ⟨M.length + 2, 0, none⟩) 0 0] }, some { cells := c ++ [.int .i64 x1, .int .i64 x2, .int .i64 x3, .slice (some ⟨M.length + 2, 0, none⟩) 0 0], kind := .grow, size := 4 }]) ?_ ?_
          · (repeat' (first | ((with_reducible refine Step.id ?_); first | ((with_reducible apply Step.move); exact rfl; exact rfl) | ((with_reducible apply Step.load); exact rfl; (focus (decide +kernel)); exact rfl; (focus (exact Rd.new rfl rfl))) | ((with_reducible apply Step.field0); exact rfl; (focus (decide +kernel)); exact rfl) | ((with_reducible apply Step.field (k := 1)); exact rfl; (focus (decide +kernel)); exact rfl) | ((with_reducible apply Step.field (k := 2)); exact rfl; (focus (decide +kernel)); exact rfl) | ((with_reducible apply Step.field (k := 3)); exact rfl; (focus (decide +kernel)); exact rfl) | ((with_reducible apply Step.slTo); exact rfl; exact rfl; (focus (assumption)); (focus (omega)); exact un23; exact sz3; exact rfl) | ((with_reducible apply Step.len); exact rfl; (focus (assumption)); (focus (decide +kernel)); exact rfl) | ((with_reducible apply Step.min); exact rfl; exact rfl; exact rfl) | ((with_reducible apply Step.callN fit (k := 2)); exact rfl; exact rfl; exact Try.func77; exact rfl; exact rfl; exact (clone_empty hsl); (focus (first | (simp only [List.nil_append, List.cons_append, List.set_cons_zero, List.set_cons_succ, iv_set, bv_set, iv_rep, bv_rep]; done) | (simp only [List.nil_append, List.cons_append, List.set_cons_zero, List.set_cons_succ, iv_set, bv_set, iv_rep, bv_rep]; rfl) | rfl))) | ((with_reducible apply Step.buildS 3); exact rfl; exact rfl; exact (fun _ _ => bs51); exact rfl; (focus (first | (simp only [List.nil_append, List.cons_append, List.set_cons_zero, List.set_cons_succ, iv_set, bv_set, iv_rep, bv_rep]; done) | (simp only [List.nil_append, List.cons_append, List.set_cons_zero, List.set_cons_succ, iv_set, bv_set, iv_rep, bv_rep]; rfl) | rfl))) | ((with_reducible apply Step.build); exact rfl; exact bl87; exact rfl)) | ((with_reducible apply AW.drawT fit (T := (.step 0 (.step 1 (.step 3 (.step 5 (.step 7 (.step 8 (.step 9 (.step 10 (.step 11 (.step 12 (.step 13 (.both (.step 2 (.both (.step 4 (.both (.step 6 (.step 14 (.step 15 (.step 16 (.step 17 (.step 18 .done)))))) (.step 14 (.step 6 (.step 15 (.step 16 (.step 17 (.step 18 .done)))))))) (.both (.step 6 (.both (.step 4 (.step 14 (.step 15 (.step 16 (.step 17 (.step 18 .done)))))) (.step 14 (.step 4 (.step 15 (.step 16 (.step 17 (.step 18 .done)))))))) (.step 14 (.step 4 (.step 6 (.step 15 (.step 16 (.step 17 (.step 18 .done)))))))))) (.both (.step 4 (.both (.step 2 (.both (.step 6 (.step 14 (.step 15 (.step 16 (.step 17 (.step 18 .done)))))) (.step 14 (.step 6 (.step 15 (.step 16 (.step 17 (.step 18 .done)))))))) (.both (.step 6 (.both (.step 2 (.step 14 (.step 15 (.step 16 (.step 17 (.step 18 .done)))))) (.step 14 (.step 2 (.step 15 (.step 16 (.step 17 (.step 18 .done)))))))) (.step 14 (.step 2 (.step 6 (.step 15 (.step 16 (.step 17 (.step 18 .done)))))))))) (.both (.step 6 (.both (.step 2 (.both (.step 4 (.step 14 (.step 15 (.step 16 (.step 17 (.step 18 .done)))))) (.step 14 (.step 4 (.step 15 (.step 16 (.step 17 (.step 18 .done)))))))) (.both (.step 4 (.both (.step 2 (.step 14 (.step 15 (.step 16 (.step 17 (.step 18 .done)))))) (.step 14 (.step 2 (.step 15 (.step 16 (.step 17 (.step 18 .done)))))))) (.step 14 (.step 2 (.step 4 (.step 15 (.step 16 (.step 17 (.step 18 .done)))))))))) (.step 14 (.step 2 (.step 4 (.step 6 (.step 15 (.step 16 (.step 17 (.step 18 .done)))))))))))))))))))))))); (focus (decide +kernel))) | ((with_reducible apply AWt.step); exact rfl) | refine AWt.both ?_ ?_))
            all_goals ((with_reducible apply Step.appG (k := 4)); exact rfl; exact rfl; exact rfl; exact el51; exact un51; exact rfl; exact rfl; exact rfl; exact hcl; exact rfl; exact rfl; exact rfl; (focus (omega)); exact rfl; (focus (first | (simp only [List.nil_append, List.cons_append, List.set_cons_zero, List.set_cons_succ, iv_set, bv_set, iv_rep, bv_rep]; done) | (simp only [List.nil_append, List.cons_append, List.set_cons_zero, List.set_cons_succ, iv_set, bv_set, iv_rep, bv_rep]; rfl) | rfl)))
            all_goals (repeat' (first | ((with_reducible refine Step.id ?_); ((with_reducible apply Step.assign); exact rfl; exact rfl)) | ((with_reducible apply AWt.step); exact rfl) | ((with_reducible apply AWt.done))))
            all_goals exact ⟨rfl, rfl, (by repeat (first | exact trivial | (refine And.intro rfl ?_)))⟩
          intro t' ht'
          refine InBlk.n ?_
          refine Then.n ?_
          refine AW.weak ht' ?_
          (repeat (first | (with_reducible refine AWo.cons ?_) | ((with_reducible refine Step.id ?_); first | ((with_reducible apply Step.move); exact rfl; exact rfl) | ((with_reducible apply Step.add); exact rfl; exact rfl; (focus (omega)); exact rfl)) | (with_reducible refine AWo.nil ?_) | ((with_reducible apply Then.n)) | ((with_reducible apply AW.regL))))
          refine ⟨_, [(3, .slice (some ⟨M.length + 4, 0, none⟩) (k + 1) (k + 1)), (6, v), (7, .int .i64 (j.length : Nat)), (8, .int .i64 (k + 1 : Nat))], ?_, (by repeat (first | exact trivial | (refine And.intro rfl ?_))), k + 1, M ++ [none, some { cells := [.int .i64 x1, .int .i64 x2, .int .i64 x3, .slice (some ⟨wa, wo, none⟩) 0 cp] }, some { cells := [] }, some { cells := [.int .i64 x1, .int .i64 x2, .int .i64 x3, .slice (some ⟨M.length + 2, 0, none⟩) 0 0] }], N ++ [none, some { cells := [.int .i64 x1, .int .i64 x2, .int .i64 x3, .slice (some ⟨wa, wo, none⟩) 0 cp] }, some { cells := [] }, some { cells := [.int .i64 x1, .int .i64 x2, .int .i64 x3, .slice (some ⟨M.length + 2, 0, none⟩) 0 0] }], c ++ [.int .i64 x1, .int .i64 x2, .int .i64 x3, .slice (some ⟨M.length + 2, 0, none⟩) 0 0], rfl, hlt, by omega, by rw [hM, List.append_assoc], snoc _ _ (ints_new (k := 2) rfl rfl 0 rfl), ?_, ?_⟩
          · omega
          · rw [gb_pos (by simp), List.append_assoc]; rfl
          · rw [gv_pos (by omega)]; simp
        · have hsl : Sl (.slice (some ⟨wa, wo, none⟩) l.length cp) wa wo l.length := Sl.mk hcp
          have hcm : min l.length 60 ≤ cp := by omega
          have lt60 : (l.take 60).length = min l.length 60 := by rw [List.length_take, Nat.min_comm]
          have hin : ∀ L, Ints (M ++ L) (.slice (some ⟨wa, wo, none⟩) (min l.length 60) cp) (l.take 60) := fun L => by
            refine ⟨wa, wo, by rw [lt60]; exact Sl.mk hcm, by simp; omega, fun q hq => ?_⟩
            have := (w3 q (by omega)).old L
            rw [lt60] at hq
            rw [List.getD_eq_getElem?_getD, List.getElem?_take, if_pos (by omega), ← List.getD_eq_getElem?_getD]
            exact this
          have cl := fun L => clone_pos (hin L) (by omega) (by omega)
          rw [lt60] at cl
          refine AW.via [(3, .slice (some ⟨M.length + 4, 0, none⟩) (k + 1) (k + 1)), (6, v), (7, .int .i64 (j.length : Nat)), (8, .int .i64 (k : Nat))] (M ++ [none, some { cells := [.int .i64 x1, .int .i64 x2, .int .i64 x3, .slice (some ⟨wa, wo, none⟩) l.length cp] }, some { cells := iv (l.take 60), kind := .grow, size := 1 }, some { cells := [.int .i64 x1, .int .i64 x2, .int .i64 x3, .slice (some ⟨M.length + 2, 0, none⟩) (min l.length 60) (min l.length 60)] }, some { cells := c ++ [.int .i64 x1, .int .i64 x2, .int .i64 x3, .slice (some ⟨M.length + 2, 0, none⟩) (min l.length 60) (min l.length 60)], kind := .grow, size := 4 }]) ?_ ?_
          · (repeat' (first | ((with_reducible refine Step.id ?_); first | ((with_reducible apply Step.move); exact rfl; exact rfl) | ((with_reducible apply Step.load); exact rfl; (focus (decide +kernel)); exact rfl; (focus (exact Rd.new rfl rfl))) | ((with_reducible apply Step.field0); exact rfl; (focus (decide +kernel)); exact rfl) | ((with_reducible apply Step.field (k := 1)); exact rfl; (focus (decide +kernel)); exact rfl) | ((with_reducible apply Step.field (k := 2)); exact rfl; (focus (decide +kernel)); exact rfl) | ((with_reducible apply Step.field (k := 3)); exact rfl; (focus (decide +kernel)); exact rfl) | ((with_reducible apply Step.slTo); exact rfl; exact rfl; (focus (assumption)); (focus (omega)); exact un23; exact sz3; exact rfl) | ((with_reducible apply Step.len); exact rfl; (focus (assumption)); (focus (decide +kernel)); exact rfl) | ((with_reducible apply Step.min); exact rfl; exact rfl; exact rfl) | ((with_reducible apply Step.callN fit (k := 2)); exact rfl; exact rfl; exact Try.func77; exact rfl; exact rfl; exact (cl _); (focus (first | (simp only [List.nil_append, List.cons_append, List.set_cons_zero, List.set_cons_succ, iv_set, bv_set, iv_rep, bv_rep]; done) | (simp only [List.nil_append, List.cons_append, List.set_cons_zero, List.set_cons_succ, iv_set, bv_set, iv_rep, bv_rep]; rfl) | rfl))) | ((with_reducible apply Step.buildS 3); exact rfl; exact rfl; exact (fun _ _ => bs51); exact rfl; (focus (first | (simp only [List.nil_append, List.cons_append, List.set_cons_zero, List.set_cons_succ, iv_set, bv_set, iv_rep, bv_rep]; done) | (simp only [List.nil_append, List.cons_append, List.set_cons_zero, List.set_cons_succ, iv_set, bv_set, iv_rep, bv_rep]; rfl) | rfl))) | ((with_reducible apply Step.build); exact rfl; exact bl87; exact rfl)) | ((with_reducible apply AW.drawT fit (T := (.step 0 (.step 1 (.step 3 (.step 5 (.step 7 (.step 8 (.step 9 (.step 10 (.step 11 (.step 12 (.step 13 (.both (.step 2 (.both (.step 4 (.both (.step 6 (.step 14 (.step 15 (.step 16 (.step 17 (.step 18 .done)))))) (.step 14 (.step 6 (.step 15 (.step 16 (.step 17 (.step 18 .done)))))))) (.both (.step 6 (.both (.step 4 (.step 14 (.step 15 (.step 16 (.step 17 (.step 18 .done)))))) (.step 14 (.step 4 (.step 15 (.step 16 (.step 17 (.step 18 .done)))))))) (.step 14 (.step 4 (.step 6 (.step 15 (.step 16 (.step 17 (.step 18 .done)))))))))) (.both (.step 4 (.both (.step 2 (.both (.step 6 (.step 14 (.step 15 (.step 16 (.step 17 (.step 18 .done)))))) (.step 14 (.step 6 (.step 15 (.step 16 (.step 17 (.step 18 .done)))))))) (.both (.step 6 (.both (.step 2 (.step 14 (.step 15 (.step 16 (.step 17 (.step 18 .done)))))) (.step 14 (.step 2 (.step 15 (.step 16 (.step 17 (.step 18 .done)))))))) (.step 14 (.step 2 (.step 6 (.step 15 (.step 16 (.step 17 (.step 18 .done)))))))))) (.both (.step 6 (.both (.step 2 (.both (.step 4 (.step 14 (.step 15 (.step 16 (.step 17 (.step 18 .done)))))) (.step 14 (.step 4 (.step 15 (.step 16 (.step 17 (.step 18 .done)))))))) (.both (.step 4 (.both (.step 2 (.step 14 (.step 15 (.step 16 (.step 17 (.step 18 .done)))))) (.step 14 (.step 2 (.step 15 (.step 16 (.step 17 (.step 18 .done)))))))) (.step 14 (.step 2 (.step 4 (.step 15 (.step 16 (.step 17 (.step 18 .done)))))))))) (.step 14 (.step 2 (.step 4 (.step 6 (.step 15 (.step 16 (.step 17 (.step 18 .done)))))))))))))))))))))))); (focus (decide +kernel))) | ((with_reducible apply AWt.step); exact rfl) | refine AWt.both ?_ ?_))
            all_goals ((with_reducible apply Step.appG (k := 4)); exact rfl; exact rfl; exact rfl; exact el51; exact un51; exact rfl; exact rfl; exact rfl; exact hcl; exact rfl; exact rfl; exact rfl; (focus (omega)); exact rfl; (focus (first | (simp only [List.nil_append, List.cons_append, List.set_cons_zero, List.set_cons_succ, iv_set, bv_set, iv_rep, bv_rep]; done) | (simp only [List.nil_append, List.cons_append, List.set_cons_zero, List.set_cons_succ, iv_set, bv_set, iv_rep, bv_rep]; rfl) | rfl)))
            all_goals (repeat' (first | ((with_reducible refine Step.id ?_); ((with_reducible apply Step.assign); exact rfl; exact rfl)) | ((with_reducible apply AWt.step); exact rfl) | ((with_reducible apply AWt.done))))
            all_goals exact ⟨rfl, rfl, (by repeat (first | exact trivial | (refine And.intro rfl ?_)))⟩
          intro t' ht'
          refine InBlk.n ?_
          refine Then.n ?_
          refine AW.weak ht' ?_
          (repeat (first | (with_reducible refine AWo.cons ?_) | ((with_reducible refine Step.id ?_); first | ((with_reducible apply Step.move); exact rfl; exact rfl) | ((with_reducible apply Step.add); exact rfl; exact rfl; (focus (omega)); exact rfl)) | (with_reducible refine AWo.nil ?_) | ((with_reducible apply Then.n)) | ((with_reducible apply AW.regL))))
          refine ⟨_, [(3, .slice (some ⟨M.length + 4, 0, none⟩) (k + 1) (k + 1)), (6, v), (7, .int .i64 (j.length : Nat)), (8, .int .i64 (k + 1 : Nat))], ?_, (by repeat (first | exact trivial | (refine And.intro rfl ?_))), k + 1, M ++ [none, some { cells := [.int .i64 x1, .int .i64 x2, .int .i64 x3, .slice (some ⟨wa, wo, none⟩) l.length cp] }, some { cells := iv (l.take 60), kind := .grow, size := 1 }, some { cells := [.int .i64 x1, .int .i64 x2, .int .i64 x3, .slice (some ⟨M.length + 2, 0, none⟩) (min l.length 60) (min l.length 60)] }], N ++ [none, some { cells := [.int .i64 x1, .int .i64 x2, .int .i64 x3, .slice (some ⟨wa, wo, none⟩) l.length cp] }, some { cells := iv (l.take 60), kind := .grow, size := 1 }, some { cells := [.int .i64 x1, .int .i64 x2, .int .i64 x3, .slice (some ⟨M.length + 2, 0, none⟩) (min l.length 60) (min l.length 60)] }], c ++ [.int .i64 x1, .int .i64 x2, .int .i64 x3, .slice (some ⟨M.length + 2, 0, none⟩) (min l.length 60) (min l.length 60)], rfl, hlt, by omega, by rw [hM, List.append_assoc], snoc _ _ (ints_new (k := 2) rfl rfl _ lt60.symm), ?_, ?_⟩
          · omega
          · rw [gb_pos (by simp), List.append_assoc]; rfl
          · rw [gv_pos (by omega)]; simp
      · skip
        obtain rfl : l = [] := List.eq_nil_of_length_eq_zero hn
        have e0 : min ((0 : Nat) : Int) 60 = ((0 : Nat) : Int) := rfl
        have hsl : Sl (.slice (some ⟨wa, so, some sk⟩) 0 0) wa wo 0 := .inr (.inr ⟨rfl, so, sk, rfl⟩)
        simp only [List.length_nil] at *
        refine AW.via [(3, .slice (some ⟨M.length + 4, 0, none⟩) (k + 1) (k + 1)), (6, v), (7, .int .i64 (j.length : Nat)), (8, .int .i64 (k : Nat))] (M ++ [none, some { cells := [.int .i64 x1, .int .i64 x2, .int .i64 x3, .slice (some ⟨wa, so, some sk⟩) 0 0] }, some { cells := [] }, some { cells := [.int .i64 x1, .int .i64 x2, .int .i64 x3, .slice (some ⟨M.length + 2, 0, none⟩) 0 0] }, some { cells := c ++ [.int .i64 x1, .int .i64 x2, .int .i64 x3, .slice (some ⟨M.length + 2, 0, none⟩) 0 0], kind := .grow, size := 4 }]) ?_ ?_
        · (repeat' (first | ((with_reducible refine Step.id ?_); first | ((with_reducible apply Step.move); exact rfl; exact rfl) | ((with_reducible apply Step.load); exact rfl; (focus (decide +kernel)); exact rfl; (focus (exact Rd.new rfl rfl))) | ((with_reducible apply Step.field0); exact rfl; (focus (decide +kernel)); exact rfl) | ((with_reducible apply Step.field (k := 1)); exact rfl; (focus (decide +kernel)); exact rfl) | ((with_reducible apply Step.field (k := 2)); exact rfl; (focus (decide +kernel)); exact rfl) | ((with_reducible apply Step.field (k := 3)); exact rfl; (focus (decide +kernel)); exact rfl) | ((with_reducible apply Step.slToSpot); exact rfl; exact rfl; (focus (assumption)); exact un23; exact sz3; exact rfl) | ((with_reducible apply Step.len); exact rfl; (focus (assumption)); (focus (decide +kernel)); exact rfl) | ((with_reducible apply Step.min); exact rfl; exact rfl; exact rfl) | ((with_reducible apply Step.callN fit (k := 2)); exact rfl; exact rfl; exact Try.func77; exact rfl; exact rfl; exact (clone_empty hsl); (focus (first | (simp only [List.nil_append, List.cons_append, List.set_cons_zero, List.set_cons_succ, iv_set, bv_set, iv_rep, bv_rep]; done) | (simp only [List.nil_append, List.cons_append, List.set_cons_zero, List.set_cons_succ, iv_set, bv_set, iv_rep, bv_rep]; rfl) | rfl))) | ((with_reducible apply Step.buildS 3); exact rfl; exact rfl; exact (fun _ _ => bs51); exact rfl; (focus (first | (simp only [List.nil_append, List.cons_append, List.set_cons_zero, List.set_cons_succ, iv_set, bv_set, iv_rep, bv_rep]; done) | (simp only [List.nil_append, List.cons_append, List.set_cons_zero, List.set_cons_succ, iv_set, bv_set, iv_rep, bv_rep]; rfl) | rfl))) | ((with_reducible apply Step.build); exact rfl; exact bl87; exact rfl)) | ((with_reducible apply AW.drawT fit (T := (.step 0 (.step 1 (.step 3 (.step 5 (.step 7 (.step 8 (.step 9 (.step 10 (.step 11 (.step 12 (.step 13 (.both (.step 2 (.both (.step 4 (.both (.step 6 (.step 14 (.step 15 (.step 16 (.step 17 (.step 18 .done)))))) (.step 14 (.step 6 (.step 15 (.step 16 (.step 17 (.step 18 .done)))))))) (.both (.step 6 (.both (.step 4 (.step 14 (.step 15 (.step 16 (.step 17 (.step 18 .done)))))) (.step 14 (.step 4 (.step 15 (.step 16 (.step 17 (.step 18 .done)))))))) (.step 14 (.step 4 (.step 6 (.step 15 (.step 16 (.step 17 (.step 18 .done)))))))))) (.both (.step 4 (.both (.step 2 (.both (.step 6 (.step 14 (.step 15 (.step 16 (.step 17 (.step 18 .done)))))) (.step 14 (.step 6 (.step 15 (.step 16 (.step 17 (.step 18 .done)))))))) (.both (.step 6 (.both (.step 2 (.step 14 (.step 15 (.step 16 (.step 17 (.step 18 .done)))))) (.step 14 (.step 2 (.step 15 (.step 16 (.step 17 (.step 18 .done)))))))) (.step 14 (.step 2 (.step 6 (.step 15 (.step 16 (.step 17 (.step 18 .done)))))))))) (.both (.step 6 (.both (.step 2 (.both (.step 4 (.step 14 (.step 15 (.step 16 (.step 17 (.step 18 .done)))))) (.step 14 (.step 4 (.step 15 (.step 16 (.step 17 (.step 18 .done)))))))) (.both (.step 4 (.both (.step 2 (.step 14 (.step 15 (.step 16 (.step 17 (.step 18 .done)))))) (.step 14 (.step 2 (.step 15 (.step 16 (.step 17 (.step 18 .done)))))))) (.step 14 (.step 2 (.step 4 (.step 15 (.step 16 (.step 17 (.step 18 .done)))))))))) (.step 14 (.step 2 (.step 4 (.step 6 (.step 15 (.step 16 (.step 17 (.step 18 .done)))))))))))))))))))))))); (focus (decide +kernel))) | ((with_reducible apply AWt.step); exact rfl) | refine AWt.both ?_ ?_))
          all_goals ((with_reducible apply Step.appG (k := 4)); exact rfl; exact rfl; exact rfl; exact el51; exact un51; exact rfl; exact rfl; exact rfl; exact hcl; exact rfl; exact rfl; exact rfl; (focus (omega)); exact rfl; (focus (first | (simp only [List.nil_append, List.cons_append, List.set_cons_zero, List.set_cons_succ, iv_set, bv_set, iv_rep, bv_rep]; done) | (simp only [List.nil_append, List.cons_append, List.set_cons_zero, List.set_cons_succ, iv_set, bv_set, iv_rep, bv_rep]; rfl) | rfl)))
          all_goals (repeat' (first | ((with_reducible refine Step.id ?_); ((with_reducible apply Step.assign); exact rfl; exact rfl)) | ((with_reducible apply AWt.step); exact rfl) | ((with_reducible apply AWt.done))))
          all_goals exact ⟨rfl, rfl, (by repeat (first | exact trivial | (refine And.intro rfl ?_)))⟩
        intro t' ht'
        refine InBlk.n ?_
        refine Then.n ?_
        refine AW.weak ht' ?_
        (repeat (first | (with_reducible refine AWo.cons ?_) | ((with_reducible refine Step.id ?_); first | ((with_reducible apply Step.move); exact rfl; exact rfl) | ((with_reducible apply Step.add); exact rfl; exact rfl; (focus (omega)); exact rfl)) | (with_reducible refine AWo.nil ?_) | ((with_reducible apply Then.n)) | ((with_reducible apply AW.regL))))
        refine ⟨_, [(3, .slice (some ⟨M.length + 4, 0, none⟩) (k + 1) (k + 1)), (6, v), (7, .int .i64 (j.length : Nat)), (8, .int .i64 (k + 1 : Nat))], ?_, (by repeat (first | exact trivial | (refine And.intro rfl ?_))), k + 1, M ++ [none, some { cells := [.int .i64 x1, .int .i64 x2, .int .i64 x3, .slice (some ⟨wa, so, some sk⟩) 0 0] }, some { cells := [] }, some { cells := [.int .i64 x1, .int .i64 x2, .int .i64 x3, .slice (some ⟨M.length + 2, 0, none⟩) 0 0] }], N ++ [none, some { cells := [.int .i64 x1, .int .i64 x2, .int .i64 x3, .slice (some ⟨wa, so, some sk⟩) 0 0] }, some { cells := [] }, some { cells := [.int .i64 x1, .int .i64 x2, .int .i64 x3, .slice (some ⟨M.length + 2, 0, none⟩) 0 0] }], c ++ [.int .i64 x1, .int .i64 x2, .int .i64 x3, .slice (some ⟨M.length + 2, 0, none⟩) 0 0], rfl, hlt, by omega, by rw [hM, List.append_assoc], snoc _ _ (ints_new (k := 2) rfl rfl 0 rfl), ?_, ?_⟩
        · omega
        · rw [gb_pos (by simp), List.append_assoc]; rfl
        · rw [gv_pos (by omega)]; simp
  · (repeat (first | (with_reducible refine AWo.cons ?_) | ((with_reducible refine Step.id ?_); first | ((with_reducible apply Step.move); exact rfl; exact rfl) | ((with_reducible apply Step.assign); exact rfl; exact rfl) | ((with_reducible apply Step.lss); exact rfl; exact rfl; exact rfl)) | (with_reducible refine AWo.nil ?_) | ((with_reducible apply AW.seq)) | ((with_reducible apply Then.n)) | ((with_reducible apply AW.regL)) | ((with_reducible apply AW.exit)) | ((with_reducible apply InBlk.hit)) | ((with_reducible apply Then.e)) | ((with_reducible apply AW.condF); exact rfl; (focus ((simp only [decide_eq_true_eq, decide_eq_false_iff_not, Bool.not_eq_true', Bool.not_eq_false', Bool.not_true, Bool.not_false]; first | assumption | omega))))))
    (refine AW.ret ?_; (repeat (first | refine Then.r ?_ | refine InBlk.r ?_)))
    exact ⟨_, rfl, N ++ [gb c 4], by rw [hM, List.append_assoc], fin (.inl (by omega))⟩
end Go.Proofs.Ytmomjannlnafcaa.Abs
namespace Go.Proofs.Ytmomjannlnafcaa.Abs
set_option linter.unusedSimpArgs false
set_option linter.unusedVariables false
open Go.RowKit
open Go.Proofs.Ytmomjannlnafcaa.Sim
theorem nodup_le {α : Type} [DecidableEq α] : ∀ (l r : List α), l.Nodup → (∀ x ∈ l, x ∈ r) → l.length ≤ r.length
  | [], r, _, _ => by simp
  | a :: l, r, h, hs => by
    have h1 := List.nodup_cons.1 h
    have ha : a ∈ r := hs a (by simp)
    have := nodup_le l (r.erase a) h1.2 fun x hx => by
      have hne : x ≠ a := fun e => h1.1 (e ▸ hx)
      exact (List.mem_erase_of_ne hne).2 (hs x (by simp [hx]))
    rw [List.length_erase_of_mem ha] at this
    have := List.length_pos_of_mem ha
    simp; omega
theorem mem_upI {n : Nat} {x : Int} : x ∈ upI n ↔ 0 ≤ x ∧ x < n := by
  simp only [upI, List.mem_map, List.mem_range]
  constructor
  · rintro ⟨k, hk, rfl⟩; omega
  · rintro ⟨h1, h2⟩; exact ⟨x.toNat, by omega, by omega⟩
theorem upI_nodup (n : Nat) : (upI n).Nodup := by
  unfold upI
  have := List.nodup_range (n := n)
  exact List.Pairwise.map _ (fun a b h e => h (by omega)) this
theorem upI_sorted (n : Nat) : (upI n).Pairwise (fun x y => decide (x ≤ y) = true) := by
  unfold upI
  exact List.Pairwise.map _ (fun a b h => by simp; omega) (List.pairwise_lt_range (n := n))
/-- A slice is an order of n if and only if it has n elements, each below n, each once. -/
theorem orderB_iff {l : List Int} {n : Nat} : orderB l n = true ↔ l.length = n ∧ (∀ x ∈ l, 0 ≤ x ∧ x < n) ∧ l.Nodup := by
  simp only [orderB, Bool.and_eq_true, decide_eq_true_eq]
  constructor
  · rintro ⟨h1, h2⟩
    have hp : (srt l).Perm l := List.mergeSort_perm l _
    rw [h2] at hp
    exact ⟨h1, fun x hx => mem_upI.1 (hp.mem_iff.2 hx), hp.nodup_iff.1 (upI_nodup n)⟩
  · rintro ⟨h1, h2, h3⟩
    refine ⟨h1, ?_⟩
    have hsub : ∀ x ∈ l, x ∈ upI n := fun x hx => mem_upI.2 (h2 x hx)
    have hsup : ∀ x ∈ upI n, x ∈ l := fun x hx => Classical.byContradiction fun hn => by
      have := nodup_le l ((upI n).erase x) h3 fun y hy => (List.mem_erase_of_ne (fun (e : y = x) => hn (e ▸ hy))).2 (hsub y hy)
      rw [List.length_erase_of_mem hx, upI_len] at this
      have := List.length_pos_of_mem hx
      rw [upI_len] at this
      omega
    have hperm : l.Perm (upI n) := by
      rw [List.perm_iff_count]
      intro a
      rw [h3.count, (upI_nodup n).count]
      by_cases ha : a ∈ l
      · rw [if_pos ha, if_pos (hsub a ha)]
      · rw [if_neg ha, if_neg (fun h => ha (hsup a h))]
    have hps : (srt l).Perm (upI n) := (List.mergeSort_perm l _).trans hperm
    refine hps.eq_of_pairwise (le := fun x y => decide (x ≤ y) = true) (fun a b _ _ h1 h2 => by simp at h1 h2; omega) ?_ (upI_sorted n)
    exact List.pairwise_mergeSort (fun a b c h1 h2 => by simp at h1 h2 ⊢; omega) (fun a b => by simp; omega) l
def nat (l : List Int) : List Nat := l.map Int.toNat
theorem nat_len (l : List Int) : (nat l).length = l.length := by simp [nat]
theorem nat_get {l : List Int} {k : Nat} (h : k < l.length) : (nat l).getD k 0 = (l.getD k 0).toNat := by simp [nat, h]
theorem nat_lt {l : List Int} {n : Nat} (h : orderB l n = true) : ∀ k, k < (nat l).length → (nat l).getD k 0 < n := fun k hk => by
  obtain ⟨_, o2, _⟩ := orderB_iff.1 h
  rw [nat_len] at hk
  rw [nat_get hk]
  have := o2 (l.getD k 0) (by simp [hk])
  omega
end Go.Proofs.Ytmomjannlnafcaa.Abs
namespace Go.Proofs.Ytmomjannlnafcaa.Abs
set_option linter.unusedSimpArgs false
set_option linter.unusedVariables false
open Go.RowKit
open Go.Proofs.Ytmomjannlnafcaa.Sim
open Go.Proofs
/-- Which numbers below n have come up. -/
def metL (l : List Int) (n : Nat) : List Bool := (List.range n).map fun (i : Nat) => decide ((i : Int) ∈ l)
theorem metL_len (l : List Int) (n : Nat) : (metL l n).length = n := by simp [metL]
theorem metL_get {l : List Int} {n i : Nat} (h : i < n) : (metL l n).getD i false = decide ((i : Int) ∈ l) := by simp [metL, h]
theorem metL_set {l : List Int} {n i : Nat} (h : i < n) : (metL l n).set i true = metL (l ++ [(i : Int)]) n := by
  apply List.ext_getElem?
  intro k
  rw [List.getElem?_set]
  by_cases hk : i = k
  · subst hk; simp [metL, h]
  · simp only [if_neg hk, metL, List.getElem?_map]
    by_cases hkn : k < n
    · simp [List.getElem?_range hkn]; omega
    · simp [List.getElem?_eq_none (show (List.range n).length ≤ k by simp; omega)]
set_option maxRecDepth 100000 in
theorem ROrder_ok {m : AM} {v : Value} {l : List Int} (n : Nat) (hl : Ints m v l) (hn : n ≤ 100000) (hlen : l.length ≤ 9223372036854775807) {b : Bool} (hb : orderB l n = b) : ACall Try.prog 55 #[v, .int .i64 (n : Nat)] m (Ret (.bool b) m) := by
  subst hb
  obtain ⟨a, o, h1, h2, h3⟩ := hl
  refine ACall.start Try.func55 rfl rfl ?_
  (repeat (first | (with_reducible refine AWo.cons ?_) | ((with_reducible refine Step.id ?_); first | ((with_reducible apply Step.move); exact rfl; exact rfl) | ((with_reducible apply Step.assign); exact rfl; exact rfl) | ((with_reducible apply Step.len); exact rfl; (focus (assumption)); (focus (decide +kernel)); exact rfl) | ((with_reducible apply Step.make1 0); exact rfl; exact rfl; exact rfl; exact el84; (focus (omega)); exact rfl; (focus (first | (simp only [List.nil_append, List.cons_append, List.set_cons_zero, List.set_cons_succ, iv_set, bv_set, iv_rep, bv_rep]; done) | (simp only [List.nil_append, List.cons_append, List.set_cons_zero, List.set_cons_succ, iv_set, bv_set, iv_rep, bv_rep]; rfl) | rfl)))) | (with_reducible refine AWo.nil ?_) | ((with_reducible apply AW.seq)) | ((with_reducible apply Then.n)) | ((with_reducible apply AW.regL)) | ((with_reducible apply AW.block))))
  refine AW.loopT (fun r t L => ∃ k : Nat, r = l.length - k ∧ k ≤ l.length ∧ (∀ x ∈ l.take k, 0 ≤ x ∧ x < n) ∧ (l.take k).Nodup ∧ L = [some { cells := bv (metL (l.take k) n) }] ∧
    t = [(0, v), (1, .int .i64 (n : Nat)), (5, .slice (some ⟨m.length + 0, 0, none⟩) n n), (10, v), (11, .int .i64 (l.length : Nat)), (12, .int .i64 (k : Nat))]) ⟨_, _, _, (Or.inl ⟨rfl, (by repeat (first | exact trivial | (refine And.intro rfl ?_)))⟩), 0, rfl, Nat.zero_le _, by simp, by simp, by simp [metL, bv, List.map_const'], rfl⟩ ?_
  rintro r t L ⟨k, rfl, hk, hin, hnd, rfl, rfl⟩
  rcases Nat.lt_or_ge k l.length with hlt | hge
  · have ts := take_snoc l k 0 hlt
    have hmem : l.getD k 0 ∈ l := by simp [hlt]
    have r1 := h3 k hlt
    have bad : (¬ (0 ≤ l.getD k 0 ∧ l.getD k 0 < n)) ∨ l.getD k 0 ∈ l.take k → orderB l n = false := fun h => by
      rw [Bool.eq_false_iff]
      intro e
      obtain ⟨o1, o2, o3⟩ := orderB_iff.1 e
      rcases h with h | h
      · exact h (o2 _ hmem)
      · have : (l.take (k + 1)).Nodup := o3.sublist (List.take_sublist _ _)
        rw [ts, List.nodup_append] at this
        exact this.2.2 _ h _ (by simp) rfl
    generalize hx : l.getD k 0 = x at *
    by_cases c1 : x < 0
    · (repeat (first | (with_reducible refine AWo.cons ?_) | ((with_reducible refine Step.id ?_); first | ((with_reducible apply Step.gdF); exact rfl; exact rfl; (focus (first | rfl | (simp only [decide_eq_true_eq, decide_eq_false_iff_not, Bool.not_eq_true', Bool.not_eq_false', Bool.not_true, Bool.not_false]; first | assumption | omega)))) | ((with_reducible apply Step.move); exact rfl; exact rfl) | ((with_reducible apply Step.assign); exact rfl; exact rfl) | ((with_reducible apply Step.load); exact rfl; (focus (decide +kernel)); exact rfl; (focus (exact Rd.old _ (by assumption)))) | ((with_reducible apply Step.ix1); exact rfl; (focus (assumption)); exact rfl; (focus (decide +kernel)); exact rfl; (focus (omega))) | ((with_reducible apply Step.lss); exact rfl; exact rfl; exact rfl) | ((with_reducible apply Step.pickT); exact rfl; exact rfl; exact rfl; exact rfl; (focus (first | rfl | (simp only [decide_eq_true_eq, decide_eq_false_iff_not, Bool.not_eq_true', Bool.not_eq_false', Bool.not_true, Bool.not_false]; first | assumption | omega))))) | (with_reducible refine AWo.nil ?_) | ((with_reducible apply AW.seq)) | ((with_reducible apply Then.n)) | ((with_reducible apply AW.regL)) | ((with_reducible apply AW.block)) | ((with_reducible apply AW.skip)) | ((with_reducible apply AW.condT); exact rfl; (focus (first | rfl | (simp only [decide_eq_true_eq, decide_eq_false_iff_not, Bool.not_eq_true', Bool.not_eq_false', Bool.not_true, Bool.not_false]; first | assumption | omega))))))
      (refine AW.retD (l := [(4, _)]) (by repeat (first | exact trivial | (refine And.intro ⟨rfl, by (exact .bool _)⟩ ?_))) ?_; (repeat (first | refine Then.r ?_ | refine InBlk.r ?_)))
      exact ⟨_, rfl, by rw [bad (.inl (by omega))], rfl⟩
    · by_cases c2 : (n : Int) ≤ x
      · (repeat (first | (with_reducible refine AWo.cons ?_) | ((with_reducible refine Step.id ?_); first | ((with_reducible apply Step.gdT); exact rfl; exact rfl; (focus ((simp only [decide_eq_true_eq, decide_eq_false_iff_not, Bool.not_eq_true', Bool.not_eq_false', Bool.not_true, Bool.not_false]; first | assumption | omega)))) | ((with_reducible apply Step.gdF); exact rfl; exact rfl; (focus ((simp only [decide_eq_true_eq, decide_eq_false_iff_not, Bool.not_eq_true', Bool.not_eq_false', Bool.not_true, Bool.not_false]; first | assumption | omega)))) | ((with_reducible apply Step.move); exact rfl; exact rfl) | ((with_reducible apply Step.assign); exact rfl; exact rfl) | ((with_reducible apply Step.load); exact rfl; (focus (decide +kernel)); exact rfl; (focus (exact Rd.old _ (by assumption)))) | ((with_reducible apply Step.ix1); exact rfl; (focus (assumption)); exact rfl; (focus (decide +kernel)); exact rfl; (focus (omega))) | ((with_reducible apply Step.lss); exact rfl; exact rfl; exact rfl) | ((with_reducible apply Step.geq); exact rfl; exact rfl; exact rfl) | ((with_reducible apply Step.pickT); exact rfl; exact rfl; exact rfl; exact rfl; (focus ((simp only [decide_eq_true_eq, decide_eq_false_iff_not, Bool.not_eq_true', Bool.not_eq_false', Bool.not_true, Bool.not_false]; first | assumption | omega)))) | ((with_reducible apply Step.pickF); exact rfl; exact rfl; exact rfl; exact rfl; (focus ((simp only [decide_eq_true_eq, decide_eq_false_iff_not, Bool.not_eq_true', Bool.not_eq_false', Bool.not_true, Bool.not_false]; first | assumption | omega))))) | (with_reducible refine AWo.nil ?_) | ((with_reducible apply AW.seq)) | ((with_reducible apply Then.n)) | ((with_reducible apply AW.regL)) | ((with_reducible apply AW.block)) | ((with_reducible apply AW.skip)) | ((with_reducible apply AW.condT); exact rfl; (focus (first | rfl | (simp only [decide_eq_true_eq, decide_eq_false_iff_not, Bool.not_eq_true', Bool.not_eq_false', Bool.not_true, Bool.not_false]; first | assumption | omega))))))
        (refine AW.retD (l := [(4, _)]) (by repeat (first | exact trivial | (refine And.intro ⟨rfl, by (exact .bool _)⟩ ?_))) ?_; (repeat (first | refine Then.r ?_ | refine InBlk.r ?_)))
        exact ⟨_, rfl, by rw [bad (.inl (by omega))], rfl⟩
      · obtain ⟨i, rfl⟩ : ∃ i : Nat, x = (i : Int) := ⟨x.toNat, by omega⟩
        have hi : i < n := by omega
        have hg := bv_get (l := metL (l.take k) n) (k := i) (by rw [metL_len]; exact hi)
        rw [metL_get hi] at hg
        by_cases c3 : (i : Int) ∈ l.take k
        · rw [decide_eq_true c3] at hg
          (repeat (first | (with_reducible refine AWo.cons ?_) | ((with_reducible refine Step.id ?_); first | ((with_reducible apply Step.gdT); exact rfl; exact rfl; (focus (first | rfl | (simp only [decide_eq_true_eq, decide_eq_false_iff_not, Bool.not_eq_true', Bool.not_eq_false', Bool.not_true, Bool.not_false]; first | assumption | omega)))) | ((with_reducible apply Step.move); exact rfl; exact rfl) | ((with_reducible apply Step.assign); exact rfl; exact rfl) | ((with_reducible apply Step.load); exact rfl; (focus (decide +kernel)); exact rfl; (focus (first | exact Rd.new rfl hg | exact Rd.old _ (by assumption)))) | ((with_reducible apply Step.ix1z); exact rfl; (focus (exact Sl.mk (by omega))); exact rfl; (focus (decide +kernel)); exact rfl; (focus (omega))) | ((with_reducible apply Step.ix1); exact rfl; (focus (assumption)); exact rfl; (focus (decide +kernel)); exact rfl; (focus (omega))) | ((with_reducible apply Step.lss); exact rfl; exact rfl; exact rfl) | ((with_reducible apply Step.geq); exact rfl; exact rfl; exact rfl) | ((with_reducible apply Step.pickF); exact rfl; exact rfl; exact rfl; exact rfl; (focus (first | rfl | (simp only [decide_eq_true_eq, decide_eq_false_iff_not, Bool.not_eq_true', Bool.not_eq_false', Bool.not_true, Bool.not_false]; first | assumption | omega))))) | (with_reducible refine AWo.nil ?_) | ((with_reducible apply AW.seq)) | ((with_reducible apply Then.n)) | ((with_reducible apply AW.regL)) | ((with_reducible apply AW.block)) | ((with_reducible apply AW.skip)) | ((with_reducible apply AW.condT); exact rfl; (focus (first | rfl | (simp only [decide_eq_true_eq, decide_eq_false_iff_not, Bool.not_eq_true', Bool.not_eq_false', Bool.not_true, Bool.not_false]; first | assumption | omega))))))
          (refine AW.retD (l := [(4, _)]) (by repeat (first | exact trivial | (refine And.intro ⟨rfl, by (exact .bool _)⟩ ?_))) ?_; (repeat (first | refine Then.r ?_ | refine InBlk.r ?_)))
          exact ⟨_, rfl, by rw [bad (.inr c3)], rfl⟩
        · rw [decide_eq_false c3] at hg
          have hs := metL_set (l := l.take k) hi
          (repeat (first | (with_reducible refine AWo.cons ?_) | ((with_reducible refine Step.id ?_); first | ((with_reducible apply Step.gdT); exact rfl; exact rfl; (focus (first | rfl | (simp only [decide_eq_true_eq, decide_eq_false_iff_not, Bool.not_eq_true', Bool.not_eq_false', Bool.not_true, Bool.not_false]; first | assumption | omega)))) | ((with_reducible apply Step.move); exact rfl; exact rfl) | ((with_reducible apply Step.assign); exact rfl; exact rfl) | ((with_reducible apply Step.load); exact rfl; (focus (decide +kernel)); exact rfl; (focus (first | exact Rd.new rfl hg | exact Rd.old _ (by assumption)))) | ((with_reducible apply Step.ix1z); exact rfl; (focus (exact Sl.mk (by omega))); exact rfl; (focus (decide +kernel)); exact rfl; (focus (omega))) | ((with_reducible apply Step.ix1); exact rfl; (focus (assumption)); exact rfl; (focus (decide +kernel)); exact rfl; (focus (omega))) | ((with_reducible apply Step.lss); exact rfl; exact rfl; exact rfl) | ((with_reducible apply Step.geq); exact rfl; exact rfl; exact rfl) | ((with_reducible apply Step.pickF); exact rfl; exact rfl; exact rfl; exact rfl; (focus (first | rfl | (simp only [decide_eq_true_eq, decide_eq_false_iff_not, Bool.not_eq_true', Bool.not_eq_false', Bool.not_true, Bool.not_false]; first | assumption | omega))))) | (with_reducible refine AWo.nil ?_) | ((with_reducible apply AW.seq)) | ((with_reducible apply Then.n)) | ((with_reducible apply AW.regL)) | ((with_reducible apply AW.block)) | ((with_reducible apply AW.skip)) | ((with_reducible apply AW.condT); exact rfl; (focus ((simp only [decide_eq_true_eq, decide_eq_false_iff_not, Bool.not_eq_true', Bool.not_eq_false', Bool.not_true, Bool.not_false]; first | assumption | omega)))) | ((with_reducible apply AW.condF); exact rfl; (focus (rfl)))))
          ((with_reducible apply Step.store (k := 0)); exact rfl; exact rfl; exact rfl; exact rfl; (focus (decide +kernel)); exact rfl; exact rfl; (focus (simp [bv, metL]; omega)); (focus (first | (simp only [List.nil_append, List.cons_append, List.set_cons_zero, List.set_cons_succ, iv_set, bv_set, iv_rep, bv_rep]; done) | (simp only [List.nil_append, List.cons_append, List.set_cons_zero, List.set_cons_succ, iv_set, bv_set, iv_rep, bv_rep]; rfl) | rfl)))
          (repeat (first | (with_reducible refine AWo.cons ?_) | ((with_reducible refine Step.id ?_); first | ((with_reducible apply Step.move); exact rfl; exact rfl) | ((with_reducible apply Step.add); exact rfl; exact rfl; (focus (omega)); exact rfl)) | (with_reducible refine AWo.nil ?_) | ((with_reducible apply Then.n)) | ((with_reducible apply AW.regL)) | ((with_reducible apply InBlk.n))))
          exact ⟨_, _, _, by omega, (Or.inl ⟨rfl, (by repeat (first | exact trivial | (refine And.intro rfl ?_)))⟩), k + 1, rfl, by omega, by rw [ts]; intro y hy; rcases List.mem_append.1 hy with h | h; exact hin y h; simp at h; subst h; omega, by rw [ts, List.nodup_append]; exact ⟨hnd, by simp, fun a ha b hb => by simp at hb; subst hb; exact fun e => c3 (e ▸ ha)⟩, by rw [hs, ← ts], rfl⟩
  · (repeat (first | (with_reducible refine AWo.cons ?_) | ((with_reducible refine Step.id ?_); first | ((with_reducible apply Step.move); exact rfl; exact rfl) | ((with_reducible apply Step.assign); exact rfl; exact rfl) | ((with_reducible apply Step.lss); exact rfl; exact rfl; exact rfl) | ((with_reducible apply Step.eql); exact rfl; exact rfl; exact rfl) | ((with_reducible apply Step.len); exact rfl; (focus (assumption)); (focus (decide +kernel)); exact rfl)) | (with_reducible refine AWo.nil ?_) | ((with_reducible apply AW.seq)) | ((with_reducible apply Then.n)) | ((with_reducible apply AW.regL)) | ((with_reducible apply AW.exit)) | ((with_reducible apply InBlk.hit)) | ((with_reducible apply Then.e)) | ((with_reducible apply AW.condF); exact rfl; (focus ((simp only [decide_eq_true_eq, decide_eq_false_iff_not, Bool.not_eq_true', Bool.not_eq_false', Bool.not_true, Bool.not_false]; first | assumption | omega))))))
    (refine AW.retD (l := [(4, _)]) (by repeat (first | exact trivial | (refine And.intro ⟨rfl, by (exact .bool _)⟩ ?_))) ?_; (repeat (first | refine Then.r ?_ | refine InBlk.r ?_)))
    rw [List.take_of_length_le hge] at hin hnd
    refine ⟨_, rfl, ?_, rfl⟩
    by_cases hn' : l.length = n
    · rw [orderB_iff.2 ⟨hn', hin, hnd⟩, decide_eq_true (by omega)]
    · have : orderB l n = false := by rw [Bool.eq_false_iff]; exact fun e => hn' (orderB_iff.1 e).1
      rw [this, decide_eq_false (by omega)]
end Go.Proofs.Ytmomjannlnafcaa.Abs
namespace Go.Proofs.Ytmomjannlnafcaa.Abs
set_option linter.unusedSimpArgs false
set_option linter.unusedVariables false
open Go.RowKit
open Go.Proofs.Ytmomjannlnafcaa.Sim
open Go.ChangeShapes Go.WideShapes Go.Deep
/-- An argument with the cells that it shows. -/
abbrev AR := Value × List Value
def mkP : AR → Option Sim.Place
  | (.slice (some a) n cap, _) => some ⟨a.block, a.off, cap - n⟩
  | _ => none
section
variable {H : Type} {enc : TypeId × Value → H} {P : Program} {w : World} {base : Nat} {spare : Nat → Bool} {held : Bool}
theorem ok_slice {r : Reach} {b0 : Nat} {T e : TypeId} {a : Option Addr} {n c : Nat} (ht : P.underlying T = some (.slice e)) (h : Value.okWide P w r b0 T (.slice a n c)) : (a = none ∧ n = 0 ∧ c = 0) ∨ ∃ b o, a = some ⟨b, o, none⟩ ∧ n ≤ c ∧ b < w.heap.size := by
  simp only [Value.okWide, ht, Cell.okWide, Cell.ok] at h
  cases a with
  | none =>
    cases n <;> cases c <;> simp_all
  | some x =>
    obtain ⟨h1, _, h3⟩ := h
    obtain ⟨_, hs, row, cells, hsh, _⟩ := h3
    obtain ⟨b, o, s⟩ := x
    simp only at hs
    subst hs
    refine .inr ⟨b, o, rfl, h1, ?_⟩
    simp only [World.shape?] at hsh
    rcases Nat.lt_or_ge b w.heap.size with hlt | hge
    · exact hlt
    · rw [Array.getElem?_eq_none hge] at hsh; cases hsh
theorem open_slice_fields {t e : TypeId} {fs : Array Field} {fuel : Nat} {cs : List Value} {x : DataW H × List MemPlace} (ht : P.underlying t = some (.slice e)) (he : P.underlying e = some (.struct fs))
    (hone : oneCellFields P fs = true) (hC : P.cellsOf e = fs.size) (h : DataW.trod enc P w base spare held fuel t cs = some x) :
    (cs = [.slice none 0 0] ∧ x = (.nil, [])) ∨
    ∃ (a : Addr) (len cap m : Nat) (D : Nat → DataW H) (Pl : Nat → List MemPlace), cs = [.slice (some a) len cap] ∧ base ≤ a.block ∧ len ≤ cap ∧ cap ≤ maxLen ∧ m = (if spare a.block then cap else len) ∧
      x = (.slice ((List.range len).map D) ((List.range (m - len)).map fun j => D (len + j)), MemPlace.row a (m * fs.size) ++ (List.range m).flatMap Pl) ∧
      ∀ i, i < m → ∃ (ys : List (DataW H × List MemPlace)) (n : Nat), D i = .agg (ys.map (·.1)) ∧ Pl i = ys.flatMap (·.2) ∧ ys.length = fs.size ∧
        ∀ (j : Nat) (f : Field), fs[j]? = some f → ∃ (v : Value) (y : DataW H × List MemPlace), w.cell? (a.add (i * fs.size + j)) = some v ∧ ys[j]? = some y ∧ DataW.trod enc P w base spare held n f.type [v] = some y := by
  rcases open_slice ht h with h0 | ⟨a, len, cap, m, n, D, Pl, hcs, hb, hl, hm, hmm, hx, hi⟩
  · exact .inl h0
  · refine .inr ⟨a, len, cap, m, D, Pl, hcs, hb, hl, hm, hmm, by rw [hC] at hx; exact hx, fun i him => ?_⟩
    obtain ⟨cs', hc, ht'⟩ := hi i him
    rw [hC] at hc
    obtain ⟨ys, n', hn', hy, hlen, hyl, hf⟩ := DataW.trod_struct he ht'
    obtain ⟨_, hcl, hat⟩ := World.cells?_some hc
    simp only [Prod.mk.injEq] at hy
    refine ⟨ys, n', hy.1, hy.2, hyl, fun j f hj => ?_⟩
    obtain ⟨ho, hk⟩ := hone_of hone j f hj
    have hjl : j < fs.size := (Array.getElem?_eq_some_iff.1 hj).1
    have hcell := hat j hjl
    have hv : cs'[j]? = some (cs'[j]'(by omega)) := List.getElem?_eq_getElem (by omega)
    have h1 := hf j f hj
    rw [ho, hk] at h1
    have hone' : (cs'.drop j).take 1 = [cs'[j]'(by omega)] := by
      rw [List.drop_eq_getElem_cons (by omega)]
      rfl
    rw [hone'] at h1
    have hys : ys[j]? = some (ys[j]'(by omega)) := List.getElem?_eq_getElem (by omega)
    refine ⟨_, _, ?_, hys, h1.trans hys⟩
    rw [← Go.Deep.add_add, hcell, hv]
end
end Go.Proofs.Ytmomjannlnafcaa.Abs
namespace Go.Proofs.Ytmomjannlnafcaa.Abs
set_option linter.unusedSimpArgs false
set_option linter.unusedVariables false
open Go.RowKit
open Go.Proofs.Ytmomjannlnafcaa.Sim
open Go.Proofs
theorem awake_ok {m : AM} : ACall Try.prog 24 #[] m (Ret (.bool true) m) :=
  (ACall.of_calls (by kernel_rfl) (by kernel_rfl) fun w => closed_call fit (n := 400) (by kernel_rfl) (by kernel_rfl) (by kernel_rfl) w).mono fun _ _ ⟨a, b⟩ => ⟨a.symm, b.symm⟩
end Go.Proofs.Ytmomjannlnafcaa.Abs
namespace Go.Proofs.Ytmomjannlnafcaa.Abs
set_option linter.unusedSimpArgs false
set_option linter.unusedVariables false
open Go.RowKit
open Go.Proofs.Ytmomjannlnafcaa.Sim
open Go.Proofs
def totJ (j : List Job) (P : List Nat) : Nat → Int
  | 0 => 0
  | q + 1 => totJ j P q + tmJ j (P.getD q 0)
def endsR (j : List Job) (P : List Nat) : Nat → List Int
  | 0 => List.replicate j.length 0
  | q + 1 => (endsR j P q).set (P.getD q 0) (totJ j P (q + 1))
theorem endsR_len (j : List Job) (P : List Nat) : ∀ q, (endsR j P q).length = j.length
  | 0 => by simp [endsR]
  | q + 1 => by rw [endsR, List.length_set, endsR_len j P q]
theorem totJ_bd {j : List Job} (h : JOk j) {P : List Nat} (hin : ∀ k, k < P.length → P.getD k 0 < j.length) : ∀ q, q ≤ P.length → (q : Int) ≤ totJ j P q ∧ totJ j P q ≤ 10000 * q
  | 0, _ => by simp [totJ]
  | q + 1, hq => by
    have h1 := totJ_bd h hin q (by omega)
    have h2 := h.num _ (hin q (by omega))
    simp only [totJ, tmJ]
    omega
theorem getDs (l : List Int) (i k : Nat) (x : Int) (h : i < l.length) : (l.set i x).getD k 0 = if i = k then x else l.getD k 0 := by
  simp only [List.getD_eq_getElem?_getD, List.getElem?_set]
  by_cases e : i = k
  · subst e; simp [h]
  · simp [e]
theorem take_succ_mem {P : List Nat} {q i : Nat} (h : q < P.length) : i ∈ P.take (q + 1) ↔ i ∈ P.take q ∨ i = P.getD q 0 := by
  rw [take_snoc P q 0 h]; simp
theorem endsR_zero {j : List Job} (h : JOk j) {P : List Nat} (hin : ∀ k, k < P.length → P.getD k 0 < j.length) {i : Nat} (hi : i < j.length) : ∀ q, q ≤ P.length → ((endsR j P q).getD i 0 ≠ 0 ↔ i ∈ P.take q)
  | 0, _ => by simp [endsR, hi]
  | q + 1, hq => by
    have ih := endsR_zero h hin hi q (by omega)
    have ht := totJ_bd h hin (q + 1) hq
    rw [take_succ_mem hq, endsR, getDs _ _ _ _ (by rw [endsR_len]; exact hin q (by omega))]
    by_cases e : P.getD q 0 = i
    · rw [if_pos e]
      simp only [e, or_true, iff_true]
      omega
    · rw [if_neg e, ih]
      exact ⟨.inl, fun h => h.elim id fun h => absurd h.symm e⟩
/-- Place q of an order is right: all of its job's After come before it. -/
def alOk (j : List Job) (P : List Nat) (q : Nat) : Bool := (aft j (P.getD q 0)).all fun a => decide (a.toNat ∈ P.take q)
def allowB (j : List Job) (P : List Nat) : Bool := (List.range P.length).all (alOk j P)
theorem allowB_not {j : List Job} {P : List Nat} {q : Nat} (hq : q < P.length) (h : alOk j P q = false) : allowB j P = false := by
  unfold allowB
  rw [List.all_eq_false]
  exact ⟨q, by simpa using hq, by rw [h]; exact Bool.false_ne_true⟩
theorem allowB_of {j : List Job} {P : List Nat} (h : ∀ q, q < P.length → alOk j P q = true) : allowB j P = true := by
  unfold allowB
  rw [List.all_eq_true]
  intro q hq
  exact h q (by simpa using hq)
def allowedB (j : List Job) (l : List Int) : Bool := orderB l j.length && allowB j (nat l)
set_option maxRecDepth 100000 in
theorem f95_ok {m : AM} {p r n : Nat} {row : List Int} (a : Int) (ha : 0 ≤ a ∧ a < n) (hp : Rd m p 0 (.slice (some ⟨r, 0, none⟩) n n)) (hb : ∀ i, i < n → Rd m r i (.int .i64 (row.getD i 0))) : ACall Try.prog 95 #[.int .i64 a, .pointer (some ⟨p, 0, none⟩)] m (Ret (.bool (!decide (row.getD a.toNat 0 ≠ 0))) m) := by
  obtain ⟨k, rfl⟩ := Int.eq_ofNat_of_zero_le ha.1
  have hr := hb k (by omega)
  refine ACall.start Try.func95 rfl rfl ?_
  rw [← List.append_nil m] at hp hr
  (repeat (first | (with_reducible refine AWo.cons ?_) | ((with_reducible refine Step.id ?_); first | ((with_reducible apply Step.move); exact rfl; exact rfl) | ((with_reducible apply Step.assign); exact rfl; exact rfl) | ((with_reducible apply Step.load); exact rfl; (focus (decide +kernel)); exact rfl; (focus (assumption))) | ((with_reducible apply Step.ix1z); exact rfl; (focus (exact Sl.mk (by omega))); exact rfl; (focus (decide +kernel)); exact rfl; (focus (omega))) | ((with_reducible apply Step.eql); exact rfl; exact rfl; exact rfl)) | (with_reducible refine AWo.nil ?_) | ((with_reducible apply AW.seq)) | ((with_reducible apply Then.n)) | ((with_reducible apply AW.regL))))
  (refine AW.retD (l := [(3, _)]) (by repeat (first | exact trivial | (refine And.intro ⟨rfl, by (exact .bool _)⟩ ?_))) ?_; (repeat (first | refine Then.r ?_ | refine InBlk.r ?_)))
  exact ⟨_, rfl, by simp, rfl⟩
theorem mem_getD {l : List Int} {k : Nat} (h : k < l.length) : l.getD k 0 ∈ l := by
  rw [List.getD_eq_getElem?_getD, List.getElem?_eq_getElem h]; exact List.getElem_mem h
theorem all_congr {l : List Int} {f g : Int → Bool} (h : ∀ a ∈ l, f a = g a) : l.all f = l.all g := by
  rw [Bool.eq_iff_iff, List.all_eq_true, List.all_eq_true]
  exact ⟨fun k a ha => by rw [← h a ha]; exact k a ha, fun k a ha => by rw [h a ha]; exact k a ha⟩
set_option maxHeartbeats 2000000 in
set_option maxRecDepth 100000 in
theorem Ends_ok {m : AM} {v u : Value} {j : List Job} {l : List Int} (hj : Jobs m v j) (hl : Ints m u l) (hok : jobsB j = true) (hn : (sortL j).length = j.length) (ho : orderB l j.length = true) (hal : allowB j (nat l) = true) {row : List Int} (hrow : endsR j (nat l) l.length = row) :
    ACall Try.prog 57 #[v, u] m (NewT (fun N => .tuple #[.slice (some ⟨N, 0, none⟩) j.length j.length, .int .i64 0]) (some { cells := iv row }) m) := by
  subst hrow
  have hJ := JOk.of hok
  have h40 := hJ.len
  obtain ⟨a, o, h1, h2, h3⟩ := id hj
  obtain ⟨b, z, k1, k2, k3⟩ := id hl
  have hll := (orderB_iff.1 ho).1
  have hlt := nat_lt ho
  have hnl := nat_len l
  refine ACall.start Try.func57 rfl rfl ?_
  (repeat (first | (with_reducible refine AWo.cons ?_) | ((with_reducible refine Step.id ?_); first | ((with_reducible apply Step.move); exact rfl; exact rfl) | ((with_reducible apply Step.assign); exact rfl; exact rfl) | ((with_reducible apply Step.neq); exact rfl; exact rfl; exact rfl) | ((with_reducible apply Step.len); exact rfl; (focus (assumption)); (focus (decide +kernel)); exact rfl) | ((with_reducible apply Step.not); exact rfl; exact rfl) | ((with_reducible apply Step.extract); exact rfl; exact rfl; exact rfl) | ((with_reducible apply Step.callT fit (k := 0)); exact rfl; exact rfl; exact Try.func78; exact rfl; exact rfl; exact (checked_ok (hj.old []) hok hn); (focus (first | (simp only [List.nil_append, List.cons_append, List.set_cons_zero, List.set_cons_succ, iv_set, bv_set, iv_rep, bv_rep]; done) | (simp only [List.nil_append, List.cons_append, List.set_cons_zero, List.set_cons_succ, iv_set, bv_set, iv_rep, bv_rep]; rfl) | rfl))) | ((with_reducible apply Step.callR fit); exact rfl; exact Try.func90; exact rfl; exact rfl; exact (order_ok j.length (hl.old _) (by omega) ho)) | ((with_reducible apply Step.make1 1); exact rfl; exact rfl; exact rfl; exact el23; (focus (omega)); exact rfl; (focus (first | (simp only [List.nil_append, List.cons_append, List.set_cons_zero, List.set_cons_succ, iv_set, bv_set, iv_rep, bv_rep]; done) | (simp only [List.nil_append, List.cons_append, List.set_cons_zero, List.set_cons_succ, iv_set, bv_set, iv_rep, bv_rep]; rfl) | rfl))) | ((with_reducible apply Step.alloc 2); exact rfl; exact ze23; exact rfl; (focus (first | (simp only [List.nil_append, List.cons_append, List.set_cons_zero, List.set_cons_succ, iv_set, bv_set, iv_rep, bv_rep]; done) | (simp only [List.nil_append, List.cons_append, List.set_cons_zero, List.set_cons_succ, iv_set, bv_set, iv_rep, bv_rep]; rfl) | rfl))) | ((with_reducible apply Step.store (k := 2)); exact rfl; exact rfl; exact rfl; exact rfl; (focus (decide +kernel)); exact rfl; exact rfl; (focus (first | omega | (simp [iv, bv]; done) | (simp [iv, bv]; omega))); (focus (first | (simp only [List.nil_append, List.cons_append, List.set_cons_zero, List.set_cons_succ, iv_set, bv_set, iv_rep, bv_rep]; done) | (simp only [List.nil_append, List.cons_append, List.set_cons_zero, List.set_cons_succ, iv_set, bv_set, iv_rep, bv_rep]; rfl) | rfl)))) | (with_reducible refine AWo.nil ?_) | ((with_reducible apply AW.seq)) | ((with_reducible apply Then.n)) | ((with_reducible apply AW.regL)) | ((with_reducible apply AW.block)) | ((with_reducible apply AW.skip)) | ((with_reducible apply AW.condF); exact rfl; (focus (rfl)))))
  refine AW.loopT (fun n' t L => ∃ q : Nat, n' = l.length - q ∧ q ≤ l.length ∧ L = [gb (iv (nv (sortL j))) 1, some { cells := iv (endsR j (nat l) q) }, some { cells := [.slice (some ⟨m.length + 1, 0, none⟩) j.length j.length] }] ∧
    t = [(0, v), (8, .pointer (some ⟨m.length + 2, 0, none⟩)), (9, .int .i64 (totJ j (nat l) q)), (28, u), (29, .int .i64 (l.length : Nat)), (30, .int .i64 (q : Nat))]) ⟨_, _, _, (Or.inl ⟨rfl, (by repeat (first | exact trivial | (refine And.intro rfl ?_)))⟩), 0, rfl, Nat.zero_le _, rfl, rfl⟩ ?_
  rintro n' t L ⟨q, rfl, hq, rfl, rfl⟩
  rcases Nat.lt_or_ge q l.length with hql | hge
  · have hqn : q < (nat l).length := by omega
    have hi := hlt q hqn
    obtain ⟨w, hr, hw⟩ := h3 _ hi
    obtain ⟨wa, wo, w1, w2, w3⟩ := id hw
    have hnum := hJ.num _ hi
    have hlen := hJ.alen hi
    have hmem := fun a ha => hJ.mem hi (a := a) ha
    have t1 := totJ_bd hJ hlt q (by omega)
    have t2 := totJ_bd hJ hlt (q + 1) hqn
    have le := endsR_len j (nat l) q
    have z0 := fun i hi => endsR_zero hJ hlt (i := i) hi q (by omega)
    have al : alOk j (nat l) q = true := by
      have := List.all_eq_true.1 hal q (by simpa using hqn)
      exact this
    have st : endsR j (nat l) (q + 1) = (endsR j (nat l) q).set ((nat l).getD q 0) (totJ j (nat l) (q + 1)) := rfl
    have tt : totJ j (nat l) (q + 1) = totJ j (nat l) q + tmJ j ((nat l).getD q 0) := rfl
    simp only [alOk, aft, tmJ] at *
    rw [tt] at st t2
    generalize hI : (nat l).getD q 0 = i at *
    generalize j.getD i default = x at *
    obtain ⟨x1, x2, x3, af⟩ := x
    simp only [Job.cells] at *
    generalize hrow : endsR j (nat l) q = row at *
    have call := f94_ok (m := m ++ [gb (iv (nv (sortL j))) 1, some { cells := iv row }, some { cells := [.slice (some ⟨m.length + 1, 0, none⟩) j.length j.length] }]) (v := w) (l := af) (g := 95) (cap := #[.pointer (some ⟨m.length + 2, 0, none⟩)]) (hw.old _) Try.func95 rfl (fun k => !decide (row.getD (af.getD k 0).toNat 0 ≠ 0)) (by omega)
      (fun k hk => f95_ok (row := row) (af.getD k 0) (hmem _ (mem_getD hk)) (Rd.new (k := 2) rfl rfl) (fun i hi => Rd.new (k := 1) rfl (iv_get (by omega))))
      (any_all af 0 (fun a => decide (row.getD a.toNat 0 ≠ 0)))
    have hall : af.all (fun a => decide (row.getD a.toNat 0 ≠ 0)) = true := by
      rw [← al]
      refine all_congr fun a ha => ?_
      have hm := hmem a ha
      rw [decide_eq_decide]
      exact z0 a.toNat (by omega)
    rw [hall] at call
    have hrl : Rd m b (z + q) (.int .i64 (i : Nat)) := by
      have := k3 q hql
      have e : l.getD q 0 = (i : Int) := by
        have h0 := (orderB_iff.1 ho).2.1 (l.getD q 0) (mem_getD hql)
        have := nat_get hql
        rw [hI] at this
        omega
      rwa [e] at this
    (repeat (first | (with_reducible refine AWo.cons ?_) | ((with_reducible refine Step.id ?_); first | ((with_reducible apply Step.move); exact rfl; exact rfl) | ((with_reducible apply Step.assign); exact rfl; exact rfl) | ((with_reducible apply Step.load); exact rfl; (focus (decide +kernel)); exact rfl; (focus (first | exact Rd.new rfl rfl | exact Rd.old _ (by assumption) | exact Rd.old _ (hr.at_ 0 rfl) | exact Rd.old _ (hr.at_ 3 rfl)))) | ((with_reducible apply Step.ix1z); exact rfl; (focus (exact Sl.mk (by omega))); exact rfl; (focus (decide +kernel)); exact rfl; (focus (omega))) | ((with_reducible apply Step.ix1); exact rfl; (focus (assumption)); exact rfl; (focus (decide +kernel)); exact rfl; (focus (omega))) | ((with_reducible apply Step.ix (s := 4)); exact rfl; (focus (assumption)); exact rfl; (focus (decide +kernel)); exact rfl; (focus (omega))) | ((with_reducible apply Step.field0); exact rfl; (focus (decide +kernel)); exact rfl) | ((with_reducible apply Step.field (k := 3)); exact rfl; (focus (decide +kernel)); exact rfl) | ((with_reducible apply Step.add); exact rfl; exact rfl; (focus (omega)); exact rfl) | ((with_reducible apply Step.lss); exact rfl; exact rfl; exact rfl) | ((with_reducible apply Step.fn); exact rfl; exact rfl; exact rfl) | ((with_reducible apply Step.callR fit); exact rfl; exact Try.func94; exact rfl; exact rfl; exact (call)) | ((with_reducible apply Step.store (k := 1)); exact rfl; exact rfl; exact rfl; exact rfl; (focus (decide +kernel)); exact rfl; exact rfl; (focus (first | omega | (simp [iv, bv]; done) | (simp [iv, bv]; omega))); (focus (first | (simp only [List.nil_append, List.cons_append, List.set_cons_zero, List.set_cons_succ, iv_set, bv_set, iv_rep, bv_rep]; done) | (simp only [List.nil_append, List.cons_append, List.set_cons_zero, List.set_cons_succ, iv_set, bv_set, iv_rep, bv_rep]; rfl) | rfl)))) | (with_reducible refine AWo.nil ?_) | ((with_reducible apply AW.seq)) | ((with_reducible apply Then.n)) | ((with_reducible apply AW.regL)) | ((with_reducible apply AW.block)) | ((with_reducible apply InBlk.n)) | ((with_reducible apply AW.skip)) | ((with_reducible apply AW.condT); exact rfl; (focus ((simp only [decide_eq_true_eq, decide_eq_false_iff_not, Bool.not_eq_true', Bool.not_eq_false', Bool.not_true, Bool.not_false]; first | assumption | omega)))) | ((with_reducible apply AW.condF); exact rfl; (focus (rfl)))))
    exact ⟨_, [(0, v), (8, .pointer (some ⟨m.length + 2, 0, none⟩)), (9, .int .i64 (totJ j (nat l) q + x1)), (28, u), (29, .int .i64 (l.length : Nat)), (30, .int .i64 (q + 1 : Nat))], _, by omega, (Or.inl ⟨rfl, (by repeat (first | exact trivial | (refine And.intro rfl ?_)))⟩), q + 1, rfl, by omega, by rw [st], by rw [tt]⟩
  · obtain rfl : q = l.length := by omega
    (repeat (first | (with_reducible refine AWo.cons ?_) | ((with_reducible refine Step.id ?_); first | ((with_reducible apply Step.assign); exact rfl; exact rfl) | ((with_reducible apply Step.load); exact rfl; (focus (decide +kernel)); exact rfl; (focus (exact Rd.new rfl rfl))) | ((with_reducible apply Step.lss); exact rfl; exact rfl; exact rfl)) | (with_reducible refine AWo.nil ?_) | ((with_reducible apply AW.seq)) | ((with_reducible apply Then.n)) | ((with_reducible apply AW.regL)) | ((with_reducible apply AW.exit)) | ((with_reducible apply InBlk.hit)) | ((with_reducible apply Then.e)) | ((with_reducible apply AW.condF); exact rfl; (focus ((simp only [decide_eq_true_eq, decide_eq_false_iff_not, Bool.not_eq_true', Bool.not_eq_false', Bool.not_true, Bool.not_false]; first | assumption | omega))))))
    refine AW.retB (l := [(4, .slice (some ⟨m.length + 0, 0, none⟩) j.length j.length), (5, .int .i64 0)]) (L1 := [some { cells := iv (endsR j (nat l) l.length) }]) (Back.mvC 0 1 rfl rfl rfl rfl (by intro j b hj h; rcases j with _ | _ | _ | _ | _ | _ | _ | _ | j <;> first | exact absurd rfl hj | exact h | (simp at h; done)) (by repeat (first | exact CellsP.nil | (refine CellsP.cons ?_ ?_; (focus (exact cells_iv _))))) (by repeat (first | exact trivial | (refine And.intro ⟨_, rfl, by (first | exact .int _ _ | exact Ren.slice_mv (by first | (simp; done) | omega | (simp; omega)))⟩ ?_)))) ?_
    exact ⟨_, rfl, rfl, rfl⟩
end Go.Proofs.Ytmomjannlnafcaa.Abs
namespace Go.Proofs.Ytmomjannlnafcaa.Abs
set_option linter.unusedSimpArgs false
set_option linter.unusedVariables false
open Go.RowKit
open Go.Proofs.Ytmomjannlnafcaa.Sim
open Go.Proofs
set_option maxHeartbeats 2000000 in
set_option maxRecDepth 100000 in
theorem Ends_bad {m : AM} {v u : Value} {j : List Job} {l : List Int} (hj : Jobs m v j) (hl : Ints m u l) (hok : jobsB j = true) (hn : (sortL j).length = j.length) (ho : orderB l j.length = true) (hal : allowB j (nat l) = false) :
    ACall Try.prog 57 #[v, u] m (Ret (.tuple #[.slice none 0 0, .int .i64 6]) m) := by
  have hJ := JOk.of hok
  have h40 := hJ.len
  obtain ⟨a, o, h1, h2, h3⟩ := id hj
  obtain ⟨b, z, k1, k2, k3⟩ := id hl
  have hll := (orderB_iff.1 ho).1
  have hlt := nat_lt ho
  have hnl := nat_len l
  refine ACall.start Try.func57 rfl rfl ?_
  (repeat (first | (with_reducible refine AWo.cons ?_) | ((with_reducible refine Step.id ?_); first | ((with_reducible apply Step.move); exact rfl; exact rfl) | ((with_reducible apply Step.assign); exact rfl; exact rfl) | ((with_reducible apply Step.neq); exact rfl; exact rfl; exact rfl) | ((with_reducible apply Step.len); exact rfl; (focus (assumption)); (focus (decide +kernel)); exact rfl) | ((with_reducible apply Step.not); exact rfl; exact rfl) | ((with_reducible apply Step.extract); exact rfl; exact rfl; exact rfl) | ((with_reducible apply Step.callT fit (k := 0)); exact rfl; exact rfl; exact Try.func78; exact rfl; exact rfl; exact (checked_ok (hj.old []) hok hn); (focus (first | (simp only [List.nil_append, List.cons_append, List.set_cons_zero, List.set_cons_succ, iv_set, bv_set, iv_rep, bv_rep]; done) | (simp only [List.nil_append, List.cons_append, List.set_cons_zero, List.set_cons_succ, iv_set, bv_set, iv_rep, bv_rep]; rfl) | rfl))) | ((with_reducible apply Step.callR fit); exact rfl; exact Try.func90; exact rfl; exact rfl; exact (order_ok j.length (hl.old _) (by omega) ho)) | ((with_reducible apply Step.make1 1); exact rfl; exact rfl; exact rfl; exact el23; (focus (omega)); exact rfl; (focus (first | (simp only [List.nil_append, List.cons_append, List.set_cons_zero, List.set_cons_succ, iv_set, bv_set, iv_rep, bv_rep]; done) | (simp only [List.nil_append, List.cons_append, List.set_cons_zero, List.set_cons_succ, iv_set, bv_set, iv_rep, bv_rep]; rfl) | rfl))) | ((with_reducible apply Step.alloc 2); exact rfl; exact ze23; exact rfl; (focus (first | (simp only [List.nil_append, List.cons_append, List.set_cons_zero, List.set_cons_succ, iv_set, bv_set, iv_rep, bv_rep]; done) | (simp only [List.nil_append, List.cons_append, List.set_cons_zero, List.set_cons_succ, iv_set, bv_set, iv_rep, bv_rep]; rfl) | rfl))) | ((with_reducible apply Step.store (k := 2)); exact rfl; exact rfl; exact rfl; exact rfl; (focus (decide +kernel)); exact rfl; exact rfl; (focus (first | omega | (simp [iv, bv]; done) | (simp [iv, bv]; omega))); (focus (first | (simp only [List.nil_append, List.cons_append, List.set_cons_zero, List.set_cons_succ, iv_set, bv_set, iv_rep, bv_rep]; done) | (simp only [List.nil_append, List.cons_append, List.set_cons_zero, List.set_cons_succ, iv_set, bv_set, iv_rep, bv_rep]; rfl) | rfl)))) | (with_reducible refine AWo.nil ?_) | ((with_reducible apply AW.seq)) | ((with_reducible apply Then.n)) | ((with_reducible apply AW.regL)) | ((with_reducible apply AW.block)) | ((with_reducible apply AW.skip)) | ((with_reducible apply AW.condF); exact rfl; (focus (rfl)))))
  refine AW.loopT (fun n' t L => ∃ q : Nat, n' = l.length - q ∧ q ≤ l.length ∧ (∀ i, i < q → alOk j (nat l) i = true) ∧ L = [gb (iv (nv (sortL j))) 1, some { cells := iv (endsR j (nat l) q) }, some { cells := [.slice (some ⟨m.length + 1, 0, none⟩) j.length j.length] }] ∧
    t = [(0, v), (8, .pointer (some ⟨m.length + 2, 0, none⟩)), (9, .int .i64 (totJ j (nat l) q)), (28, u), (29, .int .i64 (l.length : Nat)), (30, .int .i64 (q : Nat))]) ⟨_, _, _, (Or.inl ⟨rfl, (by repeat (first | exact trivial | (refine And.intro rfl ?_)))⟩), 0, rfl, Nat.zero_le _, by omega, rfl, rfl⟩ ?_
  rintro n' t L ⟨q, rfl, hq, hbef, rfl, rfl⟩
  rcases Nat.lt_or_ge q l.length with hql | hge
  · have hqn : q < (nat l).length := by omega
    have hi := hlt q hqn
    obtain ⟨w, hr, hw⟩ := h3 _ hi
    obtain ⟨wa, wo, w1, w2, w3⟩ := id hw
    have hnum := hJ.num _ hi
    have hlen := hJ.alen hi
    have hmem := fun a ha => hJ.mem hi (a := a) ha
    have t1 := totJ_bd hJ hlt q (by omega)
    have t2 := totJ_bd hJ hlt (q + 1) hqn
    have le := endsR_len j (nat l) q
    have z0 := fun i hi => endsR_zero hJ hlt (i := i) hi q (by omega)
    have al : alOk j (nat l) q = (aft j ((nat l).getD q 0)).all fun a => decide (a.toNat ∈ (nat l).take q) := rfl
    have next : alOk j (nat l) q = true → ∀ i, i < q + 1 → alOk j (nat l) i = true := fun e i hi => by
      rcases Nat.lt_succ_iff_lt_or_eq.1 hi with h | h
      · exact hbef i h
      · rw [h]; exact e
    have st : endsR j (nat l) (q + 1) = (endsR j (nat l) q).set ((nat l).getD q 0) (totJ j (nat l) (q + 1)) := rfl
    have tt : totJ j (nat l) (q + 1) = totJ j (nat l) q + tmJ j ((nat l).getD q 0) := rfl
    simp only [aft, tmJ] at *
    rw [tt] at st t2
    generalize hI : (nat l).getD q 0 = i at *
    generalize j.getD i default = x at *
    obtain ⟨x1, x2, x3, af⟩ := x
    simp only [Job.cells] at *
    generalize hrow : endsR j (nat l) q = row at *
    have call := f94_ok (m := m ++ [gb (iv (nv (sortL j))) 1, some { cells := iv row }, some { cells := [.slice (some ⟨m.length + 1, 0, none⟩) j.length j.length] }]) (v := w) (l := af) (g := 95) (cap := #[.pointer (some ⟨m.length + 2, 0, none⟩)]) (hw.old _) Try.func95 rfl (fun k => !decide (row.getD (af.getD k 0).toNat 0 ≠ 0)) (by omega)
      (fun k hk => f95_ok (row := row) (af.getD k 0) (hmem _ (mem_getD hk)) (Rd.new (k := 2) rfl rfl) (fun i hi => Rd.new (k := 1) rfl (iv_get (by omega))))
      (any_all af 0 (fun a => decide (row.getD a.toNat 0 ≠ 0)))
    have hall : af.all (fun a => decide (row.getD a.toNat 0 ≠ 0)) = alOk j (nat l) q := by
      rw [al]
      refine all_congr fun a ha => ?_
      have hm := hmem a ha
      rw [decide_eq_decide]
      exact z0 a.toNat (by omega)
    rw [hall] at call
    have hrl : Rd m b (z + q) (.int .i64 (i : Nat)) := by
      have := k3 q hql
      have e : l.getD q 0 = (i : Int) := by
        have h0 := (orderB_iff.1 ho).2.1 (l.getD q 0) (mem_getD hql)
        have := nat_get hql
        rw [hI] at this
        omega
      rwa [e] at this
    cases hok' : alOk j (nat l) q with
    | true =>
      rw [hok'] at call
      (repeat (first | (with_reducible refine AWo.cons ?_) | ((with_reducible refine Step.id ?_); first | ((with_reducible apply Step.move); exact rfl; exact rfl) | ((with_reducible apply Step.assign); exact rfl; exact rfl) | ((with_reducible apply Step.load); exact rfl; (focus (decide +kernel)); exact rfl; (focus (first | exact Rd.new rfl rfl | exact Rd.old _ (by assumption) | exact Rd.old _ (hr.at_ 0 rfl) | exact Rd.old _ (hr.at_ 3 rfl)))) | ((with_reducible apply Step.ix1z); exact rfl; (focus (exact Sl.mk (by omega))); exact rfl; (focus (decide +kernel)); exact rfl; (focus (omega))) | ((with_reducible apply Step.ix1); exact rfl; (focus (assumption)); exact rfl; (focus (decide +kernel)); exact rfl; (focus (omega))) | ((with_reducible apply Step.ix (s := 4)); exact rfl; (focus (assumption)); exact rfl; (focus (decide +kernel)); exact rfl; (focus (omega))) | ((with_reducible apply Step.field0); exact rfl; (focus (decide +kernel)); exact rfl) | ((with_reducible apply Step.field (k := 3)); exact rfl; (focus (decide +kernel)); exact rfl) | ((with_reducible apply Step.add); exact rfl; exact rfl; (focus (omega)); exact rfl) | ((with_reducible apply Step.lss); exact rfl; exact rfl; exact rfl) | ((with_reducible apply Step.fn); exact rfl; exact rfl; exact rfl) | ((with_reducible apply Step.callR fit); exact rfl; exact Try.func94; exact rfl; exact rfl; exact (call)) | ((with_reducible apply Step.store (k := 1)); exact rfl; exact rfl; exact rfl; exact rfl; (focus (decide +kernel)); exact rfl; exact rfl; (focus (first | omega | (simp [iv, bv]; done) | (simp [iv, bv]; omega))); (focus (first | (simp only [List.nil_append, List.cons_append, List.set_cons_zero, List.set_cons_succ, iv_set, bv_set, iv_rep, bv_rep]; done) | (simp only [List.nil_append, List.cons_append, List.set_cons_zero, List.set_cons_succ, iv_set, bv_set, iv_rep, bv_rep]; rfl) | rfl)))) | (with_reducible refine AWo.nil ?_) | ((with_reducible apply AW.seq)) | ((with_reducible apply Then.n)) | ((with_reducible apply AW.regL)) | ((with_reducible apply AW.block)) | ((with_reducible apply InBlk.n)) | ((with_reducible apply AW.skip)) | ((with_reducible apply AW.condT); exact rfl; (focus ((simp only [decide_eq_true_eq, decide_eq_false_iff_not, Bool.not_eq_true', Bool.not_eq_false', Bool.not_true, Bool.not_false]; first | assumption | omega)))) | ((with_reducible apply AW.condF); exact rfl; (focus (rfl)))))
      exact ⟨_, [(0, v), (8, .pointer (some ⟨m.length + 2, 0, none⟩)), (9, .int .i64 (totJ j (nat l) q + x1)), (28, u), (29, .int .i64 (l.length : Nat)), (30, .int .i64 (q + 1 : Nat))], _, by omega, (Or.inl ⟨rfl, (by repeat (first | exact trivial | (refine And.intro rfl ?_)))⟩), q + 1, rfl, by omega, next hok', by rw [st], by rw [tt]⟩
    | false =>
      rw [hok'] at call
      (repeat (first | (with_reducible refine AWo.cons ?_) | ((with_reducible refine Step.id ?_); first | ((with_reducible apply Step.move); exact rfl; exact rfl) | ((with_reducible apply Step.assign); exact rfl; exact rfl) | ((with_reducible apply Step.load); exact rfl; (focus (decide +kernel)); exact rfl; (focus (first | exact Rd.old _ (by assumption) | exact Rd.old _ (hr.at_ 3 rfl)))) | ((with_reducible apply Step.ix1); exact rfl; (focus (assumption)); exact rfl; (focus (decide +kernel)); exact rfl; (focus (omega))) | ((with_reducible apply Step.ix (s := 4)); exact rfl; (focus (assumption)); exact rfl; (focus (decide +kernel)); exact rfl; (focus (omega))) | ((with_reducible apply Step.field (k := 3)); exact rfl; (focus (decide +kernel)); exact rfl) | ((with_reducible apply Step.lss); exact rfl; exact rfl; exact rfl) | ((with_reducible apply Step.fn); exact rfl; exact rfl; exact rfl) | ((with_reducible apply Step.callR fit); exact rfl; exact Try.func94; exact rfl; exact rfl; exact (call))) | (with_reducible refine AWo.nil ?_) | ((with_reducible apply AW.seq)) | ((with_reducible apply Then.n)) | ((with_reducible apply AW.regL)) | ((with_reducible apply AW.block)) | ((with_reducible apply AW.skip)) | ((with_reducible apply AW.condT); exact rfl; (focus (first | rfl | (simp only [decide_eq_true_eq, decide_eq_false_iff_not, Bool.not_eq_true', Bool.not_eq_false', Bool.not_true, Bool.not_false]; first | assumption | omega))))))
      (refine AW.retD (l := [(4, _), (5, _)]) (by repeat (first | exact trivial | (refine And.intro ⟨rfl, by (first | exact .int _ _ | exact Ren.of_g0 rfl)⟩ ?_))) ?_; (repeat (first | refine Then.r ?_ | refine InBlk.r ?_)))
      exact ⟨_, rfl, rfl, rfl⟩
  · exfalso
    rw [allowB_of fun i hi => hbef i (by omega)] at hal
    cases hal
set_option maxRecDepth 100000 in
theorem Ends_order {m : AM} {v u : Value} {j : List Job} {l : List Int} (hj : Jobs m v j) (hl : Ints m u l) (hok : jobsB j = true) (hn : (sortL j).length = j.length) (ho : orderB l j.length = false) :
    ACall Try.prog 57 #[v, u] m (Ret (.tuple #[.slice none 0 0, .int .i64 6]) m) := by
  have hJ := JOk.of hok
  have h40 := hJ.len
  obtain ⟨a, o, h1, h2, h3⟩ := id hj
  refine ACall.start Try.func57 rfl rfl ?_
  (repeat (first | (with_reducible refine AWo.cons ?_) | ((with_reducible refine Step.id ?_); first | ((with_reducible apply Step.move); exact rfl; exact rfl) | ((with_reducible apply Step.assign); exact rfl; exact rfl) | ((with_reducible apply Step.neq); exact rfl; exact rfl; exact rfl) | ((with_reducible apply Step.len); exact rfl; (focus (assumption)); (focus (decide +kernel)); exact rfl) | ((with_reducible apply Step.not); exact rfl; exact rfl) | ((with_reducible apply Step.extract); exact rfl; exact rfl; exact rfl) | ((with_reducible apply Step.callT fit (k := 0)); exact rfl; exact rfl; exact Try.func78; exact rfl; exact rfl; exact (checked_ok (hj.old []) hok hn); (focus (first | (simp only [List.nil_append, List.cons_append, List.set_cons_zero, List.set_cons_succ, iv_set, bv_set, iv_rep, bv_rep]; done) | (simp only [List.nil_append, List.cons_append, List.set_cons_zero, List.set_cons_succ, iv_set, bv_set, iv_rep, bv_rep]; rfl) | rfl))) | ((with_reducible apply Step.callR fit); exact rfl; exact Try.func90; exact rfl; exact rfl; exact (order_ok j.length (hl.old _) (by omega) ho))) | (with_reducible refine AWo.nil ?_) | ((with_reducible apply AW.seq)) | ((with_reducible apply Then.n)) | ((with_reducible apply AW.regL)) | ((with_reducible apply AW.skip)) | ((with_reducible apply AW.condT); exact rfl; (focus (rfl))) | ((with_reducible apply AW.condF); exact rfl; (focus (rfl)))))
  (refine AW.retD (l := [(4, _), (5, _)]) (by repeat (first | exact trivial | (refine And.intro ⟨rfl, by (first | exact .int _ _ | exact Ren.of_g0 rfl)⟩ ?_))) ?_; (repeat (first | refine Then.r ?_ | refine InBlk.r ?_)))
  exact ⟨_, rfl, rfl, rfl⟩
set_option maxRecDepth 100000 in
theorem Ends_err {m : AM} {v u : Value} {e : Int} (hne : e ≠ 0) (h : ∀ L, ACall Try.prog 78 #[v] (m ++ L) (Ret (.tuple #[.slice none 0 0, .int .i64 e]) (m ++ L))) :
    ACall Try.prog 57 #[v, u] m (Ret (.tuple #[.slice none 0 0, .int .i64 e]) m) := by
  refine ACall.start Try.func57 rfl rfl ?_
  (repeat (first | (with_reducible refine AWo.cons ?_) | ((with_reducible refine Step.id ?_); first | ((with_reducible apply Step.move); exact rfl; exact rfl) | ((with_reducible apply Step.assign); exact rfl; exact rfl) | ((with_reducible apply Step.neq); exact rfl; exact rfl; exact rfl) | ((with_reducible apply Step.extract); exact rfl; exact rfl; exact rfl) | ((with_reducible apply Step.callR fit); exact rfl; exact Try.func78; exact rfl; exact rfl; exact (h []))) | (with_reducible refine AWo.nil ?_) | ((with_reducible apply AW.seq)) | ((with_reducible apply Then.n)) | ((with_reducible apply AW.regL)) | ((with_reducible apply AW.condT); exact rfl; (focus ((simp only [decide_eq_true_eq, decide_eq_false_iff_not, Bool.not_eq_true', Bool.not_eq_false', Bool.not_true, Bool.not_false]; first | assumption | omega))))))
  (refine AW.retD (l := [(4, _), (5, _)]) (by repeat (first | exact trivial | (refine And.intro ⟨rfl, by (first | exact .int _ _ | exact Ren.of_g0 rfl)⟩ ?_))) ?_; (repeat (first | refine Then.r ?_ | refine InBlk.r ?_)))
  exact ⟨_, rfl, rfl, rfl⟩
set_option maxHeartbeats 2000000 in
set_option maxRecDepth 100000 in
theorem Allowed_ok {m : AM} {v u : Value} {j : List Job} {l : List Int} (hj : Jobs m v j) (hl : Ints m u l) (hJ : JOk j) (hlen : l.length ≤ 9223372036854775807) {b : Bool} (hb : allowedB j l = b) : ACall Try.prog 45 #[v, u] m (Ret (.bool b) m) := by
  subst hb
  have h40 := hJ.len
  obtain ⟨a, o, h1, h2, h3⟩ := id hj
  obtain ⟨b, z, k1, k2, k3⟩ := id hl
  refine ACall.start Try.func45 rfl rfl ?_
  cases ho : orderB l j.length with
  | false =>
    (repeat (first | (with_reducible refine AWo.cons ?_) | ((with_reducible refine Step.id ?_); first | ((with_reducible apply Step.move); exact rfl; exact rfl) | ((with_reducible apply Step.assign); exact rfl; exact rfl) | ((with_reducible apply Step.len); exact rfl; (focus (assumption)); (focus (decide +kernel)); exact rfl) | ((with_reducible apply Step.not); exact rfl; exact rfl) | ((with_reducible apply Step.callR fit); exact rfl; exact Try.func55; exact rfl; exact rfl; exact (ROrder_ok j.length (hl.old []) (by omega) hlen ho))) | (with_reducible refine AWo.nil ?_) | ((with_reducible apply AW.seq)) | ((with_reducible apply Then.n)) | ((with_reducible apply AW.regL)) | ((with_reducible apply AW.condT); exact rfl; (focus (rfl)))))
    (refine AW.retD (l := [(4, _)]) (by repeat (first | exact trivial | (refine And.intro ⟨rfl, by (exact .bool _)⟩ ?_))) ?_; (repeat (first | refine Then.r ?_ | refine InBlk.r ?_)))
    exact ⟨_, rfl, by simp [allowedB, ho], rfl⟩
  | true =>
    have hll := (orderB_iff.1 ho).1
    have hlt := nat_lt ho
    have hnl := nat_len l
    (repeat (first | (with_reducible refine AWo.cons ?_) | ((with_reducible refine Step.id ?_); first | ((with_reducible apply Step.move); exact rfl; exact rfl) | ((with_reducible apply Step.assign); exact rfl; exact rfl) | ((with_reducible apply Step.len); exact rfl; (focus (assumption)); (focus (decide +kernel)); exact rfl) | ((with_reducible apply Step.not); exact rfl; exact rfl) | ((with_reducible apply Step.callR fit); exact rfl; exact Try.func55; exact rfl; exact rfl; exact (ROrder_ok j.length (hl.old []) (by omega) hlen ho)) | ((with_reducible apply Step.make1 0); exact rfl; exact rfl; exact rfl; exact el84; (focus (omega)); exact rfl; (focus (first | (simp only [List.nil_append, List.cons_append, List.set_cons_zero, List.set_cons_succ, iv_set, bv_set, iv_rep, bv_rep]; done) | (simp only [List.nil_append, List.cons_append, List.set_cons_zero, List.set_cons_succ, iv_set, bv_set, iv_rep, bv_rep]; rfl) | rfl)))) | (with_reducible refine AWo.nil ?_) | ((with_reducible apply AW.seq)) | ((with_reducible apply Then.n)) | ((with_reducible apply AW.regL)) | ((with_reducible apply AW.block)) | ((with_reducible apply AW.skip)) | ((with_reducible apply AW.condF); exact rfl; (focus (rfl)))))
    refine AW.loopT (fun n' t L => ∃ q : Nat, n' = l.length - q ∧ q ≤ l.length ∧ (∀ i, i < q → alOk j (nat l) i = true) ∧ L = [some { cells := bv (plR j.length ((nat l).take q)) }] ∧
      t = [(0, v), (5, .slice (some ⟨m.length + 0, 0, none⟩) j.length j.length), (18, u), (19, .int .i64 (l.length : Nat)), (20, .int .i64 (q : Nat))]) ⟨_, _, _, (Or.inl ⟨rfl, (by repeat (first | exact trivial | (refine And.intro rfl ?_)))⟩), 0, rfl, Nat.zero_le _, by omega, by rw [List.take_zero, ← plR_zero], rfl⟩ ?_
    rintro n' t L ⟨q, rfl, hq, hbef, rfl, rfl⟩
    rcases Nat.lt_or_ge q l.length with hql | hge
    · have hqn : q < (nat l).length := by omega
      have hi := hlt q hqn
      obtain ⟨w, hr, hw⟩ := h3 _ hi
      obtain ⟨wa, wo, w1, w2, w3⟩ := id hw
      have hlen' := hJ.alen hi
      have hmem := fun a ha => hJ.mem hi (a := a) ha
      have al : alOk j (nat l) q = (aft j ((nat l).getD q 0)).all fun a => decide (a.toNat ∈ (nat l).take q) := rfl
      have bad := allowB_not (j := j) (P := nat l) hqn
      have next : alOk j (nat l) q = true → ∀ i, i < q + 1 → alOk j (nat l) i = true := fun e i hi => by
        rcases Nat.lt_succ_iff_lt_or_eq.1 hi with h | h
        · exact hbef i h
        · rw [h]; exact e
      have tk := take_snoc (nat l) q 0 hqn
      have set := plR_set (n := j.length) (i := (nat l).getD q 0) ((nat l).take q)
      rw [← tk] at set
      have hrl : Rd m b (z + q) (.int .i64 (((nat l).getD q 0 : Nat) : Int)) := by
        have := k3 q hql
        have e : l.getD q 0 = (((nat l).getD q 0 : Nat) : Int) := by
          have h0 := (orderB_iff.1 ho).2.1 (l.getD q 0) (mem_getD hql)
          have := nat_get hql
          omega
        rwa [e] at this
      simp only [aft] at *
      generalize hI : (nat l).getD q 0 = i at *
      generalize j.getD i default = x at *
      obtain ⟨x1, x2, x3, af⟩ := x
      simp only [Job.cells] at *
      generalize hT : (nat l).take q = T at *
      have lT := plR_len j.length T
      (repeat (first | (with_reducible refine AWo.cons ?_) | ((with_reducible refine Step.id ?_); first | ((with_reducible apply Step.move); exact rfl; exact rfl) | ((with_reducible apply Step.assign); exact rfl; exact rfl) | ((with_reducible apply Step.load); exact rfl; (focus (decide +kernel)); exact rfl; (focus (first | exact Rd.old _ (by assumption) | exact Rd.old _ (hr.at_ 3 rfl)))) | ((with_reducible apply Step.ix1); exact rfl; (focus (assumption)); exact rfl; (focus (decide +kernel)); exact rfl; (focus (omega))) | ((with_reducible apply Step.ix (s := 4)); exact rfl; (focus (assumption)); exact rfl; (focus (decide +kernel)); exact rfl; (focus (omega))) | ((with_reducible apply Step.field (k := 3)); exact rfl; (focus (decide +kernel)); exact rfl) | ((with_reducible apply Step.lss); exact rfl; exact rfl; exact rfl) | ((with_reducible apply Step.len); exact rfl; (focus (assumption)); (focus (decide +kernel)); exact rfl)) | (with_reducible refine AWo.nil ?_) | ((with_reducible apply AW.seq)) | ((with_reducible apply Then.n)) | ((with_reducible apply AW.regL)) | ((with_reducible apply AW.block)) | ((with_reducible apply AW.skip)) | ((with_reducible apply AW.condT); exact rfl; (focus ((simp only [decide_eq_true_eq, decide_eq_false_iff_not, Bool.not_eq_true', Bool.not_eq_false', Bool.not_true, Bool.not_false]; first | assumption | omega))))))
      refine AW.loopT (fun n' t L => ∃ p : Nat, n' = af.length - p ∧ p ≤ af.length ∧ (∀ i, i < p → decide ((af.getD i 0).toNat ∈ T) = true) ∧ L = [some { cells := bv (plR j.length T) }] ∧
        t = [(0, v), (5, .slice (some ⟨m.length + 0, 0, none⟩) j.length j.length), (18, u), (19, .int .i64 (l.length : Nat)), (20, .int .i64 (q : Nat)), (7, .int .i64 (i : Nat)), (28, w), (29, .int .i64 (af.length : Nat)), (30, .int .i64 (p : Nat))]) ⟨_, _, _, (Or.inl ⟨rfl, (by repeat (first | exact trivial | (refine And.intro rfl ?_)))⟩), 0, rfl, Nat.zero_le _, by omega, rfl, rfl⟩ ?_
      rintro n' t L ⟨p, rfl, hp, hpre, rfl, rfl⟩
      rcases Nat.lt_or_ge p af.length with hpl | hpge
      · have hm := hmem _ (mem_getD hpl)
        have hrp := w3 p hpl
        obtain ⟨y, hy⟩ := Int.eq_ofNat_of_zero_le hm.1
        have gy := plR_get (n := j.length) (i := y) T (by omega)
        rw [hy] at hrp
        have hyl : y < j.length := by omega
        have hro : Rd (m ++ [some { cells := bv (plR j.length T) }]) (m.length + 0) y (.bool (decide (y ∈ T))) := by
          rw [← gy]; exact Rd.new rfl (bv_get (by omega))
        by_cases hin : y ∈ T
        · rw [decide_eq_true hin] at hro
          (repeat (first | (with_reducible refine AWo.cons ?_) | ((with_reducible refine Step.id ?_); first | ((with_reducible apply Step.move); exact rfl; exact rfl) | ((with_reducible apply Step.assign); exact rfl; exact rfl) | ((with_reducible apply Step.load); exact rfl; (focus (decide +kernel)); exact rfl; (focus (first | assumption | exact Rd.old _ (by assumption)))) | ((with_reducible apply Step.ix1z); exact rfl; (focus (exact Sl.mk (by omega))); exact rfl; (focus (decide +kernel)); exact rfl; (focus (omega))) | ((with_reducible apply Step.ix1); exact rfl; (focus (assumption)); exact rfl; (focus (decide +kernel)); exact rfl; (focus (omega))) | ((with_reducible apply Step.add); exact rfl; exact rfl; (focus (omega)); exact rfl) | ((with_reducible apply Step.lss); exact rfl; exact rfl; exact rfl) | ((with_reducible apply Step.not); exact rfl; exact rfl)) | (with_reducible refine AWo.nil ?_) | ((with_reducible apply AW.seq)) | ((with_reducible apply Then.n)) | ((with_reducible apply AW.regL)) | ((with_reducible apply AW.block)) | ((with_reducible apply InBlk.n)) | ((with_reducible apply AW.skip)) | ((with_reducible apply AW.condT); exact rfl; (focus ((simp only [decide_eq_true_eq, decide_eq_false_iff_not, Bool.not_eq_true', Bool.not_eq_false', Bool.not_true, Bool.not_false]; first | assumption | omega)))) | ((with_reducible apply AW.condF); exact rfl; (focus (rfl)))))
          refine ⟨_, _, _, by omega, (Or.inl ⟨rfl, (by repeat (first | exact trivial | (refine And.intro rfl ?_)))⟩), p + 1, rfl, by omega, fun i hi => ?_, rfl, rfl⟩
          rcases Nat.lt_succ_iff_lt_or_eq.1 hi with h | h
          · exact hpre i h
          · rw [h, hy, Int.toNat_natCast]; exact decide_eq_true hin
        · rw [decide_eq_false hin] at hro
          have hf : alOk j (nat l) q = false := by
            rw [al, List.all_eq_false]
            exact ⟨af.getD p 0, mem_getD hpl, by rw [hy, Int.toNat_natCast, decide_eq_false hin]; exact Bool.false_ne_true⟩
          (repeat (first | (with_reducible refine AWo.cons ?_) | ((with_reducible refine Step.id ?_); first | ((with_reducible apply Step.move); exact rfl; exact rfl) | ((with_reducible apply Step.assign); exact rfl; exact rfl) | ((with_reducible apply Step.load); exact rfl; (focus (decide +kernel)); exact rfl; (focus (first | assumption | exact Rd.old _ (by assumption)))) | ((with_reducible apply Step.ix1z); exact rfl; (focus (exact Sl.mk (by omega))); exact rfl; (focus (decide +kernel)); exact rfl; (focus (omega))) | ((with_reducible apply Step.ix1); exact rfl; (focus (assumption)); exact rfl; (focus (decide +kernel)); exact rfl; (focus (omega))) | ((with_reducible apply Step.lss); exact rfl; exact rfl; exact rfl) | ((with_reducible apply Step.not); exact rfl; exact rfl)) | (with_reducible refine AWo.nil ?_) | ((with_reducible apply AW.seq)) | ((with_reducible apply Then.n)) | ((with_reducible apply AW.regL)) | ((with_reducible apply AW.block)) | ((with_reducible apply AW.skip)) | ((with_reducible apply AW.condT); exact rfl; (focus (first | rfl | (simp only [decide_eq_true_eq, decide_eq_false_iff_not, Bool.not_eq_true', Bool.not_eq_false', Bool.not_true, Bool.not_false]; first | assumption | omega))))))
          (refine AW.retD (l := [(4, _)]) (by repeat (first | exact trivial | (refine And.intro ⟨rfl, by (exact .bool _)⟩ ?_))) ?_; (repeat (first | refine Then.r ?_ | refine InBlk.r ?_)))
          exact ⟨_, rfl, by simp [allowedB, ho, bad hf], rfl⟩
      · have ht : alOk j (nat l) q = true := by
          rw [al, List.all_eq_true]
          intro x hx
          obtain ⟨i, hi, rfl⟩ := List.getElem_of_mem hx
          have := hpre i (by omega)
          rwa [List.getD_eq_getElem?_getD, List.getElem?_eq_getElem hi] at this
        (repeat (first | (with_reducible refine AWo.cons ?_) | ((with_reducible refine Step.id ?_); first | ((with_reducible apply Step.move); exact rfl; exact rfl) | ((with_reducible apply Step.ix1z); exact rfl; (focus (exact Sl.mk (by omega))); exact rfl; (focus (decide +kernel)); exact rfl; (focus (omega))) | ((with_reducible apply Step.add); exact rfl; exact rfl; (focus (omega)); exact rfl) | ((with_reducible apply Step.lss); exact rfl; exact rfl; exact rfl) | ((with_reducible apply Step.store (k := 0)); exact rfl; exact rfl; exact rfl; exact rfl; (focus (decide +kernel)); exact rfl; exact rfl; (focus (first | omega | (simp [iv, bv]; done) | (simp [iv, bv]; omega))); (focus (first | (simp only [List.nil_append, List.cons_append, List.set_cons_zero, List.set_cons_succ, iv_set, bv_set, iv_rep, bv_rep]; done) | (simp only [List.nil_append, List.cons_append, List.set_cons_zero, List.set_cons_succ, iv_set, bv_set, iv_rep, bv_rep]; rfl) | rfl)))) | (with_reducible refine AWo.nil ?_) | ((with_reducible apply AW.seq)) | ((with_reducible apply Then.n)) | ((with_reducible apply AW.regL)) | ((with_reducible apply AW.exit)) | ((with_reducible apply InBlk.n)) | ((with_reducible apply InBlk.hit)) | ((with_reducible apply Then.e)) | ((with_reducible apply AW.condF); exact rfl; (focus ((simp only [decide_eq_true_eq, decide_eq_false_iff_not, Bool.not_eq_true', Bool.not_eq_false', Bool.not_true, Bool.not_false]; first | assumption | omega))))))
        exact ⟨_, _, _, by omega, (Or.inl ⟨rfl, (by repeat (first | exact trivial | (refine And.intro rfl ?_)))⟩), q + 1, rfl, by omega, next ht, by rw [set], rfl⟩
    · have := allowB_of (j := j) (P := nat l) fun i hi => hbef i (by omega)
      (repeat (first | (with_reducible refine AWo.cons ?_) | ((with_reducible refine Step.id ?_); first | ((with_reducible apply Step.assign); exact rfl; exact rfl) | ((with_reducible apply Step.lss); exact rfl; exact rfl; exact rfl)) | (with_reducible refine AWo.nil ?_) | ((with_reducible apply AW.seq)) | ((with_reducible apply Then.n)) | ((with_reducible apply AW.regL)) | ((with_reducible apply AW.exit)) | ((with_reducible apply InBlk.hit)) | ((with_reducible apply Then.e)) | ((with_reducible apply AW.condF); exact rfl; (focus ((simp only [decide_eq_true_eq, decide_eq_false_iff_not, Bool.not_eq_true', Bool.not_eq_false', Bool.not_true, Bool.not_false]; first | assumption | omega))))))
      (refine AW.retD (l := [(4, _)]) (by repeat (first | exact trivial | (refine And.intro ⟨rfl, by (exact .bool _)⟩ ?_))) ?_; (repeat (first | refine Then.r ?_ | refine InBlk.r ?_)))
      exact ⟨_, rfl, by simp [allowedB, ho, this], rfl⟩
set_option maxHeartbeats 2000000 in
set_option maxRecDepth 100000 in
theorem REnds_ok {m : AM} {v u : Value} {j : List Job} {l : List Int} (hj : Jobs m v j) (hs : Short j) (hl : Ints m u l) (hlen : l.length ≤ 9223372036854775807) (hok : jobsB j = true) (hn : (sortL j).length = j.length) (hal : allowedB j l = true) {row : List Int} (hrow : endsR j (nat l) l.length = row) :
    ACall Try.prog 58 #[v, u] m (NewT (fun N => .tuple #[.slice (some ⟨N, 0, none⟩) j.length j.length, .int .i64 0]) (some { cells := iv row }) m) := by
  subst hrow
  have hJ := JOk.of hok
  have h40 := hJ.len
  have e0 : errJ j = 0 := by simp [errJ, hok, hn]
  have ho : orderB l j.length = true := by simp only [allowedB, Bool.and_eq_true] at hal; exact hal.1
  obtain ⟨a, o, h1, h2, h3⟩ := id hj
  obtain ⟨b, z, k1, k2, k3⟩ := id hl
  have hll := (orderB_iff.1 ho).1
  have hlt := nat_lt ho
  have hnl := nat_len l
  refine ACall.start Try.func58 rfl rfl ?_
  (repeat (first | (with_reducible refine AWo.cons ?_) | ((with_reducible refine Step.id ?_); first | ((with_reducible apply Step.move); exact rfl; exact rfl) | ((with_reducible apply Step.assign); exact rfl; exact rfl) | ((with_reducible apply Step.neq); exact rfl; exact rfl; exact rfl) | ((with_reducible apply Step.len); exact rfl; (focus (assumption)); (focus (decide +kernel)); exact rfl) | ((with_reducible apply Step.not); exact rfl; exact rfl) | ((with_reducible apply Step.callR fit); exact rfl; exact Try.func86; exact rfl; exact rfl; exact (Rchecked_ok (hj.old []) hs e0)) | ((with_reducible apply Step.callR fit); exact rfl; exact Try.func45; exact rfl; exact rfl; exact (Allowed_ok (hj.old []) (hl.old []) hJ hlen hal)) | ((with_reducible apply Step.make1 0); exact rfl; exact rfl; exact rfl; exact el23; (focus (omega)); exact rfl; (focus (first | (simp only [List.nil_append, List.cons_append, List.set_cons_zero, List.set_cons_succ, iv_set, bv_set, iv_rep, bv_rep]; done) | (simp only [List.nil_append, List.cons_append, List.set_cons_zero, List.set_cons_succ, iv_set, bv_set, iv_rep, bv_rep]; rfl) | rfl)))) | (with_reducible refine AWo.nil ?_) | ((with_reducible apply AW.seq)) | ((with_reducible apply Then.n)) | ((with_reducible apply AW.regL)) | ((with_reducible apply AW.block)) | ((with_reducible apply AW.skip)) | ((with_reducible apply AW.condF); exact rfl; (focus (rfl)))))
  refine AW.loopT (fun n' t L => ∃ q : Nat, n' = l.length - q ∧ q ≤ l.length ∧ L = [some { cells := iv (endsR j (nat l) q) }] ∧
    t = [(0, v), (7, .slice (some ⟨m.length + 0, 0, none⟩) j.length j.length), (8, .int .i64 (totJ j (nat l) q)), (23, u), (24, .int .i64 (l.length : Nat)), (25, .int .i64 (q : Nat))]) ⟨_, _, _, (Or.inl ⟨rfl, (by repeat (first | exact trivial | (refine And.intro rfl ?_)))⟩), 0, rfl, Nat.zero_le _, rfl, rfl⟩ ?_
  rintro n' t L ⟨q, rfl, hq, rfl, rfl⟩
  rcases Nat.lt_or_ge q l.length with hql | hge
  · have hqn : q < (nat l).length := by omega
    have hi := hlt q hqn
    obtain ⟨w, hr, hw⟩ := h3 _ hi
    have hnum := hJ.num _ hi
    have t1 := totJ_bd hJ hlt q (by omega)
    have t2 := totJ_bd hJ hlt (q + 1) hqn
    have le := endsR_len j (nat l) q
    have st : endsR j (nat l) (q + 1) = (endsR j (nat l) q).set ((nat l).getD q 0) (totJ j (nat l) (q + 1)) := rfl
    have tt : totJ j (nat l) (q + 1) = totJ j (nat l) q + tmJ j ((nat l).getD q 0) := rfl
    have hrl : Rd m b (z + q) (.int .i64 (((nat l).getD q 0 : Nat) : Int)) := by
      have := k3 q hql
      have e : l.getD q 0 = (((nat l).getD q 0 : Nat) : Int) := by
        have h0 := (orderB_iff.1 ho).2.1 (l.getD q 0) (mem_getD hql)
        have := nat_get hql
        omega
      rwa [e] at this
    simp only [tmJ] at *
    rw [tt] at st t2
    generalize hI : (nat l).getD q 0 = i at *
    generalize j.getD i default = x at *
    obtain ⟨x1, x2, x3, af⟩ := x
    simp only [Job.cells] at *
    generalize hrow : endsR j (nat l) q = row at *
    (repeat (first | (with_reducible refine AWo.cons ?_) | ((with_reducible refine Step.id ?_); first | ((with_reducible apply Step.move); exact rfl; exact rfl) | ((with_reducible apply Step.assign); exact rfl; exact rfl) | ((with_reducible apply Step.load); exact rfl; (focus (decide +kernel)); exact rfl; (focus (first | exact Rd.old _ (by assumption) | exact Rd.old _ (hr.at_ 0 rfl)))) | ((with_reducible apply Step.ix1z); exact rfl; (focus (exact Sl.mk (by omega))); exact rfl; (focus (decide +kernel)); exact rfl; (focus (omega))) | ((with_reducible apply Step.ix1); exact rfl; (focus (assumption)); exact rfl; (focus (decide +kernel)); exact rfl; (focus (omega))) | ((with_reducible apply Step.ix (s := 4)); exact rfl; (focus (assumption)); exact rfl; (focus (decide +kernel)); exact rfl; (focus (omega))) | ((with_reducible apply Step.field0); exact rfl; (focus (decide +kernel)); exact rfl) | ((with_reducible apply Step.add); exact rfl; exact rfl; (focus (omega)); exact rfl) | ((with_reducible apply Step.lss); exact rfl; exact rfl; exact rfl) | ((with_reducible apply Step.store (k := 0)); exact rfl; exact rfl; exact rfl; exact rfl; (focus (decide +kernel)); exact rfl; exact rfl; (focus (first | omega | (simp [iv, bv]; done) | (simp [iv, bv]; omega))); (focus (first | (simp only [List.nil_append, List.cons_append, List.set_cons_zero, List.set_cons_succ, iv_set, bv_set, iv_rep, bv_rep]; done) | (simp only [List.nil_append, List.cons_append, List.set_cons_zero, List.set_cons_succ, iv_set, bv_set, iv_rep, bv_rep]; rfl) | rfl)))) | (with_reducible refine AWo.nil ?_) | ((with_reducible apply AW.seq)) | ((with_reducible apply Then.n)) | ((with_reducible apply AW.regL)) | ((with_reducible apply AW.block)) | ((with_reducible apply InBlk.n)) | ((with_reducible apply AW.skip)) | ((with_reducible apply AW.condT); exact rfl; (focus ((simp only [decide_eq_true_eq, decide_eq_false_iff_not, Bool.not_eq_true', Bool.not_eq_false', Bool.not_true, Bool.not_false]; first | assumption | omega))))))
    exact ⟨_, [(0, v), (7, .slice (some ⟨m.length + 0, 0, none⟩) j.length j.length), (8, .int .i64 (totJ j (nat l) q + x1)), (23, u), (24, .int .i64 (l.length : Nat)), (25, .int .i64 (q + 1 : Nat))], _, by omega, (Or.inl ⟨rfl, (by repeat (first | exact trivial | (refine And.intro rfl ?_)))⟩), q + 1, rfl, by omega, by rw [st], by rw [tt]⟩
  · obtain rfl : q = l.length := by omega
    (repeat (first | (with_reducible refine AWo.cons ?_) | ((with_reducible refine Step.id ?_); first | ((with_reducible apply Step.move); exact rfl; exact rfl) | ((with_reducible apply Step.assign); exact rfl; exact rfl) | ((with_reducible apply Step.lss); exact rfl; exact rfl; exact rfl)) | (with_reducible refine AWo.nil ?_) | ((with_reducible apply AW.seq)) | ((with_reducible apply Then.n)) | ((with_reducible apply AW.regL)) | ((with_reducible apply AW.exit)) | ((with_reducible apply InBlk.hit)) | ((with_reducible apply Then.e)) | ((with_reducible apply AW.condF); exact rfl; (focus ((simp only [decide_eq_true_eq, decide_eq_false_iff_not, Bool.not_eq_true', Bool.not_eq_false', Bool.not_true, Bool.not_false]; first | assumption | omega))))))
    (refine AW.retB (l := [(4, _), (5, _)]) (Or.inl ⟨rfl, (by repeat (first | exact trivial | (refine And.intro rfl ?_)))⟩) ?_; (repeat (first | refine Then.r ?_ | refine InBlk.r ?_)))
    exact ⟨_, rfl, rfl, rfl⟩
set_option maxRecDepth 100000 in
theorem REnds_form {m : AM} {v u : Value} {j : List Job} {l : List Int} (hj : Jobs m v j) (hs : Short j) (hl : Ints m u l) (hlen : l.length ≤ 9223372036854775807) (hok : jobsB j = true) (hn : (sortL j).length = j.length) (hal : allowedB j l = false) :
    ACall Try.prog 58 #[v, u] m (Ret (.tuple #[.slice none 0 0, .int .i64 6]) m) := by
  have e0 : errJ j = 0 := by simp [errJ, hok, hn]
  refine ACall.start Try.func58 rfl rfl ?_
  (repeat (first | (with_reducible refine AWo.cons ?_) | ((with_reducible refine Step.id ?_); first | ((with_reducible apply Step.move); exact rfl; exact rfl) | ((with_reducible apply Step.assign); exact rfl; exact rfl) | ((with_reducible apply Step.neq); exact rfl; exact rfl; exact rfl) | ((with_reducible apply Step.not); exact rfl; exact rfl) | ((with_reducible apply Step.callR fit); exact rfl; exact Try.func86; exact rfl; exact rfl; exact (Rchecked_ok (hj.old []) hs e0)) | ((with_reducible apply Step.callR fit); exact rfl; exact Try.func45; exact rfl; exact rfl; exact (Allowed_ok (hj.old []) (hl.old []) (JOk.of hok) hlen hal))) | (with_reducible refine AWo.nil ?_) | ((with_reducible apply AW.seq)) | ((with_reducible apply Then.n)) | ((with_reducible apply AW.regL)) | ((with_reducible apply AW.skip)) | ((with_reducible apply AW.condT); exact rfl; (focus (rfl))) | ((with_reducible apply AW.condF); exact rfl; (focus (rfl)))))
  (refine AW.retD (l := [(4, _), (5, _)]) (by repeat (first | exact trivial | (refine And.intro ⟨rfl, by (first | exact .int _ _ | exact Ren.of_g0 rfl)⟩ ?_))) ?_; (repeat (first | refine Then.r ?_ | refine InBlk.r ?_)))
  exact ⟨_, rfl, rfl, rfl⟩
set_option maxRecDepth 100000 in
theorem REnds_err {m : AM} {v u : Value} {j : List Job} {e : Int} (hj : Jobs m v j) (hs : Short j) (he : errJ j = e) (hne : e ≠ 0) :
    ACall Try.prog 58 #[v, u] m (Ret (.tuple #[.slice none 0 0, .int .i64 e]) m) := by
  refine ACall.start Try.func58 rfl rfl ?_
  (repeat (first | (with_reducible refine AWo.cons ?_) | ((with_reducible refine Step.id ?_); first | ((with_reducible apply Step.move); exact rfl; exact rfl) | ((with_reducible apply Step.assign); exact rfl; exact rfl) | ((with_reducible apply Step.neq); exact rfl; exact rfl; exact rfl) | ((with_reducible apply Step.callR fit); exact rfl; exact Try.func86; exact rfl; exact rfl; exact (Rchecked_ok (hj.old []) hs he))) | (with_reducible refine AWo.nil ?_) | ((with_reducible apply AW.seq)) | ((with_reducible apply Then.n)) | ((with_reducible apply AW.regL)) | ((with_reducible apply AW.condT); exact rfl; (focus ((simp only [decide_eq_true_eq, decide_eq_false_iff_not, Bool.not_eq_true', Bool.not_eq_false', Bool.not_true, Bool.not_false]; first | assumption | omega))))))
  (refine AW.retD (l := [(4, _), (5, _)]) (by repeat (first | exact trivial | (refine And.intro ⟨rfl, by (first | exact .int _ _ | exact Ren.of_g0 rfl)⟩ ?_))) ?_; (repeat (first | refine Then.r ?_ | refine InBlk.r ?_)))
  exact ⟨_, rfl, rfl, rfl⟩
end Go.Proofs.Ytmomjannlnafcaa.Abs
namespace Go.Proofs.Ytmomjannlnafcaa.Abs
set_option linter.unusedSimpArgs false
set_option linter.unusedVariables false
open Go.RowKit
open Go.Proofs.Ytmomjannlnafcaa.Sim
open Go.Proofs
theorem conv_self {j : List Job} (h : jobsB j = true) : convJ j = j := by
  have hJ := JOk.of h
  have h40 := hJ.len
  unfold convJ
  rw [List.take_of_length_le (by omega)]
  refine List.ext_getElem (by simp) fun k h1 h2 => ?_
  have hk : k < j.length := h2
  have := hJ.alen hk
  simp only [aft] at this
  rw [List.getD_eq_getElem?_getD, List.getElem?_eq_getElem hk, Option.getD_some] at this
  rw [List.getElem_map]
  unfold cvJ
  rw [List.take_of_length_le (by omega)]
theorem conv_not {j : List Job} (h : jobsB j = false) : jobsB (convJ j) = false := by
  rw [Bool.eq_false_iff]
  intro hc
  have hJ := JOk.of hc
  have hl : (convJ j).length = min 42 j.length := by simp [convJ]
  have h40 := hJ.len
  have hlen : j.length ≤ 40 := by omega
  have hl2 : (convJ j).length = j.length := by omega
  have get : ∀ k, k < j.length → (convJ j).getD k default = cvJ (j.getD k default) := fun k hk => by
    unfold convJ
    rw [List.take_of_length_le (by omega)]
    simp [hk]
  have same : ∀ k, k < j.length → cvJ (j.getD k default) = j.getD k default := fun k hk => by
    have := hJ.alen (k := k) (by omega)
    simp only [aft] at this
    rw [get k hk] at this
    have hlt : ((j.getD k default).after.take 60).length ≤ 40 := by
      simp only [cvJ] at this; omega
    unfold cvJ
    rw [List.take_of_length_le (by rw [List.length_take] at hlt; omega)]
  have e : convJ j = j := List.ext_getElem (by omega) fun k h1 h2 => by
    have g := get k h2
    rw [same k h2] at g
    simpa [h1, h2] using g
  rw [e, h] at hc
  cases hc
theorem conv_short (j : List Job) : Short (convJ j) := by
  refine ⟨by simp [convJ]; omega, fun k hk => ?_⟩
  have hk' : k < (j.take 42).length := by simpa [convJ] using hk
  have : (convJ j).getD k default = cvJ ((j.take 42).getD k default) := by
    simp only [convJ, List.getD_eq_getElem?_getD, List.getElem?_map, List.getElem?_eq_getElem hk', Option.map_some, Option.getD_some]
  rw [this]
  simp only [cvJ, List.length_take]
  omega
/-- What the program's check answers to the jobs that the law hands it. -/
theorem checked_no {m : AM} {v : Value} {j : List Job} {e : Int} (hj : Jobs m v (convJ j)) (he : errJ j = e) (hne : e ≠ 0) : ∀ L, ACall Try.prog 78 #[v] (m ++ L) (Ret (.tuple #[.slice none 0 0, .int .i64 e]) (m ++ L)) := fun L => by
  subst he
  unfold errJ at hne ⊢
  cases hok : jobsB j with
  | false =>
    rw [if_neg (by simp)]
    exact checked_arg (hj.old L) (conv_short j) (conv_not hok)
  | true =>
    rw [if_pos rfl]
    rw [hok, if_pos rfl] at hne
    by_cases hn : (sortL j).length = j.length
    · rw [if_pos hn] at hne; exact absurd rfl hne
    · rw [if_neg hn]
      rw [conv_self hok] at hj
      exact checked_loop (hj.old L) hok hn
theorem errJ_zero {j : List Job} (h : errJ j = 0) : jobsB j = true ∧ (sortL j).length = j.length := by
  unfold errJ at h
  split at h
  · rename_i h1
    split at h
    · rename_i h2; exact ⟨h1, h2⟩
    · omega
  · omega
theorem gints {M L : AM} {k n : Nat} {l : List Int} (h : L[k]? = some (gb (iv l) 1)) (hl : l.length = n) : Ints (M ++ L) (gv (M.length + k) n) l := by
  subst hl
  refine ⟨M.length + k, 0, gv_sl _ _, by have := (List.getElem?_eq_some_iff.1 h).1; simp; omega, fun i hi => ?_⟩
  rw [gb_pos (by rw [iv_len]; omega)] at h
  exact Rd.new h (by rw [Nat.zero_add]; exact iv_get hi)
set_option maxHeartbeats 2000000 in
set_option maxRecDepth 100000 in
theorem BenchEnds_ok {m : AM} {v u : Value} {j : List Job} {l : List Int} (hj : Jobs m v j) (hs : Short j) (hl : Ints m u l) (hlen : l.length ≤ 9223372036854775807) : ACall Try.prog 16 #[v, u] m (Ret (.bool true) m) := by
  obtain ⟨a, o, h1, h2, h3⟩ := id hj
  obtain ⟨b, z, k1, k2, k3⟩ := id hl
  have hM : 0 < m.length := by omega
  refine ACall.start Try.func16 rfl rfl ?_
  (repeat (first | (with_reducible refine AWo.cons ?_) | ((with_reducible refine Step.id ?_); first | ((with_reducible apply Step.move); exact rfl; exact rfl) | ((with_reducible apply Step.assign); exact rfl; exact rfl)) | (with_reducible refine AWo.nil ?_) | ((with_reducible apply AW.seq)) | ((with_reducible apply Then.n)) | ((with_reducible apply AW.regL))))
  ((with_reducible apply Step.callX fit); exact rfl; exact Try.func34; exact rfl; exact rfl; exact (f34_ok (hj.old []) hs))
  intro v1 M1 hM1 hJ1
  obtain ⟨N1, hN1⟩ : ∃ N, M1 = m ++ N := by obtain ⟨N, rfl⟩ := hM1; exact ⟨N, by simp⟩
  have hj1 : Jobs M1 v j := by rw [hN1]; exact hj.old N1
  have hl1 : Ints M1 u l := by rw [hN1]; exact hl.old N1
  by_cases he : errJ j = 0
  · obtain ⟨hok, hn⟩ := errJ_zero he
    rw [conv_self hok] at hJ1
    have n40 := (JOk.of hok).len
    have e1 : (nv (sortL j)).length = j.length := by rw [nv_len, hn]
    cases hal : allowedB j l with
    | true =>
      have hal2 := hal
      simp only [allowedB, Bool.and_eq_true] at hal2
      obtain ⟨ho, hB⟩ := hal2
      obtain ⟨row, hrow⟩ : ∃ row, endsR j (nat l) l.length = row := ⟨_, rfl⟩
      have lrow : row.length = j.length := by rw [← hrow, endsR_len]
      (repeat (first | (with_reducible refine AWo.cons ?_) | ((with_reducible refine Step.id ?_); first | ((with_reducible apply Step.move); exact rfl; exact rfl) | ((with_reducible apply Step.assign); exact rfl; exact rfl) | ((with_reducible apply Step.extract); exact rfl; exact rfl; exact rfl) | ((with_reducible apply Step.callT fit (k := 0)); exact rfl; exact rfl; exact Try.func57; exact rfl; exact rfl; exact (Ends_ok (hJ1.old _) (hl1.old _) hok hn ho hB hrow); (focus (first | (simp only [List.nil_append, List.cons_append, List.set_cons_zero, List.set_cons_succ, iv_set, bv_set, iv_rep, bv_rep]; done) | (simp only [List.nil_append, List.cons_append, List.set_cons_zero, List.set_cons_succ, iv_set, bv_set, iv_rep, bv_rep]; rfl) | rfl))) | ((with_reducible apply Step.callT fit (k := 1)); exact rfl; exact rfl; exact Try.func58; exact rfl; exact rfl; exact (REnds_ok (hj1.old _) hs (hl1.old _) hlen hok hn hal hrow); (focus (first | (simp only [List.nil_append, List.cons_append, List.set_cons_zero, List.set_cons_succ, iv_set, bv_set, iv_rep, bv_rep]; done) | (simp only [List.nil_append, List.cons_append, List.set_cons_zero, List.set_cons_succ, iv_set, bv_set, iv_rep, bv_rep]; rfl) | rfl)))) | (with_reducible refine AWo.nil ?_) | ((with_reducible apply AW.seq)) | ((with_reducible apply Then.n)) | ((with_reducible apply AW.regL))))
      ((with_reducible apply Step.callX fit); exact rfl; exact Try.func34; exact rfl; exact rfl; exact (f34_ok (hj1.old _) hs))
      intro v2 M2 hM2 hJ2
      rw [conv_self hok] at hJ2
      obtain ⟨N2, hN2⟩ := hM2
      have i1 : Ints M2 (.slice (some ⟨M1.length + 0, 0, none⟩) j.length j.length) row := by rw [hN2]; exact (ints_new (k := 0) rfl rfl _ lrow.symm).old N2
      have i2 : Ints M2 (.slice (some ⟨M1.length + 1, 0, none⟩) j.length j.length) row := by rw [hN2]; exact (ints_new (k := 1) rfl rfl _ lrow.symm).old N2
      have j2 : Jobs M2 v j := by rw [hN2]; exact (hj1.old _).old N2
      obtain ⟨N, hN⟩ : ∃ N, M2 = m ++ N := by rw [hN2, hN1]; exact ⟨_, by simp only [List.append_assoc]; rfl⟩
      clear hN2
      subst hN
      (repeat (first | (with_reducible refine AWo.cons ?_) | ((with_reducible refine Step.id ?_); first | ((with_reducible apply Step.gdT); exact rfl; exact rfl; (focus (rfl))) | ((with_reducible apply Step.move); exact rfl; exact rfl) | ((with_reducible apply Step.assign); exact rfl; exact rfl) | ((with_reducible apply Step.eql); exact rfl; exact rfl; exact rfl) | ((with_reducible apply Step.extract); exact rfl; exact rfl; exact rfl) | ((with_reducible apply Step.pickT); exact rfl; exact rfl; exact rfl; exact rfl; (focus (rfl))) | ((with_reducible apply Step.callT fit (k := 0)); exact rfl; exact rfl; exact Try.func43; exact rfl; exact rfl; exact (Sorted_ok (hJ2.old _) hok hn); (focus (first | (simp only [List.nil_append, List.cons_append, List.set_cons_zero, List.set_cons_succ, iv_set, bv_set, iv_rep, bv_rep]; done) | (simp only [List.nil_append, List.cons_append, List.set_cons_zero, List.set_cons_succ, iv_set, bv_set, iv_rep, bv_rep]; rfl) | rfl))) | ((with_reducible apply Step.callT fit (k := 1)); exact rfl; exact rfl; exact Try.func59; exact rfl; exact rfl; exact (RSort_ok (j2.old _) hs hok hn); (focus (first | (simp only [List.nil_append, List.cons_append, List.set_cons_zero, List.set_cons_succ, iv_set, bv_set, iv_rep, bv_rep]; done) | (simp only [List.nil_append, List.cons_append, List.set_cons_zero, List.set_cons_succ, iv_set, bv_set, iv_rep, bv_rep]; rfl) | rfl))) | ((with_reducible apply Step.callR fit); exact rfl; exact Try.func23; exact rfl; exact rfl; exact (equal_ok (i1.old _) (i2.old _) (by omega) (b := true) (by simp))) | ((with_reducible apply Step.callR fit); exact rfl; exact Try.func23; exact rfl; exact rfl; exact (equal_ok (gints (k := 0) rfl e1) (gints (k := 1) rfl e1) (by omega) (b := true) (by simp))) | ((with_reducible apply Step.callR fit); exact rfl; exact Try.func24; exact rfl; exact rfl; exact (awake_ok))) | (with_reducible refine AWo.nil ?_) | ((with_reducible apply AW.seq)) | ((with_reducible apply Then.n)) | ((with_reducible apply AW.regL))))
      (refine AW.retX (l := [(4, _)]) rfl (by repeat (first | exact trivial | (refine And.intro ⟨rfl, by (exact .bool _)⟩ ?_))) ?_; (repeat (first | refine Then.r ?_ | refine InBlk.r ?_)))
      exact ⟨_, rfl, rfl, rfl⟩
    | false =>
      have hE : ∀ L, ACall Try.prog 57 #[v1, u] (M1 ++ L) (Ret (.tuple #[.slice none 0 0, .int .i64 6]) (M1 ++ L)) := fun L => by
        cases ho : orderB l j.length with
        | false => exact Ends_order (hJ1.old _) (hl1.old _) hok hn ho
        | true => exact Ends_bad (hJ1.old _) (hl1.old _) hok hn ho (by simpa [allowedB, ho] using hal)
      (repeat (first | (with_reducible refine AWo.cons ?_) | ((with_reducible refine Step.id ?_); first | ((with_reducible apply Step.move); exact rfl; exact rfl) | ((with_reducible apply Step.assign); exact rfl; exact rfl) | ((with_reducible apply Step.extract); exact rfl; exact rfl; exact rfl) | ((with_reducible apply Step.callR fit); exact rfl; exact Try.func57; exact rfl; exact rfl; exact (hE _)) | ((with_reducible apply Step.callR fit); exact rfl; exact Try.func58; exact rfl; exact rfl; exact (REnds_form (hj1.old _) hs (hl1.old _) hlen hok hn hal))) | (with_reducible refine AWo.nil ?_) | ((with_reducible apply AW.seq)) | ((with_reducible apply Then.n)) | ((with_reducible apply AW.regL))))
      ((with_reducible apply Step.callX fit); exact rfl; exact Try.func34; exact rfl; exact rfl; exact (f34_ok (hj1.old _) hs))
      intro v2 M2 hM2 hJ2
      rw [conv_self hok] at hJ2
      obtain ⟨N2, hN2⟩ := hM2
      have j2 : Jobs M2 v j := by rw [hN2]; exact (hj1.old _).old N2
      obtain ⟨N, hN⟩ : ∃ N, M2 = m ++ N := by rw [hN2, hN1]; exact ⟨_, by simp only [List.append_assoc]; rfl⟩
      clear hN2
      subst hN
      (repeat (first | (with_reducible refine AWo.cons ?_) | ((with_reducible refine Step.id ?_); first | ((with_reducible apply Step.gdT); exact rfl; exact rfl; (focus (rfl))) | ((with_reducible apply Step.move); exact rfl; exact rfl) | ((with_reducible apply Step.assign); exact rfl; exact rfl) | ((with_reducible apply Step.eql); exact rfl; exact rfl; exact rfl) | ((with_reducible apply Step.extract); exact rfl; exact rfl; exact rfl) | ((with_reducible apply Step.pickT); exact rfl; exact rfl; exact rfl; exact rfl; (focus (rfl))) | ((with_reducible apply Step.callT fit (k := 0)); exact rfl; exact rfl; exact Try.func43; exact rfl; exact rfl; exact (Sorted_ok (hJ2.old _) hok hn); (focus (first | (simp only [List.nil_append, List.cons_append, List.set_cons_zero, List.set_cons_succ, iv_set, bv_set, iv_rep, bv_rep]; done) | (simp only [List.nil_append, List.cons_append, List.set_cons_zero, List.set_cons_succ, iv_set, bv_set, iv_rep, bv_rep]; rfl) | rfl))) | ((with_reducible apply Step.callT fit (k := 1)); exact rfl; exact rfl; exact Try.func59; exact rfl; exact rfl; exact (RSort_ok (j2.old _) hs hok hn); (focus (first | (simp only [List.nil_append, List.cons_append, List.set_cons_zero, List.set_cons_succ, iv_set, bv_set, iv_rep, bv_rep]; done) | (simp only [List.nil_append, List.cons_append, List.set_cons_zero, List.set_cons_succ, iv_set, bv_set, iv_rep, bv_rep]; rfl) | rfl))) | ((with_reducible apply Step.callR fit); exact rfl; exact Try.func23; exact rfl; exact rfl; exact (equal_ok (ints_nil (by simp; omega)) (ints_nil (by simp; omega)) (by simp) (b := true) rfl)) | ((with_reducible apply Step.callR fit); exact rfl; exact Try.func23; exact rfl; exact rfl; exact (equal_ok (gints (k := 0) rfl e1) (gints (k := 1) rfl e1) (by omega) (b := true) (by simp))) | ((with_reducible apply Step.callR fit); exact rfl; exact Try.func24; exact rfl; exact rfl; exact (awake_ok))) | (with_reducible refine AWo.nil ?_) | ((with_reducible apply AW.seq)) | ((with_reducible apply Then.n)) | ((with_reducible apply AW.regL))))
      (refine AW.retX (l := [(4, _)]) rfl (by repeat (first | exact trivial | (refine And.intro ⟨rfl, by (exact .bool _)⟩ ?_))) ?_; (repeat (first | refine Then.r ?_ | refine InBlk.r ?_)))
      exact ⟨_, rfl, rfl, rfl⟩
  · obtain ⟨e, hee⟩ : ∃ e, errJ j = e := ⟨_, rfl⟩
    rw [hee] at he
    (repeat (first | (with_reducible refine AWo.cons ?_) | ((with_reducible refine Step.id ?_); first | ((with_reducible apply Step.move); exact rfl; exact rfl) | ((with_reducible apply Step.assign); exact rfl; exact rfl) | ((with_reducible apply Step.extract); exact rfl; exact rfl; exact rfl) | ((with_reducible apply Step.callR fit); exact rfl; exact Try.func57; exact rfl; exact rfl; exact (Ends_err he (fun L => by rw [List.append_assoc]; exact checked_no hJ1 hee he _))) | ((with_reducible apply Step.callR fit); exact rfl; exact Try.func58; exact rfl; exact rfl; exact (REnds_err (hj1.old _) hs hee he))) | (with_reducible refine AWo.nil ?_) | ((with_reducible apply AW.seq)) | ((with_reducible apply Then.n)) | ((with_reducible apply AW.regL))))
    ((with_reducible apply Step.callX fit); exact rfl; exact Try.func34; exact rfl; exact rfl; exact (f34_ok (hj1.old _) hs))
    intro v2 M2 hM2 hJ2
    obtain ⟨N2, hN2⟩ := hM2
    have j2 : Jobs M2 v j := by rw [hN2]; exact (hj1.old _).old N2
    obtain ⟨N, hN⟩ : ∃ N, M2 = m ++ N := by rw [hN2, hN1]; exact ⟨_, by simp only [List.append_assoc]; rfl⟩
    clear hN2
    subst hN
    have hS : ∀ L, ACall Try.prog 78 #[v2] (((m ++ N) ++ []) ++ L) (Ret (.tuple #[.slice none 0 0, .int .i64 e]) (((m ++ N) ++ []) ++ L)) := fun L => by
      rw [List.append_nil]; exact checked_no hJ2 hee he L
    (repeat (first | (with_reducible refine AWo.cons ?_) | ((with_reducible refine Step.id ?_); first | ((with_reducible apply Step.gdT); exact rfl; exact rfl; (focus (first | rfl | (simp; done)))) | ((with_reducible apply Step.move); exact rfl; exact rfl) | ((with_reducible apply Step.assign); exact rfl; exact rfl) | ((with_reducible apply Step.eql); exact rfl; exact rfl; exact rfl) | ((with_reducible apply Step.extract); exact rfl; exact rfl; exact rfl) | ((with_reducible apply Step.pickT); exact rfl; exact rfl; exact rfl; exact rfl; (focus (first | rfl | (simp; done)))) | ((with_reducible apply Step.callR fit); exact rfl; exact Try.func43; exact rfl; exact rfl; exact (Sorted_no hS)) | ((with_reducible apply Step.callR fit); exact rfl; exact Try.func59; exact rfl; exact rfl; exact (RSort_no (j2.old _) hs hee he)) | ((with_reducible apply Step.callR fit); exact rfl; exact Try.func23; exact rfl; exact rfl; exact (equal_ok (ints_nil (by simp; omega)) (ints_nil (by simp; omega)) (by simp) (b := true) rfl)) | ((with_reducible apply Step.callR fit); exact rfl; exact Try.func24; exact rfl; exact rfl; exact (awake_ok))) | (with_reducible refine AWo.nil ?_) | ((with_reducible apply AW.seq)) | ((with_reducible apply Then.n)) | ((with_reducible apply AW.regL))))
    (refine AW.retX (l := [(4, _)]) rfl (by repeat (first | exact trivial | (refine And.intro ⟨rfl, by (exact .bool _)⟩ ?_))) ?_; (repeat (first | refine Then.r ?_ | refine InBlk.r ?_)))
    exact ⟨_, rfl, rfl, rfl⟩
end Go.Proofs.Ytmomjannlnafcaa.Abs
namespace Go.Proofs.Ytmomjannlnafcaa.Abs
set_option linter.unusedSimpArgs false
set_option linter.unusedVariables false
open Go.RowKit
open Go.Proofs.Ytmomjannlnafcaa.Sim
open Go.ChangeShapes Go.WideShapes Go.Deep
def plN (bs : List AR) : Pl := fun i => (bs[i]?).bind mkP
def mkV2 (i : Nat) : Value → Value
  | .slice (some ⟨_, _, some k⟩) _ _ => .slice (some ⟨i, 0, some k⟩) 0 0
  | .slice (some ⟨_, _, none⟩) n _ => .slice (some ⟨i, 0, none⟩) n n
  | v => v
def mkB2 : AR → Option Blk
  | (.slice (some _) _ (_ + 1), c) => some { cells := c, kind := .ro }
  | _ => none
/-- A slice of the input, with its cells as the abstract memory has them; or what is no block. -/
def OkB (W : World) (R : Pl) (a : AR) : Prop := g0 a.1 = true ∨ (∃ x, a.1 = .slice (some x) 0 0) ∨
  ∃ b o n cap, a.1 = .slice (some ⟨b, o, none⟩) n (cap + 1) ∧ n ≤ cap + 1 ∧ b < W.heap.size ∧ ∀ j x, a.2[j]? = some x → ∃ x', W.cell? ⟨b, o + j, none⟩ = some x' ∧ Rel R x x'
theorem relN {W : World} {R : Pl} {bs : List AR} {i : Nat} {a : AR} (hi : bs[i]? = some a) (h : OkB W R a) : Rel (plN bs) (mkV2 i a.1) a.1 := by
  obtain ⟨v, c⟩ := a
  rcases h with h1 | ⟨⟨b, o, sp⟩, h1⟩ | ⟨b, o, n, cap, h1, h2, h3, h4⟩
  · simp only at h1 ⊢
    cases v with
    | slice x n cap => cases x with
      | none => exact g0_rel h1
      | some x => simp [g0] at h1
    | _ => exact g0_rel h1
  · simp only at h1 ⊢
    subst h1
    cases sp with
    | none =>
      have := Rel.slice (R := plN bs) i 0 0 0 ⟨b, o, 0 - 0⟩ (by simp [plN, hi, mkP]) (Nat.le_refl _)
      simpa [mkV2] using this
    | some k =>
      have := Rel.sliceSpot (R := plN bs) i 0 k ⟨b, o, 0 - 0⟩ (by simp [plN, hi, mkP])
      simpa [mkV2] using this
  · simp only at h1 ⊢
    subst h1
    have := Rel.slice (R := plN bs) i 0 n n ⟨b, o, cap + 1 - n⟩ (by simp [plN, hi, mkP]) (Nat.le_refl _)
    rw [show n + (cap + 1 - n) = cap + 1 by omega] at this
    simpa [mkV2] using this
def mkVs2 : Nat → List AR → List Value
  | _, [] => []
  | i, a :: l => mkV2 i a.1 :: mkVs2 (i + 1) l
theorem mkVs2_get : ∀ (l : List AR) (i k : Nat), (mkVs2 i l)[k]? = (l[k]?).map fun a => mkV2 (i + k) a.1
  | [], i, k => by simp [mkVs2]
  | a :: l, i, 0 => by simp [mkVs2]
  | a :: l, i, k + 1 => by simp only [mkVs2, List.getElem?_cons_succ, mkVs2_get l (i + 1) k]; congr 1; funext x; congr 1; omega
theorem mkVs2_len : ∀ (l : List AR) (i : Nat), (mkVs2 i l).length = l.length
  | [], _ => rfl
  | a :: l, i => by simp [mkVs2, mkVs2_len l (i + 1)]
theorem mkB2_none {W : World} {R : Pl} {a : AR} {b : Blk} (h : OkB W R a) (hb : mkB2 a = some b) : ∃ bb o n cap, a.1 = .slice (some ⟨bb, o, none⟩) n (cap + 1) ∧ b = { cells := a.2, kind := .ro } ∧ bb < W.heap.size ∧ ∀ j x, a.2[j]? = some x → ∃ x', W.cell? ⟨bb, o + j, none⟩ = some x' ∧ Rel R x x' := by
  obtain ⟨v, c⟩ := a
  rcases h with h1 | ⟨x, h1⟩ | ⟨bb, o, n, cap, h1, h2, h3, h4⟩
  · simp only at h1
    cases v with
    | slice x n cap => cases x with
      | none => simp [mkB2] at hb
      | some x => simp [g0] at h1
    | _ => simp [mkB2] at hb
  · simp only at h1
    subst h1
    simp [mkB2] at hb
  · simp only at h1
    subst h1
    simp only [mkB2, Option.some.injEq] at hb
    exact ⟨bb, o, n, cap, rfl, hb.symm, h3, h4⟩
theorem top_callN {P : Program} {f : FuncId} {W : World} (bs : List AR) (na : Nat) (h : ∀ a ∈ bs, OkB W (plN bs) a) (hc : ACall P f ((mkVs2 0 bs).take na).toArray (bs.map mkB2) (Ret (.bool true) (bs.map mkB2))) :
    Calls P f ((bs.take na).map (·.1)).toArray W fun e w' => e = .returned (.bool true) ∧ Below W.heap.size W w' := by
  have hm : MRep W.heap.size (plN bs) (bs.map mkB2) W := by
    refine ⟨fun i hi => ?_, fun i b hi => ?_, fun i j b c p q hi hj hb _ _ _ _ => ?_⟩
    · simp only [List.length_map] at hi
      simp [plN, List.getElem?_eq_none hi]
    · rw [List.getElem?_map] at hi
      cases ha : bs[i]? with
      | none => rw [ha] at hi; cases hi
      | some a =>
        rw [ha] at hi
        simp only [Option.map_some, Option.some.injEq] at hi
        obtain ⟨bb, o, n, cap, h1, rfl, h3, h4⟩ := mkB2_none (h _ (List.mem_of_getElem? ha)) hi
        obtain ⟨v, c⟩ := a
        simp only at h1 h4
        subst h1
        refine ⟨⟨bb, o, cap + 1 - n⟩, by simp [plN, ha, mkP], h3, ?_⟩
        exact ⟨fun e => by simp at e, fun j x hj => h4 j x hj⟩
    · rw [List.getElem?_map] at hi
      cases ha : bs[i]? with
      | none => rw [ha] at hi; cases hi
      | some a =>
        rw [ha] at hi
        simp only [Option.map_some, Option.some.injEq] at hi
        obtain ⟨bb, o, n, cap, h1, rfl, _⟩ := mkB2_none (h _ (List.mem_of_getElem? ha)) hi
        cases hb
  have hargs : Rels (plN bs) ((mkVs2 0 bs).take na).toArray ((bs.take na).map (·.1)).toArray := by
    refine ⟨by simp [mkVs2_len], fun i hi => ?_⟩
    simp only [List.size_toArray, List.length_take, mkVs2_len] at hi
    have hib : i < bs.length := by omega
    have ha : bs[i]? = some bs[i] := List.getElem?_eq_getElem hib
    have e1 : ((mkVs2 0 bs).take na).toArray.getD i undef = mkV2 i bs[i].1 := by
      simp [mkVs2_get, ha, List.getElem?_take, show i < na by omega]
    have e2 : ((bs.take na).map (·.1)).toArray.getD i undef = bs[i].1 := by simp [List.getElem?_take, show i < na by omega, ha]
    rw [e1, e2]
    exact relN ha (h _ (List.mem_of_getElem? ha))
  refine (hc W.heap.size (plN bs) W _ (Nat.le_refl _) hm hargs).mono ?_
  rintro e w' ⟨v, v', R', m', rfl, k1, k2, rfl, rfl⟩
  cases k1
  exact ⟨rfl, k2.below hm (Nat.le_refl _)⟩
section
variable {H : Type} {enc : TypeId × Value → H} {P : Program} {w : World} {base : Nat} {held : Bool}
theorem cell_some {a : Addr} {v : Value} (h : w.cell? a = some v) : a.spot = none ∧ a.block < w.heap.size := by
  unfold World.cell? at h
  cases hb : w.heap[a.block]? with
  | none => rw [hb] at h; cases h
  | some o =>
    refine ⟨?_, (Array.getElem?_eq_some_iff.1 hb).1⟩
    rw [hb] at h
    cases o with
    | cells c ty fz =>
      simp only at h
      split at h
      · cases h
      · rename_i hs
        cases hsp : a.spot with
        | none => rfl
        | some k => rw [hsp] at hs; simp at hs
    | _ => cases h
/-- A slice of ints that the input shows, wherever it stands. -/
theorem ints_sl {T e : TypeId} {fuel : Nat} {v : Value} {d : DataW H × List MemPlace} (ht : P.underlying T = some (.slice e)) (he : P.underlying e = some (.int .i64)) (hce : P.cellsOf e = 1) (h : DataW.trod enc P w base (fun _ => true) held fuel T [v] = some d) :
    ∃ l : List Int, l.length ≤ maxLen ∧ (∀ R, OkB w R (v, iv l)) ∧ ∀ (bs : List AR) (i : Nat), bs[i]? = some (v, iv l) → Ints (bs.map mkB2) (mkV2 i v) l := by
  rcases open_ints ht he hce h with ⟨hcs, _⟩ | ⟨x, n, c, zs, hcs, _, hl, hm, hz, _, hcell, _⟩
  · obtain rfl : v = .slice none 0 0 := by simpa using hcs
    refine ⟨[], Nat.zero_le _, fun R => .inl rfl, fun bs i hi => ⟨i, 0, .inl ⟨rfl, rfl⟩, by simp; exact (List.getElem?_eq_some_iff.1 hi).1, fun k hk => by simp at hk⟩⟩
  · obtain rfl : v = .slice (some x) n c := by simpa using hcs
    rw [if_pos rfl] at hz
    have hlen : (zs.take n).length = n := by simp; omega
    cases c with
    | zero =>
      obtain rfl : n = 0 := by omega
      have e0 : zs.take 0 = [] := by simp
      refine ⟨[], Nat.zero_le _, fun R => .inr (.inl ⟨x, rfl⟩), fun bs i hi => ?_⟩
      have hlt : i < (bs.map mkB2).length := by simp; exact (List.getElem?_eq_some_iff.1 hi).1
      obtain ⟨b, o, sp⟩ := x
      cases sp with
      | none => exact ⟨i, 0, Sl.mk (Nat.le_refl _), hlt, fun k hk => by simp at hk⟩
      | some k => exact ⟨i, 0, .inr (.inr ⟨rfl, 0, k, rfl⟩), hlt, fun k hk => by simp at hk⟩
    | succ c =>
      obtain ⟨b, o, sp⟩ := x
      have h0 := cell_some (hcell 0 (by omega))
      obtain rfl : sp = none := h0.1
      have hb : b < w.heap.size := h0.2
      refine ⟨zs.take n, by omega, fun R => .inr (.inr ⟨b, o, n, c, rfl, hl, hb, fun j x hj => ?_⟩), fun bs i hi => ?_⟩
      · simp only [iv, List.getElem?_map] at hj
        by_cases hjn : j < n
        · rw [List.getElem?_take, if_pos hjn, List.getElem?_eq_getElem (by omega)] at hj
          simp only [Option.map_some, Option.some.injEq] at hj
          have := hcell j (by omega)
          rw [Addr.add_lit] at this
          refine ⟨_, this, ?_⟩
          rw [← hj]
          simp only [List.getD_eq_getElem?_getD, List.getElem?_eq_getElem (show j < zs.length by omega), Option.getD_some]
          exact .int _ _
        · rw [List.getElem?_take, if_neg hjn] at hj
          cases hj
      · have hM : (bs.map mkB2)[i]? = some (some { cells := iv (zs.take n), kind := .ro }) := by rw [List.getElem?_map, hi]; rfl
        exact ints_at hM rfl n hlen.symm
theorem arg_ints2 {T e : TypeId} {a : Option Addr} {n c : Nat} {d : DataW H} {p : List MemPlace} (ht : P.underlying T = some (.slice e)) (he : P.underlying e = some (.int .i64)) (hce : P.cellsOf e = 1) (h : DataW.Trod enc P w base (fun _ => true) held T (.slice a n c) d p) :
    ∃ l : List Int, l.length ≤ maxLen ∧ (∀ R, OkB w R (.slice a n c, iv l)) ∧ ∀ (bs : List AR) (i : Nat), bs[i]? = some (.slice a n c, iv l) → Ints (bs.map mkB2) (mkV2 i (.slice a n c)) l := by
  obtain ⟨fuel, h⟩ := h
  exact ints_sl ht he hce (by simpa [Value.cells] using h)
end
end Go.Proofs.Ytmomjannlnafcaa.Abs
namespace Go.Proofs.Ytmomjannlnafcaa.Abs
set_option linter.unusedSimpArgs false
set_option linter.unusedVariables false
open Go.RowKit
open Go.Proofs.Ytmomjannlnafcaa.Sim
open Go.Proofs
open Go.ChangeShapes Go.WideShapes Go.Deep
/-- The cells of n jobs; the After of job k lies in block e0 + k. -/
def jobCs (F : Nat → Job) (s : Nat → Value) (e0 n : Nat) : List Value := (List.range n).flatMap fun k => (F k).cells (mkV2 (e0 + k) (s k))
theorem jobCs_succ (F : Nat → Job) (s : Nat → Value) (e0 n : Nat) : jobCs F s e0 (n + 1) = jobCs F s e0 n ++ (F n).cells (mkV2 (e0 + n) (s n)) := by
  simp [jobCs, List.range_succ, List.flatMap_append]
theorem jobCs_len (F : Nat → Job) (s : Nat → Value) (e0 : Nat) : ∀ n, (jobCs F s e0 n).length = n * 4
  | 0 => rfl
  | n + 1 => by rw [jobCs_succ, List.length_append, jobCs_len F s e0 n]; simp [Job.cells]; omega
theorem jobCs_get (F : Nat → Job) (s : Nat → Value) (e0 : Nat) : ∀ n k, k < n → ∀ q v, ((F k).cells (mkV2 (e0 + k) (s k)))[q]? = some v → (jobCs F s e0 n)[k * 4 + q]? = some v
  | 0, k, h, _, _, _ => by omega
  | n + 1, k, h, q, v, hq => by
    have hq4 : q < 4 := by have := (List.getElem?_eq_some_iff.1 hq).1; simpa [Job.cells] using this
    rw [jobCs_succ]
    rcases Nat.lt_succ_iff_lt_or_eq.1 h with h' | h'
    · rw [List.getElem?_append_left (by rw [jobCs_len]; omega)]
      exact jobCs_get F s e0 n k h' q v hq
    · subst h'
      rw [List.getElem?_append_right (by rw [jobCs_len]; omega), jobCs_len, Nat.add_sub_cancel_left]
      exact hq
theorem cells4 (x : Job) (w : Value) (q : Nat) (v : Value) (h : (x.cells w)[q]? = some v) : q = 0 ∧ v = .int .i64 x.time ∨ q = 1 ∧ v = .int .i64 x.due ∨ q = 2 ∧ v = .int .i64 x.weight ∨ q = 3 ∧ v = w := by
  match q, h with
  | 0, h => simp [Job.cells] at h; exact .inl ⟨rfl, h.symm⟩
  | 1, h => simp [Job.cells] at h; exact .inr (.inl ⟨rfl, h.symm⟩)
  | 2, h => simp [Job.cells] at h; exact .inr (.inr (.inl ⟨rfl, h.symm⟩))
  | 3, h => simp [Job.cells] at h; exact .inr (.inr (.inr ⟨rfl, h.symm⟩))
  | q + 4, h => simp [Job.cells] at h
section
variable {H : Type} {enc : TypeId × Value → H} {P : Program} {w : World} {base : Nat} {held : Bool}
theorem arg_jobs {r : Reach} {b0 : Nat} {T e tS tI : TypeId} {fs : Array Field} {a : Option Addr} {n c : Nat} {d : DataW H} {p : List MemPlace} (ht : P.underlying T = some (.slice e)) (he : P.underlying e = some (.struct fs)) (hone : oneCellFields P fs = true) (hC : P.cellsOf e = fs.size) (hsz : fs.size = 4)
    (hI : ∀ j f, j < 3 → fs[j]? = some f → P.underlying f.type = some (.int .i64)) (hS : ∀ f, fs[3]? = some f → f.type = tS) (hS1 : P.underlying tS = some (.slice tI)) (hS2 : P.underlying tI = some (.int .i64)) (hS3 : P.cellsOf tI = 1)
    (hok : Value.okWide P w r b0 T (.slice a n c)) (h : DataW.Trod enc P w base (fun _ => true) held T (.slice a n c) d p) :
    ∃ (F : Nat → Job) (s : Nat → Value), n ≤ maxLen ∧ (∀ k, (F k).after.length ≤ maxLen) ∧ (∀ R k, OkB w R (s k, iv (F k).after)) ∧
      (∀ (bs : List AR) (e0 : Nat), (∀ k, k < n → bs[e0 + k]? = some (s k, iv (F k).after)) → OkB w (plN bs) (.slice a n c, jobCs F s e0 n)) ∧
      (∀ (bs : List AR) (i e0 : Nat), bs[i]? = some (.slice a n c, jobCs F s e0 n) → (∀ k, k < n → bs[e0 + k]? = some (s k, iv (F k).after)) → Jobs (bs.map mkB2) (mkV2 i (.slice a n c)) ((List.range n).map F)) := by
  obtain ⟨fuel, h⟩ := h
  rcases ok_slice ht hok with ⟨rfl, rfl, rfl⟩ | ⟨b, o, rfl, hle, hlt⟩
  · exact ⟨fun _ => default, fun _ => .slice none 0 0, by unfold maxLen; omega, fun _ => by show ([] : List Int).length ≤ _; simp, fun R k => .inl rfl, fun bs e0 _ => .inl rfl, fun bs i e0 hi _ =>
      ⟨i, 0, .inl ⟨rfl, rfl⟩, by simp; exact (List.getElem?_eq_some_iff.1 hi).1, fun k hk => by simp at hk⟩⟩
  · rcases open_slice_fields ht he hone hC h with ⟨hcs, _⟩ | ⟨x, l, cap, m, D, Pl, hcs, _, hl, hm, hmm, _, hrow⟩
    · simp [Value.cells] at hcs
    · simp [Value.cells] at hcs
      obtain ⟨rfl, rfl, rfl⟩ := hcs
      rw [if_pos rfl] at hmm
      have key : ∀ k : Nat, ∃ q : Job × Value, q.1.after.length ≤ maxLen ∧ (∀ R, OkB w R (q.2, iv q.1.after)) ∧ (∀ (bs : List AR) (i : Nat), bs[i]? = some (q.2, iv q.1.after) → Ints (bs.map mkB2) (mkV2 i q.2) q.1.after) ∧
          (k < n → w.cell? ⟨b, o + (k * 4 + 0), none⟩ = some (.int .i64 q.1.time) ∧ w.cell? ⟨b, o + (k * 4 + 1), none⟩ = some (.int .i64 q.1.due) ∧ w.cell? ⟨b, o + (k * 4 + 2), none⟩ = some (.int .i64 q.1.weight) ∧ w.cell? ⟨b, o + (k * 4 + 3), none⟩ = some q.2) := fun k => by
        by_cases hk : k < n
        · obtain ⟨ys, nn, _, _, _, hf⟩ := hrow k (by omega)
          rw [hsz] at hf
          have fi : ∀ j, j < 3 → ∃ z : Int, w.cell? ⟨b, o + (k * 4 + j), none⟩ = some (.int .i64 z) := fun j hj => by
            have hfj : fs[j]? = some (fs[j]'(by omega)) := Array.getElem?_eq_getElem (by omega)
            obtain ⟨v, y, h1, _, h3⟩ := hf j _ hfj
            obtain ⟨z, hz, _⟩ := DataW.trod_int (hI j _ hj hfj) h3
            simp at hz
            subst hz
            rw [Addr.add_lit] at h1
            exact ⟨z, h1⟩
          obtain ⟨z0, g0'⟩ := fi 0 (by omega)
          obtain ⟨z1, g1'⟩ := fi 1 (by omega)
          obtain ⟨z2, g2'⟩ := fi 2 (by omega)
          have hf3 : fs[3]? = some (fs[3]'(by omega)) := Array.getElem?_eq_getElem (by omega)
          obtain ⟨v, y, h1, _, h3⟩ := hf 3 _ hf3
          rw [hS _ hf3] at h3
          rw [Addr.add_lit] at h1
          obtain ⟨l, l1, l2, l3⟩ := ints_sl hS1 hS2 hS3 h3
          exact ⟨(⟨z0, z1, z2, l⟩, v), l1, l2, l3, fun _ => ⟨g0', g1', g2', h1⟩⟩
        · exact ⟨(default, .slice none 0 0), by show ([] : List Int).length ≤ _; simp, fun R => .inl rfl, fun bs i hi => ⟨i, 0, .inl ⟨rfl, rfl⟩, by simp; exact (List.getElem?_eq_some_iff.1 hi).1, fun k hk => by simp [default, instInhabitedJob] at hk⟩, fun h => absurd h hk⟩
      obtain ⟨G, hG⟩ := Classical.axiomOfChoice key
      refine ⟨fun k => (G k).1, fun k => (G k).2, by omega, fun k => (hG k).1, fun R k => (hG k).2.1 R, fun bs e0 hbs => ?_, fun bs i e0 hi hbs => ?_⟩
      · cases c with
        | zero =>
          obtain rfl : n = 0 := by omega
          exact .inr (.inl ⟨⟨b, o, none⟩, rfl⟩)
        | succ c =>
          refine .inr (.inr ⟨b, o, n, c, rfl, hle, hlt, fun j x hj => ?_⟩)
          have hjl := (List.getElem?_eq_some_iff.1 hj).1
          simp only [jobCs_len] at hjl
          have hk : j / 4 < n := by omega
          have hj4 : j % 4 < 4 := Nat.mod_lt _ (by omega)
          have e : j = j / 4 * 4 + j % 4 := by omega
          generalize hkk : j / 4 = k at *
          generalize hqq : j % 4 = q at *
          subst e
          have hcells : ∃ v, ((G k).1.cells (mkV2 (e0 + k) (G k).2))[q]? = some v := ⟨_, List.getElem?_eq_getElem (by simpa [Job.cells] using hj4)⟩
          obtain ⟨v, hv⟩ := hcells
          have hget := jobCs_get (fun k => (G k).1) (fun k => (G k).2) e0 n k hk q v hv
          simp only at hj
          rw [hget] at hj
          injection hj with hj
          subst hj
          obtain ⟨c0, c1, c2, c3⟩ := (hG k).2.2.2 hk
          rcases cells4 _ _ _ _ hv with ⟨rfl, rfl⟩ | ⟨rfl, rfl⟩ | ⟨rfl, rfl⟩ | ⟨rfl, rfl⟩
          · exact ⟨_, c0, .int _ _⟩
          · exact ⟨_, c1, .int _ _⟩
          · exact ⟨_, c2, .int _ _⟩
          · exact ⟨_, c3, relN (hbs k hk) ((hG k).2.1 (fun _ => none))⟩
      · have hlen : i < (bs.map mkB2).length := by simp; exact (List.getElem?_eq_some_iff.1 hi).1
        refine ⟨i, 0, by simpa [mkV2] using Sl.mk (Nat.le_refl n), hlen, fun k hk => ?_⟩
        have hk' : k < n := by simpa using hk
        have eg : ((List.range n).map fun k => (G k).1).getD k default = (G k).1 := by simp [hk']
        rw [eg]
        refine ⟨mkV2 (e0 + k) (G k).2, ?_, (hG k).2.2.1 bs (e0 + k) (hbs k hk')⟩
        cases c with
        | zero => omega
        | succ c =>
          refine ⟨{ cells := jobCs (fun k => (G k).1) (fun k => (G k).2) e0 n, kind := .ro }, by rw [List.getElem?_map, hi]; rfl, fun j v hj => ?_⟩
          rw [Nat.zero_add]
          exact jobCs_get _ _ e0 n k hk' j v hj
end
end Go.Proofs.Ytmomjannlnafcaa.Abs
namespace Go.Proofs.Ytmomjannlnafcaa.Abs
set_option linter.unusedSimpArgs false
set_option linter.unusedVariables false
open Go.RowKit
open Go.Proofs.Ytmomjannlnafcaa.Sim
open Go.Proofs
theorem short_rows {F : Nat → Job} {n : Nat} (h : n ≤ maxLen) (hF : ∀ k, (F k).after.length ≤ maxLen) : Short ((List.range n).map F) := by
  unfold maxLen at *
  refine ⟨by simp; omega, fun k hk => ?_⟩
  have hk' : k < n := by simpa using hk
  have e : ((List.range n).map F).getD k default = F k := by simp [hk']
  rw [e]
  have := hF k
  omega
end Go.Proofs.Ytmomjannlnafcaa.Abs
