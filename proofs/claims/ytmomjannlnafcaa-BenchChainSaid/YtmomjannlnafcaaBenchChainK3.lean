/- Proved here: what the proof of BenchChain rests on, part 3 of 4. Conditions: those that each theorem names. -/
import Derived.Test.YtmomjannlnafcaaBenchChainK2
namespace Go.Proofs.Ytmomjannlnafcaa.Abs
set_option linter.unusedSimpArgs false
set_option linter.unusedVariables false
open Go.RowKit
open Go.Proofs.Ytmomjannlnafcaa.Sim
open Go.Proofs
abbrev aft (j : List Job) (i : Nat) : List Int := (j.getD i default).after
abbrev tmJ (j : List Job) (i : Nat) : Int := (j.getD i default).time
structure JOk (j : List Job) : Prop where
  len : j.length ≤ 40
  num : ∀ k, k < j.length → 1 ≤ (j.getD k default).time ∧ (j.getD k default).time ≤ 10000 ∧ 0 ≤ (j.getD k default).due ∧ (j.getD k default).due ≤ 1000000 ∧ 0 ≤ (j.getD k default).weight ∧ (j.getD k default).weight ≤ 1000
  ris : ∀ k, k < j.length → ∀ i, i < (aft j k).length → 0 ≤ (aft j k).getD i 0 ∧ (aft j k).getD i 0 < j.length ∧ (i = 0 ∨ (aft j k).getD (i - 1) 0 < (aft j k).getD i 0)
theorem JOk.of {j : List Job} (h : jobsB j = true) : JOk j := by
  simp only [jobsB, Bool.and_eq_true, decide_eq_true_eq, List.all_eq_true] at h
  have key : ∀ k, k < j.length → jobB j.length (j.getD k default) = true := fun k hk => h.2 _ (by
    rw [List.getD_eq_getElem?_getD, List.getElem?_eq_getElem hk]; exact List.getElem_mem hk)
  refine ⟨h.1, fun k hk => ?_, fun k hk i hi => ?_⟩
  · have := key k hk
    simp only [jobB, numsB, Bool.and_eq_true, decide_eq_true_eq] at this
    exact this.1
  · have := key k hk
    simp only [jobB, risB, Bool.and_eq_true, List.all_eq_true, List.mem_range] at this
    have := this.2 i hi
    simpa only [risOk, decide_eq_true_eq] using this
theorem JOk.low {j : List Job} (h : JOk j) {k : Nat} (hk : k < j.length) : ∀ i, i < (aft j k).length → (i : Int) ≤ (aft j k).getD i 0
  | 0, hi => (h.ris k hk 0 hi).1
  | i + 1, hi => by
    have h1 := h.low hk i (by omega)
    have h2 := (h.ris k hk (i + 1) hi).2.2
    rw [Nat.add_sub_cancel] at h2
    omega
theorem JOk.alen {j : List Job} (h : JOk j) {k : Nat} (hk : k < j.length) : (aft j k).length ≤ j.length := by
  by_cases h0 : (aft j k).length = 0
  · omega
  · have h1 := h.low hk ((aft j k).length - 1) (by omega)
    have h2 := h.ris k hk ((aft j k).length - 1) (by omega)
    omega
theorem JOk.mem {j : List Job} (h : JOk j) {k : Nat} (hk : k < j.length) {a : Int} (ha : a ∈ aft j k) : 0 ≤ a ∧ a < j.length := by
  obtain ⟨i, hi, rfl⟩ := List.getElem_of_mem ha
  have := h.ris k hk i hi
  rw [List.getD_eq_getElem?_getD, List.getElem?_eq_getElem hi, Option.getD_some] at this
  exact ⟨this.1, this.2.1⟩
def readyJ (j : List Job) (P : List Nat) (i : Nat) : Bool := decide (i ∉ P) && (aft j i).all fun a => decide (a.toNat ∈ P)
def sortF (j : List Job) : Nat → List Nat → List Nat
  | 0, P => P
  | f + 1, P => match (List.range j.length).find? (readyJ j P) with
    | none => P
    | some i => sortF j f (P ++ [i])
def sortL (j : List Job) : List Nat := sortF j j.length []
theorem sortF_none {j : List Job} {P : List Nat} (h : ∀ i, i < j.length → readyJ j P i = false) : ∀ f, sortF j f P = P
  | 0 => rfl
  | f + 1 => by rw [sortF, find_miss h]
theorem sortF_some {j : List Job} {P : List Nat} {i : Nat} (hi : i < j.length) (h0 : ∀ k, k < i → readyJ j P k = false) (h1 : readyJ j P i = true) (f : Nat) : sortF j (f + 1) P = sortF j f (P ++ [i]) := by
  rw [sortF, find_hit hi h0 h1]
/-- What is placed, as a row. -/
def plR (n : Nat) (P : List Nat) : List Bool := (List.range n).map fun i => decide (i ∈ P)
theorem plR_len (n : Nat) (P : List Nat) : (plR n P).length = n := by simp [plR]
theorem plR_get {n i : Nat} (P : List Nat) (h : i < n) : (plR n P).getD i false = decide (i ∈ P) := by simp [plR, h]
theorem plR_zero (n : Nat) : List.replicate n false = plR n [] := by
  simp only [plR, List.not_mem_nil, decide_false]
  rw [List.map_const']; simp
theorem plR_set {n i : Nat} (P : List Nat) : (plR n P).set i true = plR n (P ++ [i]) := by
  apply List.ext_getElem?
  intro k
  by_cases hk : k < n
  · by_cases e : i = k
    · subst e; rw [List.getElem?_set_self (by rw [plR_len]; exact hk)]; simp [plR, hk]
    · rw [List.getElem?_set_ne e]; simp [plR, hk, Ne.symm e]
  · rw [List.getElem?_eq_none (by rw [List.length_set, plR_len]; omega), List.getElem?_eq_none (by rw [plR_len]; omega)]
def nv (P : List Nat) : List Int := P.map (Nat.cast : Nat → Int)
theorem nv_len (P : List Nat) : (nv P).length = P.length := by simp [nv]
theorem nv_snoc (P : List Nat) (i : Nat) : nv (P ++ [i]) = nv P ++ [(i : Int)] := by simp [nv]
theorem nv_get {P : List Nat} {k : Nat} (h : k < P.length) : (nv P).getD k 0 = ((P.getD k 0 : Nat) : Int) := by simp [nv, h]
theorem bs23x {m : AM} {n : Nat} {x : Int} : abuildSlice Try.prog m n 23 1 [(0, .int .i64 x)] = some (.slice (some ⟨n, 0, none⟩) 1 1, m.set n (some { cells := [.int .i64 x] })) := by kernel_rfl
theorem ze84 : zeroB Try.prog 84 = some #[.slice none 0 0] := by kernel_rfl
theorem ze23 : zeroB Try.prog 23 = some #[.slice none 0 0] := by kernel_rfl
/-- A slice of bools that reads as the function b. -/
def Boos (m : AM) (r n : Nat) (b : Nat → Bool) : Prop := ∀ i, i < n → Rd m r i (.bool (b i))
set_option maxRecDepth 100000 in
theorem f123_ok {m : AM} {p r n : Nat} {b : Nat → Bool} (a : Int) (ha : 0 ≤ a ∧ a < n) (hp : Rd m p 0 (.slice (some ⟨r, 0, none⟩) n n)) (hb : Boos m r n b) : ACall Try.prog 123 #[.int .i64 a, .pointer (some ⟨p, 0, none⟩)] m (Ret (.bool (!b a.toNat)) m) := by
  obtain ⟨k, rfl⟩ := Int.eq_ofNat_of_zero_le ha.1
  have hr := hb k (by omega)
  refine ACall.start Try.func123 rfl rfl ?_
  rw [← List.append_nil m] at hp hr
  (repeat (first | (with_reducible refine AWo.cons ?_) | ((with_reducible refine Step.id ?_); first | ((with_reducible apply Step.move); exact rfl; exact rfl) | ((with_reducible apply Step.assign); exact rfl; exact rfl) | ((with_reducible apply Step.load); exact rfl; (focus (decide +kernel)); exact rfl; (focus (assumption))) | ((with_reducible apply Step.ix1z); exact rfl; (focus (exact Sl.mk (by omega))); exact rfl; (focus (decide +kernel)); exact rfl; (focus (omega))) | ((with_reducible apply Step.not); exact rfl; exact rfl)) | (with_reducible refine AWo.nil ?_) | ((with_reducible apply AW.seq)) | ((with_reducible apply Then.n)) | ((with_reducible apply AW.regL))))
  (refine AW.retD (l := [(3, _)]) (by repeat (first | exact trivial | (refine And.intro ⟨rfl, by (exact .bool _)⟩ ?_))) ?_; (repeat (first | refine Then.r ?_ | refine InBlk.r ?_)))
  exact ⟨_, rfl, rfl, rfl⟩
set_option maxHeartbeats 2000000 in
set_option maxRecDepth 100000 in
theorem sort_ok' {m : AM} {v : Value} {j : List Job} (hj : Jobs m v j) (hok : JOk j) {P0 : List Nat} (hP0 : sortL j = P0) : ACall Try.prog 106 #[v] m (NewG (iv (nv P0)) 1 P0.length m) := by
  subst hP0
  have h40 := hok.len
  obtain ⟨a, o, h1, h2, h3⟩ := hj
  refine ACall.start Try.func106 rfl rfl ?_
  (repeat (first | (with_reducible refine AWo.cons ?_) | ((with_reducible refine Step.id ?_); first | ((with_reducible apply Step.move); exact rfl; exact rfl) | ((with_reducible apply Step.assign); exact rfl; exact rfl) | ((with_reducible apply Step.len); exact rfl; (focus (assumption)); (focus (decide +kernel)); exact rfl) | ((with_reducible apply Step.make1 0); exact rfl; exact rfl; exact rfl; exact el84; (focus (omega)); exact rfl; (focus (first | (simp only [List.nil_append, List.cons_append, List.set_cons_zero, List.set_cons_succ, iv_set, bv_set, iv_rep, bv_rep]; done) | (simp only [List.nil_append, List.cons_append, List.set_cons_zero, List.set_cons_succ, iv_set, bv_set, iv_rep, bv_rep]; rfl) | rfl))) | ((with_reducible apply Step.alloc 1); exact rfl; exact ze84; exact rfl; (focus (first | (simp only [List.nil_append, List.cons_append, List.set_cons_zero, List.set_cons_succ, iv_set, bv_set, iv_rep, bv_rep]; done) | (simp only [List.nil_append, List.cons_append, List.set_cons_zero, List.set_cons_succ, iv_set, bv_set, iv_rep, bv_rep]; rfl) | rfl))) | ((with_reducible apply Step.store (k := 1)); exact rfl; exact rfl; exact rfl; exact rfl; (focus (decide +kernel)); exact rfl; exact rfl; (focus (first | omega | (simp [iv, bv]; done) | (simp [iv, bv]; omega))); (focus (first | (simp only [List.nil_append, List.cons_append, List.set_cons_zero, List.set_cons_succ, iv_set, bv_set, iv_rep, bv_rep]; done) | (simp only [List.nil_append, List.cons_append, List.set_cons_zero, List.set_cons_succ, iv_set, bv_set, iv_rep, bv_rep]; rfl) | rfl)))) | (with_reducible refine AWo.nil ?_) | ((with_reducible apply AW.seq)) | ((with_reducible apply Then.n)) | ((with_reducible apply AW.regL)) | ((with_reducible apply AW.block)) | ((with_reducible apply AW.scope)) | ((with_reducible apply AW.label))))
  refine AW.loopT (fun n' t L => ∃ P : List Nat, n' = j.length - P.length ∧ P.length ≤ j.length ∧ sortF j (j.length - P.length) P = sortL j ∧
    L = [some { cells := bv (plR j.length P) }, some { cells := [.slice (some ⟨m.length + 0, 0, none⟩) j.length j.length] }, gb (iv (nv P)) 1] ∧
    t = [(0, v), (3, gv (m.length + 2) P.length), (4, .pointer (some ⟨m.length + 1, 0, none⟩))]) ⟨_, _, [some { cells := bv (List.replicate j.length false) }, some { cells := [.slice (some ⟨m.length + 0, 0, none⟩) j.length j.length] }] ++ [none], (Back.padC rfl (by repeat (first | exact trivial | (refine And.intro ⟨rfl, by (first | exact Ren.of_gv (by first | (simp; done) | omega | (simp; omega)) | exact .ptr _ _ (by first | (simp; done) | omega | (simp; omega)) | exact Ren.of_sl (by assumption) (by first | omega | (simp; omega)))⟩ ?_))) (by repeat (first | exact CellsP.nil | (refine CellsP.cons ?_ ?_; (focus (first | exact cells_bv _ | ((repeat (first | exact cells_nil | (refine cells_cons ?_ ?_; (focus (exact .slice _ _ _ _ (by first | (simp; done) | omega | (simp; omega))))))); done))))))), [], rfl, Nat.zero_le _, rfl, by rw [plR_zero]; rfl, rfl⟩ ?_
  rintro n' t L ⟨P, rfl, hP, hsort, rfl, rfl⟩
  by_cases hfull : P.length = j.length
  · rw [show j.length - P.length = 0 by omega] at hsort
    simp only [sortF] at hsort
    rw [← hsort]
    (repeat (first | (with_reducible refine AWo.cons ?_) | ((with_reducible refine Step.id ?_); first | ((with_reducible apply Step.move); exact rfl; exact rfl) | ((with_reducible apply Step.assign); exact rfl; exact rfl) | ((with_reducible apply Step.lss); exact rfl; exact rfl; exact rfl) | ((with_reducible apply Step.len); exact rfl; (focus (first | assumption | exact gv_sl _ _)); (focus (decide +kernel)); exact rfl)) | (with_reducible refine AWo.nil ?_) | ((with_reducible apply AW.seq)) | ((with_reducible apply Then.n)) | ((with_reducible apply AW.regL)) | ((with_reducible apply AW.exit)) | ((with_reducible apply InBlk.hit)) | ((with_reducible apply Then.e)) | ((with_reducible apply AW.condF); exact rfl; (focus ((simp only [decide_eq_true_eq, decide_eq_false_iff_not, Bool.not_eq_true', Bool.not_eq_false', Bool.not_true, Bool.not_false]; first | assumption | omega))))))
    refine AW.retB (l := [(2, gv (m.length + 0) P.length)]) (L1 := [gb (iv (nv P)) 1]) (Back.mvC 0 2 rfl rfl rfl rfl (by intro j b hj h; rcases j with _ | _ | _ | _ | _ | _ | _ | _ | j <;> first | exact absurd rfl hj | exact h | (simp at h; done)) (by repeat (first | exact CellsP.nil | (refine CellsP.gb ?_ ?_; (focus (exact cells_iv _))))) (by repeat (first | exact trivial | (refine And.intro ⟨_, rfl, by (exact Ren.gv_mv (by first | (simp; done) | omega | (simp; omega)))⟩ ?_)))) ?_
    exact ⟨_, rfl, rfl, rfl⟩
  · (repeat (first | (with_reducible refine AWo.cons ?_) | ((with_reducible refine Step.id ?_); first | ((with_reducible apply Step.move); exact rfl; exact rfl) | ((with_reducible apply Step.lss); exact rfl; exact rfl; exact rfl) | ((with_reducible apply Step.len); exact rfl; (focus (first | assumption | exact gv_sl _ _)); (focus (decide +kernel)); exact rfl)) | (with_reducible refine AWo.nil ?_) | ((with_reducible apply AW.seq)) | ((with_reducible apply Then.n)) | ((with_reducible apply AW.regL)) | ((with_reducible apply AW.block)) | ((with_reducible apply AW.skip)) | ((with_reducible apply AW.condT); exact rfl; (focus ((simp only [decide_eq_true_eq, decide_eq_false_iff_not, Bool.not_eq_true', Bool.not_eq_false', Bool.not_true, Bool.not_false]; first | assumption | omega))))))
    refine AW.loopT (fun n' t L => ∃ i : Nat, n' = j.length - i ∧ i ≤ j.length ∧ (∀ k, k < i → readyJ j P k = false) ∧
      L = [some { cells := bv (plR j.length P) }, some { cells := [.slice (some ⟨m.length + 0, 0, none⟩) j.length j.length] }, gb (iv (nv P)) 1] ∧
      t = [(0, v), (3, gv (m.length + 2) P.length), (4, .pointer (some ⟨m.length + 1, 0, none⟩)), (15, v), (16, .int .i64 (j.length : Nat)), (17, .int .i64 (i : Nat))]) ⟨_, _, _, (Or.inl ⟨rfl, (by repeat (first | exact trivial | (refine And.intro rfl ?_)))⟩), 0, rfl, Nat.zero_le _, by omega, rfl, rfl⟩ ?_
    rintro n' t L ⟨i, rfl, hi, hno, rfl, rfl⟩
    rcases Nat.lt_or_ge i j.length with hlt | hge
    · obtain ⟨w, hr, hw⟩ := h3 i hlt
      obtain ⟨wa, wo, w1, w2, w3⟩ := id hw
      have hone := w1.one
      have hal := hok.alen hlt
      have hmem := fun a ha => hok.mem hlt (a := a) ha
      have gP := plR_get P hlt
      have lP := plR_len j.length P
      have rdef : readyJ j P i = (decide (i ∉ P) && (aft j i).all fun a => decide (a.toNat ∈ P)) := rfl
      have step := sortF_some (j := j) (P := P) hlt hno
      have next : readyJ j P i = false → ∀ k, k < i + 1 → readyJ j P k = false := fun e k hk => by
        rcases Nat.lt_succ_iff_lt_or_eq.1 hk with h | h
        · exact hno k h
        · rw [h]; exact e
      simp only [aft] at *
      generalize j.getD i default = x at *
      obtain ⟨x1, x2, x3, l⟩ := x
      have hw1 := job_one (x := x1) (y := x2) (z := x3) hone
      simp only [Job.cells] at *
      by_cases hin : i ∈ P
      · rw [decide_eq_true hin] at gP
        have hro : ∀ L, Rd (m ++ (some { cells := bv (plR j.length P) } :: L)) (m.length + 0) i (.bool true) := fun L => by
          rw [← gP]; exact Rd.new rfl (bv_get (by omega))
        (repeat (first | (with_reducible refine AWo.cons ?_) | ((with_reducible refine Step.id ?_); first | ((with_reducible apply Step.gdF); exact rfl; exact rfl; (focus (rfl))) | ((with_reducible apply Step.move); exact rfl; exact rfl) | ((with_reducible apply Step.assign); exact rfl; exact rfl) | ((with_reducible apply Step.load); exact rfl; (focus (decide +kernel)); exact rfl; (focus (first | exact hro _ | exact Rd.new rfl rfl))) | ((with_reducible apply Step.loadL (n := 4)); exact rfl; (focus (decide +kernel)); (focus (decide +kernel)); exact rfl; (focus (exact RdL.old _ (by assumption))); exact rfl; exact rfl) | ((with_reducible apply Step.ix1z); exact rfl; (focus (exact Sl.mk (by omega))); exact rfl; (focus (decide +kernel)); exact rfl; (focus (omega))) | ((with_reducible apply Step.ix (s := 4)); exact rfl; (focus (assumption)); exact rfl; (focus (decide +kernel)); exact rfl; (focus (omega))) | ((with_reducible apply Step.add); exact rfl; exact rfl; (focus (omega)); exact rfl) | ((with_reducible apply Step.lss); exact rfl; exact rfl; exact rfl) | ((with_reducible apply Step.pickT); exact rfl; exact rfl; exact rfl; exact rfl; (focus (rfl))) | ((with_reducible apply Step.alloc 3); exact rfl; exact ze87; exact rfl; (focus (first | (simp only [List.nil_append, List.cons_append, List.set_cons_zero, List.set_cons_succ, iv_set, bv_set, iv_rep, bv_rep]; done) | (simp only [List.nil_append, List.cons_append, List.set_cons_zero, List.set_cons_succ, iv_set, bv_set, iv_rep, bv_rep]; rfl) | rfl))) | ((with_reducible apply Step.storeA (k := 3) (n := 4)); exact rfl; exact rfl; exact rfl; exact rfl; (focus (decide +kernel)); exact rfl; (focus (first | assumption | exact hw1)); exact rfl; (focus (first | (simp only [List.nil_append, List.cons_append, List.set_cons_zero, List.set_cons_succ, iv_set, bv_set, iv_rep, bv_rep]; done) | (simp only [List.nil_append, List.cons_append, List.set_cons_zero, List.set_cons_succ, iv_set, bv_set, iv_rep, bv_rep]; rfl) | rfl)))) | (with_reducible refine AWo.nil ?_) | ((with_reducible apply AW.seq)) | ((with_reducible apply Then.n)) | ((with_reducible apply AW.regL)) | ((with_reducible apply AW.block)) | ((with_reducible apply AW.exit)) | ((with_reducible apply InBlk.hit)) | ((with_reducible apply Then.e)) | ((with_reducible apply AW.skip)) | ((with_reducible apply AW.condT); exact rfl; (focus (first | rfl | (simp only [decide_eq_true_eq, decide_eq_false_iff_not, Bool.not_eq_true', Bool.not_eq_false', Bool.not_true, Bool.not_false]; first | assumption | omega))))))
        exact ⟨_, _, [some { cells := bv (plR j.length P) }, some { cells := [.slice (some ⟨m.length + 0, 0, none⟩) j.length j.length] }, gb (iv (nv P)) 1], by omega, (Back.trimC rfl rfl (by repeat (first | exact CellsP.nil | (refine CellsP.cons ?_ ?_; (focus (first | exact cells_bv _ | ((repeat (first | exact cells_nil | (refine cells_cons ?_ ?_; (focus (exact .slice _ _ _ _ (by first | (simp; done) | omega | (simp; omega))))))); done)))) | (refine CellsP.gb ?_ ?_; (focus (exact cells_iv _))))) (by repeat (first | exact trivial | (refine And.intro ⟨rfl, by (first | exact .int _ _ | exact Ren.of_gv (by first | (simp; done) | omega | (simp; omega)) | exact .ptr _ _ (by first | (simp; done) | omega | (simp; omega)) | exact Ren.of_sl (by assumption) (by first | omega | (simp; omega)))⟩ ?_)))), i + 1, rfl, by omega, next (by rw [rdef]; simp [hin]), rfl, rfl⟩
      · rw [decide_eq_false hin] at gP
        have hro : ∀ L, Rd (m ++ (some { cells := bv (plR j.length P) } :: L)) (m.length + 0) i (.bool false) := fun L => by
          rw [← gP]; exact Rd.new rfl (bv_get (by omega))
        have call := f94_ok (m := m ++ [some { cells := bv (plR j.length P) }, some { cells := [.slice (some ⟨m.length + 0, 0, none⟩) j.length j.length] }, gb (iv (nv P)) 1, some { cells := [.int .i64 x1, .int .i64 x2, .int .i64 x3, w] }]) (v := w) (l := l) (g := 123) (cap := #[.pointer (some ⟨m.length + 1, 0, none⟩)]) (hw.old _) Try.func123 rfl (fun k => !decide ((l.getD k 0).toNat ∈ P)) (by omega)
          (fun k hk => by
            have hm := hmem (l.getD k 0) (by rw [List.getD_eq_getElem?_getD, List.getElem?_eq_getElem hk]; exact List.getElem_mem hk)
            exact f123_ok (b := fun i => decide (i ∈ P)) (l.getD k 0) hm (Rd.new rfl rfl) (fun i hi => by
              have := plR_get P hi
              show Rd _ _ _ (.bool (decide (i ∈ P)))
              rw [← this]; exact Rd.new rfl (bv_get (by rw [plR_len]; exact hi))))
          (any_all l 0 (fun a => decide (a.toNat ∈ P)))
        cases hall : l.all (fun a => decide (a.toNat ∈ P)) with
        | false =>
          rw [hall] at call
          (repeat (first | (with_reducible refine AWo.cons ?_) | ((with_reducible refine Step.id ?_); first | ((with_reducible apply Step.gdT); exact rfl; exact rfl; (focus (rfl))) | ((with_reducible apply Step.move); exact rfl; exact rfl) | ((with_reducible apply Step.assign); exact rfl; exact rfl) | ((with_reducible apply Step.load); exact rfl; (focus (decide +kernel)); exact rfl; (focus (first | exact hro _ | exact Rd.new rfl rfl))) | ((with_reducible apply Step.loadL (n := 4)); exact rfl; (focus (decide +kernel)); (focus (decide +kernel)); exact rfl; (focus (exact RdL.old _ (by assumption))); exact rfl; exact rfl) | ((with_reducible apply Step.ix1z); exact rfl; (focus (exact Sl.mk (by omega))); exact rfl; (focus (decide +kernel)); exact rfl; (focus (omega))) | ((with_reducible apply Step.ix (s := 4)); exact rfl; (focus (assumption)); exact rfl; (focus (decide +kernel)); exact rfl; (focus (omega))) | ((with_reducible apply Step.field (k := 3)); exact rfl; (focus (decide +kernel)); exact rfl) | ((with_reducible apply Step.add); exact rfl; exact rfl; (focus (omega)); exact rfl) | ((with_reducible apply Step.lss); exact rfl; exact rfl; exact rfl) | ((with_reducible apply Step.fn); exact rfl; exact rfl; exact rfl) | ((with_reducible apply Step.pickF); exact rfl; exact rfl; exact rfl; exact rfl; (focus (rfl))) | ((with_reducible apply Step.callR fit); exact rfl; exact Try.func94; exact rfl; exact rfl; exact (call)) | ((with_reducible apply Step.alloc 3); exact rfl; exact ze87; exact rfl; (focus (first | (simp only [List.nil_append, List.cons_append, List.set_cons_zero, List.set_cons_succ, iv_set, bv_set, iv_rep, bv_rep]; done) | (simp only [List.nil_append, List.cons_append, List.set_cons_zero, List.set_cons_succ, iv_set, bv_set, iv_rep, bv_rep]; rfl) | rfl))) | ((with_reducible apply Step.storeA (k := 3) (n := 4)); exact rfl; exact rfl; exact rfl; exact rfl; (focus (decide +kernel)); exact rfl; (focus (first | assumption | exact hw1)); exact rfl; (focus (first | (simp only [List.nil_append, List.cons_append, List.set_cons_zero, List.set_cons_succ, iv_set, bv_set, iv_rep, bv_rep]; done) | (simp only [List.nil_append, List.cons_append, List.set_cons_zero, List.set_cons_succ, iv_set, bv_set, iv_rep, bv_rep]; rfl) | rfl)))) | (with_reducible refine AWo.nil ?_) | ((with_reducible apply AW.seq)) | ((with_reducible apply Then.n)) | ((with_reducible apply AW.regL)) | ((with_reducible apply AW.block)) | ((with_reducible apply AW.exit)) | ((with_reducible apply InBlk.hit)) | ((with_reducible apply Then.e)) | ((with_reducible apply AW.skip)) | ((with_reducible apply AW.condT); exact rfl; (focus (first | rfl | (simp only [decide_eq_true_eq, decide_eq_false_iff_not, Bool.not_eq_true', Bool.not_eq_false', Bool.not_true, Bool.not_false]; first | assumption | omega))))))
          exact ⟨_, _, [some { cells := bv (plR j.length P) }, some { cells := [.slice (some ⟨m.length + 0, 0, none⟩) j.length j.length] }, gb (iv (nv P)) 1], by omega, (Back.trimC rfl rfl (by repeat (first | exact CellsP.nil | (refine CellsP.cons ?_ ?_; (focus (first | exact cells_bv _ | ((repeat (first | exact cells_nil | (refine cells_cons ?_ ?_; (focus (exact .slice _ _ _ _ (by first | (simp; done) | omega | (simp; omega))))))); done)))) | (refine CellsP.gb ?_ ?_; (focus (exact cells_iv _))))) (by repeat (first | exact trivial | (refine And.intro ⟨rfl, by (first | exact .int _ _ | exact Ren.of_gv (by first | (simp; done) | omega | (simp; omega)) | exact .ptr _ _ (by first | (simp; done) | omega | (simp; omega)) | exact Ren.of_sl (by assumption) (by first | omega | (simp; omega)))⟩ ?_)))), i + 1, rfl, by omega, next (by rw [rdef, hall]; simp), rfl, rfl⟩
        | true =>
          rw [hall] at call
          have st := step (by rw [rdef, hall]; simp [hin]) (j.length - P.length - 1)
          rw [show j.length - P.length - 1 + 1 = j.length - P.length by omega, hsort] at st
          have hset := plR_set (n := j.length) (i := i) P
          have hln := nv_len P
          have hli := iv_len (nv P)
          have hnl : (iv (nv P)).length = P.length * 1 := by omega
          have hg0 : ∀ v ∈ iv (nv P) ++ [Value.int .i64 ((i : Nat) : Int)], g0 v = true := fun v hv => by
            rcases List.mem_append.1 hv with h | h
            · exact g0_iv _ v h
            · obtain rfl : v = Value.int .i64 ((i : Nat) : Int) := by simpa using h
              rfl
          (repeat (first | (with_reducible refine AWo.cons ?_) | ((with_reducible refine Step.id ?_); first | ((with_reducible apply Step.gdT); exact rfl; exact rfl; (focus (rfl))) | ((with_reducible apply Step.move); exact rfl; exact rfl) | ((with_reducible apply Step.assign); exact rfl; exact rfl) | ((with_reducible apply Step.load); exact rfl; (focus (decide +kernel)); exact rfl; (focus (first | exact hro _ | exact Rd.new rfl rfl))) | ((with_reducible apply Step.loadL (n := 4)); exact rfl; (focus (decide +kernel)); (focus (decide +kernel)); exact rfl; (focus (exact RdL.old _ (by assumption))); exact rfl; exact rfl) | ((with_reducible apply Step.ix1z); exact rfl; (focus (exact Sl.mk (by omega))); exact rfl; (focus (decide +kernel)); exact rfl; (focus (omega))) | ((with_reducible apply Step.ix (s := 4)); exact rfl; (focus (assumption)); exact rfl; (focus (decide +kernel)); exact rfl; (focus (omega))) | ((with_reducible apply Step.field (k := 3)); exact rfl; (focus (decide +kernel)); exact rfl) | ((with_reducible apply Step.lss); exact rfl; exact rfl; exact rfl) | ((with_reducible apply Step.fn); exact rfl; exact rfl; exact rfl) | ((with_reducible apply Step.pickF); exact rfl; exact rfl; exact rfl; exact rfl; (focus (rfl))) | ((with_reducible apply Step.callR fit); exact rfl; exact Try.func94; exact rfl; exact rfl; exact (call)) | ((with_reducible apply Step.store (k := 0)); exact rfl; exact rfl; exact rfl; exact rfl; (focus (decide +kernel)); exact rfl; exact rfl; (focus (first | omega | (simp [iv, bv]; done) | (simp [iv, bv]; omega))); (focus (first | (simp only [List.nil_append, List.cons_append, List.set_cons_zero, List.set_cons_succ, iv_set, bv_set, iv_rep, bv_rep]; done) | (simp only [List.nil_append, List.cons_append, List.set_cons_zero, List.set_cons_succ, iv_set, bv_set, iv_rep, bv_rep]; rfl) | rfl))) | ((with_reducible apply Step.alloc 3); exact rfl; exact ze87; exact rfl; (focus (first | (simp only [List.nil_append, List.cons_append, List.set_cons_zero, List.set_cons_succ, iv_set, bv_set, iv_rep, bv_rep]; done) | (simp only [List.nil_append, List.cons_append, List.set_cons_zero, List.set_cons_succ, iv_set, bv_set, iv_rep, bv_rep]; rfl) | rfl))) | ((with_reducible apply Step.storeA (k := 3) (n := 4)); exact rfl; exact rfl; exact rfl; exact rfl; (focus (decide +kernel)); exact rfl; (focus (first | assumption | exact hw1)); exact rfl; (focus (first | (simp only [List.nil_append, List.cons_append, List.set_cons_zero, List.set_cons_succ, iv_set, bv_set, iv_rep, bv_rep]; done) | (simp only [List.nil_append, List.cons_append, List.set_cons_zero, List.set_cons_succ, iv_set, bv_set, iv_rep, bv_rep]; rfl) | rfl))) | ((with_reducible apply Step.buildS 4); exact rfl; exact rfl; exact (fun _ _ => bs23x); exact rfl; (focus (first | (simp only [List.nil_append, List.cons_append, List.set_cons_zero, List.set_cons_succ, iv_set, bv_set, iv_rep, bv_rep]; done) | (simp only [List.nil_append, List.cons_append, List.set_cons_zero, List.set_cons_succ, iv_set, bv_set, iv_rep, bv_rep]; rfl) | rfl)))) | (with_reducible refine AWo.nil ?_) | ((with_reducible apply AW.seq)) | ((with_reducible apply Then.n)) | ((with_reducible apply AW.regL)) | ((with_reducible apply AW.block)) | ((with_reducible apply AW.skip)) | ((with_reducible apply AW.condT); exact rfl; (focus ((simp only [decide_eq_true_eq, decide_eq_false_iff_not, Bool.not_eq_true', Bool.not_eq_false', Bool.not_true, Bool.not_false]; first | assumption | omega)))) | ((with_reducible apply AW.condF); exact rfl; (focus (rfl)))))
          ((with_reducible apply Step.appG (k := 5)); exact rfl; exact rfl; exact rfl; exact el23; exact un23; exact rfl; exact rfl; exact rfl; exact hnl; exact rfl; exact rfl; exact rfl; (focus (omega)); exact rfl; (focus (first | (simp only [List.nil_append, List.cons_append, List.set_cons_zero, List.set_cons_succ, iv_set, bv_set, iv_rep, bv_rep]; done) | (simp only [List.nil_append, List.cons_append, List.set_cons_zero, List.set_cons_succ, iv_set, bv_set, iv_rep, bv_rep]; rfl) | rfl)))
          (repeat (first | (with_reducible refine AWo.cons ?_) | ((with_reducible refine Step.id ?_); ((with_reducible apply Step.assign); exact rfl; exact rfl)) | (with_reducible refine AWo.nil ?_) | ((with_reducible apply Then.n)) | ((with_reducible apply AW.exit)) | ((with_reducible apply InBlk.hit)) | ((with_reducible apply InBlk.miss); exact rfl) | ((with_reducible apply Then.e))))
          refine ⟨_, [(0, v), (3, .slice (some ⟨m.length + 2, 0, none⟩) (P.length + 1) (P.length + 1)), (4, .pointer (some ⟨m.length + 1, 0, none⟩))], [some { cells := bv ((plR j.length P).set i true) }, some { cells := [.slice (some ⟨m.length + 0, 0, none⟩) j.length j.length] }, some { cells := iv (nv P) ++ [.int .i64 ((i : Nat) : Int)], kind := .grow, size := 1 }], ?_, (Back.mvC 2 5 rfl rfl rfl rfl (by intro j b hj h; rcases j with _ | _ | _ | _ | _ | _ | _ | _ | j <;> first | exact absurd rfl hj | exact h | (simp at h; done)) (by repeat (first | exact CellsP.nil | (refine CellsP.cons ?_ ?_; (focus (first | exact cells_bv _ | exact cells_g0 (by assumption) | ((repeat (first | exact cells_nil | (refine cells_cons ?_ ?_; (focus (exact Ren.slice_ne (by first | (simp; done) | omega | (simp; omega)) (by omega)))))); done)))))) (by repeat (first | exact trivial | (refine And.intro ⟨_, rfl, by (first | exact Ren.slice_mv (by first | (simp; done) | omega | (simp; omega)) | exact Ren.of_sl_ne (by assumption) (by first | omega | (simp; omega)) (by first | omega | (simp; omega)) | exact Ren.ptr_ne (by first | (simp; done) | omega | (simp; omega)) (by omega))⟩ ?_)))), P ++ [i], rfl, ?_, ?_, ?_, ?_⟩
          · simp; omega
          · simp; omega
          · rw [List.length_append, List.length_singleton, show j.length - (P.length + 1) = j.length - P.length - 1 by omega]; exact st.symm
          · rw [hset, nv_snoc, gb_pos (by simp [iv])]
            simp [iv]
          · rw [gv_pos (by simp)]; simp
    · obtain rfl : i = j.length := by omega
      rw [sortF_none hno] at hsort
      rw [← hsort]
      (repeat (first | (with_reducible refine AWo.cons ?_) | ((with_reducible refine Step.id ?_); first | ((with_reducible apply Step.move); exact rfl; exact rfl) | ((with_reducible apply Step.assign); exact rfl; exact rfl) | ((with_reducible apply Step.lss); exact rfl; exact rfl; exact rfl)) | (with_reducible refine AWo.nil ?_) | ((with_reducible apply AW.seq)) | ((with_reducible apply Then.n)) | ((with_reducible apply AW.regL)) | ((with_reducible apply AW.exit)) | ((with_reducible apply InBlk.hit)) | ((with_reducible apply InBlk.miss); exact rfl) | ((with_reducible apply Then.e)) | ((with_reducible apply AW.condF); exact rfl; (focus ((simp only [decide_eq_true_eq, decide_eq_false_iff_not, Bool.not_eq_true', Bool.not_eq_false', Bool.not_true, Bool.not_false]; first | assumption | omega))))))
      refine AW.retB (l := [(2, gv (m.length + 0) P.length)]) (L1 := [gb (iv (nv P)) 1]) (Back.mvC 0 2 rfl rfl rfl rfl (by intro j b hj h; rcases j with _ | _ | _ | _ | _ | _ | _ | _ | j <;> first | exact absurd rfl hj | exact h | (simp at h; done)) (by repeat (first | exact CellsP.nil | (refine CellsP.gb ?_ ?_; (focus (exact cells_iv _))))) (by repeat (first | exact trivial | (refine And.intro ⟨_, rfl, by (exact Ren.gv_mv (by first | (simp; done) | omega | (simp; omega)))⟩ ?_)))) ?_
      exact ⟨_, rfl, rfl, rfl⟩
end Go.Proofs.Ytmomjannlnafcaa.Abs
namespace Go.Proofs.Ytmomjannlnafcaa.Abs
set_option linter.unusedSimpArgs false
set_option linter.unusedVariables false
open Go.RowKit
open Go.Proofs.Ytmomjannlnafcaa.Sim
section
variable {P : Program} {nt : Nat} {ops : Array Oper} {t : Fm} {m : AM} {K : Fm → AM → Prop} {d T : Nat} {p : String} {af : Array Edge}
/-- s[l:] of a slice that is written out. -/
theorem Step.slFrom {x y : Operand} {X e s a o n c l : Nat} {i : Int} {kk : IntKind} (hx : evo t x = some (.slice (some ⟨a, o, none⟩) n c)) (hy : evo t y = some (.int kk i)) (he : i = ((l : Nat) : Int)) (hl : l ≤ n) (hn : n ≤ c) (hc : l < c) (hX : P.underlying X = some (.slice e)) (hsz : szB P e = some s)
    (hlt : Nat.blt d nt = true) (hK : K (put t d (.slice (some ⟨a, o + l * s, none⟩) (n - l) (c - l))) m) : Step P nt ops ⟨some d, .slice X x (some y) none none, T, p, af, none⟩ t m K := by
  subst he
  refine .q (v := .slice (some ⟨a, o + l * s, none⟩) (n - l) (c - l)) rfl rfl hlt ?_ ?_ hK
  · simp [Op.operands, hx, hy]
  · have b2 : bnd 0 (some (evD t y)) = some l := by rw [evD_of hy]; simp [bnd]
    simp only [aquiet, evD_of hx, aslice0, hX, hsz, Option.map_some, Option.map_none, b2]
    simp only [bnd]
    rw [if_pos ⟨hl, hn, .inl hc⟩]
/-- A part of a row of ints is cleared. -/
theorem Step.clearR {x : Operand} {X e by_ a s o n c : Nat} {kd : Kind} {l l' : List Int} (hx : evo t x = some (.slice (some ⟨a, o, none⟩) n c)) (hE : elemB P X = some (e, 1, by_, #[.int .i64 0])) (ha : a < m.length) (hs : kd.solid = true) (ho : o + n ≤ l.length) (hn : 0 < n)
    (hl : l.take o ++ List.replicate n 0 ++ l.drop (o + n) = l') (hK : K t (St m a kd s l')) : Step P nt ops ⟨none, .call ⟨.builtin .clear, #[x], #[X]⟩, T, p, af, none⟩ t (St m a kd s l) K := by
  subst hl
  refine .l0 rfl rfl rfl (by simp [Op.operands, Call.operands, hx]) (loud_of_aloud0 (v := .tuple #[]) (m' := St m a kd s (l.take o ++ List.replicate n 0 ++ l.drop (o + n))) rfl ?_ hK)
  have hz : (Builtin.zeroCells #[Value.int .i64 0] n).toList = List.replicate n (Value.int .i64 0) := by
    simp [Builtin.zeroCells, Nat.mod_one, List.map_const']
  have hsp : splice (iv l) o (Builtin.zeroCells #[Value.int .i64 0] n).toList = iv (l.take o ++ List.replicate n 0 ++ l.drop (o + n)) := by
    rw [hz]
    unfold splice
    simp [iv]
  simp only [aloud, evD_of hx, aclear, hE, St.get ha]
  rw [if_neg (by omega)]
  rw [if_pos (by simp [hs, iv_len]; omega), hsp]
  simp [St.set]
end
end Go.Proofs.Ytmomjannlnafcaa.Abs
namespace Go.Proofs.Ytmomjannlnafcaa.Abs
set_option linter.unusedSimpArgs false
set_option linter.unusedVariables false
def ms (le : Int → Int → Bool) (l : List Int) : List Int := l.mergeSort le
section
variable {le : Int → Int → Bool} {l p A B A1 A2 B1 B2 : List Int}
theorem ms_len : (ms le l).length = l.length := by simp [ms]
end
theorem getD_l {l k : List Int} {i : Nat} (h : i < l.length) : (l ++ k).getD i 0 = l.getD i 0 := by simp [List.getElem?_append_left h]
theorem getD_r {l k : List Int} {i j : Nat} (h : i = l.length + j) : (l ++ k).getD i 0 = k.getD j 0 := by
  subst h; simp [List.getElem?_append_right]
theorem set_r {l k : List Int} {i j : Nat} {x : Int} (h : i = l.length + j) : (l ++ k).set i x = l ++ k.set j x := by
  subst h; simp
/-- Two places exchanged. -/
def swp (l : List Int) (i j : Nat) : List Int := (l.set i (l.getD j 0)).set j (l.getD i 0)
end Go.Proofs.Ytmomjannlnafcaa.Abs
namespace Go.Proofs.Ytmomjannlnafcaa.Abs
set_option linter.unusedSimpArgs false
set_option linter.unusedVariables false
open Go.RowKit
open Go.Proofs.Ytmomjannlnafcaa.Sim
open Go.Proofs
theorem sz3n : szB Try.prog 3 = some 1 := by kernel_rfl
theorem mem_getD' {l : List Int} {k : Nat} (h : k < l.length) : l.getD k 0 ∈ l := by
  rw [List.getD_eq_getElem?_getD, List.getElem?_eq_getElem h]; exact List.getElem_mem h
theorem idxF_neg' {pr : Nat → Bool} {n : Nat} (h : idxF pr n < 0) : idxF pr n = -1 ∧ ∀ i, i < n → pr i = false := by
  unfold idxF at h ⊢
  cases h' : (List.range n).find? pr with
  | none =>
    refine ⟨rfl, fun i hi => ?_⟩
    have := List.find?_eq_none.1 h' i (by simpa using hi)
    simpa using this
  | some k => rw [h'] at h; simp at h; omega
theorem idxF_pos' {pr : Nat → Bool} {n : Nat} (h : 0 ≤ idxF pr n) : ∃ k : Nat, idxF pr n = k ∧ k < n ∧ pr k = true ∧ ∀ i, i < k → pr i = false := by
  unfold idxF at h ⊢
  cases h' : (List.range n).find? pr with
  | none => rw [h'] at h; simp at h
  | some k =>
    obtain ⟨h1, h2, h3⟩ := List.find?_range_eq_some.1 h'
    exact ⟨k, rfl, by simpa using h2, h1, fun i hi => by simpa using h3 i hi⟩
set_option maxRecDepth 100000 in
theorem indexI_ok {m : AM} {v : Value} {l : List Int} (x : Int) (hl : Ints m v l) (hlen : l.length ≤ 9223372036854775807) : ACall Try.prog 75 #[v, .int .i64 x] m (Ret (.int .i64 (idxF (fun k => decide (l.getD k 0 = x)) l.length)) m) := by
  obtain ⟨a, o, h1, h2, h3⟩ := hl
  refine ACall.start Try.func75 rfl rfl ?_
  (repeat (first | (with_reducible refine AWo.cons ?_) | ((with_reducible refine Step.id ?_); first | ((with_reducible apply Step.move); exact rfl; exact rfl) | ((with_reducible apply Step.assign); exact rfl; exact rfl) | ((with_reducible apply Step.len); exact rfl; (focus (assumption)); (focus (decide +kernel)); exact rfl)) | (with_reducible refine AWo.nil ?_) | ((with_reducible apply AW.seq)) | ((with_reducible apply Then.n)) | ((with_reducible apply AW.regL)) | ((with_reducible apply AW.block))))
  refine AW.loopT (fun n t L => ∃ k : Nat, n = l.length - k ∧ k ≤ l.length ∧ (∀ i, i < k → decide (l.getD i 0 = x) = false) ∧ L = [] ∧
    t = [(0, v), (1, .int .i64 x), (7, .int .i64 (l.length : Nat)), (8, .int .i64 (k : Nat))]) ⟨_, _, _, (Or.inl ⟨rfl, (by repeat (first | exact trivial | (refine And.intro rfl ?_)))⟩), 0, rfl, Nat.zero_le _, by omega, rfl, rfl⟩ ?_
  rintro n t L ⟨k, rfl, hk, hz, rfl, rfl⟩
  rcases Nat.lt_or_ge k l.length with hlt | hge
  · have hr := h3 k hlt
    by_cases hp : x = l.getD k 0
    · (repeat (first | (with_reducible refine AWo.cons ?_) | ((with_reducible refine Step.id ?_); first | ((with_reducible apply Step.move); exact rfl; exact rfl) | ((with_reducible apply Step.assign); exact rfl; exact rfl) | ((with_reducible apply Step.load); exact rfl; (focus (decide +kernel)); exact rfl; (focus (exact Rd.old _ (by assumption)))) | ((with_reducible apply Step.ix1); exact rfl; (focus (assumption)); exact rfl; (focus (decide +kernel)); exact rfl; (focus (omega))) | ((with_reducible apply Step.lss); exact rfl; exact rfl; exact rfl) | ((with_reducible apply Step.eql); exact rfl; exact rfl; exact rfl)) | (with_reducible refine AWo.nil ?_) | ((with_reducible apply AW.seq)) | ((with_reducible apply Then.n)) | ((with_reducible apply AW.regL)) | ((with_reducible apply AW.block)) | ((with_reducible apply AW.skip)) | ((with_reducible apply AW.condT); exact rfl; (focus ((simp only [decide_eq_true_eq, decide_eq_false_iff_not, Bool.not_eq_true', Bool.not_eq_false', Bool.not_true, Bool.not_false]; first | assumption | omega))))))
      (refine AW.retD (l := [(4, _)]) (by repeat (first | exact trivial | (refine And.intro ⟨rfl, by (exact .int _ _)⟩ ?_))) ?_; (repeat (first | refine Then.r ?_ | refine InBlk.r ?_)))
      exact ⟨_, rfl, by rw [idxF_hit hlt hz (decide_eq_true hp.symm)], rfl⟩
    · (repeat (first | (with_reducible refine AWo.cons ?_) | ((with_reducible refine Step.id ?_); first | ((with_reducible apply Step.move); exact rfl; exact rfl) | ((with_reducible apply Step.assign); exact rfl; exact rfl) | ((with_reducible apply Step.load); exact rfl; (focus (decide +kernel)); exact rfl; (focus (exact Rd.old _ (by assumption)))) | ((with_reducible apply Step.ix1); exact rfl; (focus (assumption)); exact rfl; (focus (decide +kernel)); exact rfl; (focus (omega))) | ((with_reducible apply Step.add); exact rfl; exact rfl; (focus (omega)); exact rfl) | ((with_reducible apply Step.lss); exact rfl; exact rfl; exact rfl) | ((with_reducible apply Step.eql); exact rfl; exact rfl; exact rfl)) | (with_reducible refine AWo.nil ?_) | ((with_reducible apply AW.seq)) | ((with_reducible apply Then.n)) | ((with_reducible apply AW.regL)) | ((with_reducible apply AW.block)) | ((with_reducible apply InBlk.n)) | ((with_reducible apply AW.skip)) | ((with_reducible apply AW.condT); exact rfl; (focus ((simp only [decide_eq_true_eq, decide_eq_false_iff_not, Bool.not_eq_true', Bool.not_eq_false', Bool.not_true, Bool.not_false]; first | assumption | omega)))) | ((with_reducible apply AW.condF); exact rfl; (focus ((simp only [decide_eq_true_eq, decide_eq_false_iff_not, Bool.not_eq_true', Bool.not_eq_false', Bool.not_true, Bool.not_false]; first | assumption | omega))))))
      exact ⟨_, _, _, by omega, (Or.inl ⟨rfl, (by repeat (first | exact trivial | (refine And.intro rfl ?_)))⟩), k + 1, rfl, by omega, fun i hi => by rcases Nat.lt_succ_iff_lt_or_eq.1 hi with h | h; exact hz i h; rw [h]; exact decide_eq_false (Ne.symm hp), rfl, rfl⟩
  · (repeat (first | (with_reducible refine AWo.cons ?_) | ((with_reducible refine Step.id ?_); first | ((with_reducible apply Step.assign); exact rfl; exact rfl) | ((with_reducible apply Step.lss); exact rfl; exact rfl; exact rfl)) | (with_reducible refine AWo.nil ?_) | ((with_reducible apply AW.seq)) | ((with_reducible apply Then.n)) | ((with_reducible apply AW.regL)) | ((with_reducible apply AW.exit)) | ((with_reducible apply InBlk.hit)) | ((with_reducible apply Then.e)) | ((with_reducible apply AW.condF); exact rfl; (focus ((simp only [decide_eq_true_eq, decide_eq_false_iff_not, Bool.not_eq_true', Bool.not_eq_false', Bool.not_true, Bool.not_false]; first | assumption | omega))))))
    obtain rfl : k = l.length := by omega
    (refine AW.retD (l := [(4, _)]) (by repeat (first | exact trivial | (refine And.intro ⟨rfl, by (exact .int _ _)⟩ ?_))) ?_; (repeat (first | refine Then.r ?_ | refine InBlk.r ?_)))
    exact ⟨_, rfl, by rw [idxF_miss hz], rfl⟩
theorem any_mem (l : List Int) (x : Int) : (List.range l.length).any (fun k => decide (l.getD k 0 = x)) = decide (x ∈ l) := by
  rw [Bool.eq_iff_iff, List.any_eq_true, decide_eq_true_eq]
  constructor
  · rintro ⟨k, hk, h⟩
    rw [← of_decide_eq_true h]
    exact mem_getD' (by simpa using hk)
  · intro h
    obtain ⟨k, hk, rfl⟩ := List.getElem_of_mem h
    exact ⟨k, by simpa using hk, by simp [hk]⟩
set_option maxRecDepth 100000 in
theorem contains_ok {m : AM} {v : Value} {l : List Int} (x : Int) (hl : Ints m v l) (hlen : l.length ≤ 9223372036854775807) {b : Bool} (hb : decide (x ∈ l) = b) : ACall Try.prog 46 #[v, .int .i64 x] m (Ret (.bool b) m) := by
  subst hb
  refine ACall.start Try.func46 rfl rfl ?_
  (repeat (first | (with_reducible refine AWo.cons ?_) | ((with_reducible refine Step.id ?_); first | ((with_reducible apply Step.move); exact rfl; exact rfl) | ((with_reducible apply Step.assign); exact rfl; exact rfl) | ((with_reducible apply Step.geq); exact rfl; exact rfl; exact rfl) | ((with_reducible apply Step.callR fit); exact rfl; exact Try.func75; exact rfl; exact rfl; exact ((by rw [List.append_nil]; exact indexI_ok x hl hlen)))) | (with_reducible refine AWo.nil ?_) | ((with_reducible apply AW.seq)) | ((with_reducible apply Then.n)) | ((with_reducible apply AW.regL))))
  (refine AW.retD (l := [(4, _)]) (by repeat (first | exact trivial | (refine And.intro ⟨rfl, by (exact .bool _)⟩ ?_))) ?_; (repeat (first | refine Then.r ?_ | refine InBlk.r ?_)))
  exact ⟨_, rfl, by rw [idxF_any, any_mem], rfl⟩
section
variable {m : AM} {r s : Nat} {kd : Kind}
set_option maxHeartbeats 1000000 in
set_option maxRecDepth 100000 in
theorem delete_ok {A Z : List Int} {n c : Nat} {g : FuncId} {cap : Array Value} {fn : Func} {bd : Code} (q : Int → Bool) (hr : r < m.length) (hkd : kd.solid = true) (hf : Try.prog.funcs[g]? = some fn) (hb : fn.body = some bd) (hA : A.length = n) (hnc : n ≤ c) (hc : c ≤ 1000000)
    (hg : ∀ row x, x ∈ A → ACall Try.prog g (#[] ++ #[.int .i64 x] ++ cap) (St m r kd s row) (Ret (.bool (q x)) (St m r kd s row))) :
    ACall Try.prog 82 #[.slice (some ⟨r, 0, none⟩) n c, .func (.func g) #[] cap] (St m r kd s (A ++ Z)) (Ret (.slice (some ⟨r, 0, none⟩) (A.filter fun x => !q x).length c) (St m r kd s ((A.filter fun x => !q x) ++ List.replicate (n - (A.filter fun x => !q x).length) 0 ++ Z))) := by
  subst hA
  have hints : Ints (St m r kd s (A ++ Z)) (.slice (some ⟨r, 0, none⟩) A.length c) A := ⟨r, 0, Sl.mk hnc, by rw [St.len]; exact hr, fun k hk => by
    have := St.rd (s := s) (kd := kd) (l := A ++ Z) hr (o := k) (by simp; omega)
    rw [getD_l hk] at this
    rwa [Nat.zero_add]⟩
  have hix := f108_ok hints hf hb (fun k => q (A.getD k 0)) (by omega) (fun k hk => hg _ _ (mem_getD' hk))
  have hsl : Sl (.slice (some ⟨r, 0, none⟩) A.length c) r 0 A.length := Sl.mk hnc
  refine ACall.intro Try.func82 rfl (Nat.le_of_ble_eq_true rfl) ?_
  by_cases hno : idxF (fun k => q (A.getD k 0)) A.length < 0
  · obtain ⟨e1, e2⟩ := idxF_neg' hno
    have hfil : (A.filter fun x => !q x) = A := by
      rw [List.filter_eq_self]
      intro x hx
      obtain ⟨k, hk, rfl⟩ := List.getElem_of_mem hx
      have := e2 k hk
      simp only [List.getD_eq_getElem?_getD, List.getElem?_eq_getElem hk, Option.getD_some] at this
      simp [this]
    rw [e1] at hix
    (repeat (first | (with_reducible refine AWo.cons ?_) | ((with_reducible refine Step.id ?_); first | ((with_reducible apply Step.move); exact rfl; exact rfl) | ((with_reducible apply Step.assign); exact rfl; exact rfl) | ((with_reducible apply Step.eql); exact rfl; exact rfl; exact rfl) | ((with_reducible apply Step.callR fit); exact rfl; exact Try.func108; exact rfl; exact rfl; exact (hix))) | (with_reducible refine AWo.nil ?_) | ((with_reducible apply AW.seq)) | ((with_reducible apply Then.n)) | ((with_reducible apply AW.regL)) | ((with_reducible apply AW.condT); exact rfl; (focus (rfl)))))
    (refine AW.ret ?_; (repeat (first | refine Then.r ?_ | refine InBlk.r ?_)))
    refine ⟨_, rfl, by rw [hfil], ?_⟩
    rw [hfil, Nat.sub_self]; simp
  · obtain ⟨k0, e1, e2, e3, e4⟩ := idxF_pos' (pr := fun k => q (A.getD k 0)) (n := A.length) (by omega)
    rw [e1] at hix
    have hpre : (A.take k0).filter (fun x => !q x) = A.take k0 := by
      rw [List.filter_eq_self]
      intro x hx
      obtain ⟨i, hi, rfl⟩ := List.getElem_of_mem hx
      simp only [List.length_take] at hi
      have := e4 i (by omega)
      simp only [List.getD_eq_getElem?_getD, List.getElem?_eq_getElem (show i < A.length by omega), Option.getD_some] at this
      simp [this]
    (repeat (first | (with_reducible refine AWo.cons ?_) | ((with_reducible refine Step.id ?_); first | ((with_reducible apply Step.move); exact rfl; exact rfl) | ((with_reducible apply Step.assign); exact rfl; exact rfl) | ((with_reducible apply Step.add); exact rfl; exact rfl; (focus (omega)); exact rfl) | ((with_reducible apply Step.eql); exact rfl; exact rfl; exact rfl) | ((with_reducible apply Step.callR fit); exact rfl; exact Try.func108; exact rfl; exact rfl; exact (hix))) | (with_reducible refine AWo.nil ?_) | ((with_reducible apply AW.seq)) | ((with_reducible apply Then.n)) | ((with_reducible apply AW.regL)) | ((with_reducible apply AW.block)) | ((with_reducible apply AW.skip)) | ((with_reducible apply AW.condF); exact rfl; (focus (rfl)))))
    refine AW.loopW (fun u t M => ∃ (jj : Nat) (K Mid : List Int), u = A.length - jj ∧ jj ≤ A.length ∧ K = (A.take jj).filter (fun x => !q x) ∧ K.length + Mid.length = jj ∧ 0 < Mid.length ∧
      t = fr [(0, .slice (some ⟨r, 0, none⟩) A.length c), (1, .func (.func g) #[] cap), (5, .int .i64 ((K.length : Nat) : Int)), (6, .int .i64 ((jj : Nat) : Int))] ∧ M = St m r kd s (K ++ Mid ++ (A.drop jj ++ Z)))
      ⟨_, [(0, .slice (some ⟨r, 0, none⟩) A.length c), (1, .func (.func g) #[] cap), (5, .int .i64 ((k0 : Nat) : Int)), (6, .int .i64 ((k0 + 1 : Nat) : Int))], (by repeat (first | exact trivial | (refine And.intro rfl ?_))), k0 + 1, A.take k0, [A.getD k0 0], rfl, by omega, ?_, ?_, by simp, ?_, ?_⟩ ?_
    · rw [take_snoc A k0 0 e2, List.filter_append, hpre]; simp only [List.filter_cons, List.filter_nil, e3]; simp
    · simp; omega
    · simp [Nat.min_eq_left (Nat.le_of_lt e2)]
    · rw [← List.append_assoc, ← take_snoc A k0 0 e2, List.take_append_drop]
    rintro u t M ⟨jj, K, Mid, rfl, hjj, hK, hKM, hMid, rfl, rfl⟩
    rcases Nat.lt_or_ge jj A.length with hlt | hge
    · obtain ⟨x, hx⟩ : ∃ x, x = A.getD jj 0 := ⟨_, rfl⟩
      have hxA : x ∈ A := by rw [hx]; exact mem_getD' hlt
      have hdrop : A.drop jj = x :: A.drop (jj + 1) := by rw [List.drop_eq_getElem_cons hlt, hx]; simp [hlt]
      have hts := take_snoc A jj 0 hlt
      rw [← hx] at hts
      have hgx := hg (K ++ Mid ++ (A.drop jj ++ Z)) x hxA
      have hfs : (A.take (jj + 1)).filter (fun x => !q x) = K ++ if q x then [] else [x] := by
        rw [hts, List.filter_append, ← hK]; cases hq : q x <;> simp [hq]
      rw [hdrop] at hgx ⊢
      have hrd : Rd (St m r kd s (K ++ Mid ++ (x :: A.drop (jj + 1) ++ Z))) r jj (.int .i64 x) := by
        have := St.rd (s := s) (kd := kd) (l := K ++ Mid ++ (x :: A.drop (jj + 1) ++ Z)) hr (o := jj) (by simp; omega)
        rw [getD_r (j := 0) (by simp; omega)] at this
        exact this
      generalize hD : A.drop (jj + 1) = D at *
      cases hq : q x with
      | true =>
        rw [hq] at hgx hfs
        (repeat (first | (with_reducible refine AWo.cons ?_) | ((with_reducible refine Step.id ?_); first | ((with_reducible apply Step.move); exact rfl; exact rfl) | ((with_reducible apply Step.assign); exact rfl; exact rfl) | ((with_reducible apply Step.load); exact rfl; (focus (decide +kernel)); exact rfl; (focus (assumption))) | ((with_reducible apply Step.ix1z); exact rfl; (focus (assumption)); exact rfl; (focus (decide +kernel)); exact rfl; (focus (omega))) | ((with_reducible apply Step.add); exact rfl; exact rfl; (focus (omega)); exact rfl) | ((with_reducible apply Step.lss); exact rfl; exact rfl; exact rfl) | ((with_reducible apply Step.len); exact rfl; (focus (assumption)); (focus (decide +kernel)); exact rfl) | ((with_reducible apply Step.not); exact rfl; exact rfl) | ((with_reducible apply Step.callV fit); exact rfl; exact rfl; exact hf; exact hb; exact rfl; exact (hgx))) | (with_reducible refine AWo.nil ?_) | ((with_reducible apply AW.seq)) | ((with_reducible apply Then.n)) | ((with_reducible apply AW.regL)) | ((with_reducible apply AW.block)) | ((with_reducible apply InBlk.n)) | ((with_reducible apply AW.skip)) | ((with_reducible apply AW.condT); exact rfl; (focus ((simp only [decide_eq_true_eq, decide_eq_false_iff_not, Bool.not_eq_true', Bool.not_eq_false', Bool.not_true, Bool.not_false]; first | assumption | omega)))) | ((with_reducible apply AW.condF); exact rfl; (focus (rfl)))))
        exact ⟨_, [(0, .slice (some ⟨r, 0, none⟩) A.length c), (1, .func (.func g) #[] cap), (5, .int .i64 ((K.length : Nat) : Int)), (6, .int .i64 ((jj + 1 : Nat) : Int))], by omega, (by repeat (first | exact trivial | (refine And.intro rfl ?_))), jj + 1, K, Mid ++ [x], rfl, by omega, by rw [hfs]; simp, by simp; omega, by simp, rfl, by rw [hD]; simp⟩
      | false =>
        rw [hq] at hgx hfs
        obtain ⟨y, M', rfl⟩ : ∃ y M', Mid = y :: M' := by cases Mid with | nil => simp at hMid | cons y M' => exact ⟨y, M', rfl⟩
        simp only [List.length_cons] at hKM
        have hset : (K ++ (y :: M') ++ (x :: D ++ Z)).set K.length x = (K ++ [x]) ++ (M' ++ [x]) ++ (D ++ Z) := by
          rw [List.append_assoc, set_r (j := 0) (by omega)]; simp
        have hll : K.length < (K ++ (y :: M') ++ (x :: D ++ Z)).length := by simp
        (repeat (first | (with_reducible refine AWo.cons ?_) | ((with_reducible refine Step.id ?_); first | ((with_reducible apply Step.move); exact rfl; exact rfl) | ((with_reducible apply Step.assign); exact rfl; exact rfl) | ((with_reducible apply Step.load); exact rfl; (focus (decide +kernel)); exact rfl; (focus (assumption))) | ((with_reducible apply Step.ix1z); exact rfl; (focus (assumption)); exact rfl; (focus (decide +kernel)); exact rfl; (focus (omega))) | ((with_reducible apply Step.add); exact rfl; exact rfl; (focus (omega)); exact rfl) | ((with_reducible apply Step.lss); exact rfl; exact rfl; exact rfl) | ((with_reducible apply Step.len); exact rfl; (focus (assumption)); (focus (decide +kernel)); exact rfl) | ((with_reducible apply Step.not); exact rfl; exact rfl) | ((with_reducible apply Step.callV fit); exact rfl; exact rfl; exact hf; exact hb; exact rfl; exact (hgx)) | ((with_reducible apply Step.storeR); exact rfl; exact rfl; (focus (decide +kernel)); exact hr; exact hkd; (focus (first | omega | (simp [swp, ms_len]; omega))); exact rfl)) | (with_reducible refine AWo.nil ?_) | ((with_reducible apply AW.seq)) | ((with_reducible apply Then.n)) | ((with_reducible apply AW.regL)) | ((with_reducible apply AW.block)) | ((with_reducible apply InBlk.n)) | ((with_reducible apply AW.skip)) | ((with_reducible apply AW.condT); exact rfl; (focus (first | rfl | (simp only [decide_eq_true_eq, decide_eq_false_iff_not, Bool.not_eq_true', Bool.not_eq_false', Bool.not_true, Bool.not_false]; first | assumption | omega))))))
        refine ⟨_, [(0, .slice (some ⟨r, 0, none⟩) A.length c), (1, .func (.func g) #[] cap), (5, .int .i64 ((K.length + 1 : Nat) : Int)), (6, .int .i64 ((jj + 1 : Nat) : Int))], by omega, (by repeat (first | exact trivial | (refine And.intro rfl ?_))), jj + 1, K ++ [x], M' ++ [x], rfl, by omega, by rw [hfs]; simp, by simp; omega, by simp, by simp, ?_⟩
        rw [hD, ← hset]
    · obtain rfl : jj = A.length := by omega
      rw [List.take_length] at hK
      rw [List.drop_length, List.nil_append]
      have hcl : (K ++ Mid ++ Z).take (0 + K.length * 1) ++ List.replicate (A.length - K.length) 0 ++ (K ++ Mid ++ Z).drop (0 + K.length * 1 + (A.length - K.length)) = K ++ List.replicate (A.length - K.length) 0 ++ Z := by
        rw [Nat.zero_add, Nat.mul_one, show K.length + (A.length - K.length) = (K ++ Mid).length by simp; omega, List.drop_left]
        rw [List.append_assoc K Mid Z, List.take_left]
      have e0 : ((K.length : Nat) : Int) = ((K.length : Nat) : Int) := rfl
      (repeat (first | (with_reducible refine AWo.cons ?_) | ((with_reducible refine Step.id ?_); first | ((with_reducible apply Step.move); exact rfl; exact rfl) | ((with_reducible apply Step.slFrom); exact rfl; exact rfl; exact rfl; (focus (omega)); (focus (omega)); (focus (omega)); exact un23; exact sz3n; exact rfl) | ((with_reducible apply Step.lss); exact rfl; exact rfl; exact rfl) | ((with_reducible apply Step.len); exact rfl; (focus (assumption)); (focus (decide +kernel)); exact rfl)) | (with_reducible refine AWo.nil ?_) | ((with_reducible apply AW.seq)) | ((with_reducible apply Then.n)) | ((with_reducible apply AW.regL)) | ((with_reducible apply AW.exit)) | ((with_reducible apply InBlk.hit)) | ((with_reducible apply Then.e)) | ((with_reducible apply AW.condF); exact rfl; (focus ((simp only [decide_eq_true_eq, decide_eq_false_iff_not, Bool.not_eq_true', Bool.not_eq_false', Bool.not_true, Bool.not_false]; first | assumption | omega))))))
      ((with_reducible apply Step.clearR); exact rfl; exact el23; exact hr; exact hkd; (focus (simp; omega)); (focus (omega)); exact hcl)
      (repeat (first | (with_reducible refine AWo.cons ?_) | ((with_reducible refine Step.id ?_); first | ((with_reducible apply Step.move); exact rfl; exact rfl) | ((with_reducible apply Step.assign); exact rfl; exact rfl) | ((with_reducible apply Step.slTo); exact rfl; exact rfl; (focus (assumption)); (focus (omega)); exact un23; exact sz3n; exact rfl)) | (with_reducible refine AWo.nil ?_) | ((with_reducible apply AW.seq)) | ((with_reducible apply Then.n)) | ((with_reducible apply AW.regL))))
      (refine AW.ret ?_; (repeat (first | refine Then.r ?_ | refine InBlk.r ?_)))
      rw [← hK]
      exact ⟨_, rfl, rfl, rfl⟩
end
end Go.Proofs.Ytmomjannlnafcaa.Abs
namespace Go.Proofs.Ytmomjannlnafcaa.Abs
set_option linter.unusedSimpArgs false
set_option linter.unusedVariables false
open Go.RowKit
open Go.Proofs.Ytmomjannlnafcaa.Sim
open Go.Proofs
abbrev jb (j : List Job) (i : Int) : Job := j.getD i.toNat default
end Go.Proofs.Ytmomjannlnafcaa.Abs
namespace Go.Proofs.Ytmomjannlnafcaa.Abs
set_option linter.unusedSimpArgs false
set_option linter.unusedVariables false
open Go.RowKit
open Go.Proofs.Ytmomjannlnafcaa.Sim
open Go.Proofs
theorem sortF_len (j : List Job) : ∀ (f : Nat) (P : List Nat), (sortF j f P).length ≤ f + P.length
  | 0, P => by simp [sortF]
  | f + 1, P => by
    rw [sortF]
    split
    · omega
    · have := sortF_len j f (P ++ [‹Nat›])
      simp at this; omega
end Go.Proofs.Ytmomjannlnafcaa.Abs
namespace Go.Proofs.Ytmomjannlnafcaa.Abs
set_option linter.unusedSimpArgs false
set_option linter.unusedVariables false
open Go.RowKit
open Go.Proofs.Ytmomjannlnafcaa.Sim
open Go.Proofs
theorem after_len {j : List Job} (h : JOk j) : ∀ k, k < j.length → (j.getD k default).after.length ≤ 9223372036854775807 := fun k hk => by
  have := h.alen hk
  have := h.len
  simp only [aft] at *
  omega
/-- The Afters are no longer than slices can be. -/
def Short (j : List Job) : Prop := j.length ≤ 9223372036854775807 ∧ ∀ k, k < j.length → (j.getD k default).after.length ≤ 9223372036854775807
set_option maxRecDepth 100000 in
theorem checked_ok {m : AM} {v : Value} {j : List Job} (hj : Jobs m v j) (hok : jobsB j = true) (hn : (sortL j).length = j.length) : ACall Try.prog 78 #[v] m (NewT (fun N => .tuple #[gv N j.length, .int .i64 0]) (gb (iv (nv (sortL j))) 1) m) := by
  have hJ := JOk.of hok
  have h40 := hJ.len
  obtain ⟨a, o, h1, h2, h3⟩ := id hj
  have so := sort_ok' (m := m ++ []) (hj.old []) hJ rfl
  rw [hn] at so
  refine ACall.start Try.func78 rfl rfl ?_
  (repeat (first | (with_reducible refine AWo.cons ?_) | ((with_reducible refine Step.id ?_); first | ((with_reducible apply Step.move); exact rfl; exact rfl) | ((with_reducible apply Step.assign); exact rfl; exact rfl) | ((with_reducible apply Step.lss); exact rfl; exact rfl; exact rfl) | ((with_reducible apply Step.len); exact rfl; (focus (first | assumption | exact gv_sl _ _)); (focus (decide +kernel)); exact rfl) | ((with_reducible apply Step.not); exact rfl; exact rfl) | ((with_reducible apply Step.callR fit); exact rfl; exact Try.func88; exact rfl; exact rfl; exact (jobs_ok (hj.old []) (after_len hJ) (by omega) hok)) | ((with_reducible apply Step.callG fit (k := 0)); exact rfl; exact rfl; exact Try.func106; exact rfl; exact rfl; exact (so); (focus (first | (simp only [List.nil_append, List.cons_append, List.set_cons_zero, List.set_cons_succ, iv_set, bv_set, iv_rep, bv_rep]; done) | (simp only [List.nil_append, List.cons_append, List.set_cons_zero, List.set_cons_succ, iv_set, bv_set, iv_rep, bv_rep]; rfl) | rfl)))) | (with_reducible refine AWo.nil ?_) | ((with_reducible apply AW.seq)) | ((with_reducible apply Then.n)) | ((with_reducible apply AW.regL)) | ((with_reducible apply AW.skip)) | ((with_reducible apply AW.condF); exact rfl; (focus (first | rfl | (simp only [decide_eq_true_eq, decide_eq_false_iff_not, Bool.not_eq_true', Bool.not_eq_false', Bool.not_true, Bool.not_false]; first | assumption | omega))))))
  refine AW.retB (l := [(2, gv (m.length + 0) j.length), (3, .int .i64 0)]) (L1 := [gb (iv (nv (sortL j))) 1]) (Back.trimC rfl rfl (by repeat (first | exact CellsP.nil | (refine CellsP.gb ?_ ?_; (focus (exact cells_iv _))))) (by repeat (first | exact trivial | (refine And.intro ⟨rfl, by (first | exact .int _ _ | exact Ren.of_gv (by first | (simp; done) | omega | (simp; omega)))⟩ ?_)))) ?_
  exact ⟨_, rfl, rfl, rfl⟩
set_option maxRecDepth 100000 in
theorem checked_arg {m : AM} {v : Value} {j : List Job} (hj : Jobs m v j) (hs : Short j) (hok : jobsB j = false) : ACall Try.prog 78 #[v] m (Ret (.tuple #[.slice none 0 0, .int .i64 2]) m) := by
  refine ACall.start Try.func78 rfl rfl ?_
  (repeat (first | (with_reducible refine AWo.cons ?_) | ((with_reducible refine Step.id ?_); first | ((with_reducible apply Step.move); exact rfl; exact rfl) | ((with_reducible apply Step.assign); exact rfl; exact rfl) | ((with_reducible apply Step.not); exact rfl; exact rfl) | ((with_reducible apply Step.callR fit); exact rfl; exact Try.func88; exact rfl; exact rfl; exact (jobs_ok (hj.old []) hs.2 hs.1 hok))) | (with_reducible refine AWo.nil ?_) | ((with_reducible apply AW.seq)) | ((with_reducible apply Then.n)) | ((with_reducible apply AW.regL)) | ((with_reducible apply AW.condT); exact rfl; (focus (rfl)))))
  (refine AW.retD (l := [(2, _), (3, _)]) (by repeat (first | exact trivial | (refine And.intro ⟨rfl, by (first | exact .int _ _ | exact Ren.of_g0 rfl)⟩ ?_))) ?_; (repeat (first | refine Then.r ?_ | refine InBlk.r ?_)))
  exact ⟨_, rfl, rfl, rfl⟩
set_option maxRecDepth 100000 in
theorem checked_loop {m : AM} {v : Value} {j : List Job} (hj : Jobs m v j) (hok : jobsB j = true) (hn : (sortL j).length ≠ j.length) : ACall Try.prog 78 #[v] m (Ret (.tuple #[.slice none 0 0, .int .i64 10]) m) := by
  have hJ := JOk.of hok
  have h40 := hJ.len
  obtain ⟨a, o, h1, h2, h3⟩ := id hj
  have so := sort_ok' (m := m ++ []) (hj.old []) hJ rfl
  have hlt : (sortL j).length < j.length := by
    have := sortF_len j j.length []
    simp only [List.length_nil, Nat.add_zero] at this
    unfold sortL at *
    omega
  refine ACall.start Try.func78 rfl rfl ?_
  (repeat (first | (with_reducible refine AWo.cons ?_) | ((with_reducible refine Step.id ?_); first | ((with_reducible apply Step.move); exact rfl; exact rfl) | ((with_reducible apply Step.assign); exact rfl; exact rfl) | ((with_reducible apply Step.lss); exact rfl; exact rfl; exact rfl) | ((with_reducible apply Step.len); exact rfl; (focus (first | assumption | exact gv_sl _ _)); (focus (decide +kernel)); exact rfl) | ((with_reducible apply Step.not); exact rfl; exact rfl) | ((with_reducible apply Step.callR fit); exact rfl; exact Try.func88; exact rfl; exact rfl; exact (jobs_ok (hj.old []) (after_len hJ) (by omega) hok)) | ((with_reducible apply Step.callG fit (k := 0)); exact rfl; exact rfl; exact Try.func106; exact rfl; exact rfl; exact (so); (focus (first | (simp only [List.nil_append, List.cons_append, List.set_cons_zero, List.set_cons_succ, iv_set, bv_set, iv_rep, bv_rep]; done) | (simp only [List.nil_append, List.cons_append, List.set_cons_zero, List.set_cons_succ, iv_set, bv_set, iv_rep, bv_rep]; rfl) | rfl)))) | (with_reducible refine AWo.nil ?_) | ((with_reducible apply AW.seq)) | ((with_reducible apply Then.n)) | ((with_reducible apply AW.regL)) | ((with_reducible apply AW.skip)) | ((with_reducible apply AW.condT); exact rfl; (focus ((simp only [decide_eq_true_eq, decide_eq_false_iff_not, Bool.not_eq_true', Bool.not_eq_false', Bool.not_true, Bool.not_false]; first | assumption | omega)))) | ((with_reducible apply AW.condF); exact rfl; (focus (rfl)))))
  (refine AW.retD (l := [(2, _), (3, _)]) (by repeat (first | exact trivial | (refine And.intro ⟨rfl, by (first | exact .int _ _ | exact Ren.of_g0 rfl)⟩ ?_))) ?_; (repeat (first | refine Then.r ?_ | refine InBlk.r ?_)))
  exact ⟨_, rfl, rfl, rfl⟩
/-- The error of jobs. -/
def errJ (j : List Job) : Int := if jobsB j = true then if (sortL j).length = j.length then 0 else 10 else 2
set_option maxRecDepth 100000 in
theorem Sorted_ok {m : AM} {v : Value} {j : List Job} (hj : Jobs m v j) (hok : jobsB j = true) (hn : (sortL j).length = j.length) : ACall Try.prog 43 #[v] m (NewT (fun N => .tuple #[gv N j.length, .int .i64 0]) (gb (iv (nv (sortL j))) 1) m) := by
  refine ACall.start Try.func43 rfl rfl ?_
  (repeat (first | (with_reducible refine AWo.cons ?_) | ((with_reducible refine Step.id ?_); first | ((with_reducible apply Step.move); exact rfl; exact rfl) | ((with_reducible apply Step.assign); exact rfl; exact rfl) | ((with_reducible apply Step.extract); exact rfl; exact rfl; exact rfl) | ((with_reducible apply Step.callT fit (k := 0)); exact rfl; exact rfl; exact Try.func78; exact rfl; exact rfl; exact (checked_ok (hj.old []) hok hn); (focus (first | (simp only [List.nil_append, List.cons_append, List.set_cons_zero, List.set_cons_succ, iv_set, bv_set, iv_rep, bv_rep]; done) | (simp only [List.nil_append, List.cons_append, List.set_cons_zero, List.set_cons_succ, iv_set, bv_set, iv_rep, bv_rep]; rfl) | rfl)))) | (with_reducible refine AWo.nil ?_) | ((with_reducible apply AW.seq)) | ((with_reducible apply Then.n)) | ((with_reducible apply AW.regL))))
  (refine AW.retB (l := [(2, _), (3, _)]) (Or.inl ⟨rfl, (by repeat (first | exact trivial | (refine And.intro rfl ?_)))⟩) ?_; (repeat (first | refine Then.r ?_ | refine InBlk.r ?_)))
  exact ⟨_, rfl, rfl, rfl⟩
set_option maxRecDepth 100000 in
theorem Sorted_no {m : AM} {v : Value} {e : Int} (h : ∀ L, ACall Try.prog 78 #[v] (m ++ L) (Ret (.tuple #[.slice none 0 0, .int .i64 e]) (m ++ L))) : ACall Try.prog 43 #[v] m (Ret (.tuple #[.slice none 0 0, .int .i64 e]) m) := by
  refine ACall.start Try.func43 rfl rfl ?_
  (repeat (first | (with_reducible refine AWo.cons ?_) | ((with_reducible refine Step.id ?_); first | ((with_reducible apply Step.move); exact rfl; exact rfl) | ((with_reducible apply Step.assign); exact rfl; exact rfl) | ((with_reducible apply Step.extract); exact rfl; exact rfl; exact rfl) | ((with_reducible apply Step.callR fit); exact rfl; exact Try.func78; exact rfl; exact rfl; exact (h []))) | (with_reducible refine AWo.nil ?_) | ((with_reducible apply AW.seq)) | ((with_reducible apply Then.n)) | ((with_reducible apply AW.regL))))
  (refine AW.retD (l := [(2, _), (3, _)]) (by repeat (first | exact trivial | (refine And.intro ⟨rfl, by (first | exact .int _ _ | exact Ren.of_g0 rfl)⟩ ?_))) ?_; (repeat (first | refine Then.r ?_ | refine InBlk.r ?_)))
  exact ⟨_, rfl, rfl, rfl⟩
end Go.Proofs.Ytmomjannlnafcaa.Abs
namespace Go.Proofs.Ytmomjannlnafcaa.Abs
set_option linter.unusedSimpArgs false
set_option linter.unusedVariables false
open Go.RowKit
open Go.Proofs.Ytmomjannlnafcaa.Sim
open Go.Proofs
set_option maxRecDepth 100000 in
theorem clone_nil {m : AM} : ACall Try.prog 77 #[.slice none 0 0] m (Ret (.slice none 0 0) m) := by
  refine ACall.start Try.func77 rfl rfl ?_
  (repeat (first | (with_reducible refine AWo.cons ?_) | ((with_reducible refine Step.id ?_); first | ((with_reducible apply Step.move); exact rfl; exact rfl) | ((with_reducible apply Step.assign); exact rfl; exact rfl) | ((with_reducible apply Step.nilNil); exact rfl; exact rfl; exact un23; exact rfl)) | (with_reducible refine AWo.nil ?_) | ((with_reducible apply AW.seq)) | ((with_reducible apply Then.n)) | ((with_reducible apply AW.regL)) | ((with_reducible apply AW.condT); exact rfl; (focus (rfl)))))
  (refine AW.retD (l := [(2, _)]) (by repeat (first | exact trivial | (refine And.intro ⟨rfl, by (exact Ren.of_g0 rfl)⟩ ?_))) ?_; (repeat (first | refine Then.r ?_ | refine InBlk.r ?_)))
  exact ⟨_, rfl, rfl, rfl⟩
set_option maxRecDepth 100000 in
theorem clone_empty {m : AM} {a o c : Nat} {q : Addr} (h1 : Sl (.slice (some q) 0 c) a o 0) : ACall Try.prog 77 #[.slice (some q) 0 c] m (New (some { cells := [] }) 0 m) := by
  refine ACall.start Try.func77 rfl rfl ?_
  (repeat (first | (with_reducible refine AWo.cons ?_) | ((with_reducible refine Step.id ?_); first | ((with_reducible apply Step.move); exact rfl; exact rfl) | ((with_reducible apply Step.assign); exact rfl; exact rfl) | ((with_reducible apply Step.eqNil); exact rfl; exact rfl; exact un23; exact rfl) | ((with_reducible apply Step.buildS 0); exact rfl; exact rfl; exact (fun _ _ => bs23); exact rfl; (focus (first | (simp only [List.nil_append, List.cons_append, List.set_cons_zero, List.set_cons_succ, iv_set, bv_set, iv_rep, bv_rep]; done) | (simp only [List.nil_append, List.cons_append, List.set_cons_zero, List.set_cons_succ, iv_set, bv_set, iv_rep, bv_rep]; rfl) | rfl)))) | (with_reducible refine AWo.nil ?_) | ((with_reducible apply AW.seq)) | ((with_reducible apply Then.n)) | ((with_reducible apply AW.regL)) | ((with_reducible apply AW.skip)) | ((with_reducible apply AW.condF); exact rfl; (focus (rfl)))))
  ((with_reducible apply Step.app0 (k := 1)); exact rfl; exact rfl; exact rfl; exact el23; exact un23; exact rfl; exact rfl; (focus (first | (simp only [List.nil_append, List.cons_append, List.set_cons_zero, List.set_cons_succ, iv_set, bv_set, iv_rep, bv_rep]; done) | (simp only [List.nil_append, List.cons_append, List.set_cons_zero, List.set_cons_succ, iv_set, bv_set, iv_rep, bv_rep]; rfl) | rfl)))
  (repeat (first | (with_reducible refine AWo.cons ?_) | ((with_reducible refine Step.id ?_); ((with_reducible apply Step.assign); exact rfl; exact rfl)) | (with_reducible refine AWo.nil ?_) | ((with_reducible apply Then.n))))
  refine AW.retB (l := [(2, _)]) (L1 := [some { cells := [] }]) (Back.trim rfl rfl (by repeat (first | exact CellsOk.nil | refine CellsOk.cons (by (intro v hv; simp at hv; done)) ?_)) (by repeat (first | exact trivial | (refine And.intro ⟨rfl, by (exact .slice _ _ _ _ (by first | (simp; done) | omega | (simp; omega)))⟩ ?_)))) ?_
  exact ⟨_, rfl, rfl, rfl⟩
set_option maxRecDepth 100000 in
theorem clone_pos {m : AM} {v : Value} {l : List Int} (hl : Ints m v l) (hpos : 0 < l.length) (hlen : l.length ≤ 1000000) : ACall Try.prog 77 #[v] m (New (some { cells := iv l, kind := .grow, size := 1 }) l.length m) := by
  obtain ⟨a, o, h1, h2, h3⟩ := hl
  refine ACall.start Try.func77 rfl rfl ?_
  rcases h1 with ⟨rfl, hn⟩ | ⟨c, hc, rfl⟩ | ⟨hn, _⟩
  · omega
  · have hr := ints_rdl (by omega) h3
    (repeat (first | (with_reducible refine AWo.cons ?_) | ((with_reducible refine Step.id ?_); first | ((with_reducible apply Step.move); exact rfl; exact rfl) | ((with_reducible apply Step.assign); exact rfl; exact rfl) | ((with_reducible apply Step.eqNil); exact rfl; exact rfl; exact un23; exact rfl) | ((with_reducible apply Step.buildS 0); exact rfl; exact rfl; exact (fun _ _ => bs23); exact rfl; (focus (first | (simp only [List.nil_append, List.cons_append, List.set_cons_zero, List.set_cons_succ, iv_set, bv_set, iv_rep, bv_rep]; done) | (simp only [List.nil_append, List.cons_append, List.set_cons_zero, List.set_cons_succ, iv_set, bv_set, iv_rep, bv_rep]; rfl) | rfl)))) | (with_reducible refine AWo.nil ?_) | ((with_reducible apply AW.seq)) | ((with_reducible apply Then.n)) | ((with_reducible apply AW.regL)) | ((with_reducible apply AW.skip)) | ((with_reducible apply AW.condF); exact rfl; (focus (rfl)))))
    ((with_reducible apply Step.appE (k := 1)); exact rfl; exact rfl; exact rfl; exact el23; exact un23; exact rfl; exact rfl; exact (hr.old _); (focus (simp [iv])); (focus (omega)); exact (iv_one _); (focus (omega)); exact rfl; (focus (first | (simp only [List.nil_append, List.cons_append, List.set_cons_zero, List.set_cons_succ, iv_set, bv_set, iv_rep, bv_rep]; done) | (simp only [List.nil_append, List.cons_append, List.set_cons_zero, List.set_cons_succ, iv_set, bv_set, iv_rep, bv_rep]; rfl) | rfl)))
    (repeat (first | (with_reducible refine AWo.cons ?_) | ((with_reducible refine Step.id ?_); ((with_reducible apply Step.assign); exact rfl; exact rfl)) | (with_reducible refine AWo.nil ?_) | ((with_reducible apply Then.n))))
    refine AW.retB (l := [(2, .slice (some ⟨m.length + 0, 0, none⟩) l.length l.length)]) (L1 := [some { cells := iv l, kind := .grow, size := 1 }]) (Back.mv 0 1 rfl rfl rfl rfl (by intro j b hj h; rcases j with _ | _ | _ | _ | _ | _ | j <;> simp_all) (by repeat (first | exact CellsOk.nil | refine CellsOk.cons (by exact g0_iv _) ?_)) (by repeat (first | exact trivial | (refine And.intro ⟨_, rfl, by (exact Ren.slice_mv (by first | (simp; done) | omega | (simp; omega)))⟩ ?_)))) ?_
    exact ⟨_, rfl, rfl, rfl⟩
  · omega
theorem bl87 {x y z : Int} {q : Option Addr} {n c : Nat} : abuild Try.prog 87 [(0, .int .i64 x), (1, .int .i64 y), (2, .int .i64 z), (3, .slice q n c)] = some (.agg #[.int .i64 x, .int .i64 y, .int .i64 z, .slice q n c]) := by kernel_rfl
theorem bs51 {m : AM} {k : Nat} {x y z : Int} {q : Option Addr} {n c : Nat} : abuildSlice Try.prog m k 51 1 [(0, .agg #[.int .i64 x, .int .i64 y, .int .i64 z, .slice q n c])] = some (.slice (some ⟨k, 0, none⟩) 1 1, m.set k (some { cells := [.int .i64 x, .int .i64 y, .int .i64 z, .slice q n c] })) := by kernel_rfl
theorem el51 : elemB Try.prog 51 = some (87, 4, 48, #[.int .i64 0, .int .i64 0, .int .i64 0, .slice none 0 0]) := by kernel_rfl
theorem sz3 : szB Try.prog 3 = some 1 := by kernel_rfl
theorem un51 : Try.prog.underlying 51 = some (.slice 87) := by kernel_rfl
/-- A job as the program gets it. -/
def cvJ (x : Job) : Job := { x with after := x.after.take 60 }
def convJ (j : List Job) : List Job := (j.take 42).map cvJ
/-- Cells that show jobs. -/
def JCells (M : AM) (c : List Value) (js : List Job) : Prop := c.length = js.length * 4 ∧ ∀ k, k < js.length → ∃ w, (∀ q v, ((js.getD k default).cells w)[q]? = some v → c[k * 4 + q]? = some v) ∧ Ints M w (js.getD k default).after
theorem JCells.nil (M : AM) : JCells M [] [] := ⟨rfl, fun k hk => by simp at hk⟩
theorem JCells.snoc {M : AM} {L : AM} {c : List Value} {js : List Job} {x : Job} {w : Value} (h : JCells M c js) (hw : Ints (M ++ L) w x.after) : JCells (M ++ L) (c ++ x.cells w) (js ++ [x]) := by
  obtain ⟨h1, h2⟩ := h
  refine ⟨by simp [Job.cells, h1]; omega, fun k hk => ?_⟩
  simp only [List.length_append, List.length_singleton] at hk
  rcases Nat.lt_succ_iff_lt_or_eq.1 hk with hk | hk
  · obtain ⟨w', k1, k2⟩ := h2 k hk
    have e : (js ++ [x]).getD k default = js.getD k default := by simp [List.getElem?_append_left hk]
    refine ⟨w', fun q v hq => ?_, by rw [e]; exact k2.old L⟩
    rw [e] at hq
    have hq4 : q < 4 := by have := (List.getElem?_eq_some_iff.1 hq).1; simpa [Job.cells] using this
    rw [List.getElem?_append_left (by omega)]
    exact k1 q v hq
  · subst hk
    have e : (js ++ [x]).getD js.length default = x := by simp
    rw [e]
    refine ⟨w, fun q v hq => ?_, hw⟩
    rw [List.getElem?_append_right (by omega), h1, Nat.add_sub_cancel_left]
    exact hq
theorem JCells.jobs {M : AM} {c : List Value} {js : List Job} (h : JCells M c js) : Jobs (M ++ [gb c 4]) (gv M.length js.length) js := by
  obtain ⟨h1, h2⟩ := h
  refine ⟨M.length, 0, gv_sl _ _, by simp, fun k hk => ?_⟩
  obtain ⟨w, k1, k2⟩ := h2 k hk
  refine ⟨w, ⟨_, by rw [show M.length = M.length + 0 by omega, get_app, List.getElem?_cons_zero, gb_pos (by omega)], fun q v hq => ?_⟩, k2.old _⟩
  rw [Nat.zero_add]
  exact k1 q v hq
theorem conv_snoc {j : List Job} {k : Nat} (h : k < j.length) : (j.take (k + 1)).map cvJ = (j.take k).map cvJ ++ [cvJ (j.getD k default)] := by
  rw [take_snoc j k default h, List.map_append]; rfl
set_option maxHeartbeats 4000000 in
set_option maxRecDepth 100000 in
theorem f34_ok {m : AM} {v : Value} {j : List Job} (hj : Jobs m v j) (hs : Short j) : ACall Try.prog 34 #[v] m (More (fun M v => Jobs M v (convJ j)) m) := by
  obtain ⟨a, o, h1, h2, h3⟩ := hj
  obtain ⟨s1, s2⟩ := hs
  refine ACall.start Try.func34 rfl rfl ?_
  (repeat (first | (with_reducible refine AWo.cons ?_) | ((with_reducible refine Step.id ?_); first | ((with_reducible apply Step.move); exact rfl; exact rfl) | ((with_reducible apply Step.assign); exact rfl; exact rfl) | ((with_reducible apply Step.len); exact rfl; (focus (assumption)); (focus (decide +kernel)); exact rfl)) | (with_reducible refine AWo.nil ?_) | ((with_reducible apply AW.seq)) | ((with_reducible apply Then.n)) | ((with_reducible apply AW.regL)) | ((with_reducible apply AW.block))))
  refine AW.pad [(3, .slice none 0 0), (6, v), (7, .int .i64 (j.length : Nat)), (8, .int .i64 ((0 : Nat) : Int))] (by repeat (first | exact trivial | (refine And.intro ⟨rfl, by (first | exact .int _ _ | exact Ren.of_g0 rfl | exact Ren.of_sl (by assumption) (by first | omega | (simp; omega)))⟩ ?_))) CellsP.nil ?_
  refine AW.loopW (fun n' t m' => ∃ (k : Nat) (M N : AM) (c : List Value), n' = j.length - k ∧ k ≤ j.length ∧ k ≤ 42 ∧ M = m ++ N ∧ JCells M c ((j.take k).map cvJ) ∧ m' = M ++ [gb c 4] ∧
    t = fr [(3, gv (M.length + 0) k), (6, v), (7, .int .i64 (j.length : Nat)), (8, .int .i64 (k : Nat))]) ⟨_, _, (by repeat (first | exact trivial | (refine And.intro rfl ?_))), 0, m, [], [], rfl, Nat.zero_le _, Nat.zero_le _, by simp, JCells.nil m, rfl, rfl⟩ ?_
  rintro n' t m' ⟨k, M, N, c, rfl, hk, hk2, hM, hc, rfl, rfl⟩
  have hlk : ((j.take k).map cvJ).length = k := by simp; omega
  have fin : (k = j.length ∨ k = 42) → Jobs (M ++ [gb c 4]) (gv (M.length + 0) k) (convJ j) := fun h => by
    have e : (j.take k).map cvJ = convJ j := by
      unfold convJ
      rcases h with h | h
      · rw [List.take_of_length_le (show j.length ≤ k by omega), List.take_of_length_le (show j.length ≤ 42 by omega)]
      · rw [h]
    have := hc.jobs
    rwa [hlk, e] at this
  rcases Nat.lt_or_ge k j.length with hlt | hge
  · obtain ⟨w, hr, hw⟩ := h3 k hlt
    have hal := s2 k hlt
    have hr' : RdL M a (o + k * 4) ((j.getD k default).cells w) := by rw [hM]; exact hr.old N
    have hw' : Ints M w (j.getD k default).after := by rw [hM]; exact hw.old N
    have ha' : a < M.length := by rw [hM]; simp; omega
    have cs := conv_snoc hlt
    have hcl := hc.1
    rw [hlk] at hcl
    have snoc := fun (L : AM) (u : Value) (hu : Ints (M ++ L) u (cvJ (j.getD k default)).after) => hc.snoc hu
    rw [← cs] at snoc
    obtain ⟨wa, wo, w1, w2, w3⟩ := id hw'
    have hone := w1.one
    simp only [cvJ, Job.cells] at *
    generalize j.getD k default = x at *
    obtain ⟨x1, x2, x3, l⟩ := x
    simp only at *
    have hw1 := job_one (x := x1) (y := x2) (z := x3) hone
    by_cases hk3 : (41 : Int) < (k : Int)
    · (repeat (first | (with_reducible refine AWo.cons ?_) | ((with_reducible refine Step.id ?_); first | ((with_reducible apply Step.move); exact rfl; exact rfl) | ((with_reducible apply Step.assign); exact rfl; exact rfl) | ((with_reducible apply Step.loadL (n := 4)); exact rfl; (focus (decide +kernel)); (focus (decide +kernel)); exact rfl; (focus (exact RdL.old _ (by assumption))); exact rfl; exact rfl) | ((with_reducible apply Step.ix (s := 4)); exact rfl; (focus (assumption)); exact rfl; (focus (decide +kernel)); exact rfl; (focus (omega))) | ((with_reducible apply Step.lss); exact rfl; exact rfl; exact rfl) | ((with_reducible apply Step.gtr); exact rfl; exact rfl; exact rfl) | ((with_reducible apply Step.alloc 1); exact rfl; exact ze60; exact rfl; (focus (first | (simp only [List.nil_append, List.cons_append, List.set_cons_zero, List.set_cons_succ, iv_set, bv_set, iv_rep, bv_rep]; done) | (simp only [List.nil_append, List.cons_append, List.set_cons_zero, List.set_cons_succ, iv_set, bv_set, iv_rep, bv_rep]; rfl) | rfl))) | ((with_reducible apply Step.storeA (k := 1) (n := 4)); exact rfl; exact rfl; exact rfl; exact rfl; (focus (decide +kernel)); exact rfl; (focus (first | assumption | exact hw1)); exact rfl; (focus (first | (simp only [List.nil_append, List.cons_append, List.set_cons_zero, List.set_cons_succ, iv_set, bv_set, iv_rep, bv_rep]; done) | (simp only [List.nil_append, List.cons_append, List.set_cons_zero, List.set_cons_succ, iv_set, bv_set, iv_rep, bv_rep]; rfl) | rfl)))) | (with_reducible refine AWo.nil ?_) | ((with_reducible apply AW.seq)) | ((with_reducible apply Then.n)) | ((with_reducible apply AW.regL)) | ((with_reducible apply AW.block)) | ((with_reducible apply AW.exit)) | ((with_reducible apply InBlk.hit)) | ((with_reducible apply InBlk.miss); exact rfl) | ((with_reducible apply Then.e)) | ((with_reducible apply AW.skip)) | ((with_reducible apply AW.condT); exact rfl; (focus ((simp only [decide_eq_true_eq, decide_eq_false_iff_not, Bool.not_eq_true', Bool.not_eq_false', Bool.not_true, Bool.not_false]; first | assumption | omega))))))
      (refine AW.ret ?_; (repeat (first | refine Then.r ?_ | refine InBlk.r ?_)))
      exact ⟨_, rfl, N ++ [gb c 4, some { cells := [.int .i64 x1, .int .i64 x2, .int .i64 x3, w] }], by rw [hM, List.append_assoc]; rfl, by
        have := (fin (.inr (by omega))).old [some { cells := [.int .i64 x1, .int .i64 x2, .int .i64 x3, w] }]
        rwa [List.append_assoc] at this⟩
    · (repeat (first | (with_reducible refine AWo.cons ?_) | ((with_reducible refine Step.id ?_); first | ((with_reducible apply Step.move); exact rfl; exact rfl) | ((with_reducible apply Step.assign); exact rfl; exact rfl) | ((with_reducible apply Step.loadL (n := 4)); exact rfl; (focus (decide +kernel)); (focus (decide +kernel)); exact rfl; (focus (exact RdL.old _ (by assumption))); exact rfl; exact rfl) | ((with_reducible apply Step.ix (s := 4)); exact rfl; (focus (assumption)); exact rfl; (focus (decide +kernel)); exact rfl; (focus (omega))) | ((with_reducible apply Step.lss); exact rfl; exact rfl; exact rfl) | ((with_reducible apply Step.gtr); exact rfl; exact rfl; exact rfl) | ((with_reducible apply Step.alloc 1); exact rfl; exact ze60; exact rfl; (focus (first | (simp only [List.nil_append, List.cons_append, List.set_cons_zero, List.set_cons_succ, iv_set, bv_set, iv_rep, bv_rep]; done) | (simp only [List.nil_append, List.cons_append, List.set_cons_zero, List.set_cons_succ, iv_set, bv_set, iv_rep, bv_rep]; rfl) | rfl))) | ((with_reducible apply Step.storeA (k := 1) (n := 4)); exact rfl; exact rfl; exact rfl; exact rfl; (focus (decide +kernel)); exact rfl; (focus (first | assumption | exact hw1)); exact rfl; (focus (first | (simp only [List.nil_append, List.cons_append, List.set_cons_zero, List.set_cons_succ, iv_set, bv_set, iv_rep, bv_rep]; done) | (simp only [List.nil_append, List.cons_append, List.set_cons_zero, List.set_cons_succ, iv_set, bv_set, iv_rep, bv_rep]; rfl) | rfl)))) | (with_reducible refine AWo.nil ?_) | ((with_reducible apply AW.seq)) | ((with_reducible apply Then.n)) | ((fail_if_success (with_reducible refine AW.atL (id := 6) ?_)); ((with_reducible apply AW.regL))) | ((with_reducible apply AW.block)) | ((with_reducible apply AW.skip)) | ((with_reducible apply AW.condT); exact rfl; (focus ((simp only [decide_eq_true_eq, decide_eq_false_iff_not, Bool.not_eq_true', Bool.not_eq_false', Bool.not_true, Bool.not_false]; first | assumption | omega)))) | ((with_reducible apply AW.condF); exact rfl; (focus ((simp only [decide_eq_true_eq, decide_eq_false_iff_not, Bool.not_eq_true', Bool.not_eq_false', Bool.not_true, Bool.not_false]; first | assumption | omega))))))
      have e60 : min ((l.length : Nat) : Int) 60 = ((min l.length 60 : Nat) : Int) := by omega
      have hmn : min l.length 60 ≤ l.length := Nat.min_le_left _ _
      rcases w1 with ⟨rfl, hn⟩ | ⟨cp, hcp, rfl⟩ | ⟨hn, so, sk, rfl⟩
      · obtain rfl : l = [] := List.eq_nil_of_length_eq_zero hn
        have e0 : min ((0 : Nat) : Int) 60 = ((0 : Nat) : Int) := rfl
        refine AW.via [(3, .slice (some ⟨M.length + 3, 0, none⟩) (k + 1) (k + 1)), (6, v), (7, .int .i64 (j.length : Nat)), (8, .int .i64 (k : Nat))] (M ++ [none, some { cells := [.int .i64 x1, .int .i64 x2, .int .i64 x3, .slice none 0 0] }, some { cells := [.int .i64 x1, .int .i64 x2, .int .i64 x3, .slice none 0 0] }, some { cells := c ++ [.int .i64 x1, .int .i64 x2, .int .i64 x3, .slice none 0 0], kind := .grow, size := 4 }]) ?_ ?_
        · (repeat' (first | ((with_reducible refine Step.id ?_); first | ((with_reducible apply Step.move); exact rfl; exact rfl) | ((with_reducible apply Step.load); exact rfl; (focus (decide +kernel)); exact rfl; (focus (exact Rd.new rfl rfl))) | ((with_reducible apply Step.field0); exact rfl; (focus (decide +kernel)); exact rfl) | ((with_reducible apply Step.field (k := 1)); exact rfl; (focus (decide +kernel)); exact rfl) | ((with_reducible apply Step.field (k := 2)); exact rfl; (focus (decide +kernel)); exact rfl) | ((with_reducible apply Step.field (k := 3)); exact rfl; (focus (decide +kernel)); exact rfl) | ((with_reducible apply Step.slToNil); exact rfl; exact rfl; (focus (assumption)); exact un23; exact sz3; exact rfl) | ((with_reducible apply Step.len); exact rfl; (focus (exact Sl.nil 0 0)); (focus (decide +kernel)); exact rfl) | ((with_reducible apply Step.min); exact rfl; exact rfl; exact rfl) | ((with_reducible apply Step.callR fit); exact rfl; exact Try.func77; exact rfl; exact rfl; exact (clone_nil)) | ((with_reducible apply Step.buildS 2); exact rfl; exact rfl; exact (fun _ _ => bs51); exact rfl; (focus (first | (simp only [List.nil_append, List.cons_append, List.set_cons_zero, List.set_cons_succ, iv_set, bv_set, iv_rep, bv_rep]; done) | (simp only [List.nil_append, List.cons_append, List.set_cons_zero, List.set_cons_succ, iv_set, bv_set, iv_rep, bv_rep]; rfl) | rfl))) | ((with_reducible apply Step.build); exact rfl; exact bl87; exact rfl)) | ((with_reducible apply AW.drawT fit (T := (.step 0 (.step 1 (.step 3 (.step 5 (.step 7 (.step 8 (.step 9 (.step 10 (.step 11 (.step 12 (.step 13 (.both (.step 2 (.both (.step 4 (.both (.step 6 (.step 14 (.step 15 (.step 16 (.step 17 (.step 18 .done)))))) (.step 14 (.step 6 (.step 15 (.step 16 (.step 17 (.step 18 .done)))))))) (.both (.step 6 (.both (.step 4 (.step 14 (.step 15 (.step 16 (.step 17 (.step 18 .done)))))) (.step 14 (.step 4 (.step 15 (.step 16 (.step 17 (.step 18 .done)))))))) (.step 14 (.step 4 (.step 6 (.step 15 (.step 16 (.step 17 (.step 18 .done)))))))))) (.both (.step 4 (.both (.step 2 (.both (.step 6 (.step 14 (.step 15 (.step 16 (.step 17 (.step 18 .done)))))) (.step 14 (.step 6 (.step 15 (.step 16 (.step 17 (.step 18 .done)))))))) (.both (.step 6 (.both (.step 2 (.step 14 (.step 15 (.step 16 (.step 17 (.step 18 .done)))))) (.step 14 (.step 2 (.step 15 (.step 16 (.step 17 (.step 18 .done)))))))) (.step 14 (.step 2 (.step 6 (.step 15 (.step 16 (.step 17 (.step 18 .done)))))))))) (.both (.step 6 (.both (.step 2 (.both (.step 4 (.step 14 (.step 15 (.step 16 (.step 17 (.step 18 .done)))))) (.step 14 (.step 4 (.step 15 (.step 16 (.step 17 (.step 18 .done)))))))) (.both (.step 4 (.both (.step 2 (.step 14 (.step 15 (.step 16 (.step 17 (.step 18 .done)))))) (.step 14 (.step 2 (.step 15 (.step 16 (.step 17 (.step 18 .done)))))))) (.step 14 (.step 2 (.step 4 (.step 15 (.step 16 (.step 17 (.step 18 .done)))))))))) (.step 14 (.step 2 (.step 4 (.step 6 (.step 15 (.step 16 (.step 17 (.step 18 .done)))))))))))))))))))))))); (focus (decide +kernel))) | ((with_reducible apply AWt.step); exact rfl) | refine AWt.both ?_ ?_))
          all_goals ((with_reducible apply Step.appG (k := 3)); exact rfl; exact rfl; exact rfl; exact el51; exact un51; exact rfl; exact rfl; exact rfl; exact hcl; exact rfl; exact rfl; exact rfl; (focus (omega)); exact rfl; (focus (first | (simp only [List.nil_append, List.cons_append, List.set_cons_zero, List.set_cons_succ, iv_set, bv_set, iv_rep, bv_rep]; done) | (simp only [List.nil_append, List.cons_append, List.set_cons_zero, List.set_cons_succ, iv_set, bv_set, iv_rep, bv_rep]; rfl) | rfl)))
          all_goals (repeat' (first | ((with_reducible refine Step.id ?_); ((with_reducible apply Step.assign); exact rfl; exact rfl)) | ((with_reducible apply AWt.step); exact rfl) | ((with_reducible apply AWt.done))))
          all_goals exact ⟨rfl, rfl, (by repeat (first | exact trivial | (refine And.intro rfl ?_)))⟩
        intro t' ht'
        refine InBlk.n ?_
        refine Then.n ?_
        refine AW.weak ht' ?_
        (repeat (first | (with_reducible refine AWo.cons ?_) | ((with_reducible refine Step.id ?_); first | ((with_reducible apply Step.move); exact rfl; exact rfl) | ((with_reducible apply Step.add); exact rfl; exact rfl; (focus (omega)); exact rfl)) | (with_reducible refine AWo.nil ?_) | ((with_reducible apply Then.n)) | ((with_reducible apply AW.regL))))
        refine ⟨_, [(3, .slice (some ⟨M.length + 3, 0, none⟩) (k + 1) (k + 1)), (6, v), (7, .int .i64 (j.length : Nat)), (8, .int .i64 (k + 1 : Nat))], ?_, (by repeat (first | exact trivial | (refine And.intro rfl ?_))), k + 1, M ++ [none, some { cells := [.int .i64 x1, .int .i64 x2, .int .i64 x3, .slice none 0 0] }, some { cells := [.int .i64 x1, .int .i64 x2, .int .i64 x3, .slice none 0 0] }], N ++ [none, some { cells := [.int .i64 x1, .int .i64 x2, .int .i64 x3, .slice none 0 0] }, some { cells := [.int .i64 x1, .int .i64 x2, .int .i64 x3, .slice none 0 0] }], c ++ [.int .i64 x1, .int .i64 x2, .int .i64 x3, .slice none 0 0], rfl, hlt, by omega, by rw [hM, List.append_assoc], snoc _ _ (ints_nil (by simp)), ?_, ?_⟩
        · omega
        · rw [gb_pos (by simp), List.append_assoc]; rfl
        · rw [gv_pos (by omega)]; simp
      · have hl1 : ∀ h, h ≤ cp → Sl (.slice (some ⟨wa, wo, none⟩) h cp) wa wo h := fun h hh => Sl.mk hh
        by_cases hl0 : l.length = 0
        · obtain rfl : l = [] := List.eq_nil_of_length_eq_zero hl0
          have e0 : min ((0 : Nat) : Int) 60 = ((0 : Nat) : Int) := rfl
          have hsl : Sl (.slice (some ⟨wa, wo, none⟩) 0 cp) wa wo 0 := Sl.mk hcp
          simp only [List.length_nil] at *
          refine AW.via [(3, .slice (some ⟨M.length + 4, 0, none⟩) (k + 1) (k + 1)), (6, v), (7, .int .i64 (j.length : Nat)), (8, .int .i64 (k : Nat))] (M ++ [none, some { cells := [.int .i64 x1, .int .i64 x2, .int .i64 x3, .slice (some ⟨wa, wo, none⟩) 0 cp] }, some { cells := [] }, some { cells := [.int .i64 x1, .int .i64 x2, .int .i64 x3, .slice (some ⟨M.length + 2, 0, none⟩) 0 0] }, some { cells := c ++ [.int .i64 x1, .int .i64 x2, .int .i64 x3, .slice (some ⟨M.length + 2, 0, none⟩) 0 0], kind := .grow, size := 4 }]) ?_ ?_
          · (repeat' (first | ((with_reducible refine Step.id ?_); first | ((with_reducible apply Step.move); exact rfl; exact rfl) | ((with_reducible apply Step.load); exact rfl; (focus (decide +kernel)); exact rfl; (focus (exact Rd.new rfl rfl))) | ((with_reducible apply Step.field0); exact rfl; (focus (decide +kernel)); exact rfl) | ((with_reducible apply Step.field (k := 1)); exact rfl; (focus (decide +kernel)); exact rfl) | ((with_reducible apply Step.field (k := 2)); exact rfl; (focus (decide +kernel)); exact rfl) | ((with_reducible apply Step.field (k := 3)); exact rfl; (focus (decide +kernel)); exact rfl) | ((with_reducible apply Step.slTo); exact rfl; exact rfl; (focus (assumption)); (focus (omega)); exact un23; exact sz3; exact rfl) | ((with_reducible apply Step.len); exact rfl; (focus (assumption)); (focus (decide +kernel)); exact rfl) | ((with_reducible apply Step.min); exact rfl; exact rfl; exact rfl) | ((with_reducible apply Step.callN fit (k := 2)); exact rfl; exact rfl; exact Try.func77; exact rfl; exact rfl; exact (clone_empty hsl); (focus (first | (simp only [List.nil_append, List.cons_append, List.set_cons_zero, List.set_cons_succ, iv_set, bv_set, iv_rep, bv_rep]; done) | (simp only [List.nil_append, List.cons_append, List.set_cons_zero, List.set_cons_succ, iv_set, bv_set, iv_rep, bv_rep]; rfl) | rfl))) | ((with_reducible apply Step.buildS 3); exact rfl; exact rfl; exact (fun _ _ => bs51); exact rfl; (focus (first | (simp only [List.nil_append, List.cons_append, List.set_cons_zero, List.set_cons_succ, iv_set, bv_set, iv_rep, bv_rep]; done) | (simp only [List.nil_append, List.cons_append, List.set_cons_zero, List.set_cons_succ, iv_set, bv_set, iv_rep, bv_rep]; rfl) | rfl))) | ((with_reducible apply Step.build); exact rfl; exact bl87; exact rfl)) | ((with_reducible apply AW.drawT fit (T := (.step 0 (.step 1 (.step 3 (.step 5 (.step 7 (.step 8 (.step 9 (.step 10 (.step 11 (.step 12 (.step 13 (.both (.step 2 (.both (.step 4 (.both (.step 6 (.step 14 (.step 15 (.step 16 (.step 17 (.step 18 .done)))))) (.step 14 (.step 6 (.step 15 (.step 16 (.step 17 (.step 18 .done)))))))) (.both (.step 6 (.both (.step 4 (.step 14 (.step 15 (.step 16 (.step 17 (.step 18 .done)))))) (.step 14 (.step 4 (.step 15 (.step 16 (.step 17 (.step 18 .done)))))))) (.step 14 (.step 4 (.step 6 (.step 15 (.step 16 (.step 17 (.step 18 .done)))))))))) (.both (.step 4 (.both (.step 2 (.both (.step 6 (.step 14 (.step 15 (.step 16 (.step 17 (.step 18 .done)))))) (.step 14 (.step 6 (.step 15 (.step 16 (.step 17 (.step 18 .done)))))))) (.both (.step 6 (.both (.step 2 (.step 14 (.step 15 (.step 16 (.step 17 (.step 18 .done)))))) (.step 14 (.step 2 (.step 15 (.step 16 (.step 17 (.step 18 .done)))))))) (.step 14 (.step 2 (.step 6 (.step 15 (.step 16 (.step 17 (.step 18 .done)))))))))) (.both (.step 6 (.both (.step 2 (.both (.step 4 (.step 14 (.step 15 (.step 16 (.step 17 (.step 18 .done)))))) (.step 14 (.step 4 (.step 15 (.step 16 (.step 17 (.step 18 .done)))))))) (.both (.step 4 (.both (.step 2 (.step 14 (.step 15 (.step 16 (.step 17 (.step 18 .done)))))) (.step 14 (.step 2 (.step 15 (.step 16 (.step 17 (.step 18 .done)))))))) (.step 14 (.step 2 (.step 4 (.step 15 (.step 16 (.step 17 (.step 18 .done)))))))))) (.step 14 (.step 2 (.step 4 (.step 6 (.step 15 (.step 16 (.step 17 (.step 18 .done)))))))))))))))))))))))); (focus (decide +kernel))) | ((with_reducible apply AWt.step); exact rfl) | refine AWt.both ?_ ?_))
            all_goals ((with_reducible apply Step.appG (k := 4)); exact rfl; exact rfl; exact rfl; exact el51; exact un51; exact rfl; exact rfl; exact rfl; exact hcl; exact rfl; exact rfl; exact rfl; (focus (omega)); exact rfl; (focus (first | (simp only [List.nil_append, List.cons_append, List.set_cons_zero, List.set_cons_succ, iv_set, bv_set, iv_rep, bv_rep]; done) | (simp only [List.nil_append, List.cons_append, List.set_cons_zero, List.set_cons_succ, iv_set, bv_set, iv_rep, bv_rep]; rfl) | rfl)))
            all_goals (repeat' (first | ((with_reducible refine Step.id ?_); ((with_reducible apply Step.assign); exact rfl; exact rfl)) | ((with_reducible apply AWt.step); exact rfl) | ((with_reducible apply AWt.done))))
            all_goals exact ⟨rfl, rfl, (by repeat (first | exact trivial | (refine And.intro rfl ?_)))⟩
          intro t' ht'
          refine InBlk.n ?_
          refine Then.n ?_
          refine AW.weak ht' ?_
          (repeat (first | (with_reducible refine AWo.cons ?_) | ((with_reducible refine Step.id ?_); first | ((with_reducible apply Step.move); exact rfl; exact rfl) | ((with_reducible apply Step.add); exact rfl; exact rfl; (focus (omega)); exact rfl)) | (with_reducible refine AWo.nil ?_) | ((with_reducible apply Then.n)) | ((with_reducible apply AW.regL))))
          refine ⟨_, [(3, .slice (some ⟨M.length + 4, 0, none⟩) (k + 1) (k + 1)), (6, v), (7, .int .i64 (j.length : Nat)), (8, .int .i64 (k + 1 : Nat))], ?_, (by repeat (first | exact trivial | (refine And.intro rfl ?_))), k + 1, M ++ [none, some { cells := [.int .i64 x1, .int .i64 x2, .int .i64 x3, .slice (some ⟨wa, wo, none⟩) 0 cp] }, some { cells := [] }, some { cells := [.int .i64 x1, .int .i64 x2, .int .i64 x3, .slice (some ⟨M.length + 2, 0, none⟩) 0 0] }], N ++ [none, some { cells := [.int .i64 x1, .int .i64 x2, .int .i64 x3, .slice (some ⟨wa, wo, none⟩) 0 cp] }, some { cells := [] }, some { cells := [.int .i64 x1, .int .i64 x2, .int .i64 x3, .slice (some ⟨M.length + 2, 0, none⟩) 0 0] }], c ++ [.int .i64 x1, .int .i64 x2, .int .i64 x3, .slice (some ⟨M.length + 2, 0, none⟩) 0 0], rfl, hlt, by omega, by rw [hM, List.append_assoc], snoc _ _ (ints_new (k := 2) rfl rfl 0 rfl), ?_, ?_⟩
          · omega
          · rw [gb_pos (by simp), List.append_assoc]; rfl
          · rw [gv_pos (by omega)]; simp
        · have hsl : Sl (.slice (some ⟨wa, wo, none⟩) l.length cp) wa wo l.length := Sl.mk hcp
          have hcm : min l.length 60 ≤ cp := by omega
          have lt60 : (l.take 60).length = min l.length 60 := by rw [List.length_take, Nat.min_comm]
          have hin : ∀ L, Ints (M ++ L) (.slice (some ⟨wa, wo, none⟩) (min l.length 60) cp) (l.take 60) := fun L => by
            refine ⟨wa, wo, by rw [lt60]; exact Sl.mk hcm, by simp; omega, fun q hq => ?_⟩
            have := (w3 q (by omega)).old L
            rw [lt60] at hq
            rw [List.getD_eq_getElem?_getD, List.getElem?_take, if_pos (by omega), ← List.getD_eq_getElem?_getD]
            exact this
          have cl := fun L => clone_pos (hin L) (by omega) (by omega)
          rw [lt60] at cl
          refine AW.via [(3, .slice (some ⟨M.length + 4, 0, none⟩) (k + 1) (k + 1)), (6, v), (7, .int .i64 (j.length : Nat)), (8, .int .i64 (k : Nat))] (M ++ [none, some { cells := [.int .i64 x1, .int .i64 x2, .int .i64 x3, .slice (some ⟨wa, wo, none⟩) l.length cp] }, some { cells := iv (l.take 60), kind := .grow, size := 1 }, some { cells := [.int .i64 x1, .int .i64 x2, .int .i64 x3, .slice (some ⟨M.length + 2, 0, none⟩) (min l.length 60) (min l.length 60)] }, some { cells := c ++ [.int .i64 x1, .int .i64 x2, .int .i64 x3, .slice (some ⟨M.length + 2, 0, none⟩) (min l.length 60) (min l.length 60)], kind := .grow, size := 4 }]) ?_ ?_
          · (repeat' (first | ((with_reducible refine Step.id ?_); first | ((with_reducible apply Step.move); exact rfl; exact rfl) | ((with_reducible apply Step.load); exact rfl; (focus (decide +kernel)); exact rfl; (focus (exact Rd.new rfl rfl))) | ((with_reducible apply Step.field0); exact rfl; (focus (decide +kernel)); exact rfl) | ((with_reducible apply Step.field (k := 1)); exact rfl; (focus (decide +kernel)); exact rfl) | ((with_reducible apply Step.field (k := 2)); exact rfl; (focus (decide +kernel)); exact rfl) | ((with_reducible apply Step.field (k := 3)); exact rfl; (focus (decide +kernel)); exact rfl) | ((with_reducible apply Step.slTo); exact rfl; exact rfl; (focus (assumption)); (focus (omega)); exact un23; exact sz3; exact rfl) | ((with_reducible apply Step.len); exact rfl; (focus (assumption)); (focus (decide +kernel)); exact rfl) | ((with_reducible apply Step.min); exact rfl; exact rfl; exact rfl) | ((with_reducible apply Step.callN fit (k := 2)); exact rfl; exact rfl; exact Try.func77; exact rfl; exact rfl; exact (cl _); (focus (first | (simp only [List.nil_append, List.cons_append, List.set_cons_zero, List.set_cons_succ, iv_set, bv_set, iv_rep, bv_rep]; done) | (simp only [List.nil_append, List.cons_append, List.set_cons_zero, List.set_cons_succ, iv_set, bv_set, iv_rep, bv_rep]; rfl) | rfl))) | ((with_reducible apply Step.buildS 3); exact rfl; exact rfl; exact (fun _ _ => bs51); exact rfl; (focus (first | (simp only [List.nil_append, List.cons_append, List.set_cons_zero, List.set_cons_succ, iv_set, bv_set, iv_rep, bv_rep]; done) | (simp only [List.nil_append, List.cons_append, List.set_cons_zero, List.set_cons_succ, iv_set, bv_set, iv_rep, bv_rep]; rfl) | rfl))) | ((with_reducible apply Step.build); exact rfl; exact bl87; exact rfl)) | ((with_reducible apply AW.drawT fit (T := (.step 0 (.step 1 (.step 3 (.step 5 (.step 7 (.step 8 (.step 9 (.step 10 (.step 11 (.step 12 (.step 13 (.both (.step 2 (.both (.step 4 (.both (.step 6 (.step 14 (.step 15 (.step 16 (.step 17 (.step 18 .done)))))) (.step 14 (.step 6 (.step 15 (.step 16 (.step 17 (.step 18 .done)))))))) (.both (.step 6 (.both (.step 4 (.step 14 (.step 15 (.step 16 (.step 17 (.step 18 .done)))))) (.step 14 (.step 4 (.step 15 (.step 16 (.step 17 (.step 18 .done)))))))) (.step 14 (.step 4 (.step 6 (.step 15 (.step 16 (.step 17 (.step 18 .done)))))))))) (.both (.step 4 (.both (.step 2 (.both (.step 6 (.step 14 (.step 15 (.step 16 (.step 17 (.step 18 .done)))))) (.step 14 (.step 6 (.step 15 (.step 16 (.step 17 (.step 18 .done)))))))) (.both (.step 6 (.both (.step 2 (.step 14 (.step 15 (.step 16 (.step 17 (.step 18 .done)))))) (.step 14 (.step 2 (.step 15 (.step 16 (.step 17 (.step 18 .done)))))))) (.step 14 (.step 2 (.step 6 (.step 15 (.step 16 (.step 17 (.step 18 .done)))))))))) (.both (.step 6 (.both (.step 2 (.both (.step 4 (.step 14 (.step 15 (.step 16 (.step 17 (.step 18 .done)))))) (.step 14 (.step 4 (.step 15 (.step 16 (.step 17 (.step 18 .done)))))))) (.both (.step 4 (.both (.step 2 (.step 14 (.step 15 (.step 16 (.step 17 (.step 18 .done)))))) (.step 14 (.step 2 (.step 15 (.step 16 (.step 17 (.step 18 .done)))))))) (.step 14 (.step 2 (.step 4 (.step 15 (.step 16 (.step 17 (.step 18 .done)))))))))) (.step 14 (.step 2 (.step 4 (.step 6 (.step 15 (.step 16 (.step 17 (.step 18 .done)))))))))))))))))))))))); (focus (decide +kernel))) | ((with_reducible apply AWt.step); exact rfl) | refine AWt.both ?_ ?_))
            all_goals ((with_reducible apply Step.appG (k := 4)); exact rfl; exact rfl; exact rfl; exact el51; exact un51; exact rfl; exact rfl; exact rfl; exact hcl; exact rfl; exact rfl; exact rfl; (focus (omega)); exact rfl; (focus (first | (simp only [List.nil_append, List.cons_append, List.set_cons_zero, List.set_cons_succ, iv_set, bv_set, iv_rep, bv_rep]; done) | (simp only [List.nil_append, List.cons_append, List.set_cons_zero, List.set_cons_succ, iv_set, bv_set, iv_rep, bv_rep]; rfl) | rfl)))
            all_goals (repeat' (first | ((with_reducible refine Step.id ?_); ((with_reducible apply Step.assign); exact rfl; exact rfl)) | ((with_reducible apply AWt.step); exact rfl) | ((with_reducible apply AWt.done))))
            all_goals exact ⟨rfl, rfl, (by repeat (first | exact trivial | (refine And.intro rfl ?_)))⟩
          intro t' ht'
          refine InBlk.n ?_
          refine Then.n ?_
          refine AW.weak ht' ?_
          (repeat (first | (with_reducible refine AWo.cons ?_) | ((with_reducible refine Step.id ?_); first | ((with_reducible apply Step.move); exact rfl; exact rfl) | ((with_reducible apply Step.add); exact rfl; exact rfl; (focus (omega)); exact rfl)) | (with_reducible refine AWo.nil ?_) | ((with_reducible apply Then.n)) | ((with_reducible apply AW.regL))))
          refine ⟨_, [(3, .slice (some ⟨M.length + 4, 0, none⟩) (k + 1) (k + 1)), (6, v), (7, .int .i64 (j.length : Nat)), (8, .int .i64 (k + 1 : Nat))], ?_, (by repeat (first | exact trivial | (refine And.intro rfl ?_))), k + 1, M ++ [none, some { cells := [.int .i64 x1, .int .i64 x2, .int .i64 x3, .slice (some ⟨wa, wo, none⟩) l.length cp] }, some { cells := iv (l.take 60), kind := .grow, size := 1 }, some { cells := [.int .i64 x1, .int .i64 x2, .int .i64 x3, .slice (some ⟨M.length + 2, 0, none⟩) (min l.length 60) (min l.length 60)] }], N ++ [none, some { cells := [.int .i64 x1, .int .i64 x2, .int .i64 x3, .slice (some ⟨wa, wo, none⟩) l.length cp] }, some { cells := iv (l.take 60), kind := .grow, size := 1 }, some { cells := [.int .i64 x1, .int .i64 x2, .int .i64 x3, .slice (some ⟨M.length + 2, 0, none⟩) (min l.length 60) (min l.length 60)] }], c ++ [.int .i64 x1, .int .i64 x2, .int .i64 x3, .slice (some ⟨M.length + 2, 0, none⟩) (min l.length 60) (min l.length 60)], rfl, hlt, by omega, by rw [hM, List.append_assoc], snoc _ _ (ints_new (k := 2) rfl rfl _ lt60.symm), ?_, ?_⟩
          · omega
          · rw [gb_pos (by simp), List.append_assoc]; rfl
          · rw [gv_pos (by omega)]; simp
      · skip
        obtain rfl : l = [] := List.eq_nil_of_length_eq_zero hn
        have e0 : min ((0 : Nat) : Int) 60 = ((0 : Nat) : Int) := rfl
        have hsl : Sl (.slice (some ⟨wa, so, some sk⟩) 0 0) wa wo 0 := .inr (.inr ⟨rfl, so, sk, rfl⟩)
        simp only [List.length_nil] at *
        refine AW.via [(3, .slice (some ⟨M.length + 4, 0, none⟩) (k + 1) (k + 1)), (6, v), (7, .int .i64 (j.length : Nat)), (8, .int .i64 (k : Nat))] (M ++ [none, some { cells := [.int .i64 x1, .int .i64 x2, .int .i64 x3, .slice (some ⟨wa, so, some sk⟩) 0 0] }, some { cells := [] }, some { cells := [.int .i64 x1, .int .i64 x2, .int .i64 x3, .slice (some ⟨M.length + 2, 0, none⟩) 0 0] }, some { cells := c ++ [.int .i64 x1, .int .i64 x2, .int .i64 x3, .slice (some ⟨M.length + 2, 0, none⟩) 0 0], kind := .grow, size := 4 }]) ?_ ?_
        · (repeat' (first | ((with_reducible refine Step.id ?_); first | ((with_reducible apply Step.move); exact rfl; exact rfl) | ((with_reducible apply Step.load); exact rfl; (focus (decide +kernel)); exact rfl; (focus (exact Rd.new rfl rfl))) | ((with_reducible apply Step.field0); exact rfl; (focus (decide +kernel)); exact rfl) | ((with_reducible apply Step.field (k := 1)); exact rfl; (focus (decide +kernel)); exact rfl) | ((with_reducible apply Step.field (k := 2)); exact rfl; (focus (decide +kernel)); exact rfl) | ((with_reducible apply Step.field (k := 3)); exact rfl; (focus (decide +kernel)); exact rfl) | ((with_reducible apply Step.slToSpot); exact rfl; exact rfl; (focus (assumption)); exact un23; exact sz3; exact rfl) | ((with_reducible apply Step.len); exact rfl; (focus (assumption)); (focus (decide +kernel)); exact rfl) | ((with_reducible apply Step.min); exact rfl; exact rfl; exact rfl) | ((with_reducible apply Step.callN fit (k := 2)); exact rfl; exact rfl; exact Try.func77; exact rfl; exact rfl; exact (clone_empty hsl); (focus (first | (simp only [List.nil_append, List.cons_append, List.set_cons_zero, List.set_cons_succ, iv_set, bv_set, iv_rep, bv_rep]; done) | (simp only [List.nil_append, List.cons_append, List.set_cons_zero, List.set_cons_succ, iv_set, bv_set, iv_rep, bv_rep]; rfl) | rfl))) | ((with_reducible apply Step.buildS 3); exact rfl; exact rfl; exact (fun _ _ => bs51); exact rfl; (focus (first | (simp only [List.nil_append, List.cons_append, List.set_cons_zero, List.set_cons_succ, iv_set, bv_set, iv_rep, bv_rep]; done) | (simp only [List.nil_append, List.cons_append, List.set_cons_zero, List.set_cons_succ, iv_set, bv_set, iv_rep, bv_rep]; rfl) | rfl))) | ((with_reducible apply Step.build); exact rfl; exact bl87; exact rfl)) | ((with_reducible apply AW.drawT fit (T := (.step 0 (.step 1 (.step 3 (.step 5 (.step 7 (.step 8 (.step 9 (.step 10 (.step 11 (.step 12 (.step 13 (.both (.step 2 (.both (.step 4 (.both (.step 6 (.step 14 (.step 15 (.step 16 (.step 17 (.step 18 .done)))))) (.step 14 (.step 6 (.step 15 (.step 16 (.step 17 (.step 18 .done)))))))) (.both (.step 6 (.both (.step 4 (.step 14 (.step 15 (.step 16 (.step 17 (.step 18 .done)))))) (.step 14 (.step 4 (.step 15 (.step 16 (.step 17 (.step 18 .done)))))))) (.step 14 (.step 4 (.step 6 (.step 15 (.step 16 (.step 17 (.step 18 .done)))))))))) (.both (.step 4 (.both (.step 2 (.both (.step 6 (.step 14 (.step 15 (.step 16 (.step 17 (.step 18 .done)))))) (.step 14 (.step 6 (.step 15 (.step 16 (.step 17 (.step 18 .done)))))))) (.both (.step 6 (.both (.step 2 (.step 14 (.step 15 (.step 16 (.step 17 (.step 18 .done)))))) (.step 14 (.step 2 (.step 15 (.step 16 (.step 17 (.step 18 .done)))))))) (.step 14 (.step 2 (.step 6 (.step 15 (.step 16 (.step 17 (.step 18 .done)))))))))) (.both (.step 6 (.both (.step 2 (.both (.step 4 (.step 14 (.step 15 (.step 16 (.step 17 (.step 18 .done)))))) (.step 14 (.step 4 (.step 15 (.step 16 (.step 17 (.step 18 .done)))))))) (.both (.step 4 (.both (.step 2 (.step 14 (.step 15 (.step 16 (.step 17 (.step 18 .done)))))) (.step 14 (.step 2 (.step 15 (.step 16 (.step 17 (.step 18 .done)))))))) (.step 14 (.step 2 (.step 4 (.step 15 (.step 16 (.step 17 (.step 18 .done)))))))))) (.step 14 (.step 2 (.step 4 (.step 6 (.step 15 (.step 16 (.step 17 (.step 18 .done)))))))))))))))))))))))); (focus (decide +kernel))) | ((with_reducible apply AWt.step); exact rfl) | refine AWt.both ?_ ?_))
          all_goals ((with_reducible apply Step.appG (k := 4)); exact rfl; exact rfl; exact rfl; exact el51; exact un51; exact rfl; exact rfl; exact rfl; exact hcl; exact rfl; exact rfl; exact rfl; (focus (omega)); exact rfl; (focus (first | (simp only [List.nil_append, List.cons_append, List.set_cons_zero, List.set_cons_succ, iv_set, bv_set, iv_rep, bv_rep]; done) | (simp only [List.nil_append, List.cons_append, List.set_cons_zero, List.set_cons_succ, iv_set, bv_set, iv_rep, bv_rep]; rfl) | rfl)))
          all_goals (repeat' (first | ((with_reducible refine Step.id ?_); ((with_reducible apply Step.assign); exact rfl; exact rfl)) | ((with_reducible apply AWt.step); exact rfl) | ((with_reducible apply AWt.done))))
          all_goals exact ⟨rfl, rfl, (by repeat (first | exact trivial | (refine And.intro rfl ?_)))⟩
        intro t' ht'
        refine InBlk.n ?_
        refine Then.n ?_
        refine AW.weak ht' ?_
        (repeat (first | (with_reducible refine AWo.cons ?_) | ((with_reducible refine Step.id ?_); first | ((with_reducible apply Step.move); exact rfl; exact rfl) | ((with_reducible apply Step.add); exact rfl; exact rfl; (focus (omega)); exact rfl)) | (with_reducible refine AWo.nil ?_) | ((with_reducible apply Then.n)) | ((with_reducible apply AW.regL))))
        refine ⟨_, [(3, .slice (some ⟨M.length + 4, 0, none⟩) (k + 1) (k + 1)), (6, v), (7, .int .i64 (j.length : Nat)), (8, .int .i64 (k + 1 : Nat))], ?_, (by repeat (first | exact trivial | (refine And.intro rfl ?_))), k + 1, M ++ [none, some { cells := [.int .i64 x1, .int .i64 x2, .int .i64 x3, .slice (some ⟨wa, so, some sk⟩) 0 0] }, some { cells := [] }, some { cells := [.int .i64 x1, .int .i64 x2, .int .i64 x3, .slice (some ⟨M.length + 2, 0, none⟩) 0 0] }], N ++ [none, some { cells := [.int .i64 x1, .int .i64 x2, .int .i64 x3, .slice (some ⟨wa, so, some sk⟩) 0 0] }, some { cells := [] }, some { cells := [.int .i64 x1, .int .i64 x2, .int .i64 x3, .slice (some ⟨M.length + 2, 0, none⟩) 0 0] }], c ++ [.int .i64 x1, .int .i64 x2, .int .i64 x3, .slice (some ⟨M.length + 2, 0, none⟩) 0 0], rfl, hlt, by omega, by rw [hM, List.append_assoc], snoc _ _ (ints_new (k := 2) rfl rfl 0 rfl), ?_, ?_⟩
        · omega
        · rw [gb_pos (by simp), List.append_assoc]; rfl
        · rw [gv_pos (by omega)]; simp
  · (repeat (first | (with_reducible refine AWo.cons ?_) | ((with_reducible refine Step.id ?_); first | ((with_reducible apply Step.move); exact rfl; exact rfl) | ((with_reducible apply Step.assign); exact rfl; exact rfl) | ((with_reducible apply Step.lss); exact rfl; exact rfl; exact rfl)) | (with_reducible refine AWo.nil ?_) | ((with_reducible apply AW.seq)) | ((with_reducible apply Then.n)) | ((with_reducible apply AW.regL)) | ((with_reducible apply AW.exit)) | ((with_reducible apply InBlk.hit)) | ((with_reducible apply Then.e)) | ((with_reducible apply AW.condF); exact rfl; (focus ((simp only [decide_eq_true_eq, decide_eq_false_iff_not, Bool.not_eq_true', Bool.not_eq_false', Bool.not_true, Bool.not_false]; first | assumption | omega))))))
    (refine AW.ret ?_; (repeat (first | refine Then.r ?_ | refine InBlk.r ?_)))
    exact ⟨_, rfl, N ++ [gb c 4], by rw [hM, List.append_assoc], fin (.inl (by omega))⟩
end Go.Proofs.Ytmomjannlnafcaa.Abs
namespace Go.Proofs.Ytmomjannlnafcaa.Abs
set_option linter.unusedSimpArgs false
set_option linter.unusedVariables false
open Go.RowKit
open Go.Proofs.Ytmomjannlnafcaa.Sim
theorem nodup_le {α : Type} [DecidableEq α] : ∀ (l r : List α), l.Nodup → (∀ x ∈ l, x ∈ r) → l.length ≤ r.length
  | [], r, _, _ => by simp
  | a :: l, r, h, hs => by
    have h1 := List.nodup_cons.1 h
    have ha : a ∈ r := hs a (by simp)
    have := nodup_le l (r.erase a) h1.2 fun x hx => by
      have hne : x ≠ a := fun e => h1.1 (e ▸ hx)
      exact (List.mem_erase_of_ne hne).2 (hs x (by simp [hx]))
    rw [List.length_erase_of_mem ha] at this
    have := List.length_pos_of_mem ha
    simp; omega
theorem mem_upI {n : Nat} {x : Int} : x ∈ upI n ↔ 0 ≤ x ∧ x < n := by
  simp only [upI, List.mem_map, List.mem_range]
  constructor
  · rintro ⟨k, hk, rfl⟩; omega
  · rintro ⟨h1, h2⟩; exact ⟨x.toNat, by omega, by omega⟩
theorem upI_nodup (n : Nat) : (upI n).Nodup := by
  unfold upI
  have := List.nodup_range (n := n)
  exact List.Pairwise.map _ (fun a b h e => h (by omega)) this
theorem upI_sorted (n : Nat) : (upI n).Pairwise (fun x y => decide (x ≤ y) = true) := by
  unfold upI
  exact List.Pairwise.map _ (fun a b h => by simp; omega) (List.pairwise_lt_range (n := n))
/-- A slice is an order of n if and only if it has n elements, each below n, each once. -/
theorem orderB_iff {l : List Int} {n : Nat} : orderB l n = true ↔ l.length = n ∧ (∀ x ∈ l, 0 ≤ x ∧ x < n) ∧ l.Nodup := by
  simp only [orderB, Bool.and_eq_true, decide_eq_true_eq]
  constructor
  · rintro ⟨h1, h2⟩
    have hp : (srt l).Perm l := List.mergeSort_perm l _
    rw [h2] at hp
    exact ⟨h1, fun x hx => mem_upI.1 (hp.mem_iff.2 hx), hp.nodup_iff.1 (upI_nodup n)⟩
  · rintro ⟨h1, h2, h3⟩
    refine ⟨h1, ?_⟩
    have hsub : ∀ x ∈ l, x ∈ upI n := fun x hx => mem_upI.2 (h2 x hx)
    have hsup : ∀ x ∈ upI n, x ∈ l := fun x hx => Classical.byContradiction fun hn => by
      have := nodup_le l ((upI n).erase x) h3 fun y hy => (List.mem_erase_of_ne (fun (e : y = x) => hn (e ▸ hy))).2 (hsub y hy)
      rw [List.length_erase_of_mem hx, upI_len] at this
      have := List.length_pos_of_mem hx
      rw [upI_len] at this
      omega
    have hperm : l.Perm (upI n) := by
      rw [List.perm_iff_count]
      intro a
      rw [h3.count, (upI_nodup n).count]
      by_cases ha : a ∈ l
      · rw [if_pos ha, if_pos (hsub a ha)]
      · rw [if_neg ha, if_neg (fun h => ha (hsup a h))]
    have hps : (srt l).Perm (upI n) := (List.mergeSort_perm l _).trans hperm
    refine hps.eq_of_pairwise (le := fun x y => decide (x ≤ y) = true) (fun a b _ _ h1 h2 => by simp at h1 h2; omega) ?_ (upI_sorted n)
    exact List.pairwise_mergeSort (fun a b c h1 h2 => by simp at h1 h2 ⊢; omega) (fun a b => by simp; omega) l
def nat (l : List Int) : List Nat := l.map Int.toNat
theorem nat_len (l : List Int) : (nat l).length = l.length := by simp [nat]
theorem nat_get {l : List Int} {k : Nat} (h : k < l.length) : (nat l).getD k 0 = (l.getD k 0).toNat := by simp [nat, h]
theorem nat_lt {l : List Int} {n : Nat} (h : orderB l n = true) : ∀ k, k < (nat l).length → (nat l).getD k 0 < n := fun k hk => by
  obtain ⟨_, o2, _⟩ := orderB_iff.1 h
  rw [nat_len] at hk
  rw [nat_get hk]
  have := o2 (l.getD k 0) (by simp [hk])
  omega
end Go.Proofs.Ytmomjannlnafcaa.Abs
namespace Go.Proofs.Ytmomjannlnafcaa.Abs
set_option linter.unusedSimpArgs false
set_option linter.unusedVariables false
open Go.RowKit
open Go.Proofs.Ytmomjannlnafcaa.Sim
open Go.Proofs
/-- Which numbers below n have come up. -/
def metL (l : List Int) (n : Nat) : List Bool := (List.range n).map fun (i : Nat) => decide ((i : Int) ∈ l)
theorem metL_len (l : List Int) (n : Nat) : (metL l n).length = n := by simp [metL]
theorem metL_get {l : List Int} {n i : Nat} (h : i < n) : (metL l n).getD i false = decide ((i : Int) ∈ l) := by simp [metL, h]
theorem metL_set {l : List Int} {n i : Nat} (h : i < n) : (metL l n).set i true = metL (l ++ [(i : Int)]) n := by
  apply List.ext_getElem?
  intro k
  rw [List.getElem?_set]
  by_cases hk : i = k
  · subst hk; simp [metL, h]
  · simp only [if_neg hk, metL, List.getElem?_map]
    by_cases hkn : k < n
    · simp [List.getElem?_range hkn]; omega
    · simp [List.getElem?_eq_none (show (List.range n).length ≤ k by simp; omega)]
set_option maxRecDepth 100000 in
theorem ROrder_ok {m : AM} {v : Value} {l : List Int} (n : Nat) (hl : Ints m v l) (hn : n ≤ 100000) (hlen : l.length ≤ 9223372036854775807) {b : Bool} (hb : orderB l n = b) : ACall Try.prog 55 #[v, .int .i64 (n : Nat)] m (Ret (.bool b) m) := by
  subst hb
  obtain ⟨a, o, h1, h2, h3⟩ := hl
  refine ACall.start Try.func55 rfl rfl ?_
  (repeat (first | (with_reducible refine AWo.cons ?_) | ((with_reducible refine Step.id ?_); first | ((with_reducible apply Step.move); exact rfl; exact rfl) | ((with_reducible apply Step.assign); exact rfl; exact rfl) | ((with_reducible apply Step.len); exact rfl; (focus (assumption)); (focus (decide +kernel)); exact rfl) | ((with_reducible apply Step.make1 0); exact rfl; exact rfl; exact rfl; exact el84; (focus (omega)); exact rfl; (focus (first | (simp only [List.nil_append, List.cons_append, List.set_cons_zero, List.set_cons_succ, iv_set, bv_set, iv_rep, bv_rep]; done) | (simp only [List.nil_append, List.cons_append, List.set_cons_zero, List.set_cons_succ, iv_set, bv_set, iv_rep, bv_rep]; rfl) | rfl)))) | (with_reducible refine AWo.nil ?_) | ((with_reducible apply AW.seq)) | ((with_reducible apply Then.n)) | ((with_reducible apply AW.regL)) | ((with_reducible apply AW.block))))
  refine AW.loopT (fun r t L => ∃ k : Nat, r = l.length - k ∧ k ≤ l.length ∧ (∀ x ∈ l.take k, 0 ≤ x ∧ x < n) ∧ (l.take k).Nodup ∧ L = [some { cells := bv (metL (l.take k) n) }] ∧
    t = [(0, v), (1, .int .i64 (n : Nat)), (5, .slice (some ⟨m.length + 0, 0, none⟩) n n), (10, v), (11, .int .i64 (l.length : Nat)), (12, .int .i64 (k : Nat))]) ⟨_, _, _, (Or.inl ⟨rfl, (by repeat (first | exact trivial | (refine And.intro rfl ?_)))⟩), 0, rfl, Nat.zero_le _, by simp, by simp, by simp [metL, bv, List.map_const'], rfl⟩ ?_
  rintro r t L ⟨k, rfl, hk, hin, hnd, rfl, rfl⟩
  rcases Nat.lt_or_ge k l.length with hlt | hge
  · have ts := take_snoc l k 0 hlt
    have hmem : l.getD k 0 ∈ l := by simp [hlt]
    have r1 := h3 k hlt
    have bad : (¬ (0 ≤ l.getD k 0 ∧ l.getD k 0 < n)) ∨ l.getD k 0 ∈ l.take k → orderB l n = false := fun h => by
      rw [Bool.eq_false_iff]
      intro e
      obtain ⟨o1, o2, o3⟩ := orderB_iff.1 e
      rcases h with h | h
      · exact h (o2 _ hmem)
      · have : (l.take (k + 1)).Nodup := o3.sublist (List.take_sublist _ _)
        rw [ts, List.nodup_append] at this
        exact this.2.2 _ h _ (by simp) rfl
    generalize hx : l.getD k 0 = x at *
    by_cases c1 : x < 0
    · (repeat (first | (with_reducible refine AWo.cons ?_) | ((with_reducible refine Step.id ?_); first | ((with_reducible apply Step.gdF); exact rfl; exact rfl; (focus (first | rfl | (simp only [decide_eq_true_eq, decide_eq_false_iff_not, Bool.not_eq_true', Bool.not_eq_false', Bool.not_true, Bool.not_false]; first | assumption | omega)))) | ((with_reducible apply Step.move); exact rfl; exact rfl) | ((with_reducible apply Step.assign); exact rfl; exact rfl) | ((with_reducible apply Step.load); exact rfl; (focus (decide +kernel)); exact rfl; (focus (exact Rd.old _ (by assumption)))) | ((with_reducible apply Step.ix1); exact rfl; (focus (assumption)); exact rfl; (focus (decide +kernel)); exact rfl; (focus (omega))) | ((with_reducible apply Step.lss); exact rfl; exact rfl; exact rfl) | ((with_reducible apply Step.pickT); exact rfl; exact rfl; exact rfl; exact rfl; (focus (first | rfl | (simp only [decide_eq_true_eq, decide_eq_false_iff_not, Bool.not_eq_true', Bool.not_eq_false', Bool.not_true, Bool.not_false]; first | assumption | omega))))) | (with_reducible refine AWo.nil ?_) | ((with_reducible apply AW.seq)) | ((with_reducible apply Then.n)) | ((with_reducible apply AW.regL)) | ((with_reducible apply AW.block)) | ((with_reducible apply AW.skip)) | ((with_reducible apply AW.condT); exact rfl; (focus (first | rfl | (simp only [decide_eq_true_eq, decide_eq_false_iff_not, Bool.not_eq_true', Bool.not_eq_false', Bool.not_true, Bool.not_false]; first | assumption | omega))))))
      (refine AW.retD (l := [(4, _)]) (by repeat (first | exact trivial | (refine And.intro ⟨rfl, by (exact .bool _)⟩ ?_))) ?_; (repeat (first | refine Then.r ?_ | refine InBlk.r ?_)))
      exact ⟨_, rfl, by rw [bad (.inl (by omega))], rfl⟩
    · by_cases c2 : (n : Int) ≤ x
      · (repeat (first | (with_reducible refine AWo.cons ?_) | ((with_reducible refine Step.id ?_); first | ((with_reducible apply Step.gdT); exact rfl; exact rfl; (focus ((simp only [decide_eq_true_eq, decide_eq_false_iff_not, Bool.not_eq_true', Bool.not_eq_false', Bool.not_true, Bool.not_false]; first | assumption | omega)))) | ((with_reducible apply Step.gdF); exact rfl; exact rfl; (focus ((simp only [decide_eq_true_eq, decide_eq_false_iff_not, Bool.not_eq_true', Bool.not_eq_false', Bool.not_true, Bool.not_false]; first | assumption | omega)))) | ((with_reducible apply Step.move); exact rfl; exact rfl) | ((with_reducible apply Step.assign); exact rfl; exact rfl) | ((with_reducible apply Step.load); exact rfl; (focus (decide +kernel)); exact rfl; (focus (exact Rd.old _ (by assumption)))) | ((with_reducible apply Step.ix1); exact rfl; (focus (assumption)); exact rfl; (focus (decide +kernel)); exact rfl; (focus (omega))) | ((with_reducible apply Step.lss); exact rfl; exact rfl; exact rfl) | ((with_reducible apply Step.geq); exact rfl; exact rfl; exact rfl) | ((with_reducible apply Step.pickT); exact rfl; exact rfl; exact rfl; exact rfl; (focus ((simp only [decide_eq_true_eq, decide_eq_false_iff_not, Bool.not_eq_true', Bool.not_eq_false', Bool.not_true, Bool.not_false]; first | assumption | omega)))) | ((with_reducible apply Step.pickF); exact rfl; exact rfl; exact rfl; exact rfl; (focus ((simp only [decide_eq_true_eq, decide_eq_false_iff_not, Bool.not_eq_true', Bool.not_eq_false', Bool.not_true, Bool.not_false]; first | assumption | omega))))) | (with_reducible refine AWo.nil ?_) | ((with_reducible apply AW.seq)) | ((with_reducible apply Then.n)) | ((with_reducible apply AW.regL)) | ((with_reducible apply AW.block)) | ((with_reducible apply AW.skip)) | ((with_reducible apply AW.condT); exact rfl; (focus (first | rfl | (simp only [decide_eq_true_eq, decide_eq_false_iff_not, Bool.not_eq_true', Bool.not_eq_false', Bool.not_true, Bool.not_false]; first | assumption | omega))))))
        (refine AW.retD (l := [(4, _)]) (by repeat (first | exact trivial | (refine And.intro ⟨rfl, by (exact .bool _)⟩ ?_))) ?_; (repeat (first | refine Then.r ?_ | refine InBlk.r ?_)))
        exact ⟨_, rfl, by rw [bad (.inl (by omega))], rfl⟩
      · obtain ⟨i, rfl⟩ : ∃ i : Nat, x = (i : Int) := ⟨x.toNat, by omega⟩
        have hi : i < n := by omega
        have hg := bv_get (l := metL (l.take k) n) (k := i) (by rw [metL_len]; exact hi)
        rw [metL_get hi] at hg
        by_cases c3 : (i : Int) ∈ l.take k
        · rw [decide_eq_true c3] at hg
          (repeat (first | (with_reducible refine AWo.cons ?_) | ((with_reducible refine Step.id ?_); first | ((with_reducible apply Step.gdT); exact rfl; exact rfl; (focus (first | rfl | (simp only [decide_eq_true_eq, decide_eq_false_iff_not, Bool.not_eq_true', Bool.not_eq_false', Bool.not_true, Bool.not_false]; first | assumption | omega)))) | ((with_reducible apply Step.move); exact rfl; exact rfl) | ((with_reducible apply Step.assign); exact rfl; exact rfl) | ((with_reducible apply Step.load); exact rfl; (focus (decide +kernel)); exact rfl; (focus (first | exact Rd.new rfl hg | exact Rd.old _ (by assumption)))) | ((with_reducible apply Step.ix1z); exact rfl; (focus (exact Sl.mk (by omega))); exact rfl; (focus (decide +kernel)); exact rfl; (focus (omega))) | ((with_reducible apply Step.ix1); exact rfl; (focus (assumption)); exact rfl; (focus (decide +kernel)); exact rfl; (focus (omega))) | ((with_reducible apply Step.lss); exact rfl; exact rfl; exact rfl) | ((with_reducible apply Step.geq); exact rfl; exact rfl; exact rfl) | ((with_reducible apply Step.pickF); exact rfl; exact rfl; exact rfl; exact rfl; (focus (first | rfl | (simp only [decide_eq_true_eq, decide_eq_false_iff_not, Bool.not_eq_true', Bool.not_eq_false', Bool.not_true, Bool.not_false]; first | assumption | omega))))) | (with_reducible refine AWo.nil ?_) | ((with_reducible apply AW.seq)) | ((with_reducible apply Then.n)) | ((with_reducible apply AW.regL)) | ((with_reducible apply AW.block)) | ((with_reducible apply AW.skip)) | ((with_reducible apply AW.condT); exact rfl; (focus (first | rfl | (simp only [decide_eq_true_eq, decide_eq_false_iff_not, Bool.not_eq_true', Bool.not_eq_false', Bool.not_true, Bool.not_false]; first | assumption | omega))))))
          (refine AW.retD (l := [(4, _)]) (by repeat (first | exact trivial | (refine And.intro ⟨rfl, by (exact .bool _)⟩ ?_))) ?_; (repeat (first | refine Then.r ?_ | refine InBlk.r ?_)))
          exact ⟨_, rfl, by rw [bad (.inr c3)], rfl⟩
        · rw [decide_eq_false c3] at hg
          have hs := metL_set (l := l.take k) hi
          (repeat (first | (with_reducible refine AWo.cons ?_) | ((with_reducible refine Step.id ?_); first | ((with_reducible apply Step.gdT); exact rfl; exact rfl; (focus (first | rfl | (simp only [decide_eq_true_eq, decide_eq_false_iff_not, Bool.not_eq_true', Bool.not_eq_false', Bool.not_true, Bool.not_false]; first | assumption | omega)))) | ((with_reducible apply Step.move); exact rfl; exact rfl) | ((with_reducible apply Step.assign); exact rfl; exact rfl) | ((with_reducible apply Step.load); exact rfl; (focus (decide +kernel)); exact rfl; (focus (first | exact Rd.new rfl hg | exact Rd.old _ (by assumption)))) | ((with_reducible apply Step.ix1z); exact rfl; (focus (exact Sl.mk (by omega))); exact rfl; (focus (decide +kernel)); exact rfl; (focus (omega))) | ((with_reducible apply Step.ix1); exact rfl; (focus (assumption)); exact rfl; (focus (decide +kernel)); exact rfl; (focus (omega))) | ((with_reducible apply Step.lss); exact rfl; exact rfl; exact rfl) | ((with_reducible apply Step.geq); exact rfl; exact rfl; exact rfl) | ((with_reducible apply Step.pickF); exact rfl; exact rfl; exact rfl; exact rfl; (focus (first | rfl | (simp only [decide_eq_true_eq, decide_eq_false_iff_not, Bool.not_eq_true', Bool.not_eq_false', Bool.not_true, Bool.not_false]; first | assumption | omega))))) | (with_reducible refine AWo.nil ?_) | ((with_reducible apply AW.seq)) | ((with_reducible apply Then.n)) | ((with_reducible apply AW.regL)) | ((with_reducible apply AW.block)) | ((with_reducible apply AW.skip)) | ((with_reducible apply AW.condT); exact rfl; (focus ((simp only [decide_eq_true_eq, decide_eq_false_iff_not, Bool.not_eq_true', Bool.not_eq_false', Bool.not_true, Bool.not_false]; first | assumption | omega)))) | ((with_reducible apply AW.condF); exact rfl; (focus (rfl)))))
          ((with_reducible apply Step.store (k := 0)); exact rfl; exact rfl; exact rfl; exact rfl; (focus (decide +kernel)); exact rfl; exact rfl; (focus (simp [bv, metL]; omega)); (focus (first | (simp only [List.nil_append, List.cons_append, List.set_cons_zero, List.set_cons_succ, iv_set, bv_set, iv_rep, bv_rep]; done) | (simp only [List.nil_append, List.cons_append, List.set_cons_zero, List.set_cons_succ, iv_set, bv_set, iv_rep, bv_rep]; rfl) | rfl)))
          (repeat (first | (with_reducible refine AWo.cons ?_) | ((with_reducible refine Step.id ?_); first | ((with_reducible apply Step.move); exact rfl; exact rfl) | ((with_reducible apply Step.add); exact rfl; exact rfl; (focus (omega)); exact rfl)) | (with_reducible refine AWo.nil ?_) | ((with_reducible apply Then.n)) | ((with_reducible apply AW.regL)) | ((with_reducible apply InBlk.n))))
          exact ⟨_, _, _, by omega, (Or.inl ⟨rfl, (by repeat (first | exact trivial | (refine And.intro rfl ?_)))⟩), k + 1, rfl, by omega, by rw [ts]; intro y hy; rcases List.mem_append.1 hy with h | h; exact hin y h; simp at h; subst h; omega, by rw [ts, List.nodup_append]; exact ⟨hnd, by simp, fun a ha b hb => by simp at hb; subst hb; exact fun e => c3 (e ▸ ha)⟩, by rw [hs, ← ts], rfl⟩
  · (repeat (first | (with_reducible refine AWo.cons ?_) | ((with_reducible refine Step.id ?_); first | ((with_reducible apply Step.move); exact rfl; exact rfl) | ((with_reducible apply Step.assign); exact rfl; exact rfl) | ((with_reducible apply Step.lss); exact rfl; exact rfl; exact rfl) | ((with_reducible apply Step.eql); exact rfl; exact rfl; exact rfl) | ((with_reducible apply Step.len); exact rfl; (focus (assumption)); (focus (decide +kernel)); exact rfl)) | (with_reducible refine AWo.nil ?_) | ((with_reducible apply AW.seq)) | ((with_reducible apply Then.n)) | ((with_reducible apply AW.regL)) | ((with_reducible apply AW.exit)) | ((with_reducible apply InBlk.hit)) | ((with_reducible apply Then.e)) | ((with_reducible apply AW.condF); exact rfl; (focus ((simp only [decide_eq_true_eq, decide_eq_false_iff_not, Bool.not_eq_true', Bool.not_eq_false', Bool.not_true, Bool.not_false]; first | assumption | omega))))))
    (refine AW.retD (l := [(4, _)]) (by repeat (first | exact trivial | (refine And.intro ⟨rfl, by (exact .bool _)⟩ ?_))) ?_; (repeat (first | refine Then.r ?_ | refine InBlk.r ?_)))
    rw [List.take_of_length_le hge] at hin hnd
    refine ⟨_, rfl, ?_, rfl⟩
    by_cases hn' : l.length = n
    · rw [orderB_iff.2 ⟨hn', hin, hnd⟩, decide_eq_true (by omega)]
    · have : orderB l n = false := by rw [Bool.eq_false_iff]; exact fun e => hn' (orderB_iff.1 e).1
      rw [this, decide_eq_false (by omega)]
end Go.Proofs.Ytmomjannlnafcaa.Abs
namespace Go.Proofs.Ytmomjannlnafcaa.Abs
set_option linter.unusedSimpArgs false
set_option linter.unusedVariables false
open Go.RowKit
open Go.Proofs.Ytmomjannlnafcaa.Sim
open Go.ChangeShapes Go.WideShapes Go.Deep
/-- An argument with the cells that it shows. -/
abbrev AR := Value × List Value
def mkP : AR → Option Sim.Place
  | (.slice (some a) n cap, _) => some ⟨a.block, a.off, cap - n⟩
  | _ => none
section
variable {H : Type} {enc : TypeId × Value → H} {P : Program} {w : World} {base : Nat} {spare : Nat → Bool} {held : Bool}
theorem ok_slice {r : Reach} {b0 : Nat} {T e : TypeId} {a : Option Addr} {n c : Nat} (ht : P.underlying T = some (.slice e)) (h : Value.okWide P w r b0 T (.slice a n c)) : (a = none ∧ n = 0 ∧ c = 0) ∨ ∃ b o, a = some ⟨b, o, none⟩ ∧ n ≤ c ∧ b < w.heap.size := by
  simp only [Value.okWide, ht, Cell.okWide, Cell.ok] at h
  cases a with
  | none =>
    cases n <;> cases c <;> simp_all
  | some x =>
    obtain ⟨h1, _, h3⟩ := h
    obtain ⟨_, hs, row, cells, hsh, _⟩ := h3
    obtain ⟨b, o, s⟩ := x
    simp only at hs
    subst hs
    refine .inr ⟨b, o, rfl, h1, ?_⟩
    simp only [World.shape?] at hsh
    rcases Nat.lt_or_ge b w.heap.size with hlt | hge
    · exact hlt
    · rw [Array.getElem?_eq_none hge] at hsh; cases hsh
theorem open_slice_fields {t e : TypeId} {fs : Array Field} {fuel : Nat} {cs : List Value} {x : DataW H × List MemPlace} (ht : P.underlying t = some (.slice e)) (he : P.underlying e = some (.struct fs))
    (hone : oneCellFields P fs = true) (hC : P.cellsOf e = fs.size) (h : DataW.trod enc P w base spare held fuel t cs = some x) :
    (cs = [.slice none 0 0] ∧ x = (.nil, [])) ∨
    ∃ (a : Addr) (len cap m : Nat) (D : Nat → DataW H) (Pl : Nat → List MemPlace), cs = [.slice (some a) len cap] ∧ base ≤ a.block ∧ len ≤ cap ∧ cap ≤ maxLen ∧ m = (if spare a.block then cap else len) ∧
      x = (.slice ((List.range len).map D) ((List.range (m - len)).map fun j => D (len + j)), MemPlace.row a (m * fs.size) ++ (List.range m).flatMap Pl) ∧
      ∀ i, i < m → ∃ (ys : List (DataW H × List MemPlace)) (n : Nat), D i = .agg (ys.map (·.1)) ∧ Pl i = ys.flatMap (·.2) ∧ ys.length = fs.size ∧
        ∀ (j : Nat) (f : Field), fs[j]? = some f → ∃ (v : Value) (y : DataW H × List MemPlace), w.cell? (a.add (i * fs.size + j)) = some v ∧ ys[j]? = some y ∧ DataW.trod enc P w base spare held n f.type [v] = some y := by
  rcases open_slice ht h with h0 | ⟨a, len, cap, m, n, D, Pl, hcs, hb, hl, hm, hmm, hx, hi⟩
  · exact .inl h0
  · refine .inr ⟨a, len, cap, m, D, Pl, hcs, hb, hl, hm, hmm, by rw [hC] at hx; exact hx, fun i him => ?_⟩
    obtain ⟨cs', hc, ht'⟩ := hi i him
    rw [hC] at hc
    obtain ⟨ys, n', hn', hy, hlen, hyl, hf⟩ := DataW.trod_struct he ht'
    obtain ⟨_, hcl, hat⟩ := World.cells?_some hc
    simp only [Prod.mk.injEq] at hy
    refine ⟨ys, n', hy.1, hy.2, hyl, fun j f hj => ?_⟩
    obtain ⟨ho, hk⟩ := hone_of hone j f hj
    have hjl : j < fs.size := (Array.getElem?_eq_some_iff.1 hj).1
    have hcell := hat j hjl
    have hv : cs'[j]? = some (cs'[j]'(by omega)) := List.getElem?_eq_getElem (by omega)
    have h1 := hf j f hj
    rw [ho, hk] at h1
    have hone' : (cs'.drop j).take 1 = [cs'[j]'(by omega)] := by
      rw [List.drop_eq_getElem_cons (by omega)]
      rfl
    rw [hone'] at h1
    have hys : ys[j]? = some (ys[j]'(by omega)) := List.getElem?_eq_getElem (by omega)
    refine ⟨_, _, ?_, hys, h1.trans hys⟩
    rw [← Go.Deep.add_add, hcell, hv]
end
end Go.Proofs.Ytmomjannlnafcaa.Abs
namespace Go.Proofs.Ytmomjannlnafcaa.Abs
set_option linter.unusedSimpArgs false
set_option linter.unusedVariables false
open Go.RowKit
open Go.Proofs.Ytmomjannlnafcaa.Sim
open Go.Proofs
theorem awake_ok {m : AM} : ACall Try.prog 24 #[] m (Ret (.bool true) m) :=
  (ACall.of_calls (by kernel_rfl) (by kernel_rfl) fun w => closed_call fit (n := 400) (by kernel_rfl) (by kernel_rfl) (by kernel_rfl) w).mono fun _ _ ⟨a, b⟩ => ⟨a.symm, b.symm⟩
end Go.Proofs.Ytmomjannlnafcaa.Abs
namespace Go.Proofs.Ytmomjannlnafcaa.Abs
set_option linter.unusedSimpArgs false
set_option linter.unusedVariables false
open Go.RowKit
open Go.Proofs.Ytmomjannlnafcaa.Sim
open Go.Proofs
theorem getDs (l : List Int) (i k : Nat) (x : Int) (h : i < l.length) : (l.set i x).getD k 0 = if i = k then x else l.getD k 0 := by
  simp only [List.getD_eq_getElem?_getD, List.getElem?_set]
  by_cases e : i = k
  · subst e; simp [h]
  · simp [e]
/-- Place q of an order is right: all of its job's After come before it. -/
def alOk (j : List Job) (P : List Nat) (q : Nat) : Bool := (aft j (P.getD q 0)).all fun a => decide (a.toNat ∈ P.take q)
def allowB (j : List Job) (P : List Nat) : Bool := (List.range P.length).all (alOk j P)
theorem allowB_not {j : List Job} {P : List Nat} {q : Nat} (hq : q < P.length) (h : alOk j P q = false) : allowB j P = false := by
  unfold allowB
  rw [List.all_eq_false]
  exact ⟨q, by simpa using hq, by rw [h]; exact Bool.false_ne_true⟩
theorem allowB_of {j : List Job} {P : List Nat} (h : ∀ q, q < P.length → alOk j P q = true) : allowB j P = true := by
  unfold allowB
  rw [List.all_eq_true]
  intro q hq
  exact h q (by simpa using hq)
def allowedB (j : List Job) (l : List Int) : Bool := orderB l j.length && allowB j (nat l)
theorem mem_getD {l : List Int} {k : Nat} (h : k < l.length) : l.getD k 0 ∈ l := by
  rw [List.getD_eq_getElem?_getD, List.getElem?_eq_getElem h]; exact List.getElem_mem h
end Go.Proofs.Ytmomjannlnafcaa.Abs
namespace Go.Proofs.Ytmomjannlnafcaa.Abs
set_option linter.unusedSimpArgs false
set_option linter.unusedVariables false
structure Topo (j : List Job) (P : List Nat) : Prop where
  nd : P.Nodup
  lt : ∀ x ∈ P, x < j.length
  al : ∀ q, q < P.length → alOk j P q = true
theorem take_left' {P Q : List Nat} {q : Nat} (h : q ≤ P.length) : (P ++ Q).take q = P.take q := by
  rw [List.take_append_of_le_length h]
theorem sortF_topo {j : List Job} : ∀ (f : Nat) (P : List Nat), Topo j P → Topo j (sortF j f P)
  | 0, P, h => h
  | f + 1, P, h => by
    rw [sortF]
    split
    · exact h
    · rename_i i hi
      obtain ⟨h1, h2, _⟩ := List.find?_range_eq_some.1 hi
      simp only [readyJ, Bool.and_eq_true, decide_eq_true_eq] at h1
      refine sortF_topo f _ ⟨?_, ?_, fun q hq => ?_⟩
      · rw [List.nodup_append]
        exact ⟨h.nd, by simp, fun a ha b hb => by simp at hb; subst hb; exact fun e => h1.1 (e ▸ ha)⟩
      · intro x hx
        rcases List.mem_append.1 hx with hx | hx
        · exact h.lt x hx
        · simp at hx; subst hx; simpa using h2
      · simp only [List.length_append, List.length_singleton] at hq
        rcases Nat.lt_succ_iff_lt_or_eq.1 hq with hq | hq
        · have := h.al q hq
          unfold alOk at this ⊢
          rw [take_left' (by omega)]
          have e : (P ++ [i]).getD q 0 = P.getD q 0 := by simp [List.getElem?_append_left hq]
          rwa [e]
        · subst hq
          unfold alOk
          rw [take_left' (Nat.le_refl _), List.take_length]
          have e : (P ++ [i]).getD P.length 0 = i := by simp
          rw [e]; exact h1.2
theorem sortL_topo (j : List Job) : Topo j (sortL j) := sortF_topo _ _ ⟨by simp, by simp, fun q hq => by simp at hq⟩
theorem Topo.order {j : List Job} {P : List Nat} (h : Topo j P) (hn : P.length = j.length) : orderB (nv P) j.length = true := by
  rw [orderB_iff]
  refine ⟨by rw [nv_len, hn], fun x hx => ?_, ?_⟩
  · obtain ⟨y, hy, rfl⟩ := List.mem_map.1 hx
    have := h.lt y hy
    omega
  · unfold nv
    exact List.Pairwise.map _ (fun a b hab e => hab (by omega)) h.nd
theorem Topo.all {j : List Job} {P : List Nat} (h : Topo j P) (hn : P.length = j.length) {i : Nat} (hi : i < j.length) : i ∈ P := by
  have ho := h.order hn
  simp only [orderB, Bool.and_eq_true, decide_eq_true_eq] at ho
  have : (i : Int) ∈ srt (nv P) := by rw [ho.2]; unfold upI; exact List.mem_map.2 ⟨i, by simpa using hi, rfl⟩
  unfold srt at this
  rw [List.mem_mergeSort] at this
  obtain ⟨y, hy, e⟩ := List.mem_map.1 this
  have : y = i := by omega
  exact this ▸ hy
end Go.Proofs.Ytmomjannlnafcaa.Abs
namespace Go.Proofs.Ytmomjannlnafcaa.Abs
set_option linter.unusedSimpArgs false
set_option linter.unusedVariables false
theorem gD {α : Type} {l : List α} {k : Nat} {d : α} (h : k < l.length) : l.getD k d = l[k] := by rw [List.getD_eq_getElem?_getD, List.getElem?_eq_getElem h, Option.getD_some]
/-- The greatest value among the first s of an After, and c. -/
def eaI (row : List Int) (i : Nat) (l : List Int) : Nat → List Int
  | 0 => row
  | s + 1 => (eaI row i l s).set i (max ((eaI row i l s).getD i 0) ((eaI row i l s).getD (l.getD s 0).toNat 0))
def eaR (j : List Job) (P : List Nat) : Nat → List Int
  | 0 => List.replicate j.length 0
  | q + 1 => (eaI (eaR j P q) (P.getD q 0) (aft j (P.getD q 0)) (aft j (P.getD q 0)).length).set (P.getD q 0) ((eaI (eaR j P q) (P.getD q 0) (aft j (P.getD q 0)) (aft j (P.getD q 0)).length).getD (P.getD q 0) 0 + tmJ j (P.getD q 0))
theorem eaI_len (row : List Int) (i : Nat) (l : List Int) : ∀ s, (eaI row i l s).length = row.length
  | 0 => rfl
  | s + 1 => by simp [eaI, eaI_len row i l s]
theorem eaR_len (j : List Job) (P : List Nat) : ∀ q, (eaR j P q).length = j.length
  | 0 => by simp [eaR]
  | q + 1 => by simp [eaR, eaI_len, eaR_len j P q]
theorem eaI_ne {row : List Int} {i : Nat} {l : List Int} {k : Nat} (h : k ≠ i) : ∀ s, (eaI row i l s).getD k 0 = row.getD k 0
  | 0 => rfl
  | s + 1 => by
    have ih := eaI_ne (row := row) (l := l) h s
    rw [eaI, ← ih]
    simp only [List.getD_eq_getElem?_getD]
    rw [List.getElem?_set_ne (Ne.symm h)]
/-- What stands at i: at least what stood, at least each of them, and one of these. -/
theorem eaI_at {row : List Int} {i : Nat} {l : List Int} (hi : i < row.length) : ∀ s, s ≤ l.length →
    row.getD i 0 ≤ (eaI row i l s).getD i 0 ∧ (∀ q, q < s → (l.getD q 0).toNat ≠ i → row.getD (l.getD q 0).toNat 0 ≤ (eaI row i l s).getD i 0) ∧
      ((eaI row i l s).getD i 0 = row.getD i 0 ∨ ∃ q, q < s ∧ (eaI row i l s).getD i 0 = row.getD (l.getD q 0).toNat 0)
  | 0, _ => ⟨Int.le_refl _, fun q hq => absurd hq (by omega), .inl rfl⟩
  | s + 1, hs => by
    obtain ⟨h1, h2, h3⟩ := eaI_at (l := l) hi s (by omega)
    have e : (eaI row i l (s + 1)).getD i 0 = max ((eaI row i l s).getD i 0) ((eaI row i l s).getD (l.getD s 0).toNat 0) := by
      rw [eaI, getDs _ _ _ _ (by rw [eaI_len]; exact hi), if_pos rfl]
    by_cases hk : (l.getD s 0).toNat = i
    · have e2 : (eaI row i l (s + 1)).getD i 0 = (eaI row i l s).getD i 0 := by rw [e, hk]; omega
      rw [e2]
      refine ⟨h1, fun q hq hne => ?_, h3.imp id fun ⟨q, hq, x⟩ => ⟨q, by omega, x⟩⟩
      rcases Nat.lt_succ_iff_lt_or_eq.1 hq with hq | rfl
      · exact h2 q hq hne
      · exact absurd hk hne
    · rw [eaI_ne hk s] at e
      rw [e]
      refine ⟨by omega, fun q hq hne => ?_, ?_⟩
      · rcases Nat.lt_succ_iff_lt_or_eq.1 hq with hq | rfl
        · have := h2 q hq hne
          omega
        · omega
      · by_cases hc : (eaI row i l s).getD i 0 ≤ row.getD (l.getD s 0).toNat 0
        · exact .inr ⟨s, by omega, by omega⟩
        · rcases h3 with h3 | ⟨q, hq, h3⟩
          · exact .inl (by omega)
          · exact .inr ⟨q, by omega, by omega⟩
structure IsEarly (j : List Job) (f : Nat → Int) : Prop where
  lo : ∀ i, i < j.length → tmJ j i ≤ f i
  af : ∀ i, i < j.length → ∀ a ∈ aft j i, f a.toNat + tmJ j i ≤ f i
  at_ : ∀ i, i < j.length → f i = tmJ j i ∨ ∃ a ∈ aft j i, f i = f a.toNat + tmJ j i
structure IsLate (j : List Job) (last : Int) (f : Nat → Int) : Prop where
  hi : ∀ i, i < j.length → f i ≤ last
  af : ∀ i, i < j.length → ∀ k, k < j.length → (i : Int) ∈ aft j k → f i ≤ f k - tmJ j k
  at_ : ∀ i, i < j.length → f i = last ∨ ∃ k, k < j.length ∧ (i : Int) ∈ aft j k ∧ f i = f k - tmJ j k
section
variable {j : List Job} {P : List Nat}
theorem Topo.in_ (h : Topo j P) {q : Nat} (hq : q < P.length) : P.getD q 0 < j.length := h.lt _ (by rw [List.getD_eq_getElem?_getD, List.getElem?_eq_getElem hq]; exact List.getElem_mem hq)
theorem Topo.pos (h : Topo j P) (hn : P.length = j.length) {i : Nat} (hi : i < j.length) : ∃ q, q < P.length ∧ P.getD q 0 = i := by
  have key : ∀ (n : Nat) (P : List Nat), P.Nodup → (∀ x ∈ P, x < n) → P.length = n → ∀ i, i < n → i ∈ P := by
    intro n
    induction n with
    | zero => intro P _ _ _ i hi; omega
    | succ n ih =>
      intro P nd lt hl i hi
      have hmem : n ∈ P := by
        refine Classical.byContradiction fun hne => ?_
        have hlt : ∀ x ∈ P, x < n := fun x hx => by
          have := lt x hx
          have : x ≠ n := fun e => hne (e ▸ hx)
          omega
        cases P with
        | nil => simp at hl
        | cons p P =>
          have h1 := ih P (List.nodup_cons.1 nd).2 (fun x hx => hlt x (by simp [hx])) (by simpa using hl)
          exact (List.nodup_cons.1 nd).1 (h1 p (hlt p (by simp)))
      by_cases e : i = n
      · rw [e]; exact hmem
      · have h1 := ih (P.erase n) (nd.erase n) (fun x hx => by
          have h2 := lt x (List.mem_of_mem_erase hx)
          have h3 : x ≠ n := fun e => by
            subst e
            exact (List.Nodup.not_mem_erase nd) hx
          omega) (by rw [List.length_erase_of_mem hmem]; omega) i (by omega)
        exact List.mem_of_mem_erase h1
  have := key j.length P h.nd h.lt hn i hi
  obtain ⟨q, hq, e⟩ := List.getElem_of_mem this
  exact ⟨q, hq, by simp [hq, e]⟩
theorem Topo.inj (h : Topo j P) {q r : Nat} (hq : q < P.length) (hr : r < P.length) (e : P.getD q 0 = P.getD r 0) : q = r := by
  have e' : P[q] = P[r] := by simpa [hq, hr] using e
  exact (List.getElem_inj h.nd).1 e'
theorem Topo.bef (h : Topo j P) {q : Nat} (hq : q < P.length) {a : Int} (ha : a ∈ aft j (P.getD q 0)) : ∃ r, r < q ∧ P.getD r 0 = a.toNat := by
  have := List.all_eq_true.1 (h.al q hq) a ha
  have hm : a.toNat ∈ P.take q := by simpa using this
  obtain ⟨r, hr, e⟩ := List.getElem_of_mem hm
  rw [List.length_take] at hr
  refine ⟨r, by omega, ?_⟩
  rw [List.getElem_take] at e
  simp [show r < P.length by omega, e]
theorem Topo.self (h : Topo j P) (hn : P.length = j.length) {i : Nat} (hi : i < j.length) {a : Int} (ha : a ∈ aft j i) : a.toNat ≠ i := by
  obtain ⟨q, hq, rfl⟩ := h.pos hn hi
  obtain ⟨r, hr, e⟩ := h.bef hq ha
  intro x
  have := h.inj (show r < P.length by omega) hq (by rw [e, x])
  omega
theorem Topo.dni (h : Topo j P) (hn : P.length = j.length) {p : Nat → Prop} (hp : ∀ q, q < P.length → (∀ r, q < r → r < P.length → p (P.getD r 0)) → p (P.getD q 0)) : ∀ i, i < j.length → p i := by
  have key : ∀ d q, q < P.length → P.length - q = d → p (P.getD q 0) := by
    intro d
    induction d using Nat.strongRecOn with
    | _ d ih => intro q hq hd; exact hp q hq fun r hr hr2 => ih (P.length - r) (by omega) r hr2 rfl
  intro i hi
  obtain ⟨q, hq, rfl⟩ := h.pos hn hi
  exact key _ q hq rfl
theorem eaR_keep (h : Topo j P) {q : Nat} {r : Nat} (hr : r < P.length) : ∀ d, q + d ≤ P.length → (∀ s, q ≤ s → s < q + d → s ≠ r) → (eaR j P (q + d)).getD (P.getD r 0) 0 = (eaR j P q).getD (P.getD r 0) 0
  | 0, _, _ => rfl
  | d + 1, hd, hs => by
    have ih := eaR_keep h hr d (by omega) (fun s h1 h2 => hs s h1 (by omega))
    have hne : P.getD (q + d) 0 ≠ P.getD r 0 := fun e => hs (q + d) (by omega) (by omega) (h.inj (by omega) hr e)
    rw [← ih, ← Nat.add_assoc, eaR]
    rw [getDs _ _ _ _ (by rw [eaI_len, eaR_len]; exact h.in_ (by omega)), if_neg hne, eaI_ne (Ne.symm hne)]
theorem eaR_zero (h : Topo j P) {q : Nat} (hq : q < P.length) : (eaR j P q).getD (P.getD q 0) 0 = 0 := by
  have := eaR_keep h (q := 0) hq q (by omega) (fun s _ hs => by omega)
  rw [Nat.zero_add] at this
  rw [this]
  have := h.in_ hq
  rw [eaR, gD (by simpa using this), List.getElem_replicate]
theorem eaR_early (h : Topo j P) (hn : P.length = j.length) (hJ : JOk j) : IsEarly j (fun i => (eaR j P P.length).getD i 0) := by
  -- the value at a place, once it is made
  have made : ∀ q, q < P.length → (eaR j P P.length).getD (P.getD q 0) 0 = (eaR j P (q + 1)).getD (P.getD q 0) 0 := fun q hq => by
    have := eaR_keep h (q := q + 1) hq (P.length - (q + 1)) (by omega) (fun s h1 h2 => by omega)
    rwa [show q + 1 + (P.length - (q + 1)) = P.length by omega] at this
  have before : ∀ q r, r < q → q < P.length → (eaR j P q).getD (P.getD r 0) 0 = (eaR j P P.length).getD (P.getD r 0) 0 := fun q r hr hq => by
    have := eaR_keep h (q := q) (r := r) (by omega) (P.length - q) (by omega) (fun s h1 h2 => by omega)
    rw [show q + (P.length - q) = P.length by omega] at this
    exact this.symm
  have key : ∀ q, q < P.length → tmJ j (P.getD q 0) ≤ (eaR j P P.length).getD (P.getD q 0) 0 ∧ (∀ a ∈ aft j (P.getD q 0), (eaR j P P.length).getD a.toNat 0 + tmJ j (P.getD q 0) ≤ (eaR j P P.length).getD (P.getD q 0) 0) ∧
      ((eaR j P P.length).getD (P.getD q 0) 0 = tmJ j (P.getD q 0) ∨ ∃ a ∈ aft j (P.getD q 0), (eaR j P P.length).getD (P.getD q 0) 0 = (eaR j P P.length).getD a.toNat 0 + tmJ j (P.getD q 0)) := by
    intro q hq
    have hi := h.in_ hq
    have hz := eaR_zero h hq
    obtain ⟨e1, e2, e3⟩ := eaI_at (row := eaR j P q) (i := P.getD q 0) (l := aft j (P.getD q 0)) (by rw [eaR_len]; exact hi) _ (Nat.le_refl _)
    have em : (eaR j P P.length).getD (P.getD q 0) 0 = (eaI (eaR j P q) (P.getD q 0) (aft j (P.getD q 0)) (aft j (P.getD q 0)).length).getD (P.getD q 0) 0 + tmJ j (P.getD q 0) := by
      rw [made q hq, eaR, getDs _ _ _ _ (by rw [eaI_len, eaR_len]; exact hi), if_pos rfl]
    have val : ∀ a ∈ aft j (P.getD q 0), (eaR j P q).getD a.toNat 0 = (eaR j P P.length).getD a.toNat 0 := fun a ha => by
      obtain ⟨r, hr, e⟩ := h.bef hq ha
      rw [← e]
      exact before q r hr hq
    rw [em]
    rw [hz] at e1 e3
    refine ⟨by omega, fun a ha => ?_, ?_⟩
    · obtain ⟨s, hs, rfl⟩ := List.getElem_of_mem ha
      have h2 := e2 s hs (by
        have := h.self hn hi (List.getElem_mem hs)
        rwa [gD hs])
      have h3 := val _ (List.getElem_mem hs)
      rw [gD hs] at h2
      omega
    · rcases e3 with e3 | ⟨s, hs, e3⟩
      · exact .inl (by omega)
      · refine .inr ⟨(aft j (P.getD q 0))[s], List.getElem_mem hs, ?_⟩
        have h3 := val _ (List.getElem_mem hs)
        rw [gD hs] at e3
        omega
  refine ⟨fun i hi => ?_, fun i hi => ?_, fun i hi => ?_⟩
  all_goals obtain ⟨q, hq, rfl⟩ := h.pos hn hi
  · exact (key q hq).1
  · exact (key q hq).2.1
  · exact (key q hq).2.2
end
end Go.Proofs.Ytmomjannlnafcaa.Abs
namespace Go.Proofs.Ytmomjannlnafcaa.Abs
set_option linter.unusedSimpArgs false
set_option linter.unusedVariables false
/-- The jobs of an After end in time for job i. -/
def laI (row : List Int) (i : Nat) (t : Int) (l : List Int) : Nat → List Int
  | 0 => row
  | s + 1 => (laI row i t l s).set (l.getD s 0).toNat (min ((laI row i t l s).getD (l.getD s 0).toNat 0) ((laI row i t l s).getD i 0 - t))
def laL (j : List Job) (last : Int) (ids : List Nat) : List Int := ids.foldl (fun r i => laI r i (tmJ j i) (aft j i) (aft j i).length) (List.replicate j.length last)
theorem laL_snoc (j : List Job) (last : Int) (ids : List Nat) (i : Nat) : laL j last (ids ++ [i]) = laI (laL j last ids) i (tmJ j i) (aft j i) (aft j i).length := by simp [laL]
theorem laI_len (row : List Int) (i : Nat) (t : Int) (l : List Int) : ∀ s, (laI row i t l s).length = row.length
  | 0 => rfl
  | s + 1 => by simp [laI, laI_len row i t l s]
theorem laL_len (j : List Job) (last : Int) (ids : List Nat) : (laL j last ids).length = j.length := by
  suffices h : ∀ (ids : List Nat) (r : List Int), (ids.foldl (fun r i => laI r i (tmJ j i) (aft j i) (aft j i).length) r).length = r.length by
    unfold laL
    rw [h]
    simp
  intro ids
  induction ids with
  | nil => intro r; rfl
  | cons i ids ih => intro r; rw [List.foldl_cons, ih, laI_len]
theorem laI_at {row : List Int} {i : Nat} {t : Int} {l : List Int} (hl : ∀ s, s < l.length → (l.getD s 0).toNat < row.length ∧ (l.getD s 0).toNat ≠ i) : ∀ s, s ≤ l.length → ∀ k,
    (laI row i t l s).getD k 0 = if ∃ s', s' < s ∧ (l.getD s' 0).toNat = k then min (row.getD k 0) (row.getD i 0 - t) else row.getD k 0
  | 0, _, k => by rw [if_neg (fun ⟨s', h, _⟩ => by omega)]; rfl
  | s + 1, hs, k => by
    have ih := fun k => laI_at (t := t) hl s (by omega) k
    obtain ⟨h1, h2⟩ := hl s (by omega)
    have ei : (laI row i t l s).getD i 0 = row.getD i 0 := by
      rw [ih i, if_neg]
      rintro ⟨s', h3, h4⟩
      exact (hl s' (by omega)).2 h4
    rw [laI, getDs _ _ _ _ (by rw [laI_len]; exact h1), ei]
    by_cases e : (l.getD s 0).toNat = k
    · rw [if_pos e, if_pos ⟨s, by omega, e⟩, e, ih k]
      split
      · omega
      · rfl
    · rw [if_neg e, ih k]
      by_cases h5 : ∃ s', s' < s ∧ (l.getD s' 0).toNat = k
      · obtain ⟨s', h6, h7⟩ := h5
        rw [if_pos ⟨s', h6, h7⟩, if_pos ⟨s', by omega, h7⟩]
      · rw [if_neg h5, if_neg]
        rintro ⟨s', h6, h7⟩
        rcases Nat.lt_succ_iff_lt_or_eq.1 h6 with h6 | rfl
        · exact h5 ⟨s', h6, h7⟩
        · exact e h7
theorem sub_le2 {a s q : Nat} (h : a - (s + 1) ≤ q) (e : q ≠ a - (s + 1)) (hs : s + 1 ≤ a) : a - s ≤ q := by omega
theorem sub_le1 {a s q : Nat} (h : a - s ≤ q) : a - (s + 1) ≤ q := by omega
section
variable {j : List Job} {P : List Nat} {last : Int}
theorem aft_rng (hJ : JOk j) {i : Nat} (hi : i < j.length) {s : Nat} (hs : s < (aft j i).length) : 0 ≤ (aft j i).getD s 0 ∧ (aft j i).getD s 0 < j.length := by
  have := hJ.ris i hi s hs
  exact ⟨this.1, this.2.1⟩
theorem aft_hl (h : Topo j P) (hn : P.length = j.length) (hJ : JOk j) {i : Nat} (hi : i < j.length) {row : List Int} (hr : row.length = j.length) : ∀ s, s < (aft j i).length → ((aft j i).getD s 0).toNat < row.length ∧ ((aft j i).getD s 0).toNat ≠ i := fun s hs => by
  have h1 := aft_rng hJ hi hs
  refine ⟨by omega, ?_⟩
  have := h.self hn hi (List.getElem_mem hs)
  rwa [gD hs]
theorem laI_mem (h : Topo j P) (hn : P.length = j.length) (hJ : JOk j) {i : Nat} (hi : i < j.length) {row : List Int} (hr : row.length = j.length) (k : Nat) :
    (laI row i (tmJ j i) (aft j i) (aft j i).length).getD k 0 = if (k : Int) ∈ aft j i then min (row.getD k 0) (row.getD i 0 - tmJ j i) else row.getD k 0 := by
  rw [laI_at (aft_hl h hn hJ hi hr) _ (Nat.le_refl _) k]
  by_cases hk : (k : Int) ∈ aft j i
  · obtain ⟨s, hs, e⟩ := List.getElem_of_mem hk
    rw [if_pos hk, if_pos ⟨s, hs, by rw [gD hs, e]; rfl⟩]
  · rw [if_neg hk, if_neg]
    rintro ⟨s, hs, e⟩
    have h1 := aft_rng hJ hi hs
    apply hk
    rw [show (k : Int) = (aft j i).getD s 0 by omega, gD hs]
    exact List.getElem_mem hs
/-- Bounds, whatever jobs were taken. -/
theorem laL_bd (h : Topo j P) (hn : P.length = j.length) (hJ : JOk j) : ∀ ids : List Nat, (∀ i ∈ ids, i < j.length) → ∀ k, k < j.length → last - 10000 * ids.length ≤ (laL j last ids).getD k 0 ∧ (laL j last ids).getD k 0 ≤ last := by
  suffices key : ∀ l : List Nat, (∀ i ∈ l, i < j.length) → ∀ k, k < j.length → last - 10000 * l.length ≤ (laL j last l.reverse).getD k 0 ∧ (laL j last l.reverse).getD k 0 ≤ last by
    intro ids hids
    have := key ids.reverse (fun i hi => hids i (by simpa using hi))
    rwa [List.reverse_reverse, List.length_reverse] at this
  intro l
  induction l with
  | nil =>
    intro _ k hk
    have e : (laL j last ([] : List Nat).reverse).getD k 0 = last := by
      show (List.replicate j.length last).getD k 0 = last
      rw [gD (by simpa using hk), List.getElem_replicate]
    rw [e]
    simp
  | cons i l ih =>
    intro hids k hk
    have hi := hids i (by simp)
    have ih := ih (fun x hx => hids x (by simp [hx]))
    have h1 := ih k hk
    have h2 := ih i hi
    have h3 := hJ.num i hi
    have e : tmJ j i = (j.getD i default).time := rfl
    rw [List.reverse_cons, laL_snoc, laI_mem h hn hJ hi (laL_len j last l.reverse) k, List.length_cons]
    split
    · rw [e]; omega
    · omega
theorem laL_late (h : Topo j P) (hn : P.length = j.length) (hJ : JOk j) : IsLate j last (fun i => (laL j last P.reverse).getD i 0) := by
  -- what stands when the last s of the order are taken
  have key : ∀ s, s ≤ P.length → ∀ i, i < j.length →
      (laL j last (P.drop (P.length - s)).reverse).getD i 0 ≤ last ∧
      (∀ q, P.length - s ≤ q → q < P.length → (i : Int) ∈ aft j (P.getD q 0) → (laL j last (P.drop (P.length - s)).reverse).getD i 0 ≤ (laL j last (P.drop (P.length - s)).reverse).getD (P.getD q 0) 0 - tmJ j (P.getD q 0)) ∧
      ((laL j last (P.drop (P.length - s)).reverse).getD i 0 = last ∨ ∃ q, P.length - s ≤ q ∧ q < P.length ∧ (i : Int) ∈ aft j (P.getD q 0) ∧ (laL j last (P.drop (P.length - s)).reverse).getD i 0 = (laL j last (P.drop (P.length - s)).reverse).getD (P.getD q 0) 0 - tmJ j (P.getD q 0)) := by
    intro s
    induction s with
    | zero =>
      intro _ i hi
      rw [Nat.sub_zero, List.drop_length]
      have e : (laL j last ([] : List Nat).reverse).getD i 0 = last := by
        show (List.replicate j.length last).getD i 0 = last
        rw [gD (by simpa using hi), List.getElem_replicate]
      rw [e]
      exact ⟨Int.le_refl _, fun q h1 h2 => by omega, .inl rfl⟩
    | succ s ih =>
      intro hs i hi
      have ih := ih (by omega)
      have hq0 : P.length - (s + 1) < P.length := by omega
      have ed : P.drop (P.length - (s + 1)) = P.getD (P.length - (s + 1)) 0 :: P.drop (P.length - s) := by
        rw [List.drop_eq_getElem_cons hq0, gD hq0, show P.length - (s + 1) + 1 = P.length - s by omega]
      have hi0 := h.in_ hq0
      have hnum := hJ.num _ hi0
      have el : laL j last (P.drop (P.length - (s + 1))).reverse = laI (laL j last (P.drop (P.length - s)).reverse) (P.getD (P.length - (s + 1)) 0) (tmJ j (P.getD (P.length - (s + 1)) 0)) (aft j (P.getD (P.length - (s + 1)) 0)) (aft j (P.getD (P.length - (s + 1)) 0)).length := by
        rw [ed, List.reverse_cons, laL_snoc]
      have emem := fun k => laI_mem h hn hJ hi0 (laL_len j last (P.drop (P.length - s)).reverse) k
      rw [← el] at emem
      -- a job at or behind the place stands as it stood
      have same : ∀ q, P.length - (s + 1) ≤ q → q < P.length → (laL j last (P.drop (P.length - (s + 1))).reverse).getD (P.getD q 0) 0 = (laL j last (P.drop (P.length - s)).reverse).getD (P.getD q 0) 0 := fun q h1 h2 => by
        rw [emem, if_neg]
        intro hm
        obtain ⟨r, hr, e⟩ := h.bef hq0 hm
        have := h.inj (show r < P.length by omega) h2 (by rw [e]; rfl)
        omega
      obtain ⟨h1, h2, h3⟩ := ih i hi
      have hsame0 := same (P.length - (s + 1)) (Nat.le_refl _) hq0
      by_cases hm : (i : Int) ∈ aft j (P.getD (P.length - (s + 1)) 0)
      · have ei := emem i
        rw [if_pos hm] at ei
        rw [ei]
        refine ⟨Int.le_trans (Int.min_le_left _ _) h1, fun q h4 h5 h6 => ?_, ?_⟩
        · rw [same q h4 h5]
          by_cases e : q = P.length - (s + 1)
          · subst e; exact Int.min_le_right _ _
          · exact Int.le_trans (Int.min_le_left _ _) (h2 q (sub_le2 h4 e hs) h5 h6)
        · by_cases hc : (laL j last (P.drop (P.length - s)).reverse).getD i 0 ≤ (laL j last (P.drop (P.length - s)).reverse).getD (P.getD (P.length - (s + 1)) 0) 0 - tmJ j (P.getD (P.length - (s + 1)) 0)
          · rcases h3 with h3 | ⟨q, h4, h5, h6, h7⟩
            · exact .inl (by rw [Int.min_eq_left hc]; exact h3)
            · exact .inr ⟨q, sub_le1 h4, h5, h6, by rw [same q (sub_le1 h4) h5, ← h7]; exact Int.min_eq_left hc⟩
          · exact .inr ⟨_, Nat.le_refl _, hq0, hm, by rw [hsame0]; exact Int.min_eq_right (Int.le_of_lt (Int.not_le.1 hc))⟩
      · have ei := emem i
        rw [if_neg hm] at ei
        rw [ei]
        refine ⟨h1, fun q h4 h5 h6 => ?_, ?_⟩
        · rw [same q h4 h5]
          by_cases e : q = P.length - (s + 1)
          · subst e; exact absurd h6 hm
          · exact h2 q (sub_le2 h4 e hs) h5 h6
        · rcases h3 with h3 | ⟨q, h4, h5, h6, h7⟩
          · exact .inl h3
          · exact .inr ⟨q, sub_le1 h4, h5, h6, by rw [same q (sub_le1 h4) h5]; exact h7⟩
  have kk := key P.length (Nat.le_refl _)
  rw [Nat.sub_self, List.drop_zero] at kk
  refine ⟨fun i hi => (kk i hi).1, fun i hi k hk hm => ?_, fun i hi => ?_⟩
  · obtain ⟨q, hq, rfl⟩ := h.pos hn hk
    exact (kk i hi).2.1 q (Nat.zero_le _) hq hm
  · rcases (kk i hi).2.2 with h3 | ⟨q, _, h5, h6, h7⟩
    · exact .inl h3
    · exact .inr ⟨_, h.in_ h5, h6, h7⟩
end
end Go.Proofs.Ytmomjannlnafcaa.Abs
namespace Go.Proofs.Ytmomjannlnafcaa.Abs
set_option linter.unusedSimpArgs false
set_option linter.unusedVariables false
open Go.RowKit
open Go.Proofs.Ytmomjannlnafcaa.Sim
open Go.Proofs
set_option maxHeartbeats 2000000 in
set_option maxRecDepth 100000 in
theorem Allowed_ok {m : AM} {v u : Value} {j : List Job} {l : List Int} (hj : Jobs m v j) (hl : Ints m u l) (hJ : JOk j) (hlen : l.length ≤ 9223372036854775807) {b : Bool} (hb : allowedB j l = b) : ACall Try.prog 45 #[v, u] m (Ret (.bool b) m) := by
  subst hb
  have h40 := hJ.len
  obtain ⟨a, o, h1, h2, h3⟩ := id hj
  obtain ⟨b, z, k1, k2, k3⟩ := id hl
  refine ACall.start Try.func45 rfl rfl ?_
  cases ho : orderB l j.length with
  | false =>
    (repeat (first | (with_reducible refine AWo.cons ?_) | ((with_reducible refine Step.id ?_); first | ((with_reducible apply Step.move); exact rfl; exact rfl) | ((with_reducible apply Step.assign); exact rfl; exact rfl) | ((with_reducible apply Step.len); exact rfl; (focus (assumption)); (focus (decide +kernel)); exact rfl) | ((with_reducible apply Step.not); exact rfl; exact rfl) | ((with_reducible apply Step.callR fit); exact rfl; exact Try.func55; exact rfl; exact rfl; exact (ROrder_ok j.length (hl.old []) (by omega) hlen ho))) | (with_reducible refine AWo.nil ?_) | ((with_reducible apply AW.seq)) | ((with_reducible apply Then.n)) | ((with_reducible apply AW.regL)) | ((with_reducible apply AW.condT); exact rfl; (focus (rfl)))))
    (refine AW.retD (l := [(4, _)]) (by repeat (first | exact trivial | (refine And.intro ⟨rfl, by (exact .bool _)⟩ ?_))) ?_; (repeat (first | refine Then.r ?_ | refine InBlk.r ?_)))
    exact ⟨_, rfl, by simp [allowedB, ho], rfl⟩
  | true =>
    have hll := (orderB_iff.1 ho).1
    have hlt := nat_lt ho
    have hnl := nat_len l
    (repeat (first | (with_reducible refine AWo.cons ?_) | ((with_reducible refine Step.id ?_); first | ((with_reducible apply Step.move); exact rfl; exact rfl) | ((with_reducible apply Step.assign); exact rfl; exact rfl) | ((with_reducible apply Step.len); exact rfl; (focus (assumption)); (focus (decide +kernel)); exact rfl) | ((with_reducible apply Step.not); exact rfl; exact rfl) | ((with_reducible apply Step.callR fit); exact rfl; exact Try.func55; exact rfl; exact rfl; exact (ROrder_ok j.length (hl.old []) (by omega) hlen ho)) | ((with_reducible apply Step.make1 0); exact rfl; exact rfl; exact rfl; exact el84; (focus (omega)); exact rfl; (focus (first | (simp only [List.nil_append, List.cons_append, List.set_cons_zero, List.set_cons_succ, iv_set, bv_set, iv_rep, bv_rep]; done) | (simp only [List.nil_append, List.cons_append, List.set_cons_zero, List.set_cons_succ, iv_set, bv_set, iv_rep, bv_rep]; rfl) | rfl)))) | (with_reducible refine AWo.nil ?_) | ((with_reducible apply AW.seq)) | ((with_reducible apply Then.n)) | ((with_reducible apply AW.regL)) | ((with_reducible apply AW.block)) | ((with_reducible apply AW.skip)) | ((with_reducible apply AW.condF); exact rfl; (focus (rfl)))))
    refine AW.loopT (fun n' t L => ∃ q : Nat, n' = l.length - q ∧ q ≤ l.length ∧ (∀ i, i < q → alOk j (nat l) i = true) ∧ L = [some { cells := bv (plR j.length ((nat l).take q)) }] ∧
      t = [(0, v), (5, .slice (some ⟨m.length + 0, 0, none⟩) j.length j.length), (18, u), (19, .int .i64 (l.length : Nat)), (20, .int .i64 (q : Nat))]) ⟨_, _, _, (Or.inl ⟨rfl, (by repeat (first | exact trivial | (refine And.intro rfl ?_)))⟩), 0, rfl, Nat.zero_le _, by omega, by rw [List.take_zero, ← plR_zero], rfl⟩ ?_
    rintro n' t L ⟨q, rfl, hq, hbef, rfl, rfl⟩
    rcases Nat.lt_or_ge q l.length with hql | hge
    · have hqn : q < (nat l).length := by omega
      have hi := hlt q hqn
      obtain ⟨w, hr, hw⟩ := h3 _ hi
      obtain ⟨wa, wo, w1, w2, w3⟩ := id hw
      have hlen' := hJ.alen hi
      have hmem := fun a ha => hJ.mem hi (a := a) ha
      have al : alOk j (nat l) q = (aft j ((nat l).getD q 0)).all fun a => decide (a.toNat ∈ (nat l).take q) := rfl
      have bad := allowB_not (j := j) (P := nat l) hqn
      have next : alOk j (nat l) q = true → ∀ i, i < q + 1 → alOk j (nat l) i = true := fun e i hi => by
        rcases Nat.lt_succ_iff_lt_or_eq.1 hi with h | h
        · exact hbef i h
        · rw [h]; exact e
      have tk := take_snoc (nat l) q 0 hqn
      have set := plR_set (n := j.length) (i := (nat l).getD q 0) ((nat l).take q)
      rw [← tk] at set
      have hrl : Rd m b (z + q) (.int .i64 (((nat l).getD q 0 : Nat) : Int)) := by
        have := k3 q hql
        have e : l.getD q 0 = (((nat l).getD q 0 : Nat) : Int) := by
          have h0 := (orderB_iff.1 ho).2.1 (l.getD q 0) (mem_getD hql)
          have := nat_get hql
          omega
        rwa [e] at this
      simp only [aft] at *
      generalize hI : (nat l).getD q 0 = i at *
      generalize j.getD i default = x at *
      obtain ⟨x1, x2, x3, af⟩ := x
      simp only [Job.cells] at *
      generalize hT : (nat l).take q = T at *
      have lT := plR_len j.length T
      (repeat (first | (with_reducible refine AWo.cons ?_) | ((with_reducible refine Step.id ?_); first | ((with_reducible apply Step.move); exact rfl; exact rfl) | ((with_reducible apply Step.assign); exact rfl; exact rfl) | ((with_reducible apply Step.load); exact rfl; (focus (decide +kernel)); exact rfl; (focus (first | exact Rd.old _ (by assumption) | exact Rd.old _ (hr.at_ 3 rfl)))) | ((with_reducible apply Step.ix1); exact rfl; (focus (assumption)); exact rfl; (focus (decide +kernel)); exact rfl; (focus (omega))) | ((with_reducible apply Step.ix (s := 4)); exact rfl; (focus (assumption)); exact rfl; (focus (decide +kernel)); exact rfl; (focus (omega))) | ((with_reducible apply Step.field (k := 3)); exact rfl; (focus (decide +kernel)); exact rfl) | ((with_reducible apply Step.lss); exact rfl; exact rfl; exact rfl) | ((with_reducible apply Step.len); exact rfl; (focus (assumption)); (focus (decide +kernel)); exact rfl)) | (with_reducible refine AWo.nil ?_) | ((with_reducible apply AW.seq)) | ((with_reducible apply Then.n)) | ((with_reducible apply AW.regL)) | ((with_reducible apply AW.block)) | ((with_reducible apply AW.skip)) | ((with_reducible apply AW.condT); exact rfl; (focus ((simp only [decide_eq_true_eq, decide_eq_false_iff_not, Bool.not_eq_true', Bool.not_eq_false', Bool.not_true, Bool.not_false]; first | assumption | omega))))))
      refine AW.loopT (fun n' t L => ∃ p : Nat, n' = af.length - p ∧ p ≤ af.length ∧ (∀ i, i < p → decide ((af.getD i 0).toNat ∈ T) = true) ∧ L = [some { cells := bv (plR j.length T) }] ∧
        t = [(0, v), (5, .slice (some ⟨m.length + 0, 0, none⟩) j.length j.length), (18, u), (19, .int .i64 (l.length : Nat)), (20, .int .i64 (q : Nat)), (7, .int .i64 (i : Nat)), (28, w), (29, .int .i64 (af.length : Nat)), (30, .int .i64 (p : Nat))]) ⟨_, _, _, (Or.inl ⟨rfl, (by repeat (first | exact trivial | (refine And.intro rfl ?_)))⟩), 0, rfl, Nat.zero_le _, by omega, rfl, rfl⟩ ?_
      rintro n' t L ⟨p, rfl, hp, hpre, rfl, rfl⟩
      rcases Nat.lt_or_ge p af.length with hpl | hpge
      · have hm := hmem _ (mem_getD hpl)
        have hrp := w3 p hpl
        obtain ⟨y, hy⟩ := Int.eq_ofNat_of_zero_le hm.1
        have gy := plR_get (n := j.length) (i := y) T (by omega)
        rw [hy] at hrp
        have hyl : y < j.length := by omega
        have hro : Rd (m ++ [some { cells := bv (plR j.length T) }]) (m.length + 0) y (.bool (decide (y ∈ T))) := by
          rw [← gy]; exact Rd.new rfl (bv_get (by omega))
        by_cases hin : y ∈ T
        · rw [decide_eq_true hin] at hro
          (repeat (first | (with_reducible refine AWo.cons ?_) | ((with_reducible refine Step.id ?_); first | ((with_reducible apply Step.move); exact rfl; exact rfl) | ((with_reducible apply Step.assign); exact rfl; exact rfl) | ((with_reducible apply Step.load); exact rfl; (focus (decide +kernel)); exact rfl; (focus (first | assumption | exact Rd.old _ (by assumption)))) | ((with_reducible apply Step.ix1z); exact rfl; (focus (exact Sl.mk (by omega))); exact rfl; (focus (decide +kernel)); exact rfl; (focus (omega))) | ((with_reducible apply Step.ix1); exact rfl; (focus (assumption)); exact rfl; (focus (decide +kernel)); exact rfl; (focus (omega))) | ((with_reducible apply Step.add); exact rfl; exact rfl; (focus (omega)); exact rfl) | ((with_reducible apply Step.lss); exact rfl; exact rfl; exact rfl) | ((with_reducible apply Step.not); exact rfl; exact rfl)) | (with_reducible refine AWo.nil ?_) | ((with_reducible apply AW.seq)) | ((with_reducible apply Then.n)) | ((with_reducible apply AW.regL)) | ((with_reducible apply AW.block)) | ((with_reducible apply InBlk.n)) | ((with_reducible apply AW.skip)) | ((with_reducible apply AW.condT); exact rfl; (focus ((simp only [decide_eq_true_eq, decide_eq_false_iff_not, Bool.not_eq_true', Bool.not_eq_false', Bool.not_true, Bool.not_false]; first | assumption | omega)))) | ((with_reducible apply AW.condF); exact rfl; (focus (rfl)))))
          refine ⟨_, _, _, by omega, (Or.inl ⟨rfl, (by repeat (first | exact trivial | (refine And.intro rfl ?_)))⟩), p + 1, rfl, by omega, fun i hi => ?_, rfl, rfl⟩
          rcases Nat.lt_succ_iff_lt_or_eq.1 hi with h | h
          · exact hpre i h
          · rw [h, hy, Int.toNat_natCast]; exact decide_eq_true hin
        · rw [decide_eq_false hin] at hro
          have hf : alOk j (nat l) q = false := by
            rw [al, List.all_eq_false]
            exact ⟨af.getD p 0, mem_getD hpl, by rw [hy, Int.toNat_natCast, decide_eq_false hin]; exact Bool.false_ne_true⟩
          (repeat (first | (with_reducible refine AWo.cons ?_) | ((with_reducible refine Step.id ?_); first | ((with_reducible apply Step.move); exact rfl; exact rfl) | ((with_reducible apply Step.assign); exact rfl; exact rfl) | ((with_reducible apply Step.load); exact rfl; (focus (decide +kernel)); exact rfl; (focus (first | assumption | exact Rd.old _ (by assumption)))) | ((with_reducible apply Step.ix1z); exact rfl; (focus (exact Sl.mk (by omega))); exact rfl; (focus (decide +kernel)); exact rfl; (focus (omega))) | ((with_reducible apply Step.ix1); exact rfl; (focus (assumption)); exact rfl; (focus (decide +kernel)); exact rfl; (focus (omega))) | ((with_reducible apply Step.lss); exact rfl; exact rfl; exact rfl) | ((with_reducible apply Step.not); exact rfl; exact rfl)) | (with_reducible refine AWo.nil ?_) | ((with_reducible apply AW.seq)) | ((with_reducible apply Then.n)) | ((with_reducible apply AW.regL)) | ((with_reducible apply AW.block)) | ((with_reducible apply AW.skip)) | ((with_reducible apply AW.condT); exact rfl; (focus (first | rfl | (simp only [decide_eq_true_eq, decide_eq_false_iff_not, Bool.not_eq_true', Bool.not_eq_false', Bool.not_true, Bool.not_false]; first | assumption | omega))))))
          (refine AW.retD (l := [(4, _)]) (by repeat (first | exact trivial | (refine And.intro ⟨rfl, by (exact .bool _)⟩ ?_))) ?_; (repeat (first | refine Then.r ?_ | refine InBlk.r ?_)))
          exact ⟨_, rfl, by simp [allowedB, ho, bad hf], rfl⟩
      · have ht : alOk j (nat l) q = true := by
          rw [al, List.all_eq_true]
          intro x hx
          obtain ⟨i, hi, rfl⟩ := List.getElem_of_mem hx
          have := hpre i (by omega)
          rwa [List.getD_eq_getElem?_getD, List.getElem?_eq_getElem hi] at this
        (repeat (first | (with_reducible refine AWo.cons ?_) | ((with_reducible refine Step.id ?_); first | ((with_reducible apply Step.move); exact rfl; exact rfl) | ((with_reducible apply Step.ix1z); exact rfl; (focus (exact Sl.mk (by omega))); exact rfl; (focus (decide +kernel)); exact rfl; (focus (omega))) | ((with_reducible apply Step.add); exact rfl; exact rfl; (focus (omega)); exact rfl) | ((with_reducible apply Step.lss); exact rfl; exact rfl; exact rfl) | ((with_reducible apply Step.store (k := 0)); exact rfl; exact rfl; exact rfl; exact rfl; (focus (decide +kernel)); exact rfl; exact rfl; (focus (first | omega | (simp [iv, bv]; done) | (simp [iv, bv]; omega))); (focus (first | (simp only [List.nil_append, List.cons_append, List.set_cons_zero, List.set_cons_succ, iv_set, bv_set, iv_rep, bv_rep]; done) | (simp only [List.nil_append, List.cons_append, List.set_cons_zero, List.set_cons_succ, iv_set, bv_set, iv_rep, bv_rep]; rfl) | rfl)))) | (with_reducible refine AWo.nil ?_) | ((with_reducible apply AW.seq)) | ((with_reducible apply Then.n)) | ((with_reducible apply AW.regL)) | ((with_reducible apply AW.exit)) | ((with_reducible apply InBlk.n)) | ((with_reducible apply InBlk.hit)) | ((with_reducible apply Then.e)) | ((with_reducible apply AW.condF); exact rfl; (focus ((simp only [decide_eq_true_eq, decide_eq_false_iff_not, Bool.not_eq_true', Bool.not_eq_false', Bool.not_true, Bool.not_false]; first | assumption | omega))))))
        exact ⟨_, _, _, by omega, (Or.inl ⟨rfl, (by repeat (first | exact trivial | (refine And.intro rfl ?_)))⟩), q + 1, rfl, by omega, next ht, by rw [set], rfl⟩
    · have := allowB_of (j := j) (P := nat l) fun i hi => hbef i (by omega)
      (repeat (first | (with_reducible refine AWo.cons ?_) | ((with_reducible refine Step.id ?_); first | ((with_reducible apply Step.assign); exact rfl; exact rfl) | ((with_reducible apply Step.lss); exact rfl; exact rfl; exact rfl)) | (with_reducible refine AWo.nil ?_) | ((with_reducible apply AW.seq)) | ((with_reducible apply Then.n)) | ((with_reducible apply AW.regL)) | ((with_reducible apply AW.exit)) | ((with_reducible apply InBlk.hit)) | ((with_reducible apply Then.e)) | ((with_reducible apply AW.condF); exact rfl; (focus ((simp only [decide_eq_true_eq, decide_eq_false_iff_not, Bool.not_eq_true', Bool.not_eq_false', Bool.not_true, Bool.not_false]; first | assumption | omega))))))
      (refine AW.retD (l := [(4, _)]) (by repeat (first | exact trivial | (refine And.intro ⟨rfl, by (exact .bool _)⟩ ?_))) ?_; (repeat (first | refine Then.r ?_ | refine InBlk.r ?_)))
      exact ⟨_, rfl, by simp [allowedB, ho, this], rfl⟩
end Go.Proofs.Ytmomjannlnafcaa.Abs
namespace Go.Proofs.Ytmomjannlnafcaa.Abs
set_option linter.unusedSimpArgs false
set_option linter.unusedVariables false
open Go.RowKit
open Go.Proofs.Ytmomjannlnafcaa.Sim
open Go.Proofs
theorem conv_self {j : List Job} (h : jobsB j = true) : convJ j = j := by
  have hJ := JOk.of h
  have h40 := hJ.len
  unfold convJ
  rw [List.take_of_length_le (by omega)]
  refine List.ext_getElem (by simp) fun k h1 h2 => ?_
  have hk : k < j.length := h2
  have := hJ.alen hk
  simp only [aft] at this
  rw [List.getD_eq_getElem?_getD, List.getElem?_eq_getElem hk, Option.getD_some] at this
  rw [List.getElem_map]
  unfold cvJ
  rw [List.take_of_length_le (by omega)]
theorem conv_not {j : List Job} (h : jobsB j = false) : jobsB (convJ j) = false := by
  rw [Bool.eq_false_iff]
  intro hc
  have hJ := JOk.of hc
  have hl : (convJ j).length = min 42 j.length := by simp [convJ]
  have h40 := hJ.len
  have hlen : j.length ≤ 40 := by omega
  have hl2 : (convJ j).length = j.length := by omega
  have get : ∀ k, k < j.length → (convJ j).getD k default = cvJ (j.getD k default) := fun k hk => by
    unfold convJ
    rw [List.take_of_length_le (by omega)]
    simp [hk]
  have same : ∀ k, k < j.length → cvJ (j.getD k default) = j.getD k default := fun k hk => by
    have := hJ.alen (k := k) (by omega)
    simp only [aft] at this
    rw [get k hk] at this
    have hlt : ((j.getD k default).after.take 60).length ≤ 40 := by
      simp only [cvJ] at this; omega
    unfold cvJ
    rw [List.take_of_length_le (by rw [List.length_take] at hlt; omega)]
  have e : convJ j = j := List.ext_getElem (by omega) fun k h1 h2 => by
    have g := get k h2
    rw [same k h2] at g
    simpa [h1, h2] using g
  rw [e, h] at hc
  cases hc
theorem conv_short (j : List Job) : Short (convJ j) := by
  refine ⟨by simp [convJ]; omega, fun k hk => ?_⟩
  have hk' : k < (j.take 42).length := by simpa [convJ] using hk
  have : (convJ j).getD k default = cvJ ((j.take 42).getD k default) := by
    simp only [convJ, List.getD_eq_getElem?_getD, List.getElem?_map, List.getElem?_eq_getElem hk', Option.map_some, Option.getD_some]
  rw [this]
  simp only [cvJ, List.length_take]
  omega
/-- What the program's check answers to the jobs that the law hands it. -/
theorem checked_no {m : AM} {v : Value} {j : List Job} {e : Int} (hj : Jobs m v (convJ j)) (he : errJ j = e) (hne : e ≠ 0) : ∀ L, ACall Try.prog 78 #[v] (m ++ L) (Ret (.tuple #[.slice none 0 0, .int .i64 e]) (m ++ L)) := fun L => by
  subst he
  unfold errJ at hne ⊢
  cases hok : jobsB j with
  | false =>
    rw [if_neg (by simp)]
    exact checked_arg (hj.old L) (conv_short j) (conv_not hok)
  | true =>
    rw [if_pos rfl]
    rw [hok, if_pos rfl] at hne
    by_cases hn : (sortL j).length = j.length
    · rw [if_pos hn] at hne; exact absurd rfl hne
    · rw [if_neg hn]
      rw [conv_self hok] at hj
      exact checked_loop (hj.old L) hok hn
theorem errJ_zero {j : List Job} (h : errJ j = 0) : jobsB j = true ∧ (sortL j).length = j.length := by
  unfold errJ at h
  split at h
  · rename_i h1
    split at h
    · rename_i h2; exact ⟨h1, h2⟩
    · omega
  · omega
theorem gints {M L : AM} {k n : Nat} {l : List Int} (h : L[k]? = some (gb (iv l) 1)) (hl : l.length = n) : Ints (M ++ L) (gv (M.length + k) n) l := by
  subst hl
  refine ⟨M.length + k, 0, gv_sl _ _, by have := (List.getElem?_eq_some_iff.1 h).1; simp; omega, fun i hi => ?_⟩
  rw [gb_pos (by rw [iv_len]; omega)] at h
  exact Rd.new h (by rw [Nat.zero_add]; exact iv_get hi)
end Go.Proofs.Ytmomjannlnafcaa.Abs
namespace Go.Proofs.Ytmomjannlnafcaa.Abs
set_option linter.unusedSimpArgs false
set_option linter.unusedVariables false
open Go.RowKit
open Go.Proofs.Ytmomjannlnafcaa.Sim
open Go.Proofs
theorem eaI_bd {row : List Int} {i : Nat} {l : List Int} {B : Int} (hr : ∀ k, 0 ≤ row.getD k 0 ∧ row.getD k 0 ≤ B) : ∀ s k, 0 ≤ (eaI row i l s).getD k 0 ∧ (eaI row i l s).getD k 0 ≤ B
  | 0, k => hr k
  | s + 1, k => by
    have ih := eaI_bd (i := i) (l := l) hr s
    have h1 := ih i
    have h2 := ih (l.getD s 0).toNat
    by_cases hi : i < row.length
    · rw [eaI, getDs _ _ _ _ (by rw [eaI_len]; exact hi)]
      split
      · omega
      · exact ih k
    · rw [eaI, List.set_eq_of_length_le (by rw [eaI_len]; omega)]
      exact ih k
theorem eaR_bd {j : List Job} {P : List Nat} (hJ : JOk j) (hin : ∀ q, q < P.length → P.getD q 0 < j.length) : ∀ q, q ≤ P.length → ∀ k, 0 ≤ (eaR j P q).getD k 0 ∧ (eaR j P q).getD k 0 ≤ 10000 * q
  | 0, _, k => by
    have : (eaR j P 0).getD k 0 = 0 := by
      rw [eaR]
      by_cases hk : k < j.length
      · rw [gD (by simpa using hk), List.getElem_replicate]
      · simp [hk]
    rw [this]
    omega
  | q + 1, hq, k => by
    have ih := eaR_bd hJ hin q (by omega)
    have hi := hin q (by omega)
    have hnum := hJ.num _ hi
    have e : tmJ j (P.getD q 0) = (j.getD (P.getD q 0) default).time := rfl
    have h1 := eaI_bd (i := P.getD q 0) (l := aft j (P.getD q 0)) ih (aft j (P.getD q 0)).length
    have h2 := h1 (P.getD q 0)
    have h3 := h1 k
    rw [eaR, getDs _ _ _ _ (by rw [eaI_len, eaR_len]; exact hi), e]
    split
    · omega
    · omega
set_option maxHeartbeats 2000000 in
set_option maxRecDepth 100000 in
theorem early_ok {m : AM} {v u : Value} {j : List Job} {P : List Nat} (hj : Jobs m v j) (hu : Ints m u (nv P)) (hJ : JOk j) (hin : ∀ q, q < P.length → P.getD q 0 < j.length) (hP : P.length ≤ 1000) {row : List Int} (hrow : eaR j P P.length = row) :
    ACall Try.prog 79 #[v, u] m (New (some { cells := iv row }) j.length m) := by
  subst hrow
  have h40 := hJ.len
  obtain ⟨a, o, h1, h2, h3⟩ := id hj
  obtain ⟨b, z, k1, k2, k3⟩ := id hu
  have hnl := nv_len P
  rw [hnl] at k1 k3
  refine ACall.start Try.func79 rfl rfl ?_
  (repeat (first | (with_reducible refine AWo.cons ?_) | ((with_reducible refine Step.id ?_); first | ((with_reducible apply Step.move); exact rfl; exact rfl) | ((with_reducible apply Step.assign); exact rfl; exact rfl) | ((with_reducible apply Step.len); exact rfl; (focus (assumption)); (focus (decide +kernel)); exact rfl) | ((with_reducible apply Step.make1 0); exact rfl; exact rfl; exact rfl; exact el23; (focus (omega)); exact rfl; (focus (first | (simp only [List.nil_append, List.cons_append, List.set_cons_zero, List.set_cons_succ, iv_set, bv_set, iv_rep, bv_rep]; done) | (simp only [List.nil_append, List.cons_append, List.set_cons_zero, List.set_cons_succ, iv_set, bv_set, iv_rep, bv_rep]; rfl) | rfl)))) | (with_reducible refine AWo.nil ?_) | ((with_reducible apply AW.seq)) | ((with_reducible apply Then.n)) | ((with_reducible apply AW.regL)) | ((with_reducible apply AW.block))))
  refine AW.loopT (fun n' t L => ∃ q : Nat, n' = P.length - q ∧ q ≤ P.length ∧ L = [some { cells := iv (eaR j P q) }] ∧
    t = [(0, v), (5, .slice (some ⟨m.length + 0, 0, none⟩) j.length j.length), (13, u), (14, .int .i64 (P.length : Nat)), (15, .int .i64 (q : Nat))]) ⟨_, _, _, (Or.inl ⟨rfl, (by repeat (first | exact trivial | (refine And.intro rfl ?_)))⟩), 0, rfl, Nat.zero_le _, rfl, rfl⟩ ?_
  rintro n' t L ⟨q, rfl, hq, rfl, rfl⟩
  rcases Nat.lt_or_ge q P.length with hql | hge
  · have hi := hin q hql
    have hrl := k3 q hql
    rw [nv_get hql] at hrl
    obtain ⟨w, hr, hw⟩ := h3 _ hi
    obtain ⟨wa, wo, w1, w2, w3⟩ := id hw
    have hnum := hJ.num _ hi
    have hlen := hJ.alen hi
    have hris := fun s hs => aft_rng hJ hi (s := s) hs
    have le := eaR_len j P q
    have bd := eaR_bd hJ hin q hq
    have st : eaR j P (q + 1) = (eaI (eaR j P q) (P.getD q 0) (aft j (P.getD q 0)) (aft j (P.getD q 0)).length).set (P.getD q 0) ((eaI (eaR j P q) (P.getD q 0) (aft j (P.getD q 0)) (aft j (P.getD q 0)).length).getD (P.getD q 0) 0 + tmJ j (P.getD q 0)) := rfl
    simp only [aft, tmJ] at *
    generalize P.getD q 0 = i at *
    generalize j.getD i default = x at *
    obtain ⟨x1, x2, x3, af⟩ := x
    simp only [Job.cells] at *
    generalize eaR j P q = row at *
    have bI := fun s k => eaI_bd (i := i) (l := af) bd s k
    have lI := fun s => eaI_len row i af s
    (repeat (first | (with_reducible refine AWo.cons ?_) | ((with_reducible refine Step.id ?_); first | ((with_reducible apply Step.move); exact rfl; exact rfl) | ((with_reducible apply Step.assign); exact rfl; exact rfl) | ((with_reducible apply Step.load); exact rfl; (focus (decide +kernel)); exact rfl; (focus (first | exact Rd.old _ (by assumption) | exact Rd.old _ (hr.at_ 3 rfl)))) | ((with_reducible apply Step.ix1); exact rfl; (focus (assumption)); exact rfl; (focus (decide +kernel)); exact rfl; (focus (omega))) | ((with_reducible apply Step.ix (s := 4)); exact rfl; (focus (assumption)); exact rfl; (focus (decide +kernel)); exact rfl; (focus (omega))) | ((with_reducible apply Step.field (k := 3)); exact rfl; (focus (decide +kernel)); exact rfl) | ((with_reducible apply Step.lss); exact rfl; exact rfl; exact rfl) | ((with_reducible apply Step.len); exact rfl; (focus (assumption)); (focus (decide +kernel)); exact rfl)) | (with_reducible refine AWo.nil ?_) | ((with_reducible apply AW.seq)) | ((with_reducible apply Then.n)) | ((with_reducible apply AW.regL)) | ((with_reducible apply AW.block)) | ((with_reducible apply AW.skip)) | ((with_reducible apply AW.condT); exact rfl; (focus ((simp only [decide_eq_true_eq, decide_eq_false_iff_not, Bool.not_eq_true', Bool.not_eq_false', Bool.not_true, Bool.not_false]; first | assumption | omega))))))
    refine AW.loopT (fun n' t L => ∃ s : Nat, n' = af.length - s ∧ s ≤ af.length ∧ L = [some { cells := iv (eaI row i af s) }] ∧
      t = [(0, v), (5, .slice (some ⟨m.length + 0, 0, none⟩) j.length j.length), (7, .int .i64 (i : Nat)), (13, u), (14, .int .i64 (P.length : Nat)), (15, .int .i64 (q : Nat)), (23, w), (24, .int .i64 (af.length : Nat)), (25, .int .i64 (s : Nat))]) ⟨_, _, _, (Or.inl ⟨rfl, (by repeat (first | exact trivial | (refine And.intro rfl ?_)))⟩), 0, rfl, Nat.zero_le _, rfl, rfl⟩ ?_
    rintro n' t L ⟨s, rfl, hs, rfl, rfl⟩
    have lIs := lI s
    rcases Nat.lt_or_ge s af.length with hsl | hsg
    · have hrs := hris s hsl
      have hra := w3 s hsl
      have st2 : eaI row i af (s + 1) = (eaI row i af s).set i (max ((eaI row i af s).getD i 0) ((eaI row i af s).getD (af.getD s 0).toNat 0)) := rfl
      obtain ⟨y, hy⟩ := Int.eq_ofNat_of_zero_le hrs.1
      rw [hy, Int.toNat_natCast] at st2
      rw [hy] at hra
      have hyl : y < j.length := by omega
      generalize eaI row i af s = rs at *
      (repeat (first | (with_reducible refine AWo.cons ?_) | ((with_reducible refine Step.id ?_); first | ((with_reducible apply Step.move); exact rfl; exact rfl) | ((with_reducible apply Step.assign); exact rfl; exact rfl) | ((with_reducible apply Step.load); exact rfl; (focus (decide +kernel)); exact rfl; (focus (first | exact Rd.new rfl (iv_get (by first | omega | (simp; omega))) | exact Rd.old _ (by assumption)))) | ((with_reducible apply Step.ix1z); exact rfl; (focus (exact Sl.mk (by omega))); exact rfl; (focus (decide +kernel)); exact rfl; (focus (omega))) | ((with_reducible apply Step.ix1); exact rfl; (focus (assumption)); exact rfl; (focus (decide +kernel)); exact rfl; (focus (omega))) | ((with_reducible apply Step.add); exact rfl; exact rfl; (focus (omega)); exact rfl) | ((with_reducible apply Step.lss); exact rfl; exact rfl; exact rfl) | ((with_reducible apply Step.max); exact rfl; exact rfl; exact rfl) | ((with_reducible apply Step.store (k := 0)); exact rfl; exact rfl; exact rfl; exact rfl; (focus (decide +kernel)); exact rfl; exact rfl; (focus (first | omega | (simp [iv, bv]; done) | (simp [iv, bv]; omega))); (focus (first | (simp only [List.nil_append, List.cons_append, List.set_cons_zero, List.set_cons_succ, iv_set, bv_set, iv_rep, bv_rep]; done) | (simp only [List.nil_append, List.cons_append, List.set_cons_zero, List.set_cons_succ, iv_set, bv_set, iv_rep, bv_rep]; rfl) | rfl)))) | (with_reducible refine AWo.nil ?_) | ((with_reducible apply AW.seq)) | ((with_reducible apply Then.n)) | ((with_reducible apply AW.regL)) | ((with_reducible apply AW.block)) | ((with_reducible apply AW.drawL fit); (focus (decide +kernel))) | ((with_reducible apply InBlk.n)) | ((with_reducible apply AW.skip)) | ((with_reducible apply AW.condT); exact rfl; (focus ((simp only [decide_eq_true_eq, decide_eq_false_iff_not, Bool.not_eq_true', Bool.not_eq_false', Bool.not_true, Bool.not_false]; first | assumption | omega))))))
      exact ⟨_, [(0, v), (5, .slice (some ⟨m.length + 0, 0, none⟩) j.length j.length), (7, .int .i64 (i : Nat)), (13, u), (14, .int .i64 (P.length : Nat)), (15, .int .i64 (q : Nat)), (23, w), (24, .int .i64 (af.length : Nat)), (25, .int .i64 (s + 1 : Nat))], _, by omega, (Or.inl ⟨rfl, (by repeat (first | exact trivial | (refine And.intro rfl ?_)))⟩), s + 1, rfl, by omega, by rw [st2], rfl⟩
    · obtain rfl : s = af.length := by omega
      have b1 := bI af.length i
      generalize eaI row i af af.length = rs at *
      (repeat (first | (with_reducible refine AWo.cons ?_) | ((with_reducible refine Step.id ?_); first | ((with_reducible apply Step.move); exact rfl; exact rfl) | ((with_reducible apply Step.load); exact rfl; (focus (decide +kernel)); exact rfl; (focus (first | exact Rd.new rfl (iv_get (by first | omega | (simp; omega))) | exact Rd.old _ (hr.at_ 0 rfl)))) | ((with_reducible apply Step.ix1z); exact rfl; (focus (exact Sl.mk (by omega))); exact rfl; (focus (decide +kernel)); exact rfl; (focus (omega))) | ((with_reducible apply Step.ix (s := 4)); exact rfl; (focus (assumption)); exact rfl; (focus (decide +kernel)); exact rfl; (focus (omega))) | ((with_reducible apply Step.field0); exact rfl; (focus (decide +kernel)); exact rfl) | ((with_reducible apply Step.add); exact rfl; exact rfl; (focus (omega)); exact rfl) | ((with_reducible apply Step.lss); exact rfl; exact rfl; exact rfl) | ((with_reducible apply Step.store (k := 0)); exact rfl; exact rfl; exact rfl; exact rfl; (focus (decide +kernel)); exact rfl; exact rfl; (focus (first | omega | (simp [iv, bv]; done) | (simp [iv, bv]; omega))); (focus (first | (simp only [List.nil_append, List.cons_append, List.set_cons_zero, List.set_cons_succ, iv_set, bv_set, iv_rep, bv_rep]; done) | (simp only [List.nil_append, List.cons_append, List.set_cons_zero, List.set_cons_succ, iv_set, bv_set, iv_rep, bv_rep]; rfl) | rfl)))) | (with_reducible refine AWo.nil ?_) | ((with_reducible apply AW.seq)) | ((with_reducible apply Then.n)) | ((with_reducible apply AW.regL)) | ((with_reducible apply AW.drawL fit); (focus (decide +kernel))) | ((with_reducible apply AW.exit)) | ((with_reducible apply InBlk.n)) | ((with_reducible apply InBlk.hit)) | ((with_reducible apply Then.e)) | ((with_reducible apply AW.condF); exact rfl; (focus ((simp only [decide_eq_true_eq, decide_eq_false_iff_not, Bool.not_eq_true', Bool.not_eq_false', Bool.not_true, Bool.not_false]; first | assumption | omega))))))
      exact ⟨_, [(0, v), (5, .slice (some ⟨m.length + 0, 0, none⟩) j.length j.length), (13, u), (14, .int .i64 (P.length : Nat)), (15, .int .i64 (q + 1 : Nat))], _, by omega, (Or.inl ⟨rfl, (by repeat (first | exact trivial | (refine And.intro rfl ?_)))⟩), q + 1, rfl, by omega, by rw [st], rfl⟩
  · obtain rfl : q = P.length := by omega
    (repeat (first | (with_reducible refine AWo.cons ?_) | ((with_reducible refine Step.id ?_); first | ((with_reducible apply Step.move); exact rfl; exact rfl) | ((with_reducible apply Step.assign); exact rfl; exact rfl) | ((with_reducible apply Step.lss); exact rfl; exact rfl; exact rfl)) | (with_reducible refine AWo.nil ?_) | ((with_reducible apply AW.seq)) | ((with_reducible apply Then.n)) | ((with_reducible apply AW.regL)) | ((with_reducible apply AW.exit)) | ((with_reducible apply InBlk.hit)) | ((with_reducible apply Then.e)) | ((with_reducible apply AW.condF); exact rfl; (focus ((simp only [decide_eq_true_eq, decide_eq_false_iff_not, Bool.not_eq_true', Bool.not_eq_false', Bool.not_true, Bool.not_false]; first | assumption | omega))))))
    (refine AW.retB (l := [(4, _)]) (Or.inl ⟨rfl, (by repeat (first | exact trivial | (refine And.intro rfl ?_)))⟩) ?_; (repeat (first | refine Then.r ?_ | refine InBlk.r ?_)))
    exact ⟨_, rfl, rfl, rfl⟩
end Go.Proofs.Ytmomjannlnafcaa.Abs
namespace Go.Proofs.Ytmomjannlnafcaa.Abs
set_option linter.unusedSimpArgs false
set_option linter.unusedVariables false
open Go.RowKit
open Go.Proofs.Ytmomjannlnafcaa.Sim
/-- What holds from here on may rest on the memory as it is now. -/
theorem AW.rebase {P : Program} {nt : Nat} {m0 m : AM} {c : Code} {t : Fm} {Q : AEx → Fm → AM → Prop} (h : AW P nt m c t (m ++ []) Q) : AW P nt m0 c t m Q := by
  rw [List.append_nil] at h
  intro ro hro base R0 w0 R a w hb h0 hp ht
  refine wpIn_mono (h ro hro base R w R a w (Nat.le_trans hb hp.size) hp.rep (.refl hp.rep) ht) ?_
  rintro ex a' w' ⟨e, t', m', R', h1, h2, h3, h4, h5⟩
  exact ⟨e, t', m', R', h1, h2, hp.trans h3, h4, h5⟩
section
variable {P : Program} {nt : Nat} {ops : Array Oper} {t : Fm} {m : AM} {K : Fm → AM → Prop} {d T : Nat} {p : String} {af : Array Edge}
/-- The tail of a row that ends a block of one's own, whether it is empty or not. -/
def tailV (a o n c : Nat) : Value := if n = 0 then .slice (some ⟨a, o, none⟩) 0 0 else .slice (some ⟨a, o + 1, none⟩) n c
/-- Such a row. -/
def OwnAt (M : AM) (a : Nat) (L : AM) : Prop := ∃ b, (M ++ L)[a]? = some (some b) ∧ b.kind = .own
theorem OwnAt.new {M L : AM} {k : Nat} {b : Blk} (h : L[k]? = some (some b)) (hk : b.kind = .own) : OwnAt M (M.length + k) L := ⟨b, by rw [get_app]; exact h, hk⟩
theorem Step.tail {x y : Operand} {X e a o n : Nat} {kk : IntKind} {M L L' : AM} (hx : evo t x = some (.slice (some ⟨a, o, none⟩) (n + 1) (n + 1))) (hy : evo t y = some (.int kk 1)) (ho : OwnAt M a L) (hX : P.underlying X = some (.slice e)) (hsz : szB P e = some 1)
    (hlt : Nat.blt d nt = true) (hL : L ++ [none] = L') (hK : K (put t d (tailV a o n n)) (M ++ L')) : Step P nt ops ⟨some d, .slice X x (some y) none none, T, p, af, none⟩ t (M ++ L) K := by
  subst hL
  obtain ⟨b, hb, hk⟩ := ho
  refine .l rfl rfl hlt (by simp [stillB, hX]) (by simp [Op.operands, hx, hy]) (loudN (L := L) rfl rfl (v := tailV a o n n) ?_ hK)
  have b2 : bnd 0 (some (evD t y)) = some 1 := by rw [evD_of hy]; simp [bnd]
  have hb' : ((M ++ L) ++ [none])[a]? = some (some b) := get_old _ hb
  simp only [aloud, evD_of hx, aslice, hX, hsz, Option.map_some, Option.map_none, b2, hb']
  simp only [bnd]
  rw [if_pos (by omega), List.append_assoc]
  by_cases h : n = 0
  · subst h
    rw [if_neg (by omega)]
    simp [hk, tailV]
  · rw [if_pos (by omega)]
    simp [tailV, h]
end
end Go.Proofs.Ytmomjannlnafcaa.Abs
namespace Go.Proofs.Ytmomjannlnafcaa.Abs
open Go.RowKit
open Go.Proofs.Ytmomjannlnafcaa.Sim
/-- A value that names old blocks alone. -/
def Low (N : Nat) (v : Value) : Prop := ∀ (ρ : Nat → Nat) (n : Nat), (∀ i, i < N → ρ i = i) → N ≤ n → Ren ρ n v v
theorem Low.ptr {N a o : Nat} (h : a < N) : Low N (.pointer (some ⟨a, o, none⟩)) := fun ρ n hρ hn => by
  have := Ren.ptr (ρ := ρ) (n := n) a o (by omega)
  rwa [hρ a h] at this
theorem Low.slice {N a o l c : Nat} (h : a < N) : Low N (.slice (some ⟨a, o, none⟩) l c) := fun ρ n hρ hn => by
  have := Ren.slice (ρ := ρ) (n := n) a o l c (by omega)
  rwa [hρ a h] at this
theorem Low.spot {N a o k : Nat} (h : a < N) : Low N (.slice (some ⟨a, o, some k⟩) 0 0) := fun ρ n hρ hn => by
  have := Ren.sliceSpot (ρ := ρ) (n := n) a o k (by omega)
  rwa [hρ a h] at this
theorem Low.of_sl {N a o k : Nat} {v : Value} (h : Sl v a o k) (ha : a < N) : Low N v := by
  rcases h with ⟨rfl, _⟩ | ⟨c, _, rfl⟩ | ⟨_, o', k', rfl⟩
  · exact fun _ _ _ _ => .sliceNil
  · exact .slice ha
  · exact .spot ha
theorem Low.func {N : Nat} {fn : Fn} {c : List Value} (h : ∀ v ∈ c, Low N v) : Low N (.func fn #[] c.toArray) := fun ρ n hρ hn => by
  refine .func fn #[] c.toArray #[] c.toArray rfl (fun i hi => by simp at hi) rfl fun i hi => ?_
  have hi' : i < c.length := by simpa using hi
  have := h c[i] (List.getElem_mem hi') ρ n hρ hn
  simpa [hi'] using this
theorem Low.rid {N n : Nat} {v : Value} (h : Low N v) (hn : N ≤ n) : Ren rid n v v := h _ _ (fun _ _ => rfl) hn
theorem Low.sg {N n : Nat} {σ : List Nat} {v : Value} (h : Low N v) (hn : N ≤ n) : Ren (sg N σ) n v v := h _ _ (fun _ hi => sg_old hi) hn
theorem Low.ne {N n p q : Nat} {v : Value} (h : Low N v) (hn : N ≤ n) : Ren (fun i => if i = N + p then N + q else i) n v v := h _ _ (fun _ hi => if_neg (by omega)) hn
end Go.Proofs.Ytmomjannlnafcaa.Abs
namespace Go.Proofs.Ytmomjannlnafcaa.Abs
set_option linter.unusedSimpArgs false
set_option linter.unusedVariables false
open Go.RowKit
open Go.Proofs.Ytmomjannlnafcaa.Sim
/-- No maps in a memory. -/
def NoMap (M : AM) : Prop := ∀ b, some b ∈ M → isMapK b.kind = false
theorem NoMap.at_ {M : AM} (h : NoMap M) {i : Nat} {b : Blk} (hi : M[i]? = some (some b)) : isMapK b.kind = false := h b (List.mem_of_getElem? hi)
theorem mine_cells {base : Nat} {R : Pl} {b : Blk} {p : Sim.Place} {w : World} (h : BRep base R b p w) (hb : b.kind.mine = true) (hk : isMapK b.kind = false) {o : Obj} (ho : w.heap[p.block]? = some o) : o.isCells = true := by
  unfold BRep at h
  obtain ⟨_, h⟩ := h
  split at h
  · rename_i q; rw [q] at hb; cases hb
  · rename_i q; rw [q] at hb; cases hb
  · rename_i q; rw [q] at hk; cases hk
  · rename_i q; rw [q] at hk; cases hk
  · obtain ⟨cur, ty, h4, _⟩ := h; rw [ho] at h4; injection h4 with h4; rw [h4]; rfl
  · obtain ⟨cur, ty, h4, _⟩ := h; rw [ho] at h4; injection h4 with h4; rw [h4]; rfl
/-- Blocks without maps speak of cells alone. -/
theorem brep_cells {base : Nat} {R : Pl} {b : Blk} {p : Sim.Place} {w w' : World} (h : BRep base R b p w) (hm : isMapK b.kind = false) (hs : w.heap.size ≤ w'.heap.size) (hk : ∀ (k : Nat) (o : Obj), w.heap[k]? = some o → o.isCells = true → w'.heap[k]? = w.heap[k]?) : BRep base R b p w' := by
  have hlt := h.lt
  have ho := Array.getElem?_eq_getElem hlt
  cases hc : (w.heap[p.block]'hlt).isCells with
  | true => exact h.kept (hk _ _ ho hc)
  | false =>
    unfold BRep at *
    obtain ⟨h0, h⟩ := h
    refine ⟨by omega, ?_⟩
    split at h
    · refine ⟨h.1, fun j v hj => ?_⟩
      obtain ⟨v', h1, _⟩ := h.2 j v hj
      unfold World.cell? at h1
      simp only [ho] at h1
      revert h1 hc
      cases w.heap[p.block]'hlt <;> simp [Obj.isCells]
    · exact h
    · rename_i q; rw [q] at hm; cases hm
    · rename_i q; rw [q] at hm; cases hm
    · obtain ⟨cur, ty, h4, _⟩ := h; rw [ho] at h4; injection h4 with h4; rw [h4] at hc; cases hc
    · obtain ⟨cur, ty, h4, _⟩ := h; rw [ho] at h4; injection h4 with h4; rw [h4] at hc; cases hc
/-- Cells that an iterator reads: they stay as they are. -/
def KpF (F : Addr → Value → Prop) (W W' : World) : Prop := ∀ a v, F a v → W.cell? a = some v → W'.cell? a = some v
/-- The cells that are named in the abstract memory, as they lie in the world. -/
def RdF (R : Pl) (F : Nat → Nat → Value → Prop) (a : Addr) (v' : Value) : Prop := ∃ i o v p, F i o v ∧ R i = some p ∧ a = ⟨p.block, p.off + o, none⟩ ∧ Rel R v v'
def putsF (t : Fm) : List (Nat × Value) → Fm
  | [] => t
  | x :: l => putsF (put t x.1 x.2) l
theorem FR.puts {R : Pl} {nt : Nat} : ∀ (ps : List Nat) (vs vs' : List Value) (t : Fm) (u : Array Value), FR R nt t u → (∀ p ∈ ps, p < nt) → vs.length = vs'.length → (∀ (j : Nat) (v : Value), vs[j]? = some v → ∃ v', vs'[j]? = some v' ∧ Rel R v v') →
    FR R nt (putsF t (ps.zip vs)) ((ps.zip vs').foldl (fun t (p, v) => t.setIfInBounds p v) u)
  | [], _, _, t, u, h, _, _, _ => by simpa [putsF] using h
  | p :: ps, [], [], t, u, h, _, _, _ => by simpa [putsF] using h
  | p :: ps, v :: vs, [], t, u, h, _, hl, _ => by simp at hl
  | p :: ps, [], v' :: vs', t, u, h, _, hl, _ => by simp at hl
  | p :: ps, v :: vs, v' :: vs', t, u, h, hp, hl, hv => by
    simp only [List.zip_cons_cons, List.foldl_cons, putsF]
    refine FR.puts ps vs vs' _ _ ?_ (fun q hq => hp q (by simp [hq])) (by simpa using hl) (fun j x hx => by simpa using hv (j + 1) x (by simpa using hx))
    obtain ⟨x', h1, h2⟩ := hv 0 v rfl
    simp at h1
    subst h1
    exact h.put (hp _ (by simp)) h2
/-- How the variables of a round are set from what is handed over. -/
structure Asg (P : Program) (nt : Nat) (asg : Code) (A : Act → Act) (At : Fm → Fm) : Prop where
  run : ∀ (l : Nat) (a : Act) (W : World) (K : Act → World → Prop), K (A a) W → asg.wpIn (Fence.wide.inRound l) (2 - 1 - 1) P (Exit.then K (fun _ _ _ => False)) a W
  rel : ∀ (R : Pl) (t : Fm) (a : Act), FR R nt t a.tmps → FR R nt (At t) (A a).tmps
theorem Asg.skip {P : Program} {nt : Nat} : Asg P nt .skip id id := ⟨fun _ _ _ _ hK => wpIn_skip hK, fun _ _ _ h => h⟩
def atOne (d p : Nat) (t : Fm) : Fm := match t p with
  | some v => put t d v
  | none => fun i => if i = d then none else t i
theorem Asg.one {P : Program} {nt id d p T : Nat} {pos : String} {af : Array Edge} (hd : Nat.blt d nt = true) : Asg P nt (.region id #[⟨some d, .assign (.tmp p), T, pos, af, none⟩] false) (fun a => a.put (some d) (a.eval (.tmp p))) (atOne d p) := by
  refine ⟨fun l a W K hK => ?_, fun R t a h => ?_⟩
  · refine wpIn_region ?_
    have e : List.range (#[(⟨some d, .assign (.tmp p), T, pos, af, none⟩ : Oper)]).size = [0] := rfl
    rw [e]
    simp only [wpOpsIn, List.getElem?_toArray, List.getElem?_cons_zero]
    rw [if_pos (show Region.wanted _ _ = true from rfl)]
    refine ⟨fun _ _ => trivial, ?_⟩
    rw [Oper.semAt_eq _ _ _ (by intro c; simp)]
    exact hK
  · have hd' : d < nt := by simpa using hd
    unfold atOne
    cases hp : t p with
    | some v => exact h.put hd' (h.rel p v hp)
    | none =>
      have hs := h.size
      refine ⟨by show (a.tmps.setIfInBounds d _).size = nt; simpa using hs, fun i v hi => ?_⟩
      by_cases e : i = d
      · simp [e] at hi
      · simp only [if_neg e] at hi
        have := h.rel i v hi
        show Rel R v ((a.tmps.setIfInBounds d _).getD i undef)
        simp only [Array.getD_eq_getD_getElem?, Array.getElem?_setIfInBounds_ne (Ne.symm e)] at this ⊢
        exact this
section
variable {P : Program} {nt : Nat} {M m0 : AM} {t : Fm} {Q : AEx → Fm → AM → Prop}
theorem AW.rangeF {α : Type} (hP : Fit P) {g : Operand} {ps : Array Tmp} {asg body : Code} {A : Act → Act} {At : Fm → Fm} (hA : Asg P nt asg A At) {gf : Nat} {gfn : Func} {gb : Code} {lb : Array Value} (X : List α) (aenc : α → Array Value) (J : List α → AM → Prop) (F : Nat → Nat → Value → Prop)
    (hg : evo t g = some (.func (.func gf) #[] lb)) (hf : P.funcs[gf]? = some gfn) (hb : gfn.body = some gb) (hnr : nrB body = true) (hps : ∀ p ∈ ps.toList, p < nt) (hsz : ∀ x, (aenc x).size = ps.size)
    (hJ0 : J [] M) (hJm : ∀ pre M', J pre M' → ∀ (i : Nat) (b : Blk), M'[i]? = some (some b) → isMapK b.kind = true → ∃ c, M[i]? = some (some c)) (hJF : ∀ pre M', J pre M' → ∀ i o v, F i o v → Rd M' i o v)
    (hseq : ∀ (base : Nat) (R : Pl) (w : World) (lb' : Array Value), base ≤ w.heap.size → MRep base R M w → Rels R lb lb' → ∃ encs : α → Array Value, (∀ x, Rels R (aenc x) (encs x)) ∧ SeqStopsK Fence.wide 1 P gf lb' encs (KpF (RdF R F)) (· = X) (fun _ => True) X.length w)
    (hbody : ∀ pre x M', J pre M' → pre.length < X.length → AW P nt M' body (At (putsF t (ps.toList.zip (aenc x).toList))) (M' ++ []) (fun e _ m' => e = .normal ∧ J (pre ++ [x]) m'))
    (hQ : ∀ M', J X M' → Q .normal t M') : AW P nt m0 (.rangeFunc g ps asg body) t M Q := by
  intro ro hro base R0 w0 R a w hbs h0 hp ht
  obtain rfl : ro = none := by
    rcases hro with h | h
    · exact h
    · cases h
  have hm := hp.rep
  have hbw : base ≤ w.heap.size := Nat.le_trans hbs hp.size
  have hgr := evo_rel ht hg
  obtain ⟨lb', hge, hlb⟩ : ∃ lb', a.eval g = .func (.func gf) #[] lb' ∧ Rels R lb lb' := by
    generalize a.eval g = x at hgr
    cases hgr with
    | func _ _ _ f' c' k1 k2 k3 k4 =>
      have : f' = #[] := Array.eq_empty_of_size_eq_zero (by simpa using k1.symm)
      subst this
      exact ⟨c', rfl, k3, k4⟩
  obtain ⟨encs, he1, he2⟩ := hseq base R w lb' hbw hm hlb
  refine wpIn_depth (n := 2) ?_
  refine wpIn_rangeFunc_ownG (F := Fence.wide) (n := 2) rfl (by omega) hge trivial (fun args w => run_enter hf (hP.names _ _ hf) hb args w) (w0 := w) he2 (fun h k a v hf hv => k a v hf (h a v hf hv)) (fun W l o o' hl ho hoc _ a v hf hv => ?_) (Below.refl _ _) (fun x => by rw [← (he1 x).1, hsz x])
    (fun pre W => ∃ M' R', J pre M' ∧ Post base M M' R R' w W) (fun _ _ _ => False) ?_ (fun c => fun s W W' row h => h.elim) ⟨M, R, hJ0, .refl hm⟩ (fun x => A { tmps := (ps.zip (encs x)).foldl (fun t (p, v) => t.setIfInBounds p v) a.tmps, defers := [] }) (fun l x W K hK => hA.run l _ W K hK) ?_ ?_ ?_
  · -- a turn of a block that is no cells
    exact cell_kept hv (grownBy_putObj' W l o') fun r e => by injection e with e; subst e; exact ⟨o, ho, hoc⟩
  · rintro pre W W' row ⟨M', R', hj, hpo⟩ hgr hrow
    have hcell : ∀ (k : Nat) (o : Obj), W.heap[k]? = some o → o.isCells = true → W'.heap[k]? = W.heap[k]? := fun k o hk hc => grownBy_keeps_cells hgr (fun r e => (hrow r e).2) hk hc
    refine ⟨M', R', hj, ⟨hpo.le, ⟨hpo.rep.none_, fun i b hi => ?_, hpo.rep.apart⟩, hgr.os.trans hpo.os, hgr.tape.trans hpo.tape, hgr.output.trans hpo.output, Nat.le_trans hpo.size hgr.size, fun k hk ho => ?_, hpo.sub⟩⟩
    · obtain ⟨p, k1, k2⟩ := hpo.rep.rep i b hi
      cases hmk : isMapK b.kind with
      | false => exact ⟨p, k1, brep_cells k2 hmk hgr.size hcell⟩
      | true =>
        obtain ⟨c, hc⟩ := hJm _ _ hj i b hi hmk
        obtain ⟨p', k3, k4⟩ := hm.rep i c hc
        have := hpo.le _ _ k3
        rw [k1] at this; injection this with this; subst this
        exact ⟨p, k1, k2.kept (hgr.block _ k2.lt fun e => by have := (hrow _ e.symm).1; have := k4.lt; omega)⟩
    · refine (hgr.block k (Nat.lt_of_lt_of_le hk hpo.size) fun e => ?_).trans (hpo.keep k hk ho)
      have := (hrow k e.symm).1
      omega
  · rintro l pre x W ⟨M1, R1, hj, hpo⟩ hlen
    have hfr : FR R1 nt (putsF t (ps.toList.zip (aenc x).toList)) ((ps.zip (encs x)).foldl (fun t (p, v) => t.setIfInBounds p v) a.tmps) := by
      have h1 := he1 x
      have h2 := FR.puts (R := R1) (nt := nt) ps.toList (aenc x).toList (encs x).toList t a.tmps (ht.mono hpo.le) hps (by simpa using h1.1) (fun j v hj => by
        have hl : j < (aenc x).size := by
          have := (List.getElem?_eq_some_iff.1 hj).1
          simpa using this
        have hr := h1.2 j hl
        have e1 : (aenc x).getD j undef = v := by
          have := (List.getElem?_eq_some_iff.1 hj).2
          simp [hl] at this ⊢
          exact this
        rw [e1] at hr
        have hl' : j < (encs x).size := by rw [← h1.1]; exact hl
        refine ⟨(encs x)[j], by simp [hl'], ?_⟩
        have e2 : (encs x).getD j undef = (encs x)[j] := by simp [hl']
        rw [e2] at hr
        exact hr.mono hpo.le)
      have e3 : (ps.zip (encs x)).foldl (fun t (p, v) => t.setIfInBounds p v) a.tmps = (ps.toList.zip (encs x).toList).foldl (fun t (p, v) => t.setIfInBounds p v) a.tmps := by
        rw [← Array.foldl_toList, Array.toList_zip]
      rw [e3]
      exact h2
    have key := hbody pre x M1 hj hlen
    rw [List.append_nil] at key
    refine wpIn_mono (key (some l) (.inr hnr) base R1 W R1 (A { tmps := (ps.zip (encs x)).foldl (fun t (p, v) => t.setIfInBounds p v) a.tmps, defers := [] }) W (Nat.le_trans hbw hpo.size) hpo.rep (.refl hpo.rep) (hA.rel _ _ _ hfr)) ?_
    rintro ex a' W' ⟨e, t', M2, R2, rfl, h2, h3, h4, rfl, h5⟩
    refine ⟨⟨h3.size, fun k o hB hk hc => ?_⟩, fun ad v ⟨i, o, v0, p, q1, q2, q3, q4⟩ _ => ?_, M2, R2, h5, hpo.trans h3⟩
    · refine (h3.keep k (Array.getElem?_eq_some_iff.1 hk).1 fun ho => ?_).trans hk
      obtain ⟨i, b, p, k1, k2, k3, rfl⟩ := ho
      obtain ⟨p', k4, k5⟩ := hpo.rep.rep i b k1
      rw [k3] at k4; injection k4 with k4; subst k4
      cases hmk : isMapK b.kind with
      | false =>
        have := mine_cells k5 k2 hmk hk
        rw [this] at hc; cases hc
      | true =>
        obtain ⟨c, hc⟩ := hJm _ _ hj i b k1 hmk
        obtain ⟨p', k6, k7⟩ := hm.rep i c hc
        have := hpo.le _ _ k6
        rw [k3] at this; injection this with this; subst this
        have := k7.lt
        omega
    · subst q3
      obtain ⟨b, r1, r2⟩ := hJF _ _ h5 i o v0 q1
      have hle : R.le R2 := hpo.le.trans h3.le
      obtain ⟨v', s1, s2⟩ := (h3.rep.of r1 (hle _ _ q2)).cell r2
      rw [s2.fn _ (q4.mono hle)] at s1
      exact s1
  · rintro D xs W hD rfl ⟨M', R', hj, hpo⟩ hdf
    refine ⟨.normal, t, M', R', rfl, ⟨⟨[D], rfl, by simp, fun E hE => ?_⟩, (Df.of_post (ds := []) hm hpo).kd, hpo.size⟩, hp.trans hpo, ht.mono hpo.le, hQ M' hj⟩
    obtain rfl : E = D := by simpa using hE
    exact ⟨hD, hdf⟩
  · rintro D c pre W _ _ h
    exact h.elim
end
end Go.Proofs.Ytmomjannlnafcaa.Abs
namespace Go.Proofs.Ytmomjannlnafcaa.Abs
set_option linter.unusedSimpArgs false
set_option linter.unusedVariables false
open Go.RowKit Go.Shelf
open Go.Proofs.Ytmomjannlnafcaa.Sim
open Go.Proofs
/-- The places of a row, the last first. -/
def backX (n : Nat) : List {q : Nat // q < n} := List.ofFn fun i : Fin n => ⟨n - 1 - i.val, by have := i.isLt; omega⟩
theorem backX_len (n : Nat) : (backX n).length = n := by simp [backX]
theorem backX_take {n k : Nat} (h : k < n) : (backX n).take (k + 1) = (backX n).take k ++ [⟨n - 1 - k, by omega⟩] := by
  rw [List.take_succ_eq_append_getElem (by rw [backX_len]; exact h)]
  congr 2
  simp [backX]
set_option maxRecDepth 100000 in
set_option maxHeartbeats 2000000 in
theorem back1_in (l Bs bo b off len cap : Nat) (zs : Nat → Int) (hreach : len * 8 ≤ 140737488351232) (Kp : World → World → Prop) (J Jx : List {q : Nat // q < len} → World → Prop)
    (hY : ∀ pre (x : {q : Nat // q < len}) W, J pre W → pre.length < len → YieldAt Fence.wide 0 Try.prog l #[.int .i64 (x.val : Nat), .int .i64 (zs x.val)] W fun e W' =>
      (e = .returned (.bool true) ∧ J (pre ++ [x]) W' ∧ Kp W W') ∨ (e = .returned (.bool false) ∧ Jx (pre ++ [x]) W'))
    (hK : ∀ A B, Kp A B → (A.cell? ⟨Bs, bo, none⟩ = some (.slice (some ⟨b, off, none⟩) len cap) ∧ ∀ j, j < len → A.cell? ⟨b, off + j, none⟩ = some (.int .i64 (zs j))) → (B.cell? ⟨Bs, bo, none⟩ = some (.slice (some ⟨b, off, none⟩) len cap) ∧ ∀ j, j < len → B.cell? ⟨b, off + j, none⟩ = some (.int .i64 (zs j))))
    (W : World) (hc : W.cell? ⟨Bs, bo, none⟩ = some (.slice (some ⟨b, off, none⟩) len cap) ∧ ∀ j, j < len → W.cell? ⟨b, off + j, none⟩ = some (.int .i64 (zs j))) (h0 : J [] W) :
    CallsIn Fence.wide 1 Try.prog 124 #[.func (.yield l) #[] #[], .pointer (some ⟨Bs, bo, none⟩)] W fun e W' => (∃ v, e = .returned v) ∧
      ((∃ ys, ys = backX len ∧ J ys W') ∨ (∃ pre, True ∧ Jx pre W')) := by
  refine callsIn_of_wp Try.func124 rfl trivial ?_ rfl
  simp only [Try.ntmps124, List.size_toArray, List.length_cons, List.length_nil, Nat.reduceAdd, Nat.reduceSub, Array.replicate_succ, Array.replicate_zero, List.push_toArray, List.append_toArray, List.nil_append, List.cons_append]
  have hc1 := hc.1
  gi_wp2
  gi_loopw [3] (fun i wr => ∃ k : Nat, k ≤ len ∧ i = .int .i64 ((len : Int) - 1 - k) ∧ J ((backX len).take k) wr ∧ (wr.cell? ⟨Bs, bo, none⟩ = some (.slice (some ⟨b, off, none⟩) len cap) ∧ ∀ j, j < len → wr.cell? ⟨b, off + j, none⟩ = some (.int .i64 (zs j))))
    (fun i _ => (intOf i + 1).toNat)
  case atStart => exact ⟨0, Nat.zero_le _, by simp, h0, hc⟩
  case round =>
    obtain ⟨k, hk, rfl, hJs, hcs⟩ := hrel
    by_cases hlt : k < len
    · have hcx := hcs.2 (len - 1 - k) (by omega)
      have hcb := hcs.1
      have hge : (0 : Int) ≤ (len : Int) - 1 - k := by omega
      have he : (len : Int) - 1 - k = ((len - 1 - k : Nat) : Int) := by omega
      obtain ⟨fn, tmps, assign, body, hy, hR⟩ := hY _ ⟨len - 1 - k, by omega⟩ wr hJs (by rw [List.length_take, backX_len]; omega)
      rw [he]
      gi_wp2
      refine hR.mono ?_
      rintro e W3 (⟨rfl, hJ3, hk3⟩ | ⟨rfl, hJx3⟩)
      · gi_wp2
        go_roundw
        case rel => exact ⟨k + 1, by omega, by first | (congr 1; done) | (congr 1; omega), by rw [backX_take hlt]; exact hJ3, hK _ _ hk3 hcs⟩
        case measure => first | (simp [intOf]; done) | (simp [intOf]; omega)
      · gi_wp2
        refine bodyPost_ret (results_none rfl _ _ _) rfl ?_
        exact ⟨⟨_, rfl⟩, .inr ⟨_, trivial, hJx3⟩⟩
    · obtain rfl : k = len := by omega
      have hlt0 : ¬ (0 : Int) ≤ (k : Int) - 1 - k := by omega
      gi_wp2
      go_end0
      rw [List.take_of_length_le (by rw [backX_len]; exact Nat.le_refl _)] at hJs
      exact ⟨⟨_, rfl⟩, .inl hJs⟩
set_option maxRecDepth 100000 in
set_option maxHeartbeats 1000000 in
/-- .. at the nil slice: no round. -/
theorem back0_in (l Bs bo : Nat) (J : List {q : Nat // q < 0} → World → Prop) (W : World) (hc : W.cell? ⟨Bs, bo, none⟩ = some (.slice none 0 0)) (h0 : J [] W) :
    CallsIn Fence.wide 1 Try.prog 124 #[.func (.yield l) #[] #[], .pointer (some ⟨Bs, bo, none⟩)] W fun e W' => (∃ v, e = .returned v) ∧ J [] W' := by
  refine callsIn_of_wp Try.func124 rfl trivial ?_ rfl
  simp only [Try.ntmps124, List.size_toArray, List.length_cons, List.length_nil, Nat.reduceAdd, Nat.reduceSub, Array.replicate_succ, Array.replicate_zero, List.push_toArray, List.append_toArray, List.nil_append, List.cons_append]
  gi_wp2
  gi_loopw [3] (fun i wr => i = .int .i64 (-1) ∧ J [] wr) (fun _ _ => 0)
  case atStart => exact ⟨rfl, h0⟩
  case round =>
    obtain ⟨rfl, hJs⟩ := hrel
    gi_wp2
    go_end0
    exact ⟨⟨_, rfl⟩, hJs⟩
/-- What Backward hands back, in the abstract memory. -/
-- function 107
theorem back_ok {m : AM} {q : Option Addr} {n c : Nat} : ACall Try.prog 107 #[.slice q n c] m (Ret (.func (.func 124) #[] #[.pointer (some ⟨m.length, 0, none⟩)]) (m ++ [some { cells := [.slice q n c] }])) := by
  refine ACall.start Try.func107 rfl rfl ?_
  (repeat (first | (with_reducible refine AWo.cons ?_) | ((with_reducible refine Step.id ?_); first | ((with_reducible apply Step.assign); exact rfl; exact rfl) | ((with_reducible apply Step.fn); exact rfl; exact rfl; exact rfl) | ((with_reducible apply Step.box 0); exact rfl; exact rfl; (focus (kernel_rfl)); exact rfl; (focus (first | (simp only [List.nil_append, List.cons_append, List.set_cons_zero, List.set_cons_succ, iv_set, bv_set, iv_rep, bv_rep]; done) | (simp only [List.nil_append, List.cons_append, List.set_cons_zero, List.set_cons_succ, iv_set, bv_set, iv_rep, bv_rep]; rfl) | rfl)))) | (with_reducible refine AWo.nil ?_) | ((with_reducible apply AW.seq)) | ((with_reducible apply Then.n)) | ((with_reducible apply AW.regL))))
  (refine AW.ret ?_; (repeat (first | refine Then.r ?_ | refine InBlk.r ?_)))
  exact ⟨_, rfl, rfl, rfl⟩
end Go.Proofs.Ytmomjannlnafcaa.Abs
namespace Go.Proofs.Ytmomjannlnafcaa.Abs
set_option linter.unusedSimpArgs false
set_option linter.unusedVariables false
open Go.RowKit
open Go.Proofs.Ytmomjannlnafcaa.Sim
open Go.Proofs
/-- The greatest of the first k numbers, or 0. -/
def mxL (row : List Int) : Nat → Int
  | 0 => 0
  | k + 1 => max (mxL row k) (row.getD k 0)
theorem mxL_bd {row : List Int} {B : Int} (hB : 0 ≤ B) (h : ∀ k, 0 ≤ row.getD k 0 ∧ row.getD k 0 ≤ B) : ∀ k, 0 ≤ mxL row k ∧ mxL row k ≤ B
  | 0 => ⟨Int.le_refl _, hB⟩
  | k + 1 => by
    have h1 := mxL_bd hB h k
    have h2 := h k
    simp only [mxL]
    omega
theorem fill_set (last : Int) {q n : Nat} (h : q < n) : (List.replicate q last ++ List.replicate (n - q) 0).set q last = List.replicate (q + 1) last ++ List.replicate (n - (q + 1)) 0 := by
  rw [List.set_append_right _ _ (by simp), List.length_replicate, Nat.sub_self, show n - q = (n - (q + 1)) + 1 by omega, List.replicate_succ, List.set_cons_zero, List.replicate_succ', List.append_assoc]
  rfl
/-- What the rounds over the order read. -/
def rdBack (s b z n : Nat) (u : Value) (P : List Nat) (i o : Nat) (v : Value) : Prop := (i = s ∧ o = 0 ∧ v = u) ∨ ∃ q, q < n ∧ i = b ∧ o = z + q ∧ v = .int .i64 ((P.getD q 0 : Nat) : Int)
theorem back_stops {base : Nat} {R : Pl} {M : AM} {w : World} {s b z n c : Nat} {P : List Nat} {p : Sim.Place} (hm : MRep base R M w) (hs : R s = some p) (hn : n ≤ 1000000) (hnc : n ≤ c)
    (h1 : Rd M s 0 (.slice (some ⟨b, z, none⟩) n c)) (h2 : ∀ q, q < n → Rd M b (z + q) (.int .i64 ((P.getD q 0 : Nat) : Int))) (hb : 0 < n → ∃ pb, R b = some pb) (h0 : 0 < n) :
    SeqStopsK Fence.wide 1 Try.prog 124 #[.pointer (some ⟨p.block, p.off + 0, none⟩)] (fun x : {q : Nat // q < n} => #[.int .i64 (x.val : Nat), .int .i64 ((P.getD x.val 0 : Nat) : Int)]) (KpF (RdF R (rdBack s b z n (.slice (some ⟨b, z, none⟩) n c) P))) (· = backX n) (fun _ => True) n w := by
  obtain ⟨pb, hpb⟩ := hb h0
  intro l J Jx W hW hJ hJx hY h0'
  have hrel : Rel R (.slice (some ⟨b, z, none⟩) n c) (.slice (some ⟨pb.block, pb.off + z, none⟩) n (c + pb.extra)) := .slice b z n c pb hpb hnc
  have cell : ∀ (i o : Nat) (v v' : Value) (pi : Sim.Place), Rd M i o v → R i = some pi → Rel R v v' → w.cell? ⟨pi.block, pi.off + o, none⟩ = some v' := fun i o v v' pi ⟨blk, r1, r2⟩ hpi hr => by
    obtain ⟨x, q1, q2⟩ := (hm.of r1 hpi).cell r2
    rw [hr.fn _ q2]
    exact q1
  have c1 := cell s 0 _ _ p h1 hs hrel
  have c2 := fun q hq => cell b (z + q) _ _ pb (h2 q hq) hpb (.int _ _)
  have up : ∀ a v, w.cell? a = some v → W.cell? a = some v := fun a v h => by
    have hlt := World.block_lt_of_cell? w a h
    exact (hW.cell (p := a) hlt).trans h
  refine back1_in l p.block (p.off + 0) pb.block (pb.off + z) n (c + pb.extra) (fun q => ((P.getD q 0 : Nat) : Int)) (by omega) _ J Jx (fun pre x W1 => hY pre x W1) (fun A B hk ⟨k1, k2⟩ => ⟨?_, fun j hj => ?_⟩) W ⟨up _ _ c1, fun j hj => ?_⟩ h0'
  · exact hk _ _ ⟨s, 0, _, p, .inl ⟨rfl, rfl, rfl⟩, hs, rfl, hrel⟩ k1
  · exact hk _ _ ⟨b, z + j, _, pb, .inr ⟨j, hj, rfl, rfl, rfl⟩, hpb, by rw [Nat.add_assoc], .int _ _⟩ (k2 j hj)
  · have := up _ _ (c2 j hj)
    rwa [← Nat.add_assoc] at this
set_option maxHeartbeats 8000000 in
set_option maxRecDepth 100000 in
theorem late_pos {m : AM} {v : Value} {j : List Job} {P : List Nat} {b z c : Nat} (hj : Jobs m v j) (hu : Ints m (.slice (some ⟨b, z, none⟩) P.length c) (nv P)) (hJ : JOk j) (hT : Topo j P) (hn : P.length = j.length) (h0 : 0 < P.length) (hc : P.length ≤ c)
    (hRb : ∀ q, q < P.length → Rd m b (z + q) (.int .i64 ((P.getD q 0 : Nat) : Int))) {row : List Int} (hrow : laL j (mxL (eaR j P P.length) j.length) P.reverse = row) :
    ACall Try.prog 80 #[v, .slice (some ⟨b, z, none⟩) P.length c] m (More (fun M x => ∃ a, m.length ≤ a ∧ x = .slice (some ⟨a, 0, none⟩) j.length j.length ∧ M[a]? = some (some { cells := iv row })) m) := by
  subst hrow
  have h40 := hJ.len
  have hin : ∀ q, q < P.length → P.getD q 0 < j.length := fun q hq => hT.in_ hq
  have bd := eaR_bd hJ hin P.length (Nat.le_refl _)
  have hE := fun T => early_ok (hj.old T) (show Ints (m ++ T) (.slice (some ⟨b, z, none⟩) P.length c) (nv P) from by obtain ⟨a, o, x1, x2, x3⟩ := hu; exact ⟨a, o, x1, by rw [List.length_append]; omega, fun k hk => (x3 k hk).old T⟩) hJ hin (by omega) rfl
  have le := eaR_len j P P.length
  have hbk := fun M => back_ok (m := M) (q := some ⟨b, z, none⟩) (n := P.length) (c := c)
  obtain ⟨a, o, h1, h2, h3⟩ := id hj
  obtain ⟨qv, cv, rfl⟩ : ∃ q c, v = .slice q j.length c := by
    rcases h1 with ⟨rfl, h⟩ | ⟨c, _, rfl⟩ | ⟨h, o', k, rfl⟩
    · omega
    · exact ⟨_, _, rfl⟩
    · omega
  generalize eaR j P P.length = er at *
  have bm := mxL_bd (row := er) (B := 10000 * P.length) (by omega) bd
  refine ACall.start Try.func80 rfl rfl ?_
  (repeat (first | (with_reducible refine AWo.cons ?_) | ((with_reducible refine Step.id ?_); first | ((with_reducible apply Step.move); exact rfl; exact rfl) | ((with_reducible apply Step.assign); exact rfl; exact rfl) | ((with_reducible apply Step.load); exact rfl; (focus (decide +kernel)); exact rfl; (focus (exact Rd.new rfl rfl))) | ((with_reducible apply Step.len); exact rfl; (focus (first | assumption | exact Sl.mk (by omega))); (focus (decide +kernel)); exact rfl) | ((with_reducible apply Step.callN fit (k := 3)); exact rfl; exact rfl; exact Try.func79; exact rfl; exact rfl; exact (hE _); (focus (first | (simp only [List.nil_append, List.cons_append, List.set_cons_zero, List.set_cons_succ, iv_set, bv_set, iv_rep, bv_rep]; done) | (simp only [List.nil_append, List.cons_append, List.set_cons_zero, List.set_cons_succ, iv_set, bv_set, iv_rep, bv_rep]; rfl) | rfl))) | ((with_reducible apply Step.box 0); exact rfl; exact rfl; (focus (kernel_rfl)); exact rfl; (focus (first | (simp only [List.nil_append, List.cons_append, List.set_cons_zero, List.set_cons_succ, iv_set, bv_set, iv_rep, bv_rep]; done) | (simp only [List.nil_append, List.cons_append, List.set_cons_zero, List.set_cons_succ, iv_set, bv_set, iv_rep, bv_rep]; rfl) | rfl))) | ((with_reducible apply Step.make1 1); exact rfl; exact rfl; exact rfl; exact el23; (focus (omega)); exact rfl; (focus (first | (simp only [List.nil_append, List.cons_append, List.set_cons_zero, List.set_cons_succ, iv_set, bv_set, iv_rep, bv_rep]; done) | (simp only [List.nil_append, List.cons_append, List.set_cons_zero, List.set_cons_succ, iv_set, bv_set, iv_rep, bv_rep]; rfl) | rfl))) | ((with_reducible apply Step.alloc 2); exact rfl; exact ze23; exact rfl; (focus (first | (simp only [List.nil_append, List.cons_append, List.set_cons_zero, List.set_cons_succ, iv_set, bv_set, iv_rep, bv_rep]; done) | (simp only [List.nil_append, List.cons_append, List.set_cons_zero, List.set_cons_succ, iv_set, bv_set, iv_rep, bv_rep]; rfl) | rfl))) | ((with_reducible apply Step.store (k := 2)); exact rfl; exact rfl; exact rfl; exact rfl; (focus (decide +kernel)); exact rfl; exact rfl; (focus (first | omega | (simp [iv, bv]; done) | (simp [iv, bv]; omega))); (focus (first | (simp only [List.nil_append, List.cons_append, List.set_cons_zero, List.set_cons_succ, iv_set, bv_set, iv_rep, bv_rep]; done) | (simp only [List.nil_append, List.cons_append, List.set_cons_zero, List.set_cons_succ, iv_set, bv_set, iv_rep, bv_rep]; rfl) | rfl)))) | (with_reducible refine AWo.nil ?_) | ((with_reducible apply AW.seq)) | ((with_reducible apply Then.n)) | ((with_reducible apply AW.regL)) | ((with_reducible apply AW.block))))
  refine AW.loopT (fun n' t L => ∃ q : Nat, n' = j.length - q ∧ q ≤ j.length ∧ L = [some { cells := [.slice qv j.length cv] }, some { cells := iv (List.replicate j.length 0) }, some { cells := [.slice (some ⟨m.length + 1, 0, none⟩) j.length j.length] }, some { cells := iv er }] ∧
    t = [(1, .slice (some ⟨b, z, none⟩) P.length c), (2, .pointer (some ⟨m.length + 0, 0, none⟩)), (5, .pointer (some ⟨m.length + 2, 0, none⟩)), (6, .int .i64 (mxL er q)), (19, .slice (some ⟨m.length + 3, 0, none⟩) j.length j.length), (20, .int .i64 (j.length : Nat)), (21, .int .i64 (q : Nat))]) ⟨_, _, _, (Or.inl ⟨rfl, (by repeat (first | exact trivial | (refine And.intro rfl ?_)))⟩), 0, rfl, Nat.zero_le _, rfl, rfl⟩ ?_
  · rintro n' t L ⟨q, rfl, hq, rfl, rfl⟩
    have bq := bm q
    rcases Nat.lt_or_ge q j.length with hql | hge
    · have bq1 := bm (q + 1)
      have e1 : mxL er (q + 1) = max (mxL er q) (er.getD q 0) := rfl
      (repeat (first | (with_reducible refine AWo.cons ?_) | ((with_reducible refine Step.id ?_); first | ((with_reducible apply Step.move); exact rfl; exact rfl) | ((with_reducible apply Step.assign); exact rfl; exact rfl) | ((with_reducible apply Step.load); exact rfl; (focus (decide +kernel)); exact rfl; (focus (exact Rd.new rfl (iv_get (by first | omega | (simp; omega)))))) | ((with_reducible apply Step.ix1z); exact rfl; (focus (exact Sl.mk (by omega))); exact rfl; (focus (decide +kernel)); exact rfl; (focus (omega))) | ((with_reducible apply Step.add); exact rfl; exact rfl; (focus (omega)); exact rfl) | ((with_reducible apply Step.lss); exact rfl; exact rfl; exact rfl) | ((with_reducible apply Step.max); exact rfl; exact rfl; exact rfl)) | (with_reducible refine AWo.nil ?_) | ((with_reducible apply AW.seq)) | ((with_reducible apply Then.n)) | ((with_reducible apply AW.regL)) | ((with_reducible apply AW.block)) | ((with_reducible apply InBlk.n)) | ((with_reducible apply AW.skip)) | ((with_reducible apply AW.condT); exact rfl; (focus ((simp only [decide_eq_true_eq, decide_eq_false_iff_not, Bool.not_eq_true', Bool.not_eq_false', Bool.not_true, Bool.not_false]; first | assumption | omega))))))
      exact ⟨_, _, _, by omega, (Or.inl ⟨rfl, (by repeat (first | exact trivial | (refine And.intro rfl ?_)))⟩), q + 1, rfl, by omega, rfl, rfl⟩
    · obtain rfl : q = j.length := by omega
      generalize mxL er j.length = last at *
      (repeat (first | (with_reducible refine AWo.cons ?_) | ((with_reducible refine Step.id ?_); first | ((with_reducible apply Step.move); exact rfl; exact rfl) | ((with_reducible apply Step.load); exact rfl; (focus (decide +kernel)); exact rfl; (focus (exact Rd.new rfl rfl))) | ((with_reducible apply Step.lss); exact rfl; exact rfl; exact rfl) | ((with_reducible apply Step.len); exact rfl; (focus (exact Sl.mk (by omega))); (focus (decide +kernel)); exact rfl)) | (with_reducible refine AWo.nil ?_) | ((with_reducible apply AW.seq)) | ((with_reducible apply Then.n)) | ((with_reducible apply AW.regL)) | ((with_reducible apply AW.block)) | ((with_reducible apply AW.exit)) | ((with_reducible apply InBlk.hit)) | ((with_reducible apply Then.e)) | ((with_reducible apply AW.condF); exact rfl; (focus ((simp only [decide_eq_true_eq, decide_eq_false_iff_not, Bool.not_eq_true', Bool.not_eq_false', Bool.not_true, Bool.not_false]; first | assumption | omega))))))
      refine AW.loopT (fun n' t L => ∃ q : Nat, n' = j.length - q ∧ q ≤ j.length ∧ L = [some { cells := [.slice qv j.length cv] }, some { cells := iv (List.replicate q last ++ List.replicate (j.length - q) 0) }, some { cells := [.slice (some ⟨m.length + 1, 0, none⟩) j.length j.length] }, some { cells := iv er }] ∧
        t = [(1, .slice (some ⟨b, z, none⟩) P.length c), (2, .pointer (some ⟨m.length + 0, 0, none⟩)), (5, .pointer (some ⟨m.length + 2, 0, none⟩)), (6, .int .i64 last), (30, .int .i64 (j.length : Nat)), (31, .int .i64 (q : Nat))]) ⟨_, _, _, (Or.inl ⟨rfl, (by repeat (first | exact trivial | (refine And.intro rfl ?_)))⟩), 0, rfl, Nat.zero_le _, by simp, rfl⟩ ?_
      rintro n' t L ⟨q, rfl, hq, rfl, rfl⟩
      rcases Nat.lt_or_ge q j.length with hql | hge
      · have hset := fill_set last hql
        have hfl : (List.replicate q last ++ List.replicate (j.length - q) 0).length = j.length := by simp; omega
        generalize List.replicate q last ++ List.replicate (j.length - q) 0 = fl at *
        (repeat (first | (with_reducible refine AWo.cons ?_) | ((with_reducible refine Step.id ?_); first | ((with_reducible apply Step.move); exact rfl; exact rfl) | ((with_reducible apply Step.assign); exact rfl; exact rfl) | ((with_reducible apply Step.load); exact rfl; (focus (decide +kernel)); exact rfl; (focus (exact Rd.new rfl rfl))) | ((with_reducible apply Step.ix1z); exact rfl; (focus (exact Sl.mk (by omega))); exact rfl; (focus (decide +kernel)); exact rfl; (focus (omega))) | ((with_reducible apply Step.add); exact rfl; exact rfl; (focus (omega)); exact rfl) | ((with_reducible apply Step.lss); exact rfl; exact rfl; exact rfl) | ((with_reducible apply Step.store (k := 1)); exact rfl; exact rfl; exact rfl; exact rfl; (focus (decide +kernel)); exact rfl; exact rfl; (focus (first | omega | (simp [iv, bv]; done) | (simp [iv, bv]; omega))); (focus (first | (simp only [List.nil_append, List.cons_append, List.set_cons_zero, List.set_cons_succ, iv_set, bv_set, iv_rep, bv_rep]; done) | (simp only [List.nil_append, List.cons_append, List.set_cons_zero, List.set_cons_succ, iv_set, bv_set, iv_rep, bv_rep]; rfl) | rfl)))) | (with_reducible refine AWo.nil ?_) | ((with_reducible apply AW.seq)) | ((with_reducible apply Then.n)) | ((with_reducible apply AW.regL)) | ((with_reducible apply AW.block)) | ((with_reducible apply InBlk.n)) | ((with_reducible apply AW.skip)) | ((with_reducible apply AW.condT); exact rfl; (focus ((simp only [decide_eq_true_eq, decide_eq_false_iff_not, Bool.not_eq_true', Bool.not_eq_false', Bool.not_true, Bool.not_false]; first | assumption | omega))))))
        exact ⟨_, [(1, .slice (some ⟨b, z, none⟩) P.length c), (2, .pointer (some ⟨m.length + 0, 0, none⟩)), (5, .pointer (some ⟨m.length + 2, 0, none⟩)), (6, .int .i64 last), (30, .int .i64 (j.length : Nat)), (31, .int .i64 (q + 1 : Nat))], _, by omega, (Or.inl ⟨rfl, (by repeat (first | exact trivial | (refine And.intro rfl ?_)))⟩), q + 1, rfl, by omega, by rw [← hset], rfl⟩
      · obtain rfl : q = j.length := by omega
        rw [Nat.sub_self, List.replicate_zero, List.append_nil]
        (repeat (first | (with_reducible refine AWo.cons ?_) | ((with_reducible refine Step.id ?_); first | ((with_reducible apply Step.move); exact rfl; exact rfl) | ((with_reducible apply Step.lss); exact rfl; exact rfl; exact rfl) | ((with_reducible apply Step.callM fit); exact rfl; exact Try.func107; exact rfl; exact rfl; exact (hbk _))) | (with_reducible refine AWo.nil ?_) | ((with_reducible apply AW.seq)) | ((with_reducible apply Then.n)) | ((with_reducible apply AW.regL)) | ((with_reducible apply AW.block)) | ((with_reducible apply AW.exit)) | ((with_reducible apply InBlk.hit)) | ((with_reducible apply Then.e)) | ((with_reducible apply AW.condF); exact rfl; (focus ((simp only [decide_eq_true_eq, decide_eq_false_iff_not, Bool.not_eq_true', Bool.not_eq_false', Bool.not_true, Bool.not_false]; first | assumption | omega))))))
        have hids : ∀ pre : List {q : Nat // q < P.length}, ∀ i ∈ pre.map (fun x => P.getD x.val 0), i < j.length := fun pre i hi => by
          obtain ⟨x, _, rfl⟩ := List.mem_map.1 hi
          exact hin _ x.property
        have hXm : (backX P.length).map (fun x => P.getD x.val 0) = P.reverse := by
          apply List.ext_getElem
          · simp [backX_len]
          · intro i h1 h2
            have hi : i < P.length := by simpa using h2
            rw [List.getElem_map, List.getElem_reverse]
            simp only [backX, List.getElem_ofFn]
            exact gD (by omega)
        refine AW.rangeF fit (Asg.one rfl) (backX P.length) (fun x => #[.int .i64 (x.val : Nat), .int .i64 ((P.getD x.val 0 : Nat) : Int)])
          (fun pre M' => M' = m ++ [some { cells := [.slice qv j.length cv] }, some { cells := iv (laL j last (pre.map fun x => P.getD x.val 0)) }, some { cells := [.slice (some ⟨m.length + 1, 0, none⟩) j.length j.length] }, some { cells := iv er }, some { cells := [.slice (some ⟨b, z, none⟩) P.length c] }])
          (rdBack (m.length + 4) b z P.length (.slice (some ⟨b, z, none⟩) P.length c) P) rfl Try.func124 rfl (by kernel_rfl) (by decide) (fun _ => rfl) ?_ ?_ ?_ ?_ ?_ ?_
        · simp [laL]
        · rintro pre M' rfl i bb hi hk
          by_cases hl : i < m.length
          · rw [List.getElem?_append_left hl] at hi
            exact ⟨bb, by rw [List.append_assoc, List.getElem?_append_left hl]; exact hi⟩
          · rw [List.getElem?_append_right (by omega)] at hi
            generalize i - m.length = d at hi
            rcases d with _ | _ | _ | _ | _ | d
            all_goals (simp at hi; try (subst hi; cases hk))
        · rintro pre M' rfl i o' v' (⟨rfl, rfl, rfl⟩ | ⟨q, hq, rfl, rfl, rfl⟩)
          · exact Rd.new (k := 4) rfl rfl
          · exact (hRb q hq).old _
        · rintro base R w lb' hbs hm hlb
          obtain ⟨p, hp, rfl⟩ : ∃ p, R (m.length + 4) = some p ∧ lb' = #[.pointer (some ⟨p.block, p.off + 0, none⟩)] := by
            have e1 := hlb.1
            have e2 := hlb.2 0 (by simp)
            have e3 : lb' = #[lb'.getD 0 undef] := by
              apply Array.ext
              · simpa using e1.symm
              · intro k q1 q2
                have : k = 0 := by simp at q2; omega
                subst this
                simp [q1]
            rw [e3]
            generalize lb'.getD 0 undef = y at e2
            simp only [List.length_append, List.length_cons, List.length_nil, Array.getD_eq_getD_getElem?, List.getElem?_toArray, List.getElem?_cons_zero, Option.getD_some] at e2
            cases e2 with
            | ptr _ _ p hp => exact ⟨p, hp, rfl⟩
          refine ⟨_, fun x => ⟨rfl, fun k hk => ?_⟩, ?_⟩
          rotate_left
          · rw [backX_len]
            refine back_stops hm hp (by omega) hc (by rw [List.append_assoc]; exact Rd.new (k := 4) rfl rfl) (fun q hq => ((hRb q hq).old _).old _) (fun _ => ?_) h0
            obtain ⟨blk, r1, _⟩ := hRb 0 h0
            obtain ⟨pb, r2, _⟩ := hm.rep b blk (get_old _ (get_old _ r1))
            exact ⟨pb, r2⟩
          · have : k = 0 ∨ k = 1 := by simp at hk; omega
            rcases this with rfl | rfl
            · exact Rel.int _ _
            · exact Rel.int _ _
        · rintro pre x M' rfl hlen
          rw [List.append_nil]
          obtain ⟨qx, hqx⟩ := x
          have hi := hin qx hqx
          obtain ⟨w, hr, hw⟩ := h3 _ hi
          obtain ⟨wa, wo, w1, w2, w3⟩ := id hw
          have hnum := hJ.num _ hi
          have hal := hJ.alen hi
          have hris := fun s hs => aft_rng hJ hi (s := s) hs
          have bdL := laL_bd hT hn hJ (last := last) _ (hids pre)
          have lenL := laL_len j last (pre.map fun x => P.getD x.val 0)
          have st : laL j last ((pre ++ [(⟨qx, hqx⟩ : {q : Nat // q < P.length})]).map fun x => P.getD x.val 0) = laI (laL j last (pre.map fun x => P.getD x.val 0)) (P.getD qx 0) (tmJ j (P.getD qx 0)) (aft j (P.getD qx 0)) (aft j (P.getD qx 0)).length := by
            rw [List.map_append]; exact laL_snoc _ _ _ _
          have hat := fun s hs k => laI_at (row := laL j last (pre.map fun x => P.getD x.val 0)) (t := tmJ j (P.getD qx 0)) (aft_hl hT hn hJ hi lenL) s hs k
          have lI := fun s => laI_len (laL j last (pre.map fun x => P.getD x.val 0)) (P.getD qx 0) (tmJ j (P.getD qx 0)) (aft j (P.getD qx 0)) s
          rw [List.length_map] at bdL
          rw [backX_len] at hlen
          rw [st]
          change AW _ _ _ _ (put (put (put _ 41 (.int .i64 (qx : Nat))) 42 (.int .i64 ((P.getD qx 0 : Nat) : Int))) 11 (.int .i64 ((P.getD qx 0 : Nat) : Int))) _ _
          simp only [aft, tmJ] at *
          generalize P.getD qx 0 = i at *
          have hst2 : ∀ s, laI (laL j last (pre.map fun x => P.getD x.val 0)) i (j.getD i default).time (j.getD i default).after (s + 1) = (laI (laL j last (pre.map fun x => P.getD x.val 0)) i (j.getD i default).time (j.getD i default).after s).set ((j.getD i default).after.getD s 0).toNat (min ((laI (laL j last (pre.map fun x => P.getD x.val 0)) i (j.getD i default).time (j.getD i default).after s).getD ((j.getD i default).after.getD s 0).toNat 0) ((laI (laL j last (pre.map fun x => P.getD x.val 0)) i (j.getD i default).time (j.getD i default).after s).getD i 0 - (j.getD i default).time)) := fun s => rfl
          generalize j.getD i default = x at *
          obtain ⟨x1, x2, x3, af⟩ := x
          simp only [Job.cells] at *
          generalize laL j last (pre.map fun x => P.getD x.val 0) = row at *
          have hbI : ∀ s, s ≤ af.length → ∀ k, k < j.length → -1000000 ≤ (laI row i x1 af s).getD k 0 ∧ (laI row i x1 af s).getD k 0 ≤ 1000000 := fun s hs k hk => by
            have q1 := bdL k hk
            have q2 := bdL i hi
            rw [hat s hs k]
            split <;> omega
          clear hat
          (repeat (first | (with_reducible refine AWo.cons ?_) | ((with_reducible refine Step.id ?_); first | ((with_reducible apply Step.move); exact rfl; exact rfl) | ((with_reducible apply Step.load); exact rfl; (focus (decide +kernel)); exact rfl; (focus (first | exact Rd.new rfl rfl | exact Rd.old _ (hr.at_ 3 rfl)))) | ((with_reducible apply Step.ix (s := 4)); exact rfl; (focus (assumption)); exact rfl; (focus (decide +kernel)); exact rfl; (focus (omega))) | ((with_reducible apply Step.field (k := 3)); exact rfl; (focus (decide +kernel)); exact rfl) | ((with_reducible apply Step.len); exact rfl; (focus (assumption)); (focus (decide +kernel)); exact rfl)) | (with_reducible refine AWo.nil ?_) | ((with_reducible apply AW.seq)) | ((with_reducible apply Then.n)) | ((with_reducible apply AW.regL)) | ((with_reducible apply AW.block))))
          refine AW.loopW (fun n' t M'' => ∃ s : Nat, n' = af.length - s ∧ s ≤ af.length ∧ M'' = m ++ [some { cells := [.slice qv j.length cv] }, some { cells := iv (laI row i x1 af s) }, some { cells := [.slice (some ⟨m.length + 1, 0, none⟩) j.length j.length] }, some { cells := iv er }, some { cells := [.slice (some ⟨b, z, none⟩) P.length c] }] ∧
            t = fr [(2, .pointer (some ⟨m.length + 0, 0, none⟩)), (5, .pointer (some ⟨m.length + 2, 0, none⟩)), (11, .int .i64 (i : Nat)), (47, w), (48, .int .i64 (af.length : Nat)), (49, .int .i64 (s : Nat))]) ⟨_, _, (by repeat (first | exact trivial | (refine And.intro rfl ?_))), 0, rfl, Nat.zero_le _, rfl, rfl⟩ ?_
          rintro n' t M'' ⟨s, rfl, hs, rfl, rfl⟩
          have lIs := lI s
          rcases Nat.lt_or_ge s af.length with hsl | hsg
          · have hrs := hris s hsl
            have hra := w3 s hsl
            obtain ⟨y, hy⟩ := Int.eq_ofNat_of_zero_le hrs.1
            have hs2 := hst2 s
            rw [hy, Int.toNat_natCast] at hs2
            rw [hy] at hra
            have hyl : y < j.length := by omega
            have b1 := hbI s hs y hyl
            have b2 := hbI s hs i hi
            generalize laI row i x1 af s = rs at *
            (repeat (first | (with_reducible refine AWo.cons ?_) | ((with_reducible refine Step.id ?_); first | ((with_reducible apply Step.move); exact rfl; exact rfl) | ((with_reducible apply Step.assign); exact rfl; exact rfl) | ((with_reducible apply Step.load); exact rfl; (focus (decide +kernel)); exact rfl; (focus (first | exact Rd.new rfl (iv_get (by first | omega | (simp; omega))) | exact Rd.new rfl rfl | exact Rd.old _ (by assumption) | exact Rd.old _ (hr.at_ 0 rfl)))) | ((with_reducible apply Step.ix1z); exact rfl; (focus (exact Sl.mk (by omega))); exact rfl; (focus (decide +kernel)); exact rfl; (focus (omega))) | ((with_reducible apply Step.ix1); exact rfl; (focus (assumption)); exact rfl; (focus (decide +kernel)); exact rfl; (focus (omega))) | ((with_reducible apply Step.ix (s := 4)); exact rfl; (focus (assumption)); exact rfl; (focus (decide +kernel)); exact rfl; (focus (omega))) | ((with_reducible apply Step.field0); exact rfl; (focus (decide +kernel)); exact rfl) | ((with_reducible apply Step.add); exact rfl; exact rfl; (focus (omega)); exact rfl) | ((with_reducible apply Step.sub); exact rfl; exact rfl; (focus (omega)); exact rfl) | ((with_reducible apply Step.lss); exact rfl; exact rfl; exact rfl) | ((with_reducible apply Step.min); exact rfl; exact rfl; exact rfl) | ((with_reducible apply Step.store (k := 1)); exact rfl; exact rfl; exact rfl; exact rfl; (focus (decide +kernel)); exact rfl; exact rfl; (focus (first | omega | (simp [iv, bv]; done) | (simp [iv, bv]; omega))); (focus (first | (simp only [List.nil_append, List.cons_append, List.set_cons_zero, List.set_cons_succ, iv_set, bv_set, iv_rep, bv_rep]; done) | (simp only [List.nil_append, List.cons_append, List.set_cons_zero, List.set_cons_succ, iv_set, bv_set, iv_rep, bv_rep]; rfl) | rfl)))) | (with_reducible refine AWo.nil ?_) | ((with_reducible apply AW.seq)) | ((with_reducible apply Then.n)) | ((with_reducible apply AW.regL)) | ((with_reducible apply AW.block)) | ((with_reducible apply AW.drawL fit); (focus (decide +kernel))) | ((with_reducible apply InBlk.n)) | ((with_reducible apply AW.skip)) | ((with_reducible apply AW.condT); exact rfl; (focus ((simp only [decide_eq_true_eq, decide_eq_false_iff_not, Bool.not_eq_true', Bool.not_eq_false', Bool.not_true, Bool.not_false]; first | assumption | omega))))))
            exact ⟨_, [(2, .pointer (some ⟨m.length + 0, 0, none⟩)), (5, .pointer (some ⟨m.length + 2, 0, none⟩)), (11, .int .i64 (i : Nat)), (47, w), (48, .int .i64 (af.length : Nat)), (49, .int .i64 ((s + 1 : Nat) : Int))], by omega, (by repeat (first | exact trivial | (refine And.intro rfl ?_))), s + 1, rfl, by omega, by rw [hs2], rfl⟩
          · obtain rfl : s = af.length := by omega
            (repeat (first | (with_reducible refine AWo.cons ?_) | ((with_reducible refine Step.id ?_); ((with_reducible apply Step.lss); exact rfl; exact rfl; exact rfl)) | (with_reducible refine AWo.nil ?_) | ((with_reducible apply AW.seq)) | ((with_reducible apply Then.n)) | ((with_reducible apply AW.regL)) | ((with_reducible apply AW.exit)) | ((with_reducible apply InBlk.n)) | ((with_reducible apply InBlk.hit)) | ((with_reducible apply Then.e)) | ((with_reducible apply AW.condF); exact rfl; (focus ((simp only [decide_eq_true_eq, decide_eq_false_iff_not, Bool.not_eq_true', Bool.not_eq_false', Bool.not_true, Bool.not_false]; first | assumption | omega))))))
            exact ⟨rfl, rfl⟩
        · rintro M' rfl
          rw [hXm]
          generalize laL j last P.reverse = row
          (repeat (first | (with_reducible refine AWo.cons ?_) | ((with_reducible refine Step.id ?_); first | ((with_reducible apply Step.assign); exact rfl; exact rfl) | ((with_reducible apply Step.load); exact rfl; (focus (decide +kernel)); exact rfl; (focus (exact Rd.new rfl rfl)))) | (with_reducible refine AWo.nil ?_) | ((with_reducible apply AW.seq)) | ((with_reducible apply Then.n)) | ((with_reducible apply AW.regL)) | ((with_reducible apply InBlk.n))))
          (refine AW.ret ?_; (repeat (first | refine Then.r ?_ | refine InBlk.r ?_)))
          exact ⟨_, rfl, _, rfl, m.length + 1, by omega, rfl, by rw [get_app]; rfl⟩
end Go.Proofs.Ytmomjannlnafcaa.Abs
namespace Go.Proofs.Ytmomjannlnafcaa.Abs
set_option linter.unusedSimpArgs false
set_option linter.unusedVariables false
open Go.RowKit
open Go.Proofs.Ytmomjannlnafcaa.Sim
open Go.Proofs
set_option maxHeartbeats 4000000 in
set_option maxRecDepth 100000 in
theorem late_zero {m : AM} {v : Value} {j : List Job} (hj : Jobs m v j) (hJ : JOk j) (hn : j.length = 0) :
    ACall Try.prog 80 #[v, .slice none 0 0] m (More (fun M x => ∃ a, m.length ≤ a ∧ x = .slice (some ⟨a, 0, none⟩) 0 0 ∧ M[a]? = some (some { cells := [] })) m) := by
  have hE := fun T => early_ok (P := []) (hj.old T) (show Ints (m ++ T) (.slice none 0 0) (nv []) from ⟨0, 0, .inl ⟨rfl, rfl⟩, by obtain ⟨a, o, _, h2, _⟩ := hj; rw [List.length_append]; omega, fun k hk => by simp [nv] at hk⟩) hJ (fun q hq => by simp at hq) (by simp) rfl
  have hbk := fun M => back_ok (m := M) (q := none) (n := 0) (c := 0)
  obtain ⟨a, o, h1, h2, h3⟩ := id hj
  obtain ⟨qv, cv, rfl⟩ : ∃ q c, v = .slice q j.length c := by rcases h1 with ⟨rfl, h⟩ | ⟨c, _, rfl⟩ | ⟨h, o', k, rfl⟩; exact ⟨none, 0, by rw [h]⟩; exact ⟨_, _, rfl⟩; exact ⟨_, 0, by rw [h]⟩
  have e0 : eaR j [] ([] : List Nat).length = [] := by
    show List.replicate j.length 0 = []
    rw [hn]
    rfl
  rw [e0] at hE
  rw [hn] at hE h1
  rw [hn]
  have er : iv (List.replicate 0 0) = [] := rfl
  refine ACall.start Try.func80 rfl rfl ?_
  (repeat (first | (with_reducible refine AWo.cons ?_) | ((with_reducible refine Step.id ?_); first | ((with_reducible apply Step.move); exact rfl; exact rfl) | ((with_reducible apply Step.assign); exact rfl; exact rfl) | ((with_reducible apply Step.load); exact rfl; (focus (decide +kernel)); exact rfl; (focus (exact Rd.new rfl rfl))) | ((with_reducible apply Step.len); exact rfl; (focus (first | assumption | exact Sl.mk (by omega))); (focus (decide +kernel)); exact rfl) | ((with_reducible apply Step.callN fit (k := 3)); exact rfl; exact rfl; exact Try.func79; exact rfl; exact rfl; exact (hE _); (focus (first | (simp only [List.nil_append, List.cons_append, List.set_cons_zero, List.set_cons_succ, iv_set, bv_set, iv_rep, bv_rep]; done) | (simp only [List.nil_append, List.cons_append, List.set_cons_zero, List.set_cons_succ, iv_set, bv_set, iv_rep, bv_rep]; rfl) | rfl))) | ((with_reducible apply Step.box 0); exact rfl; exact rfl; (focus (kernel_rfl)); exact rfl; (focus (first | (simp only [List.nil_append, List.cons_append, List.set_cons_zero, List.set_cons_succ, iv_set, bv_set, iv_rep, bv_rep]; done) | (simp only [List.nil_append, List.cons_append, List.set_cons_zero, List.set_cons_succ, iv_set, bv_set, iv_rep, bv_rep]; rfl) | rfl))) | ((with_reducible apply Step.make1 1); exact rfl; exact rfl; exact rfl; exact el23; (focus (omega)); exact rfl; (focus (first | (simp only [List.nil_append, List.cons_append, List.set_cons_zero, List.set_cons_succ, iv_set, bv_set, iv_rep, bv_rep]; done) | (simp only [List.nil_append, List.cons_append, List.set_cons_zero, List.set_cons_succ, iv_set, bv_set, iv_rep, bv_rep]; rfl) | rfl))) | ((with_reducible apply Step.alloc 2); exact rfl; exact ze23; exact rfl; (focus (first | (simp only [List.nil_append, List.cons_append, List.set_cons_zero, List.set_cons_succ, iv_set, bv_set, iv_rep, bv_rep]; done) | (simp only [List.nil_append, List.cons_append, List.set_cons_zero, List.set_cons_succ, iv_set, bv_set, iv_rep, bv_rep]; rfl) | rfl))) | ((with_reducible apply Step.store (k := 2)); exact rfl; exact rfl; exact rfl; exact rfl; (focus (decide +kernel)); exact rfl; exact rfl; (focus (first | omega | (simp [iv, bv]; done) | (simp [iv, bv]; omega))); (focus (first | (simp only [List.nil_append, List.cons_append, List.set_cons_zero, List.set_cons_succ, iv_set, bv_set, iv_rep, bv_rep]; done) | (simp only [List.nil_append, List.cons_append, List.set_cons_zero, List.set_cons_succ, iv_set, bv_set, iv_rep, bv_rep]; rfl) | rfl)))) | (with_reducible refine AWo.nil ?_) | ((with_reducible apply AW.seq)) | ((with_reducible apply Then.n)) | ((with_reducible apply AW.regL)) | ((with_reducible apply AW.block))))
  refine AW.loopT (fun n' t L => n' = 0 ∧ L = [some { cells := [.slice qv 0 cv] }, some { cells := [] }, some { cells := [.slice (some ⟨m.length + 1, 0, none⟩) 0 0] }, some { cells := [] }] ∧
    t = [(1, .slice none 0 0), (2, .pointer (some ⟨m.length + 0, 0, none⟩)), (5, .pointer (some ⟨m.length + 2, 0, none⟩)), (6, .int .i64 0), (19, .slice (some ⟨m.length + 3, 0, none⟩) 0 0), (20, .int .i64 ((0 : Nat) : Int)), (21, .int .i64 ((0 : Nat) : Int))]) ⟨_, _, _, (Or.inl ⟨rfl, (by repeat (first | exact trivial | (refine And.intro rfl ?_)))⟩), rfl, rfl, rfl⟩ ?_
  rintro n' t L ⟨rfl, rfl, rfl⟩
  (repeat (first | (with_reducible refine AWo.cons ?_) | ((with_reducible refine Step.id ?_); first | ((with_reducible apply Step.move); exact rfl; exact rfl) | ((with_reducible apply Step.load); exact rfl; (focus (decide +kernel)); exact rfl; (focus (exact Rd.new rfl rfl))) | ((with_reducible apply Step.lss); exact rfl; exact rfl; exact rfl) | ((with_reducible apply Step.len); exact rfl; (focus (exact Sl.mk (by omega))); (focus (decide +kernel)); exact rfl)) | (with_reducible refine AWo.nil ?_) | ((with_reducible apply AW.seq)) | ((with_reducible apply Then.n)) | ((with_reducible apply AW.regL)) | ((with_reducible apply AW.block)) | ((with_reducible apply AW.exit)) | ((with_reducible apply InBlk.hit)) | ((with_reducible apply Then.e)) | ((with_reducible apply AW.condF); exact rfl; (focus (rfl)))))
  refine AW.loopT (fun n' t L => n' = 0 ∧ L = [some { cells := [.slice qv 0 cv] }, some { cells := [] }, some { cells := [.slice (some ⟨m.length + 1, 0, none⟩) 0 0] }, some { cells := [] }] ∧
    t = [(1, .slice none 0 0), (2, .pointer (some ⟨m.length + 0, 0, none⟩)), (5, .pointer (some ⟨m.length + 2, 0, none⟩)), (6, .int .i64 0), (30, .int .i64 ((0 : Nat) : Int)), (31, .int .i64 ((0 : Nat) : Int))]) ⟨_, _, _, (Or.inl ⟨rfl, (by repeat (first | exact trivial | (refine And.intro rfl ?_)))⟩), rfl, rfl, rfl⟩ ?_
  rintro n' t L ⟨rfl, rfl, rfl⟩
  (repeat (first | (with_reducible refine AWo.cons ?_) | ((with_reducible refine Step.id ?_); first | ((with_reducible apply Step.move); exact rfl; exact rfl) | ((with_reducible apply Step.lss); exact rfl; exact rfl; exact rfl) | ((with_reducible apply Step.callM fit); exact rfl; exact Try.func107; exact rfl; exact rfl; exact (hbk _))) | (with_reducible refine AWo.nil ?_) | ((with_reducible apply AW.seq)) | ((with_reducible apply Then.n)) | ((with_reducible apply AW.regL)) | ((with_reducible apply AW.block)) | ((with_reducible apply AW.exit)) | ((with_reducible apply InBlk.hit)) | ((with_reducible apply Then.e)) | ((with_reducible apply AW.condF); exact rfl; (focus (rfl)))))
  refine AW.rangeF fit (Asg.one rfl) (backX 0) (fun x => #[.int .i64 (x.val : Nat), .int .i64 0])
    (fun pre M' => M' = m ++ [some { cells := [.slice qv 0 cv] }, some { cells := [] }, some { cells := [.slice (some ⟨m.length + 1, 0, none⟩) 0 0] }, some { cells := [] }, some { cells := [.slice none 0 0] }])
    (fun _ _ _ => False) rfl Try.func124 rfl (by kernel_rfl) (by decide) (fun _ => rfl) ?_ ?_ ?_ ?_ ?_ ?_
  · simp
  · rintro pre M' rfl i bb hi hk
    by_cases hl : i < m.length
    · rw [List.getElem?_append_left hl] at hi
      exact ⟨bb, by rw [List.append_assoc, List.getElem?_append_left hl]; exact hi⟩
    · rw [List.getElem?_append_right (by omega)] at hi
      generalize i - m.length = d at hi
      rcases d with _ | _ | _ | _ | _ | d
      all_goals (simp at hi; try (subst hi; cases hk))
  · rintro pre M' rfl i o' v' h
    exact h.elim
  · rintro base R w lb' hbs hm hlb
    obtain ⟨p, hp, rfl⟩ : ∃ p, R (m.length + 4) = some p ∧ lb' = #[.pointer (some ⟨p.block, p.off + 0, none⟩)] := by
      have e1 := hlb.1
      have e2 := hlb.2 0 (by simp)
      have e3 : lb' = #[lb'.getD 0 undef] := by
        apply Array.ext
        · simpa using e1.symm
        · intro k q1 q2
          have : k = 0 := by simp at q2; omega
          subst this
          simp [q1]
      rw [e3]
      generalize lb'.getD 0 undef = y at e2
      simp only [List.length_append, List.length_cons, List.length_nil, Array.getD_eq_getD_getElem?, List.getElem?_toArray, List.getElem?_cons_zero, Option.getD_some] at e2
      cases e2 with
      | ptr _ _ p hp => exact ⟨p, hp, rfl⟩
    refine ⟨fun x => #[.int .i64 (x.val : Nat), .int .i64 0], fun x => ⟨rfl, fun k hk => ?_⟩, ?_⟩
    · have : k = 0 ∨ k = 1 := by simp at hk; omega
      rcases this with rfl | rfl
      · exact Rel.int _ _
      · exact Rel.int _ _
    · intro l J Jx W hW hJ hJx hY h0'
      have hcell : w.cell? ⟨p.block, p.off + 0, none⟩ = some (.slice none 0 0) := by
        obtain ⟨x, q1, q2⟩ := (hm.of (i := m.length + 4) (b := { cells := [.slice none 0 0] }) (by rw [List.append_assoc, get_app]; rfl) hp).cell (j := 0) rfl
        cases q2
        exact q1
      have hlt := World.block_lt_of_cell? w _ hcell
      exact (back0_in l p.block (p.off + 0) J W ((hW.cell (p := ⟨p.block, p.off + 0, none⟩) hlt).trans hcell) h0').mono fun e W' ⟨hv, hj⟩ => ⟨hv, .inl ⟨_, rfl, by simpa [backX] using hj⟩⟩
  · rintro pre x M' rfl hlen
    exact absurd x.property (by omega)
  · rintro M' rfl
    (repeat (first | (with_reducible refine AWo.cons ?_) | ((with_reducible refine Step.id ?_); first | ((with_reducible apply Step.assign); exact rfl; exact rfl) | ((with_reducible apply Step.load); exact rfl; (focus (decide +kernel)); exact rfl; (focus (exact Rd.new rfl rfl)))) | (with_reducible refine AWo.nil ?_) | ((with_reducible apply AW.seq)) | ((with_reducible apply Then.n)) | ((with_reducible apply AW.regL)) | ((with_reducible apply InBlk.n))))
    (refine AW.ret ?_; (repeat (first | refine Then.r ?_ | refine InBlk.r ?_)))
    exact ⟨_, rfl, _, rfl, m.length + 1, by omega, rfl, by rw [get_app]; rfl⟩
end Go.Proofs.Ytmomjannlnafcaa.Abs
namespace Go.Proofs.Ytmomjannlnafcaa.Abs
set_option linter.unusedSimpArgs false
set_option linter.unusedVariables false
open Go.RowKit
open Go.Proofs.Ytmomjannlnafcaa.Sim
open Go.Proofs
def eJ (j : List Job) : List Int := eaR j (sortL j) (sortL j).length
def lJ (j : List Job) : List Int := laL j (mxL (eJ j) j.length) (sortL j).reverse
def crJ (j : List Job) : List Nat := (List.range j.length).filter fun i => decide ((eJ j).getD i 0 = (lJ j).getD i 0)
theorem eJ_len (j : List Job) : (eJ j).length = j.length := eaR_len _ _ _
theorem lJ_len (j : List Job) : (lJ j).length = j.length := laL_len _ _ _
/-- A row of ints, whose result with no error is handed back. -/
def RowR (row : List Int) (m : AM) : Value → AM → Prop := More (fun M x => ∃ u, x = .tuple #[u, .int .i64 0] ∧ Ints M u row) m
theorem late_ok {m : AM} {v : Value} {j : List Job} {N : Nat} (hj : Jobs m v j) (hok : jobsB j = true) (hn : (sortL j).length = j.length) (hu : Ints m (gv N j.length) (nv (sortL j))) (hR : 0 < j.length → ∀ q, q < (sortL j).length → Rd m N (0 + q) (.int .i64 (((sortL j).getD q 0 : Nat) : Int))) :
    ACall Try.prog 80 #[v, gv N j.length] m (More (fun M x => ∃ a, m.length ≤ a ∧ x = .slice (some ⟨a, 0, none⟩) j.length j.length ∧ M[a]? = some (some { cells := iv (lJ j) })) m) := by
  have hJ := JOk.of hok
  by_cases h0 : j.length = 0
  · have key := late_zero hj hJ h0
    have e : lJ j = [] := List.eq_nil_of_length_eq_zero (by rw [lJ_len]; exact h0)
    rw [e, h0]
    exact key
  · have e : gv N j.length = .slice (some ⟨N, 0, none⟩) (sortL j).length j.length := by unfold gv; rw [if_neg h0, hn]
    rw [e] at hu ⊢
    exact late_pos hj hu hJ (sortL_topo j) hn (by omega) (by omega) (hR (by omega)) rfl
theorem gv_rd {M L : AM} {k : Nat} {P : List Nat} (h : L[k]? = some (gb (iv (nv P)) 1)) : ∀ q, q < P.length → Rd (M ++ L) (M.length + k) (0 + q) (.int .i64 ((P.getD q 0 : Nat) : Int)) := fun q hq => by
  rw [gb_pos (by rw [iv_len, nv_len]; omega)] at h
  have := iv_get (l := nv P) (k := q) (by rw [nv_len]; exact hq)
  rw [nv_get hq] at this
  exact Rd.new h (by rw [Nat.zero_add]; exact this)
set_option maxHeartbeats 2000000 in
set_option maxRecDepth 100000 in
theorem Early_ok {m : AM} {v : Value} {j : List Job} (hj : Jobs m v j) (hok : jobsB j = true) (hn : (sortL j).length = j.length) : ACall Try.prog 33 #[v] m (RowR (eJ j) m) := by
  have hJ := JOk.of hok
  have h40 := hJ.len
  have hE := fun T => early_ok (m := m ++ (gb (iv (nv (sortL j))) 1 :: T)) (hj.old _) (gints (k := 0) rfl (by rw [nv_len, hn])) hJ (fun q hq => (sortL_topo j).in_ hq) (by omega) (show eaR j (sortL j) (sortL j).length = eJ j from rfl)
  refine ACall.start Try.func33 rfl rfl ?_
  (repeat (first | (with_reducible refine AWo.cons ?_) | ((with_reducible refine Step.id ?_); first | ((with_reducible apply Step.move); exact rfl; exact rfl) | ((with_reducible apply Step.assign); exact rfl; exact rfl) | ((with_reducible apply Step.neq); exact rfl; exact rfl; exact rfl) | ((with_reducible apply Step.extract); exact rfl; exact rfl; exact rfl) | ((with_reducible apply Step.callT fit (k := 0)); exact rfl; exact rfl; exact Try.func78; exact rfl; exact rfl; exact (checked_ok (hj.old []) hok hn); (focus (first | (simp only [List.nil_append, List.cons_append, List.set_cons_zero, List.set_cons_succ, iv_set, bv_set, iv_rep, bv_rep]; done) | (simp only [List.nil_append, List.cons_append, List.set_cons_zero, List.set_cons_succ, iv_set, bv_set, iv_rep, bv_rep]; rfl) | rfl))) | ((with_reducible apply Step.callN fit (k := 1)); exact rfl; exact rfl; exact Try.func79; exact rfl; exact rfl; exact (hE _); (focus (first | (simp only [List.nil_append, List.cons_append, List.set_cons_zero, List.set_cons_succ, iv_set, bv_set, iv_rep, bv_rep]; done) | (simp only [List.nil_append, List.cons_append, List.set_cons_zero, List.set_cons_succ, iv_set, bv_set, iv_rep, bv_rep]; rfl) | rfl)))) | (with_reducible refine AWo.nil ?_) | ((with_reducible apply AW.seq)) | ((with_reducible apply Then.n)) | ((with_reducible apply AW.regL)) | ((with_reducible apply AW.skip)) | ((with_reducible apply AW.condF); exact rfl; (focus (rfl)))))
  (refine AW.ret ?_; (repeat (first | refine Then.r ?_ | refine InBlk.r ?_)))
  exact ⟨_, rfl, _, rfl, _, rfl, m.length + 1, 0, by rw [eJ_len]; exact Sl.mk (Nat.le_refl _), by simp, fun k hk => Rd.new (k := 1) rfl (by rw [Nat.zero_add]; exact iv_get hk)⟩
set_option maxRecDepth 100000 in
theorem Early_no {m : AM} {v : Value} {e : Int} (h : ∀ L, ACall Try.prog 78 #[v] (m ++ L) (Ret (.tuple #[.slice none 0 0, .int .i64 e]) (m ++ L))) (he : e ≠ 0) : ACall Try.prog 33 #[v] m (Ret (.tuple #[.slice none 0 0, .int .i64 e]) m) := by
  refine ACall.start Try.func33 rfl rfl ?_
  (repeat (first | (with_reducible refine AWo.cons ?_) | ((with_reducible refine Step.id ?_); first | ((with_reducible apply Step.move); exact rfl; exact rfl) | ((with_reducible apply Step.assign); exact rfl; exact rfl) | ((with_reducible apply Step.neq); exact rfl; exact rfl; exact rfl) | ((with_reducible apply Step.extract); exact rfl; exact rfl; exact rfl) | ((with_reducible apply Step.callR fit); exact rfl; exact Try.func78; exact rfl; exact rfl; exact (h _))) | (with_reducible refine AWo.nil ?_) | ((with_reducible apply AW.seq)) | ((with_reducible apply Then.n)) | ((with_reducible apply AW.regL)) | ((with_reducible apply AW.condT); exact rfl; (focus ((simp only [decide_eq_true_eq, decide_eq_false_iff_not, Bool.not_eq_true', Bool.not_eq_false', Bool.not_true, Bool.not_false]; first | assumption | omega))))))
  (refine AW.retD (l := [(2, _), (3, _)]) (by repeat (first | exact trivial | (refine And.intro ⟨rfl, by (first | exact .int _ _ | exact Ren.of_g0 rfl)⟩ ?_))) ?_; (repeat (first | refine Then.r ?_ | refine InBlk.r ?_)))
  exact ⟨_, rfl, rfl, rfl⟩
set_option maxRecDepth 100000 in
theorem Critical_no {m : AM} {v : Value} {e : Int} (h : ∀ L, ACall Try.prog 78 #[v] (m ++ L) (Ret (.tuple #[.slice none 0 0, .int .i64 e]) (m ++ L))) (he : e ≠ 0) : ACall Try.prog 38 #[v] m (Ret (.tuple #[.slice none 0 0, .int .i64 e]) m) := by
  refine ACall.start Try.func38 rfl rfl ?_
  (repeat (first | (with_reducible refine AWo.cons ?_) | ((with_reducible refine Step.id ?_); first | ((with_reducible apply Step.move); exact rfl; exact rfl) | ((with_reducible apply Step.assign); exact rfl; exact rfl) | ((with_reducible apply Step.neq); exact rfl; exact rfl; exact rfl) | ((with_reducible apply Step.extract); exact rfl; exact rfl; exact rfl) | ((with_reducible apply Step.callR fit); exact rfl; exact Try.func78; exact rfl; exact rfl; exact (h _))) | (with_reducible refine AWo.nil ?_) | ((with_reducible apply AW.seq)) | ((with_reducible apply Then.n)) | ((with_reducible apply AW.regL)) | ((with_reducible apply AW.condT); exact rfl; (focus ((simp only [decide_eq_true_eq, decide_eq_false_iff_not, Bool.not_eq_true', Bool.not_eq_false', Bool.not_true, Bool.not_false]; first | assumption | omega))))))
  (refine AW.retD (l := [(2, _), (3, _)]) (by repeat (first | exact trivial | (refine And.intro ⟨rfl, by (first | exact .int _ _ | exact Ren.of_g0 rfl)⟩ ?_))) ?_; (repeat (first | refine Then.r ?_ | refine InBlk.r ?_)))
  exact ⟨_, rfl, rfl, rfl⟩
set_option maxRecDepth 100000 in
theorem f84_ok {m : AM} {p1 p2 a b n : Nat} {A B : List Int} (x : Nat) (hx : x < n) (h1 : Rd m p1 0 (.slice (some ⟨a, 0, none⟩) n n)) (h2 : Rd m p2 0 (.slice (some ⟨b, 0, none⟩) n n)) (hA : ∀ k, k < n → Rd m a k (.int .i64 (A.getD k 0))) (hB : ∀ k, k < n → Rd m b k (.int .i64 (B.getD k 0))) :
    ACall Try.prog 84 #[.int .i64 (x : Nat), .pointer (some ⟨p1, 0, none⟩), .pointer (some ⟨p2, 0, none⟩)] m (Ret (.bool (!decide (A.getD x 0 = B.getD x 0))) m) := by
  have ha := hA x hx
  have hb := hB x hx
  refine ACall.start Try.func84 rfl rfl ?_
  rw [← List.append_nil m] at h1 h2 ha hb
  (repeat (first | (with_reducible refine AWo.cons ?_) | ((with_reducible refine Step.id ?_); first | ((with_reducible apply Step.move); exact rfl; exact rfl) | ((with_reducible apply Step.assign); exact rfl; exact rfl) | ((with_reducible apply Step.load); exact rfl; (focus (decide +kernel)); exact rfl; (focus (assumption))) | ((with_reducible apply Step.ix1z); exact rfl; (focus (exact Sl.mk (by omega))); exact rfl; (focus (decide +kernel)); exact rfl; (focus (omega))) | ((with_reducible apply Step.neq); exact rfl; exact rfl; exact rfl)) | (with_reducible refine AWo.nil ?_) | ((with_reducible apply AW.seq)) | ((with_reducible apply Then.n)) | ((with_reducible apply AW.regL)) | ((with_reducible apply AW.drawL fit); (focus (decide +kernel)))))
  (refine AW.retD (l := [(4, _)]) (by repeat (first | exact trivial | (refine And.intro ⟨rfl, by (exact .bool _)⟩ ?_))) ?_; (repeat (first | refine Then.r ?_ | refine InBlk.r ?_)))
  exact ⟨_, rfl, rfl, rfl⟩
end Go.Proofs.Ytmomjannlnafcaa.Abs
namespace Go.Proofs.Ytmomjannlnafcaa.Abs
set_option linter.unusedSimpArgs false
set_option linter.unusedVariables false
open Go.RowKit
open Go.Proofs.Ytmomjannlnafcaa.Sim
open Go.Proofs
theorem st_at {M L L' : AM} {k : Nat} {kd : Kind} {s : Nat} {row : List Int} (h : L.set k (some { cells := iv row, kind := kd, size := s }) = L') : St (M ++ L) (M.length + k) kd s row = M ++ L' := by
  unfold St
  rw [List.set_append_right _ _ (by omega), show M.length + k - M.length = k by omega, h]
theorem cast_filter (n : Nat) (p : Int → Bool) (q : Nat → Bool) (h : ∀ i, i < n → p (i : Int) = q i) : ((List.range n).map (Nat.cast : Nat → Int)).filter p = ((List.range n).filter q).map (Nat.cast : Nat → Int) := by
  rw [List.filter_map]
  congr 1
  refine List.filter_congr fun i hi => ?_
  exact h i (List.mem_range.1 hi)
set_option maxHeartbeats 4000000 in
set_option maxRecDepth 100000 in
theorem Critical_ok {m : AM} {v : Value} {j : List Job} (hj : Jobs m v j) (hok : jobsB j = true) (hn : (sortL j).length = j.length) : ACall Try.prog 38 #[v] m (RowR (nv (crJ j)) m) := by
  have hJ := JOk.of hok
  have h40 := hJ.len
  have hE := fun T => early_ok (m := m ++ (gb (iv (nv (sortL j))) 1 :: T)) (hj.old _) (gints (k := 0) rfl (by rw [nv_len, hn])) hJ (fun q hq => (sortL_topo j).in_ hq) (by omega) (show eaR j (sortL j) (sortL j).length = eJ j from rfl)
  have hL := fun T => late_ok (m := m ++ (gb (iv (nv (sortL j))) 1 :: T)) (N := m.length + 0) (hj.old _) hok hn (gints (k := 0) rfl (by rw [nv_len, hn])) (fun _ => gv_rd rfl)
  have hel := eJ_len j
  have hll := lJ_len j
  obtain ⟨a, o, h1, h2, h3⟩ := id hj
  obtain ⟨qv, cv, rfl⟩ : ∃ q c, v = .slice q j.length c := by rcases h1 with ⟨rfl, h⟩ | ⟨c, _, rfl⟩ | ⟨h, o', k, rfl⟩; exact ⟨none, 0, by rw [h]⟩; exact ⟨_, _, rfl⟩; exact ⟨_, 0, by rw [h]⟩
  have hup := fun M => upTo_ok (m := M) j.length (by omega)
  refine ACall.start Try.func38 rfl rfl ?_
  (repeat (first | (with_reducible refine AWo.cons ?_) | ((with_reducible refine Step.id ?_); first | ((with_reducible apply Step.move); exact rfl; exact rfl) | ((with_reducible apply Step.assign); exact rfl; exact rfl) | ((with_reducible apply Step.neq); exact rfl; exact rfl; exact rfl) | ((with_reducible apply Step.extract); exact rfl; exact rfl; exact rfl) | ((with_reducible apply Step.callT fit (k := 0)); exact rfl; exact rfl; exact Try.func78; exact rfl; exact rfl; exact (checked_ok (hj.old []) hok hn); (focus (first | (simp only [List.nil_append, List.cons_append, List.set_cons_zero, List.set_cons_succ, iv_set, bv_set, iv_rep, bv_rep]; done) | (simp only [List.nil_append, List.cons_append, List.set_cons_zero, List.set_cons_succ, iv_set, bv_set, iv_rep, bv_rep]; rfl) | rfl))) | ((with_reducible apply Step.callN fit (k := 1)); exact rfl; exact rfl; exact Try.func79; exact rfl; exact rfl; exact (hE _); (focus (first | (simp only [List.nil_append, List.cons_append, List.set_cons_zero, List.set_cons_succ, iv_set, bv_set, iv_rep, bv_rep]; done) | (simp only [List.nil_append, List.cons_append, List.set_cons_zero, List.set_cons_succ, iv_set, bv_set, iv_rep, bv_rep]; rfl) | rfl)))) | (with_reducible refine AWo.nil ?_) | ((with_reducible apply AW.seq)) | ((with_reducible apply Then.n)) | ((with_reducible apply AW.regL)) | ((with_reducible apply AW.skip)) | ((with_reducible apply AW.condF); exact rfl; (focus (rfl)))))
  ((with_reducible apply Step.callX fit); exact rfl; exact Try.func80; exact rfl; exact rfl; exact (hL _))
  rintro x M1 ⟨N1, hN1⟩ ⟨b, hb, rfl, hcb⟩
  have hbl := (List.getElem?_eq_some_iff.1 hcb).1
  have hca : M1[m.length + 1]? = some (some { cells := iv (eJ j) }) := by rw [hN1]; exact get_old _ (by rw [get_app]; rfl)
  have hal := (List.getElem?_eq_some_iff.1 hca).1
  have hm1 : ∃ N, M1 = m ++ N := ⟨_, by rw [hN1, List.append_assoc]⟩
  have hg : ∀ row x, x ∈ (List.range j.length).map (Nat.cast : Nat → Int) → ACall Try.prog 84 (#[] ++ #[.int .i64 x] ++ #[.pointer (some ⟨M1.length + 0, 0, none⟩), .pointer (some ⟨M1.length + 1, 0, none⟩)])
      (St (M1 ++ [some { cells := [.slice (some ⟨m.length + 1, 0, none⟩) j.length j.length] }, some { cells := [.slice (some ⟨b, 0, none⟩) j.length j.length] }, some { cells := iv ((List.range j.length).map (Nat.cast : Nat → Int)) }]) (M1.length + 2) .own 1 row)
      (Ret (.bool (!decide ((eJ j).getD x.toNat 0 = (lJ j).getD x.toNat 0))) (St (M1 ++ [some { cells := [.slice (some ⟨m.length + 1, 0, none⟩) j.length j.length] }, some { cells := [.slice (some ⟨b, 0, none⟩) j.length j.length] }, some { cells := iv ((List.range j.length).map (Nat.cast : Nat → Int)) }]) (M1.length + 2) .own 1 row)) := fun row x hx => by
    obtain ⟨k, hk, rfl⟩ := List.mem_map.1 hx
    have hk := List.mem_range.1 hk
    rw [st_at rfl]
    exact f84_ok (p1 := M1.length + 0) (p2 := M1.length + 1) (a := m.length + 1) (b := b) (n := j.length) (A := eJ j) (B := lJ j) k hk (Rd.new (k := 0) rfl rfl) (Rd.new (k := 1) rfl rfl) (fun i hi => Rd.old _ ⟨_, hca, iv_get (by omega)⟩) (fun i hi => Rd.old _ ⟨_, hcb, iv_get (by omega)⟩)
  have hd := delete_ok (m := M1 ++ [some { cells := [.slice (some ⟨m.length + 1, 0, none⟩) j.length j.length] }, some { cells := [.slice (some ⟨b, 0, none⟩) j.length j.length] }, some { cells := iv ((List.range j.length).map (Nat.cast : Nat → Int)) }]) (r := M1.length + 2) (s := 1) (kd := .own) (A := (List.range j.length).map (Nat.cast : Nat → Int)) (Z := []) (n := j.length) (c := j.length) (g := 84)
    (cap := #[.pointer (some ⟨M1.length + 0, 0, none⟩), .pointer (some ⟨M1.length + 1, 0, none⟩)]) (fun x => !decide ((eJ j).getD x.toNat 0 = (lJ j).getD x.toNat 0)) (by simp) rfl Try.func84 rfl (by simp) (Nat.le_refl _) (by omega) hg
  have hfil : ((List.range j.length).map (Nat.cast : Nat → Int)).filter (fun x => !(fun x : Int => !decide ((eJ j).getD x.toNat 0 = (lJ j).getD x.toNat 0)) x) = nv (crJ j) := by
    unfold nv crJ
    exact cast_filter _ _ _ fun i hi => by simp
  rw [hfil, st_at rfl, st_at rfl] at hd
  simp only [List.append_nil, List.set_cons_succ, List.set_cons_zero] at hd
  clear hg hfil
  (repeat (first | (with_reducible refine AWo.cons ?_) | ((with_reducible refine Step.id ?_); first | ((with_reducible apply Step.move); exact rfl; exact rfl) | ((with_reducible apply Step.assign); exact rfl; exact rfl) | ((with_reducible apply Step.len); exact rfl; (focus (assumption)); (focus (decide +kernel)); exact rfl) | ((with_reducible apply Step.fn); exact rfl; exact rfl; exact rfl) | ((with_reducible apply Step.callN fit (k := 2)); exact rfl; exact rfl; exact Try.func83; exact rfl; exact rfl; exact (hup _); (focus (first | (simp only [List.nil_append, List.cons_append, List.set_cons_zero, List.set_cons_succ, iv_set, bv_set, iv_rep, bv_rep]; done) | (simp only [List.nil_append, List.cons_append, List.set_cons_zero, List.set_cons_succ, iv_set, bv_set, iv_rep, bv_rep]; rfl) | rfl))) | ((with_reducible apply Step.callM fit); exact rfl; exact Try.func82; exact rfl; exact rfl; exact (hd)) | ((with_reducible apply Step.alloc 0); exact rfl; exact ze23; exact rfl; (focus (first | (simp only [List.nil_append, List.cons_append, List.set_cons_zero, List.set_cons_succ, iv_set, bv_set, iv_rep, bv_rep]; done) | (simp only [List.nil_append, List.cons_append, List.set_cons_zero, List.set_cons_succ, iv_set, bv_set, iv_rep, bv_rep]; rfl) | rfl))) | ((with_reducible apply Step.store (k := 0)); exact rfl; exact rfl; exact rfl; exact rfl; (focus (decide +kernel)); exact rfl; exact rfl; (focus (first | omega | (simp [iv, bv]; done) | (simp [iv, bv]; omega))); (focus (first | (simp only [List.nil_append, List.cons_append, List.set_cons_zero, List.set_cons_succ, iv_set, bv_set, iv_rep, bv_rep]; done) | (simp only [List.nil_append, List.cons_append, List.set_cons_zero, List.set_cons_succ, iv_set, bv_set, iv_rep, bv_rep]; rfl) | rfl))) | ((with_reducible apply Step.alloc 1); exact rfl; exact ze23; exact rfl; (focus (first | (simp only [List.nil_append, List.cons_append, List.set_cons_zero, List.set_cons_succ, iv_set, bv_set, iv_rep, bv_rep]; done) | (simp only [List.nil_append, List.cons_append, List.set_cons_zero, List.set_cons_succ, iv_set, bv_set, iv_rep, bv_rep]; rfl) | rfl))) | ((with_reducible apply Step.store (k := 1)); exact rfl; exact rfl; exact rfl; exact rfl; (focus (decide +kernel)); exact rfl; exact rfl; (focus (first | omega | (simp [iv, bv]; done) | (simp [iv, bv]; omega))); (focus (first | (simp only [List.nil_append, List.cons_append, List.set_cons_zero, List.set_cons_succ, iv_set, bv_set, iv_rep, bv_rep]; done) | (simp only [List.nil_append, List.cons_append, List.set_cons_zero, List.set_cons_succ, iv_set, bv_set, iv_rep, bv_rep]; rfl) | rfl)))) | (with_reducible refine AWo.nil ?_) | ((with_reducible apply AW.seq)) | ((with_reducible apply Then.n)) | ((with_reducible apply AW.regL))))
  (refine AW.ret ?_; (repeat (first | refine Then.r ?_ | refine InBlk.r ?_)))
  obtain ⟨N, hN⟩ := hm1
  refine ⟨_, rfl, _, by rw [hN, List.append_assoc], _, rfl, M1.length + 2, 0, Sl.mk ?_, by simp, fun k hk => ?_⟩
  · rw [nv_len]
    have := List.length_filter_le (fun i => decide ((eJ j).getD i 0 = (lJ j).getD i 0)) (List.range j.length)
    rw [List.length_range] at this
    exact this
  · refine Rd.new (k := 2) rfl ?_
    rw [Nat.zero_add]
    have := iv_get (l := nv (crJ j) ++ List.replicate (j.length - (nv (crJ j)).length) 0) (k := k) (by rw [List.length_append]; omega)
    rw [getD_l hk] at this
    exact this
end Go.Proofs.Ytmomjannlnafcaa.Abs
namespace Go.Proofs.Ytmomjannlnafcaa.Abs
set_option linter.unusedSimpArgs false
set_option linter.unusedVariables false
open Go.RowKit
open Go.Proofs.Ytmomjannlnafcaa.Sim
open Go.Proofs
theorem eJ_bd {j : List Job} (hok : jobsB j = true) (hn : (sortL j).length = j.length) : ∀ k, 0 ≤ (eJ j).getD k 0 ∧ (eJ j).getD k 0 ≤ 10000 * j.length := fun k => by
  have := eaR_bd (JOk.of hok) (fun q hq => (sortL_topo j).in_ hq) (sortL j).length (Nat.le_refl _) k
  rw [hn] at this
  rw [← hn] at *
  exact this
end Go.Proofs.Ytmomjannlnafcaa.Abs
namespace Go.Proofs.Ytmomjannlnafcaa.Abs
set_option linter.unusedSimpArgs false
set_option linter.unusedVariables false
open Go.RowKit
open Go.Proofs.Ytmomjannlnafcaa.Sim
section
variable {P : Program} {nt : Nat} {ops : Array Oper} {t : Fm} {m : AM} {K : Fm → AM → Prop} {d T : Nat} {p : String} {af : Array Edge}
theorem still_nilP {X e : TypeId} (hX : P.underlying X = some (.pointer e)) (n : Nat) : Sim.still P (Op.equalIn (n + 1) X (.pointer none) (.pointer none)) = some true := by
  rw [Op.equalIn]
  show Sim.still P (Sem.bind (underlying X) _) = _
  rw [still_bind]
  have : Sim.still P (underlying X) = some (.pointer e) := by
    unfold underlying
    show Sim.still P (Sem.bind program _) = _
    rw [still_bind]
    simp [program, Sim.still, hX, pure]
  rw [this]
  rfl
theorem Step.ptrNil {x y : Operand} {X Y e : TypeId} (hx : evo t x = some (.pointer none)) (hy : evo t y = some (.pointer none)) (hX : P.underlying X = some (.pointer e)) (hlt : Nat.blt d nt = true) (hK : K (put t d (.bool true)) m) : Step P nt ops ⟨some d, .binOp .eql X x y Y, T, p, af, none⟩ t m K := by
  refine .ground rfl rfl hlt (by simp [Op.operands, hx, hy, g1, g0]) (fun h => by simp only [aquiet, evD_of hx, evD_of hy, aint, anil, hX]; simpa [evD_of hx, evD_of hy] using h) ?_ (by simp [g1, g0]) hK
  have he := still_nilP hX 9999
  simp only [execOp, eqGuard, binOp, evD_of hx, evD_of hy, bind, Sem.bind, pure]
  show Sim.still P (((Op.equalIn (9999 + 1) X (.pointer none) (.pointer none)).bind _).bind _) = _
  rw [still_bind, still_bind, he]
  rfl
/-- A whole array of one's own as a slice. -/
theorem Step.arr {x : Operand} {X e a len : Nat} {M L L' : AM} (hx : evo t x = some (.pointer (some ⟨a, 0, none⟩))) (ho : OwnAt M a L) (hX : P.underlying X = some (.array len e)) (hsz : szB P e = some 1) (h0 : Nat.blt 0 len = true)
    (hlt : Nat.blt d nt = true) (hL : L ++ [none] = L') (hK : K (put t d (.slice (some ⟨a, 0, none⟩) len len)) (M ++ L')) : Step P nt ops ⟨some d, .slice X x none none none, T, p, af, none⟩ t (M ++ L) K := by
  subst hL
  obtain ⟨b, hb, hk⟩ := ho
  have h0' : 0 < len := by simpa using h0
  refine .l rfl rfl hlt (by simp [stillB, hX]) (by simp [Op.operands, hx]) (loudN (L := L) rfl rfl (v := .slice (some ⟨a, 0, none⟩) len len) ?_ hK)
  have hb' : ((M ++ L) ++ [none])[a]? = some (some b) := get_old _ hb
  simp only [aloud, evD_of hx, aslice, hX, hsz, Option.map_none, hb']
  simp only [bnd]
  rw [if_pos ⟨Nat.zero_le _, Nat.le_refl _, .inl hk⟩, List.append_assoc]
  simp
end
end Go.Proofs.Ytmomjannlnafcaa.Abs
namespace Go.Proofs.Ytmomjannlnafcaa.Abs
open Go.RowKit
open Go.Proofs.Ytmomjannlnafcaa.Sim
/-- What a call made and does not return is let go. -/
theorem ACall.drop {P : Program} {f : FuncId} {args : Array Value} {m : AM} {r : Value} (hr : Ren rid m.length r r) (h : ACall P f args m (fun v m' => v = r ∧ ∃ N, m' = m ++ N)) : ACall P f args m (Ret r m) := by
  intro base R w args' hb hm ha
  refine (h base R w args' hb hm ha).mono ?_
  rintro e w' ⟨v, v', R', m', he, hrel, hpost, rfl, N, rfl⟩
  obtain ⟨R1, h1, h2⟩ := (Gc.drop (M := m) (L := N) (t := fr [(0, v)]) (l := [(0, v)]) ⟨⟨rfl, hr⟩, trivial⟩).ok hm hpost (nt := 1) (u := #[v']) ⟨rfl, fun i x hi => by
    by_cases e : i = 0
    · subst e
      have : some v = some x := hi
      injection this with this; subst this
      exact hrel
    · have : fr [(0, v)] i = none := by show put (fr []) 0 v i = none; rw [put_ne _ _ e]; rfl
      rw [this] at hi; cases hi⟩
  exact ⟨v, v', R1, m, he, h2.rel 0 v rfl, h1, rfl, rfl⟩
end Go.Proofs.Ytmomjannlnafcaa.Abs
namespace Go.Proofs.Ytmomjannlnafcaa.Abs
open Go.RowKit
open Go.Proofs.Ytmomjannlnafcaa.Sim
end Go.Proofs.Ytmomjannlnafcaa.Abs
namespace Go.Proofs.Ytmomjannlnafcaa.Abs
open Go.RowKit
open Go.Proofs.Ytmomjannlnafcaa.Sim
end Go.Proofs.Ytmomjannlnafcaa.Abs
