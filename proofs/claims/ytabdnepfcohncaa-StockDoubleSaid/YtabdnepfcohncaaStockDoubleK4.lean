/- Proved here: what the proof of StockDouble rests on, part 4 of 4. Conditions: those that each theorem names. -/
import Derived.Test.YtabdnepfcohncaaStockDoubleK3
namespace Go.Proofs.Ytabdnepfcohncaa.Abs
set_option linter.unusedSimpArgs false
set_option linter.unusedVariables false
open Go.RowKit
open Go.Proofs.Ytabdnepfcohncaa.Sim
open Go.Proofs
section
variable {P : Program} {nt d : Nat} {ops : Array Oper} {T : TypeId} {p : String} {af : Array Edge} {t : Fm} {m : AM} {K : Fm → AM → Prop}
theorem Step.remU {x y : Operand} {X Y : TypeId} {a b : Int} (hx : evo t x = some (.int .u64 a)) (hy : evo t y = some (.int .u64 b)) (ha : 0 ≤ a) (hb : 1 ≤ b) (hlt : Nat.blt d nt = true) (hK : K (put t d (.int .u64 (a % b))) m) : Step P nt ops ⟨some d, .binOp .rem X x y Y, T, p, af, none⟩ t m K := by
  refine .ground rfl rfl hlt (by simp [Op.operands, hx, hy, g1, g0]) (fun h => by simp only [aquiet, evD_of hx, evD_of hy, aint, anil]; simpa [evD_of hx, evD_of hy] using h) ?_ (by simp [g1, g0]) hK
  simp [execOp, eqGuard, binOp, evD_of hx, evD_of hy, Op.intDiv, show ¬ b = 0 by omega, Int.tmod_eq_emod_of_nonneg ha, bind, Sem.bind, pure, Sim.still]
end
theorem wrapU (a : Int) : 0 ≤ IntKind.u64.wrap a := by
  simp only [IntKind.wrap, IntKind.signed, IntKind.bits]
  simp
  omega
theorem mod_in (a : Int) (c : Nat) (hc : 0 < c) (hc2 : c ≤ 9223372036854775807) : ∃ n : Nat, n < c ∧ IntKind.i64.wrap (IntKind.u64.wrap a % (c : Int)) = (n : Int) := by
  have h := wrapU a
  have h1 := Int.emod_nonneg (IntKind.u64.wrap a) (show (c : Int) ≠ 0 by omega)
  have h2 := Int.emod_lt_of_pos (IntKind.u64.wrap a) (show (0 : Int) < c by omega)
  refine ⟨(IntKind.u64.wrap a % (c : Int)).toNat, by omega, ?_⟩
  rw [IntWalk.i64_in _ (by omega)]
  omega
theorem MSub.all {S : Nat → Prop} {M : AM} (h : ∀ i b, M[i]? = some (some b) → S i) : MSub M (vw S M) := ⟨by rw [vw_len]; exact Nat.le_refl _, fun i b _ hi => vw_some.2 ⟨h i b hi, hi⟩⟩
theorem ClerkAt.vw {S : Nat → Prop} {M : AM} {ck q bk : Nat} {mvv : Value} {K : Ck} (h : ClerkAt M ck q mvv bk K) (hS : ∀ j, ckD ck q mvv j → S j) : ClerkAt (Abs.vw S M) ck q mvv bk K := by
  obtain ⟨h1, h2, h3, ⟨E, h4, h5⟩, h6⟩ := h
  refine ⟨vw_some.2 ⟨hS _ (.inl rfl), h1⟩, h2, by rw [vw_len]; exact h3, ⟨E, vw_some.2 ⟨hS _ (.inr (.inl rfl)), h4⟩, h5⟩, ?_⟩
  rcases h6 with h6 | ⟨a, kd, sz, q1, q2, q3, q4, q5⟩
  · exact .inl h6
  · exact .inr ⟨a, kd, sz, q1, q2, vw_some.2 ⟨hS a (.inr (.inr fun hn => hn _ _ q2)), q3⟩, q4, q5⟩
/-- A clerk, at work or done. -/
def CSt (M : AM) (bk ck : Nat) : Option Ck → Prop
  | none => DoneC M ck bk
  | some K => ∃ q mvv, ClerkAt M ck q mvv bk K
theorem CSt.msub {M M' : AM} {bk ck : Nat} {o : Option Ck} (h : CSt M bk ck o) (hs : MSub M M') : CSt M' bk ck o := by
  cases o with
  | none => exact DoneC.msub h hs
  | some K => obtain ⟨q, v, h⟩ := h; exact ⟨q, v, h.msub hs⟩
/-- The objects: the book, the row of the clerks' names, the clerks. -/
def dobj (n0 bk : Nat) (B : Bk) (av : Value) (ps : List Nat) (cs : List (Nat × Option Ck)) : Nat → AM → Prop
  | 0, A => ∃ pv, BookAt A 0 bk B pv
  | 1, A => Row A n0 1 av (ps.map fun c => .pointer (some ⟨c, 0, none⟩)) ps.length
  | k + 2, A => ∀ c, cs[k]? = some c → CSt A bk c.1 c.2
theorem dobj_mono {n0 bk : Nat} {B : Bk} {av : Value} {ps : List Nat} {cs : List (Nat × Option Ck)} : ∀ k A A', MSub A A' → dobj n0 bk B av ps cs k A → dobj n0 bk B av ps cs k A'
  | 0, A, A', hs, ⟨pv, h⟩ => ⟨pv, h.msub hs⟩
  | 1, A, A', hs, h => Row.msub h hs
  | k + 2, A, A', hs, h => fun c hc => (h c hc).msub hs
/-- What a clerk at work keeps. -/
structure OKK (K : Ck) : Prop where
  dn : K.done = false
  n : K.mv.length ≤ 16
  ok : K.mv.all okT = true
  bd : Bd K.V (1000000000 + 2000000 * (K.mv.length : Int))
  seen : ∀ x ∈ K.seen, inB x.1 x.2 = true
theorem OKK.moF {K : Ck} (h : OKK K) (x : Tr) : OKK (moF K x).2 := by
  unfold Abs.moF
  rw [if_neg (by rw [h.dn]; simp)]
  by_cases ho : okT x = true
  · rw [if_pos ho]
    by_cases h16 : 16 ≤ K.mv.length
    · rw [if_pos h16]; exact h
    · rw [if_neg h16]
      refine ⟨h.dn, by simp; omega, by simp [h.ok, ho], ?_, h.seen⟩
      have := h.bd.wth1 ho
      simp only [List.length_append, List.length_singleton]
      exact this.le (by push_cast; omega)
  · rw [if_neg ho]; exact h
section
variable {m : AM} {ow : Nat → Nat} {M : AM} {n0 bk : Nat} {B : Bk} {av : Value} {ps : List Nat} {cs : List (Nat × Option Ck)}
/-- What a call says of the book. -/
def BkQ (R : Value → Prop) (B' : Bk) (bk : Nat) (pv : Value) (m : AM) (r : Value) (M' : AM) : Prop := R r ∧ ∃ u, BookAt M' 0 bk B' u ∧ Keep (bkD bk pv) m M'
theorem Side.bookCall {f : FuncId} {args : Array Value} {B' : Bk} {R : Value → Prop} (h : Side m ow M (dobj n0 bk B av ps cs)) (hc : ∀ pv, BookAt (vw (fun j => ow j = 0) M) 0 bk B pv → ACall Try.prog f args (vw (fun j => ow j = 0) M) (BkQ R B' bk pv (vw (fun j => ow j = 0) M))) :
    ACall Try.prog f args M (fun r M2 => R r ∧ M.length ≤ M2.length ∧ (∀ j, j < M.length → ow j ≠ 0 → M2[j]? = M[j]?) ∧ Side m (asg ow M.length 0) M2 (dobj n0 bk B' av ps cs)) := by
  obtain ⟨pv, hB⟩ := h.at_ 0
  refine (ACall.frame (fun j => ow j = 0) (hc pv hB)).mono ?_
  rintro r M2 ⟨M', ⟨hR, u, hB', hk⟩, hF⟩
  refine ⟨hR, hF.len, fun j hj hn => hF.out j hj hn, ?_⟩
  have hcl := hk.clean hB.in_
  refine h.call (I := fun k => k = 0) hF hcl (by decide) (fun j hj hn => asg_lt hj) (fun k hk => ?_) ?_ dobj_mono
  · rcases k with _ | _ | k
    · exact absurd rfl hk
    · rfl
    · rfl
  · rintro k rfl
    refine ⟨u, hB'.msub (MSub.all fun i b hi => ?_)⟩
    by_cases hl : i < M.length
    · show asg ow M.length 0 i = 0
      rw [asg_lt hl]
      by_cases e : ow i = 0
      · exact e
      · rw [hcl i hl e] at hi; cases hi
    · exact asg_ge (by omega)
theorem set_getT {α : Type} {l : List α} {i k : Nat} {x : α} (hi : i < l.length) : (l.set i x)[k]? = if k = i then some x else l[k]? := by
  by_cases e : k = i
  · subst e; rw [if_pos rfl, List.getElem?_set_self hi]
  · rw [if_neg e, List.getElem?_set_ne (Ne.symm e)]
theorem Side.clkCall {f : FuncId} {args : Array Value} {k ck : Nat} {o o' : Option Ck} {R : Value → Prop} (h : Side m ow M (dobj n0 bk B av ps cs)) (hk : cs[k]? = some (ck, o))
    (hc : CSt (vw (fun j => ow j = k + 2) M) bk ck o → ACall Try.prog f args (vw (fun j => ow j = k + 2) M) (fun r M' => R r ∧ CSt M' bk ck o' ∧ ∃ D : Nat → Prop, Keep D (vw (fun j => ow j = k + 2) M) M' ∧ ∀ j, D j → ow j = k + 2)) :
    ACall Try.prog f args M (fun r M2 => R r ∧ M.length ≤ M2.length ∧ (∀ j, j < M.length → ow j ≠ k + 2 → M2[j]? = M[j]?) ∧ Side m (asg ow M.length (k + 2)) M2 (dobj n0 bk B av ps (cs.set k (ck, o')))) := by
  have hkl := (List.getElem?_eq_some_iff.1 hk).1
  refine (ACall.frame (fun j => ow j = k + 2) (hc (h.at_ (k + 2) _ hk))).mono ?_
  rintro r M2 ⟨M', ⟨hR, hC, D, hD, hDo⟩, hF⟩
  refine ⟨hR, hF.len, fun j hj hn => hF.out j hj hn, ?_⟩
  have hcl := hD.clean hDo
  refine h.call (I := fun i => i = k + 2) hF hcl (by omega) (fun j hj hn => asg_lt hj) (fun i hi => ?_) ?_ dobj_mono
  · rcases i with _ | _ | i
    · rfl
    · rfl
    · funext A
      show (∀ c, (cs.set k (ck, o'))[i]? = some c → _) = (∀ c, cs[i]? = some c → _)
      rw [set_getT hkl, if_neg (by omega)]
  · rintro i rfl
    intro c hcc
    rw [set_getT hkl, if_pos rfl] at hcc
    injection hcc with hcc
    subst hcc
    refine hC.msub (MSub.all fun i b hi => ?_)
    by_cases hl : i < M.length
    · show asg ow M.length (k + 2) i = k + 2
      rw [asg_lt hl]
      by_cases e : ow i = k + 2
      · exact e
      · rw [hcl i hl e] at hi; cases hi
    · exact asg_ge (by omega)
theorem Side.begin (h : Side m ow M (dobj n0 bk B av ps cs)) :
    ACall Try.prog 30 #[.pointer (some ⟨bk, 0, none⟩)] M (fun r M2 => ∃ ow', r = .pointer (some ⟨M.length + 1, 0, none⟩) ∧ M.length ≤ M2.length ∧ (∀ j, j < M.length → ow j = 1 → M2[j]? = M[j]? ∧ ow' j = 1) ∧ Side m ow' M2 (dobj n0 bk B av ps (cs ++ [(M.length + 1, some ⟨B.P.length, B.H, [], [], false⟩)]))) := by
  obtain ⟨pv, hB⟩ := h.at_ 0
  have hBv : BookAt (vw (fun j => ow j = 0 ∨ ow j = cs.length + 2) M) 0 bk B pv := hB.msub (Sub.vws (fun i e => .inl e) M).m
  refine (ACall.frame (fun j => ow j = 0 ∨ ow j = cs.length + 2) (Begin_ok hBv)).mono ?_
  rintro r M2 ⟨M', ⟨hr, hC, N, hN⟩, hF⟩
  rw [vw_len] at hr hC
  have hcl : ∀ i, i < M.length → ¬ (ow i = 0 ∨ ow i = cs.length + 2) → M'[i]? = some none := fun i hi hn => by
    rw [hN, List.getElem?_append_left (by rw [vw_len]; exact hi), vw_out hn hi]
  refine ⟨asg ow M.length (cs.length + 2), hr, hF.len, fun j hj hn => ⟨hF.out j hj (by rw [hn]; omega), by rw [asg_lt hj]; exact hn⟩, ?_⟩
  refine h.call (I := fun k => k = 0 ∨ k = cs.length + 2) hF hcl (by omega) (fun j hj hn => asg_lt hj) (fun i hi => ?_) ?_ dobj_mono
  · rcases i with _ | _ | i
    · exact absurd (.inl rfl) hi
    · rfl
    · funext A
      show (∀ c, (cs ++ [_])[i]? = some c → _) = (∀ c, cs[i]? = some c → _)
      have : i ≠ cs.length := fun e => hi (.inr (by rw [e]))
      rcases Nat.lt_or_ge i cs.length with hl | hl
      · rw [List.getElem?_append_left hl]
      · rw [List.getElem?_eq_none (by simp; omega), List.getElem?_eq_none hl]
  · rintro i (rfl | rfl)
    · refine ⟨pv, hB.msub ⟨by rw [vw_len, vw_len, hN, List.length_append, vw_len]; omega, fun i b _ hi => ?_⟩⟩
      obtain ⟨q1, q2⟩ := vw_some.1 hi
      have hl := (List.getElem?_eq_some_iff.1 q2).1
      refine vw_some.2 ⟨by show asg ow M.length _ i = 0; rw [asg_lt hl]; exact q1, ?_⟩
      rw [hN, List.getElem?_append_left (by rw [vw_len]; exact hl)]
      exact vw_some.2 ⟨.inl q1, q2⟩
    · intro c hcc
      rw [List.getElem?_append_right (Nat.le_refl _), Nat.sub_self] at hcc
      simp at hcc
      subst hcc
      refine ⟨_, _, hC.vw fun j hj => ?_⟩
      rcases hj with rfl | rfl | hj
      · exact asg_ge (by omega)
      · exact asg_ge (by omega)
      · exact absurd NotOf.nil hj
theorem Side.commit {k ck : Nat} {K : Ck} (h : Side m ow M (dobj n0 bk B av ps cs)) (hk : cs[k]? = some (ck, some K)) (hK : OKK K) (hbd : Bd B.H 1000000000) (hpl : B.P.length ≤ 1000000) :
    ACall Try.prog 41 #[.pointer (some ⟨ck, 0, none⟩)] M (fun r M2 => ∃ ow', r = .tuple #[.int .i64 (coF K B).1, .int .i64 (coF K B).2.1] ∧ M.length ≤ M2.length ∧ (∀ j, j < M.length → ow j = 1 → M2[j]? = M[j]? ∧ ow' j = 1) ∧ Side m ow' M2 (dobj n0 bk (coF K B).2.2 av ps (cs.set k (ck, none)))) := by
  have hkl := (List.getElem?_eq_some_iff.1 hk).1
  obtain ⟨pv, hB⟩ := h.at_ 0
  obtain ⟨q, mvv, hC⟩ := h.at_ (k + 2) _ hk
  have hBv : BookAt (vw (fun j => ow j = 0 ∨ ow j = k + 2) M) 0 bk B pv := hB.msub (Sub.vws (fun i e => .inl e) M).m
  have hCv : ClerkAt (vw (fun j => ow j = 0 ∨ ow j = k + 2) M) ck q mvv bk K := hC.msub (Sub.vws (fun i e => .inr e) M).m
  have iB := hB.in_
  have iC := hC.in_
  have sep : ∀ j, ckD ck q mvv j → ¬ bkD bk pv j := fun j h1 h2 => by have e1 : ow j = k + 2 := iC j h1; have e2 : ow j = 0 := iB j h2; omega
  have s1 : ck ≠ bk := fun e => sep ck (.inl rfl) (.inl e)
  have s2 : NotOf pv ck := Classical.byContradiction fun e => sep ck (.inl rfl) (.inr e)
  have s3 : q ≠ bk := fun e => sep q (.inr (.inl rfl)) (.inl e)
  have s4 : NotOf pv q := Classical.byContradiction fun e => sep q (.inr (.inl rfl)) (.inr e)
  have s5 : ∀ j, ¬ NotOf mvv j → j ≠ bk ∧ NotOf pv j := fun j hj => ⟨fun e => sep j (.inr (.inr hj)) (.inl e), Classical.byContradiction fun e => sep j (.inr (.inr hj)) (.inr e)⟩
  refine (ACall.frame (fun j => ow j = 0 ∨ ow j = k + 2) (Commit_ok hBv hCv hK.dn s1 s2 s3 s4 s5 hK.seen hK.ok hK.n hbd hpl)).mono ?_
  rintro r M2 ⟨M', ⟨u, hr, hB', hD', hkp, _, _⟩, hF⟩
  have hcl : ∀ i, i < M.length → ¬ (ow i = 0 ∨ ow i = k + 2) → M'[i]? = some none := hkp.clean (by
    rintro i (rfl | rfl | e)
    · exact .inr (iC _ (.inl rfl))
    · exact .inr (iC _ (.inr (.inl rfl)))
    · exact .inl (iB _ e))
  have hcko : ow ck = k + 2 := iC _ (.inl rfl)
  have hckl : ck < M.length := by
    have := hC.lt
    rw [vw_len] at this
    exact this
  refine ⟨fun j => if j = ck then k + 2 else if j < M.length ∧ ¬ (ow j = 0 ∨ ow j = k + 2) then ow j else 0, hr, hF.len, fun j hj hn => ⟨hF.out j hj (by rw [hn]; omega), ?_⟩, ?_⟩
  · show (if j = ck then k + 2 else if j < M.length ∧ ¬ (ow j = 0 ∨ ow j = k + 2) then ow j else 0) = 1
    rw [if_neg (fun e => by rw [e, hcko] at hn; omega), if_pos ⟨hj, by rw [hn]; omega⟩]
    exact hn
  · refine h.call (I := fun i => i = 0 ∨ i = k + 2) hF hcl (by omega) (fun j hj hn => ?_) (fun i hi => ?_) ?_ dobj_mono
    · show (if j = ck then k + 2 else if j < M.length ∧ ¬ (ow j = 0 ∨ ow j = k + 2) then ow j else 0) = ow j
      rw [if_neg (fun e => hn (.inr (by rw [e]; exact hcko))), if_pos ⟨hj, hn⟩]
    · rcases i with _ | _ | i
      · exact absurd (.inl rfl) hi
      · rfl
      · funext A
        show (∀ c, (cs.set k (ck, none))[i]? = some c → _) = (∀ c, cs[i]? = some c → _)
        rw [set_getT hkl, if_neg (fun e => hi (.inr (by rw [e])))]
    · rintro i (rfl | rfl)
      · obtain ⟨b, w1, w2, w3, w4, w5⟩ := hD'
        refine ⟨u, hB'.without w1 w3 fun i hi hx => ?_⟩
        obtain ⟨c, hx⟩ := hx
        show (if i = ck then k + 2 else if i < M.length ∧ ¬ (ow i = 0 ∨ ow i = k + 2) then ow i else 0) = 0
        rw [if_neg hi, if_neg]
        rintro ⟨a1, a2⟩
        rw [hcl i a1 a2] at hx
        cases hx
      · intro c hcc
        rw [set_getT hkl, if_pos rfl] at hcc
        injection hcc with hcc
        subst hcc
        obtain ⟨b, w1, w2, w3, w4, w5⟩ := hD'
        exact ⟨b, vw_some.2 ⟨if_pos rfl, w1⟩, w2, w3, w4, by rw [vw_len]; exact w5⟩
end
end Go.Proofs.Ytabdnepfcohncaa.Abs
namespace Go.Proofs.Ytabdnepfcohncaa.Abs
set_option linter.unusedSimpArgs false
set_option linter.unusedVariables false
open Go.RowKit
open Go.Proofs.Ytabdnepfcohncaa.Sim
open Go.Proofs
theorem un31 : Try.prog.underlying 31 = some (.int .u64) := by kernel_rfl
theorem un84 : Try.prog.underlying 84 = some (.slice 57) := by kernel_rfl
theorem el84 : elemB Try.prog 84 = some (57, 1, 8, #[.pointer none]) := by kernel_rfl
theorem bs84 {m : AM} {k a : Nat} : abuildSlice Try.prog m k 84 1 [(0, .pointer (some ⟨a, 0, none⟩))] = some (.slice (some ⟨k, 0, none⟩) 1 1, m.set k (some { cells := [.pointer (some ⟨a, 0, none⟩)] })) := by kernel_rfl
theorem Side.sub {m : AM} {ow : Nat → Nat} {M : AM} {obj : Nat → AM → Prop} (h : Side m ow M obj) : Sub m M := ⟨h.len, fun i b hi => by rw [(h.base i (List.getElem?_eq_some_iff.1 hi).1).1]; exact hi⟩
theorem RdL.sub {M M' : AM} {a o : Nat} {c : List Value} (h : RdL M a o c) (hs : Sub M M') : RdL M' a o c := by
  obtain ⟨b, h1, h2⟩ := h
  exact ⟨b, hs.get a b h1, h2⟩
/-- Reverse, whatever comes of it. -/
def rvB (B : Bk) (n : Int) : Bk := if 1 ≤ n ∧ n ≤ B.P.length then (postF B (revL (B.P.getD (n - 1).toNat []))).1 else B
def rvR (B : Bk) (n : Int) : Int × Int := if 1 ≤ n ∧ n ≤ B.P.length then (postF B (revL (B.P.getD (n - 1).toNat []))).2 else (0, 7)
theorem Reverse_any {m : AM} {bk : Nat} {B : Bk} {pv : Value} (n : Int) (h : BookAt m 0 bk B pv) (hg : Good B) (hpl : B.P.length ≤ 1000000) : ACall Try.prog 42 #[.pointer (some ⟨bk, 0, none⟩), .int .i64 n] m (BkQ (fun r => r = .tuple #[.int .i64 (rvR B n).1, .int .i64 (rvR B n).2]) (rvB B n) bk pv m) := by
  unfold rvB rvR
  by_cases c : 1 ≤ n ∧ n ≤ B.P.length
  · rw [if_pos c, if_pos c]
    obtain ⟨k, rfl⟩ : ∃ k : Nat, n = (k : Int) + 1 := ⟨(n - 1).toNat, by omega⟩
    rw [show ((k : Int) + 1 - 1).toNat = k by omega]
    refine (Reverse_ok h (by omega) hg.ok hg.bd hpl).mono ?_
    rintro r M ⟨u, e1, e2, e3, _, _⟩
    exact ⟨e1, u, e2, e3.keep⟩
  · rw [if_neg c, if_neg c]
    refine (Reverse_no h c).mono ?_
    rintro r M ⟨rfl, rfl⟩
    exact ⟨rfl, pv, h, Keep.refl _ _⟩
theorem rvB_good {B : Bk} (h : Good B) (n : Int) : Good (rvB B n) ∧ (rvB B n).P.length ≤ B.P.length + 1 := by
  unfold rvB
  by_cases c : 1 ≤ n ∧ n ≤ B.P.length
  · rw [if_pos c]; exact ⟨h.post _, postF_len _ _⟩
  · rw [if_neg c]; exact ⟨h, Nat.le_succ _⟩
theorem coF_good {B : Bk} (h : Good B) (K : Ck) : Good (coF K B).2.2 ∧ (coF K B).2.2.P.length ≤ B.P.length + 1 := by
  unfold coF
  by_cases c : K.mv.length = 0
  · rw [if_pos c]; exact ⟨h, Nat.le_succ _⟩
  · rw [if_neg c]
    by_cases d : stale K B = true
    · rw [if_pos d]; exact ⟨h, Nat.le_succ _⟩
    · rw [if_neg d]; exact ⟨h.post _, postF_len _ _⟩
/-- Post of a row just made, that goes over to the book. -/
theorem Side.post {m : AM} {ow : Nat → Nat} {M : AM} {n0 bk : Nat} {B : Bk} {av : Value} {ps : List Nat} {cs : List (Nat × Option Ck)} {X N : AM} {r : Value} {l : List Tr} (h : Side m ow X (dobj n0 bk B av ps cs)) (hN : M = X ++ N) (hr : Row M X.length 4 r (tcs (l.take 18)) (l.take 18).length) (hg : Good B) (hpl : B.P.length ≤ 1000000) :
    ACall Try.prog 28 #[.pointer (some ⟨bk, 0, none⟩), r] M (fun v M2 => v = .tuple #[.int .i64 (postF B l).2.1, .int .i64 (postF B l).2.2] ∧ M.length ≤ M2.length ∧ (∀ j, j < X.length → ow j ≠ 0 → M2[j]? = X[j]?) ∧ ∃ ow', (∀ j, j < X.length → ow' j = ow j) ∧ Side m ow' M2 (dobj n0 bk (postF B l).1 av ps cs)) := by
  subst hN
  have h1 := h.app N 0
  have hl18 : (l.take 18).length ≤ 18 := by rw [List.length_take]; omega
  refine (h1.bookCall (R := fun v => v = .tuple #[.int .i64 (postF B (l.take 18)).2.1, .int .i64 (postF B (l.take 18)).2.2]) (B' := (postF B (l.take 18)).1) fun pv hB => ?_).mono ?_
  · have hrv : Row (vw (fun j => asg ow X.length 0 j = 0) (X ++ N)) X.length 4 r (tcs (l.take 18)) (l.take 18).length := hr.vw fun a ha => asg_ge ha
    have h0 := hB.lt
    refine (Post_ok hB (l := l.take 18) (fun M' hF => Row.trsKeep hB.row (fun a y hr => (hB.sep hr).1) hrv (by omega) hF) hg.bd hpl (by omega)).mono ?_
    rintro v M' ⟨u, e1, e2, e3, _, _⟩
    exact ⟨e1, u, e2, e3.keep⟩
  · rintro v M2 ⟨e1, e2, e3, e4⟩
    rw [(postF_take B l).1] at e4
    rw [(postF_take B l).2] at e1
    by_cases hz : (postF B l).2.2 = 0
    · have hz' : (postF B (l.take 18)).2.2 = 0 := by rw [(postF_take B l).2]; exact hz
      rw [postF_num hz', ← postF_num hz] at e1
      exact ⟨e1, e2, fun j hj hn => by rw [e3 j (by rw [List.length_append]; omega) (by rw [asg_lt hj]; exact hn), List.getElem?_append_left hj], _, fun j hj => by rw [asg_lt (by rw [List.length_append]; omega), asg_lt hj], e4⟩
    · have hz' : (postF B (l.take 18)).2.2 ≠ 0 := by rw [(postF_take B l).2]; exact hz
      rw [(postF_bad hz').2, ← (postF_bad hz).2] at e1
      exact ⟨e1, e2, fun j hj hn => by rw [e3 j (by rw [List.length_append]; omega) (by rw [asg_lt hj]; exact hn), List.getElem?_append_left hj], _, fun j hj => by rw [asg_lt (by rw [List.length_append]; omega), asg_lt hj], e4⟩
theorem Row.vw2 {S : Nat → Prop} {M : AM} {b0 s : Nat} {u : Value} {c : List Value} {n : Nat} (h : Row M b0 s u c n) (hs : ∀ a, ¬ NotOf u a → S a) : Row (Abs.vw S M) b0 s u c n := by
  rcases h with h | ⟨a, kd, sz, h1, h2, h3, h4, h5⟩
  · exact .inl h
  · exact .inr ⟨a, kd, sz, h1, h2, vw_some.2 ⟨hs a (fun hn => hn _ _ h2), h3⟩, h4, h5⟩
/-- One more name in the law's row. -/
theorem Side.named {m : AM} {ow : Nat → Nat} {M M3 : AM} {bk c : Nat} {B : Bk} {av u : Value} {ps : List Nat} {cs : List (Nat × Option Ck)} (h : Side m ow M (dobj m.length bk B av ps cs)) (hr : Row M3 m.length 1 u ((ps.map fun c => (.pointer (some ⟨c, 0, none⟩) : Value)) ++ [.pointer (some ⟨c, 0, none⟩)]) (ps.length + 1))
    (hl : M.length ≤ M3.length) (hk : ∀ j, j < M.length → NotOf av j → M3[j]? = M[j]?) (hk2 : ∀ j, j < M.length → NotOf av j → NotOf u j) : Side m (asg ow M.length 1) M3 (dobj m.length bk B u (ps ++ [c]) cs) := by
  have hR : Row (vw (fun j => ow j = 1) M) m.length 1 av (ps.map fun c => .pointer (some ⟨c, 0, none⟩)) ps.length := h.at_ 1
  have hD : ∀ j, ¬ NotOf av j → ow j = 1 ∧ m.length ≤ j := fun j hj => by
    obtain ⟨b, hb⟩ := hR.at_ hj
    refine ⟨(vw_some.1 hb).1, ?_⟩
    rcases Nat.lt_or_ge j m.length with hlt | hge
    · exact absurd (NotOf.row hR hlt) hj
    · exact hge
  refine h.law (D := fun j => ¬ NotOf av j) ⟨hl, fun j hj hn => hk j hj (Classical.byContradiction hn)⟩ hD (fun k hk => ?_) ?_ dobj_mono
  · rcases k with _ | _ | k
    · rfl
    · exact absurd rfl hk
    · rfl
  · show Row _ m.length 1 u ((ps ++ [c]).map _) (ps ++ [c]).length
    rw [List.map_append, List.length_append]
    refine Row.vw2 hr fun a ha => ?_
    by_cases hlt : a < M.length
    · show asg ow M.length 1 a = 1
      rw [asg_lt hlt]
      exact (hD a fun hn => ha (hk2 a hlt hn)).1
    · exact asg_ge (by omega)
theorem Side.row {m : AM} {ow : Nat → Nat} {M : AM} {n0 bk : Nat} {B : Bk} {av : Value} {ps : List Nat} {cs : List (Nat × Option Ck)} (h : Side m ow M (dobj n0 bk B av ps cs)) : Row M n0 1 av (ps.map fun c => .pointer (some ⟨c, 0, none⟩)) ps.length := Row.msub (h.at_ 1) (Sub.vw _ _).m
theorem Side.book {m : AM} {ow : Nat → Nat} {M : AM} {n0 bk : Nat} {B : Bk} {av : Value} {ps : List Nat} {cs : List (Nat × Option Ck)} (h : Side m ow M (dobj n0 bk B av ps cs)) : ∃ pv, BookAt M 0 bk B pv := by
  obtain ⟨pv, hB⟩ := h.at_ 0
  exact ⟨pv, hB.msub (Sub.vw _ _).m⟩
/-- Move and Commit, of a clerk at work or done. -/
def moO (o : Option Ck) (x : Tr) : Option Ck := o.map fun K => (moF K x).2
def moE (o : Option Ck) (x : Tr) : Int := match o with
  | none => 9
  | some K => (moF K x).1
def cmB (o : Option Ck) (B : Bk) : Bk := match o with
  | none => B
  | some K => (coF K B).2.2
def cmR (o : Option Ck) (B : Bk) : Int × Int := match o with
  | none => (0, 9)
  | some K => ((coF K B).1, (coF K B).2.1)
section
variable {m : AM} {ow : Nat → Nat} {M : AM} {n0 bk : Nat} {B : Bk} {av : Value} {ps : List Nat} {cs : List (Nat × Option Ck)}
theorem Side.move {k ck : Nat} {o : Option Ck} (h : Side m ow M (dobj n0 bk B av ps cs)) (hk : cs[k]? = some (ck, o)) (ho : ∀ K, o = some K → OKK K) (x : Tr) :
    ACall Try.prog 33 #[.pointer (some ⟨ck, 0, none⟩), x.v] M (fun r M2 => r = .int .i64 (moE o x) ∧ M.length ≤ M2.length ∧ (∀ j, j < M.length → ow j ≠ k + 2 → M2[j]? = M[j]?) ∧ Side m (asg ow M.length (k + 2)) M2 (dobj n0 bk B av ps (cs.set k (ck, moO o x)))) := by
  refine h.clkCall hk fun hC => ?_
  cases o with
  | none =>
    refine (Move_done x hC).mono ?_
    rintro r M' ⟨rfl, N, rfl⟩
    exact ⟨rfl, hC.msub (Sub.app _ N).m, fun _ => False, Keep.app _ _ _, fun _ h => h.elim⟩
  | some K =>
    obtain ⟨q, mvv, hC⟩ := hC
    have hK := ho K rfl
    refine (Move_ok hC hK.bd (by have := hK.n; omega)).mono ?_
    rintro r M' ⟨mvv', rfl, hC', hkp, _⟩
    exact ⟨rfl, ⟨q, mvv', hC'⟩, ckD ck q mvv, hkp, fun j hj => hC.in_ j hj⟩
theorem moO_ok {o : Option Ck} (ho : ∀ K, o = some K → OKK K) (x : Tr) : ∀ K, moO o x = some K → OKK K := by
  rintro K hK
  cases o with
  | none => cases hK
  | some K0 =>
    injection hK with hK
    rw [← hK]
    exact (ho K0 rfl).moF x
theorem Side.commitAny {k ck : Nat} {o : Option Ck} (h : Side m ow M (dobj n0 bk B av ps cs)) (hk : cs[k]? = some (ck, o)) (ho : ∀ K, o = some K → OKK K) (hbd : Bd B.H 1000000000) (hpl : B.P.length ≤ 1000000) :
    ACall Try.prog 41 #[.pointer (some ⟨ck, 0, none⟩)] M (fun r M2 => ∃ ow', r = .tuple #[.int .i64 (cmR o B).1, .int .i64 (cmR o B).2] ∧ M.length ≤ M2.length ∧ (∀ j, j < M.length → ow j = 1 → M2[j]? = M[j]? ∧ ow' j = 1) ∧ Side m ow' M2 (dobj n0 bk (cmB o B) av ps (cs.set k (ck, none)))) := by
  cases o with
  | none =>
    refine (h.clkCall (o' := none) (R := fun r => r = .tuple #[.int .i64 0, .int .i64 9]) (f := 41) (args := #[.pointer (some ⟨ck, 0, none⟩)]) hk fun hC => ?_).mono ?_
    · refine (Commit_done hC).mono ?_
      rintro r M' ⟨rfl, rfl⟩
      exact ⟨rfl, hC, fun _ => False, Keep.refl _ _, fun _ h => h.elim⟩
    · rintro r M2 ⟨rfl, h1, h2, h3⟩
      exact ⟨_, rfl, h1, fun j hj hn => ⟨h2 j hj (by rw [hn]; omega), by rw [asg_lt hj]; exact hn⟩, h3⟩
  | some K => exact h.commit hk (ho K rfl) hbd hpl
theorem cmB_good (h : Good B) (o : Option Ck) : Good (cmB o B) ∧ (cmB o B).P.length ≤ B.P.length + 1 := by
  cases o with
  | none => exact ⟨h, Nat.le_succ _⟩
  | some K => exact coF_good h K
end
end Go.Proofs.Ytabdnepfcohncaa.Abs
namespace Go.Proofs.Ytabdnepfcohncaa.Abs
set_option linter.unusedSimpArgs false
set_option linter.unusedVariables false
open Go.RowKit
open Go.Proofs.Ytabdnepfcohncaa.Sim
open Go.Proofs
/-- The clerks' names are where they were. -/
def Alive (cs : List (Nat × Option Ck)) : Prop := ∀ c ∈ cs, ∀ K, c.2 = some K → OKK K
theorem Alive.set {cs : List (Nat × Option Ck)} (h : Alive cs) (j ck : Nat) (o : Option Ck) (ho : ∀ K, o = some K → OKK K) : Alive (cs.set j (ck, o)) := fun c hc K hK => by
  rcases List.mem_or_eq_of_mem_set hc with hc | rfl
  · exact h c hc K hK
  · exact ho K hK
theorem map_set_fst {cs : List (Nat × Option Ck)} {j ck : Nat} {o o' : Option Ck} (h : cs[j]? = some (ck, o)) : (cs.set j (ck, o')).map (·.1) = cs.map (·.1) := by
  apply List.ext_getElem?
  intro i
  rw [List.getElem?_map, List.getElem?_map, set_getT (List.getElem?_eq_some_iff.1 h).1]
  by_cases e : i = j
  · subst e; rw [if_pos rfl, h]; rfl
  · rw [if_neg e]
theorem set_selfT {α : Type} {l : List α} {j : Nat} {x : α} (h : l[j]? = some x) : l.set j x = l := by
  apply List.ext_getElem?
  intro i
  rw [set_getT (List.getElem?_eq_some_iff.1 h).1]
  by_cases e : i = j
  · subst e; rw [if_pos rfl, h]
  · rw [if_neg e]
theorem look_in {B : Bk} {p i : Nat} (hp : p < 16) (hi : i < 16) : lookF B.H (p : Int) (i : Int) = (B.H.getD (p * 16 + i) 0, 0) := by
  unfold lookF
  rw [if_pos (by simp only [inB, decide_eq_true_eq]; omega)]
  rfl
set_option maxHeartbeats 32000000 in
set_option maxRecDepth 100000 in
theorem StockDouble_ok {m : AM} (hw : ∀ M : AM, ACall Try.prog 16 #[] M (Ret (.bool true) M)) {v : Value} {ds : List Deed} (h : Deeds m v ds) (hn : ds.length ≤ 9223372036854775807) (hl : ∀ k, (ds.getD k default).l.length ≤ 9223372036854775807) : ACall Try.prog 9 #[v] m (Ret (.bool true) m) := by
  refine ACall.drop (.bool _) ?_
  obtain ⟨a, o, h1, h2, h3⟩ := h
  refine ACall.start Try.func9 rfl rfl ?_
  (repeat (first | (with_reducible refine AWo.cons ?_) | ((with_reducible refine Step.id ?_); first | ((with_reducible apply Step.move); exact rfl; exact rfl) | ((with_reducible apply Step.assign); exact rfl; exact rfl) | ((with_reducible apply Step.ptrNot); exact rfl; exact rfl; exact un49; exact rfl) | ((with_reducible apply Step.len); exact rfl; (focus (assumption)); (focus (decide +kernel)); exact rfl) | ((with_reducible apply Step.callL fit (k := 0)); exact rfl; exact rfl; exact Try.func27; exact rfl; exact rfl; exact (NewBook_ok); (focus (first | (simp only [List.nil_append, List.cons_append, List.set_cons_zero, List.set_cons_succ, iv_set, bv_set, iv_rep, bv_rep]; done) | (simp only [List.nil_append, List.cons_append, List.set_cons_zero, List.set_cons_succ, iv_set, bv_set, iv_rep, bv_rep]; rfl) | rfl)))) | (with_reducible refine AWo.nil ?_) | ((with_reducible apply AW.seq)) | ((with_reducible apply Then.n)) | ((with_reducible apply AW.regL)) | ((with_reducible apply AW.block)) | ((with_reducible apply AW.skip)) | ((with_reducible apply AW.condF); exact rfl; (focus (rfl)))))
  refine AW.midX 0 (fun t' M => ∃ (ow : Nat → Nat) (bk : Nat) (B : Bk) (av : Value) (cs : List (Nat × Option Ck)), Side m ow M (dobj m.length bk B av (cs.map (·.1)) cs) ∧ Good B ∧ B.P.length ≤ 61 ∧ All (fun i v => t' i = some v) [(3, .pointer (some ⟨bk, 0, none⟩))]) ?_ ?_
  · refine AW.loopW (fun q t M => ∃ (k : Nat) (ow : Nat → Nat) (bk : Nat) (B : Bk) (av : Value) (cs : List (Nat × Option Ck)), q = ds.length - k ∧ k ≤ ds.length ∧ k ≤ 61 ∧ Side m ow M (dobj m.length bk B av (cs.map (·.1)) cs) ∧ Good B ∧ B.P.length ≤ k ∧ cs.length ≤ k ∧ Alive cs ∧
      t = fr [(3, .pointer (some ⟨bk, 0, none⟩)), (4, av), (21, v), (22, .int .i64 (ds.length : Nat)), (23, .int .i64 (k : Nat))])
      ⟨_, _, (by repeat (first | exact trivial | (refine And.intro rfl ?_))), 0, fun j => if j < m.length then 1 else 0, m.length + 0, Bk.new, .slice none 0 0, [], rfl, Nat.zero_le _, Nat.zero_le _,
        ⟨by rw [List.length_append]; omega, fun j hj => ⟨List.getElem?_append_left hj, if_pos hj⟩, ?_, dobj_mono⟩, Good.new, Nat.zero_le _, Nat.zero_le _, fun c hc => absurd hc List.not_mem_nil, rfl⟩ ?_
    · rintro (_ | _ | k)
      · exact ⟨.slice none 0 0, by omega, vw_some.2 ⟨if_neg (by omega), by rw [get_app]; rfl⟩, Good.new.lH, Good.new.lC, ⟨[], Row.nil, fun k hk => absurd hk (Nat.not_lt_zero _)⟩⟩
      · exact Row.nil
      · intro c hc; simp at hc
    · rintro q t M ⟨k, ow, bk, B, av, cs, rfl, hk, hk61, hS, hG, hPl, hcl, hA, rfl⟩
      rcases Nat.lt_or_ge k ds.length with hlt | hge
      · obtain ⟨w, g1, g2⟩ := h3 k hlt
        have hM0 := hS.sub
        have g1' := fun T => (g1.sub hM0).old T
        have hle := hl k
        generalize ds.getD k default = x at *
        have hw1 : (Value.agg (x.cells w).toArray).cells.all (·.oneCell') = true := by obtain ⟨aa, oo, hs, _⟩ := g2; exact Deed.one hs
        have hpo := fun M h => post_ok (m := M) (v := w) (l := x.l) h hle
        refine AW.rebase ?_
        by_cases h40 : 60 < k
        · (repeat (first | (with_reducible refine AWo.cons ?_) | ((with_reducible refine Step.id ?_); first | ((with_reducible apply Step.move); exact rfl; exact rfl) | ((with_reducible apply Step.assign); exact rfl; exact rfl) | ((with_reducible apply Step.loadL (n := 5)); exact rfl; (focus (decide +kernel)); (focus (decide +kernel)); exact rfl; (focus (exact g1' _)); exact rfl; exact rfl) | ((with_reducible apply Step.ix (s := 5)); exact rfl; (focus (assumption)); exact rfl; (focus (decide +kernel)); exact rfl; (focus (omega))) | ((with_reducible apply Step.lss); exact rfl; exact rfl; exact rfl) | ((with_reducible apply Step.gtr); exact rfl; exact rfl; exact rfl) | ((with_reducible apply Step.alloc 0); exact rfl; exact ze52; exact rfl; (focus (first | (simp only [List.nil_append, List.cons_append, List.set_cons_zero, List.set_cons_succ, iv_set, bv_set, iv_rep, bv_rep]; done) | (simp only [List.nil_append, List.cons_append, List.set_cons_zero, List.set_cons_succ, iv_set, bv_set, iv_rep, bv_rep]; rfl) | rfl))) | ((with_reducible apply Step.storeA (k := 0) (n := 5)); exact rfl; exact rfl; exact rfl; exact rfl; (focus (decide +kernel)); exact rfl; (focus (first | assumption | exact hw1)); exact rfl; (focus (first | (simp only [List.nil_append, List.cons_append, List.set_cons_zero, List.set_cons_succ, iv_set, bv_set, iv_rep, bv_rep]; done) | (simp only [List.nil_append, List.cons_append, List.set_cons_zero, List.set_cons_succ, iv_set, bv_set, iv_rep, bv_rep]; rfl) | rfl)))) | (with_reducible refine AWo.nil ?_) | ((with_reducible apply AW.seq)) | ((with_reducible apply Then.n)) | ((with_reducible apply AW.regL)) | ((with_reducible apply AW.block)) | ((with_reducible apply AW.exit)) | ((with_reducible apply InBlk.miss); exact rfl) | ((with_reducible apply Then.e)) | ((with_reducible apply AW.skip)) | ((with_reducible apply AW.condT); exact rfl; (focus ((simp only [decide_eq_true_eq, decide_eq_false_iff_not, Bool.not_eq_true', Bool.not_eq_false', Bool.not_true, Bool.not_false]; first | assumption | omega))))))
          exact ⟨rfl, _, bk, B, av, cs, hS.app _ 1, hG, by omega, (by repeat (first | exact trivial | (refine And.intro rfl ?_)))⟩
        · obtain ⟨n, hn4, en⟩ := mod_in x.kd 4 (by omega) (by omega)
          (repeat (first | (with_reducible refine AWo.cons ?_) | ((with_reducible refine Step.id ?_); first | ((with_reducible apply Step.move); exact rfl; exact rfl) | ((with_reducible apply Step.assign); exact rfl; exact rfl) | ((with_reducible apply Step.load); exact rfl; (focus (decide +kernel)); exact rfl; (focus (exact Rd.new rfl rfl))) | ((with_reducible apply Step.loadL (n := 5)); exact rfl; (focus (decide +kernel)); (focus (decide +kernel)); exact rfl; (focus (exact g1' _)); exact rfl; exact rfl) | ((with_reducible apply Step.ix (s := 5)); exact rfl; (focus (assumption)); exact rfl; (focus (decide +kernel)); exact rfl; (focus (omega))) | ((with_reducible apply Step.field0); exact rfl; (focus (decide +kernel)); exact rfl) | ((with_reducible apply Step.lss); exact rfl; exact rfl; exact rfl) | ((with_reducible apply Step.gtr); exact rfl; exact rfl; exact rfl) | ((with_reducible apply Step.alloc 0); exact rfl; exact ze52; exact rfl; (focus (first | (simp only [List.nil_append, List.cons_append, List.set_cons_zero, List.set_cons_succ, iv_set, bv_set, iv_rep, bv_rep]; done) | (simp only [List.nil_append, List.cons_append, List.set_cons_zero, List.set_cons_succ, iv_set, bv_set, iv_rep, bv_rep]; rfl) | rfl))) | ((with_reducible apply Step.storeA (k := 0) (n := 5)); exact rfl; exact rfl; exact rfl; exact rfl; (focus (decide +kernel)); exact rfl; (focus (first | assumption | exact hw1)); exact rfl; (focus (first | (simp only [List.nil_append, List.cons_append, List.set_cons_zero, List.set_cons_succ, iv_set, bv_set, iv_rep, bv_rep]; done) | (simp only [List.nil_append, List.cons_append, List.set_cons_zero, List.set_cons_succ, iv_set, bv_set, iv_rep, bv_rep]; rfl) | rfl)))) | (with_reducible refine AWo.nil ?_) | ((with_reducible apply AW.seq)) | ((with_reducible apply Then.n)) | ((with_reducible apply AW.regL)) | ((with_reducible apply AW.block)) | ((with_reducible apply AW.skip)) | ((with_reducible apply AW.condT); exact rfl; (focus ((simp only [decide_eq_true_eq, decide_eq_false_iff_not, Bool.not_eq_true', Bool.not_eq_false', Bool.not_true, Bool.not_false]; first | assumption | omega)))) | ((with_reducible apply AW.condF); exact rfl; (focus ((simp only [decide_eq_true_eq, decide_eq_false_iff_not, Bool.not_eq_true', Bool.not_eq_false', Bool.not_true, Bool.not_false]; first | assumption | omega))))))
          ((with_reducible apply Step.conv); exact rfl; exact un3; exact un31; exact rfl; exact rfl)
          (repeat ((with_reducible refine AWo.cons ?_)))
          ((with_reducible apply Step.remU); exact rfl; exact rfl; exact (wrapU _); (focus (omega)); exact rfl)
          (repeat ((with_reducible refine AWo.cons ?_)))
          ((with_reducible apply Step.conv); exact rfl; exact un31; exact un3; exact en; exact rfl)
          obtain ⟨X, hX⟩ : ∃ X : AM, X = M ++ [some { cells := x.cells w }] := ⟨_, rfl⟩
          have hSX : Side m (asg ow M.length 1) X (dobj m.length bk B av (cs.map (·.1)) cs) := by rw [hX]; exact hS.app _ 1
          have hXl : X.length = M.length + 1 := by rw [hX, List.length_append]; rfl
          have gw : Trs X w x.l := g2.sub hSX.sub
          have rq : ∀ (T : AM) (j : Nat) (y : Value), (x.cells w)[j]? = some y → Rd (X ++ T) (M.length + 0) j y := fun T j y hj => Rd.old T ⟨{ cells := x.cells w }, by rw [hX, get_app]; rfl, hj⟩
          rw [show (M ++ [some { cells := (Value.agg (x.cells w).toArray).cells.toList }] : AM) = X from hX.symm]
          have hrX := hSX.row
          obtain ⟨aa, hav, haX, hrd⟩ := hrX.sl (by omega)
          rw [List.length_map] at hav hrd
          rcases (show n = 0 ∨ n = 1 ∨ n = 2 ∨ n = 3 by omega) with rfl | rfl | rfl | rfl
          · rw [← List.append_nil X]
            (repeat (first | (with_reducible refine AWo.cons ?_) | ((with_reducible refine Step.id ?_); first | ((with_reducible apply Step.move); exact rfl; exact rfl) | ((with_reducible apply Step.assign); exact rfl; exact rfl) | ((with_reducible apply Step.load); exact rfl; (focus (decide +kernel)); exact rfl; (focus (exact rq _ _ _ rfl))) | ((with_reducible apply Step.field (k := 4)); exact rfl; (focus (decide +kernel)); exact rfl) | ((with_reducible apply Step.eql); exact rfl; exact rfl; exact rfl)) | (with_reducible refine AWo.nil ?_) | ((with_reducible apply AW.seq)) | ((with_reducible apply Then.n)) | ((with_reducible apply AW.regL)) | ((with_reducible apply AW.block)) | ((with_reducible apply AW.condT); exact rfl; (focus (rfl)))))
            ((with_reducible apply Step.callX fit); exact rfl; exact Try.func29; exact rfl; exact rfl; (focus (rw [List.append_nil]; exact hpo _ gw)))
            rintro r1 M1 ⟨N1, hN1⟩ hr1
            rw [List.append_nil] at hN1
            have hP := hSX.post hN1 hr1 hG (by omega)
            (repeat ((with_reducible refine AWo.cons ?_)))
            ((with_reducible apply Step.callF fit); exact rfl; exact Try.func28; exact rfl; exact rfl; (focus (rw [List.append_nil]; exact hP)))
            rintro r2 M2 ⟨rfl, _, _, ow2, _, hS2⟩
            have hpl := postF_len B x.l
            rw [← List.append_nil M2]
            (repeat (first | (with_reducible refine AWo.cons ?_) | ((with_reducible refine Step.id ?_); first | ((with_reducible apply Step.move); exact rfl; exact rfl) | ((with_reducible apply Step.add); exact rfl; exact rfl; (focus (omega)); exact rfl)) | (with_reducible refine AWo.nil ?_) | ((with_reducible apply Then.n)) | ((with_reducible apply AW.regL)) | ((with_reducible apply InBlk.n))))
            exact ⟨_, [(3, .pointer (some ⟨bk, 0, none⟩)), (4, av), (21, v), (22, .int .i64 (ds.length : Nat)), (23, .int .i64 (k + 1 : Nat))], by omega, (by repeat (first | exact trivial | (refine And.intro rfl ?_))), k + 1, ow2, bk, _, av, cs, rfl, by omega, by omega, by rw [List.append_nil]; exact hS2, hG.post _, by omega, by omega, hA, rfl⟩
          · rw [← List.append_nil X]
            (repeat (first | (with_reducible refine AWo.cons ?_) | ((with_reducible refine Step.id ?_); first | ((with_reducible apply Step.move); exact rfl; exact rfl) | ((with_reducible apply Step.assign); exact rfl; exact rfl) | ((with_reducible apply Step.load); exact rfl; (focus (decide +kernel)); exact rfl; (focus (exact rq _ _ _ rfl))) | ((with_reducible apply Step.field (k := 2)); exact rfl; (focus (decide +kernel)); exact rfl) | ((with_reducible apply Step.eql); exact rfl; exact rfl; exact rfl)) | (with_reducible refine AWo.nil ?_) | ((with_reducible apply AW.seq)) | ((with_reducible apply Then.n)) | ((with_reducible apply AW.regL)) | ((with_reducible apply AW.block)) | ((with_reducible apply AW.condT); exact rfl; (focus (rfl))) | ((with_reducible apply AW.condF); exact rfl; (focus (rfl)))))
            have hR := hSX.bookCall fun pv hB => Reverse_any x.n hB hG (by omega)
            ((with_reducible apply Step.callF fit); exact rfl; exact Try.func42; exact rfl; exact rfl; (focus (rw [List.append_nil]; exact hR)))
            rintro r2 M2 ⟨rfl, _, _, hS2⟩
            obtain ⟨hG2, hpl⟩ := rvB_good hG x.n
            rw [← List.append_nil M2]
            (repeat (first | (with_reducible refine AWo.cons ?_) | ((with_reducible refine Step.id ?_); first | ((with_reducible apply Step.move); exact rfl; exact rfl) | ((with_reducible apply Step.add); exact rfl; exact rfl; (focus (omega)); exact rfl)) | (with_reducible refine AWo.nil ?_) | ((with_reducible apply Then.n)) | ((with_reducible apply AW.regL)) | ((with_reducible apply InBlk.n))))
            exact ⟨_, [(3, .pointer (some ⟨bk, 0, none⟩)), (4, av), (21, v), (22, .int .i64 (ds.length : Nat)), (23, .int .i64 (k + 1 : Nat))], by omega, (by repeat (first | exact trivial | (refine And.intro rfl ?_))), k + 1, _, bk, _, av, cs, rfl, by omega, by omega, by rw [List.append_nil]; exact hS2, hG2, by omega, by omega, hA, rfl⟩
          · rw [← List.append_nil X]
            (repeat (first | (with_reducible refine AWo.cons ?_) | ((with_reducible refine Step.id ?_); first | ((with_reducible apply Step.move); exact rfl; exact rfl) | ((with_reducible apply Step.assign); exact rfl; exact rfl) | ((with_reducible apply Step.eql); exact rfl; exact rfl; exact rfl)) | (with_reducible refine AWo.nil ?_) | ((with_reducible apply AW.seq)) | ((with_reducible apply Then.n)) | ((with_reducible apply AW.regL)) | ((with_reducible apply AW.block)) | ((with_reducible apply AW.condT); exact rfl; (focus (rfl))) | ((with_reducible apply AW.condF); exact rfl; (focus (rfl)))))
            ((with_reducible apply Step.callF fit); exact rfl; exact Try.func30; exact rfl; exact rfl; (focus (rw [List.append_nil]; exact hSX.begin)))
            rintro r2 M2 ⟨ow2, rfl, hl2, _, hS2⟩
            rw [← List.append_nil M2]
            (repeat (first | (with_reducible refine AWo.cons ?_) | ((with_reducible refine Step.id ?_); ((with_reducible apply Step.buildS 0); exact rfl; exact rfl; exact (fun _ _ => bs84); exact rfl; (focus (first | (simp only [List.nil_append, List.cons_append, List.set_cons_zero, List.set_cons_succ, iv_set, bv_set, iv_rep, bv_rep]; done) | (simp only [List.nil_append, List.cons_append, List.set_cons_zero, List.set_cons_succ, iv_set, bv_set, iv_rep, bv_rep]; rfl) | rfl))))))
            ((with_reducible apply Step.appRow2 (n := cs.length) (xl := 1) (b0 := m.length) (new := [.pointer (some ⟨X.length + 1, 0, none⟩)])); exact rfl; exact rfl; (focus (have := hS2.row; rw [List.length_map] at this; exact this.old _)); exact (Sl.mk (Nat.le_refl _)); exact (fun _ => RdL.new rfl rfl); exact el84; exact un84; exact rfl; exact rfl; exact rfl; (focus (omega)); exact rfl; (focus (have := hS2.len; rw [List.length_append]; omega)))
            intro u M3 hr3 hml3 hk3 hk4
            have hS3 := (hS2.app [some { cells := [.pointer (some ⟨X.length + 1, 0, none⟩)] }] 1).named (c := X.length + 1) (M3 := M3) (u := u) (by rw [List.length_map]; exact hr3) hml3 hk3 hk4
            (repeat (first | (with_reducible refine AWo.cons ?_) | ((with_reducible refine Step.id ?_); first | ((with_reducible apply Step.move); exact rfl; exact rfl) | ((with_reducible apply Step.assign); exact rfl; exact rfl) | ((with_reducible apply Step.add); exact rfl; exact rfl; (focus (omega)); exact rfl)) | (with_reducible refine AWo.nil ?_) | ((with_reducible apply Then.n)) | ((with_reducible apply AW.regL)) | ((with_reducible apply InBlk.n))))
            have hA2 : Alive (cs ++ [(X.length + 1, some ⟨B.P.length, B.H, [], [], false⟩)]) := fun c hc K hK => by
              rcases List.mem_append.1 hc with hc | hc
              · exact hA c hc K hK
              · simp only [List.mem_singleton] at hc
                subst hc
                injection hK with hK
                subst hK
                exact ⟨rfl, Nat.zero_le _, rfl, hG.bd.le (by simp), fun x hx => absurd hx List.not_mem_nil⟩
            exact ⟨_, [(3, .pointer (some ⟨bk, 0, none⟩)), (4, u), (21, v), (22, .int .i64 (ds.length : Nat)), (23, .int .i64 (k + 1 : Nat))], by omega, (by repeat (first | exact trivial | (refine And.intro rfl ?_))), k + 1, _, bk, _, u, _, rfl, by omega, by omega, by rw [List.map_append]; exact hS3, hG, by omega, by rw [List.length_append]; simp; omega, hA2, rfl⟩
          · by_cases h0 : cs.length = 0
            · rw [← List.append_nil X]
              (repeat (first | (with_reducible refine AWo.cons ?_) | ((with_reducible refine Step.id ?_); first | ((with_reducible apply Step.move); exact rfl; exact rfl) | ((with_reducible apply Step.assign); exact rfl; exact rfl) | ((with_reducible apply Step.add); exact rfl; exact rfl; (focus (omega)); exact rfl) | ((with_reducible apply Step.gtr); exact rfl; exact rfl; exact rfl) | ((with_reducible apply Step.eql); exact rfl; exact rfl; exact rfl) | ((with_reducible apply Step.len); exact rfl; (focus (assumption)); (focus (decide +kernel)); exact rfl)) | (with_reducible refine AWo.nil ?_) | ((with_reducible apply AW.seq)) | ((with_reducible apply Then.n)) | ((with_reducible apply AW.regL)) | ((with_reducible apply AW.block)) | ((with_reducible apply InBlk.n)) | ((with_reducible apply AW.skip)) | ((with_reducible apply AW.condF); exact rfl; (focus (first | rfl | (simp only [decide_eq_true_eq, decide_eq_false_iff_not, Bool.not_eq_true', Bool.not_eq_false', Bool.not_true, Bool.not_false]; first | assumption | omega))))))
              exact ⟨_, [(3, .pointer (some ⟨bk, 0, none⟩)), (4, av), (21, v), (22, .int .i64 (ds.length : Nat)), (23, .int .i64 (k + 1 : Nat))], by omega, (by repeat (first | exact trivial | (refine And.intro rfl ?_))), k + 1, _, bk, _, av, cs, rfl, by omega, by omega, by rw [List.append_nil]; exact hSX, hG, by omega, by omega, hA, rfl⟩
            · obtain ⟨j, hj, ej⟩ := mod_in x.who cs.length (by omega) (by omega)
              have hcj : cs[j]? = some cs[j] := List.getElem?_eq_getElem hj
              have hrj : ∀ T, Rd (X ++ T) aa j (.pointer (some ⟨cs[j].1, 0, none⟩)) := fun T => Rd.old T (by
                obtain ⟨b, w1, w2⟩ := hrd (by omega)
                have := w2 j (.pointer (some ⟨cs[j].1, 0, none⟩)) (by simp [hj])
                rw [Nat.zero_add] at this
                exact ⟨b, w1, this⟩)
              have hew : IntKind.u64.wrap ((cs.length : Nat) : Int) = (cs.length : Nat) := u64_nat (by omega)
              generalize cs[j] = cj at *
              obtain ⟨ck, oc⟩ := cj
              rw [← List.append_nil X]
              (repeat (first | (with_reducible refine AWo.cons ?_) | ((with_reducible refine Step.id ?_); first | ((with_reducible apply Step.move); exact rfl; exact rfl) | ((with_reducible apply Step.assign); exact rfl; exact rfl) | ((with_reducible apply Step.load); exact rfl; (focus (decide +kernel)); exact rfl; (focus (exact rq _ _ _ rfl))) | ((with_reducible apply Step.field (k := 1)); exact rfl; (focus (decide +kernel)); exact rfl) | ((with_reducible apply Step.gtr); exact rfl; exact rfl; exact rfl) | ((with_reducible apply Step.eql); exact rfl; exact rfl; exact rfl) | ((with_reducible apply Step.len); exact rfl; (focus (assumption)); (focus (decide +kernel)); exact rfl)) | (with_reducible refine AWo.nil ?_) | ((with_reducible apply AW.seq)) | ((with_reducible apply Then.n)) | ((with_reducible apply AW.regL)) | ((with_reducible apply AW.block)) | ((with_reducible apply AW.condT); exact rfl; (focus ((simp only [decide_eq_true_eq, decide_eq_false_iff_not, Bool.not_eq_true', Bool.not_eq_false', Bool.not_true, Bool.not_false]; first | assumption | omega)))) | ((with_reducible apply AW.condF); exact rfl; (focus (rfl)))))
              ((with_reducible apply Step.conv); exact rfl; exact un3; exact un31; exact rfl; exact rfl)
              (repeat (first | (with_reducible refine AWo.cons ?_) | ((with_reducible refine Step.id ?_); ((with_reducible apply Step.move); exact rfl; exact rfl))))
              ((with_reducible apply Step.conv); exact rfl; exact un3; exact un31; exact hew; exact rfl)
              (repeat ((with_reducible refine AWo.cons ?_)))
              ((with_reducible apply Step.remU); exact rfl; exact rfl; exact (wrapU _); (focus (omega)); exact rfl)
              (repeat ((with_reducible refine AWo.cons ?_)))
              ((with_reducible apply Step.conv); exact rfl; exact un31; exact un3; exact ej; exact rfl)
              (repeat (first | (with_reducible refine AWo.cons ?_) | ((with_reducible refine Step.id ?_); first | ((with_reducible apply Step.assign); exact rfl; exact rfl) | ((with_reducible apply Step.load); exact rfl; (focus (decide +kernel)); exact rfl; (focus (first | exact hrj _ | exact rq _ _ _ rfl))) | ((with_reducible apply Step.ix1z); exact rfl; (focus (assumption)); exact rfl; (focus (decide +kernel)); exact rfl; (focus (omega))) | ((with_reducible apply Step.field (k := 4)); exact rfl; (focus (decide +kernel)); exact rfl)) | (with_reducible refine AWo.nil ?_) | ((with_reducible apply AW.seq)) | ((with_reducible apply Then.n)) | ((with_reducible apply AW.regL))))
              ((with_reducible apply Step.callX fit); exact rfl; exact Try.func29; exact rfl; exact rfl; (focus (rw [List.append_nil]; exact hpo _ gw)))
              rintro r1 M1 ⟨N1, hN1⟩ hr1
              rw [List.append_nil] at hN1
              subst hN1
              have hl18 : (x.l.take 18).length ≤ 18 := by rw [List.length_take]; omega
              generalize x.l.take 18 = y at *
              have hS1 := hSX.app N1 1
              obtain ⟨ar, hsl, har, hrr⟩ := hr1.sl (by rw [List.length_append]; omega)
              have hown : 0 < y.length → asg (asg ow M.length 1) X.length 1 ar = 1 := fun h0 => by
                obtain ⟨a', _, _, w1, _, w2, _⟩ := hr1.pos h0
                rcases hsl with ⟨_, e⟩ | ⟨c', _, e⟩ | ⟨e, _⟩
                · omega
                · rw [w2] at e
                  simp only [Value.slice.injEq, Option.some.injEq, Addr.mk.injEq] at e
                  rw [← e.1.1]
                  exact asg_ge w1
                · omega
              generalize asg (asg ow M.length 1) X.length 1 = ow1 at *
              obtain ⟨M1, hM1⟩ : ∃ M1 : AM, M1 = X ++ N1 := ⟨_, rfl⟩
              rw [← hM1] at hS1 har hrr ⊢
              (repeat (first | (with_reducible refine AWo.cons ?_) | ((with_reducible refine Step.id ?_); first | ((with_reducible apply Step.move); exact rfl; exact rfl) | ((with_reducible apply Step.len); exact rfl; (focus (assumption)); (focus (decide +kernel)); exact rfl)) | (with_reducible refine AWo.nil ?_) | ((with_reducible apply Then.n)) | ((with_reducible apply AW.block))))
              refine AW.midX 3 (fun t' M2 => ∃ (ow2 : Nat → Nat) (o' : Option Ck), Side m ow2 M2 (dobj m.length bk B av (cs.map (·.1)) (cs.set j (ck, o'))) ∧ (∀ K, o' = some K → OKK K) ∧
                All (fun i v => t' i = some v) [(3, .pointer (some ⟨bk, 0, none⟩)), (4, av), (8, .pointer (some ⟨ck, 0, none⟩)), (21, v), (22, .int .i64 (ds.length : Nat)), (23, .int .i64 (k : Nat))]) ?_ ?_
              · refine AW.loopW (fun q t M2 => ∃ (i : Nat) (ow2 : Nat → Nat) (o' : Option Ck), q = y.length - i ∧ i ≤ y.length ∧ Side m ow2 M2 (dobj m.length bk B av (cs.map (·.1)) (cs.set j (ck, o'))) ∧ (∀ K, o' = some K → OKK K) ∧ M1.length ≤ M2.length ∧ (∀ p, p < M1.length → ow1 p = 1 → M2[p]? = M1[p]? ∧ ow2 p = 1) ∧
                  t = fr [(3, .pointer (some ⟨bk, 0, none⟩)), (4, av), (8, .pointer (some ⟨ck, 0, none⟩)), (21, v), (22, .int .i64 (ds.length : Nat)), (23, .int .i64 (k : Nat)), (51, r1), (52, .int .i64 (y.length : Nat)), (53, .int .i64 (i : Nat))])
                  ⟨_, _, (by repeat (first | exact trivial | (refine And.intro rfl ?_))), 0, ow1, oc, rfl, Nat.zero_le _, by rw [List.append_nil, set_selfT hcj]; exact hS1, hA _ (List.mem_of_getElem? hcj), by rw [List.append_nil]; exact Nat.le_refl _, fun p hp hq => ⟨by rw [List.append_nil], hq⟩, rfl⟩ ?_
                rintro q t M2 ⟨i, ow2, o', rfl, hi, hS2, ho, hl2, hk2, rfl⟩
                have hgj : ∀ o', (cs.set j (ck, o'))[j]? = some (ck, o') := fun o' => by rw [set_getT hj, if_pos rfl]
                rcases Nat.lt_or_ge i y.length with hlt' | hge'
                · have hr : ∀ T, RdL (M2 ++ T) ar (i * 4) (y.getD i default).c := fun T => RdL.old T (by
                    obtain ⟨b, w1, w2⟩ := hrr (by omega)
                    refine ⟨b, by rw [(hk2 ar har (hown (by omega))).1]; exact w1, fun p v hv => ?_⟩
                    have := w2 (i * 4 + p) v (tcs_get y i hlt' p v hv)
                    rwa [Nat.zero_add] at this)
                  generalize y.getD i default = z at *
                  obtain ⟨zi, zf, zt, zn⟩ := z
                  simp only [Tr.c] at hr
                  refine AW.rebase ?_
                  (repeat (first | (with_reducible refine AWo.cons ?_) | ((with_reducible refine Step.id ?_); first | ((with_reducible apply Step.move); exact rfl; exact rfl) | ((with_reducible apply Step.loadL (n := 4)); exact rfl; (focus (decide +kernel)); (focus (decide +kernel)); exact rfl; (focus (first | exact RdL.new rfl rfl | exact hr _)); exact rfl; exact rfl) | ((with_reducible apply Step.ixz (s := 4)); exact rfl; (focus (assumption)); exact rfl; (focus (decide +kernel)); exact rfl; (focus (omega))) | ((with_reducible apply Step.lss); exact rfl; exact rfl; exact rfl) | ((with_reducible apply Step.alloc 0); exact rfl; exact ze63; exact rfl; (focus (first | (simp only [List.nil_append, List.cons_append, List.set_cons_zero, List.set_cons_succ, iv_set, bv_set, iv_rep, bv_rep]; done) | (simp only [List.nil_append, List.cons_append, List.set_cons_zero, List.set_cons_succ, iv_set, bv_set, iv_rep, bv_rep]; rfl) | rfl))) | ((with_reducible apply Step.storeA (k := 0) (n := 4)); exact rfl; exact rfl; exact rfl; exact rfl; (focus (decide +kernel)); exact rfl; (focus (kernel_rfl)); exact rfl; (focus (first | (simp only [List.nil_append, List.cons_append, List.set_cons_zero, List.set_cons_succ, iv_set, bv_set, iv_rep, bv_rep]; done) | (simp only [List.nil_append, List.cons_append, List.set_cons_zero, List.set_cons_succ, iv_set, bv_set, iv_rep, bv_rep]; rfl) | rfl)))) | (with_reducible refine AWo.nil ?_) | ((with_reducible apply AW.seq)) | ((with_reducible apply Then.n)) | ((with_reducible apply AW.regL)) | ((with_reducible apply AW.block)) | ((with_reducible apply AW.skip)) | ((with_reducible apply AW.condT); exact rfl; (focus ((simp only [decide_eq_true_eq, decide_eq_false_iff_not, Bool.not_eq_true', Bool.not_eq_false', Bool.not_true, Bool.not_false]; first | assumption | omega))))))
                  obtain ⟨X2, hX2⟩ : ∃ X2 : AM, X2 = M2 ++ [some { cells := [.int .i64 zi, .int .i64 zf, .int .i64 zt, .int .i64 zn] }] := ⟨_, rfl⟩
                  have hX2l : X2.length = M2.length + 1 := by rw [hX2, List.length_append]; rfl
                  have hS3 : Side m (asg ow2 M2.length 1) X2 (dobj m.length bk B av (cs.map (·.1)) (cs.set j (ck, o'))) := by rw [hX2]; exact hS2.app _ 1
                  have hmv := hS3.move (hgj o') ho ⟨zi, zf, zt, zn⟩
                  rw [show (M2 ++ [some { cells := (Value.agg #[.int .i64 zi, .int .i64 zf, .int .i64 zt, .int .i64 zn]).cells.toList }] : AM) = X2 from hX2.symm]
                  ((with_reducible apply Step.callF fit); exact rfl; exact Try.func33; exact rfl; exact rfl; exact hmv)
                  rintro r2 M3 ⟨rfl, hl3, hk3, hS4⟩
                  rw [List.set_set] at hS4
                  rw [← List.append_nil M3]
                  (repeat (first | (with_reducible refine AWo.cons ?_) | ((with_reducible refine Step.id ?_); first | ((with_reducible apply Step.move); exact rfl; exact rfl) | ((with_reducible apply Step.add); exact rfl; exact rfl; (focus (omega)); exact rfl)) | (with_reducible refine AWo.nil ?_) | ((with_reducible apply Then.n)) | ((with_reducible apply AW.regL)) | ((with_reducible apply InBlk.n))))
                  refine ⟨_, [(3, .pointer (some ⟨bk, 0, none⟩)), (4, av), (8, .pointer (some ⟨ck, 0, none⟩)), (21, v), (22, .int .i64 (ds.length : Nat)), (23, .int .i64 (k : Nat)), (51, r1), (52, .int .i64 (y.length : Nat)), (53, .int .i64 (i + 1 : Nat))], by omega, (by repeat (first | exact trivial | (refine And.intro rfl ?_))), i + 1, _, _, rfl, by omega, by rw [List.append_nil]; exact hS4, moO_ok ho _, by rw [List.append_nil]; omega, fun p hp hq => ?_, rfl⟩
                  have hq2 := hk2 p hp hq
                  have e1 : asg ow2 M2.length 1 p = 1 := by rw [asg_lt (by omega)]; exact hq2.2
                  refine ⟨?_, by rw [asg_lt (by omega)]; exact e1⟩
                  rw [List.append_nil, hk3 p (by omega) (by rw [e1]; omega), hX2, List.getElem?_append_left (by omega)]
                  exact hq2.1
                · obtain rfl : i = y.length := by omega
                  (repeat (first | (with_reducible refine AWo.cons ?_) | ((with_reducible refine Step.id ?_); ((with_reducible apply Step.lss); exact rfl; exact rfl; exact rfl)) | (with_reducible refine AWo.nil ?_) | ((with_reducible apply AW.seq)) | ((with_reducible apply Then.n)) | ((with_reducible apply AW.regL)) | ((with_reducible apply AW.exit)) | ((with_reducible apply Then.e)) | ((with_reducible apply AW.condF); exact rfl; (focus ((simp only [decide_eq_true_eq, decide_eq_false_iff_not, Bool.not_eq_true', Bool.not_eq_false', Bool.not_true, Bool.not_false]; first | assumption | omega))))))
                  exact ⟨rfl, ow2, o', hS2, ho, (by repeat (first | exact trivial | (refine And.intro rfl ?_)))⟩
              · rintro t' M2 ⟨ow2, o', hS2, ho, hsl2⟩
                refine InBlk.hit ?_
                refine Then.n ?_
                refine AW.weak (fr_all hsl2) ?_
                clear hsl2
                refine AW.rebase ?_
                have hgj : (cs.set j (ck, o'))[j]? = some (ck, o') := by rw [set_getT hj, if_pos rfl]
                have hcm := hS2.commitAny hgj ho hG.bd (by omega)
                obtain ⟨hG2, hpl⟩ := cmB_good hG o'
                (repeat (first | (with_reducible refine AWo.cons ?_) | ((with_reducible refine Step.id ?_); ((with_reducible apply Step.move); exact rfl; exact rfl)) | ((with_reducible apply AW.regL))))
                ((with_reducible apply Step.callF fit); exact rfl; exact Try.func41; exact rfl; exact rfl; (focus (rw [List.append_nil]; exact hcm)))
                rintro r3 M3 ⟨ow3, rfl, _, _, hS3⟩
                rw [List.set_set] at hS3
                rw [← List.append_nil M3]
                (repeat (first | (with_reducible refine AWo.cons ?_) | ((with_reducible refine Step.id ?_); first | ((with_reducible apply Step.move); exact rfl; exact rfl) | ((with_reducible apply Step.add); exact rfl; exact rfl; (focus (omega)); exact rfl)) | (with_reducible refine AWo.nil ?_) | ((with_reducible apply Then.n)) | ((with_reducible apply AW.regL)) | ((with_reducible apply InBlk.n))))
                exact ⟨_, [(3, .pointer (some ⟨bk, 0, none⟩)), (4, av), (21, v), (22, .int .i64 (ds.length : Nat)), (23, .int .i64 (k + 1 : Nat))], by omega, (by repeat (first | exact trivial | (refine And.intro rfl ?_))), k + 1, _, bk, _, av, cs.set j (ck, none), rfl, by omega, by omega, by rw [List.append_nil, map_set_fst hcj]; exact hS3, hG2, by omega, by rw [List.length_set]; omega, hA.set j ck none (fun K h => by cases h), rfl⟩
      · obtain rfl : k = ds.length := by omega
        (repeat (first | (with_reducible refine AWo.cons ?_) | ((with_reducible refine Step.id ?_); ((with_reducible apply Step.lss); exact rfl; exact rfl; exact rfl)) | (with_reducible refine AWo.nil ?_) | ((with_reducible apply AW.seq)) | ((with_reducible apply Then.n)) | ((with_reducible apply AW.regL)) | ((with_reducible apply AW.exit)) | ((with_reducible apply Then.e)) | ((with_reducible apply AW.condF); exact rfl; (focus ((simp only [decide_eq_true_eq, decide_eq_false_iff_not, Bool.not_eq_true', Bool.not_eq_false', Bool.not_true, Bool.not_false]; first | assumption | omega))))))
        exact ⟨rfl, ow, bk, B, av, cs, hS, hG, by omega, (by repeat (first | exact trivial | (refine And.intro rfl ?_)))⟩
  · rintro t' M ⟨ow, bk, B, av, cs, hS, hG, hPl, hsl⟩
    refine InBlk.hit ?_
    refine Then.n ?_
    refine AW.weak (fr_all hsl) ?_
    clear hsl
    refine AW.rebase ?_
    obtain ⟨pv, hB⟩ := hS.book
    have hH := fun T (p i : Nat) (hp : p < 16) (hi : i < 16) => Held_ok (p : Int) (i : Int) (hB.old T)
    have hT := fun T (i : Nat) (hi : i < 16) => Total_ok (hB.old T) hi hG.bd
    have hbl := hB.lt
    have hend : ∃ N, M = m ++ N := pre_keep (M := m) ⟨[], by rw [List.append_nil]⟩ hS.len fun j hj => (hS.base j hj).1
    (repeat (first | (with_reducible refine AWo.cons ?_) | ((with_reducible refine Step.id ?_); ((with_reducible apply Step.move); exact rfl; exact rfl)) | (with_reducible refine AWo.nil ?_) | ((with_reducible apply AW.seq)) | ((with_reducible apply Then.n)) | ((with_reducible apply AW.regL)) | ((with_reducible apply AW.block))))
    refine AW.loopT (fun n t L => ∃ i : Nat, n = 16 - i ∧ i ≤ 16 ∧ L = [] ∧ t = [(3, .pointer (some ⟨bk, 0, none⟩)), (84, .int .i64 (i : Nat))]) ⟨_, _, _, (Or.inl ⟨rfl, (by repeat (first | exact trivial | (refine And.intro rfl ?_)))⟩), 0, rfl, Nat.zero_le _, rfl, rfl⟩ ?_
    rintro n t L ⟨i, rfl, hi, rfl, rfl⟩
    rcases Nat.lt_or_ge i 16 with hlt | hge
    · have hT := fun T => hT T i hlt
      rw [hG.tot hlt] at hT
      (repeat (first | (with_reducible refine AWo.cons ?_) | ((with_reducible refine Step.id ?_); first | ((with_reducible apply Step.move); exact rfl; exact rfl) | ((with_reducible apply Step.assign); exact rfl; exact rfl) | ((with_reducible apply Step.lss); exact rfl; exact rfl; exact rfl)) | (with_reducible refine AWo.nil ?_) | ((with_reducible apply AW.seq)) | ((with_reducible apply Then.n)) | ((with_reducible apply AW.regL)) | ((with_reducible apply AW.block)) | ((with_reducible apply AW.skip)) | ((with_reducible apply AW.condT); exact rfl; (focus ((simp only [decide_eq_true_eq, decide_eq_false_iff_not, Bool.not_eq_true', Bool.not_eq_false', Bool.not_true, Bool.not_false]; first | assumption | omega))))))
      refine AW.loopT (fun n t L => ∃ p : Nat, n = 16 - p ∧ p ≤ 16 ∧ L = [] ∧ t = [(3, .pointer (some ⟨bk, 0, none⟩)), (11, .int .i64 (i : Nat)), (12, .int .i64 (totS B.H i p)), (84, .int .i64 (i : Nat)), (87, .int .i64 (p : Nat))]) ⟨_, _, _, (Or.inl ⟨rfl, (by repeat (first | exact trivial | (refine And.intro rfl ?_)))⟩), 0, rfl, Nat.zero_le _, rfl, rfl⟩ ?_
      rintro n t L ⟨p, rfl, hp, rfl, rfl⟩
      rcases Nat.lt_or_ge p 16 with hlt' | hge'
      · have hH := fun T => hH T p i hlt' hlt
        rw [look_in hlt' hlt] at hH
        have hst : totS B.H i (p + 1) = totS B.H i p + B.H.getD (p * 16 + i) 0 := rfl
        have htb := totS_bd hG.bd (by decide) i p
        have hz := hG.bd (p * 16 + i)
        have hnn : 0 < p → 0 ≤ B.H.getD (p * 16 + i) 0 := fun h0 => hG.nn _ (by omega)
        generalize totS B.H i p = S at *
        generalize B.H.getD (p * 16 + i) 0 = z at *
        simp only at hH
        by_cases h0 : 0 < p
        · have hnn := hnn h0
          (repeat (first | (with_reducible refine AWo.cons ?_) | ((with_reducible refine Step.id ?_); first | ((with_reducible apply Step.gdT); exact rfl; exact rfl; (focus (first | rfl | (simp only [decide_eq_true_eq, decide_eq_false_iff_not, Bool.not_eq_true', Bool.not_eq_false', Bool.not_true, Bool.not_false]; first | assumption | omega)))) | ((with_reducible apply Step.move); exact rfl; exact rfl) | ((with_reducible apply Step.assign); exact rfl; exact rfl) | ((with_reducible apply Step.add); exact rfl; exact rfl; (focus (omega)); exact rfl) | ((with_reducible apply Step.lss); exact rfl; exact rfl; exact rfl) | ((with_reducible apply Step.gtr); exact rfl; exact rfl; exact rfl) | ((with_reducible apply Step.neq); exact rfl; exact rfl; exact rfl) | ((with_reducible apply Step.extract); exact rfl; exact rfl; exact rfl) | ((with_reducible apply Step.pickT); exact rfl; exact rfl; exact rfl; exact rfl; (focus ((simp only [decide_eq_true_eq, decide_eq_false_iff_not, Bool.not_eq_true', Bool.not_eq_false', Bool.not_true, Bool.not_false]; first | assumption | omega)))) | ((with_reducible apply Step.pickF); exact rfl; exact rfl; exact rfl; exact rfl; (focus (rfl))) | ((with_reducible apply Step.callR fit); exact rfl; exact Try.func32; exact rfl; exact rfl; exact (hH _))) | (with_reducible refine AWo.nil ?_) | ((with_reducible apply AW.seq)) | ((with_reducible apply Then.n)) | ((with_reducible apply AW.regL)) | ((with_reducible apply AW.block)) | ((with_reducible apply InBlk.n)) | ((with_reducible apply AW.skip)) | ((with_reducible apply AW.condT); exact rfl; (focus ((simp only [decide_eq_true_eq, decide_eq_false_iff_not, Bool.not_eq_true', Bool.not_eq_false', Bool.not_true, Bool.not_false]; first | assumption | omega)))) | ((with_reducible apply AW.condF); exact rfl; (focus ((simp only [decide_eq_true_eq, decide_eq_false_iff_not, Bool.not_eq_true', Bool.not_eq_false', Bool.not_true, Bool.not_false]; first | assumption | omega))))))
          exact ⟨_, [(3, .pointer (some ⟨bk, 0, none⟩)), (11, .int .i64 (i : Nat)), (12, .int .i64 (S + z)), (84, .int .i64 (i : Nat)), (87, .int .i64 (p + 1 : Nat))], [], by omega, (Or.inl ⟨rfl, (by repeat (first | exact trivial | (refine And.intro rfl ?_)))⟩), p + 1, rfl, by omega, rfl, by rw [hst]⟩
        · (repeat (first | (with_reducible refine AWo.cons ?_) | ((with_reducible refine Step.id ?_); first | ((with_reducible apply Step.gdT); exact rfl; exact rfl; (focus (rfl))) | ((with_reducible apply Step.gdF); exact rfl; exact rfl; (focus ((simp only [decide_eq_true_eq, decide_eq_false_iff_not, Bool.not_eq_true', Bool.not_eq_false', Bool.not_true, Bool.not_false]; first | assumption | omega)))) | ((with_reducible apply Step.move); exact rfl; exact rfl) | ((with_reducible apply Step.assign); exact rfl; exact rfl) | ((with_reducible apply Step.add); exact rfl; exact rfl; (focus (omega)); exact rfl) | ((with_reducible apply Step.lss); exact rfl; exact rfl; exact rfl) | ((with_reducible apply Step.gtr); exact rfl; exact rfl; exact rfl) | ((with_reducible apply Step.neq); exact rfl; exact rfl; exact rfl) | ((with_reducible apply Step.extract); exact rfl; exact rfl; exact rfl) | ((with_reducible apply Step.pickF); exact rfl; exact rfl; exact rfl; exact rfl; (focus (first | rfl | (simp only [decide_eq_true_eq, decide_eq_false_iff_not, Bool.not_eq_true', Bool.not_eq_false', Bool.not_true, Bool.not_false]; first | assumption | omega)))) | ((with_reducible apply Step.callR fit); exact rfl; exact Try.func32; exact rfl; exact rfl; exact (hH _))) | (with_reducible refine AWo.nil ?_) | ((with_reducible apply AW.seq)) | ((with_reducible apply Then.n)) | ((with_reducible apply AW.regL)) | ((with_reducible apply AW.block)) | ((with_reducible apply InBlk.n)) | ((with_reducible apply AW.skip)) | ((with_reducible apply AW.condT); exact rfl; (focus ((simp only [decide_eq_true_eq, decide_eq_false_iff_not, Bool.not_eq_true', Bool.not_eq_false', Bool.not_true, Bool.not_false]; first | assumption | omega)))) | ((with_reducible apply AW.condF); exact rfl; (focus (rfl)))))
          exact ⟨_, [(3, .pointer (some ⟨bk, 0, none⟩)), (11, .int .i64 (i : Nat)), (12, .int .i64 (S + z)), (84, .int .i64 (i : Nat)), (87, .int .i64 (p + 1 : Nat))], [], by omega, (Or.inl ⟨rfl, (by repeat (first | exact trivial | (refine And.intro rfl ?_)))⟩), p + 1, rfl, by omega, rfl, by rw [hst]⟩
      · obtain rfl : p = 16 := by omega
        rw [hG.tot hlt]
        (repeat (first | (with_reducible refine AWo.cons ?_) | ((with_reducible refine Step.id ?_); first | ((with_reducible apply Step.gdT); exact rfl; exact rfl; (focus (rfl))) | ((with_reducible apply Step.move); exact rfl; exact rfl) | ((with_reducible apply Step.assign); exact rfl; exact rfl) | ((with_reducible apply Step.add); exact rfl; exact rfl; (focus (omega)); exact rfl) | ((with_reducible apply Step.lss); exact rfl; exact rfl; exact rfl) | ((with_reducible apply Step.neq); exact rfl; exact rfl; exact rfl) | ((with_reducible apply Step.extract); exact rfl; exact rfl; exact rfl) | ((with_reducible apply Step.pickF); exact rfl; exact rfl; exact rfl; exact rfl; (focus (rfl))) | ((with_reducible apply Step.callR fit); exact rfl; exact Try.func43; exact rfl; exact rfl; exact (hT _))) | (with_reducible refine AWo.nil ?_) | ((with_reducible apply AW.seq)) | ((with_reducible apply Then.n)) | ((with_reducible apply AW.regL)) | ((with_reducible apply AW.exit)) | ((with_reducible apply InBlk.n)) | ((with_reducible apply InBlk.hit)) | ((with_reducible apply Then.e)) | ((with_reducible apply AW.skip)) | ((with_reducible apply AW.condF); exact rfl; (focus (rfl)))))
        exact ⟨_, _, _, by omega, (Or.inl ⟨rfl, (by repeat (first | exact trivial | (refine And.intro rfl ?_)))⟩), i + 1, rfl, by omega, rfl, rfl⟩
    · obtain rfl : i = 16 := by omega
      (repeat (first | (with_reducible refine AWo.cons ?_) | ((with_reducible refine Step.id ?_); first | ((with_reducible apply Step.assign); exact rfl; exact rfl) | ((with_reducible apply Step.lss); exact rfl; exact rfl; exact rfl) | ((with_reducible apply Step.callR fit); exact rfl; exact Try.func16; exact rfl; exact rfl; exact (hw _))) | (with_reducible refine AWo.nil ?_) | ((with_reducible apply AW.seq)) | ((with_reducible apply Then.n)) | ((with_reducible apply AW.regL)) | ((with_reducible apply AW.exit)) | ((with_reducible apply InBlk.hit)) | ((with_reducible apply Then.e)) | ((with_reducible apply AW.condF); exact rfl; (focus (rfl)))))
      (refine AW.ret ?_; (repeat (first | refine Then.r ?_ | refine InBlk.r ?_)))
      obtain ⟨N, hN⟩ := hend
      exact ⟨_, rfl, rfl, N, by rw [List.append_nil]; exact hN⟩
end Go.Proofs.Ytabdnepfcohncaa.Abs
