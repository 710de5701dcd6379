/- Proved here: what the proof of StockSerial rests on, part 4 of 4. Conditions: those that each theorem names. -/
import Derived.Test.YtabdnepfcohncaaStockSerialK3
namespace Go.Proofs.Ytabdnepfcohncaa.Abs
set_option linter.unusedSimpArgs false
set_option linter.unusedVariables false
open Go.RowKit
open Go.Proofs.Ytabdnepfcohncaa.Sim
open Go.Proofs
section
variable {P : Program} {nt d : Nat} {ops : Array Oper} {T : TypeId} {p : String} {af : Array Edge} {t : Fm} {m : AM} {K : Fm → AM → Prop}
theorem Step.remU {x y : Operand} {X Y : TypeId} {a b : Int} (hx : evo t x = some (.int .u64 a)) (hy : evo t y = some (.int .u64 b)) (ha : 0 ≤ a) (hb : 1 ≤ b) (hlt : Nat.blt d nt = true) (hK : K (put t d (.int .u64 (a % b))) m) : Step P nt ops ⟨some d, .binOp .rem X x y Y, T, p, af, none⟩ t m K := by
  refine .ground rfl rfl hlt (by simp [Op.operands, hx, hy, g1, g0]) (fun h => by simp only [aquiet, evD_of hx, evD_of hy, aint, anil]; simpa [evD_of hx, evD_of hy] using h) ?_ (by simp [g1, g0]) hK
  simp [execOp, eqGuard, binOp, evD_of hx, evD_of hy, Op.intDiv, show ¬ b = 0 by omega, Int.tmod_eq_emod_of_nonneg ha, bind, Sem.bind, pure, Sim.still]
end
theorem wrapU (a : Int) : 0 ≤ IntKind.u64.wrap a := by
  simp only [IntKind.wrap, IntKind.signed, IntKind.bits]
  simp
  omega
theorem mod_in (a : Int) (c : Nat) (hc : 0 < c) (hc2 : c ≤ 9223372036854775807) : ∃ n : Nat, n < c ∧ IntKind.i64.wrap (IntKind.u64.wrap a % (c : Int)) = (n : Int) := by
  have h := wrapU a
  have h1 := Int.emod_nonneg (IntKind.u64.wrap a) (show (c : Int) ≠ 0 by omega)
  have h2 := Int.emod_lt_of_pos (IntKind.u64.wrap a) (show (0 : Int) < c by omega)
  refine ⟨(IntKind.u64.wrap a % (c : Int)).toNat, by omega, ?_⟩
  rw [IntWalk.i64_in _ (by omega)]
  omega
theorem MSub.all {S : Nat → Prop} {M : AM} (h : ∀ i b, M[i]? = some (some b) → S i) : MSub M (vw S M) := ⟨by rw [vw_len]; exact Nat.le_refl _, fun i b _ hi => vw_some.2 ⟨h i b hi, hi⟩⟩
theorem ClerkAt.vw {S : Nat → Prop} {M : AM} {ck q bk : Nat} {mvv : Value} {K : Ck} (h : ClerkAt M ck q mvv bk K) (hS : ∀ j, ckD ck q mvv j → S j) : ClerkAt (Abs.vw S M) ck q mvv bk K := by
  obtain ⟨h1, h2, h3, ⟨E, h4, h5⟩, h6⟩ := h
  refine ⟨vw_some.2 ⟨hS _ (.inl rfl), h1⟩, h2, by rw [vw_len]; exact h3, ⟨E, vw_some.2 ⟨hS _ (.inr (.inl rfl)), h4⟩, h5⟩, ?_⟩
  rcases h6 with h6 | ⟨a, kd, sz, q1, q2, q3, q4, q5⟩
  · exact .inl h6
  · exact .inr ⟨a, kd, sz, q1, q2, vw_some.2 ⟨hS a (.inr (.inr fun hn => hn _ _ q2)), q3⟩, q4, q5⟩
/-- A clerk, at work or done. -/
def CSt (M : AM) (bk ck : Nat) : Option Ck → Prop
  | none => DoneC M ck bk
  | some K => ∃ q mvv, ClerkAt M ck q mvv bk K
theorem CSt.msub {M M' : AM} {bk ck : Nat} {o : Option Ck} (h : CSt M bk ck o) (hs : MSub M M') : CSt M' bk ck o := by
  cases o with
  | none => exact DoneC.msub h hs
  | some K => obtain ⟨q, v, h⟩ := h; exact ⟨q, v, h.msub hs⟩
/-- The objects: the book, the row of the clerks' names, the clerks. -/
def dobj (n0 bk : Nat) (B : Bk) (av : Value) (ps : List Nat) (cs : List (Nat × Option Ck)) : Nat → AM → Prop
  | 0, A => ∃ pv, BookAt A 0 bk B pv
  | 1, A => Row A n0 1 av (ps.map fun c => .pointer (some ⟨c, 0, none⟩)) ps.length
  | k + 2, A => ∀ c, cs[k]? = some c → CSt A bk c.1 c.2
theorem dobj_mono {n0 bk : Nat} {B : Bk} {av : Value} {ps : List Nat} {cs : List (Nat × Option Ck)} : ∀ k A A', MSub A A' → dobj n0 bk B av ps cs k A → dobj n0 bk B av ps cs k A'
  | 0, A, A', hs, ⟨pv, h⟩ => ⟨pv, h.msub hs⟩
  | 1, A, A', hs, h => Row.msub h hs
  | k + 2, A, A', hs, h => fun c hc => (h c hc).msub hs
/-- What a clerk at work keeps. -/
structure OKK (K : Ck) : Prop where
  dn : K.done = false
  n : K.mv.length ≤ 16
  ok : K.mv.all okT = true
  bd : Bd K.V (1000000000 + 2000000 * (K.mv.length : Int))
  seen : ∀ x ∈ K.seen, inB x.1 x.2 = true
theorem OKK.moF {K : Ck} (h : OKK K) (x : Tr) : OKK (moF K x).2 := by
  unfold Abs.moF
  rw [if_neg (by rw [h.dn]; simp)]
  by_cases ho : okT x = true
  · rw [if_pos ho]
    by_cases h16 : 16 ≤ K.mv.length
    · rw [if_pos h16]; exact h
    · rw [if_neg h16]
      refine ⟨h.dn, by simp; omega, by simp [h.ok, ho], ?_, h.seen⟩
      have := h.bd.wth1 ho
      simp only [List.length_append, List.length_singleton]
      exact this.le (by push_cast; omega)
  · rw [if_neg ho]; exact h
theorem OKK.chF {K : Ck} (h : OKK K) (p i : Int) : OKK (chF K p i).2.2 := by
  unfold Abs.chF
  rw [if_neg (by rw [h.dn]; simp)]
  by_cases hi : inB p i = true
  · rw [if_pos hi]
    refine ⟨h.dn, h.n, h.ok, h.bd, fun x hx => ?_⟩
    rcases List.mem_cons.1 hx with rfl | hx
    · exact hi
    · exact h.seen x hx
  · rw [if_neg hi]; exact h
section
variable {m : AM} {ow : Nat → Nat} {M : AM} {n0 bk : Nat} {B : Bk} {av : Value} {ps : List Nat} {cs : List (Nat × Option Ck)}
/-- What a call says of the book. -/
def BkQ (R : Value → Prop) (B' : Bk) (bk : Nat) (pv : Value) (m : AM) (r : Value) (M' : AM) : Prop := R r ∧ ∃ u, BookAt M' 0 bk B' u ∧ Keep (bkD bk pv) m M'
theorem Side.bookCall {f : FuncId} {args : Array Value} {B' : Bk} {R : Value → Prop} (h : Side m ow M (dobj n0 bk B av ps cs)) (hc : ∀ pv, BookAt (vw (fun j => ow j = 0) M) 0 bk B pv → ACall Try.prog f args (vw (fun j => ow j = 0) M) (BkQ R B' bk pv (vw (fun j => ow j = 0) M))) :
    ACall Try.prog f args M (fun r M2 => R r ∧ M.length ≤ M2.length ∧ (∀ j, j < M.length → ow j ≠ 0 → M2[j]? = M[j]?) ∧ Side m (asg ow M.length 0) M2 (dobj n0 bk B' av ps cs)) := by
  obtain ⟨pv, hB⟩ := h.at_ 0
  refine (ACall.frame (fun j => ow j = 0) (hc pv hB)).mono ?_
  rintro r M2 ⟨M', ⟨hR, u, hB', hk⟩, hF⟩
  refine ⟨hR, hF.len, fun j hj hn => hF.out j hj hn, ?_⟩
  have hcl := hk.clean hB.in_
  refine h.call (I := fun k => k = 0) hF hcl (by decide) (fun j hj hn => asg_lt hj) (fun k hk => ?_) ?_ dobj_mono
  · rcases k with _ | _ | k
    · exact absurd rfl hk
    · rfl
    · rfl
  · rintro k rfl
    refine ⟨u, hB'.msub (MSub.all fun i b hi => ?_)⟩
    by_cases hl : i < M.length
    · show asg ow M.length 0 i = 0
      rw [asg_lt hl]
      by_cases e : ow i = 0
      · exact e
      · rw [hcl i hl e] at hi; cases hi
    · exact asg_ge (by omega)
theorem set_getT {α : Type} {l : List α} {i k : Nat} {x : α} (hi : i < l.length) : (l.set i x)[k]? = if k = i then some x else l[k]? := by
  by_cases e : k = i
  · subst e; rw [if_pos rfl, List.getElem?_set_self hi]
  · rw [if_neg e, List.getElem?_set_ne (Ne.symm e)]
theorem Side.clkCall {f : FuncId} {args : Array Value} {k ck : Nat} {o o' : Option Ck} {R : Value → Prop} (h : Side m ow M (dobj n0 bk B av ps cs)) (hk : cs[k]? = some (ck, o))
    (hc : CSt (vw (fun j => ow j = k + 2) M) bk ck o → ACall Try.prog f args (vw (fun j => ow j = k + 2) M) (fun r M' => R r ∧ CSt M' bk ck o' ∧ ∃ D : Nat → Prop, Keep D (vw (fun j => ow j = k + 2) M) M' ∧ ∀ j, D j → ow j = k + 2)) :
    ACall Try.prog f args M (fun r M2 => R r ∧ M.length ≤ M2.length ∧ (∀ j, j < M.length → ow j ≠ k + 2 → M2[j]? = M[j]?) ∧ Side m (asg ow M.length (k + 2)) M2 (dobj n0 bk B av ps (cs.set k (ck, o')))) := by
  have hkl := (List.getElem?_eq_some_iff.1 hk).1
  refine (ACall.frame (fun j => ow j = k + 2) (hc (h.at_ (k + 2) _ hk))).mono ?_
  rintro r M2 ⟨M', ⟨hR, hC, D, hD, hDo⟩, hF⟩
  refine ⟨hR, hF.len, fun j hj hn => hF.out j hj hn, ?_⟩
  have hcl := hD.clean hDo
  refine h.call (I := fun i => i = k + 2) hF hcl (by omega) (fun j hj hn => asg_lt hj) (fun i hi => ?_) ?_ dobj_mono
  · rcases i with _ | _ | i
    · rfl
    · rfl
    · funext A
      show (∀ c, (cs.set k (ck, o'))[i]? = some c → _) = (∀ c, cs[i]? = some c → _)
      rw [set_getT hkl, if_neg (by omega)]
  · rintro i rfl
    intro c hcc
    rw [set_getT hkl, if_pos rfl] at hcc
    injection hcc with hcc
    subst hcc
    refine hC.msub (MSub.all fun i b hi => ?_)
    by_cases hl : i < M.length
    · show asg ow M.length (k + 2) i = k + 2
      rw [asg_lt hl]
      by_cases e : ow i = k + 2
      · exact e
      · rw [hcl i hl e] at hi; cases hi
    · exact asg_ge (by omega)
theorem Side.begin (h : Side m ow M (dobj n0 bk B av ps cs)) :
    ACall Try.prog 30 #[.pointer (some ⟨bk, 0, none⟩)] M (fun r M2 => ∃ ow', r = .pointer (some ⟨M.length + 1, 0, none⟩) ∧ M.length ≤ M2.length ∧ (∀ j, j < M.length → ow j = 1 → M2[j]? = M[j]? ∧ ow' j = 1) ∧ Side m ow' M2 (dobj n0 bk B av ps (cs ++ [(M.length + 1, some ⟨B.P.length, B.H, [], [], false⟩)]))) := by
  obtain ⟨pv, hB⟩ := h.at_ 0
  have hBv : BookAt (vw (fun j => ow j = 0 ∨ ow j = cs.length + 2) M) 0 bk B pv := hB.msub (Sub.vws (fun i e => .inl e) M).m
  refine (ACall.frame (fun j => ow j = 0 ∨ ow j = cs.length + 2) (Begin_ok hBv)).mono ?_
  rintro r M2 ⟨M', ⟨hr, hC, N, hN⟩, hF⟩
  rw [vw_len] at hr hC
  have hcl : ∀ i, i < M.length → ¬ (ow i = 0 ∨ ow i = cs.length + 2) → M'[i]? = some none := fun i hi hn => by
    rw [hN, List.getElem?_append_left (by rw [vw_len]; exact hi), vw_out hn hi]
  refine ⟨asg ow M.length (cs.length + 2), hr, hF.len, fun j hj hn => ⟨hF.out j hj (by rw [hn]; omega), by rw [asg_lt hj]; exact hn⟩, ?_⟩
  refine h.call (I := fun k => k = 0 ∨ k = cs.length + 2) hF hcl (by omega) (fun j hj hn => asg_lt hj) (fun i hi => ?_) ?_ dobj_mono
  · rcases i with _ | _ | i
    · exact absurd (.inl rfl) hi
    · rfl
    · funext A
      show (∀ c, (cs ++ [_])[i]? = some c → _) = (∀ c, cs[i]? = some c → _)
      have : i ≠ cs.length := fun e => hi (.inr (by rw [e]))
      rcases Nat.lt_or_ge i cs.length with hl | hl
      · rw [List.getElem?_append_left hl]
      · rw [List.getElem?_eq_none (by simp; omega), List.getElem?_eq_none hl]
  · rintro i (rfl | rfl)
    · refine ⟨pv, hB.msub ⟨by rw [vw_len, vw_len, hN, List.length_append, vw_len]; omega, fun i b _ hi => ?_⟩⟩
      obtain ⟨q1, q2⟩ := vw_some.1 hi
      have hl := (List.getElem?_eq_some_iff.1 q2).1
      refine vw_some.2 ⟨by show asg ow M.length _ i = 0; rw [asg_lt hl]; exact q1, ?_⟩
      rw [hN, List.getElem?_append_left (by rw [vw_len]; exact hl)]
      exact vw_some.2 ⟨.inl q1, q2⟩
    · intro c hcc
      rw [List.getElem?_append_right (Nat.le_refl _), Nat.sub_self] at hcc
      simp at hcc
      subst hcc
      refine ⟨_, _, hC.vw fun j hj => ?_⟩
      rcases hj with rfl | rfl | hj
      · exact asg_ge (by omega)
      · exact asg_ge (by omega)
      · exact absurd NotOf.nil hj
theorem Side.commit {k ck : Nat} {K : Ck} (h : Side m ow M (dobj n0 bk B av ps cs)) (hk : cs[k]? = some (ck, some K)) (hK : OKK K) (hbd : Bd B.H 1000000000) (hpl : B.P.length ≤ 1000000) :
    ACall Try.prog 41 #[.pointer (some ⟨ck, 0, none⟩)] M (fun r M2 => ∃ ow', r = .tuple #[.int .i64 (coF K B).1, .int .i64 (coF K B).2.1] ∧ M.length ≤ M2.length ∧ (∀ j, j < M.length → ow j = 1 → M2[j]? = M[j]? ∧ ow' j = 1) ∧ Side m ow' M2 (dobj n0 bk (coF K B).2.2 av ps (cs.set k (ck, none)))) := by
  have hkl := (List.getElem?_eq_some_iff.1 hk).1
  obtain ⟨pv, hB⟩ := h.at_ 0
  obtain ⟨q, mvv, hC⟩ := h.at_ (k + 2) _ hk
  have hBv : BookAt (vw (fun j => ow j = 0 ∨ ow j = k + 2) M) 0 bk B pv := hB.msub (Sub.vws (fun i e => .inl e) M).m
  have hCv : ClerkAt (vw (fun j => ow j = 0 ∨ ow j = k + 2) M) ck q mvv bk K := hC.msub (Sub.vws (fun i e => .inr e) M).m
  have iB := hB.in_
  have iC := hC.in_
  have sep : ∀ j, ckD ck q mvv j → ¬ bkD bk pv j := fun j h1 h2 => by have e1 : ow j = k + 2 := iC j h1; have e2 : ow j = 0 := iB j h2; omega
  have s1 : ck ≠ bk := fun e => sep ck (.inl rfl) (.inl e)
  have s2 : NotOf pv ck := Classical.byContradiction fun e => sep ck (.inl rfl) (.inr e)
  have s3 : q ≠ bk := fun e => sep q (.inr (.inl rfl)) (.inl e)
  have s4 : NotOf pv q := Classical.byContradiction fun e => sep q (.inr (.inl rfl)) (.inr e)
  have s5 : ∀ j, ¬ NotOf mvv j → j ≠ bk ∧ NotOf pv j := fun j hj => ⟨fun e => sep j (.inr (.inr hj)) (.inl e), Classical.byContradiction fun e => sep j (.inr (.inr hj)) (.inr e)⟩
  refine (ACall.frame (fun j => ow j = 0 ∨ ow j = k + 2) (Commit_ok hBv hCv hK.dn s1 s2 s3 s4 s5 hK.seen hK.ok hK.n hbd hpl)).mono ?_
  rintro r M2 ⟨M', ⟨u, hr, hB', hD', hkp, _, _⟩, hF⟩
  have hcl : ∀ i, i < M.length → ¬ (ow i = 0 ∨ ow i = k + 2) → M'[i]? = some none := hkp.clean (by
    rintro i (rfl | rfl | e)
    · exact .inr (iC _ (.inl rfl))
    · exact .inr (iC _ (.inr (.inl rfl)))
    · exact .inl (iB _ e))
  have hcko : ow ck = k + 2 := iC _ (.inl rfl)
  have hckl : ck < M.length := by
    have := hC.lt
    rw [vw_len] at this
    exact this
  refine ⟨fun j => if j = ck then k + 2 else if j < M.length ∧ ¬ (ow j = 0 ∨ ow j = k + 2) then ow j else 0, hr, hF.len, fun j hj hn => ⟨hF.out j hj (by rw [hn]; omega), ?_⟩, ?_⟩
  · show (if j = ck then k + 2 else if j < M.length ∧ ¬ (ow j = 0 ∨ ow j = k + 2) then ow j else 0) = 1
    rw [if_neg (fun e => by rw [e, hcko] at hn; omega), if_pos ⟨hj, by rw [hn]; omega⟩]
    exact hn
  · refine h.call (I := fun i => i = 0 ∨ i = k + 2) hF hcl (by omega) (fun j hj hn => ?_) (fun i hi => ?_) ?_ dobj_mono
    · show (if j = ck then k + 2 else if j < M.length ∧ ¬ (ow j = 0 ∨ ow j = k + 2) then ow j else 0) = ow j
      rw [if_neg (fun e => hn (.inr (by rw [e]; exact hcko))), if_pos ⟨hj, hn⟩]
    · rcases i with _ | _ | i
      · exact absurd (.inl rfl) hi
      · rfl
      · funext A
        show (∀ c, (cs.set k (ck, none))[i]? = some c → _) = (∀ c, cs[i]? = some c → _)
        rw [set_getT hkl, if_neg (fun e => hi (.inr (by rw [e])))]
    · rintro i (rfl | rfl)
      · obtain ⟨b, w1, w2, w3, w4, w5⟩ := hD'
        refine ⟨u, hB'.without w1 w3 fun i hi hx => ?_⟩
        obtain ⟨c, hx⟩ := hx
        show (if i = ck then k + 2 else if i < M.length ∧ ¬ (ow i = 0 ∨ ow i = k + 2) then ow i else 0) = 0
        rw [if_neg hi, if_neg]
        rintro ⟨a1, a2⟩
        rw [hcl i a1 a2] at hx
        cases hx
      · intro c hcc
        rw [set_getT hkl, if_pos rfl] at hcc
        injection hcc with hcc
        subst hcc
        obtain ⟨b, w1, w2, w3, w4, w5⟩ := hD'
        exact ⟨b, vw_some.2 ⟨if_pos rfl, w1⟩, w2, w3, w4, by rw [vw_len]; exact w5⟩
end
end Go.Proofs.Ytabdnepfcohncaa.Abs
namespace Go.Proofs.Ytabdnepfcohncaa.Abs
set_option linter.unusedSimpArgs false
set_option linter.unusedVariables false
open Go.RowKit
open Go.Proofs.Ytabdnepfcohncaa.Sim
open Go.Proofs
theorem un31 : Try.prog.underlying 31 = some (.int .u64) := by kernel_rfl
theorem Side.sub {m : AM} {ow : Nat → Nat} {M : AM} {obj : Nat → AM → Prop} (h : Side m ow M obj) : Sub m M := ⟨h.len, fun i b hi => by rw [(h.base i (List.getElem?_eq_some_iff.1 hi).1).1]; exact hi⟩
theorem RdL.sub {M M' : AM} {a o : Nat} {c : List Value} (h : RdL M a o c) (hs : Sub M M') : RdL M' a o c := by
  obtain ⟨b, h1, h2⟩ := h
  exact ⟨b, hs.get a b h1, h2⟩
theorem coF_good {B : Bk} (h : Good B) (K : Ck) : Good (coF K B).2.2 ∧ (coF K B).2.2.P.length ≤ B.P.length + 1 := by
  unfold coF
  by_cases c : K.mv.length = 0
  · rw [if_pos c]; exact ⟨h, Nat.le_succ _⟩
  · rw [if_neg c]
    by_cases d : stale K B = true
    · rw [if_pos d]; exact ⟨h, Nat.le_succ _⟩
    · rw [if_neg d]; exact ⟨h.post _, postF_len _ _⟩
/-- Post of a row just made, that goes over to the book. -/
theorem Side.post {m : AM} {ow : Nat → Nat} {M : AM} {n0 bk : Nat} {B : Bk} {av : Value} {ps : List Nat} {cs : List (Nat × Option Ck)} {X N : AM} {r : Value} {l : List Tr} (h : Side m ow X (dobj n0 bk B av ps cs)) (hN : M = X ++ N) (hr : Row M X.length 4 r (tcs (l.take 18)) (l.take 18).length) (hg : Good B) (hpl : B.P.length ≤ 1000000) :
    ACall Try.prog 28 #[.pointer (some ⟨bk, 0, none⟩), r] M (fun v M2 => v = .tuple #[.int .i64 (postF B l).2.1, .int .i64 (postF B l).2.2] ∧ M.length ≤ M2.length ∧ (∀ j, j < X.length → ow j ≠ 0 → M2[j]? = X[j]?) ∧ ∃ ow', (∀ j, j < X.length → ow' j = ow j) ∧ Side m ow' M2 (dobj n0 bk (postF B l).1 av ps cs)) := by
  subst hN
  have h1 := h.app N 0
  have hl18 : (l.take 18).length ≤ 18 := by rw [List.length_take]; omega
  refine (h1.bookCall (R := fun v => v = .tuple #[.int .i64 (postF B (l.take 18)).2.1, .int .i64 (postF B (l.take 18)).2.2]) (B' := (postF B (l.take 18)).1) fun pv hB => ?_).mono ?_
  · have hrv : Row (vw (fun j => asg ow X.length 0 j = 0) (X ++ N)) X.length 4 r (tcs (l.take 18)) (l.take 18).length := hr.vw fun a ha => asg_ge ha
    have h0 := hB.lt
    refine (Post_ok hB (l := l.take 18) (fun M' hF => Row.trsKeep hB.row (fun a y hr => (hB.sep hr).1) hrv (by omega) hF) hg.bd hpl (by omega)).mono ?_
    rintro v M' ⟨u, e1, e2, e3, _, _⟩
    exact ⟨e1, u, e2, e3.keep⟩
  · rintro v M2 ⟨e1, e2, e3, e4⟩
    rw [(postF_take B l).1] at e4
    rw [(postF_take B l).2] at e1
    by_cases hz : (postF B l).2.2 = 0
    · have hz' : (postF B (l.take 18)).2.2 = 0 := by rw [(postF_take B l).2]; exact hz
      rw [postF_num hz', ← postF_num hz] at e1
      exact ⟨e1, e2, fun j hj hn => by rw [e3 j (by rw [List.length_append]; omega) (by rw [asg_lt hj]; exact hn), List.getElem?_append_left hj], _, fun j hj => by rw [asg_lt (by rw [List.length_append]; omega), asg_lt hj], e4⟩
    · have hz' : (postF B (l.take 18)).2.2 ≠ 0 := by rw [(postF_take B l).2]; exact hz
      rw [(postF_bad hz').2, ← (postF_bad hz).2] at e1
      exact ⟨e1, e2, fun j hj hn => by rw [e3 j (by rw [List.length_append]; omega) (by rw [asg_lt hj]; exact hn), List.getElem?_append_left hj], _, fun j hj => by rw [asg_lt (by rw [List.length_append]; omega), asg_lt hj], e4⟩
theorem Row.vw2 {S : Nat → Prop} {M : AM} {b0 s : Nat} {u : Value} {c : List Value} {n : Nat} (h : Row M b0 s u c n) (hs : ∀ a, ¬ NotOf u a → S a) : Row (Abs.vw S M) b0 s u c n := by
  rcases h with h | ⟨a, kd, sz, h1, h2, h3, h4, h5⟩
  · exact .inl h
  · exact .inr ⟨a, kd, sz, h1, h2, vw_some.2 ⟨hs a (fun hn => hn _ _ h2), h3⟩, h4, h5⟩
theorem Side.row {m : AM} {ow : Nat → Nat} {M : AM} {n0 bk : Nat} {B : Bk} {av : Value} {ps : List Nat} {cs : List (Nat × Option Ck)} (h : Side m ow M (dobj n0 bk B av ps cs)) : Row M n0 1 av (ps.map fun c => .pointer (some ⟨c, 0, none⟩)) ps.length := Row.msub (h.at_ 1) (Sub.vw _ _).m
theorem Side.book {m : AM} {ow : Nat → Nat} {M : AM} {n0 bk : Nat} {B : Bk} {av : Value} {ps : List Nat} {cs : List (Nat × Option Ck)} (h : Side m ow M (dobj n0 bk B av ps cs)) : ∃ pv, BookAt M 0 bk B pv := by
  obtain ⟨pv, hB⟩ := h.at_ 0
  exact ⟨pv, hB.msub (Sub.vw _ _).m⟩
/-- Move and Commit, of a clerk at work or done. -/
def moO (o : Option Ck) (x : Tr) : Option Ck := o.map fun K => (moF K x).2
def moE (o : Option Ck) (x : Tr) : Int := match o with
  | none => 9
  | some K => (moF K x).1
def cmB (o : Option Ck) (B : Bk) : Bk := match o with
  | none => B
  | some K => (coF K B).2.2
def cmR (o : Option Ck) (B : Bk) : Int × Int := match o with
  | none => (0, 9)
  | some K => ((coF K B).1, (coF K B).2.1)
section
variable {m : AM} {ow : Nat → Nat} {M : AM} {n0 bk : Nat} {B : Bk} {av : Value} {ps : List Nat} {cs : List (Nat × Option Ck)}
theorem Side.move {k ck : Nat} {o : Option Ck} (h : Side m ow M (dobj n0 bk B av ps cs)) (hk : cs[k]? = some (ck, o)) (ho : ∀ K, o = some K → OKK K) (x : Tr) :
    ACall Try.prog 33 #[.pointer (some ⟨ck, 0, none⟩), x.v] M (fun r M2 => r = .int .i64 (moE o x) ∧ M.length ≤ M2.length ∧ (∀ j, j < M.length → ow j ≠ k + 2 → M2[j]? = M[j]?) ∧ Side m (asg ow M.length (k + 2)) M2 (dobj n0 bk B av ps (cs.set k (ck, moO o x)))) := by
  refine h.clkCall hk fun hC => ?_
  cases o with
  | none =>
    refine (Move_done x hC).mono ?_
    rintro r M' ⟨rfl, N, rfl⟩
    exact ⟨rfl, hC.msub (Sub.app _ N).m, fun _ => False, Keep.app _ _ _, fun _ h => h.elim⟩
  | some K =>
    obtain ⟨q, mvv, hC⟩ := hC
    have hK := ho K rfl
    refine (Move_ok hC hK.bd (by have := hK.n; omega)).mono ?_
    rintro r M' ⟨mvv', rfl, hC', hkp, _⟩
    exact ⟨rfl, ⟨q, mvv', hC'⟩, ckD ck q mvv, hkp, fun j hj => hC.in_ j hj⟩
theorem Side.commitAny {k ck : Nat} {o : Option Ck} (h : Side m ow M (dobj n0 bk B av ps cs)) (hk : cs[k]? = some (ck, o)) (ho : ∀ K, o = some K → OKK K) (hbd : Bd B.H 1000000000) (hpl : B.P.length ≤ 1000000) :
    ACall Try.prog 41 #[.pointer (some ⟨ck, 0, none⟩)] M (fun r M2 => ∃ ow', r = .tuple #[.int .i64 (cmR o B).1, .int .i64 (cmR o B).2] ∧ M.length ≤ M2.length ∧ (∀ j, j < M.length → ow j = 1 → M2[j]? = M[j]? ∧ ow' j = 1) ∧ Side m ow' M2 (dobj n0 bk (cmB o B) av ps (cs.set k (ck, none)))) := by
  cases o with
  | none =>
    refine (h.clkCall (o' := none) (R := fun r => r = .tuple #[.int .i64 0, .int .i64 9]) (f := 41) (args := #[.pointer (some ⟨ck, 0, none⟩)]) hk fun hC => ?_).mono ?_
    · refine (Commit_done hC).mono ?_
      rintro r M' ⟨rfl, rfl⟩
      exact ⟨rfl, hC, fun _ => False, Keep.refl _ _, fun _ h => h.elim⟩
    · rintro r M2 ⟨rfl, h1, h2, h3⟩
      exact ⟨_, rfl, h1, fun j hj hn => ⟨h2 j hj (by rw [hn]; omega), by rw [asg_lt hj]; exact hn⟩, h3⟩
  | some K => exact h.commit hk (ho K rfl) hbd hpl
theorem cmB_good (h : Good B) (o : Option Ck) : Good (cmB o B) ∧ (cmB o B).P.length ≤ B.P.length + 1 := by
  cases o with
  | none => exact ⟨h, Nat.le_succ _⟩
  | some K => exact coF_good h K
end
end Go.Proofs.Ytabdnepfcohncaa.Abs
namespace Go.Proofs.Ytabdnepfcohncaa.Abs
set_option linter.unusedSimpArgs false
set_option linter.unusedVariables false
open Go.RowKit
open Go.Proofs.Ytabdnepfcohncaa.Sim
open Go.Proofs
/-- The clerks' names are where they were. -/
def Alive (cs : List (Nat × Option Ck)) : Prop := ∀ c ∈ cs, ∀ K, c.2 = some K → OKK K
theorem Alive.set {cs : List (Nat × Option Ck)} (h : Alive cs) (j ck : Nat) (o : Option Ck) (ho : ∀ K, o = some K → OKK K) : Alive (cs.set j (ck, o)) := fun c hc K hK => by
  rcases List.mem_or_eq_of_mem_set hc with hc | rfl
  · exact h c hc K hK
  · exact ho K hK
theorem set_selfT {α : Type} {l : List α} {j : Nat} {x : α} (h : l[j]? = some x) : l.set j x = l := by
  apply List.ext_getElem?
  intro i
  rw [set_getT (List.getElem?_eq_some_iff.1 h).1]
  by_cases e : i = j
  · subst e; rw [if_pos rfl, h]
  · rw [if_neg e]
end Go.Proofs.Ytabdnepfcohncaa.Abs
namespace Go.Proofs.Ytabdnepfcohncaa.Abs
set_option linter.unusedSimpArgs false
set_option linter.unusedVariables false
open Go.RowKit
open Go.Proofs.Ytabdnepfcohncaa.Sim
open Go.Proofs
/-- Held, of a clerk at work or done. -/
def heO (o : Option Ck) (p i : Int) : Option Ck := o.map fun K => (chF K p i).2.2
def heR (o : Option Ck) (p i : Int) : Int × Int := match o with
  | none => (0, 9)
  | some K => ((chF K p i).1, (chF K p i).2.1)
theorem Side.held {m : AM} {ow : Nat → Nat} {M : AM} {n0 bk : Nat} {B : Bk} {av : Value} {ps : List Nat} {cs : List (Nat × Option Ck)} {k ck : Nat} {o : Option Ck} (h : Side m ow M (dobj n0 bk B av ps cs)) (hk : cs[k]? = some (ck, o)) (p i : Int) :
    ACall Try.prog 31 #[.pointer (some ⟨ck, 0, none⟩), .int .i64 p, .int .i64 i] M (fun r M2 => r = .tuple #[.int .i64 (heR o p i).1, .int .i64 (heR o p i).2] ∧ M.length ≤ M2.length ∧ (∀ j, j < M.length → ow j ≠ k + 2 → M2[j]? = M[j]?) ∧ Side m (asg ow M.length (k + 2)) M2 (dobj n0 bk B av ps (cs.set k (ck, heO o p i)))) := by
  refine h.clkCall hk fun hC => ?_
  cases o with
  | none =>
    refine (Held_done p i hC).mono ?_
    rintro r M' ⟨rfl, rfl⟩
    exact ⟨rfl, hC, fun _ => False, Keep.refl _ _, fun _ h => h.elim⟩
  | some K =>
    obtain ⟨q, mvv, hC⟩ := hC
    refine (CHeld_ok p i hC).mono ?_
    rintro r M' ⟨rfl, hC', hkp⟩
    exact ⟨rfl, ⟨q, mvv, hC'⟩, (· = q), hkp, fun j hj => hC.in_ j (.inr (.inl hj))⟩
theorem chF_in {K : Ck} (h : OKK K) {p i : Nat} (hp : p < 16) (hi : i < 16) : chF K p i = (K.V.getD (p * 16 + i) 0, 0, { K with seen := ((p : Int), (i : Int)) :: K.seen }) := by
  unfold chF
  rw [if_neg (by rw [h.dn]; simp), if_pos (by simp only [inB, decide_eq_true_eq]; omega)]
  rfl
theorem heO_in {K : Ck} (h : OKK K) {p i : Nat} (hp : p < 16) (hi : i < 16) : heR (some K) p i = (K.V.getD (p * 16 + i) 0, 0) ∧ heO (some K) p i = some { K with seen := ((p : Int), (i : Int)) :: K.seen } := by
  unfold heR heO
  rw [Option.map_some]
  simp only [chF_in h hp hi, and_self]
end Go.Proofs.Ytabdnepfcohncaa.Abs
namespace Go.Proofs.Ytabdnepfcohncaa.Abs
set_option linter.unusedSimpArgs false
set_option linter.unusedVariables false
open Go.RowKit
open Go.Proofs.Ytabdnepfcohncaa.Sim
open Go.Proofs
/-- One step of a clerk: a count that it read, or a transfer. -/
structure Stp where
  rd : Bool
  p : Nat
  i : Nat
  n : Int
  x : Tr
instance : Inhabited Stp := ⟨⟨false, 0, 0, 0, default⟩⟩
def Stp.c (s : Stp) : List Value := .bool s.rd :: .int .i64 (s.p : Nat) :: .int .i64 (s.i : Nat) :: .int .i64 s.n :: s.x.c
def goS (K : Ck) (s : Stp) : Ck := if s.rd = true then { K with seen := ((s.p : Int), (s.i : Int)) :: K.seen } else { K with mv := K.mv ++ [s.x], V := wth1 K.V s.x }
def okS (K : Ck) (s : Stp) : Prop := s.rd = true ∧ s.p < 16 ∧ s.i < 16 ∧ s.n = K.V.getD (s.p * 16 + s.i) 0 ∨ s.rd = false ∧ okT s.x = true ∧ K.mv.length < 16
def goL (K : Ck) (l : List Stp) : Ck := l.foldl goS K
theorem goL_snoc (K : Ck) (l : List Stp) (s : Stp) : goL K (l ++ [s]) = goS (goL K l) s := by simp [goL]
theorem take_snoc' {α : Type} [Inhabited α] {l : List α} {j : Nat} (h : j < l.length) : l.take (j + 1) = l.take j ++ [l.getD j default] := by
  rw [List.take_add_one, List.getD_eq_getElem?_getD, List.getElem?_eq_getElem h]
  rfl
structure Ran (K0 : Ck) (l : List Stp) (K : Ck) : Prop where
  go : goL K0 l = K
  ok : ∀ j, j < l.length → okS (goL K0 (l.take j)) (l.getD j default)
theorem Ran.nil (K0 : Ck) : Ran K0 [] K0 := ⟨rfl, fun j h => absurd h (Nat.not_lt_zero _)⟩
theorem Ran.snoc {K0 K : Ck} {l : List Stp} {s : Stp} (h : Ran K0 l K) (hs : okS K s) : Ran K0 (l ++ [s]) (goS K s) := by
  refine ⟨by rw [goL_snoc, h.go], fun j hj => ?_⟩
  rw [List.length_append, List.length_singleton] at hj
  rcases Nat.lt_or_ge j l.length with hl | hl
  · have e1 : (l ++ [s]).take j = l.take j := by rw [List.take_append_of_le_length (by omega)]
    have e2 : (l ++ [s]).getD j default = l.getD j default := by simp only [List.getD_eq_getElem?_getD]; rw [List.getElem?_append_left hl]
    rw [e1, e2]
    exact h.ok j hl
  · obtain rfl : j = l.length := by omega
    have e1 : (l ++ [s]).take l.length = l := by rw [List.take_append_of_le_length (Nat.le_refl _), List.take_of_length_le (Nat.le_refl _)]
    have e2 : (l ++ [s]).getD l.length default = s := by simp
    rw [e1, e2, h.go]
    exact hs
theorem goS_seen (K : Ck) (s : Stp) : ∀ x ∈ K.seen, x ∈ (goS K s).seen := fun x hx => by
  unfold goS
  split
  · exact List.mem_cons_of_mem _ hx
  · exact hx
theorem goL_seen : ∀ (l : List Stp) (K : Ck), ∀ x ∈ K.seen, x ∈ (goL K l).seen
  | [], _, _, h => h
  | s :: l, K, x, h => goL_seen l (goS K s) x (goS_seen K s x h)
theorem Ran.seen {K0 K : Ck} {l : List Stp} (h : Ran K0 l K) (j : Nat) : ∀ x ∈ (goL K0 (l.take j)).seen, x ∈ K.seen := fun x hx => by
  have : K = goL (goL K0 (l.take j)) (l.drop j) := by
    rw [← h.go]
    unfold goL
    rw [← List.foldl_append, List.take_append_drop]
  rw [this]
  exact goL_seen _ _ x hx
theorem goS_same (K : Ck) (s : Stp) : (goS K s).at_ = K.at_ ∧ (goS K s).done = K.done := by
  unfold goS
  split <;> exact ⟨rfl, rfl⟩
theorem goL_same : ∀ (l : List Stp) (K : Ck), (goL K l).at_ = K.at_ ∧ (goL K l).done = K.done
  | [], _ => ⟨rfl, rfl⟩
  | s :: l, K => by
    obtain ⟨h1, h2⟩ := goL_same l (goS K s)
    obtain ⟨h3, h4⟩ := goS_same K s
    exact ⟨h1.trans h3, h2.trans h4⟩
/-- The same steps from other counts. -/
theorem Ran.again {a b : Nat} {H H' : List Int} {l : List Stp} {K : Ck} (h : Ran ⟨a, H, [], [], false⟩ l K) (hH : H.length = 256) (hH' : H'.length = 256)
    (he : ∀ p i : Nat, p < 16 → i < 16 → ((p : Int), (i : Int)) ∈ K.seen → H'.getD (p * 16 + i) 0 = H.getD (p * 16 + i) 0) : ∃ K', Ran ⟨b, H', [], [], false⟩ l K' ∧ K'.mv = K.mv ∧ K'.seen = K.seen ∧ K'.at_ = b ∧ K'.done = false := by
  have inv : ∀ j, j ≤ l.length → (goL ⟨b, H', [], [], false⟩ (l.take j)).mv = (goL ⟨a, H, [], [], false⟩ (l.take j)).mv ∧ (goL ⟨b, H', [], [], false⟩ (l.take j)).seen = (goL ⟨a, H, [], [], false⟩ (l.take j)).seen ∧
      (goL ⟨b, H', [], [], false⟩ (l.take j)).V.length = 256 ∧ (goL ⟨a, H, [], [], false⟩ (l.take j)).V.length = 256 ∧
      (∀ p i : Nat, p < 16 → i < 16 → (goL ⟨b, H', [], [], false⟩ (l.take j)).V.getD (p * 16 + i) 0 - (goL ⟨a, H, [], [], false⟩ (l.take j)).V.getD (p * 16 + i) 0 = H'.getD (p * 16 + i) 0 - H.getD (p * 16 + i) 0) := by
    intro j
    induction j with
    | zero => exact fun _ => ⟨rfl, rfl, hH', hH, fun p i _ _ => rfl⟩
    | succ j ih =>
      intro hj
      obtain ⟨h1, h2, h3, h4, h5⟩ := ih (by omega)
      have hk := h.ok j (by omega)
      rw [take_snoc' (by omega), goL_snoc, goL_snoc]
      generalize goL ⟨b, H', [], [], false⟩ (l.take j) = A' at *
      generalize goL ⟨a, H, [], [], false⟩ (l.take j) = A at *
      generalize l.getD j default = s at *
      rcases hk with ⟨q1, q2, q3, q4⟩ | ⟨q1, q2, q3⟩
      · unfold goS
        rw [if_pos q1, if_pos q1]
        exact ⟨h1, by simp [h2], h3, h4, h5⟩
      · unfold goS
        rw [if_neg (by simp [q1]), if_neg (by simp [q1])]
        refine ⟨by simp [h1], h2, by simp [wth1_len, h3], by simp [wth1_len, h4], fun p i hp hi => ?_⟩
        show (wth1 A'.V s.x).getD _ 0 - (wth1 A.V s.x).getD _ 0 = _
        rw [wth1_get h3 q2 hp hi, wth1_get h4 q2 hp hi]
        have := h5 p i hp hi
        omega
  have hs := h.seen
  have hgo := h.go
  refine ⟨_, ⟨rfl, fun j hj => ?_⟩, ?_, ?_, (goL_same _ _).1, (goL_same _ _).2⟩
  · obtain ⟨h1, h2, h3, h4, h5⟩ := inv j (by omega)
    have hk := h.ok j hj
    have hs1 := hs (j + 1)
    rw [take_snoc' hj, goL_snoc] at hs1
    generalize goL ⟨b, H', [], [], false⟩ (l.take j) = A' at *
    generalize goL ⟨a, H, [], [], false⟩ (l.take j) = A at *
    generalize l.getD j default = s at *
    rcases hk with ⟨q1, q2, q3, q4⟩ | ⟨q1, q2, q3⟩
    · refine .inl ⟨q1, q2, q3, ?_⟩
      have e := he s.p s.i q2 q3 (hs1 _ (by unfold goS; rw [if_pos q1]; exact List.mem_cons_self))
      have := h5 s.p s.i q2 q3
      omega
    · exact .inr ⟨q1, q2, by rw [h1]; exact q3⟩
  · have := (inv l.length (Nat.le_refl _)).1
    rwa [List.take_of_length_le (Nat.le_refl _), hgo] at this
  · have := (inv l.length (Nat.le_refl _)).2.1
    rwa [List.take_of_length_le (Nat.le_refl _), hgo] at this
def bkP (P : List (List Tr)) : Bk := P.foldl (fun B l => (postF B l).1) Bk.new
theorem bkP_snoc (P : List (List Tr)) (l : List Tr) : bkP (P ++ [l]) = (postF (bkP P) l).1 := by simp [bkP]
theorem Built.eq {B : Bk} (h : Built B) : bkP B.P = B := by
  induction h with
  | new => rfl
  | post h hz ih => rw [(postF_zero hz).2, bkP_snoc, ih]
theorem Built.good {B : Bk} (h : Built B) : Good B := by
  induction h with
  | new => exact Good.new
  | post h hz ih => exact ih.post _
/-- Each beginning of the posts. -/
theorem Built.take {B : Bk} (h : Built B) : ∀ k, k ≤ B.P.length → Built (bkP (B.P.take k)) ∧ (bkP (B.P.take k)).P = B.P.take k ∧ (k < B.P.length → (postF (bkP (B.P.take k)) (B.P.getD k [])).2.2 = 0) := by
  induction h with
  | new =>
    intro k hk
    rw [show Bk.new.P = [] from rfl, List.take_nil]
    exact ⟨.new, rfl, fun h => absurd h (Nat.not_lt_zero _)⟩
  | @post B l h hz ih =>
    intro k hk
    rw [(postF_zero hz).2] at hk ⊢
    rw [List.length_append, List.length_singleton] at hk ⊢
    rcases Nat.lt_or_ge k B.P.length with hl | hl
    · have e1 : (B.P ++ [l]).take k = B.P.take k := by rw [List.take_append_of_le_length (by omega)]
      have e2 : (B.P ++ [l]).getD k [] = B.P.getD k [] := by simp only [List.getD_eq_getElem?_getD]; rw [List.getElem?_append_left hl]
      rw [e1, e2]
      obtain ⟨h1, h2, h3⟩ := ih k (by omega)
      exact ⟨h1, h2, fun _ => h3 hl⟩
    · rcases Nat.lt_or_ge B.P.length k with hl2 | hl2
      · obtain rfl : k = B.P.length + 1 := by omega
        rw [List.take_of_length_le (by simp), bkP_snoc, h.eq]
        exact ⟨.post h hz, (postF_zero hz).2, fun h => absurd h (by omega)⟩
      · obtain rfl : k = B.P.length := by omega
        have e1 : (B.P ++ [l]).take B.P.length = B.P := by rw [List.take_append_of_le_length (Nat.le_refl _), List.take_of_length_le (Nat.le_refl _)]
        have e2 : (B.P ++ [l]).getD B.P.length [] = l := by simp
        rw [e1, e2, h.eq]
        exact ⟨h, rfl, fun _ => hz⟩
theorem lcK_take (p i : Int) (P : List (List Tr)) (n : Nat) : ∀ k, k ≤ n → lcK p i (P.take n) k = lcK p i P k
  | 0, _ => rfl
  | k + 1, h => by
    have : (P.take n).getD k [] = P.getD k [] := by simp only [List.getD_eq_getElem?_getD]; rw [List.getElem?_take, if_pos (by omega)]
    unfold lcK
    rw [this, lcK_take p i P n k (by omega)]
/-- A count whose last change is old is as old. -/
theorem hsum_old {p i : Int} {P : List (List Tr)} {a : Nat} : ∀ b, a ≤ b → b ≤ P.length → lcK p i P b ≤ a → hsum p i (P.take b).flatten = hsum p i (P.take a).flatten
  | 0, h, _, _ => by rw [show a = 0 by omega]
  | b + 1, h, hb, hl => by
    rcases Nat.eq_or_lt_of_le h with e | hlt
    · rw [e]
    · unfold lcK at hl
      by_cases c : (P.getD b []).any (tchB p i) = true
      · rw [if_pos c] at hl; omega
      · rw [if_neg c] at hl
        have e1 : P.take (b + 1) = P.take b ++ [P.getD b []] := take_snoc' (by omega)
        rw [e1, List.flatten_append, hsum_app]
        simp only [List.flatten_cons, List.flatten_nil, List.append_nil]
        rw [hsum_zero (l := P.getD b []) (by rw [← Bool.not_eq_true]; exact c), Int.add_zero]
        exact hsum_old b (by omega) (by omega) hl
/-- A clerk begun at a commits at k (posts P): then it does so when begun at k. -/
theorem serial {B : Bk} (h : Built B) {a k : Nat} {l : List Stp} {K : Ck} (hak : a ≤ k) (hk : k < B.P.length) (hr : Ran ⟨a, (bkP (B.P.take a)).H, [], [], false⟩ l K) (hst : stale K (bkP (B.P.take k)) = false) (hin : ∀ x ∈ K.seen, inB x.1 x.2 = true) (hmv : K.mv = B.P.getD k []) :
    ∃ K', Ran ⟨k, (bkP (B.P.take k)).H, [], [], false⟩ l K' ∧ coF K' (bkP (B.P.take k)) = (((k + 1 : Nat) : Int), (0 : Int), bkP (B.P.take (k + 1))) := by
  obtain ⟨g1, g2, g3⟩ := h.take k (by omega)
  obtain ⟨f1, f2, _⟩ := h.take a (by omega)
  have G1 := g1.good
  have G2 := f1.good
  obtain ⟨K', hr', h1, h2, h3, h4⟩ := hr.again (b := k) G2.lH G1.lH (fun p i hp hi hs => by
    rw [G1.H p i hp hi, G2.H p i hp hi, g2, f2]
    refine hsum_old k hak (by omega) ?_
    have hC := G1.C p i hp hi
    rw [g2, List.length_take, Nat.min_eq_left (by omega), lcK_take _ _ _ _ _ (Nat.le_refl _)] at hC
    unfold stale at hst
    rw [List.any_eq_false] at hst
    have := hst _ (List.mem_append_left _ hs)
    rw [decide_eq_true_eq] at this
    have e0 : cAt (bkP (B.P.take k)) ((p : Int), (i : Int)) = (bkP (B.P.take k)).C.getD (p * 16 + i) 0 := rfl
    have ha : K.at_ = a := by rw [← hr.go]; exact (goL_same _ _).1
    omega)
  refine ⟨K', hr', ?_⟩
  have hz := g3 hk
  obtain ⟨hpb, hpp⟩ := postF_zero hz
  unfold coF
  rw [h1, hmv, if_neg (by have := (postB_all hpb).1; omega), if_neg, hz, postF_num hz, g2, List.length_take, Nat.min_eq_left (by omega), take_snoc' (by omega), bkP_snoc]
  · rfl
  · rw [Bool.not_eq_true]
    unfold stale
    rw [List.any_eq_false]
    intro x hx
    simp only [decide_eq_true_eq, h3]
    rw [h1, h2, hmv] at hx
    have hin2 : inB x.1 x.2 = true := by
      rcases List.mem_append.1 hx with hx | hx
      · exact hin x hx
      · have hok := (postB_all hpb).2.2
        rw [List.all_eq_true] at hok
        simp only [kyL, List.mem_flatMap, List.mem_cons, List.not_mem_nil, or_false] at hx
        obtain ⟨t, ht, hx⟩ := hx
        have ho := hok t ht
        simp only [okT, decide_eq_true_eq] at ho
        obtain ⟨x1, x2, x3, x4, x5, x6, x7, x8, x9⟩ := ho
        rcases hx with rfl | rfl <;> simp only [inB, decide_eq_true_eq] <;> omega
    simp only [inB, decide_eq_true_eq] at hin2
    obtain ⟨px, ix⟩ := x
    obtain ⟨p, rfl⟩ := Int.eq_ofNat_of_zero_le hin2.1
    obtain ⟨i, rfl⟩ := Int.eq_ofNat_of_zero_le hin2.2.2.1
    unfold cAt
    simp only [Int.toNat_natCast, Int.ofNat_eq_natCast] at hin2 ⊢
    rw [G1.C p i (by omega) (by omega), g2, List.length_take, Nat.min_eq_left (by omega)]
    have := lcK_le (p : Int) (i : Int) (B.P.take k) k
    omega
end Go.Proofs.Ytabdnepfcohncaa.Abs
namespace Go.Proofs.Ytabdnepfcohncaa.Abs
set_option linter.unusedSimpArgs false
set_option linter.unusedVariables false
open Go.RowKit
open Go.Proofs.Ytabdnepfcohncaa.Sim
open Go.Proofs
/-- Rows that share no block. -/
structure Rows (n0 : Nat) (A : AM) (vs : Nat → Value) (sz : Nat → Nat) (cc : Nat → List Value) (ns : Nat → Nat) : Prop where
  row : ∀ i, Row A n0 (sz i) (vs i) (cc i) (ns i)
  dis : ∀ i j, i ≠ j → ∀ a, ¬ NotOf (vs i) a → NotOf (vs j) a
theorem Rows.msub {n0 : Nat} {A A' : AM} {vs : Nat → Value} {sz : Nat → Nat} {cc : Nat → List Value} {ns : Nat → Nat} (h : Rows n0 A vs sz cc ns) (hs : MSub A A') : Rows n0 A' vs sz cc ns := ⟨fun i => (h.row i).msub hs, h.dis⟩
theorem Rows.turn {n0 i : Nat} {A A' : AM} {vs vs' : Nat → Value} {sz : Nat → Nat} {cc cc' : Nat → List Value} {ns ns' : Nat → Nat} (h : Rows n0 A vs sz cc ns) (hr : Row A' n0 (sz i) (vs' i) (cc' i) (ns' i)) (hs : ∀ j b, A[j]? = some (some b) → NotOf (vs i) j → A'[j]? = some (some b))
    (hn : ∀ j b, A[j]? = some (some b) → NotOf (vs i) j → NotOf (vs' i) j) (he : ∀ k, k ≠ i → vs' k = vs k ∧ cc' k = cc k ∧ ns' k = ns k) : Rows n0 A' vs' sz cc' ns' := by
  have key : ∀ k, k ≠ i → ∀ a, ¬ NotOf (vs k) a → NotOf (vs' i) a := fun k hk a ha => by
    obtain ⟨b, hb⟩ := (h.row k).at_ ha
    exact hn a b hb (h.dis k i hk a ha)
  refine ⟨fun k => ?_, fun k l hkl a ha => ?_⟩
  · by_cases e : k = i
    · subst e; exact hr
    · obtain ⟨e1, e2, e3⟩ := he k e
      rw [e1, e2, e3]
      rcases h.row k with h1 | ⟨a, kd, s, q1, q2, q3, q4, q5⟩
      · exact .inl h1
      · exact .inr ⟨a, kd, s, q1, q2, hs a _ q3 (h.dis k i e a fun hn => hn _ _ q2), q4, q5⟩
  · by_cases e : k = i
    · subst e
      rw [(he l (Ne.symm hkl)).1]
      exact Classical.byContradiction fun hc => ha (key l (Ne.symm hkl) a hc)
    · rw [(he k e).1] at ha
      by_cases e2 : l = i
      · subst e2; exact key k e a ha
      · rw [(he l e2).1]
        exact h.dis k l hkl a ha
/-- A worker: the clerk, the row of its steps, the steps. -/
structure Wk where
  ck : Nat
  sv : Value
  st : List Stp
instance : Inhabited Wk := ⟨⟨0, .slice none 0 0, []⟩⟩
def Wk.c (w : Wk) : List Value := [.pointer (some ⟨w.ck, 0, none⟩), w.sv]
def wkc (ws : List Wk) : List Value := ws.flatMap Wk.c
def stc (l : List Stp) : List Value := l.flatMap Stp.c
theorem flatS_len {α : Type} (f : α → List Value) (s : Nat) (hf : ∀ x, (f x).length = s) : ∀ l : List α, (l.flatMap f).length = l.length * s
  | [] => by simp
  | x :: l => by rw [List.flatMap_cons, List.length_append, hf, flatS_len f s hf l, List.length_cons, Nat.succ_mul]; omega
theorem flatS_get {α : Type} [Inhabited α] (f : α → List Value) (s : Nat) (hf : ∀ x, (f x).length = s) : ∀ (l : List α) (k : Nat), k < l.length → ∀ j v, (f (l.getD k default))[j]? = some v → (l.flatMap f)[k * s + j]? = some v
  | [], k, h => absurd h (Nat.not_lt_zero _)
  | x :: l, 0, _ => fun j v hv => by
    rw [List.flatMap_cons, Nat.zero_mul, Nat.zero_add, List.getElem?_append_left (by have := (List.getElem?_eq_some_iff.1 hv).1; simpa using this)]
    exact hv
  | x :: l, k + 1, h => fun j v hv => by
    rw [List.flatMap_cons, List.getElem?_append_right (by rw [hf, Nat.succ_mul]; omega), hf, show (k + 1) * s + j - s = k * s + j by rw [Nat.succ_mul]; omega]
    exact flatS_get f s hf l k (by simpa using h) j v (by simpa using hv)
theorem wkc_set : ∀ (ws : List Wk) (k : Nat) (w : Wk), ws[k]? = some w → ∀ (u : Value) (st : List Stp), (wkc ws).set (k * 2 + 1) u = wkc (ws.set k ⟨w.ck, u, st⟩)
  | [], k, w, h => by simp at h
  | x :: l, 0, w, h => fun u st => by
    simp at h; subst h; rfl
  | x :: l, k + 1, w, h => fun u st => by
    have := wkc_set l k w (by simpa using h) u st
    show (x.c ++ wkc l).set ((k + 1) * 2 + 1) u = x.c ++ wkc (l.set k _)
    rw [← this, show (k + 1) * 2 + 1 = x.c.length + (k * 2 + 1) by show _ = 2 + _; omega, List.set_append_right _ _ (by omega)]
    rw [show x.c.length + (k * 2 + 1) - x.c.length = k * 2 + 1 by omega]
def lvs (av wv : Value) (ws : List Wk) : Nat → Value
  | 0 => av
  | 1 => wv
  | k + 2 => (ws.getD k default).sv
def lcc (al wl : List Value) (ws : List Wk) : Nat → List Value
  | 0 => al
  | 1 => wl
  | k + 2 => stc (ws.getD k default).st
def lns (wl : List Value) (ws : List Wk) : Nat → Nat
  | 0 => ws.length
  | 1 => wl.length
  | k + 2 => (ws.getD k default).st.length
def lsz : Nat → Nat
  | 0 => 2
  | 1 => 1
  | _ => 8
abbrev cobj (bk : Nat) (B : Bk) (cs : List (Nat × Option Ck)) : Nat → AM → Prop := dobj 0 bk B (.slice none 0 0) [] cs
/-- The book, its clerks, the law's rows, and a new book that waits. -/
structure Shop (m : AM) (ow : Nat → Nat) (M : AM) (bk bk2 : Nat) (B : Bk) (av : Value) (al : List Value) (wv : Value) (wl : List Value) (cs : List (Nat × Option Ck)) (ws : List Wk) : Prop where
  side : Side m ow M (cobj bk B cs)
  rows : Rows (m.length + 2) (vw (fun j => ow j = 1) M) (lvs av wv ws) lsz (lcc al wl ws) (lns wl ws)
  lo : m.length ≤ bk2
  hi : bk2 < m.length + 2
  two : ow bk2 = 1
  new : M[bk2]? = some (some { cells := bkc Bk.new.H Bk.new.C (.slice none 0 0) })
  big : m.length + 2 ≤ M.length
section
variable {m : AM} {ow : Nat → Nat} {M : AM} {bk bk2 : Nat} {B : Bk} {av wv : Value} {al wl : List Value} {cs : List (Nat × Option Ck)} {ws : List Wk}
/-- The law's own blocks are where they were. -/
theorem own_sub {ow ow' : Nat → Nat} {M M2 : AM} (hl : M.length ≤ M2.length) (h : ∀ j, j < M.length → ow j = 1 → M2[j]? = M[j]? ∧ ow' j = 1) : MSub (vw (fun j => ow j = 1) M) (vw (fun j => ow' j = 1) M2) := by
  refine ⟨by rw [vw_len, vw_len]; exact hl, fun i b _ hi => ?_⟩
  obtain ⟨q1, q2⟩ := vw_some.1 hi
  obtain ⟨e1, e2⟩ := h i (List.getElem?_eq_some_iff.1 q2).1 q1
  exact vw_some.2 ⟨e2, by rw [e1]; exact q2⟩
/-- Behind a call that left the law's blocks. -/
theorem Shop.call {ow' : Nat → Nat} {M2 : AM} {B' : Bk} {cs' : List (Nat × Option Ck)} (h : Shop m ow M bk bk2 B av al wv wl cs ws) (hl : M.length ≤ M2.length) (hk : ∀ j, j < M.length → ow j = 1 → M2[j]? = M[j]? ∧ ow' j = 1) (hS : Side m ow' M2 (cobj bk B' cs')) : Shop m ow' M2 bk bk2 B' av al wv wl cs' ws := by
  have hb := (List.getElem?_eq_some_iff.1 h.new).1
  obtain ⟨e1, e2⟩ := hk bk2 hb h.two
  exact ⟨hS, h.rows.msub (own_sub hl hk), h.lo, h.hi, e2, by rw [e1]; exact h.new, by have := h.big; omega⟩
theorem Shop.app (h : Shop m ow M bk bk2 B av al wv wl cs ws) (N : AM) (i : Nat) : Shop m (asg ow M.length i) (M ++ N) bk bk2 B av al wv wl cs ws :=
  h.call (by rw [List.length_append]; omega) (fun j hj ho => ⟨List.getElem?_append_left hj, by rw [asg_lt hj]; exact ho⟩) (h.side.app N i)
theorem Shop.row (h : Shop m ow M bk bk2 B av al wv wl cs ws) (i : Nat) : Row M (m.length + 2) (lsz i) (lvs av wv ws i) (lcc al wl ws i) (lns wl ws i) := (h.rows.row i).msub (Sub.vw _ _).m
/-- The law turns one of its rows. -/
theorem Shop.turn {M3 : AM} {av' wv' : Value} {al' wl' : List Value} {ws' : List Wk} (h : Shop m ow M bk bk2 B av al wv wl cs ws) (i : Nat) (hr : Row M3 (m.length + 2) (lsz i) (lvs av' wv' ws' i) (lcc al' wl' ws' i) (lns wl' ws' i)) (hl : M.length ≤ M3.length)
    (hk : ∀ j, j < M.length → NotOf (lvs av wv ws i) j → M3[j]? = M[j]?) (hk2 : ∀ j, j < M.length → NotOf (lvs av wv ws i) j → NotOf (lvs av' wv' ws' i) j) (he : ∀ k, k ≠ i → lvs av' wv' ws' k = lvs av wv ws k ∧ lcc al' wl' ws' k = lcc al wl ws k ∧ lns wl' ws' k = lns wl ws k) :
    Shop m (asg ow M.length 1) M3 bk bk2 B av' al' wv' wl' cs ws' := by
  have hR := h.rows.row i
  have hD : ∀ j, ¬ NotOf (lvs av wv ws i) j → ow j = 1 ∧ m.length + 2 ≤ j := fun j hj => by
    obtain ⟨b, hb⟩ := hR.at_ hj
    refine ⟨(vw_some.1 hb).1, ?_⟩
    rcases Nat.lt_or_ge j (m.length + 2) with hlt | hge
    · exact absurd (NotOf.row hR hlt) hj
    · exact hge
  have hb2 := (List.getElem?_eq_some_iff.1 h.new).1
  refine ⟨?_, ?_, h.lo, h.hi, by rw [asg_lt hb2]; exact h.two, ?_, by have := h.big; omega⟩
  · refine h.side.law (D := fun j => ¬ NotOf (lvs av wv ws i) j) ⟨hl, fun j hj hn => hk j hj (Classical.byContradiction hn)⟩ (fun j hj => ⟨(hD j hj).1, by have := (hD j hj).2; omega⟩) (fun _ _ => rfl) Row.nil dobj_mono
  · refine h.rows.turn (i := i) ?_ (fun j b hj hn => ?_) (fun j b hj hn => hk2 j ?_ hn) he
    · refine Row.vw2 hr fun a ha => ?_
      by_cases hlt : a < M.length
      · show asg ow M.length 1 a = 1
        rw [asg_lt hlt]
        exact (hD a fun hn => ha (hk2 a hlt hn)).1
      · exact asg_ge (by omega)
    · obtain ⟨q1, q2⟩ := vw_some.1 hj
      have hlt := (List.getElem?_eq_some_iff.1 q2).1
      exact vw_some.2 ⟨by show asg ow M.length 1 j = 1; rw [asg_lt hlt]; exact q1, by rw [hk j hlt hn]; exact q2⟩
    · exact (List.getElem?_eq_some_iff.1 (vw_some.1 hj).2).1
  · rw [hk bk2 hb2 (Classical.byContradiction fun hc => by have := (hD bk2 hc).2; have := h.hi; omega)]
    exact h.new
theorem getD_app_new (ws : List Wk) (ck k : Nat) : ((ws ++ [(⟨ck, .slice none 0 0, []⟩ : Wk)]).getD k default).sv = (ws.getD k default).sv ∧ ((ws ++ [(⟨ck, .slice none 0 0, []⟩ : Wk)]).getD k default).st = (ws.getD k default).st := by
  simp only [List.getD_eq_getElem?_getD]
  rcases Nat.lt_or_ge k ws.length with h | h
  · rw [List.getElem?_append_left h]; exact ⟨rfl, rfl⟩
  · rw [List.getElem?_append_right h, List.getElem?_eq_none h]
    rcases Nat.eq_zero_or_pos (k - ws.length) with e | e
    · rw [e]; exact ⟨rfl, rfl⟩
    · rw [List.getElem?_eq_none (by simp; omega)]; exact ⟨rfl, rfl⟩
/-- One more worker. -/
theorem Shop.hire {M3 : AM} {u : Value} {c : Nat} (h : Shop m ow M bk bk2 B av (wkc ws) wv wl cs ws) (hr : Row M3 (m.length + 2) 2 u (wkc ws ++ [.pointer (some ⟨c, 0, none⟩), .slice none 0 0]) (ws.length + 1))
    (hl : M.length ≤ M3.length) (hk : ∀ j, j < M.length → NotOf av j → M3[j]? = M[j]?) (hk2 : ∀ j, j < M.length → NotOf av j → NotOf u j) : Shop m (asg ow M.length 1) M3 bk bk2 B u (wkc (ws ++ [⟨c, .slice none 0 0, []⟩])) wv wl cs (ws ++ [⟨c, .slice none 0 0, []⟩]) := by
  refine h.turn 0 ?_ hl hk hk2 fun k hk => ?_
  · show Row M3 (m.length + 2) 2 u (wkc (ws ++ [_])) (ws ++ [_]).length
    rw [List.length_append, List.length_singleton, wkc, List.flatMap_append]
    exact hr
  · rcases k with _ | _ | k
    · exact absurd rfl hk
    · exact ⟨rfl, rfl, rfl⟩
    · obtain ⟨e1, e2⟩ := getD_app_new ws c k
      exact ⟨e1, by show stc _ = stc _; rw [e2], by show List.length _ = List.length _; rw [e2]⟩
theorem getD_set_wk {ws : List Wk} {k : Nat} {w : Wk} (hk : k < ws.length) (j : Nat) : (ws.set k w).getD j default = if j = k then w else ws.getD j default := by
  simp only [List.getD_eq_getElem?_getD]
  rw [set_getT hk]
  split <;> rfl
/-- One more step, not yet written down in the row of workers. -/
theorem Shop.step {M3 : AM} {u : Value} {k : Nat} {w : Wk} {s : Stp} (h : Shop m ow M bk bk2 B av al wv wl cs ws) (hw : ws[k]? = some w) (hr : Row M3 (m.length + 2) 8 u (stc w.st ++ s.c) (w.st.length + 1))
    (hl : M.length ≤ M3.length) (hk : ∀ j, j < M.length → NotOf w.sv j → M3[j]? = M[j]?) (hk2 : ∀ j, j < M.length → NotOf w.sv j → NotOf u j) : Shop m (asg ow M.length 1) M3 bk bk2 B av al wv wl cs (ws.set k ⟨w.ck, u, w.st ++ [s]⟩) := by
  have hkl := (List.getElem?_eq_some_iff.1 hw).1
  have e0 : (ws.getD k default) = w := by rw [List.getD_eq_getElem?_getD, hw]; rfl
  have e1 : ((ws.set k ⟨w.ck, u, w.st ++ [s]⟩).getD k default) = ⟨w.ck, u, w.st ++ [s]⟩ := by rw [getD_set_wk hkl, if_pos rfl]
  refine h.turn (k + 2) ?_ hl ?_ ?_ fun j hj => ?_
  · show Row M3 (m.length + 2) 8 ((ws.set k _).getD k default).sv (stc ((ws.set k _).getD k default).st) ((ws.set k _).getD k default).st.length
    rw [e1]
    show Row M3 _ 8 u (stc (w.st ++ [s])) (w.st ++ [s]).length
    rw [List.length_append, List.length_singleton, stc, List.flatMap_append, List.flatMap_cons, List.flatMap_nil, List.append_nil]
    exact hr
  · show ∀ j, j < M.length → NotOf (ws.getD k default).sv j → _
    rw [e0]; exact hk
  · show ∀ j, j < M.length → NotOf (ws.getD k default).sv j → NotOf ((ws.set k _).getD k default).sv j
    rw [e0, e1]; exact hk2
  · rcases j with _ | _ | j
    · exact ⟨rfl, rfl, by show (ws.set k _).length = ws.length; rw [List.length_set]⟩
    · exact ⟨rfl, rfl, rfl⟩
    · have e2 : (ws.set k ⟨w.ck, u, w.st ++ [s]⟩).getD j default = ws.getD j default := by rw [getD_set_wk hkl, if_neg (by omega)]
      exact ⟨by show Wk.sv _ = Wk.sv _; rw [e2], by show stc (Wk.st _) = stc (Wk.st _); rw [e2], by show (Wk.st _).length = (Wk.st _).length; rw [e2]⟩
/-- The row of workers is written. -/
theorem Shop.wrote {M3 : AM} {al' : List Value} (h : Shop m ow M bk bk2 B av al wv wl cs ws) (hr : Row M3 (m.length + 2) 2 av al' ws.length) (hl : M.length ≤ M3.length) (hk : ∀ j, j < M.length → NotOf av j → M3[j]? = M[j]?) : Shop m (asg ow M.length 1) M3 bk bk2 B av al' wv wl cs ws := by
  refine h.turn 0 hr hl hk (fun _ _ h => h) fun k hk => ?_
  rcases k with _ | _ | k
  · exact absurd rfl hk
  · exact ⟨rfl, rfl, rfl⟩
  · exact ⟨rfl, rfl, rfl⟩
/-- One more post. -/
theorem Shop.done {M3 : AM} {u sl : Value} (h : Shop m ow M bk bk2 B av al wv wl cs ws) (hr : Row M3 (m.length + 2) 1 u (wl ++ [sl]) (wl.length + 1)) (hl : M.length ≤ M3.length) (hk : ∀ j, j < M.length → NotOf wv j → M3[j]? = M[j]?) (hk2 : ∀ j, j < M.length → NotOf wv j → NotOf u j) :
    Shop m (asg ow M.length 1) M3 bk bk2 B av al u (wl ++ [sl]) cs ws := by
  refine h.turn 1 ?_ hl hk hk2 fun k hk => ?_
  · show Row M3 (m.length + 2) 1 u (wl ++ [sl]) (wl ++ [sl]).length
    rw [List.length_append]
    exact hr
  · rcases k with _ | _ | k
    · exact ⟨rfl, rfl, rfl⟩
    · exact absurd rfl hk
    · exact ⟨rfl, rfl, rfl⟩
end
/-- What the book, the clerks and the rows tell (plain). -/
structure Tale (B : Bk) (wl : List Value) (cs : List (Nat × Option Ck)) (ws : List Wk) : Prop where
  built : Built B
  len : wl.length = B.P.length
  same : cs.length = ws.length
  ck : ∀ (k : Nat) (w : Wk), ws[k]? = some w → ∃ o, cs[k]? = some (w.ck, o)
  run : ∀ (k : Nat) (w : Wk) (ck : Nat) (K : Ck), ws[k]? = some w → cs[k]? = some (ck, some K) → OKK K ∧ K.at_ ≤ B.P.length ∧ Ran ⟨K.at_, (bkP (B.P.take K.at_)).H, [], [], false⟩ w.st K
  rec_ : ∀ i, i < B.P.length → wl.getD i default = .slice none 0 0 ∨ ∃ (k : Nat) (w : Wk) (ck : Nat) (K : Ck) (a : Nat), ws[k]? = some w ∧ cs[k]? = some (ck, none) ∧ wl.getD i default = w.sv ∧ a ≤ i ∧ Ran ⟨a, (bkP (B.P.take a)).H, [], [], false⟩ w.st K ∧ stale K (bkP (B.P.take i)) = false ∧ (∀ x ∈ K.seen, inB x.1 x.2 = true) ∧ K.mv = B.P.getD i []
section
variable {B : Bk} {wl : List Value} {cs : List (Nat × Option Ck)} {ws : List Wk}
theorem Tale.new : Tale Bk.new [] [] [] := ⟨.new, rfl, rfl, fun k w h => by simp at h, fun k w ck K h => by simp at h, fun i h => absurd h (Nat.not_lt_zero _)⟩
theorem Tale.hire (h : Tale B wl cs ws) (c : Nat) : Tale B wl (cs ++ [(c, some ⟨B.P.length, B.H, [], [], false⟩)]) (ws ++ [⟨c, .slice none 0 0, []⟩]) := by
  have old : ∀ (k : Nat) (w : Wk), ws[k]? = some w → (ws ++ [(⟨c, .slice none 0 0, []⟩ : Wk)])[k]? = some w := fun k w hw => by rw [List.getElem?_append_left (List.getElem?_eq_some_iff.1 hw).1]; exact hw
  have oldc : ∀ (k : Nat) x, cs[k]? = some x → (cs ++ [(c, some (⟨B.P.length, B.H, [], [], false⟩ : Ck))])[k]? = some x := fun k w hw => by rw [List.getElem?_append_left (List.getElem?_eq_some_iff.1 hw).1]; exact hw
  have inv : ∀ (k : Nat) (w : Wk), (ws ++ [(⟨c, .slice none 0 0, []⟩ : Wk)])[k]? = some w → ws[k]? = some w ∧ k < ws.length ∨ k = ws.length ∧ w = ⟨c, .slice none 0 0, []⟩ := fun k w hw => by
    rcases Nat.lt_or_ge k ws.length with hl | hl
    · rw [List.getElem?_append_left hl] at hw; exact .inl ⟨hw, hl⟩
    · have := (List.getElem?_eq_some_iff.1 hw).1
      rw [List.length_append, List.length_singleton] at this
      obtain rfl : k = ws.length := by omega
      rw [List.getElem?_append_right (Nat.le_refl _), Nat.sub_self] at hw
      simp at hw
      exact .inr ⟨rfl, hw.symm⟩
  refine ⟨h.built, h.len, by simp [h.same], fun k w hw => ?_, fun k w ck K hw hc => ?_, fun i hi => ?_⟩
  · rcases inv k w hw with ⟨hw, _⟩ | ⟨rfl, rfl⟩
    · obtain ⟨o, ho⟩ := h.ck k w hw
      exact ⟨o, oldc _ _ ho⟩
    · exact ⟨_, by rw [← h.same, List.getElem?_append_right (Nat.le_refl _), Nat.sub_self]; rfl⟩
  · rcases inv k w hw with ⟨hw, hl⟩ | ⟨rfl, rfl⟩
    · rw [List.getElem?_append_left (by rw [h.same]; exact hl)] at hc
      exact h.run k w ck K hw hc
    · rw [← h.same, List.getElem?_append_right (Nat.le_refl _), Nat.sub_self] at hc
      simp at hc
      obtain ⟨_, rfl⟩ := hc
      refine ⟨⟨rfl, Nat.zero_le _, rfl, h.built.good.bd.le (by simp), fun x hx => absurd hx List.not_mem_nil⟩, Nat.le_refl _, ?_⟩
      show Ran ⟨B.P.length, (bkP (B.P.take B.P.length)).H, [], [], false⟩ [] _
      rw [List.take_of_length_le (Nat.le_refl _), h.built.eq]
      exact Ran.nil _
  · rcases h.rec_ i hi with e | ⟨k, w, ck, K, a, q1, q2, q3⟩
    · exact .inl e
    · exact .inr ⟨k, w, ck, K, a, old _ _ q1, oldc _ _ q2, q3⟩
/-- A step of a clerk at work. -/
theorem Tale.step (h : Tale B wl cs ws) {k ck : Nat} {K : Ck} {w : Wk} {s : Stp} (hw : ws[k]? = some w) (hc : cs[k]? = some (ck, some K)) (hs : okS K s) (hok : OKK (goS K s)) (u : Value) : Tale B wl (cs.set k (ck, some (goS K s))) (ws.set k ⟨w.ck, u, w.st ++ [s]⟩) := by
  have hkw := (List.getElem?_eq_some_iff.1 hw).1
  have hkc := (List.getElem?_eq_some_iff.1 hc).1
  have eck : ck = w.ck := by
    obtain ⟨o, ho⟩ := h.ck k w hw
    rw [hc] at ho
    injection ho with ho
    injection ho
  refine ⟨h.built, h.len, by simp [h.same], fun j w' hw' => ?_, fun j w' ck' K' hw' hc' => ?_, fun i hi => ?_⟩
  · rw [set_getT hkw] at hw'
    rw [set_getT hkc]
    by_cases e : j = k
    · rw [if_pos e] at hw' ⊢
      injection hw' with hw'
      subst hw'
      exact ⟨_, by rw [eck]⟩
    · rw [if_neg e] at hw' ⊢
      exact h.ck j w' hw'
  · rw [set_getT hkw] at hw'
    rw [set_getT hkc] at hc'
    by_cases e : j = k
    · rw [if_pos e] at hw' hc'
      injection hw' with hw'
      injection hc' with hc'
      injection hc' with _ hc'
      injection hc' with hc'
      subst hw' hc'
      obtain ⟨r1, r2, r3⟩ := h.run k w ck K hw hc
      rw [(goS_same K s).1]
      exact ⟨hok, r2, r3.snoc hs⟩
    · rw [if_neg e] at hw' hc'
      exact h.run j w' ck' K' hw' hc'
  · rcases h.rec_ i hi with e | ⟨j, w', ck', K', a, q1, q2, q3⟩
    · exact .inl e
    · have e : j ≠ k := fun e => by rw [e, hc] at q2; injection q2 with q2; injection q2 with _ q2; cases q2
      exact .inr ⟨j, w', ck', K', a, by rw [set_getT hkw, if_neg e]; exact q1, by rw [set_getT hkc, if_neg e]; exact q2, q3⟩
/-- A clerk is done. -/
theorem Tale.close (h : Tale B wl cs ws) {k ck : Nat} {o : Option Ck} (hc : cs[k]? = some (ck, o)) : Tale B wl (cs.set k (ck, none)) ws := by
  have hkc := (List.getElem?_eq_some_iff.1 hc).1
  refine ⟨h.built, h.len, by simp [h.same], fun j w' hw' => ?_, fun j w' ck' K' hw' hc' => ?_, fun i hi => ?_⟩
  · obtain ⟨o', ho'⟩ := h.ck j w' hw'
    rw [set_getT hkc]
    by_cases e : j = k
    · rw [if_pos e]
      rw [e, hc] at ho'
      injection ho' with ho'
      injection ho' with e1 _
      exact ⟨none, by rw [e1]⟩
    · rw [if_neg e]; exact ⟨o', ho'⟩
  · rw [set_getT hkc] at hc'
    by_cases e : j = k
    · rw [if_pos e] at hc'
      injection hc' with hc'
      injection hc' with _ hc'
      cases hc'
    · rw [if_neg e] at hc'
      exact h.run j w' ck' K' hw' hc'
  · rcases h.rec_ i hi with e | ⟨j, w', ck', K', a, q1, q2, q3⟩
    · exact .inl e
    · refine .inr ⟨j, w', ck', K', a, q1, ?_, q3⟩
      rw [set_getT hkc]
      by_cases e : j = k
      · rw [if_pos e]
        rw [e, hc] at q2
        injection q2 with q2
        injection q2 with q2 _
        rw [q2]
      · rw [if_neg e]; exact q2
theorem take_app {α : Type} {P : List α} {k : Nat} (h : k ≤ P.length) (l : List α) : (P ++ l).take k = P.take k := by rw [List.take_append_of_le_length h]
/-- One more post. -/
theorem Tale.grow (h : Tale B wl cs ws) {l : List Tr} (hz : (postF B l).2.2 = 0) (sl : Value) (hn : sl = .slice none 0 0 ∨ ∃ (k : Nat) (w : Wk) (ck : Nat) (K : Ck) (a : Nat), ws[k]? = some w ∧ cs[k]? = some (ck, none) ∧ sl = w.sv ∧ a ≤ B.P.length ∧ Ran ⟨a, (bkP (B.P.take a)).H, [], [], false⟩ w.st K ∧ stale K B = false ∧ (∀ x ∈ K.seen, inB x.1 x.2 = true) ∧ K.mv = l) :
    Tale (postF B l).1 (wl ++ [sl]) cs ws := by
  have hP := (postF_zero hz).2
  have hl := h.len
  refine ⟨.post h.built hz, by rw [hP]; simp [hl], h.same, h.ck, fun j w' ck' K' hw' hc' => ?_, fun i hi => ?_⟩
  · obtain ⟨r1, r2, r3⟩ := h.run j w' ck' K' hw' hc'
    rw [hP, List.length_append, take_app r2]
    exact ⟨r1, by omega, r3⟩
  · rw [hP, List.length_append, List.length_singleton] at hi
    rw [hP]
    rcases Nat.lt_or_ge i B.P.length with hlt | hge
    · have e1 : (wl ++ [sl]).getD i default = wl.getD i default := by simp only [List.getD_eq_getElem?_getD]; rw [List.getElem?_append_left (by omega)]
      have e2 : (B.P ++ [l]).getD i [] = B.P.getD i [] := by simp only [List.getD_eq_getElem?_getD]; rw [List.getElem?_append_left hlt]
      rw [e1, e2, take_app (by omega)]
      rcases h.rec_ i hlt with e | ⟨j, w', ck', K', a, q1, q2, q3, q4, q5, q6⟩
      · exact .inl e
      · exact .inr ⟨j, w', ck', K', a, q1, q2, q3, q4, by rw [take_app (by omega)]; exact q5, q6⟩
    · obtain rfl : i = B.P.length := by omega
      have e1 : (wl ++ [sl]).getD B.P.length default = sl := by rw [← hl]; simp
      have e2 : (B.P ++ [l]).getD B.P.length [] = l := by simp
      rw [e1, e2, take_app (Nat.le_refl _), List.take_of_length_le (Nat.le_refl _), h.built.eq]
      rcases hn with e | ⟨j, w', ck', K', a, q1, q2, q3, q4, q5, q6⟩
      · exact .inl e
      · exact .inr ⟨j, w', ck', K', a, q1, q2, q3, q4, by rw [take_app q4]; exact q5, q6⟩
/-- Commit: one more post or none. -/
theorem Tale.commit (h : Tale B wl cs ws) {k ck : Nat} {o : Option Ck} {w : Wk} (hw : ws[k]? = some w) (hc : cs[k]? = some (ck, o)) :
    (cmR o B).1 = 0 ∧ Tale (cmB o B) wl (cs.set k (ck, none)) ws ∨ (cmR o B).1 = ((cmB o B).P.length : Int) ∧ (cmB o B).P.length = wl.length + 1 ∧ Tale (cmB o B) (wl ++ [w.sv]) (cs.set k (ck, none)) ws := by
  have hcl := h.close hc
  cases o with
  | none => exact .inl ⟨rfl, hcl⟩
  | some K =>
    simp only [cmR, cmB]
    unfold coF
    split
    · exact .inl ⟨rfl, hcl⟩
    · split
      · exact .inl ⟨rfl, hcl⟩
      · rename_i hst
        by_cases hz : (postF B K.mv).2.2 = 0
        · obtain ⟨r1, r2, r3⟩ := h.run k w ck K hw hc
          have hP := (postF_zero hz).2
          refine .inr ⟨by rw [postF_num hz, hP]; simp, by rw [hP]; simp [h.len], hcl.grow hz w.sv (.inr ⟨k, w, ck, K, K.at_, hw, by rw [set_getT (List.getElem?_eq_some_iff.1 hc).1, if_pos rfl], rfl, r2, r3, by rw [← Bool.not_eq_true]; exact hst, r1.seen, rfl⟩)⟩
        · obtain ⟨e1, e2⟩ := postF_bad hz
          exact .inl ⟨e2, by rw [e1]; exact hcl⟩
theorem Tale.post (h : Tale B wl cs ws) (l : List Tr) :
    (postF B l).2.1 = 0 ∧ Tale (postF B l).1 wl cs ws ∨ (postF B l).2.1 = ((postF B l).1.P.length : Int) ∧ (postF B l).1.P.length = wl.length + 1 ∧ Tale (postF B l).1 (wl ++ [.slice none 0 0]) cs ws := by
  by_cases hz : (postF B l).2.2 = 0
  · have hP := (postF_zero hz).2
    exact .inr ⟨by rw [postF_num hz, hP]; simp, by rw [hP]; simp [h.len], h.grow hz _ (.inl rfl)⟩
  · obtain ⟨e1, e2⟩ := postF_bad hz
    exact .inl ⟨e2, by rw [e1]; exact h⟩
end
end Go.Proofs.Ytabdnepfcohncaa.Abs
namespace Go.Proofs.Ytabdnepfcohncaa.Abs
set_option linter.unusedSimpArgs false
set_option linter.unusedVariables false
open Go.RowKit
open Go.Proofs.Ytabdnepfcohncaa.Sim
open Go.Proofs
theorem un72 : Try.prog.underlying 72 = some (.slice 164) := by kernel_rfl
theorem el72 : elemB Try.prog 72 = some (164, 2, 32, #[.pointer none, .slice none 0 0]) := by kernel_rfl
theorem el74 : elemB Try.prog 74 = some (81, 8, 64, #[.bool false, .int .i64 0, .int .i64 0, .int .i64 0, .int .i64 0, .int .i64 0, .int .i64 0, .int .i64 0]) := by kernel_rfl
theorem un74 : Try.prog.underlying 74 = some (.slice 81) := by kernel_rfl
theorem el73 : elemB Try.prog 73 = some (74, 1, 24, #[.slice none 0 0]) := by kernel_rfl
theorem un73 : Try.prog.underlying 73 = some (.slice 74) := by kernel_rfl
theorem bl61z : abuild Try.prog 61 [] = some (.agg #[.int .i64 0, .int .i64 0, .int .i64 0, .int .i64 0]) := by kernel_rfl
theorem bl164 {a : Nat} : abuild Try.prog 164 [(0, .pointer (some ⟨a, 0, none⟩))] = some (.agg #[.pointer (some ⟨a, 0, none⟩), .slice none 0 0]) := by kernel_rfl
theorem bs72 {m : AM} {k a : Nat} : abuildSlice Try.prog m k 72 1 [(0, .agg #[.pointer (some ⟨a, 0, none⟩), .slice none 0 0])] = some (.slice (some ⟨k, 0, none⟩) 1 1, m.set k (some { cells := [.pointer (some ⟨a, 0, none⟩), .slice none 0 0] })) := by kernel_rfl
theorem bl81m {a b c d : Int} : abuild Try.prog 81 [(4, .agg #[.int .i64 a, .int .i64 b, .int .i64 c, .int .i64 d])] = some (.agg #[.bool false, .int .i64 0, .int .i64 0, .int .i64 0, .int .i64 a, .int .i64 b, .int .i64 c, .int .i64 d]) := by kernel_rfl
theorem bl81r {p i n a b c d : Int} : abuild Try.prog 81 [(0, .bool true), (1, .int .i64 p), (2, .int .i64 i), (3, .int .i64 n), (4, .agg #[.int .i64 a, .int .i64 b, .int .i64 c, .int .i64 d])] = some (.agg #[.bool true, .int .i64 p, .int .i64 i, .int .i64 n, .int .i64 a, .int .i64 b, .int .i64 c, .int .i64 d]) := by kernel_rfl
theorem bs74 {m : AM} {k : Nat} {r : Bool} {p i n a b c d : Int} : abuildSlice Try.prog m k 74 1 [(0, .agg #[.bool r, .int .i64 p, .int .i64 i, .int .i64 n, .int .i64 a, .int .i64 b, .int .i64 c, .int .i64 d])] = some (.slice (some ⟨k, 0, none⟩) 1 1, m.set k (some { cells := [.bool r, .int .i64 p, .int .i64 i, .int .i64 n, .int .i64 a, .int .i64 b, .int .i64 c, .int .i64 d] })) := by kernel_rfl
theorem Ren.trv {ρ : Nat → Nat} {n : Nat} (x : Tr) : Ren ρ n x.v x.v := .agg _ _ rfl fun i hi => by
  simp at hi
  rcases (show i = 0 ∨ i = 1 ∨ i = 2 ∨ i = 3 by omega) with rfl | rfl | rfl | rfl <;> exact .int _ _
set_option maxHeartbeats 4000000 in
set_option maxRecDepth 100000 in
theorem One_ok {m : AM} {v : Value} {x : Deed} (h : Trs m v x.l) (hle : x.l.length ≤ 9223372036854775807) : ACall Try.prog 100 #[.agg #[.int .i64 x.kd, .int .i64 x.who, .int .i64 x.n, .int .i64 x.m, v]] m (Ret (x.l.headD default).v m) := by
  refine ACall.drop (Ren.trv _) ?_
  obtain ⟨a, o, h1, h2, h3⟩ := h
  have hw1 : (Value.agg #[.int .i64 x.kd, .int .i64 x.who, .int .i64 x.n, .int .i64 x.m, v]).cells.all (·.oneCell') = true := Deed.one (x := x) h1
  refine ACall.start Try.func100 rfl rfl ?_
  by_cases c : x.l.length = 0
  · (repeat (first | (with_reducible refine AWo.cons ?_) | ((with_reducible refine Step.id ?_); first | ((with_reducible apply Step.load); exact rfl; (focus (decide +kernel)); exact rfl; (focus (exact Rd.new rfl rfl))) | ((with_reducible apply Step.field (k := 4)); exact rfl; (focus (decide +kernel)); exact rfl) | ((with_reducible apply Step.eql); exact rfl; exact rfl; exact rfl) | ((with_reducible apply Step.len); exact rfl; (focus (assumption)); (focus (decide +kernel)); exact rfl) | ((with_reducible apply Step.box 0); exact rfl; exact rfl; (focus (first | assumption | exact hw1)); exact rfl; (focus (first | (simp only [List.nil_append, List.cons_append, List.set_cons_zero, List.set_cons_succ, iv_set, bv_set, iv_rep, bv_rep]; done) | (simp only [List.nil_append, List.cons_append, List.set_cons_zero, List.set_cons_succ, iv_set, bv_set, iv_rep, bv_rep]; rfl) | rfl))) | ((with_reducible apply Step.alloc 1); exact rfl; exact ze61; exact rfl; (focus (first | (simp only [List.nil_append, List.cons_append, List.set_cons_zero, List.set_cons_succ, iv_set, bv_set, iv_rep, bv_rep]; done) | (simp only [List.nil_append, List.cons_append, List.set_cons_zero, List.set_cons_succ, iv_set, bv_set, iv_rep, bv_rep]; rfl) | rfl))) | ((with_reducible apply Step.storeA (k := 1) (n := 4)); exact rfl; exact rfl; exact rfl; exact rfl; (focus (decide +kernel)); exact rfl; (focus (kernel_rfl)); exact rfl; (focus (first | (simp only [List.nil_append, List.cons_append, List.set_cons_zero, List.set_cons_succ, iv_set, bv_set, iv_rep, bv_rep]; done) | (simp only [List.nil_append, List.cons_append, List.set_cons_zero, List.set_cons_succ, iv_set, bv_set, iv_rep, bv_rep]; rfl) | rfl))) | ((with_reducible apply Step.build); exact rfl; exact bl61z; exact rfl)) | (with_reducible refine AWo.nil ?_) | ((with_reducible apply AW.seq)) | ((with_reducible apply Then.n)) | ((with_reducible apply AW.regL)) | ((with_reducible apply AW.condT); exact rfl; (focus ((simp only [decide_eq_true_eq, decide_eq_false_iff_not, Bool.not_eq_true', Bool.not_eq_false', Bool.not_true, Bool.not_false]; first | assumption | omega))))))
    have e : x.l = [] := List.eq_nil_of_length_eq_zero c
    rw [e]
    (refine AW.ret ?_; (repeat (first | refine Then.r ?_ | refine InBlk.r ?_)))
    exact ⟨_, ares_cell rfl rfl (by decide +kernel) (n := 4) (by decide +kernel) (RdL.new rfl rfl) rfl rfl, rfl, _, rfl⟩
  · have r0 := (h3 0 (by omega))
    have e : x.l.headD default = x.l.getD 0 default := by cases x.l <;> rfl
    rw [e]
    generalize x.l.getD 0 default = y at *
    obtain ⟨yi, yf, yt, yn⟩ := y
    have r0 := fun T => r0.old T
    simp only [Tr.c] at r0
    (repeat (first | (with_reducible refine AWo.cons ?_) | ((with_reducible refine Step.id ?_); first | ((with_reducible apply Step.load); exact rfl; (focus (decide +kernel)); exact rfl; (focus (exact Rd.new rfl rfl))) | ((with_reducible apply Step.field (k := 4)); exact rfl; (focus (decide +kernel)); exact rfl) | ((with_reducible apply Step.eql); exact rfl; exact rfl; exact rfl) | ((with_reducible apply Step.len); exact rfl; (focus (assumption)); (focus (decide +kernel)); exact rfl) | ((with_reducible apply Step.box 0); exact rfl; exact rfl; (focus (first | assumption | exact hw1)); exact rfl; (focus (first | (simp only [List.nil_append, List.cons_append, List.set_cons_zero, List.set_cons_succ, iv_set, bv_set, iv_rep, bv_rep]; done) | (simp only [List.nil_append, List.cons_append, List.set_cons_zero, List.set_cons_succ, iv_set, bv_set, iv_rep, bv_rep]; rfl) | rfl))) | ((with_reducible apply Step.alloc 1); exact rfl; exact ze61; exact rfl; (focus (first | (simp only [List.nil_append, List.cons_append, List.set_cons_zero, List.set_cons_succ, iv_set, bv_set, iv_rep, bv_rep]; done) | (simp only [List.nil_append, List.cons_append, List.set_cons_zero, List.set_cons_succ, iv_set, bv_set, iv_rep, bv_rep]; rfl) | rfl)))) | (with_reducible refine AWo.nil ?_) | ((with_reducible apply AW.seq)) | ((with_reducible apply Then.n)) | ((with_reducible apply AW.regL)) | ((with_reducible apply AW.skip)) | ((with_reducible apply AW.condF); exact rfl; (focus ((simp only [decide_eq_true_eq, decide_eq_false_iff_not, Bool.not_eq_true', Bool.not_eq_false', Bool.not_true, Bool.not_false]; first | assumption | omega))))))
    ((with_reducible apply Step.ixZ (s := 4) 0); exact rfl; exact h1; exact rfl; exact rfl; (focus (decide +kernel)); exact rfl; (focus (omega)))
    (repeat (first | (with_reducible refine AWo.cons ?_) | ((with_reducible refine Step.id ?_); first | ((with_reducible apply Step.loadL (n := 4)); exact rfl; (focus (decide +kernel)); (focus (decide +kernel)); exact rfl; (focus (exact RdL.old _ (by assumption))); exact rfl; exact rfl) | ((with_reducible apply Step.storeA (k := 1) (n := 4)); exact rfl; exact rfl; exact rfl; exact rfl; (focus (decide +kernel)); exact rfl; (focus (kernel_rfl)); exact rfl; (focus (first | (simp only [List.nil_append, List.cons_append, List.set_cons_zero, List.set_cons_succ, iv_set, bv_set, iv_rep, bv_rep]; done) | (simp only [List.nil_append, List.cons_append, List.set_cons_zero, List.set_cons_succ, iv_set, bv_set, iv_rep, bv_rep]; rfl) | rfl)))) | (with_reducible refine AWo.nil ?_) | ((with_reducible apply Then.n))))
    (refine AW.ret ?_; (repeat (first | refine Then.r ?_ | refine InBlk.r ?_)))
    exact ⟨_, ares_cell rfl rfl (by decide +kernel) (n := 4) (by decide +kernel) (RdL.new rfl rfl) rfl rfl, rfl, _, rfl⟩
theorem Row.rd {M : AM} {b0 s : Nat} {u : Value} {c : List Value} {n a q : Nat} {v : Value} (h : Row M b0 s u c n) (hs : Sl u a 0 n) (hn : 0 < n) (hv : c[q]? = some v) (T : AM) : Rd (M ++ T) a q v := by
  obtain ⟨a', kd, sz, q1, q2, q3, q4⟩ := h.pos hn
  refine Rd.old T ⟨{ cells := c, kind := kd, size := sz }, ?_, hv⟩
  rcases hs with ⟨_, e⟩ | ⟨c', _, e⟩ | ⟨e, _⟩
  · omega
  · rw [q3] at e
    simp only [Value.slice.injEq, Option.some.injEq, Addr.mk.injEq] at e
    rw [← e.1.1]
    exact q4
  · omega
theorem Row.at0 {M : AM} {b0 s : Nat} {u : Value} {c : List Value} {n a : Nat} (h : Row M b0 s u c n) (hs : Sl u a 0 n) (hn : 0 < n) : ∃ kd sz, M[a]? = some (some { cells := c, kind := kd, size := sz }) ∧ kd.solid = true ∧ a < M.length ∧ ¬ NotOf u a ∧ ∀ c', c'.length = c.length → Row (M.set a (some { cells := c', kind := kd, size := sz })) b0 s u c' n := by
  rcases h with ⟨_, _, e⟩ | ⟨a', kd, sz, q1, q2, q3, q4, q5⟩
  · omega
  · have e : a' = a := by
      rcases hs with ⟨_, e⟩ | ⟨c', _, e⟩ | ⟨e, _⟩
      · omega
      · rw [q2] at e
        simp only [Value.slice.injEq, Option.some.injEq, Addr.mk.injEq] at e
        exact e.1.1
      · omega
    subst e
    have hl := (List.getElem?_eq_some_iff.1 q3).1
    exact ⟨kd, sz, q3, by rcases q5 with rfl | ⟨rfl, _⟩ <;> rfl, hl, fun hn => hn _ _ q2, fun c' hc => .inr ⟨a', kd, sz, q1, q2, List.getElem?_set_self hl, by rw [hc]; exact q4, q5⟩⟩
theorem moE_cases {o : Option Ck} (x : Tr) (ho : ∀ K, o = some K → OKK K) : moE o x ≠ 0 ∧ moO o x = o ∨ moE o x = 0 ∧ ∃ K, o = some K ∧ okS K ⟨false, 0, 0, 0, x⟩ ∧ moO o x = some (goS K ⟨false, 0, 0, 0, x⟩) ∧ OKK (goS K ⟨false, 0, 0, 0, x⟩) := by
  cases o with
  | none => exact .inl ⟨show ¬ ((9 : Int) = 0) by decide, rfl⟩
  | some K =>
    have hK := ho K rfl
    have hm := hK.moF x
    simp only [moE, moO, Option.map_some]
    unfold moF at hm ⊢
    rw [if_neg (by rw [hK.dn]; simp)] at hm ⊢
    split
    · rename_i h1
      rw [if_pos h1] at hm
      split
      · exact .inl ⟨show ¬ ((3 : Int) = 0) by decide, rfl⟩
      · rename_i h2
        rw [if_neg h2] at hm
        exact .inr ⟨rfl, K, rfl, .inr ⟨rfl, h1, by omega⟩, rfl, hm⟩
    · exact .inl ⟨show ¬ ((2 : Int) = 0) by decide, rfl⟩
theorem heR_cases {o : Option Ck} (p i : Nat) (hp : p < 16) (hi : i < 16) (x : Tr) (ho : ∀ K, o = some K → OKK K) : heR o p i = (0, 9) ∧ heO o p i = o ∨ ∃ K, o = some K ∧ heR o p i = (K.V.getD (p * 16 + i) 0, 0) ∧ okS K ⟨true, p, i, K.V.getD (p * 16 + i) 0, x⟩ ∧ heO o p i = some (goS K ⟨true, p, i, K.V.getD (p * 16 + i) 0, x⟩) ∧ OKK (goS K ⟨true, p, i, K.V.getD (p * 16 + i) 0, x⟩) := by
  cases o with
  | none => exact .inl ⟨rfl, rfl⟩
  | some K =>
    have hK := ho K rfl
    obtain ⟨e1, e2⟩ := heO_in hK hp hi
    have hm := hK.chF (p : Int) (i : Int)
    rw [chF_in hK hp hi] at hm
    exact .inr ⟨K, rfl, e1, .inl ⟨rfl, hp, hi, rfl⟩, by rw [e2]; rfl, hm⟩
set_option maxHeartbeats 32000000 in
set_option maxRecDepth 100000 in
theorem Works_ok {m : AM} {ow : Nat → Nat} {M : AM} {bk bk2 : Nat} {B : Bk} {av wv : Value} {wl : List Value} {cs : List (Nat × Option Ck)} {ws : List Wk} (h : Shop m ow M bk bk2 B av (wkc ws) wv wl cs ws) (hT : Tale B wl cs ws) (hn : ws.length ≤ 100) (hp : B.P.length ≤ 100) {L : Nat} (hL : L ≤ 100) (hst : ∀ k, (ws.getD k default).st.length ≤ L) {x : Deed} {w : Value} (hd : Trs m w x.l) (hle : x.l.length ≤ 9223372036854775807) :
    ACall Try.prog 38 #[.pointer (some ⟨bk, 0, none⟩), av, .agg #[.int .i64 x.kd, .int .i64 x.who, .int .i64 x.n, .int .i64 x.m, w]] M (fun r M2 => ∃ ow2 u n sl B2 cs2 ws2, r = .tuple #[u, .int .i64 n, sl] ∧ M.length ≤ M2.length ∧ Shop m ow2 M2 bk bk2 B2 u (wkc ws2) wv wl cs2 ws2 ∧ ws2.length ≤ ws.length + 1 ∧ (∀ k, (ws2.getD k default).st.length ≤ L + 1) ∧ B2.P.length ≤ B.P.length + 1 ∧
      (n = 0 ∧ Tale B2 wl cs2 ws2 ∨ n = (B2.P.length : Int) ∧ B2.P.length = wl.length + 1 ∧ Tale B2 (wl ++ [sl]) cs2 ws2)) := by
  have hdM := hd.sub h.side.sub
  have hone := fun T => One_ok (hdM.old T) hle
  have hw1 : (Value.agg #[.int .i64 x.kd, .int .i64 x.who, .int .i64 x.n, .int .i64 x.m, w]).cells.all (·.oneCell') = true := by obtain ⟨aa, oo, hs, _⟩ := hd; exact Deed.one (x := x) hs
  have hrA := h.row 0
  obtain ⟨aa, hav, haX, hrd⟩ := hrA.sl (by have := h.big; omega)
  change Sl av aa 0 ws.length at hav
  change 0 < ws.length → RdL M aa 0 (wkc ws) at hrd
  obtain ⟨n, hn9, en⟩ := mod_in x.kd 9 (by omega) (by omega)
  obtain ⟨X, hX⟩ : ∃ X : AM, X = M ++ [some { cells := (Value.agg #[.int .i64 x.kd, .int .i64 x.who, .int .i64 x.n, .int .i64 x.m, w]).cells.toList }] := ⟨_, rfl⟩
  have hSX : Shop m (asg ow M.length 1) X bk bk2 B av (wkc ws) wv wl cs ws := by rw [hX]; exact h.app _ 1
  have hXl : X.length = M.length + 1 := by rw [hX, List.length_append]; rfl
  have rq : ∀ (T : AM) (j : Nat) (y : Value), (x.cells w)[j]? = some y → Rd (X ++ T) (M.length + 0) j y := fun T j y hj => Rd.old T ⟨{ cells := x.cells w }, by rw [hX, get_app]; rfl, hj⟩
  have hG := hT.built.good
  refine ACall.start Try.func38 rfl rfl ?_
  by_cases c0 : ws.length = 0
  · (repeat (first | (with_reducible refine AWo.cons ?_) | ((with_reducible refine Step.id ?_); first | ((with_reducible apply Step.gdF); exact rfl; exact rfl; (focus ((simp only [decide_eq_true_eq, decide_eq_false_iff_not, Bool.not_eq_true', Bool.not_eq_false', Bool.not_true, Bool.not_false]; first | assumption | omega)))) | ((with_reducible apply Step.move); exact rfl; exact rfl) | ((with_reducible apply Step.assign); exact rfl; exact rfl) | ((with_reducible apply Step.eql); exact rfl; exact rfl; exact rfl) | ((with_reducible apply Step.len); exact rfl; (focus (assumption)); (focus (decide +kernel)); exact rfl) | ((with_reducible apply Step.pickT); exact rfl; exact rfl; exact rfl; exact rfl; (focus ((simp only [decide_eq_true_eq, decide_eq_false_iff_not, Bool.not_eq_true', Bool.not_eq_false', Bool.not_true, Bool.not_false]; first | assumption | omega)))) | ((with_reducible apply Step.box 0); exact rfl; exact rfl; (focus (first | assumption | exact hw1)); exact rfl; (focus (first | (simp only [List.nil_append, List.cons_append, List.set_cons_zero, List.set_cons_succ, iv_set, bv_set, iv_rep, bv_rep]; done) | (simp only [List.nil_append, List.cons_append, List.set_cons_zero, List.set_cons_succ, iv_set, bv_set, iv_rep, bv_rep]; rfl) | rfl)))) | (with_reducible refine AWo.nil ?_) | ((with_reducible apply AW.seq)) | ((with_reducible apply Then.n)) | ((with_reducible apply AW.regL)) | ((with_reducible apply AW.condT); exact rfl; (focus (rfl)))))
    rw [← hX]
    rw [← List.append_nil X]
    (repeat ((with_reducible refine AWo.cons ?_)))
    ((with_reducible apply Step.callF fit); exact rfl; exact Try.func30; exact rfl; exact rfl; (focus (rw [List.append_nil]; exact hSX.side.begin)))
    rintro r2 M2 ⟨ow2, rfl, hl2, hk2, hS2⟩
    have hS2 := hSX.call hl2 hk2 hS2
    have hr2 := hS2.row 0
    have hbg := hS2.big
    rw [← List.append_nil M2]
    (repeat (first | (with_reducible refine AWo.cons ?_) | ((with_reducible refine Step.id ?_); first | ((with_reducible apply Step.buildS 0); exact rfl; exact rfl; exact (fun _ _ => bs72); exact rfl; (focus (first | (simp only [List.nil_append, List.cons_append, List.set_cons_zero, List.set_cons_succ, iv_set, bv_set, iv_rep, bv_rep]; done) | (simp only [List.nil_append, List.cons_append, List.set_cons_zero, List.set_cons_succ, iv_set, bv_set, iv_rep, bv_rep]; rfl) | rfl))) | ((with_reducible apply Step.build); exact rfl; exact bl164; exact rfl))))
    ((with_reducible apply Step.appRow2 (n := ws.length) (xl := 1) (b0 := m.length + 2) (new := [.pointer (some ⟨X.length + 1, 0, none⟩), .slice none 0 0])); exact rfl; exact rfl; exact (hr2.old _); exact (Sl.mk (Nat.le_refl _)); exact (fun _ => RdL.new rfl rfl); exact el72; exact un72; exact rfl; exact rfl; exact rfl; (focus (omega)); exact rfl; (focus (rw [List.length_append]; omega)))
    intro u M3 hr3 hml3 hk3 hk4
    have hS3 := (hS2.app [some { cells := [.pointer (some ⟨X.length + 1, 0, none⟩), .slice none 0 0] }] 1).hire (c := X.length + 1) (M3 := M3) (u := u) hr3 hml3 hk3 hk4
    have hle3 : M.length ≤ M3.length := by rw [List.length_append] at hml3; omega
    (repeat (first | (with_reducible refine AWo.cons ?_) | ((with_reducible refine Step.id ?_); ((with_reducible apply Step.assign); exact rfl; exact rfl)) | (with_reducible refine AWo.nil ?_) | ((with_reducible apply Then.n))))
    (refine AW.ret ?_; (repeat (first | refine Then.r ?_ | refine InBlk.r ?_)))
    exact ⟨_, rfl, _, u, 0, _, B, _, _, rfl, hle3, hS3, by simp, fun k => by rw [(getD_app_new ws _ k).2]; exact Nat.le_succ_of_le (hst k), by omega, .inl ⟨rfl, hT.hire _⟩⟩
  · (repeat (first | (with_reducible refine AWo.cons ?_) | ((with_reducible refine Step.id ?_); first | ((with_reducible apply Step.gdT); exact rfl; exact rfl; (focus ((simp only [decide_eq_true_eq, decide_eq_false_iff_not, Bool.not_eq_true', Bool.not_eq_false', Bool.not_true, Bool.not_false]; first | assumption | omega)))) | ((with_reducible apply Step.move); exact rfl; exact rfl) | ((with_reducible apply Step.assign); exact rfl; exact rfl) | ((with_reducible apply Step.load); exact rfl; (focus (decide +kernel)); exact rfl; (focus (exact Rd.new rfl rfl))) | ((with_reducible apply Step.field0); exact rfl; (focus (decide +kernel)); exact rfl) | ((with_reducible apply Step.eql); exact rfl; exact rfl; exact rfl) | ((with_reducible apply Step.len); exact rfl; (focus (assumption)); (focus (decide +kernel)); exact rfl) | ((with_reducible apply Step.box 0); exact rfl; exact rfl; (focus (first | assumption | exact hw1)); exact rfl; (focus (first | (simp only [List.nil_append, List.cons_append, List.set_cons_zero, List.set_cons_succ, iv_set, bv_set, iv_rep, bv_rep]; done) | (simp only [List.nil_append, List.cons_append, List.set_cons_zero, List.set_cons_succ, iv_set, bv_set, iv_rep, bv_rep]; rfl) | rfl)))) | (with_reducible refine AWo.nil ?_) | ((with_reducible apply AW.seq)) | ((with_reducible apply Then.n)) | ((with_reducible apply AW.regL))))
    ((with_reducible apply Step.conv); exact rfl; exact un3; exact un31; exact rfl; exact rfl)
    (repeat (first | (with_reducible refine AWo.cons ?_) | ((with_reducible refine Step.id ?_); ((with_reducible apply Step.gdT); exact rfl; exact rfl; (focus ((simp only [decide_eq_true_eq, decide_eq_false_iff_not, Bool.not_eq_true', Bool.not_eq_false', Bool.not_true, Bool.not_false]; first | assumption | omega)))))))
    ((with_reducible apply Step.remU); exact rfl; exact rfl; exact (wrapU _); (focus (omega)); exact rfl)
    (repeat (first | (with_reducible refine AWo.cons ?_) | ((with_reducible refine Step.id ?_); ((with_reducible apply Step.gdT); exact rfl; exact rfl; (focus ((simp only [decide_eq_true_eq, decide_eq_false_iff_not, Bool.not_eq_true', Bool.not_eq_false', Bool.not_true, Bool.not_false]; first | assumption | omega)))))))
    ((with_reducible apply Step.conv); exact rfl; exact un31; exact un3; exact en; exact rfl)
    rw [← hX]
    by_cases c2 : n = 2
    · subst c2
      rw [← List.append_nil X]
      (repeat (first | (with_reducible refine AWo.cons ?_) | ((with_reducible refine Step.id ?_); first | ((with_reducible apply Step.gdT); exact rfl; exact rfl; (focus ((simp only [decide_eq_true_eq, decide_eq_false_iff_not, Bool.not_eq_true', Bool.not_eq_false', Bool.not_true, Bool.not_false]; first | assumption | omega)))) | ((with_reducible apply Step.move); exact rfl; exact rfl) | ((with_reducible apply Step.eql); exact rfl; exact rfl; exact rfl) | ((with_reducible apply Step.pickF); exact rfl; exact rfl; exact rfl; exact rfl; (focus ((simp only [decide_eq_true_eq, decide_eq_false_iff_not, Bool.not_eq_true', Bool.not_eq_false', Bool.not_true, Bool.not_false]; first | assumption | omega))))) | (with_reducible refine AWo.nil ?_) | ((with_reducible apply AW.seq)) | ((with_reducible apply Then.n)) | ((with_reducible apply AW.regL)) | ((with_reducible apply AW.condT); exact rfl; (focus (rfl)))))
      ((with_reducible apply Step.callF fit); exact rfl; exact Try.func30; exact rfl; exact rfl; (focus (rw [List.append_nil]; exact hSX.side.begin)))
      rintro r2 M2 ⟨ow2, rfl, hl2, hk2, hS2⟩
      have hS2 := hSX.call hl2 hk2 hS2
      have hr2 := hS2.row 0
      have hbg := hS2.big
      rw [← List.append_nil M2]
      (repeat (first | (with_reducible refine AWo.cons ?_) | ((with_reducible refine Step.id ?_); first | ((with_reducible apply Step.buildS 0); exact rfl; exact rfl; exact (fun _ _ => bs72); exact rfl; (focus (first | (simp only [List.nil_append, List.cons_append, List.set_cons_zero, List.set_cons_succ, iv_set, bv_set, iv_rep, bv_rep]; done) | (simp only [List.nil_append, List.cons_append, List.set_cons_zero, List.set_cons_succ, iv_set, bv_set, iv_rep, bv_rep]; rfl) | rfl))) | ((with_reducible apply Step.build); exact rfl; exact bl164; exact rfl))))
      ((with_reducible apply Step.appRow2 (n := ws.length) (xl := 1) (b0 := m.length + 2) (new := [.pointer (some ⟨X.length + 1, 0, none⟩), .slice none 0 0])); exact rfl; exact rfl; exact (hr2.old _); exact (Sl.mk (Nat.le_refl _)); exact (fun _ => RdL.new rfl rfl); exact el72; exact un72; exact rfl; exact rfl; exact rfl; (focus (omega)); exact rfl; (focus (rw [List.length_append]; omega)))
      intro u M3 hr3 hml3 hk3 hk4
      have hS3 := (hS2.app [some { cells := [.pointer (some ⟨X.length + 1, 0, none⟩), .slice none 0 0] }] 1).hire (c := X.length + 1) (M3 := M3) (u := u) hr3 hml3 hk3 hk4
      have hle3 : M.length ≤ M3.length := by rw [List.length_append] at hml3; omega
      (repeat (first | (with_reducible refine AWo.cons ?_) | ((with_reducible refine Step.id ?_); ((with_reducible apply Step.assign); exact rfl; exact rfl)) | (with_reducible refine AWo.nil ?_) | ((with_reducible apply Then.n))))
      (refine AW.ret ?_; (repeat (first | refine Then.r ?_ | refine InBlk.r ?_)))
      exact ⟨_, rfl, _, u, 0, _, B, _, _, rfl, hle3, hS3, by simp, fun k => by rw [(getD_app_new ws _ k).2]; exact Nat.le_succ_of_le (hst k), by omega, .inl ⟨rfl, hT.hire _⟩⟩
    · obtain ⟨j, hj, ej⟩ := mod_in x.who ws.length (by omega) (by omega)
      have hwj : ws[j]? = some ws[j] := List.getElem?_eq_getElem hj
      have hwd : ws.getD j default = ws[j] := by rw [List.getD_eq_getElem?_getD, hwj]; rfl
      have hrw : ∀ q v, (ws[j].c)[q]? = some v → (wkc ws)[j * 2 + q]? = some v := fun q v hv => flatS_get Wk.c 2 (fun _ => rfl) ws j hj q v (by rw [hwd]; exact hv)
      generalize ws[j] = wj at *
      obtain ⟨ck, sv, st⟩ := wj
      obtain ⟨o, ho⟩ := hT.ck j _ hwj
      simp only at ho
      have hew : IntKind.u64.wrap ((ws.length : Nat) : Int) = (ws.length : Nat) := u64_nat (by omega)
      have hrs : ∀ (T : AM) q v, [Value.pointer (some ⟨ck, 0, none⟩), sv][q]? = some v → Rd (X ++ T) aa (j * 2 + q) v := fun T q v hv => Rd.old T (by
        obtain ⟨b, w1, w2⟩ := hrd (by omega)
        exact ⟨b, by rw [hX]; exact get_old _ w1, by have := w2 _ _ (hrw q v hv); rwa [show 0 + (j * 2 + q) = j * 2 + q by omega] at this⟩)
      have hr0 := fun T => hrs T 0 _ rfl
      have hr1 := fun T => hrs T 1 _ rfl
      rw [Nat.add_zero] at hr0
      have hone : ∀ T, ACall Try.prog 100 #[.agg #[.int .i64 x.kd, .int .i64 x.who, .int .i64 x.n, .int .i64 x.m, w]] (X ++ T) (Ret (x.l.headD default).v (X ++ T)) := fun T => by
        rw [hX, List.append_assoc]; exact hone _
      generalize x.l.headD default = y at *
      obtain ⟨yi, yf, yt, yn⟩ := y
      have rqL : ∀ T, RdL (X ++ T) (M.length + 0) 0 [.int .i64 x.kd, .int .i64 x.who, .int .i64 x.n, .int .i64 x.m, w] := fun T => RdL.old T ⟨{ cells := x.cells w }, by rw [hX, get_app]; rfl, fun p v hv => by rw [Nat.zero_add]; exact hv⟩
      rw [← List.append_nil X]
      (repeat (first | (with_reducible refine AWo.cons ?_) | ((with_reducible refine Step.id ?_); first | ((with_reducible apply Step.gdT); exact rfl; exact rfl; (focus ((simp only [decide_eq_true_eq, decide_eq_false_iff_not, Bool.not_eq_true', Bool.not_eq_false', Bool.not_true, Bool.not_false]; first | assumption | omega)))) | ((with_reducible apply Step.move); exact rfl; exact rfl) | ((with_reducible apply Step.load); exact rfl; (focus (decide +kernel)); exact rfl; (focus (exact rq _ _ _ rfl))) | ((with_reducible apply Step.field (k := 1)); exact rfl; (focus (decide +kernel)); exact rfl) | ((with_reducible apply Step.eql); exact rfl; exact rfl; exact rfl) | ((with_reducible apply Step.pickF); exact rfl; exact rfl; exact rfl; exact rfl; (focus ((simp only [decide_eq_true_eq, decide_eq_false_iff_not, Bool.not_eq_true', Bool.not_eq_false', Bool.not_true, Bool.not_false]; first | assumption | omega))))) | (with_reducible refine AWo.nil ?_) | ((with_reducible apply AW.seq)) | ((with_reducible apply Then.n)) | ((with_reducible apply AW.regL)) | ((with_reducible apply AW.skip)) | ((with_reducible apply AW.condF); exact rfl; (focus ((simp only [decide_eq_true_eq, decide_eq_false_iff_not, Bool.not_eq_true', Bool.not_eq_false', Bool.not_true, Bool.not_false]; first | assumption | omega))))))
      ((with_reducible apply Step.conv); exact rfl; exact un3; exact un31; exact rfl; exact rfl)
      (repeat (first | (with_reducible refine AWo.cons ?_) | ((with_reducible refine Step.id ?_); first | ((with_reducible apply Step.move); exact rfl; exact rfl) | ((with_reducible apply Step.len); exact rfl; (focus (assumption)); (focus (decide +kernel)); exact rfl))))
      ((with_reducible apply Step.conv); exact rfl; exact un3; exact un31; exact hew; exact rfl)
      (repeat ((with_reducible refine AWo.cons ?_)))
      ((with_reducible apply Step.remU); exact rfl; exact rfl; exact (wrapU _); (focus (omega)); exact rfl)
      (repeat ((with_reducible refine AWo.cons ?_)))
      ((with_reducible apply Step.conv); exact rfl; exact un31; exact un3; exact ej; exact rfl)
      (repeat (first | (with_reducible refine AWo.cons ?_) | ((with_reducible refine Step.id ?_); first | ((with_reducible apply Step.assign); exact rfl; exact rfl) | ((with_reducible apply Step.load); exact rfl; (focus (decide +kernel)); exact rfl; (focus (first | exact rq _ _ _ rfl | exact Rd.new rfl rfl))) | ((with_reducible apply Step.loadL (n := 5)); exact rfl; (focus (decide +kernel)); (focus (decide +kernel)); exact rfl; (focus (exact rqL _)); exact rfl; exact rfl) | ((with_reducible apply Step.ixz (s := 2)); exact rfl; (focus (assumption)); exact rfl; (focus (decide +kernel)); exact rfl; (focus (omega))) | ((with_reducible apply Step.field0); exact rfl; (focus (decide +kernel)); exact rfl) | ((with_reducible apply Step.field (k := 1)); exact rfl; (focus (decide +kernel)); exact rfl) | ((with_reducible apply Step.field (k := 2)); exact rfl; (focus (decide +kernel)); exact rfl) | ((with_reducible apply Step.field (k := 3)); exact rfl; (focus (decide +kernel)); exact rfl) | ((with_reducible apply Step.callR fit); exact rfl; exact Try.func100; exact rfl; exact rfl; exact (hone _)) | ((with_reducible apply Step.alloc 0); exact rfl; exact ze61; exact rfl; (focus (first | (simp only [List.nil_append, List.cons_append, List.set_cons_zero, List.set_cons_succ, iv_set, bv_set, iv_rep, bv_rep]; done) | (simp only [List.nil_append, List.cons_append, List.set_cons_zero, List.set_cons_succ, iv_set, bv_set, iv_rep, bv_rep]; rfl) | rfl))) | ((with_reducible apply Step.storeA (k := 0) (n := 4)); exact rfl; exact rfl; exact rfl; exact rfl; (focus (decide +kernel)); exact rfl; (focus (kernel_rfl)); exact rfl; (focus (first | (simp only [List.nil_append, List.cons_append, List.set_cons_zero, List.set_cons_succ, iv_set, bv_set, iv_rep, bv_rep]; done) | (simp only [List.nil_append, List.cons_append, List.set_cons_zero, List.set_cons_succ, iv_set, bv_set, iv_rep, bv_rep]; rfl) | rfl))) | ((with_reducible apply Step.alloc 1); exact rfl; exact ze61; exact rfl; (focus (first | (simp only [List.nil_append, List.cons_append, List.set_cons_zero, List.set_cons_succ, iv_set, bv_set, iv_rep, bv_rep]; done) | (simp only [List.nil_append, List.cons_append, List.set_cons_zero, List.set_cons_succ, iv_set, bv_set, iv_rep, bv_rep]; rfl) | rfl))) | ((with_reducible apply Step.storeA (k := 1) (n := 4)); exact rfl; exact rfl; exact rfl; exact rfl; (focus (decide +kernel)); exact rfl; (focus (kernel_rfl)); exact rfl; (focus (first | (simp only [List.nil_append, List.cons_append, List.set_cons_zero, List.set_cons_succ, iv_set, bv_set, iv_rep, bv_rep]; done) | (simp only [List.nil_append, List.cons_append, List.set_cons_zero, List.set_cons_succ, iv_set, bv_set, iv_rep, bv_rep]; rfl) | rfl))) | ((with_reducible apply Step.build); exact rfl; exact bl63; exact rfl)) | (with_reducible refine AWo.nil ?_) | ((with_reducible apply AW.seq)) | ((with_reducible apply Then.n)) | ((with_reducible apply AW.regL))))
      ((with_reducible apply Step.conv); exact rfl; exact un3; exact un31; exact rfl; exact rfl)
      (repeat ((with_reducible refine AWo.cons ?_)))
      ((with_reducible apply Step.remU); exact rfl; exact rfl; exact (wrapU _); (focus (omega)); exact rfl)
      (repeat ((with_reducible refine AWo.cons ?_)))
      ((with_reducible apply Step.conv); exact rfl; exact un31; exact un3; exact en; exact rfl)
      (repeat (first | (with_reducible refine AWo.nil ?_) | ((with_reducible apply Then.n)) | ((with_reducible apply AW.block))))
      refine AW.weak (fr_all (l := [(0, .pointer (some ⟨bk, 0, none⟩)), (1, av), (5, .pointer (some ⟨M.length + 0, 0, none⟩)), (6, .slice none 0 0), (7, .int .i64 0), (8, .slice none 0 0), (9, .pointer (some ⟨aa, j * 2, none⟩)), (10, .pointer (some ⟨X.length + 0, 0, none⟩)), (11, .pointer (some ⟨X.length + 1, 0, none⟩)), (62, .int .i64 (n : Nat))]) (by repeat (first | exact trivial | (refine And.intro rfl ?_)))) ?_
      obtain ⟨Y, hY⟩ : ∃ Y : AM, Y = X ++ [some { cells := (Tr.mk yi yf yt yn).v.cells.toList }, some { cells := (Value.agg #[.int .i64 yi, .int .i64 yf, .int .i64 yt, .int .i64 yn]).cells.toList }] := ⟨_, rfl⟩
      have hSY : Shop m (asg (asg ow M.length 1) X.length 1) Y bk bk2 B av (wkc ws) wv wl cs ws := by rw [hY]; exact hSX.app _ 1
      have hYl : Y.length = X.length + 2 := by rw [hY, List.length_append]; rfl
      have hr0 : ∀ T, Rd (Y ++ T) aa (j * 2) _ := fun T => by rw [hY, List.append_assoc]; exact hr0 _
      have hr1 : ∀ T, Rd (Y ++ T) aa (j * 2 + 1) _ := fun T => by rw [hY, List.append_assoc]; exact hr1 _
      have rq : ∀ (T : AM) (j : Nat) (y : Value), (x.cells w)[j]? = some y → Rd (Y ++ T) (M.length + 0) j y := fun T j y hj => by rw [hY, List.append_assoc]; exact rq _ j y hj
      have ry : ∀ T, RdL (Y ++ T) (X.length + 1) 0 [.int .i64 yi, .int .i64 yf, .int .i64 yt, .int .i64 yn] := fun T => RdL.old T ⟨{ cells := [.int .i64 yi, .int .i64 yf, .int .i64 yt, .int .i64 yn] }, by rw [hY, List.getElem?_append_right (by omega), Nat.add_sub_cancel_left]; rfl, fun p v hv => by rw [Nat.zero_add]; exact hv⟩
      have hdY := hd.sub hSY.side.sub
      have hcs := hT.commit hwj ho
      rw [← hY, ← List.append_nil Y]
      have hML : M.length ≤ Y.length := by omega
      have hoY : asg (asg ow M.length 1) X.length 1 (X.length + 1) = 1 := asg_ge (by omega)
      have hok : ∀ K, o = some K → OKK K := fun K e => (hT.run j _ ck K hwj (by rw [ho, e])).1
      generalize asg (asg ow M.length 1) X.length 1 = owY at *
      rcases (show n = 0 ∨ n = 5 ∨ (n = 4 ∨ n = 6) ∨ (n = 1 ∨ n = 3 ∨ n = 7 ∨ n = 8) by omega) with rfl | rfl | c4 | c3
      · have hpo := fun M h => post_ok (m := M) (v := w) (l := x.l) h hle
        (repeat (first | (with_reducible refine AWo.cons ?_) | ((with_reducible refine Step.id ?_); first | ((with_reducible apply Step.move); exact rfl; exact rfl) | ((with_reducible apply Step.assign); exact rfl; exact rfl) | ((with_reducible apply Step.load); exact rfl; (focus (decide +kernel)); exact rfl; (focus (exact rq _ _ _ rfl))) | ((with_reducible apply Step.field (k := 4)); exact rfl; (focus (decide +kernel)); exact rfl) | ((with_reducible apply Step.eql); exact rfl; exact rfl; exact rfl)) | (with_reducible refine AWo.nil ?_) | ((with_reducible apply AW.seq)) | ((with_reducible apply Then.n)) | ((with_reducible apply AW.regL)) | ((with_reducible apply AW.condT); exact rfl; (focus (rfl)))))
        ((with_reducible apply Step.callX fit); exact rfl; exact Try.func29; exact rfl; exact rfl; (focus (rw [List.append_nil]; exact hpo _ hdY)))
        rintro r1 M1 ⟨N1, hN1⟩ hr1
        rw [List.append_nil] at hN1
        have hP := hSY.side.post hN1 hr1 hG (by omega)
        (repeat ((with_reducible refine AWo.cons ?_)))
        ((with_reducible apply Step.callF fit); exact rfl; exact Try.func28; exact rfl; exact rfl; (focus (rw [List.append_nil]; exact hP)))
        rintro r2 M2 ⟨rfl, hl2, hk2, ow2, ho2, hS2⟩
        have hl3 : Y.length ≤ M2.length := by rw [hN1, List.length_append] at hl2; omega
        have hS2 := hSY.call hl3 (fun j hj hn => ⟨hk2 j hj (by rw [hn]; decide), by rw [ho2 j hj]; exact hn⟩) hS2
        have hpl := postF_len B x.l
        rw [← List.append_nil M2]
        (repeat (first | (with_reducible refine AWo.cons ?_) | ((with_reducible refine Step.id ?_); first | ((with_reducible apply Step.move); exact rfl; exact rfl) | ((with_reducible apply Step.assign); exact rfl; exact rfl) | ((with_reducible apply Step.extract); exact rfl; exact rfl; exact rfl)) | (with_reducible refine AWo.nil ?_) | ((with_reducible apply AW.seq)) | ((with_reducible apply Then.n)) | ((with_reducible apply AW.regL))))
        (refine AW.ret ?_; (repeat (first | refine Then.r ?_ | refine InBlk.r ?_)))
        exact ⟨_, rfl, ow2, av, _, _, _, _, ws, rfl, by rw [List.append_nil]; omega, by rw [List.append_nil]; exact hS2, by omega, fun k => Nat.le_succ_of_le (hst k), hpl, hT.post x.l⟩
      · (repeat (first | (with_reducible refine AWo.cons ?_) | ((with_reducible refine Step.id ?_); first | ((with_reducible apply Step.move); exact rfl; exact rfl) | ((with_reducible apply Step.assign); exact rfl; exact rfl) | ((with_reducible apply Step.load); exact rfl; (focus (decide +kernel)); exact rfl; (focus (exact hr0 _))) | ((with_reducible apply Step.field0); exact rfl; (focus (decide +kernel)); exact rfl) | ((with_reducible apply Step.eql); exact rfl; exact rfl; exact rfl) | ((with_reducible apply Step.nilp); exact rfl; exact rfl)) | (with_reducible refine AWo.nil ?_) | ((with_reducible apply AW.seq)) | ((with_reducible apply Then.n)) | ((with_reducible apply AW.regL)) | ((with_reducible apply AW.condT); exact rfl; (focus (rfl))) | ((with_reducible apply AW.condF); exact rfl; (focus (rfl)))))
        have hcm := hSY.side.commitAny ho (fun K e => (hT.run j _ ck K hwj (by rw [ho, e])).1) hG.bd (by omega)
        ((with_reducible apply Step.callF fit); exact rfl; exact Try.func41; exact rfl; exact rfl; (focus (rw [List.append_nil]; exact hcm)))
        rintro r2 M2 ⟨ow2, rfl, hl2, hk2, hS2⟩
        have hS2 := hSY.call hl2 hk2 hS2
        have hpl := (cmB_good hG o).2
        have hr2 := fun T => (hS2.row 0).rd (a := aa) hav (show 0 < ws.length by omega) (hrw 1 sv rfl) T
        rw [← List.append_nil M2]
        (repeat (first | (with_reducible refine AWo.cons ?_) | ((with_reducible refine Step.id ?_); first | ((with_reducible apply Step.move); exact rfl; exact rfl) | ((with_reducible apply Step.assign); exact rfl; exact rfl) | ((with_reducible apply Step.load); exact rfl; (focus (decide +kernel)); exact rfl; (focus (exact hr2 _))) | ((with_reducible apply Step.field (k := 1)); exact rfl; (focus (decide +kernel)); exact rfl) | ((with_reducible apply Step.nilp); exact rfl; exact rfl) | ((with_reducible apply Step.extract); exact rfl; exact rfl; exact rfl)) | (with_reducible refine AWo.nil ?_) | ((with_reducible apply AW.seq)) | ((with_reducible apply Then.n)) | ((with_reducible apply AW.drawL fit); (focus (decide +kernel)))))
        (refine AW.ret ?_; (repeat (first | refine Then.r ?_ | refine InBlk.r ?_)))
        exact ⟨_, rfl, ow2, av, _, sv, _, _, ws, rfl, by rw [List.append_nil]; omega, by rw [List.append_nil]; exact hS2, by omega, fun k => Nat.le_succ_of_le (hst k), hpl, hcs⟩
      · refine AW.joinQ (fun t' M2 => ∃ ow2 cs2 ws2, Shop m ow2 M2 bk bk2 B av (wkc ws2) wv wl cs2 ws2 ∧ M.length ≤ M2.length ∧ ws2.length = ws.length ∧ (∀ k, (ws2.getD k default).st.length ≤ L + 1) ∧ Tale B wl cs2 ws2 ∧ All (fun i v => t' i = some v) [(1, av)]) ?_ ?_
        · rcases c4 with rfl | rfl
          · (repeat (first | (with_reducible refine AWo.cons ?_) | ((with_reducible refine Step.id ?_); first | ((with_reducible apply Step.move); exact rfl; exact rfl) | ((with_reducible apply Step.assign); exact rfl; exact rfl) | ((with_reducible apply Step.load); exact rfl; (focus (decide +kernel)); exact rfl; (focus (exact hr0 _))) | ((with_reducible apply Step.loadL (n := 4)); exact rfl; (focus (decide +kernel)); (focus (decide +kernel)); exact rfl; (focus (exact ry _)); exact rfl; exact rfl) | ((with_reducible apply Step.field0); exact rfl; (focus (decide +kernel)); exact rfl) | ((with_reducible apply Step.eql); exact rfl; exact rfl; exact rfl) | ((with_reducible apply Step.nilp); exact rfl; exact rfl)) | (with_reducible refine AWo.nil ?_) | ((with_reducible apply AW.seq)) | ((with_reducible apply Then.n)) | ((with_reducible apply AW.regL)) | ((with_reducible apply AW.drawL fit); (focus (decide +kernel))) | ((with_reducible apply AW.skip)) | ((with_reducible apply AW.condT); exact rfl; (focus (rfl))) | ((with_reducible apply AW.condF); exact rfl; (focus (rfl)))))
            have hmv := hSY.side.move ho hok ⟨yi, yf, yt, yn⟩
            ((with_reducible apply Step.callF fit); exact rfl; exact Try.func33; exact rfl; exact rfl; (focus (rw [List.append_nil]; exact hmv)))
            rintro r2 M2 ⟨rfl, hl2, hk2, hS2⟩
            have hS2 := hSY.call hl2 (fun j hj hn => ⟨hk2 j hj (by rw [hn]; omega), by rw [asg_lt hj]; exact hn⟩) hS2
            have hr2 := fun T => (hS2.row 0).rd (a := aa) hav (show 0 < ws.length by omega) (hrw 1 sv rfl) T
            have ry2 : ∀ T, RdL (M2 ++ T) (X.length + 1) 0 [.int .i64 yi, .int .i64 yf, .int .i64 yt, .int .i64 yn] := fun T => RdL.old T (by
              obtain ⟨b, w1, w2⟩ := ry []
              rw [List.append_nil] at w1
              exact ⟨b, by rw [hk2 _ (by omega) (by rw [hoY]; omega)]; exact w1, w2⟩)
            have hbg := hS2.big
            have hr8 : Row M2 (m.length + 2) 8 sv (stc st) st.length := by
              have := hS2.row (j + 2)
              simp only [lsz, lvs, lcc, lns, hwd] at this
              exact this
            rw [← List.append_nil M2]
            rcases moE_cases (o := o) ⟨yi, yf, yt, yn⟩ hok with ⟨e1, e2⟩ | ⟨e1, K, rfl, e2, e3, e4⟩
            · generalize moE o ⟨yi, yf, yt, yn⟩ = e at *
              (repeat (first | (with_reducible refine AWo.cons ?_) | ((with_reducible refine Step.id ?_); ((with_reducible apply Step.eql); exact rfl; exact rfl; exact rfl)) | (with_reducible refine AWo.nil ?_) | ((with_reducible apply Then.n)) | ((with_reducible apply AW.skip)) | ((with_reducible apply AW.condF); exact rfl; (focus ((simp only [decide_eq_true_eq, decide_eq_false_iff_not, Bool.not_eq_true', Bool.not_eq_false', Bool.not_true, Bool.not_false]; first | assumption | omega))))))
              rw [e2, set_selfT ho] at hS2
              exact ⟨rfl, _, _, ws, by rw [List.append_nil]; exact hS2, by rw [List.append_nil]; omega, rfl, fun k => Nat.le_succ_of_le (hst k), hT, (by repeat (first | exact trivial | (refine And.intro rfl ?_)))⟩
            · have hstj : st.length ≤ L := by have := hst j; rw [hwd] at this; exact this
              rw [e3] at hS2
              rw [e1]
              (repeat' (first | (with_reducible refine AWo.cons ?_) | ((with_reducible refine Step.id ?_); first | ((with_reducible apply Step.move); exact rfl; exact rfl) | ((with_reducible apply Step.load); exact rfl; (focus (decide +kernel)); exact rfl; (focus (exact hr2 _))) | ((with_reducible apply Step.loadL (n := 4)); exact rfl; (focus (decide +kernel)); (focus (decide +kernel)); exact rfl; (focus (exact ry2 _)); exact rfl; exact rfl) | ((with_reducible apply Step.field (k := 1)); exact rfl; (focus (decide +kernel)); exact rfl) | ((with_reducible apply Step.eql); exact rfl; exact rfl; exact rfl) | ((with_reducible apply Step.nilp); exact rfl; exact rfl) | ((with_reducible apply Step.buildS 0); exact rfl; exact rfl; exact (fun _ _ => bs74); exact rfl; (focus (first | (simp only [List.nil_append, List.cons_append, List.set_cons_zero, List.set_cons_succ, iv_set, bv_set, iv_rep, bv_rep]; done) | (simp only [List.nil_append, List.cons_append, List.set_cons_zero, List.set_cons_succ, iv_set, bv_set, iv_rep, bv_rep]; rfl) | rfl))) | ((with_reducible apply Step.build); exact rfl; exact bl81m; exact rfl)) | (with_reducible refine AWo.nil ?_) | ((with_reducible apply Then.n)) | ((with_reducible apply AW.drawT fit (T := (.step 0 (.step 1 (.step 2 (.step 3 (.step 5 (.step 6 (.both (.step 4 (.step 7 (.step 8 (.step 9 (.step 10 (.step 11 .done)))))) (.step 7 (.step 4 (.step 8 (.step 9 (.step 10 (.step 11 .done))))))))))))))); (focus (decide +kernel))) | ((with_reducible apply AWt.step); exact rfl) | ((with_reducible apply AW.condT); exact rfl; (focus (rfl))) | refine AWt.both ?_ ?_))
              all_goals
                ((with_reducible apply Step.appRow2 (n := st.length) (xl := 1) (b0 := m.length + 2) (c := stc st) (new := [.bool false, .int .i64 0, .int .i64 0, .int .i64 0, .int .i64 yi, .int .i64 yf, .int .i64 yt, .int .i64 yn])); exact rfl; exact rfl; exact (hr8.old _); exact (Sl.mk (Nat.le_refl _)); exact (fun _ => RdL.new rfl rfl); exact el74; exact un74; exact rfl; exact rfl; exact rfl; (focus (omega)); exact rfl; (focus (rw [List.length_append]; omega)))
                intro u M3 hr3 hml3 hk3 hk4
                have hS3 := (hS2.app [some { cells := [.bool false, .int .i64 0, .int .i64 0, .int .i64 0, .int .i64 yi, .int .i64 yf, .int .i64 yt, .int .i64 yn] }] 1).step (s := ⟨false, 0, 0, 0, ⟨yi, yf, yt, yn⟩⟩) (M3 := M3) (u := u) hwj hr3 hml3 hk3 hk4
                rw [List.length_append] at hml3
                obtain ⟨kd, sz, g1, g2, g3, g4, g5⟩ := (hS3.row 0).at0 (a := aa) (by show Sl av aa 0 (ws.set j _).length; rw [List.length_set]; exact hav) (by show 0 < (ws.set j _).length; rw [List.length_set]; omega)
                have hwc : (wkc ws).length = ws.length * 2 := flatS_len Wk.c 2 (fun _ => rfl) ws
                have hus := hr3.slv.one
                have hwk := wkc_set ws j _ hwj u (st ++ [⟨false, 0, 0, 0, ⟨yi, yf, yt, yn⟩⟩])
                have hS4 := hS3.wrote (M3 := M3.set aa (some { cells := (wkc ws).set (j * 2 + 1) u, kind := kd, size := sz })) (al' := wkc (ws.set j ⟨ck, u, st ++ [⟨false, 0, 0, 0, ⟨yi, yf, yt, yn⟩⟩]⟩)) (by rw [← hwk]; exact g5 _ (List.length_set ..)) (by rw [List.length_set]; exact Nat.le_refl _) (fun i hi hn => List.getElem?_set_ne fun e => g4 (by rw [e]; exact hn))
                (repeat (first | ((with_reducible refine Step.id ?_); first | ((with_reducible apply Step.field (k := 1)); exact rfl; (focus (decide +kernel)); exact rfl) | ((with_reducible apply Step.nilp); exact rfl; exact rfl)) | ((with_reducible apply AWt.step); exact rfl)))
                ((with_reducible apply Step.storeAt); exact rfl; exact rfl; exact g1; (focus (decide +kernel)); exact g2; (focus (show j * 2 + 1 < (wkc ws).length; omega)); exact hus.2; exact hus.1)
                (repeat (((with_reducible apply AWt.done))))
                refine ⟨rfl, _, _, _, hS4, by rw [List.length_set]; omega, List.length_set .., fun k => ?_, hT.step hwj ho e2 e4 u, (by repeat (first | exact trivial | (refine And.intro rfl ?_)))⟩
                rw [getD_set_wk hj]
                split
                · show (st ++ [_]).length ≤ _; rw [List.length_append]; exact Nat.succ_le_succ hstj
                · exact Nat.le_succ_of_le (hst k)
          · (repeat (first | (with_reducible refine AWo.cons ?_) | ((with_reducible refine Step.id ?_); first | ((with_reducible apply Step.move); exact rfl; exact rfl) | ((with_reducible apply Step.assign); exact rfl; exact rfl) | ((with_reducible apply Step.load); exact rfl; (focus (decide +kernel)); exact rfl; (focus (exact hr0 _))) | ((with_reducible apply Step.loadL (n := 4)); exact rfl; (focus (decide +kernel)); (focus (decide +kernel)); exact rfl; (focus (exact ry _)); exact rfl; exact rfl) | ((with_reducible apply Step.field0); exact rfl; (focus (decide +kernel)); exact rfl) | ((with_reducible apply Step.eql); exact rfl; exact rfl; exact rfl) | ((with_reducible apply Step.nilp); exact rfl; exact rfl)) | (with_reducible refine AWo.nil ?_) | ((with_reducible apply AW.seq)) | ((with_reducible apply Then.n)) | ((with_reducible apply AW.regL)) | ((with_reducible apply AW.drawL fit); (focus (decide +kernel))) | ((with_reducible apply AW.condT); exact rfl; (focus (rfl))) | ((with_reducible apply AW.condF); exact rfl; (focus (rfl)))))
            have hmv := hSY.side.move ho hok ⟨yi, yf, yt, yn⟩
            ((with_reducible apply Step.callF fit); exact rfl; exact Try.func33; exact rfl; exact rfl; (focus (rw [List.append_nil]; exact hmv)))
            rintro r2 M2 ⟨rfl, hl2, hk2, hS2⟩
            have hS2 := hSY.call hl2 (fun j hj hn => ⟨hk2 j hj (by rw [hn]; omega), by rw [asg_lt hj]; exact hn⟩) hS2
            have hr2 := fun T => (hS2.row 0).rd (a := aa) hav (show 0 < ws.length by omega) (hrw 1 sv rfl) T
            have ry2 : ∀ T, RdL (M2 ++ T) (X.length + 1) 0 [.int .i64 yi, .int .i64 yf, .int .i64 yt, .int .i64 yn] := fun T => RdL.old T (by
              obtain ⟨b, w1, w2⟩ := ry []
              rw [List.append_nil] at w1
              exact ⟨b, by rw [hk2 _ (by omega) (by rw [hoY]; omega)]; exact w1, w2⟩)
            have hbg := hS2.big
            have hr8 : Row M2 (m.length + 2) 8 sv (stc st) st.length := by
              have := hS2.row (j + 2)
              simp only [lsz, lvs, lcc, lns, hwd] at this
              exact this
            rw [← List.append_nil M2]
            rcases moE_cases (o := o) ⟨yi, yf, yt, yn⟩ hok with ⟨e1, e2⟩ | ⟨e1, K, rfl, e2, e3, e4⟩
            · generalize moE o ⟨yi, yf, yt, yn⟩ = e at *
              (repeat (first | (with_reducible refine AWo.cons ?_) | ((with_reducible refine Step.id ?_); ((with_reducible apply Step.eql); exact rfl; exact rfl; exact rfl)) | (with_reducible refine AWo.nil ?_) | ((with_reducible apply Then.n)) | ((with_reducible apply AW.skip)) | ((with_reducible apply AW.condF); exact rfl; (focus ((simp only [decide_eq_true_eq, decide_eq_false_iff_not, Bool.not_eq_true', Bool.not_eq_false', Bool.not_true, Bool.not_false]; first | assumption | omega))))))
              rw [e2, set_selfT ho] at hS2
              exact ⟨rfl, _, _, ws, by rw [List.append_nil]; exact hS2, by rw [List.append_nil]; omega, rfl, fun k => Nat.le_succ_of_le (hst k), hT, (by repeat (first | exact trivial | (refine And.intro rfl ?_)))⟩
            · have hstj : st.length ≤ L := by have := hst j; rw [hwd] at this; exact this
              rw [e3] at hS2
              rw [e1]
              (repeat' (first | (with_reducible refine AWo.cons ?_) | ((with_reducible refine Step.id ?_); first | ((with_reducible apply Step.move); exact rfl; exact rfl) | ((with_reducible apply Step.load); exact rfl; (focus (decide +kernel)); exact rfl; (focus (exact hr2 _))) | ((with_reducible apply Step.loadL (n := 4)); exact rfl; (focus (decide +kernel)); (focus (decide +kernel)); exact rfl; (focus (exact ry2 _)); exact rfl; exact rfl) | ((with_reducible apply Step.field (k := 1)); exact rfl; (focus (decide +kernel)); exact rfl) | ((with_reducible apply Step.eql); exact rfl; exact rfl; exact rfl) | ((with_reducible apply Step.nilp); exact rfl; exact rfl) | ((with_reducible apply Step.buildS 0); exact rfl; exact rfl; exact (fun _ _ => bs74); exact rfl; (focus (first | (simp only [List.nil_append, List.cons_append, List.set_cons_zero, List.set_cons_succ, iv_set, bv_set, iv_rep, bv_rep]; done) | (simp only [List.nil_append, List.cons_append, List.set_cons_zero, List.set_cons_succ, iv_set, bv_set, iv_rep, bv_rep]; rfl) | rfl))) | ((with_reducible apply Step.build); exact rfl; exact bl81m; exact rfl)) | (with_reducible refine AWo.nil ?_) | ((with_reducible apply Then.n)) | ((with_reducible apply AW.drawT fit (T := (.step 0 (.step 1 (.step 2 (.step 3 (.step 5 (.step 6 (.both (.step 4 (.step 7 (.step 8 (.step 9 (.step 10 (.step 11 .done)))))) (.step 7 (.step 4 (.step 8 (.step 9 (.step 10 (.step 11 .done))))))))))))))); (focus (decide +kernel))) | ((with_reducible apply AWt.step); exact rfl) | ((with_reducible apply AW.condT); exact rfl; (focus (rfl))) | refine AWt.both ?_ ?_))
              all_goals
                ((with_reducible apply Step.appRow2 (n := st.length) (xl := 1) (b0 := m.length + 2) (c := stc st) (new := [.bool false, .int .i64 0, .int .i64 0, .int .i64 0, .int .i64 yi, .int .i64 yf, .int .i64 yt, .int .i64 yn])); exact rfl; exact rfl; exact (hr8.old _); exact (Sl.mk (Nat.le_refl _)); exact (fun _ => RdL.new rfl rfl); exact el74; exact un74; exact rfl; exact rfl; exact rfl; (focus (omega)); exact rfl; (focus (rw [List.length_append]; omega)))
                intro u M3 hr3 hml3 hk3 hk4
                have hS3 := (hS2.app [some { cells := [.bool false, .int .i64 0, .int .i64 0, .int .i64 0, .int .i64 yi, .int .i64 yf, .int .i64 yt, .int .i64 yn] }] 1).step (s := ⟨false, 0, 0, 0, ⟨yi, yf, yt, yn⟩⟩) (M3 := M3) (u := u) hwj hr3 hml3 hk3 hk4
                rw [List.length_append] at hml3
                obtain ⟨kd, sz, g1, g2, g3, g4, g5⟩ := (hS3.row 0).at0 (a := aa) (by show Sl av aa 0 (ws.set j _).length; rw [List.length_set]; exact hav) (by show 0 < (ws.set j _).length; rw [List.length_set]; omega)
                have hwc : (wkc ws).length = ws.length * 2 := flatS_len Wk.c 2 (fun _ => rfl) ws
                have hus := hr3.slv.one
                have hwk := wkc_set ws j _ hwj u (st ++ [⟨false, 0, 0, 0, ⟨yi, yf, yt, yn⟩⟩])
                have hS4 := hS3.wrote (M3 := M3.set aa (some { cells := (wkc ws).set (j * 2 + 1) u, kind := kd, size := sz })) (al' := wkc (ws.set j ⟨ck, u, st ++ [⟨false, 0, 0, 0, ⟨yi, yf, yt, yn⟩⟩]⟩)) (by rw [← hwk]; exact g5 _ (List.length_set ..)) (by rw [List.length_set]; exact Nat.le_refl _) (fun i hi hn => List.getElem?_set_ne fun e => g4 (by rw [e]; exact hn))
                (repeat (first | ((with_reducible refine Step.id ?_); first | ((with_reducible apply Step.field (k := 1)); exact rfl; (focus (decide +kernel)); exact rfl) | ((with_reducible apply Step.nilp); exact rfl; exact rfl)) | ((with_reducible apply AWt.step); exact rfl)))
                ((with_reducible apply Step.storeAt); exact rfl; exact rfl; exact g1; (focus (decide +kernel)); exact g2; (focus (show j * 2 + 1 < (wkc ws).length; omega)); exact hus.2; exact hus.1)
                (repeat (((with_reducible apply AWt.done))))
                refine ⟨rfl, _, _, _, hS4, by rw [List.length_set]; omega, List.length_set .., fun k => ?_, hT.step hwj ho e2 e4 u, (by repeat (first | exact trivial | (refine And.intro rfl ?_)))⟩
                rw [getD_set_wk hj]
                split
                · show (st ++ [_]).length ≤ _; rw [List.length_append]; exact Nat.succ_le_succ hstj
                · exact Nat.le_succ_of_le (hst k)
        · rintro t' M2 ⟨ow2, cs2, ws2, hS2, hl2, hw2, hst2, hT2, hsl⟩
          refine InBlk.n ?_
          refine Then.n ?_
          refine AW.weak (fr_all hsl) ?_
          clear hsl
          refine AW.rebase ?_
          (repeat (first | (with_reducible refine AWo.cons ?_) | ((with_reducible refine Step.id ?_); first | ((with_reducible apply Step.move); exact rfl; exact rfl) | ((with_reducible apply Step.assign); exact rfl; exact rfl)) | (with_reducible refine AWo.nil ?_) | ((with_reducible apply AW.seq)) | ((with_reducible apply Then.n)) | ((with_reducible apply AW.regL))))
          (refine AW.ret ?_; (repeat (first | refine Then.r ?_ | refine InBlk.r ?_)))
          exact ⟨_, rfl, ow2, av, 0, _, B, _, ws2, rfl, by rw [List.append_nil]; exact hl2, by rw [List.append_nil]; exact hS2, by omega, hst2, by omega, .inl ⟨rfl, hT2⟩⟩
      · refine AW.joinQ (fun t' M2 => ∃ ow2 cs2 ws2, Shop m ow2 M2 bk bk2 B av (wkc ws2) wv wl cs2 ws2 ∧ M.length ≤ M2.length ∧ ws2.length = ws.length ∧ (∀ k, (ws2.getD k default).st.length ≤ L + 1) ∧ Tale B wl cs2 ws2 ∧ All (fun i v => t' i = some v) [(1, av)]) ?_ ?_
        · obtain ⟨p, hp16, ep⟩ := mod_in x.n 16 (by omega) (by omega)
          obtain ⟨i, hi16, ei⟩ := mod_in x.m 16 (by omega) (by omega)
          (repeat (first | (with_reducible refine AWo.cons ?_) | ((with_reducible refine Step.id ?_); first | ((with_reducible apply Step.assign); exact rfl; exact rfl) | ((with_reducible apply Step.load); exact rfl; (focus (decide +kernel)); exact rfl; (focus (exact rq _ _ _ rfl))) | ((with_reducible apply Step.field (k := 2)); exact rfl; (focus (decide +kernel)); exact rfl) | ((with_reducible apply Step.eql); exact rfl; exact rfl; exact rfl)) | (with_reducible refine AWo.nil ?_) | ((with_reducible apply AW.seq)) | ((with_reducible apply Then.n)) | ((with_reducible apply AW.regL)) | ((with_reducible apply AW.drawL fit); (focus (decide +kernel))) | ((with_reducible apply AW.condF); exact rfl; (focus ((simp only [decide_eq_true_eq, decide_eq_false_iff_not, Bool.not_eq_true', Bool.not_eq_false', Bool.not_true, Bool.not_false]; first | assumption | omega))))))
          ((with_reducible apply Step.conv); exact rfl; exact un3; exact un31; exact rfl; exact rfl)
          (repeat ((with_reducible refine AWo.cons ?_)))
          ((with_reducible apply Step.remU); exact rfl; exact rfl; exact (wrapU _); (focus (omega)); exact rfl)
          (repeat ((with_reducible refine AWo.cons ?_)))
          ((with_reducible apply Step.conv); exact rfl; exact un31; exact un3; exact ep; exact rfl)
          (repeat (first | (with_reducible refine AWo.cons ?_) | ((with_reducible refine Step.id ?_); first | ((with_reducible apply Step.load); exact rfl; (focus (decide +kernel)); exact rfl; (focus (exact rq _ _ _ rfl))) | ((with_reducible apply Step.field (k := 3)); exact rfl; (focus (decide +kernel)); exact rfl))))
          ((with_reducible apply Step.conv); exact rfl; exact un3; exact un31; exact rfl; exact rfl)
          (repeat ((with_reducible refine AWo.cons ?_)))
          ((with_reducible apply Step.remU); exact rfl; exact rfl; exact (wrapU _); (focus (omega)); exact rfl)
          (repeat ((with_reducible refine AWo.cons ?_)))
          ((with_reducible apply Step.conv); exact rfl; exact un31; exact un3; exact ei; exact rfl)
          (repeat (first | (with_reducible refine AWo.cons ?_) | ((with_reducible refine Step.id ?_); first | ((with_reducible apply Step.move); exact rfl; exact rfl) | ((with_reducible apply Step.assign); exact rfl; exact rfl) | ((with_reducible apply Step.load); exact rfl; (focus (decide +kernel)); exact rfl; (focus (exact hr0 _))) | ((with_reducible apply Step.field0); exact rfl; (focus (decide +kernel)); exact rfl) | ((with_reducible apply Step.nilp); exact rfl; exact rfl)) | (with_reducible refine AWo.nil ?_) | ((with_reducible apply AW.seq)) | ((with_reducible apply Then.n)) | ((with_reducible apply AW.regL))))
          have hmv := hSY.side.held ho (p : Int) (i : Int)
          ((with_reducible apply Step.callF fit); exact rfl; exact Try.func31; exact rfl; exact rfl; (focus (rw [List.append_nil]; exact hmv)))
          rintro r2 M2 ⟨rfl, hl2, hk2, hS2⟩
          have hS2 := hSY.call hl2 (fun j hj hn => ⟨hk2 j hj (by rw [hn]; omega), by rw [asg_lt hj]; exact hn⟩) hS2
          have hr2 := fun T => (hS2.row 0).rd (a := aa) hav (show 0 < ws.length by omega) (hrw 1 sv rfl) T
          have ry2 : ∀ T, RdL (M2 ++ T) (X.length + 1) 0 [.int .i64 yi, .int .i64 yf, .int .i64 yt, .int .i64 yn] := fun T => RdL.old T (by
            obtain ⟨b, w1, w2⟩ := ry []
            rw [List.append_nil] at w1
            exact ⟨b, by rw [hk2 _ (by omega) (by rw [hoY]; omega)]; exact w1, w2⟩)
          have hbg := hS2.big
          have hr8 : Row M2 (m.length + 2) 8 sv (stc st) st.length := by
            have := hS2.row (j + 2)
            simp only [lsz, lvs, lcc, lns, hwd] at this
            exact this
          rw [← List.append_nil M2]
          rcases heR_cases (o := o) p i hp16 hi16 ⟨yi, yf, yt, yn⟩ hok with ⟨e1, e2⟩ | ⟨K, rfl, e1, e2, e3, e4⟩
          · rw [e1]
            (repeat (first | (with_reducible refine AWo.cons ?_) | ((with_reducible refine Step.id ?_); first | ((with_reducible apply Step.move); exact rfl; exact rfl) | ((with_reducible apply Step.assign); exact rfl; exact rfl) | ((with_reducible apply Step.eql); exact rfl; exact rfl; exact rfl) | ((with_reducible apply Step.extract); exact rfl; exact rfl; exact rfl)) | (with_reducible refine AWo.nil ?_) | ((with_reducible apply AW.seq)) | ((with_reducible apply Then.n)) | ((with_reducible apply AW.regL)) | ((with_reducible apply AW.skip)) | ((with_reducible apply AW.condF); exact rfl; (focus (rfl)))))
            rw [e2, set_selfT ho] at hS2
            exact ⟨rfl, _, _, ws, by rw [List.append_nil]; exact hS2, by rw [List.append_nil]; omega, rfl, fun k => Nat.le_succ_of_le (hst k), hT, (by repeat (first | exact trivial | (refine And.intro rfl ?_)))⟩
          · have hstj : st.length ≤ L := by have := hst j; rw [hwd] at this; exact this
            rw [e3] at hS2
            rw [e1]
            (repeat' (first | (with_reducible refine AWo.cons ?_) | ((with_reducible refine Step.id ?_); first | ((with_reducible apply Step.move); exact rfl; exact rfl) | ((with_reducible apply Step.assign); exact rfl; exact rfl) | ((with_reducible apply Step.load); exact rfl; (focus (decide +kernel)); exact rfl; (focus (exact hr2 _))) | ((with_reducible apply Step.loadL (n := 4)); exact rfl; (focus (decide +kernel)); (focus (decide +kernel)); exact rfl; (focus (exact ry2 _)); exact rfl; exact rfl) | ((with_reducible apply Step.field (k := 1)); exact rfl; (focus (decide +kernel)); exact rfl) | ((with_reducible apply Step.eql); exact rfl; exact rfl; exact rfl) | ((with_reducible apply Step.nilp); exact rfl; exact rfl) | ((with_reducible apply Step.extract); exact rfl; exact rfl; exact rfl) | ((with_reducible apply Step.buildS 0); exact rfl; exact rfl; exact (fun _ _ => bs74); exact rfl; (focus (first | (simp only [List.nil_append, List.cons_append, List.set_cons_zero, List.set_cons_succ, iv_set, bv_set, iv_rep, bv_rep]; done) | (simp only [List.nil_append, List.cons_append, List.set_cons_zero, List.set_cons_succ, iv_set, bv_set, iv_rep, bv_rep]; rfl) | rfl))) | ((with_reducible apply Step.build); exact rfl; exact bl81r; exact rfl)) | (with_reducible refine AWo.nil ?_) | ((with_reducible apply AW.seq)) | ((with_reducible apply Then.n)) | ((with_reducible apply AW.regL)) | ((with_reducible apply AW.drawT fit (T := (.step 0 (.step 1 (.step 2 (.step 3 (.step 5 (.step 6 (.step 7 (.step 8 (.step 9 (.both (.step 4 (.step 10 (.step 11 (.step 12 (.step 13 (.step 14 .done)))))) (.step 10 (.step 4 (.step 11 (.step 12 (.step 13 (.step 14 .done)))))))))))))))))); (focus (decide +kernel))) | ((with_reducible apply AWt.step); exact rfl) | ((with_reducible apply AW.condT); exact rfl; (focus (rfl))) | refine AWt.both ?_ ?_))
            all_goals
              ((with_reducible apply Step.appRow2 (n := st.length) (xl := 1) (b0 := m.length + 2) (c := stc st) (new := [.bool true, .int .i64 (p : Nat), .int .i64 (i : Nat), .int .i64 (K.V.getD (p * 16 + i) 0), .int .i64 yi, .int .i64 yf, .int .i64 yt, .int .i64 yn])); exact rfl; exact rfl; exact (hr8.old _); exact (Sl.mk (Nat.le_refl _)); exact (fun _ => RdL.new rfl rfl); exact el74; exact un74; exact rfl; exact rfl; exact rfl; (focus (omega)); exact rfl; (focus (rw [List.length_append]; omega)))
              intro u M3 hr3 hml3 hk3 hk4
              have hS3 := (hS2.app [some { cells := [.bool true, .int .i64 (p : Nat), .int .i64 (i : Nat), .int .i64 (K.V.getD (p * 16 + i) 0), .int .i64 yi, .int .i64 yf, .int .i64 yt, .int .i64 yn] }] 1).step (s := ⟨true, p, i, K.V.getD (p * 16 + i) 0, ⟨yi, yf, yt, yn⟩⟩) (M3 := M3) (u := u) hwj hr3 hml3 hk3 hk4
              rw [List.length_append] at hml3
              obtain ⟨kd, sz, g1, g2, g3, g4, g5⟩ := (hS3.row 0).at0 (a := aa) (by show Sl av aa 0 (ws.set j _).length; rw [List.length_set]; exact hav) (by show 0 < (ws.set j _).length; rw [List.length_set]; omega)
              have hwc : (wkc ws).length = ws.length * 2 := flatS_len Wk.c 2 (fun _ => rfl) ws
              have hus := hr3.slv.one
              have hwk := wkc_set ws j _ hwj u (st ++ [⟨true, p, i, K.V.getD (p * 16 + i) 0, ⟨yi, yf, yt, yn⟩⟩])
              have hS4 := hS3.wrote (M3 := M3.set aa (some { cells := (wkc ws).set (j * 2 + 1) u, kind := kd, size := sz })) (al' := wkc (ws.set j ⟨ck, u, st ++ [⟨true, p, i, K.V.getD (p * 16 + i) 0, ⟨yi, yf, yt, yn⟩⟩]⟩)) (by rw [← hwk]; exact g5 _ (List.length_set ..)) (by rw [List.length_set]; exact Nat.le_refl _) (fun i hi hn => List.getElem?_set_ne fun e => g4 (by rw [e]; exact hn))
              (repeat (first | ((with_reducible refine Step.id ?_); first | ((with_reducible apply Step.field (k := 1)); exact rfl; (focus (decide +kernel)); exact rfl) | ((with_reducible apply Step.nilp); exact rfl; exact rfl)) | ((with_reducible apply AWt.step); exact rfl)))
              ((with_reducible apply Step.storeAt); exact rfl; exact rfl; exact g1; (focus (decide +kernel)); exact g2; (focus (show j * 2 + 1 < (wkc ws).length; omega)); exact hus.2; exact hus.1)
              (repeat (((with_reducible apply AWt.done))))
              refine ⟨rfl, _, _, _, hS4, by rw [List.length_set]; omega, List.length_set .., fun k => ?_, hT.step hwj ho e2 e4 u, (by repeat (first | exact trivial | (refine And.intro rfl ?_)))⟩
              rw [getD_set_wk hj]
              split
              · show (st ++ [_]).length ≤ _; rw [List.length_append]; exact Nat.succ_le_succ hstj
              · exact Nat.le_succ_of_le (hst k)
        · rintro t' M2 ⟨ow2, cs2, ws2, hS2, hl2, hw2, hst2, hT2, hsl⟩
          refine InBlk.n ?_
          refine Then.n ?_
          refine AW.weak (fr_all hsl) ?_
          clear hsl
          refine AW.rebase ?_
          (repeat (first | (with_reducible refine AWo.cons ?_) | ((with_reducible refine Step.id ?_); first | ((with_reducible apply Step.move); exact rfl; exact rfl) | ((with_reducible apply Step.assign); exact rfl; exact rfl)) | (with_reducible refine AWo.nil ?_) | ((with_reducible apply AW.seq)) | ((with_reducible apply Then.n)) | ((with_reducible apply AW.regL))))
          (refine AW.ret ?_; (repeat (first | refine Then.r ?_ | refine InBlk.r ?_)))
          exact ⟨_, rfl, ow2, av, 0, _, B, _, ws2, rfl, by rw [List.append_nil]; exact hl2, by rw [List.append_nil]; exact hS2, by omega, hst2, by omega, .inl ⟨rfl, hT2⟩⟩
end Go.Proofs.Ytabdnepfcohncaa.Abs
namespace Go.Proofs.Ytabdnepfcohncaa.Abs
set_option linter.unusedSimpArgs false
set_option linter.unusedVariables false
open Go.RowKit
open Go.Proofs.Ytabdnepfcohncaa.Sim
open Go.Proofs
theorem ze81 : zeroB Try.prog 81 = some #[.bool false, .int .i64 0, .int .i64 0, .int .i64 0, .int .i64 0, .int .i64 0, .int .i64 0, .int .i64 0] := by kernel_rfl
theorem Shop.start (m : AM) {M : AM} (hM : M = m ++ [some { cells := bkc Bk.new.H Bk.new.C (.slice none 0 0) }, some { cells := bkc Bk.new.H Bk.new.C (.slice none 0 0) }]) : Shop m (fun j => if j = m.length then 0 else 1) M m.length (m.length + 1) Bk.new (.slice none 0 0) [] (.slice none 0 0) [] [] [] := by
  have e0 : M[m.length]? = some (some { cells := bkc Bk.new.H Bk.new.C (.slice none 0 0) }) := by rw [hM, List.getElem?_append_right (Nat.le_refl _), Nat.sub_self]; rfl
  have e1 : M[m.length + 1]? = some (some { cells := bkc Bk.new.H Bk.new.C (.slice none 0 0) }) := by rw [hM, List.getElem?_append_right (by omega), Nat.add_sub_cancel_left]; rfl
  have hl : M.length = m.length + 2 := by rw [hM, List.length_append]; rfl
  refine ⟨⟨by omega, fun j hj => ⟨by rw [hM]; exact List.getElem?_append_left hj, if_neg (by omega)⟩, ?_, dobj_mono⟩, ⟨fun i => ?_, fun i j _ a ha => ?_⟩, Nat.le_succ _, by omega, if_neg (by omega), e1, by omega⟩
  · rintro (_ | _ | k)
    · exact ⟨.slice none 0 0, Nat.zero_le _, vw_some.2 ⟨if_pos rfl, e0⟩, Good.new.lH, Good.new.lC, ⟨[], Row.nil, fun k hk => absurd hk (Nat.not_lt_zero _)⟩⟩
    · exact Row.nil
    · intro c hc; simp at hc
  · rcases i with _ | _ | i
    · exact Row.nil
    · exact Row.nil
    · exact Row.nil
  · rcases i with _ | _ | i <;> exact absurd NotOf.nil ha
section
variable {m : AM} {ow : Nat → Nat} {M : AM} {bk bk2 : Nat} {B : Bk} {av wv : Value} {al wl : List Value} {cs : List (Nat × Option Ck)} {ws : List Wk}
theorem Shop.slv {wl' : List Value} (h : Shop m ow M bk bk2 B av al wv wl cs ws) (hT : Tale B wl' cs ws) {i : Nat} (hi : i < B.P.length) : SlV (wl'.getD i default) := by
  rcases hT.rec_ i hi with e | ⟨k, w, ck, K, a, q1, q2, q3, _⟩
  · rw [e]; exact (Row.nil (M := M) (b0 := 0) (s := 1)).slv
  · rw [q3]
    have := (h.row (k + 2)).slv
    simp only [lvs, List.getD_eq_getElem?_getD, q1, Option.getD_some] at this
    exact this
end
theorem bs73 {m : AM} {k : Nat} {v : Value} (h : SlV v := by assumption) : abuildSlice Try.prog m k 73 1 [(0, v)] = some (.slice (some ⟨k, 0, none⟩) 1 1, m.set k (some { cells := [v] })) := by
  rcases h with rfl | ⟨a, o, n, c, rfl⟩
  · kernel_rfl
  · kernel_rfl
end Go.Proofs.Ytabdnepfcohncaa.Abs
namespace Go.Proofs.Ytabdnepfcohncaa.Abs
set_option linter.unusedSimpArgs false
set_option linter.unusedVariables false
open Go.RowKit
open Go.Proofs.Ytabdnepfcohncaa.Sim
open Go.Proofs
structure Redo (m : AM) (ow : Nat → Nat) (M : AM) (bk bk2 : Nat) (B : Bk) (pv : Value) (B2 : Bk) (wv : Value) (wl : List Value) (cs2 : List (Nat × Option Ck)) (ws : List Wk) : Prop where
  side : Side m ow M (cobj bk2 B2 cs2)
  what : Row (vw (fun j => ow j = 1) M) (m.length + 2) 1 wv wl wl.length
  steps : ∀ (k : Nat) (w : Wk), ws[k]? = some w → Row (vw (fun j => ow j = 1) M) (m.length + 2) 8 w.sv (stc w.st) w.st.length
  book : BookAt (vw (fun j => ow j = 1) M) 0 bk B pv
section
variable {m : AM} {ow : Nat → Nat} {M : AM} {bk bk2 : Nat} {B B2 : Bk} {pv av wv : Value} {al wl : List Value} {cs cs2 : List (Nat × Option Ck)} {ws : List Wk}
theorem Redo.call {ow' : Nat → Nat} {M2 : AM} {B' : Bk} {cs' : List (Nat × Option Ck)} (h : Redo m ow M bk bk2 B pv B2 wv wl cs2 ws) (hl : M.length ≤ M2.length) (hk : ∀ j, j < M.length → ow j = 1 → M2[j]? = M[j]? ∧ ow' j = 1) (hS : Side m ow' M2 (cobj bk2 B' cs')) : Redo m ow' M2 bk bk2 B pv B' wv wl cs' ws :=
  have hs := own_sub hl hk
  ⟨hS, h.what.msub hs, fun k w hw => (h.steps k w hw).msub hs, h.book.msub hs⟩
theorem Redo.app (h : Redo m ow M bk bk2 B pv B2 wv wl cs2 ws) (N : AM) (i : Nat) : Redo m (asg ow M.length i) (M ++ N) bk bk2 B pv B2 wv wl cs2 ws :=
  h.call (by rw [List.length_append]; omega) (fun j hj ho => ⟨List.getElem?_append_left hj, by rw [asg_lt hj]; exact ho⟩) (h.side.app N i)
theorem Shop.redo (h : Shop m ow M bk bk2 B av al wv wl cs ws) : ∃ pv, Redo m (fun j => if j = bk2 then 0 else 1) M bk bk2 B pv Bk.new wv wl [] ws := by
  obtain ⟨pv, hB⟩ := h.side.at_ 0
  have lo := h.lo
  have hi := h.hi
  have rv : ∀ {s : Nat} {u : Value} {c : List Value} {n : Nat}, Row M (m.length + 2) s u c n → Row (vw (fun j => (if j = bk2 then 0 else 1) = 1) M) (m.length + 2) s u c n := fun hr => hr.vw2 fun a ha => by
    refine if_neg fun e => ha ?_
    exact NotOf.row hr (by omega)
  refine ⟨pv, ⟨⟨h.side.len, fun j hj => ⟨(h.side.base j hj).1, if_neg (by omega)⟩, ?_, dobj_mono⟩, rv (h.row 1), fun k w hw => rv ?_, hB.msub ⟨by rw [vw_len, vw_len]; exact Nat.le_refl _, fun i b _ hi => ?_⟩⟩⟩
  · rintro (_ | _ | k)
    · exact ⟨.slice none 0 0, Nat.zero_le _, vw_some.2 ⟨if_pos rfl, h.new⟩, Good.new.lH, Good.new.lC, ⟨[], Row.nil, fun k hk => absurd hk (Nat.not_lt_zero _)⟩⟩
    · exact Row.nil
    · intro c hc; simp at hc
  · have := h.row (k + 2)
    simp only [lvs, lcc, lns, lsz, List.getD_eq_getElem?_getD, hw, Option.getD_some] at this
    exact this
  · obtain ⟨q1, q2⟩ := vw_some.1 hi
    refine vw_some.2 ⟨if_neg fun e => ?_, q2⟩
    have := h.two
    rw [← e, q1] at this
    cases this
theorem Redo.bookM (h : Redo m ow M bk bk2 B pv B2 wv wl cs2 ws) : BookAt M 0 bk B pv := h.book.msub (Sub.vw _ _).m
theorem Redo.whatM (h : Redo m ow M bk bk2 B pv B2 wv wl cs2 ws) : Row M (m.length + 2) 1 wv wl wl.length := h.what.msub (Sub.vw _ _).m
theorem Redo.stepsM (h : Redo m ow M bk bk2 B pv B2 wv wl cs2 ws) {k : Nat} {w : Wk} (hw : ws[k]? = some w) : Row M (m.length + 2) 8 w.sv (stc w.st) w.st.length := (h.steps k w hw).msub (Sub.vw _ _).m
end
theorem OKK.goS {K : Ck} (h : OKK K) {s : Stp} (hs : okS K s) : OKK (goS K s) := by
  rcases hs with ⟨q1, q2, q3, q4⟩ | ⟨q1, q2, q3⟩
  · have := h.chF (s.p : Int) (s.i : Int)
    rw [chF_in h q2 q3] at this
    unfold Abs.goS
    rw [if_pos q1]
    exact this
  · have := h.moF s.x
    unfold Abs.moF at this
    rw [if_neg (by rw [h.dn]; simp), if_pos q2, if_neg (by omega)] at this
    unfold Abs.goS
    rw [if_neg (by rw [q1]; simp)]
    exact this
theorem goS_read {K : Ck} (h : OKK K) {s : Stp} (hs : okS K s) (hr : s.rd = true) : heR (some K) s.p s.i = (s.n, 0) ∧ heO (some K) s.p s.i = some (goS K s) := by
  rcases hs with ⟨q1, q2, q3, q4⟩ | ⟨q1, _⟩
  · obtain ⟨e1, e2⟩ := heO_in h q2 q3
    exact ⟨by rw [e1, q4], by rw [e2]; unfold goS; rw [if_pos q1]⟩
  · rw [hr] at q1; cases q1
theorem goS_move {K : Ck} (h : OKK K) {s : Stp} (hs : okS K s) (hr : s.rd = false) : moE (some K) s.x = 0 ∧ moO (some K) s.x = some (goS K s) := by
  rcases hs with ⟨q1, _⟩ | ⟨q1, q2, q3⟩
  · rw [hr] at q1; cases q1
  · simp only [moE, moO, Option.map_some]
    unfold moF goS
    rw [if_neg (by rw [h.dn]; simp), if_pos q2, if_neg (by omega), if_neg (by rw [q1]; simp)]
    exact ⟨rfl, rfl⟩
theorem set_last {α : Type} (l : List α) (x y : α) : (l ++ [x]).set l.length y = l ++ [y] := by
  rw [List.set_append_right _ _ (Nat.le_refl _), Nat.sub_self]; rfl
theorem get_last {α : Type} (l : List α) (x : α) : (l ++ [x])[l.length]? = some x := by
  rw [List.getElem?_append_right (Nat.le_refl _), Nat.sub_self]; rfl
/-- What is known of post k. -/
theorem Tale.at_ {B : Bk} {wl : List Value} {cs : List (Nat × Option Ck)} {ws : List Wk} (h : Tale B wl cs ws) {k : Nat} (hk : k < B.P.length) :
    (wl.getD k default = .slice none 0 0) ∨ ∃ (j : Nat) (w : Wk) (K : Ck), ws[j]? = some w ∧ wl.getD k default = w.sv ∧ 0 < w.st.length ∧ Ran ⟨k, (bkP (B.P.take k)).H, [], [], false⟩ w.st K ∧ coF K (bkP (B.P.take k)) = (((k + 1 : Nat) : Int), (0 : Int), bkP (B.P.take (k + 1))) := by
  rcases h.rec_ k hk with e | ⟨j, w, ck, K, a, q1, q2, q3, q4, q5, q6, q7, q8⟩
  · exact .inl e
  · obtain ⟨K', r1, r2⟩ := serial h.built q4 hk q5 q6 q7 q8
    refine .inr ⟨j, w, K', q1, q3, ?_, r1, r2⟩
    rcases Nat.eq_zero_or_pos w.st.length with e | e
    · exfalso
      have e0 : w.st = [] := List.eq_nil_of_length_eq_zero e
      have hK := q5.go
      rw [e0] at hK
      have hm : K.mv = [] := by rw [← hK]; rfl
      rw [hm] at q8
      have := postB_all (postF_zero ((h.built.take k (by omega)).2.2 hk)).1
      rw [← q8] at this
      simp at this
    · exact e
theorem Tale.post_at {B : Bk} {wl : List Value} {cs : List (Nat × Option Ck)} {ws : List Wk} (h : Tale B wl cs ws) {k : Nat} (hk : k < B.P.length) :
    Good (bkP (B.P.take k)) ∧ (bkP (B.P.take k)).P.length = k ∧ (B.P.getD k []).length ≤ 16 ∧ postF (bkP (B.P.take k)) (B.P.getD k []) = (bkP (B.P.take (k + 1)), ((k + 1 : Nat) : Int), (0 : Int)) := by
  obtain ⟨g1, g2, g3⟩ := h.built.take k (by omega)
  have hz := g3 hk
  have hl : (bkP (B.P.take k)).P.length = k := by rw [g2, List.length_take]; omega
  refine ⟨g1.good, hl, (postB_all (postF_zero hz).1).2.1, ?_⟩
  rw [take_snoc' hk, bkP_snoc]
  have e1 := postF_num hz
  rw [hl] at e1
  exact Prod.ext rfl (Prod.ext e1 hz)
end Go.Proofs.Ytabdnepfcohncaa.Abs
namespace Go.Proofs.Ytabdnepfcohncaa.Abs
set_option linter.unusedSimpArgs false
set_option linter.unusedVariables false
open Go.RowKit
open Go.Proofs.Ytabdnepfcohncaa.Sim
open Go.Proofs
set_option maxHeartbeats 32000000 in
set_option maxRecDepth 100000 in
theorem StockSerial_ok {m : AM} (hw : ∀ M : AM, ACall Try.prog 16 #[] M (Ret (.bool true) M)) {v : Value} {ds : List Deed} (h : Deeds m v ds) (hn : ds.length ≤ 9223372036854775807) (hl : ∀ k, (ds.getD k default).l.length ≤ 9223372036854775807) : ACall Try.prog 8 #[v] m (Ret (.bool true) m) := by
  refine ACall.drop (.bool _) ?_
  obtain ⟨a, o, h1, h2, h3⟩ := h
  refine ACall.start Try.func8 rfl rfl ?_
  (repeat (first | (with_reducible refine AWo.cons ?_) | ((with_reducible refine Step.id ?_); first | ((with_reducible apply Step.gdT); exact rfl; exact rfl; (focus (rfl))) | ((with_reducible apply Step.move); exact rfl; exact rfl) | ((with_reducible apply Step.assign); exact rfl; exact rfl) | ((with_reducible apply Step.ptrNot); exact rfl; exact rfl; exact un49; exact rfl) | ((with_reducible apply Step.len); exact rfl; (focus (assumption)); (focus (decide +kernel)); exact rfl) | ((with_reducible apply Step.pickF); exact rfl; exact rfl; exact rfl; exact rfl; (focus (rfl))) | ((with_reducible apply Step.callL fit (k := 0)); exact rfl; exact rfl; exact Try.func27; exact rfl; exact rfl; exact (NewBook_ok); (focus (first | (simp only [List.nil_append, List.cons_append, List.set_cons_zero, List.set_cons_succ, iv_set, bv_set, iv_rep, bv_rep]; done) | (simp only [List.nil_append, List.cons_append, List.set_cons_zero, List.set_cons_succ, iv_set, bv_set, iv_rep, bv_rep]; rfl) | rfl))) | ((with_reducible apply Step.callL fit (k := 1)); exact rfl; exact rfl; exact Try.func27; exact rfl; exact rfl; exact (NewBook_ok); (focus (first | (simp only [List.nil_append, List.cons_append, List.set_cons_zero, List.set_cons_succ, iv_set, bv_set, iv_rep, bv_rep]; done) | (simp only [List.nil_append, List.cons_append, List.set_cons_zero, List.set_cons_succ, iv_set, bv_set, iv_rep, bv_rep]; rfl) | rfl)))) | (with_reducible refine AWo.nil ?_) | ((with_reducible apply AW.seq)) | ((with_reducible apply Then.n)) | ((with_reducible apply AW.regL)) | ((with_reducible apply AW.block)) | ((with_reducible apply AW.skip)) | ((with_reducible apply AW.condF); exact rfl; (focus (rfl)))))
  refine AW.midX 0 (fun t' M => ∃ (ow : Nat → Nat) (bk bk2 : Nat) (B : Bk) (av wv : Value) (wl : List Value) (cs : List (Nat × Option Ck)) (ws : List Wk), Shop m ow M bk bk2 B av (wkc ws) wv wl cs ws ∧ Tale B wl cs ws ∧ B.P.length ≤ 81 ∧ (∀ j, (ws.getD j default).st.length ≤ 81) ∧
    All (fun i v => t' i = some v) [(3, .pointer (some ⟨bk, 0, none⟩)), (4, .pointer (some ⟨bk2, 0, none⟩)), (6, wv)]) ?_ ?_
  · refine AW.loopW (fun q t M => ∃ (k : Nat) (ow : Nat → Nat) (bk bk2 : Nat) (B : Bk) (av wv : Value) (wl : List Value) (cs : List (Nat × Option Ck)) (ws : List Wk), q = ds.length - k ∧ k ≤ ds.length ∧ k ≤ 81 ∧ Shop m ow M bk bk2 B av (wkc ws) wv wl cs ws ∧ Tale B wl cs ws ∧ B.P.length ≤ k ∧ ws.length ≤ k ∧ (∀ j, (ws.getD j default).st.length ≤ k) ∧
      t = fr [(3, .pointer (some ⟨bk, 0, none⟩)), (4, .pointer (some ⟨bk2, 0, none⟩)), (5, av), (6, wv), (32, v), (33, .int .i64 (ds.length : Nat)), (34, .int .i64 (k : Nat))])
      ⟨_, _, (by repeat (first | exact trivial | (refine And.intro rfl ?_))), 0, _, m.length + 0, m.length + 1, Bk.new, .slice none 0 0, .slice none 0 0, [], [], [], rfl, Nat.zero_le _, Nat.zero_le _, Shop.start m rfl, Tale.new, Nat.zero_le _, Nat.zero_le _, fun j => Nat.zero_le _, rfl⟩ ?_
    rintro q t M ⟨k, ow, bk, bk2, B, av, wv, wl, cs, ws, rfl, hk, hk81, hS, hT, hPl, hwl, hst, rfl⟩
    rcases Nat.lt_or_ge k ds.length with hlt | hge
    · obtain ⟨w, g1, g2⟩ := h3 k hlt
      have hM0 := hS.side.sub
      have g1' := fun T => (g1.sub hM0).old T
      have hle := hl k
      generalize ds.getD k default = x at *
      have hw1 : (Value.agg (x.cells w).toArray).cells.all (·.oneCell') = true := by obtain ⟨aa, oo, hs, _⟩ := g2; exact Deed.one hs
      refine AW.rebase ?_
      by_cases h80 : 80 < k
      · (repeat (first | (with_reducible refine AWo.cons ?_) | ((with_reducible refine Step.id ?_); first | ((with_reducible apply Step.move); exact rfl; exact rfl) | ((with_reducible apply Step.assign); exact rfl; exact rfl) | ((with_reducible apply Step.loadL (n := 5)); exact rfl; (focus (decide +kernel)); (focus (decide +kernel)); exact rfl; (focus (exact g1' _)); exact rfl; exact rfl) | ((with_reducible apply Step.ix (s := 5)); exact rfl; (focus (assumption)); exact rfl; (focus (decide +kernel)); exact rfl; (focus (omega))) | ((with_reducible apply Step.lss); exact rfl; exact rfl; exact rfl) | ((with_reducible apply Step.gtr); exact rfl; exact rfl; exact rfl) | ((with_reducible apply Step.alloc 0); exact rfl; exact ze52; exact rfl; (focus (first | (simp only [List.nil_append, List.cons_append, List.set_cons_zero, List.set_cons_succ, iv_set, bv_set, iv_rep, bv_rep]; done) | (simp only [List.nil_append, List.cons_append, List.set_cons_zero, List.set_cons_succ, iv_set, bv_set, iv_rep, bv_rep]; rfl) | rfl))) | ((with_reducible apply Step.storeA (k := 0) (n := 5)); exact rfl; exact rfl; exact rfl; exact rfl; (focus (decide +kernel)); exact rfl; (focus (first | assumption | exact hw1)); exact rfl; (focus (first | (simp only [List.nil_append, List.cons_append, List.set_cons_zero, List.set_cons_succ, iv_set, bv_set, iv_rep, bv_rep]; done) | (simp only [List.nil_append, List.cons_append, List.set_cons_zero, List.set_cons_succ, iv_set, bv_set, iv_rep, bv_rep]; rfl) | rfl)))) | (with_reducible refine AWo.nil ?_) | ((with_reducible apply AW.seq)) | ((with_reducible apply Then.n)) | ((with_reducible apply AW.regL)) | ((with_reducible apply AW.block)) | ((with_reducible apply AW.exit)) | ((with_reducible apply InBlk.miss); exact rfl) | ((with_reducible apply Then.e)) | ((with_reducible apply AW.skip)) | ((with_reducible apply AW.condT); exact rfl; (focus ((simp only [decide_eq_true_eq, decide_eq_false_iff_not, Bool.not_eq_true', Bool.not_eq_false', Bool.not_true, Bool.not_false]; first | assumption | omega))))))
        exact ⟨rfl, _, bk, bk2, B, av, wv, wl, cs, ws, hS.app _ 1, hT, by omega, fun j => Nat.le_trans (hst j) (by omega), (by repeat (first | exact trivial | (refine And.intro rfl ?_)))⟩
      · obtain ⟨X, hX⟩ : ∃ X : AM, X = M ++ [some { cells := x.cells w }] := ⟨_, rfl⟩
        have hSX : Shop m (asg ow M.length 1) X bk bk2 B av (wkc ws) wv wl cs ws := by rw [hX]; exact hS.app _ 1
        have hW := Works_ok hSX hT (by omega) (by omega) (L := k) (by omega) hst g2 hle
        (repeat (first | (with_reducible refine AWo.cons ?_) | ((with_reducible refine Step.id ?_); first | ((with_reducible apply Step.move); exact rfl; exact rfl) | ((with_reducible apply Step.assign); exact rfl; exact rfl) | ((with_reducible apply Step.loadL (n := 5)); exact rfl; (focus (decide +kernel)); (focus (decide +kernel)); exact rfl; (focus (first | exact RdL.new rfl rfl | exact g1' _)); exact rfl; exact rfl) | ((with_reducible apply Step.ix (s := 5)); exact rfl; (focus (assumption)); exact rfl; (focus (decide +kernel)); exact rfl; (focus (omega))) | ((with_reducible apply Step.lss); exact rfl; exact rfl; exact rfl) | ((with_reducible apply Step.gtr); exact rfl; exact rfl; exact rfl) | ((with_reducible apply Step.alloc 0); exact rfl; exact ze52; exact rfl; (focus (first | (simp only [List.nil_append, List.cons_append, List.set_cons_zero, List.set_cons_succ, iv_set, bv_set, iv_rep, bv_rep]; done) | (simp only [List.nil_append, List.cons_append, List.set_cons_zero, List.set_cons_succ, iv_set, bv_set, iv_rep, bv_rep]; rfl) | rfl))) | ((with_reducible apply Step.storeA (k := 0) (n := 5)); exact rfl; exact rfl; exact rfl; exact rfl; (focus (decide +kernel)); exact rfl; (focus (first | assumption | exact hw1)); exact rfl; (focus (first | (simp only [List.nil_append, List.cons_append, List.set_cons_zero, List.set_cons_succ, iv_set, bv_set, iv_rep, bv_rep]; done) | (simp only [List.nil_append, List.cons_append, List.set_cons_zero, List.set_cons_succ, iv_set, bv_set, iv_rep, bv_rep]; rfl) | rfl)))) | (with_reducible refine AWo.nil ?_) | ((with_reducible apply AW.seq)) | ((with_reducible apply Then.n)) | ((with_reducible apply AW.regL)) | ((with_reducible apply AW.block)) | ((with_reducible apply AW.skip)) | ((with_reducible apply AW.condT); exact rfl; (focus ((simp only [decide_eq_true_eq, decide_eq_false_iff_not, Bool.not_eq_true', Bool.not_eq_false', Bool.not_true, Bool.not_false]; first | assumption | omega)))) | ((with_reducible apply AW.condF); exact rfl; (focus ((simp only [decide_eq_true_eq, decide_eq_false_iff_not, Bool.not_eq_true', Bool.not_eq_false', Bool.not_true, Bool.not_false]; first | assumption | omega))))))
        rw [show (M ++ [some { cells := (Value.agg (x.cells w).toArray).cells.toList }] : AM) = X from hX.symm]
        ((with_reducible apply Step.callF fit); exact rfl; exact Try.func38; exact rfl; exact rfl; exact hW)
        rintro r2 M2 ⟨ow2, u, n, sl, B2, cs2, ws2, rfl, hl2, hS2, hw2, hst2, hp2, hres⟩
        rw [← List.append_nil M2]
        rcases hres with ⟨rfl, hT2⟩ | ⟨en, hb2, hT2⟩
        · (repeat (first | (with_reducible refine AWo.cons ?_) | ((with_reducible refine Step.id ?_); first | ((with_reducible apply Step.move); exact rfl; exact rfl) | ((with_reducible apply Step.assign); exact rfl; exact rfl) | ((with_reducible apply Step.add); exact rfl; exact rfl; (focus (omega)); exact rfl) | ((with_reducible apply Step.neq); exact rfl; exact rfl; exact rfl) | ((with_reducible apply Step.extract); exact rfl; exact rfl; exact rfl)) | (with_reducible refine AWo.nil ?_) | ((with_reducible apply AW.seq)) | ((with_reducible apply Then.n)) | ((with_reducible apply AW.regL)) | ((with_reducible apply InBlk.n)) | ((with_reducible apply AW.skip)) | ((with_reducible apply AW.condF); exact rfl; (focus (rfl)))))
          exact ⟨_, [(3, .pointer (some ⟨bk, 0, none⟩)), (4, .pointer (some ⟨bk2, 0, none⟩)), (5, u), (6, wv), (32, v), (33, .int .i64 (ds.length : Nat)), (34, .int .i64 (k + 1 : Nat))], by omega, (by repeat (first | exact trivial | (refine And.intro rfl ?_))), k + 1, ow2, bk, bk2, B2, u, wv, wl, cs2, ws2, rfl, by omega, by omega, by rw [List.append_nil]; exact hS2, hT2, by omega, by omega, hst2, rfl⟩
        · have hslv : SlV sl := by
            have := hS2.slv hT2 (i := wl.length) (by omega)
            rwa [show (wl ++ [sl]).getD wl.length default = sl by simp] at this
          have hr2 : Row M2 (m.length + 2) 1 wv wl wl.length := hS2.row 1
          have hbg := hS2.big
          subst en
          (repeat (first | (with_reducible refine AWo.cons ?_) | ((with_reducible refine Step.id ?_); first | ((with_reducible apply Step.move); exact rfl; exact rfl) | ((with_reducible apply Step.assign); exact rfl; exact rfl) | ((with_reducible apply Step.neq); exact rfl; exact rfl; exact rfl) | ((with_reducible apply Step.extract); exact rfl; exact rfl; exact rfl) | ((with_reducible apply Step.buildS 0); exact rfl; exact rfl; exact (fun _ _ => bs73); exact rfl; (focus (first | (simp only [List.nil_append, List.cons_append, List.set_cons_zero, List.set_cons_succ, iv_set, bv_set, iv_rep, bv_rep]; done) | (simp only [List.nil_append, List.cons_append, List.set_cons_zero, List.set_cons_succ, iv_set, bv_set, iv_rep, bv_rep]; rfl) | rfl)))) | (with_reducible refine AWo.nil ?_) | ((with_reducible apply AW.seq)) | ((with_reducible apply Then.n)) | ((with_reducible apply AW.regL)) | ((with_reducible apply AW.condT); exact rfl; (focus ((simp only [decide_eq_true_eq, decide_eq_false_iff_not, Bool.not_eq_true', Bool.not_eq_false', Bool.not_true, Bool.not_false]; first | assumption | omega))))))
          ((with_reducible apply Step.appRow2 (n := wl.length) (xl := 1) (b0 := m.length + 2) (new := [sl])); exact rfl; exact rfl; exact (hr2.old _); exact (Sl.mk (Nat.le_refl _)); exact (fun _ => RdL.new rfl rfl); exact el73; exact un73; exact rfl; (focus (simp [hslv.one.1])); exact rfl; (focus (have := hT.len; omega)); exact rfl; (focus (rw [List.length_append]; omega)))
          intro u' M3 hr3 hml3 hk3 hk4
          have hS3 := (hS2.app [some { cells := [sl] }] 1).done hr3 hml3 hk3 hk4
          obtain ⟨pv, hB⟩ := hS3.side.book
          have hbl := hB.lt
          have hLs := fun T => Last_ok (hB.old T)
          obtain ⟨a3, hs3, _⟩ := hr3.sl (by omega)
          rw [← List.append_nil M3]
          (repeat (first | (with_reducible refine AWo.cons ?_) | ((with_reducible refine Step.id ?_); first | ((with_reducible apply Step.gdT); exact rfl; exact rfl; (focus ((simp only [decide_eq_true_eq, decide_eq_false_iff_not, Bool.not_eq_true', Bool.not_eq_false', Bool.not_true, Bool.not_false]; first | assumption | omega)))) | ((with_reducible apply Step.move); exact rfl; exact rfl) | ((with_reducible apply Step.assign); exact rfl; exact rfl) | ((with_reducible apply Step.add); exact rfl; exact rfl; (focus (omega)); exact rfl) | ((with_reducible apply Step.neq); exact rfl; exact rfl; exact rfl) | ((with_reducible apply Step.len); exact rfl; (focus (assumption)); (focus (decide +kernel)); exact rfl) | ((with_reducible apply Step.pickF); exact rfl; exact rfl; exact rfl; exact rfl; (focus ((simp only [decide_eq_true_eq, decide_eq_false_iff_not, Bool.not_eq_true', Bool.not_eq_false', Bool.not_true, Bool.not_false]; first | assumption | omega)))) | ((with_reducible apply Step.callR fit); exact rfl; exact Try.func39; exact rfl; exact rfl; exact (hLs _))) | (with_reducible refine AWo.nil ?_) | ((with_reducible apply AW.seq)) | ((with_reducible apply Then.n)) | ((with_reducible apply AW.regL)) | ((with_reducible apply InBlk.n)) | ((with_reducible apply AW.skip)) | ((with_reducible apply AW.condF); exact rfl; (focus ((simp; done))))))
          exact ⟨_, [(3, .pointer (some ⟨bk, 0, none⟩)), (4, .pointer (some ⟨bk2, 0, none⟩)), (5, u), (6, u'), (32, v), (33, .int .i64 (ds.length : Nat)), (34, .int .i64 (k + 1 : Nat))], by omega, (by repeat (first | exact trivial | (refine And.intro rfl ?_))), k + 1, _, bk, bk2, B2, u, u', wl ++ [sl], cs2, ws2, rfl, by omega, by omega, by rw [List.append_nil]; exact hS3, hT2, by omega, by omega, hst2, rfl⟩
    · obtain rfl : k = ds.length := by omega
      (repeat (first | (with_reducible refine AWo.cons ?_) | ((with_reducible refine Step.id ?_); ((with_reducible apply Step.lss); exact rfl; exact rfl; exact rfl)) | (with_reducible refine AWo.nil ?_) | ((with_reducible apply AW.seq)) | ((with_reducible apply Then.n)) | ((with_reducible apply AW.regL)) | ((with_reducible apply AW.exit)) | ((with_reducible apply Then.e)) | ((with_reducible apply AW.condF); exact rfl; (focus ((simp only [decide_eq_true_eq, decide_eq_false_iff_not, Bool.not_eq_true', Bool.not_eq_false', Bool.not_true, Bool.not_false]; first | assumption | omega))))))
      exact ⟨rfl, ow, bk, bk2, B, av, wv, wl, cs, ws, hS, hT, by omega, fun j => Nat.le_trans (hst j) (by omega), (by repeat (first | exact trivial | (refine And.intro rfl ?_)))⟩
  · rintro t' M ⟨ow, bk, bk2, B, av, wv, wl, cs, ws, hS, hT, hPl, hst, hsl⟩
    refine InBlk.hit ?_
    refine Then.n ?_
    refine AW.weak (fr_all hsl) ?_
    clear hsl
    refine AW.rebase ?_
    have hG := hT.built.good
    have hwl := hT.len
    have hre : ∀ (k : Nat) (w : Wk), ws[k]? = some w → w.st.length ≤ 81 := fun k w hw => by have := hst k; rwa [List.getD_eq_getElem?_getD, hw] at this
    obtain ⟨pv, hR⟩ := hS.redo
    obtain ⟨wa, hwa, _, _⟩ := hR.whatM.sl (by have := hS.big; omega)
    (repeat (first | (with_reducible refine AWo.cons ?_) | ((with_reducible refine Step.id ?_); first | ((with_reducible apply Step.move); exact rfl; exact rfl) | ((with_reducible apply Step.len); exact rfl; (focus (assumption)); (focus (decide +kernel)); exact rfl)) | (with_reducible refine AWo.nil ?_) | ((with_reducible apply AW.seq)) | ((with_reducible apply Then.n)) | ((with_reducible apply AW.regL)) | ((with_reducible apply AW.block))))
    refine AW.midX 2 (fun t' M => ∃ (ow : Nat → Nat) (cs2 : List (Nat × Option Ck)), Redo m ow M bk bk2 B pv B wv wl cs2 ws ∧ All (fun i v => t' i = some v) [(3, .pointer (some ⟨bk, 0, none⟩)), (4, .pointer (some ⟨bk2, 0, none⟩))]) ?_ ?_
    · refine AW.loopW (fun q t M => ∃ (k : Nat) (ow : Nat → Nat) (cs2 : List (Nat × Option Ck)), q = wl.length - k ∧ k ≤ wl.length ∧ Redo m ow M bk bk2 B pv (bkP (B.P.take k)) wv wl cs2 ws ∧
        t = fr [(3, .pointer (some ⟨bk, 0, none⟩)), (4, .pointer (some ⟨bk2, 0, none⟩)), (66, wv), (67, .int .i64 (wl.length : Nat)), (68, .int .i64 (k : Nat))])
        ⟨_, _, (by repeat (first | exact trivial | (refine And.intro rfl ?_))), 0, _, _, rfl, Nat.zero_le _, by rw [List.append_nil]; exact hR, rfl⟩ ?_
      clear hR hS
      rintro q t M ⟨k, ow, cs2, rfl, hk, hR, rfl⟩
      rcases Nat.lt_or_ge k wl.length with hlt | hge
      · obtain ⟨hG2, hl2, hl16, hpo⟩ := hT.post_at (k := k) (by omega)
        have hwk : wl[k]? = some (wl.getD k default) := by rw [List.getD_eq_getElem?_getD, List.getElem?_eq_getElem hlt]; rfl
        have hwr := fun T => hR.whatM.rd (a := wa) hwa (by omega) hwk T
        have hbk := hR.bookM
        rcases hT.at_ (k := k) (by omega) with e | ⟨j, w, K, q1, q2, q3, q4, q5⟩
        · rw [e] at hwr
          refine AW.rebase ?_
          (repeat (first | (with_reducible refine AWo.cons ?_) | ((with_reducible refine Step.id ?_); first | ((with_reducible apply Step.move); exact rfl; exact rfl) | ((with_reducible apply Step.assign); exact rfl; exact rfl) | ((with_reducible apply Step.load); exact rfl; (focus (decide +kernel)); exact rfl; (focus (exact hwr _))) | ((with_reducible apply Step.ix1z); exact rfl; (focus (assumption)); exact rfl; (focus (decide +kernel)); exact rfl; (focus (omega))) | ((with_reducible apply Step.add); exact rfl; exact rfl; (focus (omega)); exact rfl) | ((with_reducible apply Step.lss); exact rfl; exact rfl; exact rfl) | ((with_reducible apply Step.eql); exact rfl; exact rfl; exact rfl) | ((with_reducible apply Step.len); exact rfl; (focus (exact Sl.nil 0 0)); (focus (decide +kernel)); exact rfl)) | (with_reducible refine AWo.nil ?_) | ((with_reducible apply AW.seq)) | ((with_reducible apply Then.n)) | ((with_reducible apply AW.regL)) | ((with_reducible apply AW.block)) | ((with_reducible apply AW.skip)) | ((with_reducible apply AW.condT); exact rfl; (focus (first | rfl | (simp only [decide_eq_true_eq, decide_eq_false_iff_not, Bool.not_eq_true', Bool.not_eq_false', Bool.not_true, Bool.not_false]; first | assumption | omega))))))
          ((with_reducible apply Step.callX fit); exact rfl; exact Try.func40; exact rfl; exact rfl; (focus (rw [List.append_nil]; exact Find_ok hbk (k := k) (by omega) hG.ok (by omega))))
          rintro r1 M1 ⟨N1, hN1⟩ ⟨u, rfl, hu⟩
          rw [List.append_nil] at hN1
          have e18 : (B.P.getD k []).take 18 = B.P.getD k [] := List.take_of_length_le (by omega)
          have hP := hR.side.post (r := u) (l := B.P.getD k []) hN1 (by rw [e18]; exact hu) hG2 (by omega)
          rw [hpo] at hP
          (repeat (first | (with_reducible refine AWo.cons ?_) | ((with_reducible refine Step.id ?_); first | ((with_reducible apply Step.move); exact rfl; exact rfl) | ((with_reducible apply Step.assign); exact rfl; exact rfl) | ((with_reducible apply Step.extract); exact rfl; exact rfl; exact rfl)) | (with_reducible refine AWo.nil ?_) | ((with_reducible apply AW.seq)) | ((with_reducible apply Then.n)) | ((with_reducible apply AW.regL))))
          ((with_reducible apply Step.callF fit); exact rfl; exact Try.func28; exact rfl; exact rfl; (focus (rw [List.append_nil]; exact hP)))
          rintro r2 M2 ⟨rfl, hl3, hk3, ow2, ho2, hS2⟩
          have hR2 := hR.call (by rw [hN1, List.length_append] at hl3; omega) (fun j hj hn => ⟨hk3 j hj (by rw [hn]; decide), by rw [ho2 j hj]; exact hn⟩) hS2
          rw [← List.append_nil M2]
          (repeat (first | (with_reducible refine AWo.cons ?_) | ((with_reducible refine Step.id ?_); first | ((with_reducible apply Step.gdT); exact rfl; exact rfl; (focus (rfl))) | ((with_reducible apply Step.move); exact rfl; exact rfl) | ((with_reducible apply Step.assign); exact rfl; exact rfl) | ((with_reducible apply Step.add); exact rfl; exact rfl; (focus (omega)); exact rfl) | ((with_reducible apply Step.neq); exact rfl; exact rfl; exact rfl) | ((with_reducible apply Step.extract); exact rfl; exact rfl; exact rfl) | ((with_reducible apply Step.pickF); exact rfl; exact rfl; exact rfl; exact rfl; (focus (rfl)))) | (with_reducible refine AWo.nil ?_) | ((with_reducible apply AW.seq)) | ((with_reducible apply Then.n)) | ((with_reducible apply AW.regL)) | ((with_reducible apply AW.exit)) | ((with_reducible apply InBlk.hit)) | ((with_reducible apply Then.e)) | ((with_reducible apply AW.skip)) | ((with_reducible apply AW.condF); exact rfl; (focus ((simp only [decide_eq_true_eq, decide_eq_false_iff_not, Bool.not_eq_true', Bool.not_eq_false', Bool.not_true, Bool.not_false]; first | assumption | omega))))))
          exact ⟨_, [(3, .pointer (some ⟨bk, 0, none⟩)), (4, .pointer (some ⟨bk2, 0, none⟩)), (66, wv), (67, .int .i64 (wl.length : Nat)), (68, .int .i64 (k + 1 : Nat))], by omega, (by repeat (first | exact trivial | (refine And.intro rfl ?_))), k + 1, ow2, cs2, rfl, by omega, by rw [List.append_nil]; exact hR2, rfl⟩
        · rw [q2] at hwr
          refine AW.rebase ?_
          have hsv := (hR.stepsM q1)
          obtain ⟨sa, hsa, _, _⟩ := hsv.sl (by have := hR.side.len; have := hbk.lt; omega)
          have hsl := hre j w q1
          (repeat (first | (with_reducible refine AWo.cons ?_) | ((with_reducible refine Step.id ?_); first | ((with_reducible apply Step.move); exact rfl; exact rfl) | ((with_reducible apply Step.assign); exact rfl; exact rfl) | ((with_reducible apply Step.load); exact rfl; (focus (decide +kernel)); exact rfl; (focus (exact hwr _))) | ((with_reducible apply Step.ix1z); exact rfl; (focus (assumption)); exact rfl; (focus (decide +kernel)); exact rfl; (focus (omega))) | ((with_reducible apply Step.lss); exact rfl; exact rfl; exact rfl) | ((with_reducible apply Step.eql); exact rfl; exact rfl; exact rfl) | ((with_reducible apply Step.len); exact rfl; (focus (assumption)); (focus (decide +kernel)); exact rfl)) | (with_reducible refine AWo.nil ?_) | ((with_reducible apply AW.seq)) | ((with_reducible apply Then.n)) | ((with_reducible apply AW.regL)) | ((with_reducible apply AW.block)) | ((with_reducible apply AW.skip)) | ((with_reducible apply AW.condT); exact rfl; (focus ((simp only [decide_eq_true_eq, decide_eq_false_iff_not, Bool.not_eq_true', Bool.not_eq_false', Bool.not_true, Bool.not_false]; first | assumption | omega)))) | ((with_reducible apply AW.condF); exact rfl; (focus ((simp only [decide_eq_true_eq, decide_eq_false_iff_not, Bool.not_eq_true', Bool.not_eq_false', Bool.not_true, Bool.not_false]; first | assumption | omega))))))
          ((with_reducible apply Step.callF fit); exact rfl; exact Try.func30; exact rfl; exact rfl; (focus (rw [List.append_nil]; exact hR.side.begin)))
          rintro r2 M2 ⟨ow2, rfl, hl3, hk3, hS2⟩
          have hR2 := hR.call hl3 hk3 hS2
          have hK0 : OKK ⟨k, (bkP (B.P.take k)).H, [], [], false⟩ := ⟨rfl, Nat.zero_le _, rfl, hG2.bd.le (by simp), fun x hx => absurd hx List.not_mem_nil⟩
          rw [hl2] at hR2
          generalize M.length + 1 = ck at *
          rw [← List.append_nil M2]
          (repeat (first | (with_reducible refine AWo.cons ?_) | ((with_reducible refine Step.id ?_); first | ((with_reducible apply Step.move); exact rfl; exact rfl) | ((with_reducible apply Step.assign); exact rfl; exact rfl) | ((with_reducible apply Step.len); exact rfl; (focus (assumption)); (focus (decide +kernel)); exact rfl)) | (with_reducible refine AWo.nil ?_) | ((with_reducible apply AW.seq)) | ((with_reducible apply Then.n)) | ((with_reducible apply AW.regL)) | ((with_reducible apply AW.block))))
          refine AW.midX 4 (fun t' M => ∃ ow, Redo m ow M bk bk2 B pv (bkP (B.P.take k)) wv wl (cs2 ++ [(ck, some K)]) ws ∧ OKK K ∧
            All (fun i v => t' i = some v) [(3, .pointer (some ⟨bk, 0, none⟩)), (4, .pointer (some ⟨bk2, 0, none⟩)), (11, .int .i64 (k : Nat)), (17, .pointer (some ⟨ck, 0, none⟩)), (66, wv), (67, .int .i64 (wl.length : Nat)), (68, .int .i64 (k : Nat))]) ?_ ?_
          · refine AW.loopW (fun q t M => ∃ (i : Nat) (ow : Nat → Nat), q = w.st.length - i ∧ i ≤ w.st.length ∧ Redo m ow M bk bk2 B pv (bkP (B.P.take k)) wv wl (cs2 ++ [(ck, some (goL ⟨k, (bkP (B.P.take k)).H, [], [], false⟩ (w.st.take i)))]) ws ∧ OKK (goL ⟨k, (bkP (B.P.take k)).H, [], [], false⟩ (w.st.take i)) ∧
              t = fr [(3, .pointer (some ⟨bk, 0, none⟩)), (4, .pointer (some ⟨bk2, 0, none⟩)), (11, .int .i64 (k : Nat)), (17, .pointer (some ⟨ck, 0, none⟩)), (66, wv), (67, .int .i64 (wl.length : Nat)), (68, .int .i64 (k : Nat)), (103, w.sv), (104, .int .i64 (w.st.length : Nat)), (105, .int .i64 (i : Nat))])
              ⟨_, _, (by repeat (first | exact trivial | (refine And.intro rfl ?_))), 0, _, rfl, Nat.zero_le _, by rw [List.append_nil]; exact hR2, hK0, rfl⟩ ?_
            clear hR2 hS2 hR hsv hwr
            rintro q t M ⟨i, ow, rfl, hi, hR, hKi, rfl⟩
            rcases Nat.lt_or_ge i w.st.length with hil | hig
            · have hoks := q4.ok i hil
              have hnx : goL ⟨k, (bkP (B.P.take k)).H, [], [], false⟩ (w.st.take (i + 1)) = goS (goL ⟨k, (bkP (B.P.take k)).H, [], [], false⟩ (w.st.take i)) (w.st.getD i default) := by rw [take_snoc' hil, goL_snoc]
              have hsi := flatS_get Stp.c 8 (fun _ => rfl) w.st i hil
              obtain ⟨kd, sz, g1, _⟩ := (hR.stepsM q1).at0 (a := sa) hsa (by omega)
              have hrs : ∀ T, RdL (M ++ T) sa (i * 8) (w.st.getD i default).c := fun T => RdL.old T ⟨_, g1, fun q v hv => hsi q v hv⟩
              generalize goL ⟨k, (bkP (B.P.take k)).H, [], [], false⟩ (w.st.take i) = Ki at *
              generalize w.st.getD i default = s at *
              have hgR := goS_read hKi hoks
              have hgM := goS_move hKi hoks
              have hKn := hKi.goS hoks
              obtain ⟨rd, sp, si, sn, ⟨yi, yf, yt, yn⟩⟩ := s
              simp only [Stp.c, Tr.c] at hrs
              refine AW.rebase ?_
              obtain ⟨X, hX⟩ : ∃ X : AM, X = M ++ [some { cells := [.bool rd, .int .i64 (sp : Nat), .int .i64 (si : Nat), .int .i64 sn, .int .i64 yi, .int .i64 yf, .int .i64 yt, .int .i64 yn] }] := ⟨_, rfl⟩
              have hRX : Redo m (asg ow M.length 1) X bk bk2 B pv (bkP (B.P.take k)) wv wl (cs2 ++ [(ck, some Ki)]) ws := by rw [hX]; exact hR.app _ 1
              have hXl : X.length = M.length + 1 := by rw [hX, List.length_append]; rfl
              have hXg : X[M.length]? = some (some { cells := [.bool rd, .int .i64 (sp : Nat), .int .i64 (si : Nat), .int .i64 sn, .int .i64 yi, .int .i64 yf, .int .i64 yt, .int .i64 yn] }) := by rw [hX, List.getElem?_append_right (Nat.le_refl _), Nat.sub_self]; rfl
              cases rd with
              | true =>
                obtain ⟨z1, z2⟩ := hgR rfl
                have hhe := hRX.side.held (k := cs2.length) (get_last cs2 _) (sp : Int) (si : Int)
                rw [z1, z2, set_last] at hhe
                (repeat (first | (with_reducible refine AWo.cons ?_) | ((with_reducible refine Step.id ?_); first | ((with_reducible apply Step.move); exact rfl; exact rfl) | ((with_reducible apply Step.load); exact rfl; (focus (decide +kernel)); exact rfl; (focus (exact Rd.new rfl rfl))) | ((with_reducible apply Step.loadL (n := 8)); exact rfl; (focus (decide +kernel)); (focus (decide +kernel)); exact rfl; (focus (exact hrs _)); exact rfl; exact rfl) | ((with_reducible apply Step.ixz (s := 8)); exact rfl; (focus (assumption)); exact rfl; (focus (decide +kernel)); exact rfl; (focus (omega))) | ((with_reducible apply Step.field0); exact rfl; (focus (decide +kernel)); exact rfl) | ((with_reducible apply Step.field (k := 1)); exact rfl; (focus (decide +kernel)); exact rfl) | ((with_reducible apply Step.field (k := 2)); exact rfl; (focus (decide +kernel)); exact rfl) | ((with_reducible apply Step.lss); exact rfl; exact rfl; exact rfl) | ((with_reducible apply Step.alloc 0); exact rfl; exact ze81; exact rfl; (focus (first | (simp only [List.nil_append, List.cons_append, List.set_cons_zero, List.set_cons_succ, iv_set, bv_set, iv_rep, bv_rep]; done) | (simp only [List.nil_append, List.cons_append, List.set_cons_zero, List.set_cons_succ, iv_set, bv_set, iv_rep, bv_rep]; rfl) | rfl))) | ((with_reducible apply Step.storeA (k := 0) (n := 8)); exact rfl; exact rfl; exact rfl; exact rfl; (focus (decide +kernel)); exact rfl; (focus (kernel_rfl)); exact rfl; (focus (first | (simp only [List.nil_append, List.cons_append, List.set_cons_zero, List.set_cons_succ, iv_set, bv_set, iv_rep, bv_rep]; done) | (simp only [List.nil_append, List.cons_append, List.set_cons_zero, List.set_cons_succ, iv_set, bv_set, iv_rep, bv_rep]; rfl) | rfl)))) | (with_reducible refine AWo.nil ?_) | ((with_reducible apply AW.seq)) | ((with_reducible apply Then.n)) | ((with_reducible apply AW.regL)) | ((with_reducible apply AW.block)) | ((with_reducible apply AW.skip)) | ((with_reducible apply AW.condT); exact rfl; (focus (first | rfl | (simp only [decide_eq_true_eq, decide_eq_false_iff_not, Bool.not_eq_true', Bool.not_eq_false', Bool.not_true, Bool.not_false]; first | assumption | omega))))))
                rw [show (M ++ [some { cells := (Value.agg #[.bool true, .int .i64 (sp : Nat), .int .i64 (si : Nat), .int .i64 sn, .int .i64 yi, .int .i64 yf, .int .i64 yt, .int .i64 yn]).cells.toList }] : AM) = X from hX.symm]
                ((with_reducible apply Step.callF fit); exact rfl; exact Try.func31; exact rfl; exact rfl; exact hhe)
                rintro r5 M5 ⟨rfl, hl5, hk5, hS5⟩
                have hR5 := hRX.call hl5 (fun j hj hn => ⟨hk5 j hj (by rw [hn]; omega), by rw [asg_lt hj]; exact hn⟩) hS5
                have ry : ∀ (T : AM) (j : Nat) (y : Value), [Value.bool true, .int .i64 (sp : Nat), .int .i64 (si : Nat), .int .i64 sn, .int .i64 yi, .int .i64 yf, .int .i64 yt, .int .i64 yn][j]? = some y → Rd (M5 ++ T) (M.length + 0) j y := fun T j y hj => Rd.old T ⟨_, by rw [Nat.add_zero, hk5 M.length (by omega) (by rw [asg_ge (Nat.le_refl _)]; omega)]; exact hXg, hj⟩
                rw [← List.append_nil M5]
                (repeat (first | (with_reducible refine AWo.cons ?_) | ((with_reducible refine Step.id ?_); first | ((with_reducible apply Step.gdT); exact rfl; exact rfl; (focus (rfl))) | ((with_reducible apply Step.move); exact rfl; exact rfl) | ((with_reducible apply Step.assign); exact rfl; exact rfl) | ((with_reducible apply Step.load); exact rfl; (focus (decide +kernel)); exact rfl; (focus (exact ry _ _ _ rfl))) | ((with_reducible apply Step.field (k := 3)); exact rfl; (focus (decide +kernel)); exact rfl) | ((with_reducible apply Step.add); exact rfl; exact rfl; (focus (omega)); exact rfl) | ((with_reducible apply Step.neq); exact rfl; exact rfl; exact rfl) | ((with_reducible apply Step.extract); exact rfl; exact rfl; exact rfl) | ((with_reducible apply Step.pickF); exact rfl; exact rfl; exact rfl; exact rfl; (focus (rfl)))) | (with_reducible refine AWo.nil ?_) | ((with_reducible apply AW.seq)) | ((with_reducible apply Then.n)) | ((with_reducible apply AW.regL)) | ((with_reducible apply InBlk.n)) | ((with_reducible apply AW.skip)) | ((with_reducible apply AW.condF); exact rfl; (focus ((simp; done))))))
                exact ⟨_, [(3, .pointer (some ⟨bk, 0, none⟩)), (4, .pointer (some ⟨bk2, 0, none⟩)), (11, .int .i64 (k : Nat)), (17, .pointer (some ⟨ck, 0, none⟩)), (66, wv), (67, .int .i64 (wl.length : Nat)), (68, .int .i64 (k : Nat)), (103, w.sv), (104, .int .i64 (w.st.length : Nat)), (105, .int .i64 (i + 1 : Nat))], by omega, (by repeat (first | exact trivial | (refine And.intro rfl ?_))), i + 1, _, rfl, by omega, by rw [List.append_nil, hnx]; exact hR5, by rw [hnx]; exact hKn, rfl⟩
              | false =>
                obtain ⟨z1, z2⟩ := hgM rfl
                have hmv := hRX.side.move (k := cs2.length) (get_last cs2 _) (fun K0 e => by injection e with e; rw [← e]; exact hKi) ⟨yi, yf, yt, yn⟩
                rw [z1, z2, set_last] at hmv
                (repeat (first | (with_reducible refine AWo.cons ?_) | ((with_reducible refine Step.id ?_); first | ((with_reducible apply Step.move); exact rfl; exact rfl) | ((with_reducible apply Step.load); exact rfl; (focus (decide +kernel)); exact rfl; (focus (exact Rd.new rfl rfl))) | ((with_reducible apply Step.loadL (n := 8)); exact rfl; (focus (decide +kernel)); (focus (decide +kernel)); exact rfl; (focus (exact hrs _)); exact rfl; exact rfl) | ((with_reducible apply Step.ixz (s := 8)); exact rfl; (focus (assumption)); exact rfl; (focus (decide +kernel)); exact rfl; (focus (omega))) | ((with_reducible apply Step.field0); exact rfl; (focus (decide +kernel)); exact rfl) | ((with_reducible apply Step.field (k := 4)); exact rfl; (focus (decide +kernel)); exact rfl) | ((with_reducible apply Step.lss); exact rfl; exact rfl; exact rfl) | ((with_reducible apply Step.alloc 0); exact rfl; exact ze81; exact rfl; (focus (first | (simp only [List.nil_append, List.cons_append, List.set_cons_zero, List.set_cons_succ, iv_set, bv_set, iv_rep, bv_rep]; done) | (simp only [List.nil_append, List.cons_append, List.set_cons_zero, List.set_cons_succ, iv_set, bv_set, iv_rep, bv_rep]; rfl) | rfl))) | ((with_reducible apply Step.storeA (k := 0) (n := 8)); exact rfl; exact rfl; exact rfl; exact rfl; (focus (decide +kernel)); exact rfl; (focus (kernel_rfl)); exact rfl; (focus (first | (simp only [List.nil_append, List.cons_append, List.set_cons_zero, List.set_cons_succ, iv_set, bv_set, iv_rep, bv_rep]; done) | (simp only [List.nil_append, List.cons_append, List.set_cons_zero, List.set_cons_succ, iv_set, bv_set, iv_rep, bv_rep]; rfl) | rfl)))) | (with_reducible refine AWo.nil ?_) | ((with_reducible apply AW.seq)) | ((with_reducible apply Then.n)) | ((with_reducible apply AW.regL)) | ((with_reducible apply AW.block)) | ((with_reducible apply AW.skip)) | ((with_reducible apply AW.condT); exact rfl; (focus ((simp only [decide_eq_true_eq, decide_eq_false_iff_not, Bool.not_eq_true', Bool.not_eq_false', Bool.not_true, Bool.not_false]; first | assumption | omega)))) | ((with_reducible apply AW.condF); exact rfl; (focus (rfl)))))
                rw [show (M ++ [some { cells := (Value.agg #[.bool false, .int .i64 (sp : Nat), .int .i64 (si : Nat), .int .i64 sn, .int .i64 yi, .int .i64 yf, .int .i64 yt, .int .i64 yn]).cells.toList }] : AM) = X from hX.symm]
                have rl4 : ∀ T, RdL (X ++ T) (M.length + 0) (0 + 4) [.int .i64 yi, .int .i64 yf, .int .i64 yt, .int .i64 yn] := fun T => RdL.old T ⟨_, hXg, fun q v hv => by rw [show 0 + 4 + q = q + 4 by omega]; exact hv⟩
                rw [← List.append_nil X]
                (repeat (first | (with_reducible refine AWo.cons ?_) | ((with_reducible refine Step.id ?_); ((with_reducible apply Step.loadL (n := 4)); exact rfl; (focus (decide +kernel)); (focus (decide +kernel)); exact rfl; (focus (exact rl4 _)); exact rfl; exact rfl))))
                ((with_reducible apply Step.callF fit); exact rfl; exact Try.func33; exact rfl; exact rfl; (focus (rw [List.append_nil]; exact hmv)))
                rintro r5 M5 ⟨rfl, hl5, hk5, hS5⟩
                have hR5 := hRX.call hl5 (fun j hj hn => ⟨hk5 j hj (by rw [hn]; omega), by rw [asg_lt hj]; exact hn⟩) hS5
                have ry : ∀ (T : AM) (j : Nat) (y : Value), [Value.bool false, .int .i64 (sp : Nat), .int .i64 (si : Nat), .int .i64 sn, .int .i64 yi, .int .i64 yf, .int .i64 yt, .int .i64 yn][j]? = some y → Rd (M5 ++ T) (M.length + 0) j y := fun T j y hj => Rd.old T ⟨_, by rw [Nat.add_zero, hk5 M.length (by omega) (by rw [asg_ge (Nat.le_refl _)]; omega)]; exact hXg, hj⟩
                rw [← List.append_nil M5]
                (repeat (first | (with_reducible refine AWo.cons ?_) | ((with_reducible refine Step.id ?_); first | ((with_reducible apply Step.move); exact rfl; exact rfl) | ((with_reducible apply Step.add); exact rfl; exact rfl; (focus (omega)); exact rfl) | ((with_reducible apply Step.neq); exact rfl; exact rfl; exact rfl)) | (with_reducible refine AWo.nil ?_) | ((with_reducible apply Then.n)) | ((with_reducible apply AW.regL)) | ((with_reducible apply InBlk.n)) | ((with_reducible apply AW.skip)) | ((with_reducible apply AW.condF); exact rfl; (focus (rfl)))))
                exact ⟨_, [(3, .pointer (some ⟨bk, 0, none⟩)), (4, .pointer (some ⟨bk2, 0, none⟩)), (11, .int .i64 (k : Nat)), (17, .pointer (some ⟨ck, 0, none⟩)), (66, wv), (67, .int .i64 (wl.length : Nat)), (68, .int .i64 (k : Nat)), (103, w.sv), (104, .int .i64 (w.st.length : Nat)), (105, .int .i64 (i + 1 : Nat))], by omega, (by repeat (first | exact trivial | (refine And.intro rfl ?_))), i + 1, _, rfl, by omega, by rw [List.append_nil, hnx]; exact hR5, by rw [hnx]; exact hKn, rfl⟩
            · obtain rfl : i = w.st.length := by omega
              rw [List.take_of_length_le (Nat.le_refl _), q4.go] at hR hKi
              (repeat (first | (with_reducible refine AWo.cons ?_) | ((with_reducible refine Step.id ?_); ((with_reducible apply Step.lss); exact rfl; exact rfl; exact rfl)) | (with_reducible refine AWo.nil ?_) | ((with_reducible apply AW.seq)) | ((with_reducible apply Then.n)) | ((with_reducible apply AW.regL)) | ((with_reducible apply AW.exit)) | ((with_reducible apply Then.e)) | ((with_reducible apply AW.condF); exact rfl; (focus ((simp only [decide_eq_true_eq, decide_eq_false_iff_not, Bool.not_eq_true', Bool.not_eq_false', Bool.not_true, Bool.not_false]; first | assumption | omega))))))
              exact ⟨rfl, ow, hR, hKi, (by repeat (first | exact trivial | (refine And.intro rfl ?_)))⟩
          · rintro t' M ⟨ow, hR, hKK, hsl⟩
            refine InBlk.hit ?_
            refine Then.n ?_
            refine AW.weak (fr_all hsl) ?_
            clear hsl
            refine AW.rebase ?_
            have hcm := hR.side.commit (k := cs2.length) (get_last cs2 _) hKK hG2.bd (by omega)
            simp only [q5] at hcm
            (repeat (first | (with_reducible refine AWo.cons ?_) | ((with_reducible refine Step.id ?_); ((with_reducible apply Step.move); exact rfl; exact rfl)) | ((with_reducible apply AW.seq)) | ((with_reducible apply AW.regL))))
            ((with_reducible apply Step.callF fit); exact rfl; exact Try.func41; exact rfl; exact rfl; (focus (rw [List.append_nil]; exact hcm)))
            rintro r5 M5 ⟨ow5, rfl, hl5, hk5, hS5⟩
            have hR5 := hR.call hl5 hk5 hS5
            rw [← List.append_nil M5]
            (repeat (first | (with_reducible refine AWo.cons ?_) | ((with_reducible refine Step.id ?_); first | ((with_reducible apply Step.gdT); exact rfl; exact rfl; (focus (rfl))) | ((with_reducible apply Step.move); exact rfl; exact rfl) | ((with_reducible apply Step.assign); exact rfl; exact rfl) | ((with_reducible apply Step.add); exact rfl; exact rfl; (focus (omega)); exact rfl) | ((with_reducible apply Step.neq); exact rfl; exact rfl; exact rfl) | ((with_reducible apply Step.extract); exact rfl; exact rfl; exact rfl) | ((with_reducible apply Step.pickF); exact rfl; exact rfl; exact rfl; exact rfl; (focus (rfl)))) | (with_reducible refine AWo.nil ?_) | ((with_reducible apply AW.seq)) | ((with_reducible apply Then.n)) | ((with_reducible apply AW.regL)) | ((with_reducible apply InBlk.n)) | ((with_reducible apply AW.skip)) | ((with_reducible apply AW.condF); exact rfl; (focus ((simp only [decide_eq_true_eq, decide_eq_false_iff_not, Bool.not_eq_true', Bool.not_eq_false', Bool.not_true, Bool.not_false]; first | assumption | omega))))))
            exact ⟨_, [(3, .pointer (some ⟨bk, 0, none⟩)), (4, .pointer (some ⟨bk2, 0, none⟩)), (66, wv), (67, .int .i64 (wl.length : Nat)), (68, .int .i64 (k + 1 : Nat))], by omega, (by repeat (first | exact trivial | (refine And.intro rfl ?_))), k + 1, ow5, _, rfl, by omega, by rw [List.append_nil]; exact hR5, rfl⟩
      · obtain rfl : k = wl.length := by omega
        rw [hwl, List.take_of_length_le (Nat.le_refl _), hT.built.eq] at hR
        (repeat (first | (with_reducible refine AWo.cons ?_) | ((with_reducible refine Step.id ?_); ((with_reducible apply Step.lss); exact rfl; exact rfl; exact rfl)) | (with_reducible refine AWo.nil ?_) | ((with_reducible apply AW.seq)) | ((with_reducible apply Then.n)) | ((with_reducible apply AW.regL)) | ((with_reducible apply AW.exit)) | ((with_reducible apply Then.e)) | ((with_reducible apply AW.condF); exact rfl; (focus ((simp only [decide_eq_true_eq, decide_eq_false_iff_not, Bool.not_eq_true', Bool.not_eq_false', Bool.not_true, Bool.not_false]; first | assumption | omega))))))
        exact ⟨rfl, ow, cs2, hR, (by repeat (first | exact trivial | (refine And.intro rfl ?_)))⟩
    · rintro t' M ⟨ow, cs2, hR, hsl⟩
      refine InBlk.hit ?_
      refine Then.n ?_
      refine AW.weak (fr_all hsl) ?_
      clear hsl
      refine AW.rebase ?_
      have hend : ∃ N, M = m ++ N := pre_keep (M := m) ⟨[], by rw [List.append_nil]⟩ hR.side.len fun j hj => (hR.side.base j hj).1
      have hb1 := hR.bookM
      obtain ⟨pv2, hb2⟩ := hR.side.book
      have hbl := hb1.lt
      (repeat (first | (with_reducible refine AWo.cons ?_) | ((with_reducible refine Step.id ?_); ((with_reducible apply Step.move); exact rfl; exact rfl)) | ((with_reducible apply AW.seq)) | ((with_reducible apply AW.regL))))
      ((with_reducible apply Step.callX fit); exact rfl; exact Try.func36; exact rfl; exact rfl; (focus (rw [List.append_nil]; exact Save_ok hb1 hG.ok (by omega))))
      rintro r3 M3 ⟨N3, hN3⟩ hr3
      rw [List.append_nil] at hN3
      have hb3 := hb2.old N3
      rw [← hN3] at hb3
      (repeat (first | (with_reducible refine AWo.cons ?_) | ((with_reducible refine Step.id ?_); ((with_reducible apply Step.move); exact rfl; exact rfl))))
      ((with_reducible apply Step.callX fit); exact rfl; exact Try.func36; exact rfl; exact rfl; (focus (rw [List.append_nil]; exact Save_ok hb3 hG.ok (by omega))))
      rintro r4 M4 ⟨N4, hN4⟩ hr4
      rw [List.append_nil] at hN4
      have hE := fun T => Equal_ok (show Byts (M4 ++ T) r3 (saveB B.P) by rw [hN4]; exact (hr3.old N4).old T) (hr4.old T)
      rw [beq_self_eq_true] at hE
      (repeat (first | (with_reducible refine AWo.cons ?_) | ((with_reducible refine Step.id ?_); first | ((with_reducible apply Step.gdT); exact rfl; exact rfl; (focus (rfl))) | ((with_reducible apply Step.move); exact rfl; exact rfl) | ((with_reducible apply Step.assign); exact rfl; exact rfl) | ((with_reducible apply Step.pickT); exact rfl; exact rfl; exact rfl; exact rfl; (focus (rfl))) | ((with_reducible apply Step.callR fit); exact rfl; exact Try.func19; exact rfl; exact rfl; exact (hE _)) | ((with_reducible apply Step.callR fit); exact rfl; exact Try.func16; exact rfl; exact rfl; exact (hw _))) | (with_reducible refine AWo.nil ?_) | ((with_reducible apply Then.n))))
      (refine AW.ret ?_; (repeat (first | refine Then.r ?_ | refine InBlk.r ?_)))
      obtain ⟨N, hN⟩ := hend
      exact ⟨_, rfl, by simp, N ++ N3 ++ N4, by rw [List.append_nil, hN4, hN3, hN]; simp⟩
end Go.Proofs.Ytabdnepfcohncaa.Abs
