/- Proved here: what the proof of StockBook rests on, part 5 of 6. Conditions: those that each theorem names. -/
import Derived.Test.YtabdnepfcohncaaStockBookK4
namespace Go.Proofs.Ytabdnepfcohncaa.Abs
set_option linter.unusedSimpArgs false
set_option linter.unusedVariables false
open Go.RowKit
open Go.Proofs.Ytabdnepfcohncaa.Sim
open Go.Proofs
section
variable {P : Program} {nt d : Nat} {ops : Array Oper} {T : TypeId} {p : String} {af : Array Edge} {t : Fm} {m : AM} {K : Fm → AM → Prop}
theorem Step.remU {x y : Operand} {X Y : TypeId} {a b : Int} (hx : evo t x = some (.int .u64 a)) (hy : evo t y = some (.int .u64 b)) (ha : 0 ≤ a) (hb : 1 ≤ b) (hlt : Nat.blt d nt = true) (hK : K (put t d (.int .u64 (a % b))) m) : Step P nt ops ⟨some d, .binOp .rem X x y Y, T, p, af, none⟩ t m K := by
  refine .ground rfl rfl hlt (by simp [Op.operands, hx, hy, g1, g0]) (fun h => by simp only [aquiet, evD_of hx, evD_of hy, aint, anil]; simpa [evD_of hx, evD_of hy] using h) ?_ (by simp [g1, g0]) hK
  simp [execOp, eqGuard, binOp, evD_of hx, evD_of hy, Op.intDiv, show ¬ b = 0 by omega, Int.tmod_eq_emod_of_nonneg ha, bind, Sem.bind, pure, Sim.still]
end
theorem wrapU (a : Int) : 0 ≤ IntKind.u64.wrap a := by
  simp only [IntKind.wrap, IntKind.signed, IntKind.bits]
  simp
  omega
theorem mod_in (a : Int) (c : Nat) (hc : 0 < c) (hc2 : c ≤ 9223372036854775807) : ∃ n : Nat, n < c ∧ IntKind.i64.wrap (IntKind.u64.wrap a % (c : Int)) = (n : Int) := by
  have h := wrapU a
  have h1 := Int.emod_nonneg (IntKind.u64.wrap a) (show (c : Int) ≠ 0 by omega)
  have h2 := Int.emod_lt_of_pos (IntKind.u64.wrap a) (show (0 : Int) < c by omega)
  refine ⟨(IntKind.u64.wrap a % (c : Int)).toNat, by omega, ?_⟩
  rw [IntWalk.i64_in _ (by omega)]
  omega
theorem MSub.all {S : Nat → Prop} {M : AM} (h : ∀ i b, M[i]? = some (some b) → S i) : MSub M (vw S M) := ⟨by rw [vw_len]; exact Nat.le_refl _, fun i b _ hi => vw_some.2 ⟨h i b hi, hi⟩⟩
theorem ClerkAt.vw {S : Nat → Prop} {M : AM} {ck q bk : Nat} {mvv : Value} {K : Ck} (h : ClerkAt M ck q mvv bk K) (hS : ∀ j, ckD ck q mvv j → S j) : ClerkAt (Abs.vw S M) ck q mvv bk K := by
  obtain ⟨h1, h2, h3, ⟨E, h4, h5⟩, h6⟩ := h
  refine ⟨vw_some.2 ⟨hS _ (.inl rfl), h1⟩, h2, by rw [vw_len]; exact h3, ⟨E, vw_some.2 ⟨hS _ (.inr (.inl rfl)), h4⟩, h5⟩, ?_⟩
  rcases h6 with h6 | ⟨a, kd, sz, q1, q2, q3, q4, q5⟩
  · exact .inl h6
  · exact .inr ⟨a, kd, sz, q1, q2, vw_some.2 ⟨hS a (.inr (.inr fun hn => hn _ _ q2)), q3⟩, q4, q5⟩
/-- A clerk, at work or done. -/
def CSt (M : AM) (bk ck : Nat) : Option Ck → Prop
  | none => DoneC M ck bk
  | some K => ∃ q mvv, ClerkAt M ck q mvv bk K
theorem CSt.msub {M M' : AM} {bk ck : Nat} {o : Option Ck} (h : CSt M bk ck o) (hs : MSub M M') : CSt M' bk ck o := by
  cases o with
  | none => exact DoneC.msub h hs
  | some K => obtain ⟨q, v, h⟩ := h; exact ⟨q, v, h.msub hs⟩
/-- The objects: the book, the row of the clerks' names, the clerks. -/
def dobj (n0 bk : Nat) (B : Bk) (av : Value) (ps : List Nat) (cs : List (Nat × Option Ck)) : Nat → AM → Prop
  | 0, A => ∃ pv, BookAt A 0 bk B pv
  | 1, A => Row A n0 1 av (ps.map fun c => .pointer (some ⟨c, 0, none⟩)) ps.length
  | k + 2, A => ∀ c, cs[k]? = some c → CSt A bk c.1 c.2
theorem dobj_mono {n0 bk : Nat} {B : Bk} {av : Value} {ps : List Nat} {cs : List (Nat × Option Ck)} : ∀ k A A', MSub A A' → dobj n0 bk B av ps cs k A → dobj n0 bk B av ps cs k A'
  | 0, A, A', hs, ⟨pv, h⟩ => ⟨pv, h.msub hs⟩
  | 1, A, A', hs, h => Row.msub h hs
  | k + 2, A, A', hs, h => fun c hc => (h c hc).msub hs
/-- What a clerk at work keeps. -/
structure OKK (K : Ck) : Prop where
  dn : K.done = false
  n : K.mv.length ≤ 16
  ok : K.mv.all okT = true
  bd : Bd K.V (1000000000 + 2000000 * (K.mv.length : Int))
  seen : ∀ x ∈ K.seen, inB x.1 x.2 = true
theorem OKK.moF {K : Ck} (h : OKK K) (x : Tr) : OKK (moF K x).2 := by
  unfold Abs.moF
  rw [if_neg (by rw [h.dn]; simp)]
  by_cases ho : okT x = true
  · rw [if_pos ho]
    by_cases h16 : 16 ≤ K.mv.length
    · rw [if_pos h16]; exact h
    · rw [if_neg h16]
      refine ⟨h.dn, by simp; omega, by simp [h.ok, ho], ?_, h.seen⟩
      have := h.bd.wth1 ho
      simp only [List.length_append, List.length_singleton]
      exact this.le (by push_cast; omega)
  · rw [if_neg ho]; exact h
theorem OKK.chF {K : Ck} (h : OKK K) (p i : Int) : OKK (chF K p i).2.2 := by
  unfold Abs.chF
  rw [if_neg (by rw [h.dn]; simp)]
  by_cases hi : inB p i = true
  · rw [if_pos hi]
    refine ⟨h.dn, h.n, h.ok, h.bd, fun x hx => ?_⟩
    rcases List.mem_cons.1 hx with rfl | hx
    · exact hi
    · exact h.seen x hx
  · rw [if_neg hi]; exact h
section
variable {m : AM} {ow : Nat → Nat} {M : AM} {n0 bk : Nat} {B : Bk} {av : Value} {ps : List Nat} {cs : List (Nat × Option Ck)}
/-- What a call says of the book. -/
def BkQ (R : Value → Prop) (B' : Bk) (bk : Nat) (pv : Value) (m : AM) (r : Value) (M' : AM) : Prop := R r ∧ ∃ u, BookAt M' 0 bk B' u ∧ Keep (bkD bk pv) m M'
theorem Side.bookCall {f : FuncId} {args : Array Value} {B' : Bk} {R : Value → Prop} (h : Side m ow M (dobj n0 bk B av ps cs)) (hc : ∀ pv, BookAt (vw (fun j => ow j = 0) M) 0 bk B pv → ACall Try.prog f args (vw (fun j => ow j = 0) M) (BkQ R B' bk pv (vw (fun j => ow j = 0) M))) :
    ACall Try.prog f args M (fun r M2 => R r ∧ M.length ≤ M2.length ∧ (∀ j, j < M.length → ow j ≠ 0 → M2[j]? = M[j]?) ∧ Side m (asg ow M.length 0) M2 (dobj n0 bk B' av ps cs)) := by
  obtain ⟨pv, hB⟩ := h.at_ 0
  refine (ACall.frame (fun j => ow j = 0) (hc pv hB)).mono ?_
  rintro r M2 ⟨M', ⟨hR, u, hB', hk⟩, hF⟩
  refine ⟨hR, hF.len, fun j hj hn => hF.out j hj hn, ?_⟩
  have hcl := hk.clean hB.in_
  refine h.call (I := fun k => k = 0) hF hcl (by decide) (fun j hj hn => asg_lt hj) (fun k hk => ?_) ?_ dobj_mono
  · rcases k with _ | _ | k
    · exact absurd rfl hk
    · rfl
    · rfl
  · rintro k rfl
    refine ⟨u, hB'.msub (MSub.all fun i b hi => ?_)⟩
    by_cases hl : i < M.length
    · show asg ow M.length 0 i = 0
      rw [asg_lt hl]
      by_cases e : ow i = 0
      · exact e
      · rw [hcl i hl e] at hi; cases hi
    · exact asg_ge (by omega)
theorem set_getT {α : Type} {l : List α} {i k : Nat} {x : α} (hi : i < l.length) : (l.set i x)[k]? = if k = i then some x else l[k]? := by
  by_cases e : k = i
  · subst e; rw [if_pos rfl, List.getElem?_set_self hi]
  · rw [if_neg e, List.getElem?_set_ne (Ne.symm e)]
theorem Side.clkCall {f : FuncId} {args : Array Value} {k ck : Nat} {o o' : Option Ck} {R : Value → Prop} (h : Side m ow M (dobj n0 bk B av ps cs)) (hk : cs[k]? = some (ck, o))
    (hc : CSt (vw (fun j => ow j = k + 2) M) bk ck o → ACall Try.prog f args (vw (fun j => ow j = k + 2) M) (fun r M' => R r ∧ CSt M' bk ck o' ∧ ∃ D : Nat → Prop, Keep D (vw (fun j => ow j = k + 2) M) M' ∧ ∀ j, D j → ow j = k + 2)) :
    ACall Try.prog f args M (fun r M2 => R r ∧ M.length ≤ M2.length ∧ (∀ j, j < M.length → ow j ≠ k + 2 → M2[j]? = M[j]?) ∧ Side m (asg ow M.length (k + 2)) M2 (dobj n0 bk B av ps (cs.set k (ck, o')))) := by
  have hkl := (List.getElem?_eq_some_iff.1 hk).1
  refine (ACall.frame (fun j => ow j = k + 2) (hc (h.at_ (k + 2) _ hk))).mono ?_
  rintro r M2 ⟨M', ⟨hR, hC, D, hD, hDo⟩, hF⟩
  refine ⟨hR, hF.len, fun j hj hn => hF.out j hj hn, ?_⟩
  have hcl := hD.clean hDo
  refine h.call (I := fun i => i = k + 2) hF hcl (by omega) (fun j hj hn => asg_lt hj) (fun i hi => ?_) ?_ dobj_mono
  · rcases i with _ | _ | i
    · rfl
    · rfl
    · funext A
      show (∀ c, (cs.set k (ck, o'))[i]? = some c → _) = (∀ c, cs[i]? = some c → _)
      rw [set_getT hkl, if_neg (by omega)]
  · rintro i rfl
    intro c hcc
    rw [set_getT hkl, if_pos rfl] at hcc
    injection hcc with hcc
    subst hcc
    refine hC.msub (MSub.all fun i b hi => ?_)
    by_cases hl : i < M.length
    · show asg ow M.length (k + 2) i = k + 2
      rw [asg_lt hl]
      by_cases e : ow i = k + 2
      · exact e
      · rw [hcl i hl e] at hi; cases hi
    · exact asg_ge (by omega)
end
end Go.Proofs.Ytabdnepfcohncaa.Abs
namespace Go.Proofs.Ytabdnepfcohncaa.Abs
set_option linter.unusedSimpArgs false
set_option linter.unusedVariables false
open Go.RowKit
open Go.Proofs.Ytabdnepfcohncaa.Sim
open Go.Proofs
theorem un31 : Try.prog.underlying 31 = some (.int .u64) := by kernel_rfl
theorem Side.sub {m : AM} {ow : Nat → Nat} {M : AM} {obj : Nat → AM → Prop} (h : Side m ow M obj) : Sub m M := ⟨h.len, fun i b hi => by rw [(h.base i (List.getElem?_eq_some_iff.1 hi).1).1]; exact hi⟩
theorem RdL.sub {M M' : AM} {a o : Nat} {c : List Value} (h : RdL M a o c) (hs : Sub M M') : RdL M' a o c := by
  obtain ⟨b, h1, h2⟩ := h
  exact ⟨b, hs.get a b h1, h2⟩
/-- Reverse, whatever comes of it. -/
def rvB (B : Bk) (n : Int) : Bk := if 1 ≤ n ∧ n ≤ B.P.length then (postF B (revL (B.P.getD (n - 1).toNat []))).1 else B
def rvR (B : Bk) (n : Int) : Int × Int := if 1 ≤ n ∧ n ≤ B.P.length then (postF B (revL (B.P.getD (n - 1).toNat []))).2 else (0, 7)
theorem Reverse_any {m : AM} {bk : Nat} {B : Bk} {pv : Value} (n : Int) (h : BookAt m 0 bk B pv) (hg : Good B) (hpl : B.P.length ≤ 1000000) : ACall Try.prog 42 #[.pointer (some ⟨bk, 0, none⟩), .int .i64 n] m (BkQ (fun r => r = .tuple #[.int .i64 (rvR B n).1, .int .i64 (rvR B n).2]) (rvB B n) bk pv m) := by
  unfold rvB rvR
  by_cases c : 1 ≤ n ∧ n ≤ B.P.length
  · rw [if_pos c, if_pos c]
    obtain ⟨k, rfl⟩ : ∃ k : Nat, n = (k : Int) + 1 := ⟨(n - 1).toNat, by omega⟩
    rw [show ((k : Int) + 1 - 1).toNat = k by omega]
    refine (Reverse_ok h (by omega) hg.ok hg.bd hpl).mono ?_
    rintro r M ⟨u, e1, e2, e3, _, _⟩
    exact ⟨e1, u, e2, e3.keep⟩
  · rw [if_neg c, if_neg c]
    refine (Reverse_no h c).mono ?_
    rintro r M ⟨rfl, rfl⟩
    exact ⟨rfl, pv, h, Keep.refl _ _⟩
theorem rvB_good {B : Bk} (h : Good B) (n : Int) : Good (rvB B n) ∧ (rvB B n).P.length ≤ B.P.length + 1 := by
  unfold rvB
  by_cases c : 1 ≤ n ∧ n ≤ B.P.length
  · rw [if_pos c]; exact ⟨h.post _, postF_len _ _⟩
  · rw [if_neg c]; exact ⟨h, Nat.le_succ _⟩
theorem coF_good {B : Bk} (h : Good B) (K : Ck) : Good (coF K B).2.2 ∧ (coF K B).2.2.P.length ≤ B.P.length + 1 := by
  unfold coF
  by_cases c : K.mv.length = 0
  · rw [if_pos c]; exact ⟨h, Nat.le_succ _⟩
  · rw [if_neg c]
    by_cases d : stale K B = true
    · rw [if_pos d]; exact ⟨h, Nat.le_succ _⟩
    · rw [if_neg d]; exact ⟨h.post _, postF_len _ _⟩
/-- Post of a row just made, that goes over to the book. -/
theorem Side.post {m : AM} {ow : Nat → Nat} {M : AM} {n0 bk : Nat} {B : Bk} {av : Value} {ps : List Nat} {cs : List (Nat × Option Ck)} {X N : AM} {r : Value} {l : List Tr} (h : Side m ow X (dobj n0 bk B av ps cs)) (hN : M = X ++ N) (hr : Row M X.length 4 r (tcs (l.take 18)) (l.take 18).length) (hg : Good B) (hpl : B.P.length ≤ 1000000) :
    ACall Try.prog 28 #[.pointer (some ⟨bk, 0, none⟩), r] M (fun v M2 => v = .tuple #[.int .i64 (postF B l).2.1, .int .i64 (postF B l).2.2] ∧ M.length ≤ M2.length ∧ (∀ j, j < X.length → ow j ≠ 0 → M2[j]? = X[j]?) ∧ ∃ ow', (∀ j, j < X.length → ow' j = ow j) ∧ Side m ow' M2 (dobj n0 bk (postF B l).1 av ps cs)) := by
  subst hN
  have h1 := h.app N 0
  have hl18 : (l.take 18).length ≤ 18 := by rw [List.length_take]; omega
  refine (h1.bookCall (R := fun v => v = .tuple #[.int .i64 (postF B (l.take 18)).2.1, .int .i64 (postF B (l.take 18)).2.2]) (B' := (postF B (l.take 18)).1) fun pv hB => ?_).mono ?_
  · have hrv : Row (vw (fun j => asg ow X.length 0 j = 0) (X ++ N)) X.length 4 r (tcs (l.take 18)) (l.take 18).length := hr.vw fun a ha => asg_ge ha
    have h0 := hB.lt
    refine (Post_ok hB (l := l.take 18) (fun M' hF => Row.trsKeep hB.row (fun a y hr => (hB.sep hr).1) hrv (by omega) hF) hg.bd hpl (by omega)).mono ?_
    rintro v M' ⟨u, e1, e2, e3, _, _⟩
    exact ⟨e1, u, e2, e3.keep⟩
  · rintro v M2 ⟨e1, e2, e3, e4⟩
    rw [(postF_take B l).1] at e4
    rw [(postF_take B l).2] at e1
    by_cases hz : (postF B l).2.2 = 0
    · have hz' : (postF B (l.take 18)).2.2 = 0 := by rw [(postF_take B l).2]; exact hz
      rw [postF_num hz', ← postF_num hz] at e1
      exact ⟨e1, e2, fun j hj hn => by rw [e3 j (by rw [List.length_append]; omega) (by rw [asg_lt hj]; exact hn), List.getElem?_append_left hj], _, fun j hj => by rw [asg_lt (by rw [List.length_append]; omega), asg_lt hj], e4⟩
    · have hz' : (postF B (l.take 18)).2.2 ≠ 0 := by rw [(postF_take B l).2]; exact hz
      rw [(postF_bad hz').2, ← (postF_bad hz).2] at e1
      exact ⟨e1, e2, fun j hj hn => by rw [e3 j (by rw [List.length_append]; omega) (by rw [asg_lt hj]; exact hn), List.getElem?_append_left hj], _, fun j hj => by rw [asg_lt (by rw [List.length_append]; omega), asg_lt hj], e4⟩
theorem Row.vw2 {S : Nat → Prop} {M : AM} {b0 s : Nat} {u : Value} {c : List Value} {n : Nat} (h : Row M b0 s u c n) (hs : ∀ a, ¬ NotOf u a → S a) : Row (Abs.vw S M) b0 s u c n := by
  rcases h with h | ⟨a, kd, sz, h1, h2, h3, h4, h5⟩
  · exact .inl h
  · exact .inr ⟨a, kd, sz, h1, h2, vw_some.2 ⟨hs a (fun hn => hn _ _ h2), h3⟩, h4, h5⟩
theorem Side.row {m : AM} {ow : Nat → Nat} {M : AM} {n0 bk : Nat} {B : Bk} {av : Value} {ps : List Nat} {cs : List (Nat × Option Ck)} (h : Side m ow M (dobj n0 bk B av ps cs)) : Row M n0 1 av (ps.map fun c => .pointer (some ⟨c, 0, none⟩)) ps.length := Row.msub (h.at_ 1) (Sub.vw _ _).m
/-- Move and Commit, of a clerk at work or done. -/
def moO (o : Option Ck) (x : Tr) : Option Ck := o.map fun K => (moF K x).2
def moE (o : Option Ck) (x : Tr) : Int := match o with
  | none => 9
  | some K => (moF K x).1
def cmB (o : Option Ck) (B : Bk) : Bk := match o with
  | none => B
  | some K => (coF K B).2.2
def cmR (o : Option Ck) (B : Bk) : Int × Int := match o with
  | none => (0, 9)
  | some K => ((coF K B).1, (coF K B).2.1)
section
variable {m : AM} {ow : Nat → Nat} {M : AM} {n0 bk : Nat} {B : Bk} {av : Value} {ps : List Nat} {cs : List (Nat × Option Ck)}
theorem Side.move {k ck : Nat} {o : Option Ck} (h : Side m ow M (dobj n0 bk B av ps cs)) (hk : cs[k]? = some (ck, o)) (ho : ∀ K, o = some K → OKK K) (x : Tr) :
    ACall Try.prog 33 #[.pointer (some ⟨ck, 0, none⟩), x.v] M (fun r M2 => r = .int .i64 (moE o x) ∧ M.length ≤ M2.length ∧ (∀ j, j < M.length → ow j ≠ k + 2 → M2[j]? = M[j]?) ∧ Side m (asg ow M.length (k + 2)) M2 (dobj n0 bk B av ps (cs.set k (ck, moO o x)))) := by
  refine h.clkCall hk fun hC => ?_
  cases o with
  | none =>
    refine (Move_done x hC).mono ?_
    rintro r M' ⟨rfl, N, rfl⟩
    exact ⟨rfl, hC.msub (Sub.app _ N).m, fun _ => False, Keep.app _ _ _, fun _ h => h.elim⟩
  | some K =>
    obtain ⟨q, mvv, hC⟩ := hC
    have hK := ho K rfl
    refine (Move_ok hC hK.bd (by have := hK.n; omega)).mono ?_
    rintro r M' ⟨mvv', rfl, hC', hkp, _⟩
    exact ⟨rfl, ⟨q, mvv', hC'⟩, ckD ck q mvv, hkp, fun j hj => hC.in_ j hj⟩
theorem cmB_good (h : Good B) (o : Option Ck) : Good (cmB o B) ∧ (cmB o B).P.length ≤ B.P.length + 1 := by
  cases o with
  | none => exact ⟨h, Nat.le_succ _⟩
  | some K => exact coF_good h K
end
end Go.Proofs.Ytabdnepfcohncaa.Abs
namespace Go.Proofs.Ytabdnepfcohncaa.Abs
set_option linter.unusedSimpArgs false
set_option linter.unusedVariables false
open Go.RowKit
open Go.Proofs.Ytabdnepfcohncaa.Sim
open Go.Proofs
/-- The clerks' names are where they were. -/
def Alive (cs : List (Nat × Option Ck)) : Prop := ∀ c ∈ cs, ∀ K, c.2 = some K → OKK K
theorem Alive.set {cs : List (Nat × Option Ck)} (h : Alive cs) (j ck : Nat) (o : Option Ck) (ho : ∀ K, o = some K → OKK K) : Alive (cs.set j (ck, o)) := fun c hc K hK => by
  rcases List.mem_or_eq_of_mem_set hc with hc | rfl
  · exact h c hc K hK
  · exact ho K hK
end Go.Proofs.Ytabdnepfcohncaa.Abs
namespace Go.Proofs.Ytabdnepfcohncaa.Abs
set_option linter.unusedSimpArgs false
set_option linter.unusedVariables false
open Go.RowKit
open Go.Proofs.Ytabdnepfcohncaa.Sim
open Go.Proofs
/-- Held, of a clerk at work or done. -/
def heO (o : Option Ck) (p i : Int) : Option Ck := o.map fun K => (chF K p i).2.2
def heR (o : Option Ck) (p i : Int) : Int × Int := match o with
  | none => (0, 9)
  | some K => ((chF K p i).1, (chF K p i).2.1)
theorem Side.held {m : AM} {ow : Nat → Nat} {M : AM} {n0 bk : Nat} {B : Bk} {av : Value} {ps : List Nat} {cs : List (Nat × Option Ck)} {k ck : Nat} {o : Option Ck} (h : Side m ow M (dobj n0 bk B av ps cs)) (hk : cs[k]? = some (ck, o)) (p i : Int) :
    ACall Try.prog 31 #[.pointer (some ⟨ck, 0, none⟩), .int .i64 p, .int .i64 i] M (fun r M2 => r = .tuple #[.int .i64 (heR o p i).1, .int .i64 (heR o p i).2] ∧ M.length ≤ M2.length ∧ (∀ j, j < M.length → ow j ≠ k + 2 → M2[j]? = M[j]?) ∧ Side m (asg ow M.length (k + 2)) M2 (dobj n0 bk B av ps (cs.set k (ck, heO o p i)))) := by
  refine h.clkCall hk fun hC => ?_
  cases o with
  | none =>
    refine (Held_done p i hC).mono ?_
    rintro r M' ⟨rfl, rfl⟩
    exact ⟨rfl, hC, fun _ => False, Keep.refl _ _, fun _ h => h.elim⟩
  | some K =>
    obtain ⟨q, mvv, hC⟩ := hC
    refine (CHeld_ok p i hC).mono ?_
    rintro r M' ⟨rfl, hC', hkp⟩
    exact ⟨rfl, ⟨q, mvv, hC'⟩, (· = q), hkp, fun j hj => hC.in_ j (.inr (.inl hj))⟩
theorem chF_in {K : Ck} (h : OKK K) {p i : Nat} (hp : p < 16) (hi : i < 16) : chF K p i = (K.V.getD (p * 16 + i) 0, 0, { K with seen := ((p : Int), (i : Int)) :: K.seen }) := by
  unfold chF
  rw [if_neg (by rw [h.dn]; simp), if_pos (by simp only [inB, decide_eq_true_eq]; omega)]
  rfl
end Go.Proofs.Ytabdnepfcohncaa.Abs
namespace Go.Proofs.Ytabdnepfcohncaa.Abs
set_option linter.unusedSimpArgs false
set_option linter.unusedVariables false
open Go.RowKit
open Go.Proofs.Ytabdnepfcohncaa.Sim
open Go.Proofs
/-- One step of a clerk: a count that it read, or a transfer. -/
structure Stp where
  rd : Bool
  p : Nat
  i : Nat
  n : Int
  x : Tr
instance : Inhabited Stp := ⟨⟨false, 0, 0, 0, default⟩⟩
def Stp.c (s : Stp) : List Value := .bool s.rd :: .int .i64 (s.p : Nat) :: .int .i64 (s.i : Nat) :: .int .i64 s.n :: s.x.c
def goS (K : Ck) (s : Stp) : Ck := if s.rd = true then { K with seen := ((s.p : Int), (s.i : Int)) :: K.seen } else { K with mv := K.mv ++ [s.x], V := wth1 K.V s.x }
def okS (K : Ck) (s : Stp) : Prop := s.rd = true ∧ s.p < 16 ∧ s.i < 16 ∧ s.n = K.V.getD (s.p * 16 + s.i) 0 ∨ s.rd = false ∧ okT s.x = true ∧ K.mv.length < 16
def goL (K : Ck) (l : List Stp) : Ck := l.foldl goS K
theorem goL_snoc (K : Ck) (l : List Stp) (s : Stp) : goL K (l ++ [s]) = goS (goL K l) s := by simp [goL]
structure Ran (K0 : Ck) (l : List Stp) (K : Ck) : Prop where
  go : goL K0 l = K
  ok : ∀ j, j < l.length → okS (goL K0 (l.take j)) (l.getD j default)
theorem Ran.nil (K0 : Ck) : Ran K0 [] K0 := ⟨rfl, fun j h => absurd h (Nat.not_lt_zero _)⟩
theorem Ran.snoc {K0 K : Ck} {l : List Stp} {s : Stp} (h : Ran K0 l K) (hs : okS K s) : Ran K0 (l ++ [s]) (goS K s) := by
  refine ⟨by rw [goL_snoc, h.go], fun j hj => ?_⟩
  rw [List.length_append, List.length_singleton] at hj
  rcases Nat.lt_or_ge j l.length with hl | hl
  · have e1 : (l ++ [s]).take j = l.take j := by rw [List.take_append_of_le_length (by omega)]
    have e2 : (l ++ [s]).getD j default = l.getD j default := by simp only [List.getD_eq_getElem?_getD]; rw [List.getElem?_append_left hl]
    rw [e1, e2]
    exact h.ok j hl
  · obtain rfl : j = l.length := by omega
    have e1 : (l ++ [s]).take l.length = l := by rw [List.take_append_of_le_length (Nat.le_refl _), List.take_of_length_le (Nat.le_refl _)]
    have e2 : (l ++ [s]).getD l.length default = s := by simp
    rw [e1, e2, h.go]
    exact hs
theorem goS_seen (K : Ck) (s : Stp) : ∀ x ∈ K.seen, x ∈ (goS K s).seen := fun x hx => by
  unfold goS
  split
  · exact List.mem_cons_of_mem _ hx
  · exact hx
theorem goL_seen : ∀ (l : List Stp) (K : Ck), ∀ x ∈ K.seen, x ∈ (goL K l).seen
  | [], _, _, h => h
  | s :: l, K, x, h => goL_seen l (goS K s) x (goS_seen K s x h)
theorem Ran.seen {K0 K : Ck} {l : List Stp} (h : Ran K0 l K) (j : Nat) : ∀ x ∈ (goL K0 (l.take j)).seen, x ∈ K.seen := fun x hx => by
  have : K = goL (goL K0 (l.take j)) (l.drop j) := by
    rw [← h.go]
    unfold goL
    rw [← List.foldl_append, List.take_append_drop]
  rw [this]
  exact goL_seen _ _ x hx
theorem goS_same (K : Ck) (s : Stp) : (goS K s).at_ = K.at_ ∧ (goS K s).done = K.done := by
  unfold goS
  split <;> exact ⟨rfl, rfl⟩
def bkP (P : List (List Tr)) : Bk := P.foldl (fun B l => (postF B l).1) Bk.new
theorem bkP_snoc (P : List (List Tr)) (l : List Tr) : bkP (P ++ [l]) = (postF (bkP P) l).1 := by simp [bkP]
theorem Built.eq {B : Bk} (h : Built B) : bkP B.P = B := by
  induction h with
  | new => rfl
  | post h hz ih => rw [(postF_zero hz).2, bkP_snoc, ih]
theorem Built.good {B : Bk} (h : Built B) : Good B := by
  induction h with
  | new => exact Good.new
  | post h hz ih => exact ih.post _
/-- Each beginning of the posts. -/
theorem Built.take {B : Bk} (h : Built B) : ∀ k, k ≤ B.P.length → Built (bkP (B.P.take k)) ∧ (bkP (B.P.take k)).P = B.P.take k ∧ (k < B.P.length → (postF (bkP (B.P.take k)) (B.P.getD k [])).2.2 = 0) := by
  induction h with
  | new =>
    intro k hk
    rw [show Bk.new.P = [] from rfl, List.take_nil]
    exact ⟨.new, rfl, fun h => absurd h (Nat.not_lt_zero _)⟩
  | @post B l h hz ih =>
    intro k hk
    rw [(postF_zero hz).2] at hk ⊢
    rw [List.length_append, List.length_singleton] at hk ⊢
    rcases Nat.lt_or_ge k B.P.length with hl | hl
    · have e1 : (B.P ++ [l]).take k = B.P.take k := by rw [List.take_append_of_le_length (by omega)]
      have e2 : (B.P ++ [l]).getD k [] = B.P.getD k [] := by simp only [List.getD_eq_getElem?_getD]; rw [List.getElem?_append_left hl]
      rw [e1, e2]
      obtain ⟨h1, h2, h3⟩ := ih k (by omega)
      exact ⟨h1, h2, fun _ => h3 hl⟩
    · rcases Nat.lt_or_ge B.P.length k with hl2 | hl2
      · obtain rfl : k = B.P.length + 1 := by omega
        rw [List.take_of_length_le (by simp), bkP_snoc, h.eq]
        exact ⟨.post h hz, (postF_zero hz).2, fun h => absurd h (by omega)⟩
      · obtain rfl : k = B.P.length := by omega
        have e1 : (B.P ++ [l]).take B.P.length = B.P := by rw [List.take_append_of_le_length (Nat.le_refl _), List.take_of_length_le (Nat.le_refl _)]
        have e2 : (B.P ++ [l]).getD B.P.length [] = l := by simp
        rw [e1, e2, h.eq]
        exact ⟨h, rfl, fun _ => hz⟩
end Go.Proofs.Ytabdnepfcohncaa.Abs
namespace Go.Proofs.Ytabdnepfcohncaa.Abs
set_option linter.unusedSimpArgs false
set_option linter.unusedVariables false
open Go.RowKit
open Go.Proofs.Ytabdnepfcohncaa.Sim
open Go.Proofs
/-- Rows that share no block. -/
structure Rows (n0 : Nat) (A : AM) (vs : Nat → Value) (sz : Nat → Nat) (cc : Nat → List Value) (ns : Nat → Nat) : Prop where
  row : ∀ i, Row A n0 (sz i) (vs i) (cc i) (ns i)
  dis : ∀ i j, i ≠ j → ∀ a, ¬ NotOf (vs i) a → NotOf (vs j) a
theorem Rows.msub {n0 : Nat} {A A' : AM} {vs : Nat → Value} {sz : Nat → Nat} {cc : Nat → List Value} {ns : Nat → Nat} (h : Rows n0 A vs sz cc ns) (hs : MSub A A') : Rows n0 A' vs sz cc ns := ⟨fun i => (h.row i).msub hs, h.dis⟩
theorem Rows.turn {n0 i : Nat} {A A' : AM} {vs vs' : Nat → Value} {sz : Nat → Nat} {cc cc' : Nat → List Value} {ns ns' : Nat → Nat} (h : Rows n0 A vs sz cc ns) (hr : Row A' n0 (sz i) (vs' i) (cc' i) (ns' i)) (hs : ∀ j b, A[j]? = some (some b) → NotOf (vs i) j → A'[j]? = some (some b))
    (hn : ∀ j b, A[j]? = some (some b) → NotOf (vs i) j → NotOf (vs' i) j) (he : ∀ k, k ≠ i → vs' k = vs k ∧ cc' k = cc k ∧ ns' k = ns k) : Rows n0 A' vs' sz cc' ns' := by
  have key : ∀ k, k ≠ i → ∀ a, ¬ NotOf (vs k) a → NotOf (vs' i) a := fun k hk a ha => by
    obtain ⟨b, hb⟩ := (h.row k).at_ ha
    exact hn a b hb (h.dis k i hk a ha)
  refine ⟨fun k => ?_, fun k l hkl a ha => ?_⟩
  · by_cases e : k = i
    · subst e; exact hr
    · obtain ⟨e1, e2, e3⟩ := he k e
      rw [e1, e2, e3]
      rcases h.row k with h1 | ⟨a, kd, s, q1, q2, q3, q4, q5⟩
      · exact .inl h1
      · exact .inr ⟨a, kd, s, q1, q2, hs a _ q3 (h.dis k i e a fun hn => hn _ _ q2), q4, q5⟩
  · by_cases e : k = i
    · subst e
      rw [(he l (Ne.symm hkl)).1]
      exact Classical.byContradiction fun hc => ha (key l (Ne.symm hkl) a hc)
    · rw [(he k e).1] at ha
      by_cases e2 : l = i
      · subst e2; exact key k e a ha
      · rw [(he l e2).1]
        exact h.dis k l hkl a ha
/-- A worker: the clerk, the row of its steps, the steps. -/
structure Wk where
  ck : Nat
  sv : Value
  st : List Stp
instance : Inhabited Wk := ⟨⟨0, .slice none 0 0, []⟩⟩
def Wk.c (w : Wk) : List Value := [.pointer (some ⟨w.ck, 0, none⟩), w.sv]
def stc (l : List Stp) : List Value := l.flatMap Stp.c
theorem flatS_get {α : Type} [Inhabited α] (f : α → List Value) (s : Nat) (hf : ∀ x, (f x).length = s) : ∀ (l : List α) (k : Nat), k < l.length → ∀ j v, (f (l.getD k default))[j]? = some v → (l.flatMap f)[k * s + j]? = some v
  | [], k, h => absurd h (Nat.not_lt_zero _)
  | x :: l, 0, _ => fun j v hv => by
    rw [List.flatMap_cons, Nat.zero_mul, Nat.zero_add, List.getElem?_append_left (by have := (List.getElem?_eq_some_iff.1 hv).1; simpa using this)]
    exact hv
  | x :: l, k + 1, h => fun j v hv => by
    rw [List.flatMap_cons, List.getElem?_append_right (by rw [hf, Nat.succ_mul]; omega), hf, show (k + 1) * s + j - s = k * s + j by rw [Nat.succ_mul]; omega]
    exact flatS_get f s hf l k (by simpa using h) j v (by simpa using hv)
def lvs (av wv : Value) (ws : List Wk) : Nat → Value
  | 0 => av
  | 1 => wv
  | k + 2 => (ws.getD k default).sv
def lcc (al wl : List Value) (ws : List Wk) : Nat → List Value
  | 0 => al
  | 1 => wl
  | k + 2 => stc (ws.getD k default).st
def lns (wl : List Value) (ws : List Wk) : Nat → Nat
  | 0 => ws.length
  | 1 => wl.length
  | k + 2 => (ws.getD k default).st.length
def lsz : Nat → Nat
  | 0 => 2
  | 1 => 1
  | _ => 8
abbrev cobj (bk : Nat) (B : Bk) (cs : List (Nat × Option Ck)) : Nat → AM → Prop := dobj 0 bk B (.slice none 0 0) [] cs
/-- The book, its clerks, the law's rows, and a new book that waits. -/
structure Shop (m : AM) (ow : Nat → Nat) (M : AM) (bk bk2 : Nat) (B : Bk) (av : Value) (al : List Value) (wv : Value) (wl : List Value) (cs : List (Nat × Option Ck)) (ws : List Wk) : Prop where
  side : Side m ow M (cobj bk B cs)
  rows : Rows (m.length + 2) (vw (fun j => ow j = 1) M) (lvs av wv ws) lsz (lcc al wl ws) (lns wl ws)
  lo : m.length ≤ bk2
  hi : bk2 < m.length + 2
  two : ow bk2 = 1
  new : M[bk2]? = some (some { cells := bkc Bk.new.H Bk.new.C (.slice none 0 0) })
  big : m.length + 2 ≤ M.length
section
variable {m : AM} {ow : Nat → Nat} {M : AM} {bk bk2 : Nat} {B : Bk} {av wv : Value} {al wl : List Value} {cs : List (Nat × Option Ck)} {ws : List Wk}
/-- The law's own blocks are where they were. -/
theorem own_sub {ow ow' : Nat → Nat} {M M2 : AM} (hl : M.length ≤ M2.length) (h : ∀ j, j < M.length → ow j = 1 → M2[j]? = M[j]? ∧ ow' j = 1) : MSub (vw (fun j => ow j = 1) M) (vw (fun j => ow' j = 1) M2) := by
  refine ⟨by rw [vw_len, vw_len]; exact hl, fun i b _ hi => ?_⟩
  obtain ⟨q1, q2⟩ := vw_some.1 hi
  obtain ⟨e1, e2⟩ := h i (List.getElem?_eq_some_iff.1 q2).1 q1
  exact vw_some.2 ⟨e2, by rw [e1]; exact q2⟩
/-- Behind a call that left the law's blocks. -/
theorem Shop.call {ow' : Nat → Nat} {M2 : AM} {B' : Bk} {cs' : List (Nat × Option Ck)} (h : Shop m ow M bk bk2 B av al wv wl cs ws) (hl : M.length ≤ M2.length) (hk : ∀ j, j < M.length → ow j = 1 → M2[j]? = M[j]? ∧ ow' j = 1) (hS : Side m ow' M2 (cobj bk B' cs')) : Shop m ow' M2 bk bk2 B' av al wv wl cs' ws := by
  have hb := (List.getElem?_eq_some_iff.1 h.new).1
  obtain ⟨e1, e2⟩ := hk bk2 hb h.two
  exact ⟨hS, h.rows.msub (own_sub hl hk), h.lo, h.hi, e2, by rw [e1]; exact h.new, by have := h.big; omega⟩
theorem Shop.app (h : Shop m ow M bk bk2 B av al wv wl cs ws) (N : AM) (i : Nat) : Shop m (asg ow M.length i) (M ++ N) bk bk2 B av al wv wl cs ws :=
  h.call (by rw [List.length_append]; omega) (fun j hj ho => ⟨List.getElem?_append_left hj, by rw [asg_lt hj]; exact ho⟩) (h.side.app N i)
theorem Shop.row (h : Shop m ow M bk bk2 B av al wv wl cs ws) (i : Nat) : Row M (m.length + 2) (lsz i) (lvs av wv ws i) (lcc al wl ws i) (lns wl ws i) := (h.rows.row i).msub (Sub.vw _ _).m
/-- The law turns one of its rows. -/
theorem Shop.turn {M3 : AM} {av' wv' : Value} {al' wl' : List Value} {ws' : List Wk} (h : Shop m ow M bk bk2 B av al wv wl cs ws) (i : Nat) (hr : Row M3 (m.length + 2) (lsz i) (lvs av' wv' ws' i) (lcc al' wl' ws' i) (lns wl' ws' i)) (hl : M.length ≤ M3.length)
    (hk : ∀ j, j < M.length → NotOf (lvs av wv ws i) j → M3[j]? = M[j]?) (hk2 : ∀ j, j < M.length → NotOf (lvs av wv ws i) j → NotOf (lvs av' wv' ws' i) j) (he : ∀ k, k ≠ i → lvs av' wv' ws' k = lvs av wv ws k ∧ lcc al' wl' ws' k = lcc al wl ws k ∧ lns wl' ws' k = lns wl ws k) :
    Shop m (asg ow M.length 1) M3 bk bk2 B av' al' wv' wl' cs ws' := by
  have hR := h.rows.row i
  have hD : ∀ j, ¬ NotOf (lvs av wv ws i) j → ow j = 1 ∧ m.length + 2 ≤ j := fun j hj => by
    obtain ⟨b, hb⟩ := hR.at_ hj
    refine ⟨(vw_some.1 hb).1, ?_⟩
    rcases Nat.lt_or_ge j (m.length + 2) with hlt | hge
    · exact absurd (NotOf.row hR hlt) hj
    · exact hge
  have hb2 := (List.getElem?_eq_some_iff.1 h.new).1
  refine ⟨?_, ?_, h.lo, h.hi, by rw [asg_lt hb2]; exact h.two, ?_, by have := h.big; omega⟩
  · refine h.side.law (D := fun j => ¬ NotOf (lvs av wv ws i) j) ⟨hl, fun j hj hn => hk j hj (Classical.byContradiction hn)⟩ (fun j hj => ⟨(hD j hj).1, by have := (hD j hj).2; omega⟩) (fun _ _ => rfl) Row.nil dobj_mono
  · refine h.rows.turn (i := i) ?_ (fun j b hj hn => ?_) (fun j b hj hn => hk2 j ?_ hn) he
    · refine Row.vw2 hr fun a ha => ?_
      by_cases hlt : a < M.length
      · show asg ow M.length 1 a = 1
        rw [asg_lt hlt]
        exact (hD a fun hn => ha (hk2 a hlt hn)).1
      · exact asg_ge (by omega)
    · obtain ⟨q1, q2⟩ := vw_some.1 hj
      have hlt := (List.getElem?_eq_some_iff.1 q2).1
      exact vw_some.2 ⟨by show asg ow M.length 1 j = 1; rw [asg_lt hlt]; exact q1, by rw [hk j hlt hn]; exact q2⟩
    · exact (List.getElem?_eq_some_iff.1 (vw_some.1 hj).2).1
  · rw [hk bk2 hb2 (Classical.byContradiction fun hc => by have := (hD bk2 hc).2; have := h.hi; omega)]
    exact h.new
theorem getD_set_wk {ws : List Wk} {k : Nat} {w : Wk} (hk : k < ws.length) (j : Nat) : (ws.set k w).getD j default = if j = k then w else ws.getD j default := by
  simp only [List.getD_eq_getElem?_getD]
  rw [set_getT hk]
  split <;> rfl
/-- One more step, not yet written down in the row of workers. -/
theorem Shop.step {M3 : AM} {u : Value} {k : Nat} {w : Wk} {s : Stp} (h : Shop m ow M bk bk2 B av al wv wl cs ws) (hw : ws[k]? = some w) (hr : Row M3 (m.length + 2) 8 u (stc w.st ++ s.c) (w.st.length + 1))
    (hl : M.length ≤ M3.length) (hk : ∀ j, j < M.length → NotOf w.sv j → M3[j]? = M[j]?) (hk2 : ∀ j, j < M.length → NotOf w.sv j → NotOf u j) : Shop m (asg ow M.length 1) M3 bk bk2 B av al wv wl cs (ws.set k ⟨w.ck, u, w.st ++ [s]⟩) := by
  have hkl := (List.getElem?_eq_some_iff.1 hw).1
  have e0 : (ws.getD k default) = w := by rw [List.getD_eq_getElem?_getD, hw]; rfl
  have e1 : ((ws.set k ⟨w.ck, u, w.st ++ [s]⟩).getD k default) = ⟨w.ck, u, w.st ++ [s]⟩ := by rw [getD_set_wk hkl, if_pos rfl]
  refine h.turn (k + 2) ?_ hl ?_ ?_ fun j hj => ?_
  · show Row M3 (m.length + 2) 8 ((ws.set k _).getD k default).sv (stc ((ws.set k _).getD k default).st) ((ws.set k _).getD k default).st.length
    rw [e1]
    show Row M3 _ 8 u (stc (w.st ++ [s])) (w.st ++ [s]).length
    rw [List.length_append, List.length_singleton, stc, List.flatMap_append, List.flatMap_cons, List.flatMap_nil, List.append_nil]
    exact hr
  · show ∀ j, j < M.length → NotOf (ws.getD k default).sv j → _
    rw [e0]; exact hk
  · show ∀ j, j < M.length → NotOf (ws.getD k default).sv j → NotOf ((ws.set k _).getD k default).sv j
    rw [e0, e1]; exact hk2
  · rcases j with _ | _ | j
    · exact ⟨rfl, rfl, by show (ws.set k _).length = ws.length; rw [List.length_set]⟩
    · exact ⟨rfl, rfl, rfl⟩
    · have e2 : (ws.set k ⟨w.ck, u, w.st ++ [s]⟩).getD j default = ws.getD j default := by rw [getD_set_wk hkl, if_neg (by omega)]
      exact ⟨by show Wk.sv _ = Wk.sv _; rw [e2], by show stc (Wk.st _) = stc (Wk.st _); rw [e2], by show (Wk.st _).length = (Wk.st _).length; rw [e2]⟩
/-- One more post. -/
theorem Shop.done {M3 : AM} {u sl : Value} (h : Shop m ow M bk bk2 B av al wv wl cs ws) (hr : Row M3 (m.length + 2) 1 u (wl ++ [sl]) (wl.length + 1)) (hl : M.length ≤ M3.length) (hk : ∀ j, j < M.length → NotOf wv j → M3[j]? = M[j]?) (hk2 : ∀ j, j < M.length → NotOf wv j → NotOf u j) :
    Shop m (asg ow M.length 1) M3 bk bk2 B av al u (wl ++ [sl]) cs ws := by
  refine h.turn 1 ?_ hl hk hk2 fun k hk => ?_
  · show Row M3 (m.length + 2) 1 u (wl ++ [sl]) (wl ++ [sl]).length
    rw [List.length_append]
    exact hr
  · rcases k with _ | _ | k
    · exact ⟨rfl, rfl, rfl⟩
    · exact absurd rfl hk
    · exact ⟨rfl, rfl, rfl⟩
end
/-- What the book, the clerks and the rows tell (plain). -/
structure Tale (B : Bk) (wl : List Value) (cs : List (Nat × Option Ck)) (ws : List Wk) : Prop where
  built : Built B
  len : wl.length = B.P.length
  same : cs.length = ws.length
  ck : ∀ (k : Nat) (w : Wk), ws[k]? = some w → ∃ o, cs[k]? = some (w.ck, o)
  run : ∀ (k : Nat) (w : Wk) (ck : Nat) (K : Ck), ws[k]? = some w → cs[k]? = some (ck, some K) → OKK K ∧ K.at_ ≤ B.P.length ∧ Ran ⟨K.at_, (bkP (B.P.take K.at_)).H, [], [], false⟩ w.st K
  rec_ : ∀ i, i < B.P.length → wl.getD i default = .slice none 0 0 ∨ ∃ (k : Nat) (w : Wk) (ck : Nat) (K : Ck) (a : Nat), ws[k]? = some w ∧ cs[k]? = some (ck, none) ∧ wl.getD i default = w.sv ∧ a ≤ i ∧ Ran ⟨a, (bkP (B.P.take a)).H, [], [], false⟩ w.st K ∧ stale K (bkP (B.P.take i)) = false ∧ (∀ x ∈ K.seen, inB x.1 x.2 = true) ∧ K.mv = B.P.getD i []
section
variable {B : Bk} {wl : List Value} {cs : List (Nat × Option Ck)} {ws : List Wk}
theorem Tale.new : Tale Bk.new [] [] [] := ⟨.new, rfl, rfl, fun k w h => by simp at h, fun k w ck K h => by simp at h, fun i h => absurd h (Nat.not_lt_zero _)⟩
/-- A step of a clerk at work. -/
theorem Tale.step (h : Tale B wl cs ws) {k ck : Nat} {K : Ck} {w : Wk} {s : Stp} (hw : ws[k]? = some w) (hc : cs[k]? = some (ck, some K)) (hs : okS K s) (hok : OKK (goS K s)) (u : Value) : Tale B wl (cs.set k (ck, some (goS K s))) (ws.set k ⟨w.ck, u, w.st ++ [s]⟩) := by
  have hkw := (List.getElem?_eq_some_iff.1 hw).1
  have hkc := (List.getElem?_eq_some_iff.1 hc).1
  have eck : ck = w.ck := by
    obtain ⟨o, ho⟩ := h.ck k w hw
    rw [hc] at ho
    injection ho with ho
    injection ho
  refine ⟨h.built, h.len, by simp [h.same], fun j w' hw' => ?_, fun j w' ck' K' hw' hc' => ?_, fun i hi => ?_⟩
  · rw [set_getT hkw] at hw'
    rw [set_getT hkc]
    by_cases e : j = k
    · rw [if_pos e] at hw' ⊢
      injection hw' with hw'
      subst hw'
      exact ⟨_, by rw [eck]⟩
    · rw [if_neg e] at hw' ⊢
      exact h.ck j w' hw'
  · rw [set_getT hkw] at hw'
    rw [set_getT hkc] at hc'
    by_cases e : j = k
    · rw [if_pos e] at hw' hc'
      injection hw' with hw'
      injection hc' with hc'
      injection hc' with _ hc'
      injection hc' with hc'
      subst hw' hc'
      obtain ⟨r1, r2, r3⟩ := h.run k w ck K hw hc
      rw [(goS_same K s).1]
      exact ⟨hok, r2, r3.snoc hs⟩
    · rw [if_neg e] at hw' hc'
      exact h.run j w' ck' K' hw' hc'
  · rcases h.rec_ i hi with e | ⟨j, w', ck', K', a, q1, q2, q3⟩
    · exact .inl e
    · have e : j ≠ k := fun e => by rw [e, hc] at q2; injection q2 with q2; injection q2 with _ q2; cases q2
      exact .inr ⟨j, w', ck', K', a, by rw [set_getT hkw, if_neg e]; exact q1, by rw [set_getT hkc, if_neg e]; exact q2, q3⟩
theorem take_app {α : Type} {P : List α} {k : Nat} (h : k ≤ P.length) (l : List α) : (P ++ l).take k = P.take k := by rw [List.take_append_of_le_length h]
/-- One more post. -/
theorem Tale.grow (h : Tale B wl cs ws) {l : List Tr} (hz : (postF B l).2.2 = 0) (sl : Value) (hn : sl = .slice none 0 0 ∨ ∃ (k : Nat) (w : Wk) (ck : Nat) (K : Ck) (a : Nat), ws[k]? = some w ∧ cs[k]? = some (ck, none) ∧ sl = w.sv ∧ a ≤ B.P.length ∧ Ran ⟨a, (bkP (B.P.take a)).H, [], [], false⟩ w.st K ∧ stale K B = false ∧ (∀ x ∈ K.seen, inB x.1 x.2 = true) ∧ K.mv = l) :
    Tale (postF B l).1 (wl ++ [sl]) cs ws := by
  have hP := (postF_zero hz).2
  have hl := h.len
  refine ⟨.post h.built hz, by rw [hP]; simp [hl], h.same, h.ck, fun j w' ck' K' hw' hc' => ?_, fun i hi => ?_⟩
  · obtain ⟨r1, r2, r3⟩ := h.run j w' ck' K' hw' hc'
    rw [hP, List.length_append, take_app r2]
    exact ⟨r1, by omega, r3⟩
  · rw [hP, List.length_append, List.length_singleton] at hi
    rw [hP]
    rcases Nat.lt_or_ge i B.P.length with hlt | hge
    · have e1 : (wl ++ [sl]).getD i default = wl.getD i default := by simp only [List.getD_eq_getElem?_getD]; rw [List.getElem?_append_left (by omega)]
      have e2 : (B.P ++ [l]).getD i [] = B.P.getD i [] := by simp only [List.getD_eq_getElem?_getD]; rw [List.getElem?_append_left hlt]
      rw [e1, e2, take_app (by omega)]
      rcases h.rec_ i hlt with e | ⟨j, w', ck', K', a, q1, q2, q3, q4, q5, q6⟩
      · exact .inl e
      · exact .inr ⟨j, w', ck', K', a, q1, q2, q3, q4, by rw [take_app (by omega)]; exact q5, q6⟩
    · obtain rfl : i = B.P.length := by omega
      have e1 : (wl ++ [sl]).getD B.P.length default = sl := by rw [← hl]; simp
      have e2 : (B.P ++ [l]).getD B.P.length [] = l := by simp
      rw [e1, e2, take_app (Nat.le_refl _), List.take_of_length_le (Nat.le_refl _), h.built.eq]
      rcases hn with e | ⟨j, w', ck', K', a, q1, q2, q3, q4, q5, q6⟩
      · exact .inl e
      · exact .inr ⟨j, w', ck', K', a, q1, q2, q3, q4, by rw [take_app q4]; exact q5, q6⟩
theorem Tale.post (h : Tale B wl cs ws) (l : List Tr) :
    (postF B l).2.1 = 0 ∧ Tale (postF B l).1 wl cs ws ∨ (postF B l).2.1 = ((postF B l).1.P.length : Int) ∧ (postF B l).1.P.length = wl.length + 1 ∧ Tale (postF B l).1 (wl ++ [.slice none 0 0]) cs ws := by
  by_cases hz : (postF B l).2.2 = 0
  · have hP := (postF_zero hz).2
    exact .inr ⟨by rw [postF_num hz, hP]; simp, by rw [hP]; simp [h.len], h.grow hz _ (.inl rfl)⟩
  · obtain ⟨e1, e2⟩ := postF_bad hz
    exact .inl ⟨e2, by rw [e1]; exact h⟩
end
end Go.Proofs.Ytabdnepfcohncaa.Abs
namespace Go.Proofs.Ytabdnepfcohncaa.Abs
set_option linter.unusedSimpArgs false
set_option linter.unusedVariables false
open Go.RowKit
open Go.Proofs.Ytabdnepfcohncaa.Sim
open Go.Proofs
def rkc (xb a : Nat) (rv mvv : Value) (d : Bool) : List Value := [.pointer (some ⟨xb, 0, none⟩), .int .i64 (a : Nat), rv, mvv, .bool d]
def kyc (l : List (Int × Int)) : List Value := l.flatMap fun x => [.int .i64 x.1, .int .i64 x.2]
theorem kyc_app (a b : List (Int × Int)) : kyc (a ++ b) = kyc a ++ kyc b := by simp [kyc]
/-- A clerk of the reference. -/
structure RClerkAt (M : AM) (xk : Nat) (rv mvv : Value) (xb : Nat) (K : Ck) : Prop where
  cells : M[xk]? = some (some { cells := rkc xb K.at_ rv mvv K.done })
  reads : Row M 0 2 rv (kyc K.seen.reverse) K.seen.length
  row : Row M 0 4 mvv (tcs K.mv) K.mv.length
  lb : xb < M.length
  ar : NotOf rv xk
  am : NotOf mvv xk
  dis : ∀ j, ¬ NotOf rv j → NotOf mvv j
def rkD (xk : Nat) (rv mvv : Value) : Nat → Prop := fun j => j = xk ∨ ¬ NotOf rv j ∨ ¬ NotOf mvv j
/-- A clerk of the reference that is done. -/
def RDone (M : AM) (xk xb : Nat) : Prop := ∃ b, M[xk]? = some (some b) ∧ b.kind.mine = true ∧ b.cells[0]? = some (.pointer (some ⟨xb, 0, none⟩)) ∧ b.cells[4]? = some (.bool true) ∧ xb < M.length
theorem RClerkAt.lt {M : AM} {xk xb : Nat} {rv mvv : Value} {K : Ck} (h : RClerkAt M xk rv mvv xb K) : xk < M.length := (List.getElem?_eq_some_iff.1 h.cells).1
theorem RClerkAt.rd {M : AM} {xk xb : Nat} {rv mvv : Value} {K : Ck} (h : RClerkAt M xk rv mvv xb K) (T : AM) (j : Nat) (v : Value) (hv : (rkc xb K.at_ rv mvv K.done)[j]? = some v) : Rd (M ++ T) xk j v := Rd.old T ⟨_, h.cells, hv⟩
theorem bl199 {a n : Nat} : abuild Try.prog 199 [(0, .pointer (some ⟨a, 0, none⟩)), (1, .int .i64 ((n : Nat) : Int))] = some (.agg #[.pointer (some ⟨a, 0, none⟩), .int .i64 (n : Nat), .slice none 0 0, .slice none 0 0, .bool false]) := by kernel_rfl
set_option maxRecDepth 100000 in
theorem RBegin_ok {m : AM} {b0 xb : Nat} {P : List (List Tr)} {pv : Value} (h : RBook m b0 xb P pv) (V : List Int) : ACall Try.prog 106 #[.pointer (some ⟨xb, 0, none⟩)] m (fun r M => r = .pointer (some ⟨m.length, 0, none⟩) ∧ RClerkAt M m.length (.slice none 0 0) (.slice none 0 0) xb ⟨P.length, V, [], [], false⟩ ∧ ∃ N, M = m ++ N) := by
  have hxl := h.lt
  have rx := fun T => Rd.old T (show Rd m xb 0 pv from ⟨_, h.cells, rfl⟩)
  obtain ⟨pc, hrow, hps⟩ := h.posts
  obtain ⟨ar, r1, r2, r3⟩ := hrow.sl (by omega)
  refine ACall.start Try.func106 rfl rfl ?_
  (repeat (first | (with_reducible refine AWo.cons ?_) | ((with_reducible refine Step.id ?_); first | ((with_reducible apply Step.move); exact rfl; exact rfl) | ((with_reducible apply Step.assign); exact rfl; exact rfl) | ((with_reducible apply Step.load); exact rfl; (focus (decide +kernel)); exact rfl; (focus (exact rx _))) | ((with_reducible apply Step.field0); exact rfl; (focus (decide +kernel)); exact rfl) | ((with_reducible apply Step.len); exact rfl; (focus (assumption)); (focus (decide +kernel)); exact rfl) | ((with_reducible apply Step.nilp); exact rfl; exact rfl) | ((with_reducible apply Step.box 0); exact rfl; exact rfl; (focus (kernel_rfl)); exact rfl; (focus (first | (simp only [List.nil_append, List.cons_append, List.set_cons_zero, List.set_cons_succ, iv_set, bv_set, iv_rep, bv_rep]; done) | (simp only [List.nil_append, List.cons_append, List.set_cons_zero, List.set_cons_succ, iv_set, bv_set, iv_rep, bv_rep]; rfl) | rfl))) | ((with_reducible apply Step.build); exact rfl; exact bl199; exact rfl)) | (with_reducible refine AWo.nil ?_) | ((with_reducible apply AW.seq)) | ((with_reducible apply Then.n)) | ((with_reducible apply AW.regL))))
  (refine AW.ret ?_; (repeat (first | refine Then.r ?_ | refine InBlk.r ?_)))
  refine ⟨_, rfl, rfl, ⟨?_, Row.nil, Row.nil, by rw [List.length_append]; omega, NotOf.nil, NotOf.nil, fun j hj => absurd NotOf.nil hj⟩, _, rfl⟩
  rw [List.getElem?_append_right (Nat.le_refl _), Nat.sub_self]
  rfl
set_option maxRecDepth 100000 in
theorem RDrop_no {m : AM} {xk xb : Nat} (h : RDone m xk xb) : ACall Try.prog 114 #[.pointer (some ⟨xk, 0, none⟩)] m (Ret (.int .i64 9) m) := by
  obtain ⟨b, h1, h2, h3, h4, h5⟩ := h
  have r4 := fun T => Rd.old T (show Rd m xk (0 + 4) (.bool true) from ⟨b, h1, h4⟩)
  refine ACall.start Try.func114 rfl rfl ?_
  (repeat (first | (with_reducible refine AWo.cons ?_) | ((with_reducible refine Step.id ?_); first | ((with_reducible apply Step.move); exact rfl; exact rfl) | ((with_reducible apply Step.assign); exact rfl; exact rfl) | ((with_reducible apply Step.load); exact rfl; (focus (decide +kernel)); exact rfl; (focus (exact r4 _))) | ((with_reducible apply Step.field (k := 4)); exact rfl; (focus (decide +kernel)); exact rfl) | ((with_reducible apply Step.nilp); exact rfl; exact rfl)) | (with_reducible refine AWo.nil ?_) | ((with_reducible apply AW.seq)) | ((with_reducible apply Then.n)) | ((with_reducible apply AW.regL)) | ((with_reducible apply AW.condT); exact rfl; (focus (rfl)))))
  (refine AW.retD (l := [(2, _)]) (by repeat (first | exact trivial | (refine And.intro ⟨rfl, by (exact .int _ _)⟩ ?_))) ?_; (repeat (first | refine Then.r ?_ | refine InBlk.r ?_)))
  exact ⟨_, rfl, rfl, rfl⟩
theorem szB4 : szB Try.prog 4 = some 1 := by kernel_rfl
theorem szB48 : szB Try.prog 48 = some 1 := by kernel_rfl
theorem szB197 : szB Try.prog 197 = some 1 := by kernel_rfl
theorem el197 : elemB Try.prog 197 = some (145, 2, 16, #[.int .i64 0, .int .i64 0]) := by kernel_rfl
theorem un197 : Try.prog.underlying 197 = some (.slice 145) := by kernel_rfl
theorem bs197 {m : AM} {k : Nat} {a b : Int} : abuildSlice Try.prog m k 197 1 [(0, .agg #[.int .i64 a, .int .i64 b])] = some (.slice (some ⟨k, 0, none⟩) 1 1, m.set k (some { cells := [.int .i64 a, .int .i64 b] })) := by kernel_rfl
set_option maxRecDepth 100000 in
theorem RDrop_ok {m : AM} {xk xb : Nat} {rv mvv : Value} {K : Ck} (h : RClerkAt m xk rv mvv xb K) (hd : K.done = false) : ACall Try.prog 114 #[.pointer (some ⟨xk, 0, none⟩)] m (fun r M => r = .int .i64 0 ∧ RDone M xk xb ∧ Keep (rkD xk rv mvv) m M) := by
  have r4 := fun T => h.rd T (0 + 4) (.bool false) (by rw [hd]; rfl)
  have hl := h.lt
  refine ACall.start Try.func114 rfl rfl ?_
  (repeat (first | (with_reducible refine AWo.cons ?_) | ((with_reducible refine Step.id ?_); first | ((with_reducible apply Step.move); exact rfl; exact rfl) | ((with_reducible apply Step.assign); exact rfl; exact rfl) | ((with_reducible apply Step.load); exact rfl; (focus (decide +kernel)); exact rfl; (focus (exact r4 _))) | ((with_reducible apply Step.field (k := 4)); exact rfl; (focus (decide +kernel)); exact rfl) | ((with_reducible apply Step.nilp); exact rfl; exact rfl)) | (with_reducible refine AWo.nil ?_) | ((with_reducible apply AW.seq)) | ((with_reducible apply Then.n)) | ((with_reducible apply AW.regL)) | ((with_reducible apply AW.skip)) | ((with_reducible apply AW.condF); exact rfl; (focus (rfl)))))
  ((with_reducible apply Step.storeAt); exact rfl; exact rfl; exact (get_old _ h.cells); exact szB4; exact rfl; (focus (show 0 + 4 < 5; omega)); exact rfl; exact rfl)
  (repeat (first | (with_reducible refine AWo.cons ?_) | ((with_reducible refine Step.id ?_); ((with_reducible apply Step.assign); exact rfl; exact rfl)) | (with_reducible refine AWo.nil ?_) | ((with_reducible apply AW.seq)) | ((with_reducible apply Then.n)) | ((with_reducible apply AW.regL))))
  (refine AW.ret ?_; (repeat (first | refine Then.r ?_ | refine InBlk.r ?_)))
  refine ⟨_, rfl, rfl, ⟨_, set_hit (get_old _ h.cells), rfl, rfl, rfl, by rw [List.length_set, List.length_append]; have := h.lb; omega⟩, by rw [List.length_set, List.length_append]; omega, fun j hj hn => ?_⟩
  rw [List.getElem?_set_ne (fun e => hn (.inl e.symm)), List.getElem?_append_left hj]
set_option maxHeartbeats 8000000 in
set_option maxRecDepth 100000 in
theorem RMove_ok {m : AM} {xk xb : Nat} {rv mvv : Value} {K : Ck} {x : Tr} (h : RClerkAt m xk rv mvv xb K) (hle : K.mv.length ≤ 16) : ACall Try.prog 112 #[.pointer (some ⟨xk, 0, none⟩), x.v] m (fun r M => ∃ mvv', r = .int .i64 (moF K x).1 ∧ RClerkAt M xk rv mvv' xb (moF K x).2 ∧ Keep (rkD xk rv mvv) m M) := by
  have r4 := fun T => h.rd T (0 + 4) (.bool K.done) rfl
  have r3 := fun T => h.rd T (0 + 3) mvv rfl
  have hl := h.lt
  have hva := fun T b e => Valid_ok (m := m ++ T) x (b := b) e
  obtain ⟨am, q1, q2, q3⟩ := h.row.sl (by omega)
  obtain ⟨i, f, t, n⟩ := x
  unfold moF
  cases hd : K.done with
  | true =>
    rw [hd] at r4
    simp only [if_true]
    refine ACall.start Try.func112 rfl rfl ?_
    (repeat (first | (with_reducible refine AWo.cons ?_) | ((with_reducible refine Step.id ?_); first | ((with_reducible apply Step.move); exact rfl; exact rfl) | ((with_reducible apply Step.assign); exact rfl; exact rfl) | ((with_reducible apply Step.load); exact rfl; (focus (decide +kernel)); exact rfl; (focus (exact r4 _))) | ((with_reducible apply Step.field (k := 4)); exact rfl; (focus (decide +kernel)); exact rfl) | ((with_reducible apply Step.nilp); exact rfl; exact rfl) | ((with_reducible apply Step.box 0); exact rfl; exact rfl; (focus (kernel_rfl)); exact rfl; (focus (first | (simp only [List.nil_append, List.cons_append, List.set_cons_zero, List.set_cons_succ, iv_set, bv_set, iv_rep, bv_rep]; done) | (simp only [List.nil_append, List.cons_append, List.set_cons_zero, List.set_cons_succ, iv_set, bv_set, iv_rep, bv_rep]; rfl) | rfl)))) | (with_reducible refine AWo.nil ?_) | ((with_reducible apply AW.seq)) | ((with_reducible apply Then.n)) | ((with_reducible apply AW.regL)) | ((with_reducible apply AW.block)) | ((with_reducible apply AW.condT); exact rfl; (focus (rfl)))))
    (refine AW.ret ?_; (repeat (first | refine Then.r ?_ | refine InBlk.r ?_)))
    exact ⟨_, rfl, mvv, rfl, ⟨get_old _ h.cells, h.reads.old _, h.row.old _, by rw [List.length_append]; have := h.lb; omega, h.ar, h.am, h.dis⟩, Keep.app _ _ _⟩
  | false =>
    rw [hd] at r4
    simp only [Bool.false_eq_true, if_false]
    cases hok : okT ⟨i, f, t, n⟩ with
    | false =>
      have hva := fun T => hva T _ hok
      simp only [Bool.false_eq_true, if_false]
      refine ACall.start Try.func112 rfl rfl ?_
      (repeat (first | (with_reducible refine AWo.cons ?_) | ((with_reducible refine Step.id ?_); first | ((with_reducible apply Step.move); exact rfl; exact rfl) | ((with_reducible apply Step.assign); exact rfl; exact rfl) | ((with_reducible apply Step.load); exact rfl; (focus (decide +kernel)); exact rfl; (focus (exact r4 _))) | ((with_reducible apply Step.loadL (n := 4)); exact rfl; (focus (decide +kernel)); (focus (decide +kernel)); exact rfl; (focus (exact RdL.new rfl rfl)); exact rfl; exact rfl) | ((with_reducible apply Step.field (k := 4)); exact rfl; (focus (decide +kernel)); exact rfl) | ((with_reducible apply Step.not); exact rfl; exact rfl) | ((with_reducible apply Step.nilp); exact rfl; exact rfl) | ((with_reducible apply Step.callR fit); exact rfl; exact Try.func130; exact rfl; exact rfl; exact (hva _)) | ((with_reducible apply Step.box 0); exact rfl; exact rfl; (focus (kernel_rfl)); exact rfl; (focus (first | (simp only [List.nil_append, List.cons_append, List.set_cons_zero, List.set_cons_succ, iv_set, bv_set, iv_rep, bv_rep]; done) | (simp only [List.nil_append, List.cons_append, List.set_cons_zero, List.set_cons_succ, iv_set, bv_set, iv_rep, bv_rep]; rfl) | rfl)))) | (with_reducible refine AWo.nil ?_) | ((with_reducible apply AW.seq)) | ((with_reducible apply Then.n)) | ((with_reducible apply AW.regL)) | ((with_reducible apply AW.block)) | ((with_reducible apply AW.condT); exact rfl; (focus (rfl))) | ((with_reducible apply AW.condF); exact rfl; (focus (rfl)))))
      (refine AW.ret ?_; (repeat (first | refine Then.r ?_ | refine InBlk.r ?_)))
      exact ⟨_, rfl, mvv, rfl, ⟨get_old _ h.cells, h.reads.old _, h.row.old _, by rw [List.length_append]; have := h.lb; omega, h.ar, h.am, h.dis⟩, Keep.app _ _ _⟩
    | true =>
      have hva := fun T => hva T _ hok
      simp only [if_true]
      by_cases h16 : 16 ≤ K.mv.length
      · simp only [h16, if_true]
        refine ACall.start Try.func112 rfl rfl ?_
        (repeat (first | (with_reducible refine AWo.cons ?_) | ((with_reducible refine Step.id ?_); first | ((with_reducible apply Step.move); exact rfl; exact rfl) | ((with_reducible apply Step.assign); exact rfl; exact rfl) | ((with_reducible apply Step.load); exact rfl; (focus (decide +kernel)); exact rfl; (focus (first | exact r4 _ | exact r3 _))) | ((with_reducible apply Step.loadL (n := 4)); exact rfl; (focus (decide +kernel)); (focus (decide +kernel)); exact rfl; (focus (exact RdL.new rfl rfl)); exact rfl; exact rfl) | ((with_reducible apply Step.field (k := 3)); exact rfl; (focus (decide +kernel)); exact rfl) | ((with_reducible apply Step.field (k := 4)); exact rfl; (focus (decide +kernel)); exact rfl) | ((with_reducible apply Step.eql); exact rfl; exact rfl; exact rfl) | ((with_reducible apply Step.len); exact rfl; (focus (assumption)); (focus (decide +kernel)); exact rfl) | ((with_reducible apply Step.not); exact rfl; exact rfl) | ((with_reducible apply Step.nilp); exact rfl; exact rfl) | ((with_reducible apply Step.callR fit); exact rfl; exact Try.func130; exact rfl; exact rfl; exact (hva _)) | ((with_reducible apply Step.box 0); exact rfl; exact rfl; (focus (kernel_rfl)); exact rfl; (focus (first | (simp only [List.nil_append, List.cons_append, List.set_cons_zero, List.set_cons_succ, iv_set, bv_set, iv_rep, bv_rep]; done) | (simp only [List.nil_append, List.cons_append, List.set_cons_zero, List.set_cons_succ, iv_set, bv_set, iv_rep, bv_rep]; rfl) | rfl)))) | (with_reducible refine AWo.nil ?_) | ((with_reducible apply AW.seq)) | ((with_reducible apply Then.n)) | ((with_reducible apply AW.regL)) | ((with_reducible apply AW.block)) | ((with_reducible apply AW.condT); exact rfl; (focus ((simp only [decide_eq_true_eq, decide_eq_false_iff_not, Bool.not_eq_true', Bool.not_eq_false', Bool.not_true, Bool.not_false]; first | assumption | omega)))) | ((with_reducible apply AW.condF); exact rfl; (focus (rfl)))))
        (refine AW.ret ?_; (repeat (first | refine Then.r ?_ | refine InBlk.r ?_)))
        exact ⟨_, rfl, mvv, rfl, ⟨get_old _ h.cells, h.reads.old _, h.row.old _, by rw [List.length_append]; have := h.lb; omega, h.ar, h.am, h.dis⟩, Keep.app _ _ _⟩
      · simp only [h16, if_false]
        refine ACall.start Try.func112 rfl rfl ?_
        (repeat' (first | (with_reducible refine AWo.cons ?_) | ((with_reducible refine Step.id ?_); first | ((with_reducible apply Step.move); exact rfl; exact rfl) | ((with_reducible apply Step.assign); exact rfl; exact rfl) | ((with_reducible apply Step.load); exact rfl; (focus (decide +kernel)); exact rfl; (focus (first | exact r4 _ | exact r3 _))) | ((with_reducible apply Step.loadL (n := 4)); exact rfl; (focus (decide +kernel)); (focus (decide +kernel)); exact rfl; (focus (exact RdL.new rfl rfl)); exact rfl; exact rfl) | ((with_reducible apply Step.field (k := 3)); exact rfl; (focus (decide +kernel)); exact rfl) | ((with_reducible apply Step.field (k := 4)); exact rfl; (focus (decide +kernel)); exact rfl) | ((with_reducible apply Step.eql); exact rfl; exact rfl; exact rfl) | ((with_reducible apply Step.len); exact rfl; (focus (assumption)); (focus (decide +kernel)); exact rfl) | ((with_reducible apply Step.not); exact rfl; exact rfl) | ((with_reducible apply Step.nilp); exact rfl; exact rfl) | ((with_reducible apply Step.callR fit); exact rfl; exact Try.func130; exact rfl; exact rfl; exact (hva _)) | ((with_reducible apply Step.box 0); exact rfl; exact rfl; (focus (kernel_rfl)); exact rfl; (focus (first | (simp only [List.nil_append, List.cons_append, List.set_cons_zero, List.set_cons_succ, iv_set, bv_set, iv_rep, bv_rep]; done) | (simp only [List.nil_append, List.cons_append, List.set_cons_zero, List.set_cons_succ, iv_set, bv_set, iv_rep, bv_rep]; rfl) | rfl))) | ((with_reducible apply Step.buildS 1); exact rfl; exact rfl; exact (fun _ _ => bs48); exact rfl; (focus (first | (simp only [List.nil_append, List.cons_append, List.set_cons_zero, List.set_cons_succ, iv_set, bv_set, iv_rep, bv_rep]; done) | (simp only [List.nil_append, List.cons_append, List.set_cons_zero, List.set_cons_succ, iv_set, bv_set, iv_rep, bv_rep]; rfl) | rfl)))) | (with_reducible refine AWo.nil ?_) | ((with_reducible apply AW.seq)) | ((with_reducible apply Then.n)) | ((with_reducible apply AW.regL)) | ((with_reducible apply AW.block)) | ((with_reducible apply AW.drawT fit (T := (.step 0 (.step 1 (.step 2 (.step 3 (.step 5 (.both (.step 4 (.step 6 (.step 7 (.step 8 (.step 9 (.step 10 .done)))))) (.step 6 (.step 4 (.step 7 (.step 8 (.step 9 (.step 10 .done)))))))))))))); (focus (decide +kernel))) | ((with_reducible apply AWt.step); exact rfl) | ((with_reducible apply InBlk.n)) | ((with_reducible apply AW.skip)) | ((with_reducible apply AW.condF); exact rfl; (focus (first | rfl | (simp only [decide_eq_true_eq, decide_eq_false_iff_not, Bool.not_eq_true', Bool.not_eq_false', Bool.not_true, Bool.not_false]; first | assumption | omega)))) | refine AWt.both ?_ ?_))
        all_goals ((with_reducible apply Step.appRow2 (n := K.mv.length) (xl := 1) (b0 := 0) (new := [.int .i64 i, .int .i64 f, .int .i64 t, .int .i64 n])); exact rfl; exact rfl; exact (h.row.old _); exact (Sl.mk (Nat.le_refl _)); exact (fun _ => RdL.new rfl rfl); exact el48; exact un48; exact rfl; exact rfl; exact rfl; (focus (omega)); exact rfl; exact (Nat.zero_le _))
        all_goals intro u X hr1 hml1 hk1 hk2
        all_goals rw [List.length_append] at hml1
        all_goals have hXc : X[xk]? = some (some { cells := rkc xb K.at_ rv mvv false }) := by rw [hk1 xk (by rw [List.length_append]; omega) h.am, List.getElem?_append_left hl, h.cells, hd]
        all_goals have hus := hr1.slv.one
        all_goals (repeat' (first | ((with_reducible refine Step.id ?_); first | ((with_reducible apply Step.field (k := 3)); exact rfl; (focus (decide +kernel)); exact rfl) | ((with_reducible apply Step.nilp); exact rfl; exact rfl)) | ((with_reducible apply AWt.step); exact rfl)))
        all_goals ((with_reducible apply Step.storeAt); exact rfl; exact rfl; exact hXc; exact szB48; exact rfl; (focus (show 0 + 3 < 5; omega)); exact hus.2; exact hus.1)
        all_goals (repeat (first | (with_reducible refine AWo.cons ?_) | ((with_reducible refine Step.id ?_); ((with_reducible apply Step.assign); exact rfl; exact rfl)) | (with_reducible refine AWo.nil ?_) | ((with_reducible apply AW.seq)) | ((with_reducible apply Then.n)) | ((with_reducible apply AW.regL)) | ((with_reducible apply AWt.done))))
        all_goals (refine AW.ret ?_; (repeat (first | refine Then.r ?_ | refine InBlk.r ?_)))
        all_goals have hnu : NotOf u xk := hk2 xk (by rw [List.length_append]; omega) h.am
        all_goals have hkp : ∀ j, j < m.length → j ≠ xk → NotOf mvv j → (X.set xk (some { cells := (rkc xb K.at_ rv mvv false).set (0 + 3) u }))[j]? = m[j]? := fun j hj h1 h2 => by rw [List.getElem?_set_ne (Ne.symm h1), hk1 j (by rw [List.length_append]; omega) h2, List.getElem?_append_left hj]
        all_goals refine ⟨_, rfl, u, rfl, ⟨set_hit hXc, h.reads.keep fun j hj hn => hkp j hj (fun e => hn (e ▸ h.ar)) (h.dis j hn), ?_, by rw [List.length_set]; have := h.lb; omega, h.ar, hnu, fun j hj => hk2 j ?_ (h.dis j hj)⟩, by rw [List.length_set]; omega, fun j hj hn => hkp j hj (fun e => hn (.inl e)) (Classical.byContradiction fun e => hn (.inr (.inr e)))⟩
        all_goals first
          | (obtain ⟨b, hb⟩ := h.reads.at_ hj; have := (List.getElem?_eq_some_iff.1 hb).1; rw [List.length_append]; omega)
          | (show Row _ 0 4 u (tcs (K.mv ++ [⟨i, f, t, n⟩])) (K.mv ++ [(⟨i, f, t, n⟩ : Tr)]).length
             rw [tcs_app, List.length_append]
             exact hr1.set hnu)
set_option maxHeartbeats 8000000 in
set_option maxRecDepth 100000 in
theorem RHeldC_no {m : AM} {xk xb : Nat} (p i : Int) (h : RDone m xk xb) : ACall Try.prog 111 #[.pointer (some ⟨xk, 0, none⟩), .int .i64 p, .int .i64 i] m (Ret (.tuple #[.int .i64 0, .int .i64 9]) m) := by
  obtain ⟨b, h1, h2, h3, h4, h5⟩ := h
  have r4 := fun T => Rd.old T (show Rd m xk (0 + 4) (.bool true) from ⟨b, h1, h4⟩)
  refine ACall.start Try.func111 rfl rfl ?_
  (repeat (first | (with_reducible refine AWo.cons ?_) | ((with_reducible refine Step.id ?_); first | ((with_reducible apply Step.move); exact rfl; exact rfl) | ((with_reducible apply Step.assign); exact rfl; exact rfl) | ((with_reducible apply Step.load); exact rfl; (focus (decide +kernel)); exact rfl; (focus (exact r4 _))) | ((with_reducible apply Step.field (k := 4)); exact rfl; (focus (decide +kernel)); exact rfl) | ((with_reducible apply Step.nilp); exact rfl; exact rfl)) | (with_reducible refine AWo.nil ?_) | ((with_reducible apply AW.seq)) | ((with_reducible apply Then.n)) | ((with_reducible apply AW.regL)) | ((with_reducible apply AW.condT); exact rfl; (focus (rfl)))))
  (refine AW.retD (l := [(6, _), (7, _)]) (by repeat (first | exact trivial | (refine And.intro ⟨rfl, by (exact .int _ _)⟩ ?_))) ?_; (repeat (first | refine Then.r ?_ | refine InBlk.r ?_)))
  exact ⟨_, rfl, rfl, rfl⟩
set_option maxHeartbeats 8000000 in
set_option maxRecDepth 100000 in
theorem RHeldC_bad {m : AM} {xk xb : Nat} {rv mvv : Value} {K : Ck} {p i : Int} (h : RClerkAt m xk rv mvv xb K) (hd : K.done = false) (hin : inB p i = false) : ACall Try.prog 111 #[.pointer (some ⟨xk, 0, none⟩), .int .i64 p, .int .i64 i] m (Ret (.tuple #[.int .i64 0, .int .i64 2]) m) := by
  have r4 := fun T => h.rd T (0 + 4) (.bool false) (by rw [hd]; rfl)
  have hip := fun T b e => in_ok (m := m ++ T) p (b := b) e
  have hii := fun T b e => in_ok (m := m ++ T) i (b := b) e
  refine ACall.start Try.func111 rfl rfl ?_
  simp only [inB, decide_eq_false_iff_not] at hin
  by_cases c : 0 ≤ p ∧ p < 16
  · have hip := fun T => hip T true (decide_eq_true c)
    have hii := fun T => hii T false (decide_eq_false (fun e => hin ⟨c.1, c.2, e.1, e.2⟩))
    (repeat (first | (with_reducible refine AWo.cons ?_) | ((with_reducible refine Step.id ?_); first | ((with_reducible apply Step.gdT); exact rfl; exact rfl; (focus (rfl))) | ((with_reducible apply Step.move); exact rfl; exact rfl) | ((with_reducible apply Step.assign); exact rfl; exact rfl) | ((with_reducible apply Step.load); exact rfl; (focus (decide +kernel)); exact rfl; (focus (exact r4 _))) | ((with_reducible apply Step.field (k := 4)); exact rfl; (focus (decide +kernel)); exact rfl) | ((with_reducible apply Step.not); exact rfl; exact rfl) | ((with_reducible apply Step.nilp); exact rfl; exact rfl) | ((with_reducible apply Step.pickF); exact rfl; exact rfl; exact rfl; exact rfl; (focus (rfl))) | ((with_reducible apply Step.callR fit); exact rfl; exact Try.func128; exact rfl; exact rfl; exact (hip _)) | ((with_reducible apply Step.callR fit); exact rfl; exact Try.func128; exact rfl; exact rfl; exact (hii _))) | (with_reducible refine AWo.nil ?_) | ((with_reducible apply AW.seq)) | ((with_reducible apply Then.n)) | ((with_reducible apply AW.regL)) | ((with_reducible apply AW.skip)) | ((with_reducible apply AW.condT); exact rfl; (focus (rfl))) | ((with_reducible apply AW.condF); exact rfl; (focus (rfl)))))
    (refine AW.retD (l := [(6, _), (7, _)]) (by repeat (first | exact trivial | (refine And.intro ⟨rfl, by (exact .int _ _)⟩ ?_))) ?_; (repeat (first | refine Then.r ?_ | refine InBlk.r ?_)))
    exact ⟨_, rfl, rfl, rfl⟩
  · have hip := fun T => hip T false (decide_eq_false c)
    (repeat (first | (with_reducible refine AWo.cons ?_) | ((with_reducible refine Step.id ?_); first | ((with_reducible apply Step.gdF); exact rfl; exact rfl; (focus (rfl))) | ((with_reducible apply Step.move); exact rfl; exact rfl) | ((with_reducible apply Step.assign); exact rfl; exact rfl) | ((with_reducible apply Step.load); exact rfl; (focus (decide +kernel)); exact rfl; (focus (exact r4 _))) | ((with_reducible apply Step.field (k := 4)); exact rfl; (focus (decide +kernel)); exact rfl) | ((with_reducible apply Step.not); exact rfl; exact rfl) | ((with_reducible apply Step.nilp); exact rfl; exact rfl) | ((with_reducible apply Step.pickT); exact rfl; exact rfl; exact rfl; exact rfl; (focus (rfl))) | ((with_reducible apply Step.callR fit); exact rfl; exact Try.func128; exact rfl; exact rfl; exact (hip _))) | (with_reducible refine AWo.nil ?_) | ((with_reducible apply AW.seq)) | ((with_reducible apply Then.n)) | ((with_reducible apply AW.regL)) | ((with_reducible apply AW.skip)) | ((with_reducible apply AW.condT); exact rfl; (focus (rfl))) | ((with_reducible apply AW.condF); exact rfl; (focus (rfl)))))
    (refine AW.retD (l := [(6, _), (7, _)]) (by repeat (first | exact trivial | (refine And.intro ⟨rfl, by (exact .int _ _)⟩ ?_))) ?_; (repeat (first | refine Then.r ?_ | refine InBlk.r ?_)))
    exact ⟨_, rfl, rfl, rfl⟩
set_option maxHeartbeats 8000000 in
set_option maxRecDepth 100000 in
theorem RHeldC_ok {m : AM} {S : Nat → Prop} {b0 xk xb : Nat} {rv mvv pv : Value} {K : Ck} {P : List (List Tr)} {p i : Int} (h : RClerkAt m xk rv mvv xb K) (hd : K.done = false) (hin : inB p i = true) (hB : RBook (vw S m) b0 xb P pv) (hS : ∀ j, rkD xk rv mvv j → ¬ S j) (hsl : K.seen.length ≤ 1000000) (hmv : K.mv.length ≤ 16) (hat : K.at_ ≤ P.length) (hP : smallT P.flatten) (hmo : smallT K.mv) (hlen : P.flatten.length ≤ 100000000) (hpl : P.length ≤ 1000000) :
    ACall Try.prog 111 #[.pointer (some ⟨xk, 0, none⟩), .int .i64 p, .int .i64 i] m (fun r M => ∃ rv', r = .tuple #[.int .i64 (hsum p i ((P.take K.at_).flatten ++ K.mv)), .int .i64 0] ∧ RClerkAt M xk rv' mvv xb { K with seen := (p, i) :: K.seen } ∧ Keep (rkD xk rv mvv) m M ∧ ∀ j, j < m.length → NotOf rv j → NotOf rv' j) := by
  have r4 := fun T => h.rd T (0 + 4) (.bool false) (by rw [hd]; rfl)
  have r2 := fun T => h.rd T (0 + 2) rv rfl
  have hip := fun T b e => in_ok (m := m ++ T) p (b := b) e
  have hii := fun T b e => in_ok (m := m ++ T) i (b := b) e
  have hl := h.lt
  have hin2 := hin
  simp only [inB, decide_eq_true_eq] at hin2
  have hip := fun T => hip T true (decide_eq_true ⟨hin2.1, hin2.2.1⟩)
  have hii := fun T => hii T true (decide_eq_true hin2.2.2)
  refine ACall.start Try.func111 rfl rfl ?_
  (repeat (first | (with_reducible refine AWo.cons ?_) | ((with_reducible refine Step.id ?_); first | ((with_reducible apply Step.gdT); exact rfl; exact rfl; (focus (rfl))) | ((with_reducible apply Step.move); exact rfl; exact rfl) | ((with_reducible apply Step.assign); exact rfl; exact rfl) | ((with_reducible apply Step.load); exact rfl; (focus (decide +kernel)); exact rfl; (focus (first | exact r4 _ | exact r2 _))) | ((with_reducible apply Step.field (k := 2)); exact rfl; (focus (decide +kernel)); exact rfl) | ((with_reducible apply Step.field (k := 4)); exact rfl; (focus (decide +kernel)); exact rfl) | ((with_reducible apply Step.not); exact rfl; exact rfl) | ((with_reducible apply Step.nilp); exact rfl; exact rfl) | ((with_reducible apply Step.pickF); exact rfl; exact rfl; exact rfl; exact rfl; (focus (rfl))) | ((with_reducible apply Step.callR fit); exact rfl; exact Try.func128; exact rfl; exact rfl; exact (hip _)) | ((with_reducible apply Step.callR fit); exact rfl; exact Try.func128; exact rfl; exact rfl; exact (hii _)) | ((with_reducible apply Step.buildS 0); exact rfl; exact rfl; exact (fun _ _ => bs197); exact rfl; (focus (first | (simp only [List.nil_append, List.cons_append, List.set_cons_zero, List.set_cons_succ, iv_set, bv_set, iv_rep, bv_rep]; done) | (simp only [List.nil_append, List.cons_append, List.set_cons_zero, List.set_cons_succ, iv_set, bv_set, iv_rep, bv_rep]; rfl) | rfl))) | ((with_reducible apply Step.build); exact rfl; exact bl145; exact rfl)) | (with_reducible refine AWo.nil ?_) | ((with_reducible apply AW.seq)) | ((with_reducible apply Then.n)) | ((with_reducible apply AW.regL)) | ((with_reducible apply AW.skip)) | ((with_reducible apply AW.condF); exact rfl; (focus (rfl)))))
  ((with_reducible apply Step.appRow2 (n := K.seen.length) (xl := 1) (b0 := 0) (new := [.int .i64 p, .int .i64 i])); exact rfl; exact rfl; exact (h.reads.old _); exact (Sl.mk (Nat.le_refl _)); exact (fun _ => RdL.new rfl rfl); exact el197; exact un197; exact rfl; exact rfl; exact rfl; (focus (omega)); exact rfl; exact (Nat.zero_le _))
  intro u X hr1 hml1 hk1 hk2
  rw [List.length_append] at hml1
  have hXc : X[xk]? = some (some { cells := rkc xb K.at_ rv mvv false }) := by rw [hk1 xk (by rw [List.length_append]; omega) h.ar, List.getElem?_append_left hl, h.cells, hd]
  have hus := hr1.slv.one
  (repeat (first | (with_reducible refine AWo.cons ?_) | ((with_reducible refine Step.id ?_); first | ((with_reducible apply Step.field (k := 2)); exact rfl; (focus (decide +kernel)); exact rfl) | ((with_reducible apply Step.nilp); exact rfl; exact rfl))))
  ((with_reducible apply Step.storeAt); exact rfl; exact rfl; exact hXc; exact szB197; exact rfl; (focus (show 0 + 2 < 5; omega)); exact hus.2; exact hus.1)
  obtain ⟨Y, hY⟩ : ∃ Y : AM, Y = X.set xk (some { cells := (rkc xb K.at_ rv mvv false).set (0 + 2) u }) := ⟨_, rfl⟩
  have hYl : Y.length = X.length := by rw [hY, List.length_set]
  have hnu : NotOf u xk := hk2 xk (by rw [List.length_append]; omega) h.ar
  have hkp : ∀ j, j < m.length → j ≠ xk → NotOf rv j → Y[j]? = m[j]? := fun j hj h1 h2 => by rw [hY, List.getElem?_set_ne (Ne.symm h1), hk1 j (by rw [List.length_append]; omega) h2, List.getElem?_append_left hj]
  have hC : RClerkAt Y xk u mvv xb { K with seen := (p, i) :: K.seen } := by
    refine ⟨by rw [hY, show K.done = false from hd]; exact set_hit hXc, ?_, h.row.keep fun j hj hn => hkp j hj (fun e => hn (e ▸ h.am)) (Classical.byContradiction fun e => hn (h.dis j e)), by have := h.lb; omega, hnu, h.am, fun j hj => ?_⟩
    · show Row Y 0 2 u (kyc ((p, i) :: K.seen).reverse) (K.seen.length + 1)
      rw [List.reverse_cons, kyc_app, hY]
      exact hr1.set hnu
    · refine Classical.byContradiction fun hc => ?_
      obtain ⟨b, hb⟩ := h.row.at_ hc
      have hjl := (List.getElem?_eq_some_iff.1 hb).1
      exact hj (hk2 j (by rw [List.length_append]; omega) (Classical.byContradiction fun e => hc (h.dis j e)))
  have hK : Keep (rkD xk rv mvv) m Y := ⟨by omega, fun j hj hn => hkp j hj (fun e => hn (.inl e)) (Classical.byContradiction fun e => hn (.inr (.inl e)))⟩
  have hB2 : RBook Y b0 xb P pv := hB.msub ⟨by rw [vw_len]; omega, fun j b _ hj => by
    obtain ⟨q1, q2⟩ := vw_some.1 hj
    rw [hK.get j (List.getElem?_eq_some_iff.1 q2).1 (fun e => hS j e q1)]
    exact q2⟩
  have hYm := hC.row
  simp only at hYm
  have hhe := fun T => held_ok (p := p) (i := i) (hB2.old T) ((hYm.trs (by omega)).old T) hYm.slv hat hP hmo (by omega) (by omega)
  have q0 := fun T => hC.rd T 0 _ rfl
  have q1 := fun T => hC.rd T (0 + 1) _ rfl
  have q3 := fun T => hC.rd T (0 + 3) _ rfl
  rw [← hY, ← List.append_nil Y]
  (repeat (first | (with_reducible refine AWo.cons ?_) | ((with_reducible refine Step.id ?_); first | ((with_reducible apply Step.move); exact rfl; exact rfl) | ((with_reducible apply Step.assign); exact rfl; exact rfl) | ((with_reducible apply Step.load); exact rfl; (focus (decide +kernel)); exact rfl; (focus (first | exact q0 _ | exact q1 _ | exact q3 _))) | ((with_reducible apply Step.field0); exact rfl; (focus (decide +kernel)); exact rfl) | ((with_reducible apply Step.field (k := 1)); exact rfl; (focus (decide +kernel)); exact rfl) | ((with_reducible apply Step.field (k := 3)); exact rfl; (focus (decide +kernel)); exact rfl) | ((with_reducible apply Step.nilp); exact rfl; exact rfl) | ((with_reducible apply Step.callR fit); exact rfl; exact Try.func103; exact rfl; exact rfl; exact (hhe _))) | (with_reducible refine AWo.nil ?_) | ((with_reducible apply AW.seq)) | ((with_reducible apply Then.n)) | ((with_reducible apply AW.drawL fit); (focus (decide +kernel)))))
  (refine AW.ret ?_; (repeat (first | refine Then.r ?_ | refine InBlk.r ?_)))
  exact ⟨_, rfl, u, rfl, by rw [List.append_nil]; exact hC, by rw [List.append_nil]; exact hK, fun j hj hn => hk2 j (by rw [List.length_append]; omega) hn⟩
end Go.Proofs.Ytabdnepfcohncaa.Abs
namespace Go.Proofs.Ytabdnepfcohncaa.Abs
set_option linter.unusedSimpArgs false
set_option linter.unusedVariables false
open Go.RowKit
open Go.Proofs.Ytabdnepfcohncaa.Sim
open Go.Proofs
theorem bs197z {m : AM} {k : Nat} : abuildSlice Try.prog m k 197 0 [] = some (.slice (some ⟨k, 0, none⟩) 0 0, m.set k (some { cells := [] })) := by kernel_rfl
theorem bs197b {m : AM} {k : Nat} {a b c d : Int} : abuildSlice Try.prog m k 197 2 [(0, .agg #[.int .i64 a, .int .i64 b]), (1, .agg #[.int .i64 c, .int .i64 d])] = some (.slice (some ⟨k, 0, none⟩) 2 2, m.set k (some { cells := [.int .i64 a, .int .i64 b, .int .i64 c, .int .i64 d] })) := by kernel_rfl
theorem take_snocX {α : Type} [Inhabited α] {l : List α} {j : Nat} (h : j < l.length) : l.take (j + 1) = l.take j ++ [l.getD j default] := by
  rw [List.take_add_one, List.getD_eq_getElem?_getD, List.getElem?_eq_getElem h]
  rfl
theorem kyc_len (l : List (Int × Int)) : (kyc l).length = l.length * 2 := by
  induction l with
  | nil => rfl
  | cons x l ih => show (_ ++ kyc l).length = _; rw [List.length_append, ih, List.length_cons]; simp; omega
set_option maxRecDepth 100000 in
theorem RCommit_no {m : AM} {xk xb : Nat} (h : RDone m xk xb) : ACall Try.prog 113 #[.pointer (some ⟨xk, 0, none⟩)] m (Ret (.tuple #[.int .i64 0, .int .i64 9]) m) := by
  obtain ⟨b, h1, h2, h3, h4, h5⟩ := h
  have r4 := fun T => Rd.old T (show Rd m xk (0 + 4) (.bool true) from ⟨b, h1, h4⟩)
  refine ACall.start Try.func113 rfl rfl ?_
  (repeat (first | (with_reducible refine AWo.cons ?_) | ((with_reducible refine Step.id ?_); first | ((with_reducible apply Step.move); exact rfl; exact rfl) | ((with_reducible apply Step.assign); exact rfl; exact rfl) | ((with_reducible apply Step.load); exact rfl; (focus (decide +kernel)); exact rfl; (focus (exact r4 _))) | ((with_reducible apply Step.field (k := 4)); exact rfl; (focus (decide +kernel)); exact rfl) | ((with_reducible apply Step.nilp); exact rfl; exact rfl)) | (with_reducible refine AWo.nil ?_) | ((with_reducible apply AW.seq)) | ((with_reducible apply Then.n)) | ((with_reducible apply AW.regL)) | ((with_reducible apply AW.condT); exact rfl; (focus (rfl)))))
  (refine AW.retD (l := [(2, _), (3, _)]) (by repeat (first | exact trivial | (refine And.intro ⟨rfl, by (exact .int _ _)⟩ ?_))) ?_; (repeat (first | refine Then.r ?_ | refine InBlk.r ?_)))
  exact ⟨_, rfl, rfl, rfl⟩
theorem ze145 : zeroB Try.prog 145 = some #[.int .i64 0, .int .i64 0] := by kernel_rfl
/-- A count seen or touched has changed since (the reference). -/
def rstale (K : Ck) (P : List (List Tr)) : Bool := (K.seen.reverse ++ kyL K.mv).any fun x => decide ((K.at_ : Int) < (rchgF P x.1 x.2).1)
def rcoF (K : Ck) (P : List (List Tr)) : Int × Int × List (List Tr) := if K.mv.length = 0 then (0, 2, P) else if rstale K P = true then (0, 12, P) else ((rpostF P K.mv).2.1, (rpostF P K.mv).2.2, (rpostF P K.mv).1)
set_option maxHeartbeats 8000000 in
set_option maxRecDepth 100000 in
theorem RCommit_ok {m : AM} {S : Nat → Prop} {b0 xk xb : Nat} {rv mvv pv : Value} {K : Ck} {P : List (List Tr)} (h : RClerkAt m xk rv mvv xb K) (hd : K.done = false) (hB : RBook (vw S m) b0 xb P pv) (hS : ∀ j, rkD xk rv mvv j → ¬ S j) (hsl : K.seen.length ≤ 1000000) (hmv : K.mv.length ≤ 16) (hP : smallT P.flatten) (hlen : P.flatten.length ≤ 100000000) (hpl : P.length ≤ 1000000) :
    ACall Try.prog 113 #[.pointer (some ⟨xk, 0, none⟩)] m (fun r M => ∃ u, r = .tuple #[.int .i64 (rcoF K P).1, .int .i64 (rcoF K P).2.1] ∧ RBook M b0 xb (rcoF K P).2.2 u ∧ RDone M xk xb ∧ Keep (fun j => j = xk ∨ j = xb ∨ ¬ NotOf pv j) m M) := by
  have r4 := fun T => h.rd T (0 + 4) (.bool false) (by rw [hd]; rfl)
  have hl := h.lt
  have hxb := hB.lt
  rw [vw_len] at hxb
  have hneb : xb ≠ xk := fun e => hS xk (.inl rfl) (by rw [← e]; exact (vw_some.1 hB.cells).1)
  refine ACall.start Try.func113 rfl rfl ?_
  have hcl := h.cells
  rw [hd] at hcl
  (repeat (first | (with_reducible refine AWo.cons ?_) | ((with_reducible refine Step.id ?_); first | ((with_reducible apply Step.move); exact rfl; exact rfl) | ((with_reducible apply Step.assign); exact rfl; exact rfl) | ((with_reducible apply Step.load); exact rfl; (focus (decide +kernel)); exact rfl; (focus (exact r4 _))) | ((with_reducible apply Step.field (k := 4)); exact rfl; (focus (decide +kernel)); exact rfl) | ((with_reducible apply Step.nilp); exact rfl; exact rfl)) | (with_reducible refine AWo.nil ?_) | ((with_reducible apply AW.seq)) | ((with_reducible apply Then.n)) | ((with_reducible apply AW.regL)) | ((with_reducible apply AW.skip)) | ((with_reducible apply AW.condF); exact rfl; (focus (rfl)))))
  ((with_reducible apply Step.storeAt); exact rfl; exact rfl; exact (get_old _ hcl); exact szB4; exact rfl; (focus (show 0 + 4 < 5; omega)); exact rfl; exact rfl)
  obtain ⟨Y, hY⟩ : ∃ Y : AM, Y = m.set xk (some { cells := rkc xb K.at_ rv mvv true }) := ⟨_, rfl⟩
  have hYl : Y.length = m.length := by rw [hY, List.length_set]
  have hkp : ∀ j, j ≠ xk → Y[j]? = m[j]? := fun j h1 => by rw [hY, List.getElem?_set_ne (Ne.symm h1)]
  have hYx : Y[xk]? = some (some { cells := rkc xb K.at_ rv mvv true }) := by rw [hY]; exact set_hit h.cells
  have hB2 : RBook Y b0 xb P pv := hB.msub ⟨by rw [vw_len]; omega, fun j b _ hj => by
    obtain ⟨q1, q2⟩ := vw_some.1 hj
    rw [hkp j (fun e => hS j (.inl e) q1)]
    exact q2⟩
  have rdY : ∀ (T : AM) (j : Nat) (v : Value), (rkc xb K.at_ rv mvv true)[j]? = some v → Rd (Y ++ T) xk j v := fun T j v hv => Rd.old T ⟨_, hYx, hv⟩
  have hrr : Row Y 0 2 rv (kyc K.seen.reverse) K.seen.length := h.reads.keep fun j _ hn => hkp j (fun e => hn (e ▸ h.ar))
  have hrm : Row Y 0 4 mvv (tcs K.mv) K.mv.length := h.row.keep fun j _ hn => hkp j (fun e => hn (e ▸ h.am))
  obtain ⟨am, hsm, ham, hrdm⟩ := hrm.sl (by omega)
  obtain ⟨ar, hsr, har, hrdr⟩ := hrr.sl (by omega)
  have r2 := fun T => rdY T (0 + 2) rv rfl
  have r3 := fun T => rdY T (0 + 3) mvv rfl
  have hdone : ∀ M, Y.length ≤ M.length → M[xk]? = Y[xk]? → RDone M xk xb := fun M h1 h2 => ⟨_, by rw [h2]; exact hYx, rfl, rfl, rfl, by omega⟩
  rw [List.set_append_left _ _ hl]
  rw [show m.set xk (some { cells := (rkc xb K.at_ rv mvv false).set (0 + 4) (.bool true) }) = Y from hY.symm]
  unfold rcoF
  by_cases c0 : K.mv.length = 0
  · rw [if_pos c0]
    (repeat (first | (with_reducible refine AWo.cons ?_) | ((with_reducible refine Step.id ?_); first | ((with_reducible apply Step.move); exact rfl; exact rfl) | ((with_reducible apply Step.assign); exact rfl; exact rfl) | ((with_reducible apply Step.load); exact rfl; (focus (decide +kernel)); exact rfl; (focus (exact r3 _))) | ((with_reducible apply Step.field (k := 3)); exact rfl; (focus (decide +kernel)); exact rfl) | ((with_reducible apply Step.eql); exact rfl; exact rfl; exact rfl) | ((with_reducible apply Step.len); exact rfl; (focus (assumption)); (focus (decide +kernel)); exact rfl) | ((with_reducible apply Step.nilp); exact rfl; exact rfl)) | (with_reducible refine AWo.nil ?_) | ((with_reducible apply AW.seq)) | ((with_reducible apply Then.n)) | ((with_reducible apply AW.regL)) | ((with_reducible apply AW.condT); exact rfl; (focus ((simp only [decide_eq_true_eq, decide_eq_false_iff_not, Bool.not_eq_true', Bool.not_eq_false', Bool.not_true, Bool.not_false]; first | assumption | omega))))))
    (refine AW.ret ?_; (repeat (first | refine Then.r ?_ | refine InBlk.r ?_)))
    exact ⟨_, rfl, pv, rfl, hB2.old _, hdone _ (by rw [List.length_append]; omega) (List.getElem?_append_left (by omega)), by rw [List.length_append]; omega, fun j hj hn => by rw [List.getElem?_append_left (by omega), hkp j (fun e => hn (.inl e))]⟩
  · rw [if_neg c0]
    have hon : (kyc K.seen.reverse).all (·.oneCell') = true := by
      rw [List.all_eq_true]
      intro v hv
      simp only [kyc, List.mem_flatMap, List.mem_cons, List.not_mem_nil, or_false] at hv
      obtain ⟨x, _, rfl | rfl⟩ := hv <;> rfl
    (repeat (first | (with_reducible refine AWo.cons ?_) | ((with_reducible refine Step.id ?_); first | ((with_reducible apply Step.move); exact rfl; exact rfl) | ((with_reducible apply Step.load); exact rfl; (focus (decide +kernel)); exact rfl; (focus (first | exact r3 _ | exact r2 _))) | ((with_reducible apply Step.field (k := 2)); exact rfl; (focus (decide +kernel)); exact rfl) | ((with_reducible apply Step.field (k := 3)); exact rfl; (focus (decide +kernel)); exact rfl) | ((with_reducible apply Step.eql); exact rfl; exact rfl; exact rfl) | ((with_reducible apply Step.len); exact rfl; (focus (assumption)); (focus (decide +kernel)); exact rfl) | ((with_reducible apply Step.nilp); exact rfl; exact rfl) | ((with_reducible apply Step.buildS 0); exact rfl; exact rfl; exact (fun _ _ => bs197z); exact rfl; (focus (first | (simp only [List.nil_append, List.cons_append, List.set_cons_zero, List.set_cons_succ, iv_set, bv_set, iv_rep, bv_rep]; done) | (simp only [List.nil_append, List.cons_append, List.set_cons_zero, List.set_cons_succ, iv_set, bv_set, iv_rep, bv_rep]; rfl) | rfl)))) | (with_reducible refine AWo.nil ?_) | ((with_reducible apply AW.seq)) | ((with_reducible apply Then.n)) | ((with_reducible apply AW.regL)) | ((with_reducible apply AW.skip)) | ((with_reducible apply AW.condF); exact rfl; (focus ((simp only [decide_eq_true_eq, decide_eq_false_iff_not, Bool.not_eq_true', Bool.not_eq_false', Bool.not_true, Bool.not_false]; first | assumption | omega))))))
    ((with_reducible apply Step.appRow2 (s := 2) (n := 0) (xl := K.seen.length) (b0 := m.length) (c := []) (new := kyc K.seen.reverse)); exact rfl; exact rfl; exact (.inr ⟨Y.length + 0, _, _, by omega, rfl, by rw [get_app]; rfl, rfl, .inl rfl⟩); exact hsr; exact (fun h0 => (hrdr h0).old _); exact el197; exact un197; (focus (rw [kyc_len, List.length_reverse])); exact hon; exact rfl; (focus (omega)); exact rfl; (focus (rw [List.length_append]; omega)))
    intro u X hr1 hml1 hk1 hk2
    rw [List.length_append] at hml1
    have hXk : ∀ j, j < Y.length → X[j]? = Y[j]? := fun j hj => by rw [hk1 j (by rw [List.length_append]; omega) (NotOf.new (by omega)), List.getElem?_append_left hj]
    rw [List.nil_append, Nat.zero_add] at hr1
    clear hk1 hk2
    have hml1 : Y.length ≤ X.length := by omega
    rw [← List.append_nil X]
    have rdX : ∀ (M : AM), Y.length ≤ M.length → (∀ j, j < Y.length → M[j]? = Y[j]?) → ∀ (T : AM) (j : Nat) (v : Value), (rkc xb K.at_ rv mvv true)[j]? = some v → Rd (M ++ T) xk j v := fun M h1 h2 T j v hv => Rd.old T ⟨_, by rw [h2 xk (by omega)]; exact hYx, hv⟩
    have rX3 := fun T => rdX X hml1 hXk T (0 + 3) mvv rfl
    (repeat (first | (with_reducible refine AWo.cons ?_) | ((with_reducible refine Step.id ?_); first | ((with_reducible apply Step.move); exact rfl; exact rfl) | ((with_reducible apply Step.assign); exact rfl; exact rfl) | ((with_reducible apply Step.load); exact rfl; (focus (decide +kernel)); exact rfl; (focus (exact rX3 _))) | ((with_reducible apply Step.field (k := 3)); exact rfl; (focus (decide +kernel)); exact rfl) | ((with_reducible apply Step.len); exact rfl; (focus (assumption)); (focus (decide +kernel)); exact rfl) | ((with_reducible apply Step.nilp); exact rfl; exact rfl)) | (with_reducible refine AWo.nil ?_) | ((with_reducible apply AW.seq)) | ((with_reducible apply Then.n)) | ((with_reducible apply AW.regL)) | ((with_reducible apply AW.block))))
    refine AW.midX 0 (fun t' M => ∃ u, Row M m.length 2 u (kyc (K.seen.reverse ++ kyL K.mv)) (K.seen.length + 2 * K.mv.length) ∧ Y.length ≤ M.length ∧ (∀ j, j < Y.length → M[j]? = Y[j]?) ∧ All (fun i v => t' i = some v) [(0, .pointer (some ⟨xk, 0, none⟩)), (4, u)]) ?_ ?_
    · refine AW.loopW (fun q t M => ∃ (k : Nat) (u : Value), q = K.mv.length - k ∧ k ≤ K.mv.length ∧ Row M m.length 2 u (kyc (K.seen.reverse ++ kyL (K.mv.take k))) (K.seen.length + 2 * k) ∧ Y.length ≤ M.length ∧ (∀ j, j < Y.length → M[j]? = Y[j]?) ∧
        t = fr [(0, .pointer (some ⟨xk, 0, none⟩)), (4, u), (33, mvv), (34, .int .i64 (K.mv.length : Nat)), (35, .int .i64 (k : Nat))])
        ⟨_, _, (by repeat (first | exact trivial | (refine And.intro rfl ?_))), 0, u, rfl, Nat.zero_le _, by rw [List.append_nil]; simpa [kyL] using hr1, by rw [List.append_nil]; exact hml1, by rw [List.append_nil]; exact hXk, rfl⟩ ?_
      clear hr1 hXk hml1 rX3
      rintro q t M ⟨k, u, rfl, hk, hr, hMl, hMk, rfl⟩
      rcases Nat.lt_or_ge k K.mv.length with hlt | hge
      · have rm : ∀ T, RdL (M ++ T) am (k * 4) (K.mv.getD k default).c := fun T => RdL.old T (by
          obtain ⟨b, w1, w2⟩ := hrdm (by omega)
          refine ⟨b, by rw [hMk am ham]; exact w1, fun p v hv => ?_⟩
          have := w2 (k * 4 + p) v (tcs_get K.mv k hlt p v hv)
          rwa [Nat.zero_add] at this)
        have hkl : kyL (K.mv.take (k + 1)) = kyL (K.mv.take k) ++ [((K.mv.getD k default).f, (K.mv.getD k default).i), ((K.mv.getD k default).t, (K.mv.getD k default).i)] := by rw [take_snocX hlt, kyL_snoc]
        generalize K.mv.getD k default = y at *
        obtain ⟨yi, yf, yt, yn⟩ := y
        simp only [Tr.c] at rm
        refine AW.rebase ?_
        (repeat (first | (with_reducible refine AWo.cons ?_) | ((with_reducible refine Step.id ?_); first | ((with_reducible apply Step.move); exact rfl; exact rfl) | ((with_reducible apply Step.load); exact rfl; (focus (decide +kernel)); exact rfl; (focus (exact Rd.new rfl rfl))) | ((with_reducible apply Step.loadL (n := 4)); exact rfl; (focus (decide +kernel)); (focus (decide +kernel)); exact rfl; (focus (exact rm _)); exact rfl; exact rfl) | ((with_reducible apply Step.ixz (s := 4)); exact rfl; (focus (assumption)); exact rfl; (focus (decide +kernel)); exact rfl; (focus (omega))) | ((with_reducible apply Step.field0); exact rfl; (focus (decide +kernel)); exact rfl) | ((with_reducible apply Step.field (k := 1)); exact rfl; (focus (decide +kernel)); exact rfl) | ((with_reducible apply Step.field (k := 2)); exact rfl; (focus (decide +kernel)); exact rfl) | ((with_reducible apply Step.lss); exact rfl; exact rfl; exact rfl) | ((with_reducible apply Step.alloc 0); exact rfl; exact ze61; exact rfl; (focus (first | (simp only [List.nil_append, List.cons_append, List.set_cons_zero, List.set_cons_succ, iv_set, bv_set, iv_rep, bv_rep]; done) | (simp only [List.nil_append, List.cons_append, List.set_cons_zero, List.set_cons_succ, iv_set, bv_set, iv_rep, bv_rep]; rfl) | rfl))) | ((with_reducible apply Step.storeA (k := 0) (n := 4)); exact rfl; exact rfl; exact rfl; exact rfl; (focus (decide +kernel)); exact rfl; (focus (kernel_rfl)); exact rfl; (focus (first | (simp only [List.nil_append, List.cons_append, List.set_cons_zero, List.set_cons_succ, iv_set, bv_set, iv_rep, bv_rep]; done) | (simp only [List.nil_append, List.cons_append, List.set_cons_zero, List.set_cons_succ, iv_set, bv_set, iv_rep, bv_rep]; rfl) | rfl))) | ((with_reducible apply Step.buildS 1); exact rfl; exact rfl; exact (fun _ _ => bs197b); exact rfl; (focus (first | (simp only [List.nil_append, List.cons_append, List.set_cons_zero, List.set_cons_succ, iv_set, bv_set, iv_rep, bv_rep]; done) | (simp only [List.nil_append, List.cons_append, List.set_cons_zero, List.set_cons_succ, iv_set, bv_set, iv_rep, bv_rep]; rfl) | rfl))) | ((with_reducible apply Step.build); exact rfl; exact bl145; exact rfl)) | (with_reducible refine AWo.nil ?_) | ((with_reducible apply AW.seq)) | ((with_reducible apply Then.n)) | ((with_reducible apply AW.regL)) | ((with_reducible apply AW.block)) | ((with_reducible apply AW.skip)) | ((with_reducible apply AW.condT); exact rfl; (focus ((simp only [decide_eq_true_eq, decide_eq_false_iff_not, Bool.not_eq_true', Bool.not_eq_false', Bool.not_true, Bool.not_false]; first | assumption | omega))))))
        ((with_reducible apply Step.appRow2 (s := 2) (n := K.seen.length + 2 * k) (xl := 2) (b0 := m.length) (new := [.int .i64 yf, .int .i64 yi, .int .i64 yt, .int .i64 yi])); exact rfl; exact rfl; exact (hr.old _); exact (Sl.mk (Nat.le_refl _)); exact (fun _ => RdL.new rfl rfl); exact el197; exact un197; exact rfl; exact rfl; exact rfl; (focus (omega)); exact rfl; (focus (rw [List.length_append]; omega)))
        intro u2 M3 hr3 hml3 hk3 hk4
        rw [List.length_append] at hml3
        have hMk3 : ∀ j, j < Y.length → M3[j]? = Y[j]? := fun j hj => by rw [hk3 j (by rw [List.length_append]; omega) (NotOf.row hr (by omega)), List.getElem?_append_left (by omega)]; exact hMk j hj
        (repeat (first | (with_reducible refine AWo.cons ?_) | ((with_reducible refine Step.id ?_); first | ((with_reducible apply Step.move); exact rfl; exact rfl) | ((with_reducible apply Step.assign); exact rfl; exact rfl) | ((with_reducible apply Step.add); exact rfl; exact rfl; (focus (omega)); exact rfl)) | (with_reducible refine AWo.nil ?_) | ((with_reducible apply Then.n)) | ((with_reducible apply AW.regL)) | ((with_reducible apply InBlk.n))))
        exact ⟨_, [(0, .pointer (some ⟨xk, 0, none⟩)), (4, u2), (33, mvv), (34, .int .i64 (K.mv.length : Nat)), (35, .int .i64 (k + 1 : Nat))], by omega, (by repeat (first | exact trivial | (refine And.intro rfl ?_))), k + 1, u2, rfl, by omega, by rw [hkl, ← List.append_assoc, kyc_app]; exact hr3, by omega, hMk3, rfl⟩
      · obtain rfl : k = K.mv.length := by omega
        rw [List.take_of_length_le (Nat.le_refl _)] at hr
        (repeat (first | (with_reducible refine AWo.cons ?_) | ((with_reducible refine Step.id ?_); ((with_reducible apply Step.lss); exact rfl; exact rfl; exact rfl)) | (with_reducible refine AWo.nil ?_) | ((with_reducible apply AW.seq)) | ((with_reducible apply Then.n)) | ((with_reducible apply AW.regL)) | ((with_reducible apply AW.exit)) | ((with_reducible apply Then.e)) | ((with_reducible apply AW.condF); exact rfl; (focus ((simp only [decide_eq_true_eq, decide_eq_false_iff_not, Bool.not_eq_true', Bool.not_eq_false', Bool.not_true, Bool.not_false]; first | assumption | omega))))))
        exact ⟨rfl, u, hr, hMl, hMk, (by repeat (first | exact trivial | (refine And.intro rfl ?_)))⟩
    · rintro t' M ⟨u, hr, hMl, hMk, hsl⟩
      refine InBlk.hit ?_
      refine Then.n ?_
      refine AW.weak (fr_all hsl) ?_
      clear hsl
      refine AW.rebase ?_
      have hL : (K.seen.reverse ++ kyL K.mv).length = K.seen.length + 2 * K.mv.length := by
        have : ∀ l : List Tr, (kyL l).length = 2 * l.length := fun l => by
          induction l with
          | nil => rfl
          | cons x l ih => show (_ ++ kyL l).length = _; rw [List.length_append, ih, List.length_cons]; simp; omega
        rw [List.length_append, List.length_reverse, this]
      obtain ⟨au, hsu, hau, hru⟩ := hr.sl (by omega)
      have hB3 : RBook M b0 xb P pv := hB2.msub ⟨hMl, fun j b _ hj => by rw [hMk j (List.getElem?_eq_some_iff.1 hj).1]; exact hj⟩
      have hrst : rstale K P = (K.seen.reverse ++ kyL K.mv).any fun x => decide ((K.at_ : Int) < (rchgF P x.1 x.2).1) := rfl
      rw [← hL] at hsu hru
      generalize K.seen.reverse ++ kyL K.mv = L at *
      have rdM := rdX M hMl hMk
      have hch := fun T p i => RChanged_ok (m := M ++ T) p i (hB3.old T) hlen hpl
      by_cases hst : rstale K P = true
      · rw [if_pos hst]
        rw [hrst] at hst
        (repeat (first | (with_reducible refine AWo.cons ?_) | ((with_reducible refine Step.id ?_); first | ((with_reducible apply Step.move); exact rfl; exact rfl) | ((with_reducible apply Step.len); exact rfl; (focus (assumption)); (focus (decide +kernel)); exact rfl)) | (with_reducible refine AWo.nil ?_) | ((with_reducible apply AW.seq)) | ((with_reducible apply Then.n)) | ((with_reducible apply AW.regL)) | ((with_reducible apply AW.block))))
        refine AW.loopW (fun q t M2 => ∃ (k : Nat) (N : AM), q = L.length - k ∧ k ≤ L.length ∧ M2 = M ++ N ∧ ((L.take k).any fun x => decide ((K.at_ : Int) < (rchgF P x.1 x.2).1)) = false ∧
          t = fr [(0, .pointer (some ⟨xk, 0, none⟩)), (53, u), (54, .int .i64 (L.length : Nat)), (55, .int .i64 (k : Nat))])
          ⟨_, _, (by repeat (first | exact trivial | (refine And.intro rfl ?_))), 0, [], rfl, Nat.zero_le _, rfl, rfl, rfl⟩ ?_
        rintro q t M2 ⟨k, N, rfl, hk, rfl, hany, rfl⟩
        rcases Nat.lt_or_ge k L.length with hlt | hge
        · have rx : ∀ T, RdL (M ++ N ++ T) au (k * 2) [.int .i64 (L.getD k default).1, .int .i64 (L.getD k default).2] := fun T => RdL.old T (RdL.old N (by
            obtain ⟨b, w1, w2⟩ := hru (by omega)
            refine ⟨b, w1, fun p v hv => ?_⟩
            have := w2 (k * 2 + p) v (flatS_get (fun x : Int × Int => [Value.int .i64 x.1, .int .i64 x.2]) 2 (fun _ => rfl) L k hlt p v hv)
            rwa [Nat.zero_add] at this))
          have htk := take_snocX hlt
          generalize L.getD k default = y at *
          obtain ⟨p, i⟩ := y
          have rd0 : ∀ T, Rd (M ++ N ++ T) xk 0 (.pointer (some ⟨xb, 0, none⟩)) := fun T => by rw [List.append_assoc]; exact rdM _ 0 _ rfl
          have rd1 : ∀ T, Rd (M ++ N ++ T) xk (0 + 1) (.int .i64 (K.at_ : Nat)) := fun T => by rw [List.append_assoc]; exact rdM _ 1 _ rfl
          have hch : ∀ T, ACall Try.prog 99 #[.pointer (some ⟨xb, 0, none⟩), .int .i64 p, .int .i64 i] (M ++ N ++ T) (Ret _ (M ++ N ++ T)) := fun T => by rw [List.append_assoc]; exact hch (N ++ T) p i
          refine AW.rebase ?_
          by_cases hc : (K.at_ : Int) < (rchgF P p i).1
          · (repeat (first | (with_reducible refine AWo.cons ?_) | ((with_reducible refine Step.id ?_); first | ((with_reducible apply Step.move); exact rfl; exact rfl) | ((with_reducible apply Step.assign); exact rfl; exact rfl) | ((with_reducible apply Step.load); exact rfl; (focus (decide +kernel)); exact rfl; (focus (first | exact rd0 _ | exact rd1 _ | exact Rd.new rfl rfl))) | ((with_reducible apply Step.loadL (n := 2)); exact rfl; (focus (decide +kernel)); (focus (decide +kernel)); exact rfl; (focus (exact rx _)); exact rfl; exact rfl) | ((with_reducible apply Step.ixz (s := 2)); exact rfl; (focus (assumption)); exact rfl; (focus (decide +kernel)); exact rfl; (focus (omega))) | ((with_reducible apply Step.field0); exact rfl; (focus (decide +kernel)); exact rfl) | ((with_reducible apply Step.field (k := 1)); exact rfl; (focus (decide +kernel)); exact rfl) | ((with_reducible apply Step.ixA (s := 1) (n := 2) (k := 0)); exact rfl; exact rfl; (focus (kernel_rfl)); exact rfl; (focus (omega))) | ((with_reducible apply Step.ixA (s := 1) (n := 2) (k := 1)); exact rfl; exact rfl; (focus (kernel_rfl)); exact rfl; (focus (omega))) | ((with_reducible apply Step.lss); exact rfl; exact rfl; exact rfl) | ((with_reducible apply Step.gtr); exact rfl; exact rfl; exact rfl) | ((with_reducible apply Step.nilp); exact rfl; exact rfl) | ((with_reducible apply Step.extract); exact rfl; exact rfl; exact rfl) | ((with_reducible apply Step.callR fit); exact rfl; exact Try.func99; exact rfl; exact rfl; exact (hch _)) | ((with_reducible apply Step.alloc 0); exact rfl; exact ze145; exact rfl; (focus (first | (simp only [List.nil_append, List.cons_append, List.set_cons_zero, List.set_cons_succ, iv_set, bv_set, iv_rep, bv_rep]; done) | (simp only [List.nil_append, List.cons_append, List.set_cons_zero, List.set_cons_succ, iv_set, bv_set, iv_rep, bv_rep]; rfl) | rfl))) | ((with_reducible apply Step.storeA (k := 0) (n := 2)); exact rfl; exact rfl; exact rfl; exact rfl; (focus (decide +kernel)); exact rfl; (focus (kernel_rfl)); exact rfl; (focus (first | (simp only [List.nil_append, List.cons_append, List.set_cons_zero, List.set_cons_succ, iv_set, bv_set, iv_rep, bv_rep]; done) | (simp only [List.nil_append, List.cons_append, List.set_cons_zero, List.set_cons_succ, iv_set, bv_set, iv_rep, bv_rep]; rfl) | rfl)))) | (with_reducible refine AWo.nil ?_) | ((with_reducible apply AW.seq)) | ((with_reducible apply Then.n)) | ((with_reducible apply AW.regL)) | ((with_reducible apply AW.block)) | ((with_reducible apply AW.drawL fit); (focus (decide +kernel))) | ((with_reducible apply AW.skip)) | ((with_reducible apply AW.condT); exact rfl; (focus ((simp only [decide_eq_true_eq, decide_eq_false_iff_not, Bool.not_eq_true', Bool.not_eq_false', Bool.not_true, Bool.not_false]; first | assumption | omega))))))
            (refine AW.ret ?_; (repeat (first | refine Then.r ?_ | refine InBlk.r ?_)))
            exact ⟨_, rfl, pv, rfl, (hB3.old N).old _, hdone _ (by simp only [List.length_append]; omega) (by rw [List.append_assoc, List.getElem?_append_left (by omega)]; exact hMk _ (by omega)), by simp only [List.length_append]; omega, fun j hj hn => by rw [List.append_assoc, List.getElem?_append_left (by omega), hMk j (by omega), hkp j (fun e => hn (.inl e))]⟩
          · (repeat (first | (with_reducible refine AWo.cons ?_) | ((with_reducible refine Step.id ?_); first | ((with_reducible apply Step.move); exact rfl; exact rfl) | ((with_reducible apply Step.assign); exact rfl; exact rfl) | ((with_reducible apply Step.load); exact rfl; (focus (decide +kernel)); exact rfl; (focus (first | exact rd0 _ | exact rd1 _ | exact Rd.new rfl rfl))) | ((with_reducible apply Step.loadL (n := 2)); exact rfl; (focus (decide +kernel)); (focus (decide +kernel)); exact rfl; (focus (exact rx _)); exact rfl; exact rfl) | ((with_reducible apply Step.ixz (s := 2)); exact rfl; (focus (assumption)); exact rfl; (focus (decide +kernel)); exact rfl; (focus (omega))) | ((with_reducible apply Step.field0); exact rfl; (focus (decide +kernel)); exact rfl) | ((with_reducible apply Step.field (k := 1)); exact rfl; (focus (decide +kernel)); exact rfl) | ((with_reducible apply Step.ixA (s := 1) (n := 2) (k := 0)); exact rfl; exact rfl; (focus (kernel_rfl)); exact rfl; (focus (omega))) | ((with_reducible apply Step.ixA (s := 1) (n := 2) (k := 1)); exact rfl; exact rfl; (focus (kernel_rfl)); exact rfl; (focus (omega))) | ((with_reducible apply Step.add); exact rfl; exact rfl; (focus (omega)); exact rfl) | ((with_reducible apply Step.lss); exact rfl; exact rfl; exact rfl) | ((with_reducible apply Step.gtr); exact rfl; exact rfl; exact rfl) | ((with_reducible apply Step.nilp); exact rfl; exact rfl) | ((with_reducible apply Step.extract); exact rfl; exact rfl; exact rfl) | ((with_reducible apply Step.callR fit); exact rfl; exact Try.func99; exact rfl; exact rfl; exact (hch _)) | ((with_reducible apply Step.alloc 0); exact rfl; exact ze145; exact rfl; (focus (first | (simp only [List.nil_append, List.cons_append, List.set_cons_zero, List.set_cons_succ, iv_set, bv_set, iv_rep, bv_rep]; done) | (simp only [List.nil_append, List.cons_append, List.set_cons_zero, List.set_cons_succ, iv_set, bv_set, iv_rep, bv_rep]; rfl) | rfl))) | ((with_reducible apply Step.storeA (k := 0) (n := 2)); exact rfl; exact rfl; exact rfl; exact rfl; (focus (decide +kernel)); exact rfl; (focus (kernel_rfl)); exact rfl; (focus (first | (simp only [List.nil_append, List.cons_append, List.set_cons_zero, List.set_cons_succ, iv_set, bv_set, iv_rep, bv_rep]; done) | (simp only [List.nil_append, List.cons_append, List.set_cons_zero, List.set_cons_succ, iv_set, bv_set, iv_rep, bv_rep]; rfl) | rfl)))) | (with_reducible refine AWo.nil ?_) | ((with_reducible apply AW.seq)) | ((with_reducible apply Then.n)) | ((with_reducible apply AW.regL)) | ((with_reducible apply AW.block)) | ((with_reducible apply AW.drawL fit); (focus (decide +kernel))) | ((with_reducible apply InBlk.n)) | ((with_reducible apply AW.skip)) | ((with_reducible apply AW.condT); exact rfl; (focus ((simp only [decide_eq_true_eq, decide_eq_false_iff_not, Bool.not_eq_true', Bool.not_eq_false', Bool.not_true, Bool.not_false]; first | assumption | omega)))) | ((with_reducible apply AW.condF); exact rfl; (focus ((simp only [decide_eq_true_eq, decide_eq_false_iff_not, Bool.not_eq_true', Bool.not_eq_false', Bool.not_true, Bool.not_false]; first | assumption | omega))))))
            exact ⟨_, [(0, .pointer (some ⟨xk, 0, none⟩)), (53, u), (54, .int .i64 (L.length : Nat)), (55, .int .i64 (k + 1 : Nat))], by omega, (by repeat (first | exact trivial | (refine And.intro rfl ?_))), k + 1, _, rfl, by omega, List.append_assoc _ _ _, by rw [htk, List.any_append, hany]; simp [hc], rfl⟩
        · rw [List.take_of_length_le hge, hst] at hany
          cases hany
      · rw [if_neg hst]
        rw [hrst] at hst
        (repeat (first | (with_reducible refine AWo.cons ?_) | ((with_reducible refine Step.id ?_); first | ((with_reducible apply Step.move); exact rfl; exact rfl) | ((with_reducible apply Step.len); exact rfl; (focus (assumption)); (focus (decide +kernel)); exact rfl)) | (with_reducible refine AWo.nil ?_) | ((with_reducible apply AW.seq)) | ((with_reducible apply Then.n)) | ((with_reducible apply AW.regL)) | ((with_reducible apply AW.block))))
        refine AW.midX 2 (fun t' M2 => (∃ N, M2 = M ++ N) ∧ All (fun i v => t' i = some v) [(0, .pointer (some ⟨xk, 0, none⟩))]) ?_ ?_
        · refine AW.loopW (fun q t M2 => ∃ (k : Nat) (N : AM), q = L.length - k ∧ k ≤ L.length ∧ M2 = M ++ N ∧
            t = fr [(0, .pointer (some ⟨xk, 0, none⟩)), (53, u), (54, .int .i64 (L.length : Nat)), (55, .int .i64 (k : Nat))])
            ⟨_, _, (by repeat (first | exact trivial | (refine And.intro rfl ?_))), 0, [], rfl, Nat.zero_le _, rfl, rfl⟩ ?_
          rintro q t M2 ⟨k, N, rfl, hk, rfl, rfl⟩
          rcases Nat.lt_or_ge k L.length with hlt | hge
          · have rx : ∀ T, RdL (M ++ N ++ T) au (k * 2) [.int .i64 (L.getD k default).1, .int .i64 (L.getD k default).2] := fun T => RdL.old T (RdL.old N (by
              obtain ⟨b, w1, w2⟩ := hru (by omega)
              refine ⟨b, w1, fun p v hv => ?_⟩
              have := w2 (k * 2 + p) v (flatS_get (fun x : Int × Int => [Value.int .i64 x.1, .int .i64 x.2]) 2 (fun _ => rfl) L k hlt p v hv)
              rwa [Nat.zero_add] at this))
            have hym : L.getD k default ∈ L := by rw [List.getD_eq_getElem?_getD, List.getElem?_eq_getElem hlt]; exact List.getElem_mem hlt
            have hc : ¬ (K.at_ : Int) < (rchgF P (L.getD k default).1 (L.getD k default).2).1 := fun e => hst (List.any_eq_true.2 ⟨_, hym, decide_eq_true e⟩)
            generalize L.getD k default = y at *
            obtain ⟨p, i⟩ := y
            have rd0 : ∀ T, Rd (M ++ N ++ T) xk 0 (.pointer (some ⟨xb, 0, none⟩)) := fun T => by rw [List.append_assoc]; exact rdM _ 0 _ rfl
            have rd1 : ∀ T, Rd (M ++ N ++ T) xk (0 + 1) (.int .i64 (K.at_ : Nat)) := fun T => by rw [List.append_assoc]; exact rdM _ 1 _ rfl
            have hch : ∀ T, ACall Try.prog 99 #[.pointer (some ⟨xb, 0, none⟩), .int .i64 p, .int .i64 i] (M ++ N ++ T) (Ret _ (M ++ N ++ T)) := fun T => by rw [List.append_assoc]; exact hch (N ++ T) p i
            refine AW.rebase ?_
            (repeat (first | (with_reducible refine AWo.cons ?_) | ((with_reducible refine Step.id ?_); first | ((with_reducible apply Step.move); exact rfl; exact rfl) | ((with_reducible apply Step.assign); exact rfl; exact rfl) | ((with_reducible apply Step.load); exact rfl; (focus (decide +kernel)); exact rfl; (focus (first | exact rd0 _ | exact rd1 _ | exact Rd.new rfl rfl))) | ((with_reducible apply Step.loadL (n := 2)); exact rfl; (focus (decide +kernel)); (focus (decide +kernel)); exact rfl; (focus (exact rx _)); exact rfl; exact rfl) | ((with_reducible apply Step.ixz (s := 2)); exact rfl; (focus (assumption)); exact rfl; (focus (decide +kernel)); exact rfl; (focus (omega))) | ((with_reducible apply Step.field0); exact rfl; (focus (decide +kernel)); exact rfl) | ((with_reducible apply Step.field (k := 1)); exact rfl; (focus (decide +kernel)); exact rfl) | ((with_reducible apply Step.ixA (s := 1) (n := 2) (k := 0)); exact rfl; exact rfl; (focus (kernel_rfl)); exact rfl; (focus (omega))) | ((with_reducible apply Step.ixA (s := 1) (n := 2) (k := 1)); exact rfl; exact rfl; (focus (kernel_rfl)); exact rfl; (focus (omega))) | ((with_reducible apply Step.add); exact rfl; exact rfl; (focus (omega)); exact rfl) | ((with_reducible apply Step.lss); exact rfl; exact rfl; exact rfl) | ((with_reducible apply Step.gtr); exact rfl; exact rfl; exact rfl) | ((with_reducible apply Step.nilp); exact rfl; exact rfl) | ((with_reducible apply Step.extract); exact rfl; exact rfl; exact rfl) | ((with_reducible apply Step.callR fit); exact rfl; exact Try.func99; exact rfl; exact rfl; exact (hch _)) | ((with_reducible apply Step.alloc 0); exact rfl; exact ze145; exact rfl; (focus (first | (simp only [List.nil_append, List.cons_append, List.set_cons_zero, List.set_cons_succ, iv_set, bv_set, iv_rep, bv_rep]; done) | (simp only [List.nil_append, List.cons_append, List.set_cons_zero, List.set_cons_succ, iv_set, bv_set, iv_rep, bv_rep]; rfl) | rfl))) | ((with_reducible apply Step.storeA (k := 0) (n := 2)); exact rfl; exact rfl; exact rfl; exact rfl; (focus (decide +kernel)); exact rfl; (focus (kernel_rfl)); exact rfl; (focus (first | (simp only [List.nil_append, List.cons_append, List.set_cons_zero, List.set_cons_succ, iv_set, bv_set, iv_rep, bv_rep]; done) | (simp only [List.nil_append, List.cons_append, List.set_cons_zero, List.set_cons_succ, iv_set, bv_set, iv_rep, bv_rep]; rfl) | rfl)))) | (with_reducible refine AWo.nil ?_) | ((with_reducible apply AW.seq)) | ((with_reducible apply Then.n)) | ((with_reducible apply AW.regL)) | ((with_reducible apply AW.block)) | ((with_reducible apply AW.drawL fit); (focus (decide +kernel))) | ((with_reducible apply InBlk.n)) | ((with_reducible apply AW.skip)) | ((with_reducible apply AW.condT); exact rfl; (focus ((simp only [decide_eq_true_eq, decide_eq_false_iff_not, Bool.not_eq_true', Bool.not_eq_false', Bool.not_true, Bool.not_false]; first | assumption | omega)))) | ((with_reducible apply AW.condF); exact rfl; (focus ((simp only [decide_eq_true_eq, decide_eq_false_iff_not, Bool.not_eq_true', Bool.not_eq_false', Bool.not_true, Bool.not_false]; first | assumption | omega))))))
            exact ⟨_, [(0, .pointer (some ⟨xk, 0, none⟩)), (53, u), (54, .int .i64 (L.length : Nat)), (55, .int .i64 (k + 1 : Nat))], by omega, (by repeat (first | exact trivial | (refine And.intro rfl ?_))), k + 1, _, rfl, by omega, List.append_assoc _ _ _, rfl⟩
          · obtain rfl : k = L.length := by omega
            (repeat (first | (with_reducible refine AWo.cons ?_) | ((with_reducible refine Step.id ?_); ((with_reducible apply Step.lss); exact rfl; exact rfl; exact rfl)) | (with_reducible refine AWo.nil ?_) | ((with_reducible apply AW.seq)) | ((with_reducible apply Then.n)) | ((with_reducible apply AW.regL)) | ((with_reducible apply AW.exit)) | ((with_reducible apply Then.e)) | ((with_reducible apply AW.condF); exact rfl; (focus ((simp only [decide_eq_true_eq, decide_eq_false_iff_not, Bool.not_eq_true', Bool.not_eq_false', Bool.not_true, Bool.not_false]; first | assumption | omega))))))
            exact ⟨rfl, ⟨N, rfl⟩, (by repeat (first | exact trivial | (refine And.intro rfl ?_)))⟩
        · rintro t' M2 ⟨⟨N, rfl⟩, hsl2⟩
          refine InBlk.hit ?_
          refine Then.n ?_
          refine AW.weak (fr_all hsl2) ?_
          clear hsl2
          refine AW.rebase ?_
          have rd0 : ∀ T, Rd (M ++ N ++ T) xk 0 (.pointer (some ⟨xb, 0, none⟩)) := fun T => by rw [List.append_assoc]; exact rdM _ 0 _ rfl
          have rd3 : ∀ T, Rd (M ++ N ++ T) xk (0 + 3) mvv := fun T => by rw [List.append_assoc]; exact rdM _ 3 _ rfl
          have hrm3 : Row (M ++ N) 0 4 mvv (tcs K.mv) K.mv.length := (hrm.keep fun j hj _ => hMk j hj).old N
          obtain ⟨pc, hpr, _⟩ := hB.posts
          have hpS : ∀ j, ¬ NotOf pv j → S j := fun j hj => by obtain ⟨b, hb⟩ := hpr.at_ hj; exact (vw_some.1 hb).1
          have hxS : S xb := (vw_some.1 hB.cells).1
          have hnp : ∀ j, rkD xk rv mvv j → j ≠ xb ∧ NotOf pv j := fun j hj => ⟨fun e => hS j hj (e ▸ hxS), Classical.byContradiction fun e => hS j hj (hpS j e)⟩
          have hpo := RPost_ok (v := mvv) (l := K.mv) (hB3.old N) (fun M' hF => (hrm3.keep fun j hj hn => hF.2 j hj (hnp j (.inr (.inr hn))).1 (hnp j (.inr (.inr hn))).2).trs (by have := hF.1; rw [List.length_append] at this; omega)) (by omega) hP hlen hpl
          (repeat (first | (with_reducible refine AWo.cons ?_) | ((with_reducible refine Step.id ?_); first | ((with_reducible apply Step.move); exact rfl; exact rfl) | ((with_reducible apply Step.load); exact rfl; (focus (decide +kernel)); exact rfl; (focus (first | exact rd0 _ | exact rd3 _))) | ((with_reducible apply Step.field0); exact rfl; (focus (decide +kernel)); exact rfl) | ((with_reducible apply Step.field (k := 3)); exact rfl; (focus (decide +kernel)); exact rfl) | ((with_reducible apply Step.nilp); exact rfl; exact rfl)) | ((with_reducible apply AW.seq)) | ((with_reducible apply AW.drawL fit); (focus (decide +kernel)))))
          ((with_reducible apply Step.callF fit); exact rfl; exact Try.func44; exact rfl; exact rfl; (focus (rw [List.append_nil]; exact hpo)))
          rintro r4 M4 ⟨u4, rfl, hB4, hF4, _, _⟩
          have hl4 := hF4.1
          rw [List.length_append] at hl4
          rw [← List.append_nil M4]
          (repeat (first | (with_reducible refine AWo.cons ?_) | ((with_reducible refine Step.id ?_); first | ((with_reducible apply Step.assign); exact rfl; exact rfl) | ((with_reducible apply Step.extract); exact rfl; exact rfl; exact rfl)) | (with_reducible refine AWo.nil ?_) | ((with_reducible apply Then.n))))
          (refine AW.ret ?_; (repeat (first | refine Then.r ?_ | refine InBlk.r ?_)))
          rw [List.append_nil]
          refine ⟨_, rfl, u4, rfl, hB4, hdone _ (by omega) ?_, by omega, fun j hj hn => ?_⟩
          · rw [hF4.2 xk (by rw [List.length_append]; omega) (hnp xk (.inl rfl)).1 (hnp xk (.inl rfl)).2, List.getElem?_append_left (by omega)]
            exact hMk _ (by omega)
          · rw [hF4.2 j (by rw [List.length_append]; omega) (fun e => hn (.inr (.inl e))) (Classical.byContradiction fun e => hn (.inr (.inr e))), List.getElem?_append_left (by omega), hMk j (by omega), hkp j (fun e => hn (.inl e))]
end Go.Proofs.Ytabdnepfcohncaa.Abs
namespace Go.Proofs.Ytabdnepfcohncaa.Abs
set_option linter.unusedSimpArgs false
set_option linter.unusedVariables false
open Go.RowKit
open Go.Proofs.Ytabdnepfcohncaa.Sim
open Go.Proofs
theorem bl61z : abuild Try.prog 61 [] = some (.agg #[.int .i64 0, .int .i64 0, .int .i64 0, .int .i64 0]) := by kernel_rfl
theorem Ren.trv {ρ : Nat → Nat} {n : Nat} (x : Tr) : Ren ρ n x.v x.v := .agg _ _ rfl fun i hi => by
  simp at hi
  rcases (show i = 0 ∨ i = 1 ∨ i = 2 ∨ i = 3 by omega) with rfl | rfl | rfl | rfl <;> exact .int _ _
set_option maxHeartbeats 4000000 in
set_option maxRecDepth 100000 in
theorem One_ok {m : AM} {v : Value} {x : Deed} (h : Trs m v x.l) (hle : x.l.length ≤ 9223372036854775807) : ACall Try.prog 100 #[.agg #[.int .i64 x.kd, .int .i64 x.who, .int .i64 x.n, .int .i64 x.m, v]] m (Ret (x.l.headD default).v m) := by
  refine ACall.drop (Ren.trv _) ?_
  obtain ⟨a, o, h1, h2, h3⟩ := h
  have hw1 : (Value.agg #[.int .i64 x.kd, .int .i64 x.who, .int .i64 x.n, .int .i64 x.m, v]).cells.all (·.oneCell') = true := Deed.one (x := x) h1
  refine ACall.start Try.func100 rfl rfl ?_
  by_cases c : x.l.length = 0
  · (repeat (first | (with_reducible refine AWo.cons ?_) | ((with_reducible refine Step.id ?_); first | ((with_reducible apply Step.load); exact rfl; (focus (decide +kernel)); exact rfl; (focus (exact Rd.new rfl rfl))) | ((with_reducible apply Step.field (k := 4)); exact rfl; (focus (decide +kernel)); exact rfl) | ((with_reducible apply Step.eql); exact rfl; exact rfl; exact rfl) | ((with_reducible apply Step.len); exact rfl; (focus (assumption)); (focus (decide +kernel)); exact rfl) | ((with_reducible apply Step.box 0); exact rfl; exact rfl; (focus (first | assumption | exact hw1)); exact rfl; (focus (first | (simp only [List.nil_append, List.cons_append, List.set_cons_zero, List.set_cons_succ, iv_set, bv_set, iv_rep, bv_rep]; done) | (simp only [List.nil_append, List.cons_append, List.set_cons_zero, List.set_cons_succ, iv_set, bv_set, iv_rep, bv_rep]; rfl) | rfl))) | ((with_reducible apply Step.alloc 1); exact rfl; exact ze61; exact rfl; (focus (first | (simp only [List.nil_append, List.cons_append, List.set_cons_zero, List.set_cons_succ, iv_set, bv_set, iv_rep, bv_rep]; done) | (simp only [List.nil_append, List.cons_append, List.set_cons_zero, List.set_cons_succ, iv_set, bv_set, iv_rep, bv_rep]; rfl) | rfl))) | ((with_reducible apply Step.storeA (k := 1) (n := 4)); exact rfl; exact rfl; exact rfl; exact rfl; (focus (decide +kernel)); exact rfl; (focus (kernel_rfl)); exact rfl; (focus (first | (simp only [List.nil_append, List.cons_append, List.set_cons_zero, List.set_cons_succ, iv_set, bv_set, iv_rep, bv_rep]; done) | (simp only [List.nil_append, List.cons_append, List.set_cons_zero, List.set_cons_succ, iv_set, bv_set, iv_rep, bv_rep]; rfl) | rfl))) | ((with_reducible apply Step.build); exact rfl; exact bl61z; exact rfl)) | (with_reducible refine AWo.nil ?_) | ((with_reducible apply AW.seq)) | ((with_reducible apply Then.n)) | ((with_reducible apply AW.regL)) | ((with_reducible apply AW.condT); exact rfl; (focus ((simp only [decide_eq_true_eq, decide_eq_false_iff_not, Bool.not_eq_true', Bool.not_eq_false', Bool.not_true, Bool.not_false]; first | assumption | omega))))))
    have e : x.l = [] := List.eq_nil_of_length_eq_zero c
    rw [e]
    (refine AW.ret ?_; (repeat (first | refine Then.r ?_ | refine InBlk.r ?_)))
    exact ⟨_, ares_cell rfl rfl (by decide +kernel) (n := 4) (by decide +kernel) (RdL.new rfl rfl) rfl rfl, rfl, _, rfl⟩
  · have r0 := (h3 0 (by omega))
    have e : x.l.headD default = x.l.getD 0 default := by cases x.l <;> rfl
    rw [e]
    generalize x.l.getD 0 default = y at *
    obtain ⟨yi, yf, yt, yn⟩ := y
    have r0 := fun T => r0.old T
    simp only [Tr.c] at r0
    (repeat (first | (with_reducible refine AWo.cons ?_) | ((with_reducible refine Step.id ?_); first | ((with_reducible apply Step.load); exact rfl; (focus (decide +kernel)); exact rfl; (focus (exact Rd.new rfl rfl))) | ((with_reducible apply Step.field (k := 4)); exact rfl; (focus (decide +kernel)); exact rfl) | ((with_reducible apply Step.eql); exact rfl; exact rfl; exact rfl) | ((with_reducible apply Step.len); exact rfl; (focus (assumption)); (focus (decide +kernel)); exact rfl) | ((with_reducible apply Step.box 0); exact rfl; exact rfl; (focus (first | assumption | exact hw1)); exact rfl; (focus (first | (simp only [List.nil_append, List.cons_append, List.set_cons_zero, List.set_cons_succ, iv_set, bv_set, iv_rep, bv_rep]; done) | (simp only [List.nil_append, List.cons_append, List.set_cons_zero, List.set_cons_succ, iv_set, bv_set, iv_rep, bv_rep]; rfl) | rfl))) | ((with_reducible apply Step.alloc 1); exact rfl; exact ze61; exact rfl; (focus (first | (simp only [List.nil_append, List.cons_append, List.set_cons_zero, List.set_cons_succ, iv_set, bv_set, iv_rep, bv_rep]; done) | (simp only [List.nil_append, List.cons_append, List.set_cons_zero, List.set_cons_succ, iv_set, bv_set, iv_rep, bv_rep]; rfl) | rfl)))) | (with_reducible refine AWo.nil ?_) | ((with_reducible apply AW.seq)) | ((with_reducible apply Then.n)) | ((with_reducible apply AW.regL)) | ((with_reducible apply AW.skip)) | ((with_reducible apply AW.condF); exact rfl; (focus ((simp only [decide_eq_true_eq, decide_eq_false_iff_not, Bool.not_eq_true', Bool.not_eq_false', Bool.not_true, Bool.not_false]; first | assumption | omega))))))
    ((with_reducible apply Step.ixZ (s := 4) 0); exact rfl; exact h1; exact rfl; exact rfl; (focus (decide +kernel)); exact rfl; (focus (omega)))
    (repeat (first | (with_reducible refine AWo.cons ?_) | ((with_reducible refine Step.id ?_); first | ((with_reducible apply Step.loadL (n := 4)); exact rfl; (focus (decide +kernel)); (focus (decide +kernel)); exact rfl; (focus (exact RdL.old _ (by assumption))); exact rfl; exact rfl) | ((with_reducible apply Step.storeA (k := 1) (n := 4)); exact rfl; exact rfl; exact rfl; exact rfl; (focus (decide +kernel)); exact rfl; (focus (kernel_rfl)); exact rfl; (focus (first | (simp only [List.nil_append, List.cons_append, List.set_cons_zero, List.set_cons_succ, iv_set, bv_set, iv_rep, bv_rep]; done) | (simp only [List.nil_append, List.cons_append, List.set_cons_zero, List.set_cons_succ, iv_set, bv_set, iv_rep, bv_rep]; rfl) | rfl)))) | (with_reducible refine AWo.nil ?_) | ((with_reducible apply Then.n))))
    (refine AW.ret ?_; (repeat (first | refine Then.r ?_ | refine InBlk.r ?_)))
    exact ⟨_, ares_cell rfl rfl (by decide +kernel) (n := 4) (by decide +kernel) (RdL.new rfl rfl) rfl rfl, rfl, _, rfl⟩
theorem Row.rd {M : AM} {b0 s : Nat} {u : Value} {c : List Value} {n a q : Nat} {v : Value} (h : Row M b0 s u c n) (hs : Sl u a 0 n) (hn : 0 < n) (hv : c[q]? = some v) (T : AM) : Rd (M ++ T) a q v := by
  obtain ⟨a', kd, sz, q1, q2, q3, q4⟩ := h.pos hn
  refine Rd.old T ⟨{ cells := c, kind := kd, size := sz }, ?_, hv⟩
  rcases hs with ⟨_, e⟩ | ⟨c', _, e⟩ | ⟨e, _⟩
  · omega
  · rw [q3] at e
    simp only [Value.slice.injEq, Option.some.injEq, Addr.mk.injEq] at e
    rw [← e.1.1]
    exact q4
  · omega
end Go.Proofs.Ytabdnepfcohncaa.Abs
namespace Go.Proofs.Ytabdnepfcohncaa.Abs
set_option linter.unusedSimpArgs false
set_option linter.unusedVariables false
open Go.RowKit
open Go.Proofs.Ytabdnepfcohncaa.Sim
open Go.Proofs
set_option maxRecDepth 100000 in
theorem RTotal_ok {m : AM} (p : Value) (i : Int) : ACall Try.prog 110 #[p, .int .i64 i] m (Ret (.tuple #[.int .i64 0, .int .i64 (if 0 ≤ i ∧ i < 16 then 0 else 2)]) m) := by
  have hii := fun T b e => in_ok (m := m ++ T) i (b := b) e
  refine ACall.start Try.func110 rfl rfl ?_
  by_cases c : 0 ≤ i ∧ i < 16
  · have hii := fun T => hii T true (decide_eq_true c)
    rw [if_pos c]
    (repeat (first | (with_reducible refine AWo.cons ?_) | ((with_reducible refine Step.id ?_); first | ((with_reducible apply Step.move); exact rfl; exact rfl) | ((with_reducible apply Step.assign); exact rfl; exact rfl) | ((with_reducible apply Step.not); exact rfl; exact rfl) | ((with_reducible apply Step.callR fit); exact rfl; exact Try.func128; exact rfl; exact rfl; exact (hii _))) | (with_reducible refine AWo.nil ?_) | ((with_reducible apply AW.seq)) | ((with_reducible apply Then.n)) | ((with_reducible apply AW.regL)) | ((with_reducible apply AW.skip)) | ((with_reducible apply AW.condF); exact rfl; (focus (rfl)))))
    (refine AW.retD (l := [(4, _), (5, _)]) (by repeat (first | exact trivial | (refine And.intro ⟨rfl, by (exact .int _ _)⟩ ?_))) ?_; (repeat (first | refine Then.r ?_ | refine InBlk.r ?_)))
    exact ⟨_, rfl, rfl, rfl⟩
  · have hii := fun T => hii T false (decide_eq_false c)
    rw [if_neg c]
    (repeat (first | (with_reducible refine AWo.cons ?_) | ((with_reducible refine Step.id ?_); first | ((with_reducible apply Step.move); exact rfl; exact rfl) | ((with_reducible apply Step.assign); exact rfl; exact rfl) | ((with_reducible apply Step.not); exact rfl; exact rfl) | ((with_reducible apply Step.callR fit); exact rfl; exact Try.func128; exact rfl; exact rfl; exact (hii _))) | (with_reducible refine AWo.nil ?_) | ((with_reducible apply AW.seq)) | ((with_reducible apply Then.n)) | ((with_reducible apply AW.regL)) | ((with_reducible apply AW.condT); exact rfl; (focus (rfl)))))
    (refine AW.retD (l := [(4, _), (5, _)]) (by repeat (first | exact trivial | (refine And.intro ⟨rfl, by (exact .int _ _)⟩ ?_))) ?_; (repeat (first | refine Then.r ?_ | refine InBlk.r ?_)))
    exact ⟨_, rfl, rfl, rfl⟩
set_option maxRecDepth 100000 in
theorem RFind_no {m : AM} {b0 xb : Nat} {P : List (List Tr)} {pv : Value} {n : Int} (h : RBook m b0 xb P pv) (hn : ¬ (1 ≤ n ∧ n ≤ P.length)) : ACall Try.prog 107 #[.pointer (some ⟨xb, 0, none⟩), .int .i64 n] m (Ret (.tuple #[.slice none 0 0, .int .i64 7]) m) := by
  have hxl := h.lt
  have rx := fun T => Rd.old T (show Rd m xb 0 pv from ⟨_, h.cells, rfl⟩)
  obtain ⟨pc, hrow, hps⟩ := h.posts
  obtain ⟨ar, r1, r2, r3⟩ := hrow.sl (by omega)
  refine ACall.start Try.func107 rfl rfl ?_
  by_cases c : n < 1
  · (repeat (first | (with_reducible refine AWo.cons ?_) | ((with_reducible refine Step.id ?_); first | ((with_reducible apply Step.gdF); exact rfl; exact rfl; (focus ((simp only [decide_eq_true_eq, decide_eq_false_iff_not, Bool.not_eq_true', Bool.not_eq_false', Bool.not_true, Bool.not_false]; first | assumption | omega)))) | ((with_reducible apply Step.move); exact rfl; exact rfl) | ((with_reducible apply Step.assign); exact rfl; exact rfl) | ((with_reducible apply Step.lss); exact rfl; exact rfl; exact rfl) | ((with_reducible apply Step.pickT); exact rfl; exact rfl; exact rfl; exact rfl; (focus ((simp only [decide_eq_true_eq, decide_eq_false_iff_not, Bool.not_eq_true', Bool.not_eq_false', Bool.not_true, Bool.not_false]; first | assumption | omega))))) | (with_reducible refine AWo.nil ?_) | ((with_reducible apply AW.seq)) | ((with_reducible apply Then.n)) | ((with_reducible apply AW.regL)) | ((with_reducible apply AW.condT); exact rfl; (focus (rfl)))))
    (refine AW.retD (l := [(4, _), (5, _)]) (by repeat (first | exact trivial | (refine And.intro ⟨rfl, by (first | exact .int _ _ | exact Ren.of_g0 rfl)⟩ ?_))) ?_; (repeat (first | refine Then.r ?_ | refine InBlk.r ?_)))
    exact ⟨_, rfl, rfl, rfl⟩
  · (repeat (first | (with_reducible refine AWo.cons ?_) | ((with_reducible refine Step.id ?_); first | ((with_reducible apply Step.gdT); exact rfl; exact rfl; (focus ((simp only [decide_eq_true_eq, decide_eq_false_iff_not, Bool.not_eq_true', Bool.not_eq_false', Bool.not_true, Bool.not_false]; first | assumption | omega)))) | ((with_reducible apply Step.move); exact rfl; exact rfl) | ((with_reducible apply Step.assign); exact rfl; exact rfl) | ((with_reducible apply Step.load); exact rfl; (focus (decide +kernel)); exact rfl; (focus (exact rx _))) | ((with_reducible apply Step.field0); exact rfl; (focus (decide +kernel)); exact rfl) | ((with_reducible apply Step.lss); exact rfl; exact rfl; exact rfl) | ((with_reducible apply Step.gtr); exact rfl; exact rfl; exact rfl) | ((with_reducible apply Step.len); exact rfl; (focus (assumption)); (focus (decide +kernel)); exact rfl) | ((with_reducible apply Step.nilp); exact rfl; exact rfl) | ((with_reducible apply Step.pickF); exact rfl; exact rfl; exact rfl; exact rfl; (focus ((simp only [decide_eq_true_eq, decide_eq_false_iff_not, Bool.not_eq_true', Bool.not_eq_false', Bool.not_true, Bool.not_false]; first | assumption | omega))))) | (with_reducible refine AWo.nil ?_) | ((with_reducible apply AW.seq)) | ((with_reducible apply Then.n)) | ((with_reducible apply AW.regL)) | ((with_reducible apply AW.condT); exact rfl; (focus ((simp only [decide_eq_true_eq, decide_eq_false_iff_not, Bool.not_eq_true', Bool.not_eq_false', Bool.not_true, Bool.not_false]; first | assumption | omega))))))
    (refine AW.retD (l := [(4, _), (5, _)]) (by repeat (first | exact trivial | (refine And.intro ⟨rfl, by (first | exact .int _ _ | exact Ren.of_g0 rfl)⟩ ?_))) ?_; (repeat (first | refine Then.r ?_ | refine InBlk.r ?_)))
    exact ⟨_, rfl, rfl, rfl⟩
set_option maxRecDepth 100000 in
theorem RFind_ok {m : AM} {b0 xb : Nat} {P : List (List Tr)} {pv : Value} {k : Nat} (h : RBook m b0 xb P pv) (hk : k < P.length) (hpl : P.length ≤ 1000000) : ACall Try.prog 107 #[.pointer (some ⟨xb, 0, none⟩), .int .i64 ((k : Nat) + 1)] m (fun r M => ∃ u, r = .tuple #[u, .int .i64 0] ∧ (∃ N, M = m ++ N) ∧ PostAt m b0 u (P.getD k [])) := by
  have hxl := h.lt
  have rx := fun T => Rd.old T (show Rd m xb 0 pv from ⟨_, h.cells, rfl⟩)
  obtain ⟨pc, hrow, hps⟩ := h.posts
  obtain ⟨ar, r1, r2, r3⟩ := hrow.sl (by omega)
  obtain ⟨u, hu, hat⟩ := hps k hk
  have ru := fun T => hrow.rd (a := ar) r1 (by omega) hu T
  have e1 : ((k : Nat) : Int) + 1 - 1 = ((k : Nat) : Int) := by omega
  refine ACall.start Try.func107 rfl rfl ?_
  (repeat (first | (with_reducible refine AWo.cons ?_) | ((with_reducible refine Step.id ?_); first | ((with_reducible apply Step.gdT); exact rfl; exact rfl; (focus (rfl))) | ((with_reducible apply Step.move); exact rfl; exact rfl) | ((with_reducible apply Step.assign); exact rfl; exact rfl) | ((with_reducible apply Step.load); exact rfl; (focus (decide +kernel)); exact rfl; (focus (exact rx _))) | ((with_reducible apply Step.field0); exact rfl; (focus (decide +kernel)); exact rfl) | ((with_reducible apply Step.sub); exact rfl; exact rfl; (focus (omega)); exact rfl) | ((with_reducible apply Step.lss); exact rfl; exact rfl; exact rfl) | ((with_reducible apply Step.gtr); exact rfl; exact rfl; exact rfl) | ((with_reducible apply Step.len); exact rfl; (focus (assumption)); (focus (decide +kernel)); exact rfl) | ((with_reducible apply Step.nilp); exact rfl; exact rfl) | ((with_reducible apply Step.pickF); exact rfl; exact rfl; exact rfl; exact rfl; (focus (rfl)))) | (with_reducible refine AWo.nil ?_) | ((with_reducible apply AW.seq)) | ((with_reducible apply Then.n)) | ((with_reducible apply AW.regL)) | ((with_reducible apply AW.skip)) | ((with_reducible apply AW.condF); exact rfl; (focus ((simp only [decide_eq_true_eq, decide_eq_false_iff_not, Bool.not_eq_true', Bool.not_eq_false', Bool.not_true, Bool.not_false]; first | assumption | omega))))))
  rw [e1]
  (repeat (first | (with_reducible refine AWo.cons ?_) | ((with_reducible refine Step.id ?_); first | ((with_reducible apply Step.assign); exact rfl; exact rfl) | ((with_reducible apply Step.load); exact rfl; (focus (decide +kernel)); exact rfl; (focus (exact ru _))) | ((with_reducible apply Step.ix1z); exact rfl; (focus (assumption)); exact rfl; (focus (decide +kernel)); exact rfl; (focus (omega)))) | (with_reducible refine AWo.nil ?_) | ((with_reducible apply Then.n))))
  (refine AW.ret ?_; (repeat (first | refine Then.r ?_ | refine InBlk.r ?_)))
  exact ⟨_, rfl, u, rfl, ⟨_, rfl⟩, hat⟩
set_option maxHeartbeats 4000000 in
set_option maxRecDepth 100000 in
theorem own_ok {m : AM} {v : Value} {l : List Tr} (h : Trs m v l) (hlen : l.length ≤ 1000000) : ACall Try.prog 109 #[v] m (More (fun M r => Row M m.length 4 r (tcs l) l.length) m) := by
  obtain ⟨a, o, h1, h2, h3⟩ := h
  refine ACall.start Try.func109 rfl rfl ?_
  (repeat (first | (with_reducible refine AWo.cons ?_) | ((with_reducible refine Step.id ?_); first | ((with_reducible apply Step.move); exact rfl; exact rfl) | ((with_reducible apply Step.assign); exact rfl; exact rfl) | ((with_reducible apply Step.len); exact rfl; (focus (assumption)); (focus (decide +kernel)); exact rfl)) | (with_reducible refine AWo.nil ?_) | ((with_reducible apply AW.seq)) | ((with_reducible apply Then.n)) | ((with_reducible apply AW.regL)) | ((with_reducible apply AW.block))))
  refine AW.loopW (fun q t M => ∃ (k : Nat) (r : Value), q = l.length - k ∧ k ≤ l.length ∧ Row M m.length 4 r (tcs (l.take k)) k ∧ (∃ N, M = m ++ N) ∧
    t = fr [(3, r), (6, v), (7, .int .i64 (l.length : Nat)), (8, .int .i64 (k : Nat))]) ⟨_, _, (by repeat (first | exact trivial | (refine And.intro rfl ?_))), 0, _, rfl, Nat.zero_le _, Row.nil, ⟨_, rfl⟩, rfl⟩ ?_
  rintro q t M ⟨k, r, rfl, hk, hR, ⟨N, rfl⟩, rfl⟩
  refine AW.rebase ?_
  rcases Nat.lt_or_ge k l.length with hlt | hge
  · have hr := fun T => (h3 k hlt).old T
    have hr := fun T => hr (N ++ T)
    simp only [← List.append_assoc] at hr
    have ts := take_snocT l k hlt
    generalize l.getD k default = x at *
    obtain ⟨xi, xf, xt, xn⟩ := x
    simp only [Tr.c] at hr
    (repeat (first | (with_reducible refine AWo.cons ?_) | ((with_reducible refine Step.id ?_); first | ((with_reducible apply Step.move); exact rfl; exact rfl) | ((with_reducible apply Step.load); exact rfl; (focus (decide +kernel)); exact rfl; (focus (exact Rd.new rfl rfl))) | ((with_reducible apply Step.loadL (n := 4)); exact rfl; (focus (decide +kernel)); (focus (decide +kernel)); exact rfl; (focus (exact hr _)); exact rfl; exact rfl) | ((with_reducible apply Step.ix (s := 4)); exact rfl; (focus (assumption)); exact rfl; (focus (decide +kernel)); exact rfl; (focus (omega))) | ((with_reducible apply Step.field0); exact rfl; (focus (decide +kernel)); exact rfl) | ((with_reducible apply Step.field (k := 1)); exact rfl; (focus (decide +kernel)); exact rfl) | ((with_reducible apply Step.field (k := 2)); exact rfl; (focus (decide +kernel)); exact rfl) | ((with_reducible apply Step.field (k := 3)); exact rfl; (focus (decide +kernel)); exact rfl) | ((with_reducible apply Step.lss); exact rfl; exact rfl; exact rfl) | ((with_reducible apply Step.alloc 0); exact rfl; exact ze63; exact rfl; (focus (first | (simp only [List.nil_append, List.cons_append, List.set_cons_zero, List.set_cons_succ, iv_set, bv_set, iv_rep, bv_rep]; done) | (simp only [List.nil_append, List.cons_append, List.set_cons_zero, List.set_cons_succ, iv_set, bv_set, iv_rep, bv_rep]; rfl) | rfl))) | ((with_reducible apply Step.storeA (k := 0) (n := 4)); exact rfl; exact rfl; exact rfl; exact rfl; (focus (decide +kernel)); exact rfl; (focus (kernel_rfl)); exact rfl; (focus (first | (simp only [List.nil_append, List.cons_append, List.set_cons_zero, List.set_cons_succ, iv_set, bv_set, iv_rep, bv_rep]; done) | (simp only [List.nil_append, List.cons_append, List.set_cons_zero, List.set_cons_succ, iv_set, bv_set, iv_rep, bv_rep]; rfl) | rfl))) | ((with_reducible apply Step.buildS 1); exact rfl; exact rfl; exact (fun _ _ => bs48); exact rfl; (focus (first | (simp only [List.nil_append, List.cons_append, List.set_cons_zero, List.set_cons_succ, iv_set, bv_set, iv_rep, bv_rep]; done) | (simp only [List.nil_append, List.cons_append, List.set_cons_zero, List.set_cons_succ, iv_set, bv_set, iv_rep, bv_rep]; rfl) | rfl))) | ((with_reducible apply Step.build); exact rfl; exact bl61; exact rfl)) | (with_reducible refine AWo.nil ?_) | ((with_reducible apply AW.seq)) | ((with_reducible apply Then.n)) | ((with_reducible apply AW.regL)) | ((with_reducible apply AW.block)) | ((with_reducible apply AW.skip)) | ((with_reducible apply AW.condT); exact rfl; (focus ((simp only [decide_eq_true_eq, decide_eq_false_iff_not, Bool.not_eq_true', Bool.not_eq_false', Bool.not_true, Bool.not_false]; first | assumption | omega))))))
    ((with_reducible apply Step.appRow2 (n := k) (xl := 1) (b0 := m.length) (new := [.int .i64 xi, .int .i64 xf, .int .i64 xt, .int .i64 xn])); exact rfl; exact rfl; exact (hR.old _); exact (Sl.mk (Nat.le_refl _)); exact (fun _ => RdL.new rfl rfl); exact el48; exact un48; exact rfl; exact rfl; exact rfl; (focus (omega)); exact rfl; (focus (simp only [List.length_append]; omega)))
    intro r' M1 hr1 hml1 hk1 _
    have hM1 := pre_keep (m0 := m) ⟨N ++ _, (List.append_assoc _ _ _)⟩ hml1 fun j hj => hk1 j (by simp only [List.length_append]; omega) (NotOf.row hR hj)
    (repeat (first | (with_reducible refine AWo.cons ?_) | ((with_reducible refine Step.id ?_); first | ((with_reducible apply Step.move); exact rfl; exact rfl) | ((with_reducible apply Step.assign); exact rfl; exact rfl) | ((with_reducible apply Step.add); exact rfl; exact rfl; (focus (omega)); exact rfl)) | (with_reducible refine AWo.nil ?_) | ((with_reducible apply Then.n)) | ((with_reducible apply AW.regL)) | ((with_reducible apply InBlk.n))))
    exact ⟨_, [(3, r'), (6, v), (7, .int .i64 (l.length : Nat)), (8, .int .i64 (k + 1 : Nat))], by omega, (by repeat (first | exact trivial | (refine And.intro rfl ?_))), k + 1, _, rfl, by omega, by rw [ts, tcs_app]; simpa [tcs, Tr.c] using hr1, hM1, rfl⟩
  · obtain rfl : k = l.length := by omega
    (repeat (first | (with_reducible refine AWo.cons ?_) | ((with_reducible refine Step.id ?_); first | ((with_reducible apply Step.move); exact rfl; exact rfl) | ((with_reducible apply Step.assign); exact rfl; exact rfl) | ((with_reducible apply Step.lss); exact rfl; exact rfl; exact rfl)) | (with_reducible refine AWo.nil ?_) | ((with_reducible apply AW.seq)) | ((with_reducible apply Then.n)) | ((with_reducible apply AW.regL)) | ((with_reducible apply AW.exit)) | ((with_reducible apply InBlk.hit)) | ((with_reducible apply Then.e)) | ((with_reducible apply AW.condF); exact rfl; (focus ((simp only [decide_eq_true_eq, decide_eq_false_iff_not, Bool.not_eq_true', Bool.not_eq_false', Bool.not_true, Bool.not_false]; first | assumption | omega))))))
    (refine AW.ret ?_; (repeat (first | refine Then.r ?_ | refine InBlk.r ?_)))
    refine ⟨_, rfl, N, by rw [List.append_nil], ?_⟩
    rw [List.append_nil]
    rwa [List.take_length] at hR
end Go.Proofs.Ytabdnepfcohncaa.Abs
namespace Go.Proofs.Ytabdnepfcohncaa.Abs
set_option linter.unusedSimpArgs false
set_option linter.unusedVariables false
open Go.RowKit
open Go.Proofs.Ytabdnepfcohncaa.Sim
open Go.Proofs
theorem revL_len (l : List Tr) : (revL l).length = l.length := by simp [revL]
theorem revL_get (l : List Tr) {c j : Nat} (h : j + c + 1 = l.length) : (revL l).getD c default = ⟨(l.getD j default).i, (l.getD j default).t, (l.getD j default).f, (l.getD j default).n⟩ := by
  have h1 : c < (revL l).length := by rw [revL_len]; omega
  have h2 : j < l.length := by omega
  rw [List.getD_eq_getElem?_getD, List.getD_eq_getElem?_getD, List.getElem?_eq_getElem h1, List.getElem?_eq_getElem h2]
  simp only [Option.getD_some, revL, List.getElem_map, List.getElem_reverse]
  have e : l.length - 1 - c = j := by omega
  simp only [e]
set_option maxHeartbeats 4000000 in
set_option maxRecDepth 100000 in
theorem RReverse_no {m : AM} {b0 xb : Nat} {P : List (List Tr)} {pv : Value} {n : Int} (h : RBook m b0 xb P pv) (hn : ¬ (1 ≤ n ∧ n ≤ P.length)) : ACall Try.prog 105 #[.pointer (some ⟨xb, 0, none⟩), .int .i64 n] m (Ret (.tuple #[.int .i64 0, .int .i64 7]) m) := by
  have hf := fun T => RFind_no (h.old T) hn
  refine ACall.start Try.func105 rfl rfl ?_
  (repeat (first | (with_reducible refine AWo.cons ?_) | ((with_reducible refine Step.id ?_); first | ((with_reducible apply Step.move); exact rfl; exact rfl) | ((with_reducible apply Step.assign); exact rfl; exact rfl) | ((with_reducible apply Step.neq); exact rfl; exact rfl; exact rfl) | ((with_reducible apply Step.extract); exact rfl; exact rfl; exact rfl) | ((with_reducible apply Step.callR fit); exact rfl; exact Try.func107; exact rfl; exact rfl; exact (hf _))) | (with_reducible refine AWo.nil ?_) | ((with_reducible apply AW.seq)) | ((with_reducible apply Then.n)) | ((with_reducible apply AW.regL)) | ((with_reducible apply AW.condT); exact rfl; (focus (rfl)))))
  (refine AW.retD (l := [(4, _), (5, _)]) (by repeat (first | exact trivial | (refine And.intro ⟨rfl, by (exact .int _ _)⟩ ?_))) ?_; (repeat (first | refine Then.r ?_ | refine InBlk.r ?_)))
  exact ⟨_, rfl, rfl, rfl⟩
set_option maxHeartbeats 4000000 in
set_option maxRecDepth 100000 in
theorem RReverse_ok {m : AM} {b0 xb : Nat} {P : List (List Tr)} {pv : Value} {k : Nat} (h : RBook m b0 xb P pv) (hk : k < P.length) (hl16 : (P.getD k []).length ≤ 1000000) (hP : smallT P.flatten) (hlen : P.flatten.length ≤ 100000000) (hpl : P.length ≤ 1000000) :
    ACall Try.prog 105 #[.pointer (some ⟨xb, 0, none⟩), .int .i64 ((k : Nat) + 1)] m (fun r M => ∃ u, r = .tuple #[.int .i64 (rpostF P (revL (P.getD k []))).2.1, .int .i64 (rpostF P (revL (P.getD k []))).2.2] ∧ RBook M b0 xb (rpostF P (revL (P.getD k []))).1 u ∧ Fr m M xb pv) := by
  have hf := RFind_ok h hk hpl
  have hxl := h.lt
  refine ACall.start Try.func105 rfl rfl ?_
  (repeat (first | (with_reducible refine AWo.cons ?_) | ((with_reducible refine Step.id ?_); first | ((with_reducible apply Step.move); exact rfl; exact rfl) | ((with_reducible apply Step.assign); exact rfl; exact rfl)) | (with_reducible refine AWo.nil ?_) | ((with_reducible apply AW.seq)) | ((with_reducible apply Then.n)) | ((with_reducible apply AW.regL))))
  ((with_reducible apply Step.callF fit); exact rfl; exact Try.func107; exact rfl; exact rfl; (focus (rw [List.append_nil]; exact hf)))
  rintro r1 M1 ⟨u, rfl, ⟨N1, rfl⟩, hpa⟩
  obtain ⟨a, o, h1, h2, h3⟩ := hpa.trs
  have hus := hpa.slv
  generalize hl : P.getD k [] = l at *
  rw [← List.append_nil (m ++ N1)]
  (repeat (first | (with_reducible refine AWo.cons ?_) | ((with_reducible refine Step.id ?_); first | ((with_reducible apply Step.move); exact rfl; exact rfl) | ((with_reducible apply Step.assign); exact rfl; exact rfl) | ((with_reducible apply Step.sub); exact rfl; exact rfl; (focus (omega)); exact rfl) | ((with_reducible apply Step.neq); exact rfl; exact rfl; exact rfl) | ((with_reducible apply Step.len); exact rfl; (focus (assumption)); (focus (decide +kernel)); exact rfl) | ((with_reducible apply Step.extract); exact rfl; exact rfl; exact rfl)) | (with_reducible refine AWo.nil ?_) | ((with_reducible apply AW.seq)) | ((with_reducible apply Then.n)) | ((with_reducible apply AW.regL)) | ((with_reducible apply AW.block)) | ((with_reducible apply AW.skip)) | ((with_reducible apply AW.condF); exact rfl; (focus (rfl)))))
  refine AW.midX 0 (fun t' M => ∃ r, Row M m.length 4 r (tcs (revL l)) l.length ∧ (∃ N, M = m ++ N) ∧ All (fun i v => t' i = some v) [(0, .pointer (some ⟨xb, 0, none⟩)), (8, r)]) ?_ ?_
  · refine AW.loopW (fun q t M => ∃ (c : Nat) (r : Value), q = l.length - c ∧ c ≤ l.length ∧ Row M m.length 4 r (tcs ((revL l).take c)) c ∧ (∃ N, M = m ++ N) ∧
      t = fr [(0, .pointer (some ⟨xb, 0, none⟩)), (6, u), (8, r), (9, .int .i64 ((l.length : Int) - 1 - (c : Int)))]) ⟨_, [(0, .pointer (some ⟨xb, 0, none⟩)), (6, u), (8, .slice none 0 0), (9, .int .i64 ((l.length : Int) - 1))], (by repeat (first | exact trivial | (refine And.intro rfl ?_))), 0, _, rfl, Nat.zero_le _, Row.nil, ⟨N1, by rw [List.append_nil]⟩, by simp⟩ ?_
    rintro q t M ⟨c, r, rfl, hc, hR, ⟨N, rfl⟩, rfl⟩
    refine AW.rebase ?_
    rcases Nat.lt_or_ge c l.length with hlt | hge
    · obtain ⟨j, hj⟩ : ∃ j, j + c + 1 = l.length := ⟨l.length - 1 - c, by omega⟩
      have ej : (l.length : Int) - 1 - (c : Int) = ((j : Nat) : Int) := by omega
      have hjl : j < l.length := by omega
      have hr := fun T => (h3 j hjl).old T
      have hr := fun T => hr (N ++ T)
      simp only [← List.append_assoc] at hr
      have hg := revL_get l hj
      have ts := take_snocT (revL l) c (by rw [revL_len]; exact hlt)
      rw [hg] at ts
      generalize l.getD j default = x at *
      obtain ⟨xi, xf, xt, xn⟩ := x
      simp only [Tr.c] at hr
      rw [ej]
      have hq : ∀ T p v, [Value.int .i64 xi, .int .i64 xf, .int .i64 xt, .int .i64 xn][p]? = some v → Rd (m ++ N ++ T) a (o + j * 4 + p) v := fun T p v hv => by
        obtain ⟨b, w1, w2⟩ := hr T
        exact ⟨b, w1, w2 p v hv⟩
      have hq0 := fun T => hq T 0 _ rfl
      rw [Nat.add_zero] at hq0
      (repeat (first | (with_reducible refine AWo.cons ?_) | ((with_reducible refine Step.id ?_); first | ((with_reducible apply Step.move); exact rfl; exact rfl) | ((with_reducible apply Step.load); exact rfl; (focus (decide +kernel)); exact rfl; (focus (first | exact hq0 _ | exact hq _ 1 _ rfl | exact hq _ 2 _ rfl | exact hq _ 3 _ rfl))) | ((with_reducible apply Step.ix (s := 4)); exact rfl; (focus (assumption)); exact rfl; (focus (decide +kernel)); exact rfl; (focus (omega))) | ((with_reducible apply Step.field0); exact rfl; (focus (decide +kernel)); exact rfl) | ((with_reducible apply Step.field (k := 1)); exact rfl; (focus (decide +kernel)); exact rfl) | ((with_reducible apply Step.field (k := 2)); exact rfl; (focus (decide +kernel)); exact rfl) | ((with_reducible apply Step.field (k := 3)); exact rfl; (focus (decide +kernel)); exact rfl) | ((with_reducible apply Step.geq); exact rfl; exact rfl; exact rfl) | ((with_reducible apply Step.buildS 0); exact rfl; exact rfl; exact (fun _ _ => bs48); exact rfl; (focus (first | (simp only [List.nil_append, List.cons_append, List.set_cons_zero, List.set_cons_succ, iv_set, bv_set, iv_rep, bv_rep]; done) | (simp only [List.nil_append, List.cons_append, List.set_cons_zero, List.set_cons_succ, iv_set, bv_set, iv_rep, bv_rep]; rfl) | rfl))) | ((with_reducible apply Step.build); exact rfl; exact bl61; exact rfl)) | (with_reducible refine AWo.nil ?_) | ((with_reducible apply AW.seq)) | ((with_reducible apply Then.n)) | ((with_reducible apply AW.regL)) | ((with_reducible apply AW.block)) | ((with_reducible apply AW.drawL fit); (focus (decide +kernel))) | ((with_reducible apply AW.skip)) | ((with_reducible apply AW.condT); exact rfl; (focus (rfl)))))
      ((with_reducible apply Step.appRow2 (n := c) (xl := 1) (b0 := m.length) (new := [.int .i64 xi, .int .i64 xt, .int .i64 xf, .int .i64 xn])); exact rfl; exact rfl; exact (hR.old _); exact (Sl.mk (Nat.le_refl _)); exact (fun _ => RdL.new rfl rfl); exact el48; exact un48; exact rfl; exact rfl; exact rfl; (focus (omega)); exact rfl; (focus (simp only [List.length_append]; omega)))
      intro r' M1 hr1 hml1 hk1 _
      have hM1 := pre_keep (m0 := m) ⟨N ++ _, (List.append_assoc _ _ _)⟩ hml1 fun j hj => hk1 j (by simp only [List.length_append]; omega) (NotOf.row hR hj)
      (repeat (first | (with_reducible refine AWo.cons ?_) | ((with_reducible refine Step.id ?_); first | ((with_reducible apply Step.move); exact rfl; exact rfl) | ((with_reducible apply Step.assign); exact rfl; exact rfl) | ((with_reducible apply Step.sub); exact rfl; exact rfl; (focus (omega)); exact rfl)) | (with_reducible refine AWo.nil ?_) | ((with_reducible apply Then.n)) | ((with_reducible apply AW.regL)) | ((with_reducible apply InBlk.n))))
      exact ⟨_, [(0, .pointer (some ⟨xb, 0, none⟩)), (6, u), (8, r'), (9, .int .i64 (((j : Nat) : Int) - 1))], by omega, (by repeat (first | exact trivial | (refine And.intro rfl ?_))), c + 1, _, rfl, by omega, by rw [ts, tcs_app]; simpa [tcs, Tr.c] using hr1, hM1, by rw [show ((l.length : Int) - 1 - ((c + 1 : Nat) : Int)) = ((j : Nat) : Int) - 1 by omega]⟩
    · obtain rfl : c = l.length := by omega
      (repeat (first | (with_reducible refine AWo.cons ?_) | ((with_reducible refine Step.id ?_); first | ((with_reducible apply Step.move); exact rfl; exact rfl) | ((with_reducible apply Step.geq); exact rfl; exact rfl; exact rfl)) | (with_reducible refine AWo.nil ?_) | ((with_reducible apply AW.seq)) | ((with_reducible apply Then.n)) | ((with_reducible apply AW.regL)) | ((with_reducible apply AW.exit)) | ((with_reducible apply Then.e)) | ((with_reducible apply AW.condF); exact rfl; (focus ((simp only [decide_eq_true_eq, decide_eq_false_iff_not, Bool.not_eq_true', Bool.not_eq_false', Bool.not_true, Bool.not_false]; first | assumption | omega))))))
      rw [List.take_of_length_le (by rw [revL_len]; exact Nat.le_refl _)] at hR
      exact ⟨rfl, r, by rw [List.append_nil]; exact hR, ⟨N, by rw [List.append_nil]⟩, (by repeat (first | exact trivial | (refine And.intro rfl ?_)))⟩
  · rintro t' M ⟨r, hR, ⟨N, rfl⟩, hsl⟩
    refine InBlk.hit ?_
    refine Then.n ?_
    refine AW.weak (fr_all hsl) ?_
    clear hsl
    refine AW.rebase ?_
    have hX := h.old N
    have hrow : Row (m ++ N) m.length 4 r (tcs (revL l)) (revL l).length := by rw [revL_len]; exact hR
    have hpo := RPost_ok (v := r) (l := revL l) hX (fun M' hF => Row.trsKeep hX.posts (fun b x hb => (hX.sep hb).1 hX.slv) hrow (by rw [List.length_append]; omega) hF) (by rw [revL_len]; omega) hP hlen hpl
    (repeat (first | (with_reducible refine AWo.cons ?_) | ((with_reducible refine Step.id ?_); ((with_reducible apply Step.move); exact rfl; exact rfl)) | ((with_reducible apply AW.seq)) | ((with_reducible apply AW.regL))))
    ((with_reducible apply Step.callF fit); exact rfl; exact Try.func44; exact rfl; exact rfl; (focus (rw [List.append_nil]; exact hpo)))
    rintro r4 M4 ⟨u4, rfl, hB4, hF4, _, _⟩
    rw [← List.append_nil M4]
    (repeat (first | (with_reducible refine AWo.cons ?_) | ((with_reducible refine Step.id ?_); first | ((with_reducible apply Step.assign); exact rfl; exact rfl) | ((with_reducible apply Step.extract); exact rfl; exact rfl; exact rfl)) | (with_reducible refine AWo.nil ?_) | ((with_reducible apply Then.n))))
    (refine AW.ret ?_; (repeat (first | refine Then.r ?_ | refine InBlk.r ?_)))
    rw [List.append_nil]
    refine ⟨_, rfl, u4, rfl, hB4, by have := hF4.1; rw [List.length_append] at this; omega, fun j hj h1 h2 => ?_⟩
    rw [hF4.2 j (by rw [List.length_append]; omega) h1 h2, List.getElem?_append_left hj]
end Go.Proofs.Ytabdnepfcohncaa.Abs
namespace Go.Proofs.Ytabdnepfcohncaa.Abs
set_option linter.unusedSimpArgs false
set_option linter.unusedVariables false
open Go.RowKit
open Go.Proofs.Ytabdnepfcohncaa.Sim
open Go.Proofs
/-- A call on one object; obj' says what stands there behind it. -/
theorem Side.one {m : AM} {ow : Nat → Nat} {M : AM} {obj obj' : Nat → AM → Prop} {f : FuncId} {args : Array Value} {i : Nat} {R : Value → Prop} (h : Side m ow M obj) (hi : i ≠ 1) (hm : ∀ k A A', MSub A A' → obj' k A → obj' k A') (he : ∀ k, k ≠ i → obj' k = obj k)
    (hc : obj i (vw (fun j => ow j = i) M) → ACall Try.prog f args (vw (fun j => ow j = i) M) (fun r M' => R r ∧ obj' i M' ∧ ∃ D : Nat → Prop, Keep D (vw (fun j => ow j = i) M) M' ∧ ∀ j, D j → ow j = i)) :
    ACall Try.prog f args M (fun r M2 => R r ∧ M.length ≤ M2.length ∧ (∀ j, j < M.length → ow j ≠ i → M2[j]? = M[j]?) ∧ Side m (asg ow M.length i) M2 obj') := by
  refine (ACall.frame (fun j => ow j = i) (hc (h.at_ i))).mono ?_
  rintro r M2 ⟨M', ⟨hR, hQ, D, hD, hDo⟩, hF⟩
  refine ⟨hR, hF.len, fun j hj hn => hF.out j hj hn, ?_⟩
  have hcl := hD.clean hDo
  refine h.call (I := fun k => k = i) hF hcl (fun e => hi e.symm) (fun j hj hn => asg_lt hj) (fun k hk => he k hk) ?_ hm
  rintro k rfl
  refine hm _ _ _ (MSub.all fun j b hj => ?_) hQ
  by_cases hl : j < M.length
  · show asg ow M.length k j = k
    rw [asg_lt hl]
    by_cases e : ow j = k
    · exact e
    · rw [hcl j hl e] at hj; cases hj
  · exact asg_ge (by omega)
end Go.Proofs.Ytabdnepfcohncaa.Abs
namespace Go.Proofs.Ytabdnepfcohncaa.Abs
set_option linter.unusedSimpArgs false
set_option linter.unusedVariables false
open Go.RowKit
open Go.Proofs.Ytabdnepfcohncaa.Sim
open Go.Proofs
theorem RDone.msub {M M' : AM} {xk xb : Nat} (h : RDone M xk xb) (hs : MSub M M') : RDone M' xk xb := by
  obtain ⟨b, h1, h2, h3, h4, h5⟩ := h
  exact ⟨b, hs.get _ _ h2 h1, h2, h3, h4, by have := hs.len; omega⟩
theorem RClerkAt.msub {M M' : AM} {xk xb : Nat} {rv mvv : Value} {K : Ck} (h : RClerkAt M xk rv mvv xb K) (hs : MSub M M') : RClerkAt M' xk rv mvv xb K :=
  ⟨hs.get _ _ rfl h.cells, h.reads.msub hs, h.row.msub hs, by have := hs.len; have := h.lb; omega, h.ar, h.am, h.dis⟩
/-- A clerk of the reference, at work or done. -/
def RCSt (M : AM) (xb xk : Nat) : Option Ck → Prop
  | none => RDone M xk xb
  | some K => ∃ rv mvv, RClerkAt M xk rv mvv xb K
theorem RCSt.msub {M M' : AM} {xb xk : Nat} {o : Option Ck} (h : RCSt M xb xk o) (hs : MSub M M') : RCSt M' xb xk o := by
  cases o with
  | none => exact RDone.msub h hs
  | some K => obtain ⟨rv, v, h⟩ := h; exact ⟨rv, v, h.msub hs⟩
theorem RClerkAt.in_ {S : Nat → Prop} {M : AM} {xk xb : Nat} {rv mvv : Value} {K : Ck} (h : RClerkAt (vw S M) xk rv mvv xb K) : ∀ i, rkD xk rv mvv i → S i := fun i hi => by
  rcases hi with rfl | hi | hi
  · exact (vw_some.1 h.cells).1
  · obtain ⟨b, hb⟩ := h.reads.at_ hi
    exact (vw_some.1 hb).1
  · obtain ⟨b, hb⟩ := h.row.at_ hi
    exact (vw_some.1 hb).1
theorem RClerkAt.vw {S : Nat → Prop} {M : AM} {xk xb : Nat} {rv mvv : Value} {K : Ck} (h : RClerkAt M xk rv mvv xb K) (hS : ∀ j, rkD xk rv mvv j → S j) : RClerkAt (Abs.vw S M) xk rv mvv xb K := by
  obtain ⟨h1, h2, h3, h4, h5, h6, h7⟩ := h
  exact ⟨vw_some.2 ⟨hS _ (.inl rfl), h1⟩, h2.vw2 fun a ha => hS a (.inr (.inl ha)), h3.vw2 fun a ha => hS a (.inr (.inr ha)), by rw [vw_len]; exact h4, h5, h6, h7⟩
set_option maxRecDepth 100000 in
theorem RMove_no {m : AM} {xk xb : Nat} (x : Tr) (h : RDone m xk xb) : ACall Try.prog 112 #[.pointer (some ⟨xk, 0, none⟩), x.v] m (Ret (.int .i64 9) m) := by
  obtain ⟨b, h1, h2, h3, h4, h5⟩ := h
  have r4 := fun T => Rd.old T (show Rd m xk (0 + 4) (.bool true) from ⟨b, h1, h4⟩)
  refine ACall.start Try.func112 rfl rfl ?_
  (repeat (first | (with_reducible refine AWo.cons ?_) | ((with_reducible refine Step.id ?_); first | ((with_reducible apply Step.move); exact rfl; exact rfl) | ((with_reducible apply Step.assign); exact rfl; exact rfl) | ((with_reducible apply Step.load); exact rfl; (focus (decide +kernel)); exact rfl; (focus (exact r4 _))) | ((with_reducible apply Step.field (k := 4)); exact rfl; (focus (decide +kernel)); exact rfl) | ((with_reducible apply Step.nilp); exact rfl; exact rfl) | ((with_reducible apply Step.box 0); exact rfl; exact rfl; (focus (kernel_rfl)); exact rfl; (focus (first | (simp only [List.nil_append, List.cons_append, List.set_cons_zero, List.set_cons_succ, iv_set, bv_set, iv_rep, bv_rep]; done) | (simp only [List.nil_append, List.cons_append, List.set_cons_zero, List.set_cons_succ, iv_set, bv_set, iv_rep, bv_rep]; rfl) | rfl)))) | (with_reducible refine AWo.nil ?_) | ((with_reducible apply AW.seq)) | ((with_reducible apply Then.n)) | ((with_reducible apply AW.regL)) | ((with_reducible apply AW.block)) | ((with_reducible apply AW.condT); exact rfl; (focus (rfl)))))
  (refine AW.retD (l := [(4, _)]) (by repeat (first | exact trivial | (refine And.intro ⟨rfl, by (exact .int _ _)⟩ ?_))) ?_; (repeat (first | refine Then.r ?_ | refine InBlk.r ?_)))
  exact ⟨_, rfl, rfl, rfl⟩
/-- A clerk of either kind. -/
structure Ob where
  rf : Bool
  pl : Nat
  o : Option Ck
def Ob.st (A : AM) (bk xb : Nat) (x : Ob) : Prop := if x.rf = true then RCSt A xb x.pl x.o else CSt A bk x.pl x.o
theorem Ob.st_msub {M M' : AM} {bk xb : Nat} {x : Ob} (h : x.st M bk xb) (hs : MSub M M') : x.st M' bk xb := by
  unfold Ob.st at h ⊢
  split
  · rename_i e; rw [if_pos e] at h; exact h.msub hs
  · rename_i e; rw [if_neg e] at h; exact h.msub hs
/-- The row of pairs. -/
def prc (ps : List (Nat × Nat)) : List Value := ps.flatMap fun x => [.pointer (some ⟨x.1, 0, none⟩), .pointer (some ⟨x.2, 0, none⟩)]
/-- The book, the row of pairs, the reference's book, the clerks. -/
def bobj (n0 bk : Nat) (B : Bk) (xb : Nat) (P : List (List Tr)) (av : Value) (ps : List (Nat × Nat)) (os : List Ob) : Nat → AM → Prop
  | 0, A => ∃ pv, BookAt A 0 bk B pv
  | 1, A => Row A n0 2 av (prc ps) ps.length
  | 2, A => ∃ pv, RBook A n0 xb P pv
  | k + 3, A => ∀ x, os[k]? = some x → x.st A bk xb
theorem bobj_mono {n0 bk xb : Nat} {B : Bk} {P : List (List Tr)} {av : Value} {ps : List (Nat × Nat)} {os : List Ob} : ∀ k A A', MSub A A' → bobj n0 bk B xb P av ps os k A → bobj n0 bk B xb P av ps os k A'
  | 0, A, A', hs, ⟨pv, h⟩ => ⟨pv, h.msub hs⟩
  | 1, A, A', hs, h => Row.msub h hs
  | 2, A, A', hs, ⟨pv, h⟩ => ⟨pv, h.msub hs⟩
  | k + 3, A, A', hs, h => fun c hc => Ob.st_msub (h c hc) hs
section
variable {m : AM} {ow : Nat → Nat} {M : AM} {n0 bk xb : Nat} {B : Bk} {P : List (List Tr)} {av : Value} {ps : List (Nat × Nat)} {os : List Ob}
theorem Side.bk1 {f : FuncId} {args : Array Value} {B' : Bk} {R : Value → Prop} (h : Side m ow M (bobj n0 bk B xb P av ps os)) (hc : ∀ pv, BookAt (vw (fun j => ow j = 0) M) 0 bk B pv → ACall Try.prog f args (vw (fun j => ow j = 0) M) (BkQ R B' bk pv (vw (fun j => ow j = 0) M))) :
    ACall Try.prog f args M (fun r M2 => R r ∧ M.length ≤ M2.length ∧ (∀ j, j < M.length → ow j ≠ 0 → M2[j]? = M[j]?) ∧ Side m (asg ow M.length 0) M2 (bobj n0 bk B' xb P av ps os)) := by
  refine h.one (i := 0) (by decide) bobj_mono (fun k hk => ?_) (fun hB => ?_)
  · rcases k with _ | _ | _ | k
    · exact absurd rfl hk
    · rfl
    · rfl
    · rfl
  · obtain ⟨pv, hB⟩ := hB
    refine (hc pv hB).mono ?_
    rintro r M' ⟨hR, u, hB', hk⟩
    exact ⟨hR, ⟨u, hB'⟩, bkD bk pv, hk, hB.in_⟩
/-- What a call says of the reference's book. -/
def RbQ (R : Value → Prop) (n0 : Nat) (P' : List (List Tr)) (xb : Nat) (pv : Value) (m : AM) (r : Value) (M' : AM) : Prop := R r ∧ ∃ u, RBook M' n0 xb P' u ∧ Keep (bkD xb pv) m M'
theorem Side.rf1 {f : FuncId} {args : Array Value} {P' : List (List Tr)} {R : Value → Prop} (h : Side m ow M (bobj n0 bk B xb P av ps os)) (hc : ∀ pv, RBook (vw (fun j => ow j = 2) M) n0 xb P pv → ACall Try.prog f args (vw (fun j => ow j = 2) M) (RbQ R n0 P' xb pv (vw (fun j => ow j = 2) M))) :
    ACall Try.prog f args M (fun r M2 => R r ∧ M.length ≤ M2.length ∧ (∀ j, j < M.length → ow j ≠ 2 → M2[j]? = M[j]?) ∧ Side m (asg ow M.length 2) M2 (bobj n0 bk B xb P' av ps os)) := by
  refine h.one (i := 2) (by decide) bobj_mono (fun k hk => ?_) (fun hB => ?_)
  · rcases k with _ | _ | _ | k
    · rfl
    · rfl
    · exact absurd rfl hk
    · rfl
  · obtain ⟨pv, hB⟩ := hB
    refine (hc pv hB).mono ?_
    rintro r M' ⟨hR, u, hB', hk⟩
    exact ⟨hR, ⟨u, hB'⟩, bkD xb pv, hk, hB.in_⟩
theorem bobj_set {k : Nat} {x y : Ob} (hk : os[k]? = some x) : ∀ i, i ≠ k + 3 → bobj n0 bk B xb P av ps (os.set k y) i = bobj n0 bk B xb P av ps os i := fun i hi => by
  have hkl := (List.getElem?_eq_some_iff.1 hk).1
  rcases i with _ | _ | _ | i
  · rfl
  · rfl
  · rfl
  · funext A
    show (∀ c, (os.set k y)[i]? = some c → _) = (∀ c, os[i]? = some c → _)
    rw [set_getT hkl, if_neg (by omega)]
theorem bobj_new {y : Ob} : ∀ i, i ≠ os.length + 3 → bobj n0 bk B xb P av ps (os ++ [y]) i = bobj n0 bk B xb P av ps os i := fun i hi => by
  rcases i with _ | _ | _ | i
  · rfl
  · rfl
  · rfl
  · funext A
    show (∀ c, (os ++ [y])[i]? = some c → _) = (∀ c, os[i]? = some c → _)
    rcases Nat.lt_or_ge i os.length with hl | hl
    · rw [List.getElem?_append_left hl]
    · rw [List.getElem?_eq_none (by simp; omega), List.getElem?_eq_none hl]
theorem Side.ob1 {f : FuncId} {args : Array Value} {k : Nat} {x : Ob} {o' : Option Ck} {R : Value → Prop} (h : Side m ow M (bobj n0 bk B xb P av ps os)) (hk : os[k]? = some x)
    (hc : x.st (vw (fun j => ow j = k + 3) M) bk xb → ACall Try.prog f args (vw (fun j => ow j = k + 3) M) (fun r M' => R r ∧ (Ob.mk x.rf x.pl o').st M' bk xb ∧ ∃ D : Nat → Prop, Keep D (vw (fun j => ow j = k + 3) M) M' ∧ ∀ j, D j → ow j = k + 3)) :
    ACall Try.prog f args M (fun r M2 => R r ∧ M.length ≤ M2.length ∧ (∀ j, j < M.length → ow j ≠ k + 3 → M2[j]? = M[j]?) ∧ Side m (asg ow M.length (k + 3)) M2 (bobj n0 bk B xb P av ps (os.set k ⟨x.rf, x.pl, o'⟩))) := by
  have hkl := (List.getElem?_eq_some_iff.1 hk).1
  refine h.one (i := k + 3) (by omega) bobj_mono (bobj_set hk) (fun hB => ?_)
  refine (hc (hB x hk)).mono ?_
  rintro r M' ⟨hR, hC, D, hD⟩
  refine ⟨hR, fun c hcc => ?_, D, hD⟩
  rw [set_getT hkl, if_pos rfl] at hcc
  injection hcc with hcc
  subst hcc
  exact hC
/-- A clerk of the program commits. -/
theorem Side.pcommit {k ck : Nat} {K : Ck} (h : Side m ow M (bobj n0 bk B xb P av ps os)) (hk : os[k]? = some ⟨false, ck, some K⟩) (hK : OKK K) (hbd : Bd B.H 1000000000) (hpl : B.P.length ≤ 1000000) :
    ACall Try.prog 41 #[.pointer (some ⟨ck, 0, none⟩)] M (fun r M2 => ∃ ow', r = .tuple #[.int .i64 (coF K B).1, .int .i64 (coF K B).2.1] ∧ M.length ≤ M2.length ∧ (∀ j, j < M.length → ow j = 1 → M2[j]? = M[j]? ∧ ow' j = 1) ∧ Side m ow' M2 (bobj n0 bk (coF K B).2.2 xb P av ps (os.set k ⟨false, ck, none⟩))) := by
  have hkl := (List.getElem?_eq_some_iff.1 hk).1
  obtain ⟨pv, hB⟩ := h.at_ 0
  obtain ⟨q, mvv, hC⟩ : CSt _ bk ck (some K) := h.at_ (k + 3) _ hk
  have hBv : BookAt (vw (fun j => ow j = 0 ∨ ow j = k + 3) M) 0 bk B pv := hB.msub (Sub.vws (fun i e => .inl e) M).m
  have hCv : ClerkAt (vw (fun j => ow j = 0 ∨ ow j = k + 3) M) ck q mvv bk K := hC.msub (Sub.vws (fun i e => .inr e) M).m
  have iB := hB.in_
  have iC := hC.in_
  have sep : ∀ j, ckD ck q mvv j → ¬ bkD bk pv j := fun j h1 h2 => by have e1 : ow j = k + 3 := iC j h1; have e2 : ow j = 0 := iB j h2; omega
  have s1 : ck ≠ bk := fun e => sep ck (.inl rfl) (.inl e)
  have s2 : NotOf pv ck := Classical.byContradiction fun e => sep ck (.inl rfl) (.inr e)
  have s3 : q ≠ bk := fun e => sep q (.inr (.inl rfl)) (.inl e)
  have s4 : NotOf pv q := Classical.byContradiction fun e => sep q (.inr (.inl rfl)) (.inr e)
  have s5 : ∀ j, ¬ NotOf mvv j → j ≠ bk ∧ NotOf pv j := fun j hj => ⟨fun e => sep j (.inr (.inr hj)) (.inl e), Classical.byContradiction fun e => sep j (.inr (.inr hj)) (.inr e)⟩
  refine (ACall.frame (fun j => ow j = 0 ∨ ow j = k + 3) (Commit_ok hBv hCv hK.dn s1 s2 s3 s4 s5 hK.seen hK.ok hK.n hbd hpl)).mono ?_
  rintro r M2 ⟨M', ⟨u, hr, hB', hD', hkp, _, _⟩, hF⟩
  have hcl : ∀ i, i < M.length → ¬ (ow i = 0 ∨ ow i = k + 3) → M'[i]? = some none := hkp.clean (by
    rintro i (rfl | rfl | e)
    · exact .inr (iC _ (.inl rfl))
    · exact .inr (iC _ (.inr (.inl rfl)))
    · exact .inl (iB _ e))
  have hcko : ow ck = k + 3 := iC _ (.inl rfl)
  have hckl : ck < M.length := by
    have := hC.lt
    rw [vw_len] at this
    exact this
  refine ⟨fun j => if j = ck then k + 3 else if j < M.length ∧ ¬ (ow j = 0 ∨ ow j = k + 3) then ow j else 0, hr, hF.len, fun j hj hn => ⟨hF.out j hj (by rw [hn]; omega), ?_⟩, ?_⟩
  · show (if j = ck then k + 3 else if j < M.length ∧ ¬ (ow j = 0 ∨ ow j = k + 3) then ow j else 0) = 1
    rw [if_neg (fun e => by rw [e, hcko] at hn; omega), if_pos ⟨hj, by rw [hn]; omega⟩]
    exact hn
  · refine h.call (I := fun i => i = 0 ∨ i = k + 3) hF hcl (by omega) (fun j hj hn => ?_) (fun i hi => ?_) ?_ bobj_mono
    · show (if j = ck then k + 3 else if j < M.length ∧ ¬ (ow j = 0 ∨ ow j = k + 3) then ow j else 0) = ow j
      rw [if_neg (fun e => hn (.inr (by rw [e]; exact hcko))), if_pos ⟨hj, hn⟩]
    · rw [bobj_set hk i (fun e => hi (.inr e))]
      rcases i with _ | _ | _ | i
      · exact absurd (.inl rfl) hi
      · rfl
      · rfl
      · rfl
    · rintro i (rfl | rfl)
      · obtain ⟨b, w1, w2, w3, w4, w5⟩ := hD'
        refine ⟨u, hB'.without w1 w3 fun i hi hx => ?_⟩
        obtain ⟨c, hx⟩ := hx
        show (if i = ck then k + 3 else if i < M.length ∧ ¬ (ow i = 0 ∨ ow i = k + 3) then ow i else 0) = 0
        rw [if_neg hi, if_neg]
        rintro ⟨a1, a2⟩
        rw [hcl i a1 a2] at hx
        cases hx
      · intro c hcc
        rw [set_getT hkl, if_pos rfl] at hcc
        injection hcc with hcc
        subst hcc
        obtain ⟨b, w1, w2, w3, w4, w5⟩ := hD'
        exact ⟨b, vw_some.2 ⟨if_pos rfl, w1⟩, w2, w3, w4, by rw [vw_len]; exact w5⟩
theorem RBook.without {M : AM} {b0 xb xk : Nat} {P : List (List Tr)} {pv : Value} {b : Blk} {p : Option Addr} (h : RBook M b0 xb P pv) (hc : M[xk]? = some (some b)) (hp : b.cells[0]? = some (.pointer p)) {S : Nat → Prop} (hS : ∀ i, i ≠ xk → (∃ c, M[i]? = some (some c)) → S i) : RBook (vw S M) b0 xb P pv := by
  have ne : ∀ (i : Nat) (c : Blk), M[i]? = some (some c) → c.cells[0]? ≠ some (.pointer p) → S i := fun i c hi hn => hS i (fun e => by
    rw [e, hc] at hi
    simp only [Option.some.injEq] at hi
    exact hn (hi ▸ hp)) ⟨c, hi⟩
  have hsl := h.slv
  obtain ⟨h1, h2, pc, h5, h6⟩ := h
  refine ⟨h1, vw_some.2 ⟨ne _ _ h2 (by rcases hsl with rfl | ⟨_, _, _, rfl⟩ <;> simp), h2⟩, pc, ?_, fun k hk => ?_⟩
  · rcases h5 with h5 | ⟨a, kd, sz, q1, q2, q3, q4, q5⟩
    · exact .inl h5
    · refine .inr ⟨a, kd, sz, q1, q2, vw_some.2 ⟨ne _ _ q3 (fun e => ?_), q3⟩, q4, q5⟩
      have h0 : 0 < P.length := by
        have := (List.getElem?_eq_some_iff.1 e).1
        simp only at this
        omega
      obtain ⟨u, w1, a', _, _, w2, _⟩ := h6 0 h0
      simp only at e
      rw [w1, w2] at e
      cases e
  · obtain ⟨u, k1, a, w1, w2, w3, ⟨c, w4, w5, w6⟩, w7⟩ := h6 k hk
    refine ⟨u, k1, a, w1, by rw [vw_len]; exact w2, w3, ⟨c, vw_some.2 ⟨ne _ _ w4 (fun e => ?_), w4⟩, w5, w6⟩, w7⟩
    have := w6 0 (.int .i64 ((P.getD k []).getD 0 default).i) (by simpa using tcs_get (P.getD k []) 0 w7 0 _ rfl)
    rw [Nat.zero_add, e] at this
    cases this
/-- A clerk of the reference commits. -/
theorem Side.rcommit {k xk : Nat} {K : Ck} (h : Side m ow M (bobj n0 bk B xb P av ps os)) (hk : os[k]? = some ⟨true, xk, some K⟩) (hd : K.done = false) (hsl : K.seen.length ≤ 1000000) (hmv : K.mv.length ≤ 16) (hP : smallT P.flatten) (hlen : P.flatten.length ≤ 100000000) (hpl : P.length ≤ 1000000) :
    ACall Try.prog 113 #[.pointer (some ⟨xk, 0, none⟩)] M (fun r M2 => ∃ ow', r = .tuple #[.int .i64 (rcoF K P).1, .int .i64 (rcoF K P).2.1] ∧ M.length ≤ M2.length ∧ (∀ j, j < M.length → ow j = 1 → M2[j]? = M[j]? ∧ ow' j = 1) ∧ Side m ow' M2 (bobj n0 bk B xb (rcoF K P).2.2 av ps (os.set k ⟨true, xk, none⟩))) := by
  have hkl := (List.getElem?_eq_some_iff.1 hk).1
  obtain ⟨pv, hB⟩ := h.at_ 2
  obtain ⟨rv, mvv, hC⟩ : RCSt _ xb xk (some K) := h.at_ (k + 3) _ hk
  have hBv : RBook (vw (fun j => ow j = 2) (vw (fun j => ow j = 2 ∨ ow j = k + 3) M)) n0 xb P pv := hB.msub ⟨by rw [vw_len, vw_len, vw_len]; exact Nat.le_refl _, fun i b _ hi => by
    obtain ⟨q1, q2⟩ := vw_some.1 hi
    exact vw_some.2 ⟨q1, vw_some.2 ⟨.inl q1, q2⟩⟩⟩
  have hCv : RClerkAt (vw (fun j => ow j = 2 ∨ ow j = k + 3) M) xk rv mvv xb K := hC.msub (Sub.vws (fun i e => .inr e) M).m
  have iB := hB.in_
  have iC := hC.in_
  refine (ACall.frame (fun j => ow j = 2 ∨ ow j = k + 3) (RCommit_ok hCv hd hBv (fun j hj e => by have := iC j hj; omega) hsl hmv hP hlen hpl)).mono ?_
  rintro r M2 ⟨M', ⟨u, hr, hB', hD', hkp⟩, hF⟩
  have hcl : ∀ i, i < M.length → ¬ (ow i = 2 ∨ ow i = k + 3) → M'[i]? = some none := hkp.clean (by
    rintro i (rfl | rfl | e)
    · exact .inr (iC _ (.inl rfl))
    · exact .inl (iB _ (.inl rfl))
    · exact .inl (iB _ (.inr e)))
  have hcko : ow xk = k + 3 := iC _ (.inl rfl)
  have hckl : xk < M.length := by
    have := hC.lt
    rw [vw_len] at this
    exact this
  refine ⟨fun j => if j = xk then k + 3 else if j < M.length ∧ ¬ (ow j = 2 ∨ ow j = k + 3) then ow j else 2, hr, hF.len, fun j hj hn => ⟨hF.out j hj (by rw [hn]; omega), ?_⟩, ?_⟩
  · show (if j = xk then k + 3 else if j < M.length ∧ ¬ (ow j = 2 ∨ ow j = k + 3) then ow j else 2) = 1
    rw [if_neg (fun e => by rw [e, hcko] at hn; omega), if_pos ⟨hj, by rw [hn]; omega⟩]
    exact hn
  · refine h.call (I := fun i => i = 2 ∨ i = k + 3) hF hcl (by omega) (fun j hj hn => ?_) (fun i hi => ?_) ?_ bobj_mono
    · show (if j = xk then k + 3 else if j < M.length ∧ ¬ (ow j = 2 ∨ ow j = k + 3) then ow j else 2) = ow j
      rw [if_neg (fun e => hn (.inr (by rw [e]; exact hcko))), if_pos ⟨hj, hn⟩]
    · rw [bobj_set hk i (fun e => hi (.inr e))]
      rcases i with _ | _ | _ | i
      · rfl
      · rfl
      · exact absurd (.inl rfl) hi
      · rfl
    · rintro i (rfl | rfl)
      · obtain ⟨b, w1, w2, w3, w4, w5⟩ := hD'
        refine ⟨u, hB'.without w1 w3 fun i hi hx => ?_⟩
        obtain ⟨c, hx⟩ := hx
        show (if i = xk then k + 3 else if i < M.length ∧ ¬ (ow i = 2 ∨ ow i = k + 3) then ow i else 2) = 2
        rw [if_neg hi, if_neg]
        rintro ⟨a1, a2⟩
        rw [hcl i a1 a2] at hx
        cases hx
      · intro c hcc
        rw [set_getT hkl, if_pos rfl] at hcc
        injection hcc with hcc
        subst hcc
        obtain ⟨b, w1, w2, w3, w4, w5⟩ := hD'
        exact ⟨b, vw_some.2 ⟨if_pos rfl, w1⟩, w2, w3, w4, by rw [vw_len]; exact w5⟩
/-- A clerk of the reference reads a count. -/
theorem Side.rheld {k xk : Nat} {K : Ck} {p i : Int} (h : Side m ow M (bobj n0 bk B xb P av ps os)) (hk : os[k]? = some ⟨true, xk, some K⟩) (hd : K.done = false) (hin : inB p i = true) (hsl : K.seen.length ≤ 1000000) (hmv : K.mv.length ≤ 16) (hat : K.at_ ≤ P.length) (hP : smallT P.flatten) (hmo : smallT K.mv) (hlen : P.flatten.length ≤ 100000000) (hpl : P.length ≤ 1000000) :
    ACall Try.prog 111 #[.pointer (some ⟨xk, 0, none⟩), .int .i64 p, .int .i64 i] M (fun r M2 => ∃ ow', r = .tuple #[.int .i64 (hsum p i ((P.take K.at_).flatten ++ K.mv)), .int .i64 0] ∧ M.length ≤ M2.length ∧ (∀ j, j < M.length → ow j = 1 → M2[j]? = M[j]? ∧ ow' j = 1) ∧ Side m ow' M2 (bobj n0 bk B xb P av ps (os.set k ⟨true, xk, some { K with seen := (p, i) :: K.seen }⟩))) := by
  have hkl := (List.getElem?_eq_some_iff.1 hk).1
  obtain ⟨pv, hB⟩ := h.at_ 2
  obtain ⟨rv, mvv, hC⟩ : RCSt _ xb xk (some K) := h.at_ (k + 3) _ hk
  have hBv : RBook (vw (fun j => ow j = 2) (vw (fun j => ow j = 2 ∨ ow j = k + 3) M)) n0 xb P pv := hB.msub ⟨by rw [vw_len, vw_len, vw_len]; exact Nat.le_refl _, fun i b _ hi => by
    obtain ⟨q1, q2⟩ := vw_some.1 hi
    exact vw_some.2 ⟨q1, vw_some.2 ⟨.inl q1, q2⟩⟩⟩
  have hCv : RClerkAt (vw (fun j => ow j = 2 ∨ ow j = k + 3) M) xk rv mvv xb K := hC.msub (Sub.vws (fun i e => .inr e) M).m
  have iC := hC.in_
  refine (ACall.frame (fun j => ow j = 2 ∨ ow j = k + 3) (RHeldC_ok hCv hd hin hBv (fun j hj e => by have := iC j hj; omega) hsl hmv hat hP hmo hlen hpl)).mono ?_
  rintro r M2 ⟨M', ⟨rv', hr, hC', hkp, hrv⟩, hF⟩
  have hcl : ∀ i, i < M.length → ¬ (ow i = 2 ∨ ow i = k + 3) → M'[i]? = some none := hkp.clean fun i hi => .inr (iC i hi)
  refine ⟨asg ow M.length (k + 3), hr, hF.len, fun j hj hn => ⟨hF.out j hj (by rw [hn]; omega), by rw [asg_lt hj]; exact hn⟩, ?_⟩
  refine h.call (I := fun i => i = 2 ∨ i = k + 3) hF hcl (by omega) (fun j hj hn => asg_lt hj) (fun i hi => bobj_set hk i (fun e => hi (.inr e))) ?_ bobj_mono
  rintro i (rfl | rfl)
  · refine ⟨pv, hB.msub ⟨by rw [vw_len, vw_len]; have := hkp.len; rw [vw_len] at this; exact this, fun i b _ hi => ?_⟩⟩
    obtain ⟨q1, q2⟩ := vw_some.1 hi
    have hl := (List.getElem?_eq_some_iff.1 q2).1
    refine vw_some.2 ⟨by show asg ow M.length (k + 3) i = 2; rw [asg_lt hl]; exact q1, ?_⟩
    rw [hkp.get i (by rw [vw_len]; exact hl) (fun e => by have := iC i e; omega)]
    exact vw_some.2 ⟨.inl q1, q2⟩
  · intro c hcc
    rw [set_getT hkl, if_pos rfl] at hcc
    injection hcc with hcc
    subst hcc
    have hown : ∀ j, rkD xk rv' mvv j → asg ow M.length (k + 3) j = k + 3 := fun j hj => by
      by_cases hl : j < M.length
      · rw [asg_lt hl]
        refine iC j ?_
        rcases hj with e | e | e
        · exact .inl e
        · exact .inr (.inl fun hn => e (hrv j (by rw [vw_len]; exact hl) hn))
        · exact .inr (.inr e)
      · exact asg_ge (by omega)
    exact ⟨rv', mvv, hC'.vw hown⟩
end
end Go.Proofs.Ytabdnepfcohncaa.Abs
namespace Go.Proofs.Ytabdnepfcohncaa.Abs
set_option linter.unusedSimpArgs false
set_option linter.unusedVariables false
open Go.RowKit
open Go.Proofs.Ytabdnepfcohncaa.Sim
open Go.Proofs
/-- A clerk at work, over the posts. -/
structure KOK (P : List (List Tr)) (K : Ck) : Prop where
  okk : OKK K
  le : K.at_ ≤ P.length
  lV : K.V.length = 256
  val : ∀ p i : Nat, p < 16 → i < 16 → K.V.getD (p * 16 + i) 0 = hsum p i ((P.take K.at_).flatten ++ K.mv)
theorem KOK.grow {P : List (List Tr)} {K : Ck} (h : KOK P K) (L : List (List Tr)) : KOK (P ++ L) K :=
  ⟨h.okk, by rw [List.length_append]; have := h.le; omega, h.lV, fun p i hp hi => by rw [List.take_append_of_le_length h.le]; exact h.val p i hp hi⟩
theorem postF_grow (B : Bk) (l : List Tr) : ∃ L, (postF B l).1.P = B.P ++ L := by
  by_cases hz : (postF B l).2.2 = 0
  · exact ⟨[l], (postF_zero hz).2⟩
  · exact ⟨[], by rw [(postF_bad hz).1, List.append_nil]⟩
theorem KOK.post {B : Bk} {K : Ck} (h : KOK B.P K) (l : List Tr) : KOK (postF B l).1.P K := by
  obtain ⟨L, e⟩ := postF_grow B l
  rw [e]; exact h.grow L
theorem KOK.new {B : Bk} (h : Good B) : KOK B.P ⟨B.P.length, B.H, [], [], false⟩ :=
  ⟨⟨rfl, Nat.zero_le _, rfl, h.bd.le (by simp), fun x hx => absurd hx List.not_mem_nil⟩, Nat.le_refl _, h.lH, fun p i hp hi => by simp only [List.take_length, List.append_nil]; exact h.H p i hp hi⟩
theorem KOK.move {P : List (List Tr)} {K : Ck} (h : KOK P K) (x : Tr) : KOK P (moF K x).2 := by
  have ho := h.okk.moF x
  unfold moF at ho ⊢
  rw [if_neg (by rw [h.okk.dn]; simp)] at ho ⊢
  by_cases hx : okT x = true
  · rw [if_pos hx] at ho ⊢
    by_cases h16 : 16 ≤ K.mv.length
    · rw [if_pos h16]; exact h
    · rw [if_neg h16] at ho ⊢
      refine ⟨ho, h.le, by show (wth1 K.V x).length = 256; rw [wth1_len, h.lV], fun p i hp hi => ?_⟩
      show (wth1 K.V x).getD (p * 16 + i) 0 = hsum p i ((P.take K.at_).flatten ++ (K.mv ++ [x]))
      rw [wth1_get h.lV hx hp hi, h.val p i hp hi, ← List.append_assoc, hsum_app p i (_ ++ K.mv) [x], hsum_one]
  · rw [if_neg hx]; exact h
theorem KOK.held {P : List (List Tr)} {K : Ck} (h : KOK P K) (p i : Int) : KOK P (chF K p i).2.2 := by
  have ho := h.okk.chF p i
  unfold chF at ho ⊢
  rw [if_neg (by rw [h.okk.dn]; simp)] at ho ⊢
  by_cases hi : inB p i = true
  · rw [if_pos hi] at ho ⊢
    exact ⟨ho, h.le, h.lV, h.val⟩
  · rw [if_neg hi]; exact h
theorem KOK.seen {P : List (List Tr)} {K : Ck} (h : KOK P K) (p i : Int) : (chF K p i).2.2.seen.length ≤ K.seen.length + 1 := by
  unfold chF
  rw [if_neg (by rw [h.okk.dn]; simp)]
  split
  · simp
  · simp
theorem KOK.chF_out {P : List (List Tr)} {K : Ck} (h : KOK P K) {p i : Int} (hi : inB p i = false) : chF K p i = (0, 2, K) := by
  unfold chF
  rw [if_neg (by rw [h.okk.dn]; simp), if_neg (by rw [hi]; simp)]
theorem KOK.chF_in {P : List (List Tr)} {K : Ck} (h : KOK P K) {p i : Int} (hi : inB p i = true) : chF K p i = (hsum p i ((P.take K.at_).flatten ++ K.mv), 0, { K with seen := (p, i) :: K.seen }) := by
  unfold Abs.chF
  rw [if_neg (by rw [h.okk.dn]; simp), if_pos hi]
  simp only [inB, decide_eq_true_eq] at hi
  obtain ⟨x1, x2, x3, x4⟩ := hi
  obtain ⟨p, rfl⟩ := Int.eq_ofNat_of_zero_le x1
  obtain ⟨i, rfl⟩ := Int.eq_ofNat_of_zero_le x3
  simp only [Int.toNat_natCast]
  rw [h.val p i (by omega) (by omega)]
theorem kyL_in {l : List Tr} (hl : l.all okT = true) : ∀ x ∈ kyL l, inB x.1 x.2 = true := fun x hx => by
  simp only [kyL, List.mem_flatMap, List.mem_cons, List.not_mem_nil, or_false] at hx
  obtain ⟨t, ht, e⟩ := hx
  obtain ⟨i, f, u, e1, e2, e3, l1, l2, l3⟩ := okT_in hl ht
  rcases e with rfl | rfl <;> simp only [inB, decide_eq_true_eq, e1, e2, e3] <;> omega
theorem cAt_eq {B : Bk} (h : Good B) {x : Int × Int} (hi : inB x.1 x.2 = true) : cAt B x = (rchgF B.P x.1 x.2).1 := by
  have := chg_eq h x.1 x.2
  unfold lookF at this
  rw [if_pos hi] at this
  rw [← this]
  rfl
theorem any_congrX {α : Type} {f g : α → Bool} : ∀ {l : List α}, (∀ x ∈ l, f x = g x) → l.any f = l.any g
  | [], _ => rfl
  | x :: l, h => by
    rw [List.any_cons, List.any_cons, h x List.mem_cons_self, any_congrX fun y hy => h y (List.mem_cons_of_mem _ hy)]
theorem stale_eq {B : Bk} (h : Good B) {K : Ck} (hK : OKK K) : stale K B = rstale K B.P := by
  unfold stale rstale
  rw [List.any_append, List.any_append, List.any_reverse]
  have e1 : (K.seen.any fun x => decide ((K.at_ : Int) < cAt B x)) = K.seen.any fun x => decide ((K.at_ : Int) < (rchgF B.P x.1 x.2).1) := any_congrX fun x hx => by rw [cAt_eq h (hK.seen x hx)]
  have e2 : ((kyL K.mv).any fun x => decide ((K.at_ : Int) < cAt B x)) = (kyL K.mv).any fun x => decide ((K.at_ : Int) < (rchgF B.P x.1 x.2).1) := any_congrX fun x hx => by rw [cAt_eq h (kyL_in hK.ok x hx)]
  rw [e1, e2]
theorem commit_eq {B : Bk} (h : Good B) {K : Ck} (hK : OKK K) : (coF K B).1 = (rcoF K B.P).1 ∧ (coF K B).2.1 = (rcoF K B.P).2.1 ∧ (coF K B).2.2.P = (rcoF K B.P).2.2 := by
  unfold coF rcoF
  rw [stale_eq h hK]
  split
  · exact ⟨rfl, rfl, rfl⟩
  · split
    · exact ⟨rfl, rfl, rfl⟩
    · have := post_eq h K.mv
      exact ⟨by rw [this.1], by rw [this.1], this.2⟩
theorem coF_grow (K : Ck) (B : Bk) : ∃ L, (coF K B).2.2.P = B.P ++ L := by
  unfold coF
  split
  · exact ⟨[], by simp⟩
  · split
    · exact ⟨[], by simp⟩
    · exact postF_grow B _
/-- Behind calls that left the law's blocks as they were. -/
def Lft (m : AM) (ow : Nat → Nat) (M M2 : AM) (obj : Nat → AM → Prop) : Prop := ∃ ow', M.length ≤ M2.length ∧ (∀ j, j < M.length → ow j = 1 → M2[j]? = M[j]? ∧ ow' j = 1) ∧ Side m ow' M2 obj
theorem Lft.of {m M M2 : AM} {ow : Nat → Nat} {obj : Nat → AM → Prop} {i : Nat} (hi : i ≠ 1) (h : M.length ≤ M2.length ∧ (∀ j, j < M.length → ow j ≠ i → M2[j]? = M[j]?) ∧ Side m (asg ow M.length i) M2 obj) : Lft m ow M M2 obj :=
  ⟨asg ow M.length i, h.1, fun j hj hn => ⟨h.2.1 j hj (by rw [hn]; exact fun e => hi e.symm), by rw [asg_lt hj]; exact hn⟩, h.2.2⟩
theorem Lft.trans {m M M2 M3 : AM} {ow ow1 : Nat → Nat} {obj : Nat → AM → Prop} (h1 : M.length ≤ M2.length) (h2 : ∀ j, j < M.length → ow j = 1 → M2[j]? = M[j]? ∧ ow1 j = 1) (h : Lft m ow1 M2 M3 obj) : Lft m ow M M3 obj := by
  obtain ⟨ow2, q1, q2, q3⟩ := h
  refine ⟨ow2, by omega, fun j hj hn => ?_, q3⟩
  obtain ⟨e1, e2⟩ := h2 j hj hn
  obtain ⟨f1, f2⟩ := q2 j (by omega) e2
  exact ⟨by rw [f1, e1], f2⟩
theorem ClerkAt.doneC {M : AM} {ck q bk : Nat} {mvv : Value} {K : Ck} (h : ClerkAt M ck q mvv bk K) (hd : K.done = true) : DoneC M ck bk := by
  refine ⟨_, h.cells, rfl, ckc_0, ?_, h.lb⟩
  show (ckc bk K.at_ K.V q mvv K.done)[260]? = _
  rw [ckc_d h.lV, hd]
section
variable {m : AM} {ow : Nat → Nat} {M : AM} {n0 bk xb : Nat} {B : Bk} {P : List (List Tr)} {av : Value} {ps : List (Nat × Nat)} {os : List Ob} {k : Nat} {o : Option Ck}
theorem Side.pHeld {ck : Nat} (h : Side m ow M (bobj n0 bk B xb P av ps os)) (hk : os[k]? = some ⟨false, ck, o⟩) (p i : Int) :
    ACall Try.prog 31 #[.pointer (some ⟨ck, 0, none⟩), .int .i64 p, .int .i64 i] M (fun r M2 => r = .tuple #[.int .i64 (heR o p i).1, .int .i64 (heR o p i).2] ∧ Lft m ow M M2 (bobj n0 bk B xb P av ps (os.set k ⟨false, ck, heO o p i⟩))) := by
  refine ACall.mono (h.ob1 (o' := heO o p i) (R := fun r => r = .tuple #[.int .i64 (heR o p i).1, .int .i64 (heR o p i).2]) hk fun hC => ?_) fun r M2 ⟨h1, h2⟩ => ⟨h1, Lft.of (by omega) h2⟩
  cases o with
  | none =>
    refine (Held_done p i hC).mono ?_
    rintro r M' ⟨rfl, rfl⟩
    exact ⟨rfl, hC, fun _ => False, Keep.refl _ _, fun _ h => h.elim⟩
  | some K =>
    obtain ⟨q, mvv, hC⟩ : ∃ q mvv, ClerkAt _ ck q mvv bk K := hC
    refine (CHeld_ok p i hC).mono ?_
    rintro r M' ⟨rfl, hC', hkp⟩
    exact ⟨rfl, ⟨q, mvv, hC'⟩, (· = q), hkp, fun j hj => hC.in_ j (.inr (.inl hj))⟩
theorem Side.pMove {ck : Nat} (h : Side m ow M (bobj n0 bk B xb P av ps os)) (hk : os[k]? = some ⟨false, ck, o⟩) (ho : ∀ K, o = some K → OKK K) (x : Tr) :
    ACall Try.prog 33 #[.pointer (some ⟨ck, 0, none⟩), x.v] M (fun r M2 => r = .int .i64 (moE o x) ∧ Lft m ow M M2 (bobj n0 bk B xb P av ps (os.set k ⟨false, ck, moO o x⟩))) := by
  refine ACall.mono (h.ob1 (o' := moO o x) (R := fun r => r = .int .i64 (moE o x)) hk fun hC => ?_) fun r M2 ⟨h1, h2⟩ => ⟨h1, Lft.of (by omega) h2⟩
  cases o with
  | none =>
    refine (Move_done (bk := bk) x hC).mono ?_
    rintro r M' ⟨rfl, N, rfl⟩
    exact ⟨rfl, CSt.msub (o := none) hC (Sub.app _ N).m, fun _ => False, Keep.app _ _ _, fun _ h => h.elim⟩
  | some K =>
    obtain ⟨q, mvv, hC⟩ : ∃ q mvv, ClerkAt _ ck q mvv bk K := hC
    have hK := ho K rfl
    refine (Move_ok hC hK.bd (by have := hK.n; omega)).mono ?_
    rintro r M' ⟨mvv', rfl, hC', hkp, _⟩
    exact ⟨rfl, ⟨q, mvv', hC'⟩, ckD ck q mvv, hkp, fun j hj => hC.in_ j hj⟩
def drR (o : Option Ck) : Int := match o with
  | none => 9
  | some _ => 0
theorem Side.pDrop {ck : Nat} (h : Side m ow M (bobj n0 bk B xb P av ps os)) (hk : os[k]? = some ⟨false, ck, o⟩) (ho : ∀ K, o = some K → OKK K) :
    ACall Try.prog 69 #[.pointer (some ⟨ck, 0, none⟩)] M (fun r M2 => r = .int .i64 (drR o) ∧ Lft m ow M M2 (bobj n0 bk B xb P av ps (os.set k ⟨false, ck, none⟩))) := by
  refine ACall.mono (h.ob1 (o' := none) (R := fun r => r = .int .i64 (drR o)) hk fun hC => ?_) fun r M2 ⟨h1, h2⟩ => ⟨h1, Lft.of (by omega) h2⟩
  cases o with
  | none =>
    refine (Drop_done (bk := bk) hC).mono ?_
    rintro r M' ⟨rfl, rfl⟩
    exact ⟨rfl, hC, fun _ => False, Keep.refl _ _, fun _ h => h.elim⟩
  | some K =>
    obtain ⟨q, mvv, hC⟩ : ∃ q mvv, ClerkAt _ ck q mvv bk K := hC
    refine (CDrop_ok hC).mono ?_
    rintro r M' ⟨rfl, hC', hkp⟩
    exact ⟨by rw [busyF, (ho K rfl).dn]; rfl, hC'.doneC rfl, (· = ck), hkp, fun j hj => hC.in_ j (.inl hj)⟩
theorem Side.pCommit {ck : Nat} (h : Side m ow M (bobj n0 bk B xb P av ps os)) (hk : os[k]? = some ⟨false, ck, o⟩) (ho : ∀ K, o = some K → OKK K) (hbd : Bd B.H 1000000000) (hpl : B.P.length ≤ 1000000) :
    ACall Try.prog 41 #[.pointer (some ⟨ck, 0, none⟩)] M (fun r M2 => r = .tuple #[.int .i64 (cmR o B).1, .int .i64 (cmR o B).2] ∧ Lft m ow M M2 (bobj n0 bk (cmB o B) xb P av ps (os.set k ⟨false, ck, none⟩))) := by
  cases o with
  | none =>
    refine ACall.mono (h.ob1 (o' := none) (R := fun r => r = .tuple #[.int .i64 0, .int .i64 9]) hk fun hC => ?_) fun r M2 ⟨h1, h2⟩ => ⟨h1, Lft.of (by omega) h2⟩
    refine (Commit_done (bk := bk) hC).mono ?_
    rintro r M' ⟨rfl, rfl⟩
    exact ⟨rfl, hC, fun _ => False, Keep.refl _ _, fun _ h => h.elim⟩
  | some K =>
    refine (h.pcommit hk (ho K rfl) hbd hpl).mono ?_
    rintro r M2 ⟨ow', e1, e2, e3, e4⟩
    exact ⟨e1, ow', e2, e3, e4⟩
theorem Side.rHeld {xk : Nat} (h : Side m ow M (bobj n0 bk B xb P av ps os)) (hk : os[k]? = some ⟨true, xk, o⟩) (ho : ∀ K, o = some K → KOK P K ∧ K.seen.length ≤ 1000000) (p i : Int) (hP : smallT P.flatten) (hlen : P.flatten.length ≤ 100000000) (hpl : P.length ≤ 1000000) :
    ACall Try.prog 111 #[.pointer (some ⟨xk, 0, none⟩), .int .i64 p, .int .i64 i] M (fun r M2 => r = .tuple #[.int .i64 (heR o p i).1, .int .i64 (heR o p i).2] ∧ Lft m ow M M2 (bobj n0 bk B xb P av ps (os.set k ⟨true, xk, heO o p i⟩))) := by
  cases o with
  | none =>
    refine ACall.mono (h.ob1 (o' := none) (R := fun r => r = .tuple #[.int .i64 0, .int .i64 9]) hk fun hC => ?_) fun r M2 ⟨h1, h2⟩ => ⟨h1, Lft.of (by omega) h2⟩
    refine (RHeldC_no (xb := xb) p i hC).mono ?_
    rintro r M' ⟨rfl, rfl⟩
    exact ⟨rfl, hC, fun _ => False, Keep.refl _ _, fun _ h => h.elim⟩
  | some K =>
    obtain ⟨hK, hs⟩ := ho K rfl
    have e0 : heO (some K) p i = some (chF K p i).2.2 := rfl
    have e1 : heR (some K) p i = ((chF K p i).1, (chF K p i).2.1) := rfl
    rw [e0, e1]
    cases hin : inB p i with
    | false =>
      rw [hK.chF_out hin]
      refine ACall.mono (h.ob1 (o' := some K) (R := fun r => r = .tuple #[.int .i64 0, .int .i64 2]) hk fun hC => ?_) fun r M2 ⟨h1, h2⟩ => ⟨h1, Lft.of (by omega) h2⟩
      obtain ⟨rv, mvv, hC⟩ : ∃ rv mvv, RClerkAt _ xk rv mvv xb K := hC
      refine (RHeldC_bad hC hK.okk.dn hin).mono ?_
      rintro r M' ⟨rfl, rfl⟩
      exact ⟨rfl, ⟨rv, mvv, hC⟩, fun _ => False, Keep.refl _ _, fun _ h => h.elim⟩
    | true =>
      rw [hK.chF_in hin]
      refine (h.rheld hk hK.okk.dn hin hs hK.okk.n hK.le hP (ok_small hK.okk.ok) hlen hpl).mono ?_
      rintro r M2 ⟨ow', e1, e2, e3, e4⟩
      exact ⟨e1, ow', e2, e3, e4⟩
theorem Side.rMove {xk : Nat} (h : Side m ow M (bobj n0 bk B xb P av ps os)) (hk : os[k]? = some ⟨true, xk, o⟩) (ho : ∀ K, o = some K → OKK K) (x : Tr) :
    ACall Try.prog 112 #[.pointer (some ⟨xk, 0, none⟩), x.v] M (fun r M2 => r = .int .i64 (moE o x) ∧ Lft m ow M M2 (bobj n0 bk B xb P av ps (os.set k ⟨true, xk, moO o x⟩))) := by
  refine ACall.mono (h.ob1 (o' := moO o x) (R := fun r => r = .int .i64 (moE o x)) hk fun hC => ?_) fun r M2 ⟨h1, h2⟩ => ⟨h1, Lft.of (by omega) h2⟩
  cases o with
  | none =>
    refine (RMove_no (xb := xb) x hC).mono ?_
    rintro r M' ⟨rfl, rfl⟩
    exact ⟨rfl, hC, fun _ => False, Keep.refl _ _, fun _ h => h.elim⟩
  | some K =>
    obtain ⟨rv, mvv, hC⟩ : ∃ rv mvv, RClerkAt _ xk rv mvv xb K := hC
    refine (RMove_ok hC (ho K rfl).n).mono ?_
    rintro r M' ⟨mvv', rfl, hC', hkp⟩
    exact ⟨rfl, ⟨rv, mvv', hC'⟩, rkD xk rv mvv, hkp, fun j hj => hC.in_ j hj⟩
theorem Side.rDrop {xk : Nat} (h : Side m ow M (bobj n0 bk B xb P av ps os)) (hk : os[k]? = some ⟨true, xk, o⟩) (ho : ∀ K, o = some K → OKK K) :
    ACall Try.prog 114 #[.pointer (some ⟨xk, 0, none⟩)] M (fun r M2 => r = .int .i64 (drR o) ∧ Lft m ow M M2 (bobj n0 bk B xb P av ps (os.set k ⟨true, xk, none⟩))) := by
  refine ACall.mono (h.ob1 (o' := none) (R := fun r => r = .int .i64 (drR o)) hk fun hC => ?_) fun r M2 ⟨h1, h2⟩ => ⟨h1, Lft.of (by omega) h2⟩
  cases o with
  | none =>
    refine (RDrop_no (xb := xb) hC).mono ?_
    rintro r M' ⟨rfl, rfl⟩
    exact ⟨rfl, hC, fun _ => False, Keep.refl _ _, fun _ h => h.elim⟩
  | some K =>
    obtain ⟨rv, mvv, hC⟩ : ∃ rv mvv, RClerkAt _ xk rv mvv xb K := hC
    refine (RDrop_ok hC (ho K rfl).dn).mono ?_
    rintro r M' ⟨rfl, hC', hkp⟩
    exact ⟨rfl, hC', rkD xk rv mvv, hkp, fun j hj => hC.in_ j hj⟩
def rcR (o : Option Ck) (P : List (List Tr)) : Int × Int := match o with
  | none => (0, 9)
  | some K => ((rcoF K P).1, (rcoF K P).2.1)
def rcP (o : Option Ck) (P : List (List Tr)) : List (List Tr) := match o with
  | none => P
  | some K => (rcoF K P).2.2
theorem Side.rCommit {xk : Nat} (h : Side m ow M (bobj n0 bk B xb P av ps os)) (hk : os[k]? = some ⟨true, xk, o⟩) (ho : ∀ K, o = some K → OKK K ∧ K.seen.length ≤ 1000000) (hP : smallT P.flatten) (hlen : P.flatten.length ≤ 100000000) (hpl : P.length ≤ 1000000) :
    ACall Try.prog 113 #[.pointer (some ⟨xk, 0, none⟩)] M (fun r M2 => r = .tuple #[.int .i64 (rcR o P).1, .int .i64 (rcR o P).2] ∧ Lft m ow M M2 (bobj n0 bk B xb (rcP o P) av ps (os.set k ⟨true, xk, none⟩))) := by
  cases o with
  | none =>
    refine ACall.mono (h.ob1 (o' := none) (R := fun r => r = .tuple #[.int .i64 0, .int .i64 9]) hk fun hC => ?_) fun r M2 ⟨h1, h2⟩ => ⟨h1, Lft.of (by omega) h2⟩
    refine (RCommit_no (xb := xb) hC).mono ?_
    rintro r M' ⟨rfl, rfl⟩
    exact ⟨rfl, hC, fun _ => False, Keep.refl _ _, fun _ h => h.elim⟩
  | some K =>
    obtain ⟨hK, hs⟩ := ho K rfl
    refine (h.rcommit hk hK.dn hs hK.n hP hlen hpl).mono ?_
    rintro r M2 ⟨ow', e1, e2, e3, e4⟩
    exact ⟨e1, ow', e2, e3, e4⟩
end
end Go.Proofs.Ytabdnepfcohncaa.Abs
namespace Go.Proofs.Ytabdnepfcohncaa.Abs
set_option linter.unusedSimpArgs false
set_option linter.unusedVariables false
open Go.RowKit
open Go.Proofs.Ytabdnepfcohncaa.Sim
open Go.Proofs
theorem glue_same {S : Nat → Prop} {m M' : AM} {i : Nat} (hi : i < m.length) (h : M'[i]? = m[i]?) : (glue S m M')[i]? = m[i]? := by
  by_cases hs : S i
  · rw [List.getElem?_eq_getElem hi]
    cases hm : m[i] with
    | none =>
      have h1 : m[i]? = some none := by rw [List.getElem?_eq_getElem hi, hm]
      rw [h1] at h
      unfold glue
      rw [List.getElem?_map, List.getElem?_range (by omega), Option.map_some, if_neg (fun e => e.2 hs), List.getD_eq_getElem?_getD, h]
      rfl
    | some b =>
      have h1 : m[i]? = some (some b) := by rw [List.getElem?_eq_getElem hi, hm]
      rw [h1] at h
      exact glue_some.2 (.inr ⟨fun e => e.2 hs, h, .inr h1⟩)
  · exact glue_out hi hs
/-- The frame, with what stays. -/
theorem ACall.frameK {P : Program} {f : FuncId} {args : Array Value} {m : AM} {Q : Value → AM → Prop} (S : Nat → Prop) (h : ACall P f args (vw S m) Q) :
    ACall P f args m (fun v M => ∃ M', Q v M' ∧ Fra S m M' M ∧ ∀ i, i < m.length → M'[i]? = m[i]? → M[i]? = m[i]?) := by
  intro base R w args' hb hm hargs
  refine (h base R w args' hb (MRep.vw hm S) hargs).mono ?_
  rintro e w' ⟨v, v', R', m', h1, h2, h3, h4⟩
  exact ⟨v, v', R', _, h1, h2, Post.glue hm h3, m', h4, Fra.of_glue S m m', fun i hi he => glue_same hi he⟩
theorem PostAt.vwN {M : AM} {b0 : Nat} {u : Value} {l : List Tr} {S : Nat → Prop} (h : PostAt M b0 u l) (hS : ∀ j, b0 ≤ j → S j) : PostAt (vw S M) b0 u l := by
  obtain ⟨a, h1, h2, h3, ⟨b, h4, h5, h6⟩, h7⟩ := h
  exact ⟨a, h1, by rw [vw_len]; exact h2, h3, ⟨b, vw_some.2 ⟨hS a h1, h4⟩, h5, h6⟩, h7⟩
theorem RBook.vwN {M : AM} {b0 xb : Nat} {P : List (List Tr)} {pv : Value} {S : Nat → Prop} (h : RBook M b0 xb P pv) (hS : ∀ j, b0 ≤ j → S j) : RBook (vw S M) b0 xb P pv := by
  obtain ⟨h1, h2, pc, h5, h6⟩ := h
  refine ⟨h1, vw_some.2 ⟨hS _ h1, h2⟩, pc, h5.vw hS, fun k hk => ?_⟩
  obtain ⟨u, k1, k2⟩ := h6 k hk
  exact ⟨u, k1, k2.vwN hS⟩
section
variable {m : AM} {ow : Nat → Nat} {M : AM} {n0 bk xb : Nat} {B : Bk} {P : List (List Tr)} {av : Value} {ps : List (Nat × Nat)} {os : List Ob}
theorem Side.pBegin (h : Side m ow M (bobj n0 bk B xb P av ps os)) :
    ACall Try.prog 30 #[.pointer (some ⟨bk, 0, none⟩)] M (fun r M2 => r = .pointer (some ⟨M.length + 1, 0, none⟩) ∧ Lft m ow M M2 (bobj n0 bk B xb P av ps (os ++ [⟨false, M.length + 1, some ⟨B.P.length, B.H, [], [], false⟩⟩]))) := by
  obtain ⟨pv, hB⟩ := h.at_ 0
  have hBv : BookAt (vw (fun j => ow j = 0 ∨ ow j = os.length + 3) M) 0 bk B pv := hB.msub (Sub.vws (fun i e => .inl e) M).m
  refine (ACall.frame (fun j => ow j = 0 ∨ ow j = os.length + 3) (Begin_ok hBv)).mono ?_
  rintro r M2 ⟨M', ⟨hr, hC, N, hN⟩, hF⟩
  rw [vw_len] at hr hC
  have hcl : ∀ i, i < M.length → ¬ (ow i = 0 ∨ ow i = os.length + 3) → M'[i]? = some none := fun i hi hn => by
    rw [hN, List.getElem?_append_left (by rw [vw_len]; exact hi), vw_out hn hi]
  refine ⟨hr, asg ow M.length (os.length + 3), hF.len, fun j hj hn => ⟨hF.out j hj (by rw [hn]; omega), by rw [asg_lt hj]; exact hn⟩, ?_⟩
  refine h.call (I := fun k => k = 0 ∨ k = os.length + 3) hF hcl (by omega) (fun j hj hn => asg_lt hj) (fun i hi => bobj_new i fun e => hi (.inr e)) ?_ bobj_mono
  rintro i (rfl | rfl)
  · refine ⟨pv, hB.msub ⟨by rw [vw_len, vw_len, hN, List.length_append, vw_len]; omega, fun i b _ hi => ?_⟩⟩
    obtain ⟨q1, q2⟩ := vw_some.1 hi
    have hl := (List.getElem?_eq_some_iff.1 q2).1
    refine vw_some.2 ⟨by show asg ow M.length _ i = 0; rw [asg_lt hl]; exact q1, ?_⟩
    rw [hN, List.getElem?_append_left (by rw [vw_len]; exact hl)]
    exact vw_some.2 ⟨.inl q1, q2⟩
  · intro c hcc
    rw [List.getElem?_append_right (Nat.le_refl _), Nat.sub_self] at hcc
    simp at hcc
    subst hcc
    refine ⟨_, _, hC.vw fun j hj => ?_⟩
    rcases hj with rfl | rfl | hj
    · exact asg_ge (by omega)
    · exact asg_ge (by omega)
    · exact absurd NotOf.nil hj
theorem Side.rBegin (h : Side m ow M (bobj n0 bk B xb P av ps os)) (V : List Int) :
    ACall Try.prog 106 #[.pointer (some ⟨xb, 0, none⟩)] M (fun r M2 => r = .pointer (some ⟨M.length, 0, none⟩) ∧ Lft m ow M M2 (bobj n0 bk B xb P av ps (os ++ [⟨true, M.length, some ⟨P.length, V, [], [], false⟩⟩]))) := by
  obtain ⟨pv, hB⟩ := h.at_ 2
  have hBv : RBook (vw (fun j => ow j = 2 ∨ ow j = os.length + 3) M) n0 xb P pv := hB.msub (Sub.vws (fun i e => .inl e) M).m
  refine (ACall.frame (fun j => ow j = 2 ∨ ow j = os.length + 3) (RBegin_ok hBv V)).mono ?_
  rintro r M2 ⟨M', ⟨hr, hC, N, hN⟩, hF⟩
  rw [vw_len] at hr hC
  have hcl : ∀ i, i < M.length → ¬ (ow i = 2 ∨ ow i = os.length + 3) → M'[i]? = some none := fun i hi hn => by
    rw [hN, List.getElem?_append_left (by rw [vw_len]; exact hi), vw_out hn hi]
  refine ⟨hr, asg ow M.length (os.length + 3), hF.len, fun j hj hn => ⟨hF.out j hj (by rw [hn]; omega), by rw [asg_lt hj]; exact hn⟩, ?_⟩
  refine h.call (I := fun k => k = 2 ∨ k = os.length + 3) hF hcl (by omega) (fun j hj hn => asg_lt hj) (fun i hi => bobj_new i fun e => hi (.inr e)) ?_ bobj_mono
  rintro i (rfl | rfl)
  · refine ⟨pv, hB.msub ⟨by rw [vw_len, vw_len, hN, List.length_append, vw_len]; omega, fun i b _ hi => ?_⟩⟩
    obtain ⟨q1, q2⟩ := vw_some.1 hi
    have hl := (List.getElem?_eq_some_iff.1 q2).1
    refine vw_some.2 ⟨by show asg ow M.length _ i = 2; rw [asg_lt hl]; exact q1, ?_⟩
    rw [hN, List.getElem?_append_left (by rw [vw_len]; exact hl)]
    exact vw_some.2 ⟨.inl q1, q2⟩
  · intro c hcc
    rw [List.getElem?_append_right (Nat.le_refl _), Nat.sub_self] at hcc
    simp at hcc
    subst hcc
    refine ⟨_, _, hC.vw fun j hj => ?_⟩
    rcases hj with rfl | hj | hj
    · exact asg_ge (by omega)
    · exact absurd NotOf.nil hj
    · exact absurd NotOf.nil hj
/-- Post of a row just made. -/
theorem Side.pPost {X N : AM} {r : Value} {l : List Tr} (h : Side m ow X (bobj n0 bk B xb P av ps os)) (hN : M = X ++ N) (hr : Row M X.length 4 r (tcs (l.take 18)) (l.take 18).length) (hg : Good B) (hpl : B.P.length ≤ 1000000) :
    ACall Try.prog 28 #[.pointer (some ⟨bk, 0, none⟩), r] M (fun v M2 => v = .tuple #[.int .i64 (postF B l).2.1, .int .i64 (postF B l).2.2] ∧ Lft m ow X M2 (bobj n0 bk (postF B l).1 xb P av ps os)) := by
  subst hN
  have h1 := h.app N 0
  have hl18 : (l.take 18).length ≤ 18 := by rw [List.length_take]; omega
  refine (h1.bk1 (R := fun v => v = .tuple #[.int .i64 (postF B (l.take 18)).2.1, .int .i64 (postF B (l.take 18)).2.2]) (B' := (postF B (l.take 18)).1) fun pv hB => ?_).mono ?_
  · have hrv : Row (vw (fun j => asg ow X.length 0 j = 0) (X ++ N)) X.length 4 r (tcs (l.take 18)) (l.take 18).length := hr.vw fun a ha => asg_ge ha
    have h0 := hB.lt
    refine (Post_ok hB (l := l.take 18) (fun M' hF => Row.trsKeep hB.row (fun a y hr => (hB.sep hr).1) hrv (by omega) hF) hg.bd hpl (by omega)).mono ?_
    rintro v M' ⟨u, e1, e2, e3, _, _⟩
    exact ⟨e1, u, e2, e3.keep⟩
  · rintro v M2 ⟨e1, e2, e3, e4⟩
    rw [(postF_take B l).1] at e4
    rw [(postF_take B l).2] at e1
    have hL : Lft m ow X M2 (bobj n0 bk (postF B l).1 xb P av ps os) :=
      ⟨_, by rw [List.length_append] at e2; omega, fun j hj hn => ⟨by rw [e3 j (by rw [List.length_append]; omega) (by rw [asg_lt hj, hn]; decide), List.getElem?_append_left hj], by rw [asg_lt (by rw [List.length_append]; omega), asg_lt hj]; exact hn⟩, e4⟩
    by_cases hz : (postF B l).2.2 = 0
    · have hz' : (postF B (l.take 18)).2.2 = 0 := by rw [(postF_take B l).2]; exact hz
      rw [postF_num hz', ← postF_num hz] at e1
      exact ⟨e1, hL⟩
    · have hz' : (postF B (l.take 18)).2.2 ≠ 0 := by rw [(postF_take B l).2]; exact hz
      rw [(postF_bad hz').2, ← (postF_bad hz).2] at e1
      exact ⟨e1, hL⟩
/-- Post of a row of the input, on the reference's book. -/
theorem Side.rPost {w : Value} {l : List Tr} (h : Side m ow M (bobj m.length bk B xb P av ps os)) (hd : Trs m w l) (hll : l.length ≤ 9223372036854775807) (hP : smallT P.flatten) (hlen : P.flatten.length ≤ 100000000) (hpl : P.length ≤ 1000000) :
    ACall Try.prog 44 #[.pointer (some ⟨xb, 0, none⟩), w] M (fun v M2 => v = .tuple #[.int .i64 (rpostF P l).2.1, .int .i64 (rpostF P l).2.2] ∧ Lft m ow M M2 (bobj m.length bk B xb (rpostF P l).1 av ps os)) := by
  obtain ⟨pv, hB⟩ := h.at_ 2
  have hml := h.len
  have hBv : RBook (vw (fun j => ow j = 2 ∨ j < m.length) M) m.length xb P pv := hB.msub (Sub.vws (fun i e => .inl e) M).m
  have hbD : ∀ j, bkD xb pv j → ow j = 2 ∧ m.length ≤ j := fun j hj => ⟨hB.in_ j hj, by
    rcases hj with rfl | hj
    · exact hB.lo
    · obtain ⟨pc, h5, _⟩ := hB.posts
      rcases Nat.lt_or_ge j m.length with hl | hl
      · exact absurd (NotOf.row h5 hl) hj
      · exact hl⟩
  have hS : ∀ M', Fr (vw (fun j => ow j = 2 ∨ j < m.length) M) M' xb pv → ∀ j, j < m.length → M'[j]? = M[j]? := fun M' hF j hj => by
    have hn : ¬ bkD xb pv j := fun e => by have := (hbD j e).2; omega
    rw [hF.2 j (by rw [vw_len]; omega) (fun e => hn (.inl e)) (Classical.byContradiction fun e => hn (.inr e)), vw_in (.inr hj)]
  refine (ACall.frameK (fun j => ow j = 2 ∨ j < m.length) (RPost_ok hBv (l := l) (v := w) (fun M' hF => hd.sub ⟨by have := hF.1; rw [vw_len] at this; omega, fun i b hi => by
    have hl := (List.getElem?_eq_some_iff.1 hi).1
    rw [hS M' hF i hl, (h.base i hl).1]
    exact hi⟩) hll hP hlen hpl)).mono ?_
  rintro r M2 ⟨M', ⟨u, hr, hB', hF', _, _⟩, hF, hst⟩
  have hsame : ∀ j, j < M.length → ow j ≠ 2 → M2[j]? = M[j]? := fun j hj hn => by
    by_cases e : j < m.length
    · exact hst j hj (hS M' hF' j e)
    · exact hF.out j hj (by rintro (e2 | e2); exact hn e2; exact e e2)
  have hclean : ∀ j, j < M.length → ow j ≠ 2 → m.length ≤ j → M'[j]? = some none := fun j hj hn hm => by
    have hnb : ¬ bkD xb pv j := fun e => hn (hbD j e).1
    rw [hF'.2 j (by rw [vw_len]; exact hj) (fun e => hnb (.inl e)) (Classical.byContradiction fun e => hnb (.inr e)), vw_out (by rintro (e | e); exact hn e; omega) hj]
  refine ⟨hr, asg ow M.length 2, hF.len, fun j hj hn => ⟨hsame j hj (by rw [hn]; decide), by rw [asg_lt hj]; exact hn⟩, ?_⟩
  refine ⟨by have := hF.len; omega, fun j hj => ?_, fun k => ?_, bobj_mono⟩
  · have hb := h.base j hj
    rw [hsame j (by omega) (by rw [hb.2]; decide), asg_lt (by omega)]
    exact hb
  · by_cases e : k = 2
    · subst e
      refine ⟨u, (hB'.vwN (S := fun j => m.length ≤ j) fun j hj => hj).msub ⟨by rw [vw_len, vw_len]; exact hF.le, fun j b hb hj => ?_⟩⟩
      obtain ⟨q1, q2⟩ := vw_some.1 hj
      have ho : j < M.length → ow j = 2 := fun hl => Classical.byContradiction fun hn => by
        rw [hclean j hl hn q1] at q2; cases q2
      refine vw_some.2 ⟨?_, hF.get j b (fun hl => .inl (ho hl)) q2 (.inl hb)⟩
      show asg ow M.length 2 j = 2
      by_cases hl : j < M.length
      · rw [asg_lt hl]; exact ho hl
      · exact asg_ge (by omega)
    · have he : bobj m.length bk B xb (rpostF P l).1 av ps os k = bobj m.length bk B xb P av ps os k := by
        rcases k with _ | _ | _ | k
        · rfl
        · rfl
        · exact absurd rfl e
        · rfl
      rw [he]
      refine bobj_mono k _ _ ⟨by rw [vw_len, vw_len]; exact hF.len, fun j b _ hj => ?_⟩ (h.at_ k)
      obtain ⟨q1, q2⟩ := vw_some.1 hj
      have hl := (List.getElem?_eq_some_iff.1 q2).1
      exact vw_some.2 ⟨by show asg ow M.length 2 j = k; rw [asg_lt hl]; exact q1, by rw [hsame j hl (by rw [q1]; exact e)]; exact q2⟩
/-- One more pair in the law's row. -/
theorem Side.pNamed {M3 : AM} {u : Value} {c d : Nat} (h : Side m ow M (bobj m.length bk B xb P av ps os)) (hr : Row M3 m.length 2 u (prc ps ++ [.pointer (some ⟨c, 0, none⟩), .pointer (some ⟨d, 0, none⟩)]) (ps.length + 1))
    (hl : M.length ≤ M3.length) (hk : ∀ j, j < M.length → NotOf av j → M3[j]? = M[j]?) (hk2 : ∀ j, j < M.length → NotOf av j → NotOf u j) : Side m (asg ow M.length 1) M3 (bobj m.length bk B xb P u (ps ++ [(c, d)]) os) := by
  have hR : Row (vw (fun j => ow j = 1) M) m.length 2 av (prc ps) ps.length := h.at_ 1
  have hD : ∀ j, ¬ NotOf av j → ow j = 1 ∧ m.length ≤ j := fun j hj => by
    obtain ⟨b, hb⟩ := hR.at_ hj
    refine ⟨(vw_some.1 hb).1, ?_⟩
    rcases Nat.lt_or_ge j m.length with hlt | hge
    · exact absurd (NotOf.row hR hlt) hj
    · exact hge
  refine h.law (D := fun j => ¬ NotOf av j) ⟨hl, fun j hj hn => hk j hj (Classical.byContradiction hn)⟩ hD (fun k hk => ?_) ?_ bobj_mono
  · rcases k with _ | _ | _ | k
    · rfl
    · exact absurd rfl hk
    · rfl
    · rfl
  · show Row _ m.length 2 u (prc (ps ++ [(c, d)])) (ps ++ [(c, d)]).length
    rw [prc, List.flatMap_append, List.length_append]
    refine Row.vw2 hr fun a ha => ?_
    by_cases hlt : a < M.length
    · show asg ow M.length 1 a = 1
      rw [asg_lt hlt]
      exact (hD a fun hn => ha (hk2 a hlt hn)).1
    · exact asg_ge (by omega)
theorem Side.pRow (h : Side m ow M (bobj n0 bk B xb P av ps os)) : Row M n0 2 av (prc ps) ps.length := Row.msub (h.at_ 1) (Sub.vw _ _).m
theorem Side.pBook (h : Side m ow M (bobj n0 bk B xb P av ps os)) : ∃ pv, BookAt M 0 bk B pv := by
  obtain ⟨pv, hB⟩ := h.at_ 0
  exact ⟨pv, hB.msub (Sub.vw _ _).m⟩
theorem Side.rBook (h : Side m ow M (bobj n0 bk B xb P av ps os)) : ∃ pv, RBook M n0 xb P pv := by
  obtain ⟨pv, hB⟩ := h.at_ 2
  exact ⟨pv, hB.msub (Sub.vw _ _).m⟩
theorem Side.pReverse (h : Side m ow M (bobj n0 bk B xb P av ps os)) (n : Int) (hg : Good B) (hpl : B.P.length ≤ 1000000) : ACall Try.prog 42 #[.pointer (some ⟨bk, 0, none⟩), .int .i64 n] M (fun v M2 => v = .tuple #[.int .i64 (rvR B n).1, .int .i64 (rvR B n).2] ∧ Lft m ow M M2 (bobj n0 bk (rvB B n) xb P av ps os)) :=
  (h.bk1 (R := fun v => v = .tuple #[.int .i64 (rvR B n).1, .int .i64 (rvR B n).2]) fun pv hB => Reverse_any n hB hg hpl).mono fun r M2 ⟨h1, h2⟩ => ⟨h1, Lft.of (by decide) h2⟩
def rrP (P : List (List Tr)) (n : Int) : List (List Tr) := if 1 ≤ n ∧ n ≤ P.length then (rpostF P (revL (P.getD (n - 1).toNat []))).1 else P
def rrR (P : List (List Tr)) (n : Int) : Int × Int := if 1 ≤ n ∧ n ≤ P.length then (rpostF P (revL (P.getD (n - 1).toNat []))).2 else (0, 7)
theorem Side.rReverse (h : Side m ow M (bobj n0 bk B xb P av ps os)) (n : Int) (hpb : ∀ l ∈ P, postB l = true) (hP : smallT P.flatten) (hlen : P.flatten.length ≤ 100000000) (hpl : P.length ≤ 1000000) : ACall Try.prog 105 #[.pointer (some ⟨xb, 0, none⟩), .int .i64 n] M (fun v M2 => v = .tuple #[.int .i64 (rrR P n).1, .int .i64 (rrR P n).2] ∧ Lft m ow M M2 (bobj n0 bk B xb (rrP P n) av ps os)) := by
  refine (h.rf1 (P' := rrP P n) (R := fun v => v = .tuple #[.int .i64 (rrR P n).1, .int .i64 (rrR P n).2]) fun pv hB => ?_).mono fun r M2 ⟨h1, h2⟩ => ⟨h1, Lft.of (by decide) h2⟩
  unfold rrP rrR
  by_cases c : 1 ≤ n ∧ n ≤ P.length
  · rw [if_pos c, if_pos c]
    obtain ⟨k, rfl⟩ : ∃ k : Nat, n = (k : Int) + 1 := ⟨(n - 1).toNat, by omega⟩
    rw [show ((k : Int) + 1 - 1).toNat = k by omega]
    have hk : k < P.length := by omega
    have hpk := postB_all (hpb (P.getD k []) (by rw [List.getD_eq_getElem?_getD, List.getElem?_eq_getElem hk]; exact List.getElem_mem hk))
    refine (RReverse_ok hB hk (by omega) hP hlen hpl).mono ?_
    rintro r M ⟨u, e1, e2, e3⟩
    exact ⟨e1, u, e2, e3.keep⟩
  · rw [if_neg c, if_neg c]
    refine (RReverse_no hB c).mono ?_
    rintro r M ⟨rfl, rfl⟩
    exact ⟨rfl, pv, hB, Keep.refl _ _⟩
theorem reverse_eq {B : Bk} (h : Good B) (n : Int) : rvR B n = rrR B.P n ∧ (rvB B n).P = rrP B.P n := by
  unfold rvR rrR rvB rrP
  by_cases c : 1 ≤ n ∧ n ≤ B.P.length
  · rw [if_pos c, if_pos c, if_pos c, if_pos c]
    exact post_eq h _
  · rw [if_neg c, if_neg c, if_neg c, if_neg c]
    exact ⟨rfl, rfl⟩
theorem rvB_grow (B : Bk) (n : Int) : ∃ L, (rvB B n).P = B.P ++ L := by
  unfold rvB
  split
  · exact postF_grow B _
  · exact ⟨[], by simp⟩
end
end Go.Proofs.Ytabdnepfcohncaa.Abs
namespace Go.Proofs.Ytabdnepfcohncaa.Abs
set_option linter.unusedSimpArgs false
set_option linter.unusedVariables false
open Go.RowKit
open Go.Proofs.Ytabdnepfcohncaa.Sim
open Go.Proofs
/-- A pair: the clerk, the reference's, what both are. -/
structure Pr where
  ck : Nat
  xk : Nat
  o : Option Ck
def prs (ks : List Pr) : List (Nat × Nat) := ks.map fun x => (x.ck, x.xk)
def obs (ks : List Pr) : List Ob := ks.flatMap fun x => [⟨false, x.ck, x.o⟩, ⟨true, x.xk, x.o⟩]
theorem obs_snoc (ks : List Pr) (x : Pr) : obs (ks ++ [x]) = obs ks ++ [⟨false, x.ck, x.o⟩] ++ [⟨true, x.xk, x.o⟩] := by simp [obs]
theorem prs_snoc (ks : List Pr) (x : Pr) : prs (ks ++ [x]) = prs ks ++ [(x.ck, x.xk)] := by simp [prs]
theorem obs_get : ∀ {ks : List Pr} {j : Nat} {x : Pr}, ks[j]? = some x → (obs ks)[j * 2]? = some ⟨false, x.ck, x.o⟩ ∧ (obs ks)[j * 2 + 1]? = some ⟨true, x.xk, x.o⟩
  | [], j, x, h => by simp at h
  | y :: l, 0, x, h => by simp at h; subst h; exact ⟨rfl, rfl⟩
  | y :: l, j + 1, x, h => by
    have := obs_get (ks := l) (j := j) (x := x) (by simpa using h)
    have e : obs (y :: l) = ⟨false, y.ck, y.o⟩ :: ⟨true, y.xk, y.o⟩ :: obs l := rfl
    rw [e, show (j + 1) * 2 = (j * 2) + 1 + 1 by omega, show j * 2 + 1 + 1 + 1 = (j * 2 + 1) + 1 + 1 by omega, List.getElem?_cons_succ, List.getElem?_cons_succ, List.getElem?_cons_succ, List.getElem?_cons_succ]
    exact this
theorem obs_set : ∀ {ks : List Pr} {j : Nat} {x : Pr} (o' : Option Ck), ks[j]? = some x → ((obs ks).set (j * 2) ⟨false, x.ck, o'⟩).set (j * 2 + 1) ⟨true, x.xk, o'⟩ = obs (ks.set j ⟨x.ck, x.xk, o'⟩)
  | [], j, x, o', h => by simp at h
  | y :: l, 0, x, o', h => by simp at h; subst h; rfl
  | y :: l, j + 1, x, o', h => by
    have := obs_set (ks := l) (j := j) (x := x) o' (by simpa using h)
    have e : ∀ y (l : List Pr), obs (y :: l) = ⟨false, y.ck, y.o⟩ :: ⟨true, y.xk, y.o⟩ :: obs l := fun _ _ => rfl
    rw [List.set_cons_succ, e, e, show (j + 1) * 2 = (j * 2) + 1 + 1 by omega, show j * 2 + 1 + 1 + 1 = (j * 2 + 1) + 1 + 1 by omega, List.set_cons_succ, List.set_cons_succ, List.set_cons_succ, List.set_cons_succ, this]
theorem prs_set {ks : List Pr} {j : Nat} {x : Pr} (o' : Option Ck) (h : ks[j]? = some x) : prs (ks.set j ⟨x.ck, x.xk, o'⟩) = prs ks := by
  unfold prs
  apply List.ext_getElem?
  intro i
  rw [List.getElem?_map, List.getElem?_map, set_getT (List.getElem?_eq_some_iff.1 h).1]
  by_cases e : i = j
  · subst e; rw [if_pos rfl, h]; rfl
  · rw [if_neg e]
/-- What StockBook keeps. -/
structure Desk (m : AM) (ow : Nat → Nat) (M : AM) (bk xb : Nat) (B : Bk) (av : Value) (ks : List Pr) (N : Nat) : Prop where
  side : Side m ow M (bobj m.length bk B xb B.P av (prs ks) (obs ks))
  good : Good B
  nP : B.P.length ≤ N
  nk : ks.length ≤ N
  cl : ∀ x ∈ ks, ∀ K, x.o = some K → KOK B.P K ∧ K.seen.length ≤ N
section
variable {m : AM} {ow : Nat → Nat} {M : AM} {bk xb : Nat} {B : Bk} {av : Value} {ks : List Pr} {N : Nat}
theorem Desk.app (h : Desk m ow M bk xb B av ks N) (T : AM) : Desk m (asg ow M.length 1) (M ++ T) bk xb B av ks N := ⟨h.side.app T 1, h.good, h.nP, h.nk, h.cl⟩
theorem Desk.fl (h : Desk m ow M bk xb B av ks N) : B.P.flatten.length ≤ 16 * N := by
  have := flat_len h.good.ok
  have := h.nP
  omega
/-- Behind a call on the books. -/
theorem Desk.books {ow2 : Nat → Nat} {M2 : AM} {B' : Bk} (h : Desk m ow M bk xb B av ks N) (hS : Side m ow2 M2 (bobj m.length bk B' xb B'.P av (prs ks) (obs ks))) (hg : Good B') (hn : B'.P.length ≤ B.P.length + 1) (hL : ∃ L, B'.P = B.P ++ L) : Desk m ow2 M2 bk xb B' av ks (N + 1) := by
  obtain ⟨L, e⟩ := hL
  refine ⟨hS, hg, by have := h.nP; omega, by have := h.nk; omega, fun x hx K hK => ?_⟩
  obtain ⟨k1, k2⟩ := h.cl x hx K hK
  exact ⟨by rw [e]; exact k1.grow L, by omega⟩
/-- Behind calls on a clerk and its like. -/
theorem Desk.clerks {ow2 : Nat → Nat} {M2 : AM} {B' : Bk} {j : Nat} {x : Pr} {o' : Option Ck} (h : Desk m ow M bk xb B av ks N) (hj : ks[j]? = some x) (hS : Side m ow2 M2 (bobj m.length bk B' xb B'.P av (prs ks) (((obs ks).set (j * 2) ⟨false, x.ck, o'⟩).set (j * 2 + 1) ⟨true, x.xk, o'⟩))) (hg : Good B') (hn : B'.P.length ≤ B.P.length + 1) (hL : ∃ L, B'.P = B.P ++ L)
    (ho : ∀ K, o' = some K → KOK B'.P K ∧ K.seen.length ≤ N + 1) : Desk m ow2 M2 bk xb B' av (ks.set j ⟨x.ck, x.xk, o'⟩) (N + 1) := by
  obtain ⟨L, e⟩ := hL
  refine ⟨by rw [prs_set o' hj, ← obs_set o' hj]; exact hS, hg, by have := h.nP; omega, by rw [List.length_set]; have := h.nk; omega, fun y hy K hK => ?_⟩
  rcases List.mem_or_eq_of_mem_set hy with hy | rfl
  · obtain ⟨k1, k2⟩ := h.cl y hy K hK
    exact ⟨by rw [e]; exact k1.grow L, by omega⟩
  · exact ho K hK
theorem Desk.same (h : Desk m ow M bk xb B av ks N) : Desk m ow M bk xb B av ks (N + 1) :=
  ⟨h.side, h.good, by have := h.nP; omega, by have := h.nk; omega, fun x hx K hK => ⟨(h.cl x hx K hK).1, by have := (h.cl x hx K hK).2; omega⟩⟩
/-- One more pair. -/
theorem Desk.hired {ow2 : Nat → Nat} {M2 : AM} {u : Value} {c d : Nat} {V : List Int} (h : Desk m ow M bk xb B av ks N) (hV : V = B.H)
    (hS : Side m ow2 M2 (bobj m.length bk B xb B.P u (prs ks ++ [(c, d)]) (obs ks ++ [⟨false, c, some ⟨B.P.length, B.H, [], [], false⟩⟩] ++ [⟨true, d, some ⟨B.P.length, V, [], [], false⟩⟩]))) : Desk m ow2 M2 bk xb B u (ks ++ [⟨c, d, some ⟨B.P.length, B.H, [], [], false⟩⟩]) (N + 1) := by
  subst hV
  refine ⟨by rw [prs_snoc, obs_snoc]; exact hS, h.good, by have := h.nP; omega, by rw [List.length_append, List.length_singleton]; have := h.nk; omega, fun x hx K hK => ?_⟩
  rcases List.mem_append.1 hx with hx | hx
  · exact ⟨(h.cl x hx K hK).1, by have := (h.cl x hx K hK).2; omega⟩
  · simp only [List.mem_singleton] at hx
    subst hx
    injection hK with hK
    subst hK
    exact ⟨KOK.new h.good, Nat.zero_le _⟩
end
end Go.Proofs.Ytabdnepfcohncaa.Abs
namespace Go.Proofs.Ytabdnepfcohncaa.Abs
set_option linter.unusedSimpArgs false
set_option linter.unusedVariables false
open Go.RowKit
open Go.Proofs.Ytabdnepfcohncaa.Sim
open Go.Proofs
theorem un91 : Try.prog.underlying 91 = some (.slice 173) := by kernel_rfl
theorem el91 : elemB Try.prog 91 = some (173, 2, 16, #[.pointer none, .pointer none]) := by kernel_rfl
theorem ze173 : zeroB Try.prog 173 = some #[.pointer none, .pointer none] := by kernel_rfl
theorem bl173 {a b : Nat} : abuild Try.prog 173 [(0, .pointer (some ⟨a, 0, none⟩)), (1, .pointer (some ⟨b, 0, none⟩))] = some (.agg #[.pointer (some ⟨a, 0, none⟩), .pointer (some ⟨b, 0, none⟩)]) := by kernel_rfl
theorem bs91 {m : AM} {k a b : Nat} : abuildSlice Try.prog m k 91 1 [(0, .agg #[.pointer (some ⟨a, 0, none⟩), .pointer (some ⟨b, 0, none⟩)])] = some (.slice (some ⟨k, 0, none⟩) 1 1, m.set k (some { cells := [.pointer (some ⟨a, 0, none⟩), .pointer (some ⟨b, 0, none⟩)] })) := by kernel_rfl
section
variable {P : Program} {nt d : Nat} {ops : Array Oper} {T : TypeId} {p : String} {af : Array Edge} {t : Fm} {m : AM} {K : Fm → AM → Prop}
theorem Step.ptrNotN {x y : Operand} {X Y : TypeId} {a o : Nat} {e : TypeId} (hx : evo t x = some (.pointer (some ⟨a, o, none⟩))) (hy : evo t y = some (.pointer none)) (hX : P.underlying X = some (.pointer e)) (hlt : Nat.blt d nt = true) (hK : K (put t d (.bool true)) m) : Step P nt ops ⟨some d, .binOp .neq X x y Y, T, p, af, none⟩ t m K :=
  .q rfl rfl hlt (by simp [Op.operands, hx, hy]) (by simp [aquiet, evD_of hx, evD_of hy, aint, anil, hX, bEq]) hK
end
def fdL (P : List (List Tr)) (n : Int) : List Tr := if 1 ≤ n ∧ n ≤ P.length then P.getD (n - 1).toNat [] else []
def fdE (P : List (List Tr)) (n : Int) : Int := if 1 ≤ n ∧ n ≤ P.length then 0 else 7
theorem Find_any {m : AM} {bk : Nat} {B : Bk} {pv : Value} (n : Int) (h : BookAt m 0 bk B pv) (hok : ∀ l ∈ B.P, postB l = true) (hpl : B.P.length ≤ 1000000) : ACall Try.prog 40 #[.pointer (some ⟨bk, 0, none⟩), .int .i64 n] m (More (fun M r => ∃ u, r = .tuple #[u, .int .i64 (fdE B.P n)] ∧ SlV u ∧ Trs M u (fdL B.P n)) m) := by
  have h0 := h.lt
  unfold fdE fdL
  by_cases c : 1 ≤ n ∧ n ≤ B.P.length
  · rw [if_pos c, if_pos c]
    obtain ⟨k, rfl⟩ : ∃ k : Nat, n = (k : Int) + 1 := ⟨(n - 1).toNat, by omega⟩
    rw [show ((k : Int) + 1 - 1).toNat = k by omega]
    refine (Find_ok h (by omega) hok hpl).mono ?_
    rintro r M ⟨N, rfl, u, rfl, hr⟩
    exact ⟨N, rfl, u, rfl, hr.slv, hr.trs (by rw [List.length_append]; omega)⟩
  · rw [if_neg c, if_neg c]
    refine (Find_no h c).mono ?_
    rintro r M ⟨rfl, rfl⟩
    exact ⟨[], by rw [List.append_nil], _, rfl, .inl rfl, .nil (by omega)⟩
theorem RFind_any {m : AM} {b0 xb : Nat} {P : List (List Tr)} {pv : Value} (n : Int) (h : RBook m b0 xb P pv) (hpl : P.length ≤ 1000000) : ACall Try.prog 107 #[.pointer (some ⟨xb, 0, none⟩), .int .i64 n] m (More (fun M r => ∃ u, r = .tuple #[u, .int .i64 (fdE P n)] ∧ SlV u ∧ Trs M u (fdL P n)) m) := by
  have h0 := h.lt
  unfold fdE fdL
  by_cases c : 1 ≤ n ∧ n ≤ P.length
  · rw [if_pos c, if_pos c]
    obtain ⟨k, rfl⟩ : ∃ k : Nat, n = (k : Int) + 1 := ⟨(n - 1).toNat, by omega⟩
    rw [show ((k : Int) + 1 - 1).toNat = k by omega]
    refine (RFind_ok h (by omega) hpl).mono ?_
    rintro r M ⟨u, rfl, ⟨N, rfl⟩, hr⟩
    exact ⟨N, rfl, u, rfl, hr.slv, (hr.old N).trs⟩
  · rw [if_neg c, if_neg c]
    refine (RFind_no h c).mono ?_
    rintro r M ⟨rfl, rfl⟩
    exact ⟨[], by rw [List.append_nil], _, rfl, .inl rfl, .nil (by omega)⟩
theorem fdL_len {P : List (List Tr)} (n : Int) (hok : ∀ l ∈ P, postB l = true) : (fdL P n).length ≤ 16 := by
  unfold fdL
  split
  · rename_i c
    have hk : (n - 1).toNat < P.length := by omega
    exact (postB_all (hok _ (by rw [List.getD_eq_getElem?_getD, List.getElem?_eq_getElem hk]; exact List.getElem_mem hk))).2.1
  · simp
theorem commit_any {B : Bk} (h : Good B) {o : Option Ck} (ho : ∀ K, o = some K → OKK K) : cmR o B = rcR o B.P ∧ (cmB o B).P = rcP o B.P ∧ ∃ L, (cmB o B).P = B.P ++ L := by
  cases o with
  | none => exact ⟨rfl, rfl, [], by simp [cmB]⟩
  | some K =>
    obtain ⟨e1, e2, e3⟩ := commit_eq h (ho K rfl)
    exact ⟨by unfold cmR rcR; simp only [e1, e2], e3, coF_grow K B⟩
theorem moF_seen (K : Ck) (x : Tr) : (moF K x).2.seen = K.seen := by
  unfold moF
  split
  · rfl
  · split
    · split <;> rfl
    · rfl
/-- What lies in the law's own blocks. -/
theorem Lft.rd {X M2 : AM} {ow : Nat → Nat} {ow2 : Nat → Nat} (hl : X.length ≤ M2.length) (hk : ∀ j, j < X.length → ow j = 1 → M2[j]? = X[j]? ∧ ow2 j = 1) {a : Nat} (ha : ow a = 1) {b : Blk} (hb : X[a]? = some (some b)) : M2[a]? = some (some b) ∧ ow2 a = 1 := by
  have := hk a (List.getElem?_eq_some_iff.1 hb).1 ha
  rw [this.1]; exact ⟨hb, this.2⟩
set_option maxRecDepth 100000 in
theorem Total_bad {m : AM} {b0 bk : Nat} {B : Bk} {pv : Value} {i : Int} (h : BookAt m b0 bk B pv) (hi : ¬ (0 ≤ i ∧ i < 16)) : ACall Try.prog 43 #[.pointer (some ⟨bk, 0, none⟩), .int .i64 i] m (Ret (.tuple #[.int .i64 0, .int .i64 2]) m) := by
  have hnone := fun T => none_ok (m := m ++ T) (bk := bk) (Rd.old T ⟨_, h.cells, bkc_0⟩)
  refine ACall.start Try.func43 rfl rfl ?_
  by_cases c : i < 0
  · (repeat (first | (with_reducible refine AWo.cons ?_) | ((with_reducible refine Step.id ?_); first | ((with_reducible apply Step.gdF); exact rfl; exact rfl; (focus ((simp only [decide_eq_true_eq, decide_eq_false_iff_not, Bool.not_eq_true', Bool.not_eq_false', Bool.not_true, Bool.not_false]; first | assumption | omega)))) | ((with_reducible apply Step.move); exact rfl; exact rfl) | ((with_reducible apply Step.assign); exact rfl; exact rfl) | ((with_reducible apply Step.lss); exact rfl; exact rfl; exact rfl) | ((with_reducible apply Step.pickT); exact rfl; exact rfl; exact rfl; exact rfl; (focus ((simp only [decide_eq_true_eq, decide_eq_false_iff_not, Bool.not_eq_true', Bool.not_eq_false', Bool.not_true, Bool.not_false]; first | assumption | omega)))) | ((with_reducible apply Step.callR fit); exact rfl; exact Try.func83; exact rfl; exact rfl; exact (hnone _))) | (with_reducible refine AWo.nil ?_) | ((with_reducible apply AW.seq)) | ((with_reducible apply Then.n)) | ((with_reducible apply AW.regL)) | ((with_reducible apply AW.block)) | ((with_reducible apply AW.condT); exact rfl; (focus (rfl))) | ((with_reducible apply AW.condF); exact rfl; (focus (rfl)))))
    (refine AW.retD (l := [(4, _), (5, _)]) (by repeat (first | exact trivial | (refine And.intro ⟨rfl, by (exact .int _ _)⟩ ?_))) ?_; (repeat (first | refine Then.r ?_ | refine InBlk.r ?_)))
    exact ⟨_, rfl, rfl, rfl⟩
  · (repeat (first | (with_reducible refine AWo.cons ?_) | ((with_reducible refine Step.id ?_); first | ((with_reducible apply Step.gdT); exact rfl; exact rfl; (focus ((simp only [decide_eq_true_eq, decide_eq_false_iff_not, Bool.not_eq_true', Bool.not_eq_false', Bool.not_true, Bool.not_false]; first | assumption | omega)))) | ((with_reducible apply Step.move); exact rfl; exact rfl) | ((with_reducible apply Step.assign); exact rfl; exact rfl) | ((with_reducible apply Step.lss); exact rfl; exact rfl; exact rfl) | ((with_reducible apply Step.geq); exact rfl; exact rfl; exact rfl) | ((with_reducible apply Step.pickF); exact rfl; exact rfl; exact rfl; exact rfl; (focus ((simp only [decide_eq_true_eq, decide_eq_false_iff_not, Bool.not_eq_true', Bool.not_eq_false', Bool.not_true, Bool.not_false]; first | assumption | omega)))) | ((with_reducible apply Step.callR fit); exact rfl; exact Try.func83; exact rfl; exact rfl; exact (hnone _))) | (with_reducible refine AWo.nil ?_) | ((with_reducible apply AW.seq)) | ((with_reducible apply Then.n)) | ((with_reducible apply AW.regL)) | ((with_reducible apply AW.block)) | ((with_reducible apply AW.condT); exact rfl; (focus ((simp only [decide_eq_true_eq, decide_eq_false_iff_not, Bool.not_eq_true', Bool.not_eq_false', Bool.not_true, Bool.not_false]; first | assumption | omega)))) | ((with_reducible apply AW.condF); exact rfl; (focus (rfl)))))
    (refine AW.retD (l := [(4, _), (5, _)]) (by repeat (first | exact trivial | (refine And.intro ⟨rfl, by (exact .int _ _)⟩ ?_))) ?_; (repeat (first | refine Then.r ?_ | refine InBlk.r ?_)))
    exact ⟨_, rfl, rfl, rfl⟩
theorem Total_any {m : AM} {b0 bk : Nat} {B : Bk} {pv : Value} (i : Int) (h : BookAt m b0 bk B pv) (hg : Good B) : ACall Try.prog 43 #[.pointer (some ⟨bk, 0, none⟩), .int .i64 i] m (Ret (.tuple #[.int .i64 0, .int .i64 (if 0 ≤ i ∧ i < 16 then 0 else 2)]) m) := by
  by_cases c : 0 ≤ i ∧ i < 16
  · rw [if_pos c]
    obtain ⟨i, rfl⟩ := Int.eq_ofNat_of_zero_le c.1
    have := Total_ok h (i := i) (by omega) hg.bd
    rw [hg.tot (by omega)] at this
    exact this
  · rw [if_neg c]
    exact Total_bad h c
set_option maxHeartbeats 32000000 in
set_option maxRecDepth 100000 in
theorem Acts_ok {m : AM} {ow : Nat → Nat} {M : AM} {bk xb : Nat} {B : Bk} {av : Value} {ks : List Pr} {N : Nat} (h : Desk m ow M bk xb B av ks N) (hN : N ≤ 100) {x : Deed} {w : Value} (hd : Trs m w x.l) (hle : x.l.length ≤ 9223372036854775807) :
    ACall Try.prog 47 #[.pointer (some ⟨bk, 0, none⟩), .pointer (some ⟨xb, 0, none⟩), av, .agg #[.int .i64 x.kd, .int .i64 x.who, .int .i64 x.n, .int .i64 x.m, w]] M (fun r M2 => ∃ ow2 u B2 ks2, r = .tuple #[u, .bool true] ∧ Desk m ow2 M2 bk xb B2 u ks2 (N + 1)) := by
  have hG := h.good
  have hnP := h.nP
  have hnk := h.nk
  have hfl := h.fl
  have hw1 : (Value.agg #[.int .i64 x.kd, .int .i64 x.who, .int .i64 x.n, .int .i64 x.m, w]).cells.all (·.oneCell') = true := by obtain ⟨aa, oo, hs, _⟩ := hd; exact Deed.one (x := x) hs
  obtain ⟨pv0, hB0⟩ := h.side.pBook
  have hM0 := hB0.lt
  have hrA := h.side.pRow
  obtain ⟨aa, hav, haX, hrd⟩ := hrA.sl (by omega)
  rw [show (prs ks).length = ks.length from List.length_map ..] at hav hrd
  obtain ⟨n, hn9, en⟩ := mod_in x.kd 9 (by omega) (by omega)
  refine ACall.start Try.func47 rfl rfl ?_
  (repeat (first | (with_reducible refine AWo.cons ?_) | ((with_reducible refine Step.id ?_); first | ((with_reducible apply Step.move); exact rfl; exact rfl) | ((with_reducible apply Step.assign); exact rfl; exact rfl) | ((with_reducible apply Step.gtr); exact rfl; exact rfl; exact rfl) | ((with_reducible apply Step.len); exact rfl; (focus (assumption)); (focus (decide +kernel)); exact rfl) | ((with_reducible apply Step.box 0); exact rfl; exact rfl; (focus (first | assumption | exact hw1)); exact rfl; (focus (first | (simp only [List.nil_append, List.cons_append, List.set_cons_zero, List.set_cons_succ, iv_set, bv_set, iv_rep, bv_rep]; done) | (simp only [List.nil_append, List.cons_append, List.set_cons_zero, List.set_cons_succ, iv_set, bv_set, iv_rep, bv_rep]; rfl) | rfl))) | ((with_reducible apply Step.alloc 1); exact rfl; exact ze173; exact rfl; (focus (first | (simp only [List.nil_append, List.cons_append, List.set_cons_zero, List.set_cons_succ, iv_set, bv_set, iv_rep, bv_rep]; done) | (simp only [List.nil_append, List.cons_append, List.set_cons_zero, List.set_cons_succ, iv_set, bv_set, iv_rep, bv_rep]; rfl) | rfl)))) | (with_reducible refine AWo.nil ?_) | ((with_reducible apply AW.seq)) | ((with_reducible apply Then.n)) | ((with_reducible apply AW.regL))))
  refine AW.join (fun t' M' => ∃ c0 c1, M' = M ++ [some { cells := x.cells w }, some { cells := [c0, c1] }] ∧ (ks.length = 0 ∧ c0 = .pointer none ∧ c1 = .pointer none ∨ ∃ (j : Nat) (y : Pr), ks[j]? = some y ∧ c0 = .pointer (some ⟨y.ck, 0, none⟩) ∧ c1 = .pointer (some ⟨y.xk, 0, none⟩)) ∧ All (fun i v => t' i = some v) [(0, .pointer (some ⟨bk, 0, none⟩)), (1, .pointer (some ⟨xb, 0, none⟩)), (2, av), (7, .pointer (some ⟨M.length + 0, 0, none⟩)), (8, .slice none 0 0), (9, .bool false), (10, .pointer (some ⟨M.length + 1, 0, none⟩))]) ?_ ?_
  · by_cases c0 : ks.length = 0
    · (repeat (first | ((with_reducible apply Then.n)) | ((with_reducible apply AW.skip)) | ((with_reducible apply AW.condF); exact rfl; (focus ((simp only [decide_eq_true_eq, decide_eq_false_iff_not, Bool.not_eq_true', Bool.not_eq_false', Bool.not_true, Bool.not_false]; first | assumption | omega))))))
      exact ⟨_, _, rfl, .inl ⟨c0, rfl, rfl⟩, (by repeat (first | exact trivial | (refine And.intro rfl ?_)))⟩
    · obtain ⟨j, hj, ej⟩ := mod_in x.who ks.length (by omega) (by omega)
      have hwj : ks[j]? = some ks[j] := List.getElem?_eq_getElem hj
      have hrw : ∀ q v, ([Value.pointer (some ⟨ks[j].ck, 0, none⟩), .pointer (some ⟨ks[j].xk, 0, none⟩)])[q]? = some v → (prc (prs ks))[j * 2 + q]? = some v := fun q v hv => by
        refine flatS_get (fun x : Nat × Nat => [Value.pointer (some ⟨x.1, 0, none⟩), .pointer (some ⟨x.2, 0, none⟩)]) 2 (fun _ => rfl) (prs ks) j (by rw [prs, List.length_map]; exact hj) q v ?_
        have e : (prs ks).getD j default = (ks[j].ck, ks[j].xk) := by rw [List.getD_eq_getElem?_getD, prs, List.getElem?_map, hwj]; rfl
        rw [e]; exact hv
      generalize ks[j] = y at *
      have hew : IntKind.u64.wrap ((ks.length : Nat) : Int) = (ks.length : Nat) := u64_nat (by omega)
      have hrs : ∀ (T : AM), RdL (M ++ T) aa (j * 2) [.pointer (some ⟨y.ck, 0, none⟩), .pointer (some ⟨y.xk, 0, none⟩)] := fun T => by
        obtain ⟨b, w1, w2⟩ := hrd (by omega)
        exact ⟨b, get_old _ w1, fun p v hv => by have := w2 _ _ (hrw p v hv); rwa [Nat.zero_add] at this⟩
      (repeat (first | (with_reducible refine AWo.cons ?_) | ((with_reducible refine Step.id ?_); first | ((with_reducible apply Step.move); exact rfl; exact rfl) | ((with_reducible apply Step.load); exact rfl; (focus (decide +kernel)); exact rfl; (focus (exact Rd.new rfl rfl))) | ((with_reducible apply Step.field (k := 1)); exact rfl; (focus (decide +kernel)); exact rfl)) | ((with_reducible apply AW.regL)) | ((with_reducible apply AW.condT); exact rfl; (focus ((simp only [decide_eq_true_eq, decide_eq_false_iff_not, Bool.not_eq_true', Bool.not_eq_false', Bool.not_true, Bool.not_false]; first | assumption | omega))))))
      ((with_reducible apply Step.conv); exact rfl; exact un3; exact un31; exact rfl; exact rfl)
      (repeat (first | (with_reducible refine AWo.cons ?_) | ((with_reducible refine Step.id ?_); first | ((with_reducible apply Step.move); exact rfl; exact rfl) | ((with_reducible apply Step.len); exact rfl; (focus (assumption)); (focus (decide +kernel)); exact rfl))))
      ((with_reducible apply Step.conv); exact rfl; exact un3; exact un31; exact hew; exact rfl)
      (repeat ((with_reducible refine AWo.cons ?_)))
      ((with_reducible apply Step.remU); exact rfl; exact rfl; exact (wrapU _); (focus (omega)); exact rfl)
      (repeat ((with_reducible refine AWo.cons ?_)))
      ((with_reducible apply Step.conv); exact rfl; exact un31; exact un3; exact ej; exact rfl)
      (repeat (first | (with_reducible refine AWo.cons ?_) | ((with_reducible refine Step.id ?_); first | ((with_reducible apply Step.loadL (n := 2)); exact rfl; (focus (decide +kernel)); (focus (decide +kernel)); exact rfl; (focus (exact hrs _)); exact rfl; exact rfl) | ((with_reducible apply Step.ixz (s := 2)); exact rfl; (focus (assumption)); exact rfl; (focus (decide +kernel)); exact rfl; (focus (omega))) | ((with_reducible apply Step.storeA (k := 1) (n := 2)); exact rfl; exact rfl; exact rfl; exact rfl; (focus (decide +kernel)); exact rfl; (focus (kernel_rfl)); exact rfl; (focus (first | (simp only [List.nil_append, List.cons_append, List.set_cons_zero, List.set_cons_succ, iv_set, bv_set, iv_rep, bv_rep]; done) | (simp only [List.nil_append, List.cons_append, List.set_cons_zero, List.set_cons_succ, iv_set, bv_set, iv_rep, bv_rep]; rfl) | rfl)))) | (with_reducible refine AWo.nil ?_) | ((with_reducible apply Then.n))))
      exact ⟨_, _, rfl, .inr ⟨j, y, hwj, rfl, rfl⟩, (by repeat (first | exact trivial | (refine And.intro rfl ?_)))⟩
  · rintro t' M' ⟨c0, c1, rfl, hc, hsl⟩
    refine AW.weak (fr_all hsl) ?_
    clear hsl
    refine AW.rebase ?_
    obtain ⟨X, hX⟩ : ∃ X : AM, X = M ++ [some { cells := x.cells w }, some { cells := [c0, c1] }] := ⟨_, rfl⟩
    have hXl : X.length = M.length + 2 := by rw [hX, List.length_append]; rfl
    have hSX : Desk m (asg ow M.length 1) X bk xb B av ks N := by rw [hX]; exact h.app _
    have hoA : asg ow M.length 1 M.length = 1 := asg_ge (Nat.le_refl _)
    have hoB : asg ow M.length 1 (M.length + 1) = 1 := asg_ge (by omega)
    have hbA : X[M.length]? = some (some { cells := x.cells w }) := by rw [hX, List.getElem?_append_right (Nat.le_refl _), Nat.sub_self]; rfl
    have hbB : X[M.length + 1]? = some (some { cells := [c0, c1] }) := by rw [hX, List.getElem?_append_right (by omega), Nat.add_sub_cancel_left]; rfl
    have hdX := hd.sub hSX.side.sub
    rw [← hX]
    generalize asg ow M.length 1 = owX at *
    have rq : ∀ (Y T : AM), Y[M.length]? = some (some { cells := x.cells w }) → ∀ (j : Nat) (y : Value), (x.cells w)[j]? = some y → Rd (Y ++ T) (M.length + 0) j y := fun Y T hY j y hj => Rd.old T ⟨_, hY, hj⟩
    have rp : ∀ (Y T : AM), Y[M.length + 1]? = some (some { cells := [c0, c1] }) → Rd (Y ++ T) (M.length + 1) 0 c0 ∧ Rd (Y ++ T) (M.length + 1) 1 c1 := fun Y T hY => ⟨Rd.old T ⟨_, hY, rfl⟩, Rd.old T ⟨_, hY, rfl⟩⟩
    have rqX := fun T => rq X T hbA
    (repeat (first | (with_reducible refine AWo.cons ?_) | ((with_reducible refine Step.id ?_); first | ((with_reducible apply Step.load); exact rfl; (focus (decide +kernel)); exact rfl; (focus (exact rqX _ _ _ rfl))) | ((with_reducible apply Step.field0); exact rfl; (focus (decide +kernel)); exact rfl)) | ((with_reducible apply AW.seq)) | ((with_reducible apply AW.regL))))
    ((with_reducible apply Step.conv); exact rfl; exact un3; exact un31; exact rfl; exact rfl)
    (repeat ((with_reducible refine AWo.cons ?_)))
    ((with_reducible apply Step.remU); exact rfl; exact rfl; exact (wrapU _); (focus (omega)); exact rfl)
    (repeat ((with_reducible refine AWo.cons ?_)))
    ((with_reducible apply Step.conv); exact rfl; exact un31; exact un3; exact en; exact rfl)
    rcases (show n = 0 ∨ n = 1 ∨ n = 2 ∨ n = 7 ∨ n = 8 ∨ (n = 3 ∨ n = 4 ∨ n = 5 ∨ n = 6) by omega) with rfl | rfl | rfl | rfl | rfl | c3
    · have hpo := post_ok (m := X) (v := w) (l := x.l) hdX hle
      (repeat (first | (with_reducible refine AWo.cons ?_) | ((with_reducible refine Step.id ?_); first | ((with_reducible apply Step.move); exact rfl; exact rfl) | ((with_reducible apply Step.assign); exact rfl; exact rfl) | ((with_reducible apply Step.load); exact rfl; (focus (decide +kernel)); exact rfl; (focus (exact rqX _ _ _ rfl))) | ((with_reducible apply Step.field (k := 4)); exact rfl; (focus (decide +kernel)); exact rfl) | ((with_reducible apply Step.eql); exact rfl; exact rfl; exact rfl)) | (with_reducible refine AWo.nil ?_) | ((with_reducible apply AW.seq)) | ((with_reducible apply Then.n)) | ((with_reducible apply AW.regL)) | ((with_reducible apply AW.block)) | ((with_reducible apply AW.condT); exact rfl; (focus (rfl)))))
      ((with_reducible apply Step.callX fit); exact rfl; exact Try.func29; exact rfl; exact rfl; (focus (rw [List.append_nil]; exact hpo)))
      rintro r1 M1 ⟨N1, hN1⟩ hr1
      rw [List.append_nil] at hN1
      have hP := hSX.side.pPost hN1 hr1 hG (by omega)
      (repeat ((with_reducible refine AWo.cons ?_)))
      ((with_reducible apply Step.callF fit); exact rfl; exact Try.func28; exact rfl; exact rfl; (focus (rw [List.append_nil]; exact hP)))
      rintro r2 M2 ⟨rfl, ow2, l2, k2, S2⟩
      have rq2 := fun T => rq M2 T (Lft.rd l2 k2 hoA hbA).1
      have hQ := S2.rPost hd hle hG.small (by omega) (by omega)
      rw [← List.append_nil M2]
      (repeat (first | (with_reducible refine AWo.cons ?_) | ((with_reducible refine Step.id ?_); first | ((with_reducible apply Step.move); exact rfl; exact rfl) | ((with_reducible apply Step.assign); exact rfl; exact rfl) | ((with_reducible apply Step.load); exact rfl; (focus (decide +kernel)); exact rfl; (focus (exact rq2 _ _ _ rfl))) | ((with_reducible apply Step.field (k := 4)); exact rfl; (focus (decide +kernel)); exact rfl) | ((with_reducible apply Step.extract); exact rfl; exact rfl; exact rfl)) | (with_reducible refine AWo.nil ?_) | ((with_reducible apply AW.seq)) | ((with_reducible apply Then.n)) | ((with_reducible apply AW.regL))))
      ((with_reducible apply Step.callF fit); exact rfl; exact Try.func44; exact rfl; exact rfl; (focus (rw [List.append_nil]; exact hQ)))
      rintro r3 M3 ⟨rfl, ow3, l3, k3, S3⟩
      have hpl := postF_len B x.l
      have hgr := postF_grow B x.l
      obtain ⟨e1, e2⟩ := post_eq hG x.l
      rw [e1]
      rw [← e2] at S3
      have hD := hSX.books S3 (hG.post _) hpl hgr
      rw [← List.append_nil M3]
      (repeat (first | (with_reducible refine AWo.cons ?_) | ((with_reducible refine Step.id ?_); first | ((with_reducible apply Step.gdT); exact rfl; exact rfl; (focus ((simp; done)))) | ((with_reducible apply Step.move); exact rfl; exact rfl) | ((with_reducible apply Step.assign); exact rfl; exact rfl) | ((with_reducible apply Step.eql); exact rfl; exact rfl; exact rfl) | ((with_reducible apply Step.extract); exact rfl; exact rfl; exact rfl) | ((with_reducible apply Step.pickT); exact rfl; exact rfl; exact rfl; exact rfl; (focus ((simp; done))))) | (with_reducible refine AWo.nil ?_) | ((with_reducible apply AW.seq)) | ((with_reducible apply Then.n)) | ((with_reducible apply AW.regL))))
      (refine AW.ret ?_; (repeat (first | refine Then.r ?_ | refine InBlk.r ?_)))
      exact ⟨_, rfl, ow3, av, _, ks, by simp, by rw [List.append_nil]; exact hD⟩
    · (repeat (first | (with_reducible refine AWo.cons ?_) | ((with_reducible refine Step.id ?_); first | ((with_reducible apply Step.move); exact rfl; exact rfl) | ((with_reducible apply Step.assign); exact rfl; exact rfl) | ((with_reducible apply Step.load); exact rfl; (focus (decide +kernel)); exact rfl; (focus (exact rqX _ _ _ rfl))) | ((with_reducible apply Step.field (k := 2)); exact rfl; (focus (decide +kernel)); exact rfl) | ((with_reducible apply Step.eql); exact rfl; exact rfl; exact rfl)) | (with_reducible refine AWo.nil ?_) | ((with_reducible apply AW.seq)) | ((with_reducible apply Then.n)) | ((with_reducible apply AW.regL)) | ((with_reducible apply AW.block)) | ((with_reducible apply AW.condT); exact rfl; (focus (rfl))) | ((with_reducible apply AW.condF); exact rfl; (focus (rfl)))))
      ((with_reducible apply Step.callF fit); exact rfl; exact Try.func42; exact rfl; exact rfl; (focus (rw [List.append_nil]; exact hSX.side.pReverse x.n hG (by omega))))
      rintro r2 M2 ⟨rfl, ow2, l2, k2, S2⟩
      have rq2 := fun T => rq M2 T (Lft.rd l2 k2 hoA hbA).1
      have hQ := S2.rReverse x.n hG.ok hG.small (by omega) (by omega)
      rw [← List.append_nil M2]
      (repeat (first | (with_reducible refine AWo.cons ?_) | ((with_reducible refine Step.id ?_); first | ((with_reducible apply Step.move); exact rfl; exact rfl) | ((with_reducible apply Step.assign); exact rfl; exact rfl) | ((with_reducible apply Step.load); exact rfl; (focus (decide +kernel)); exact rfl; (focus (exact rq2 _ _ _ rfl))) | ((with_reducible apply Step.field (k := 2)); exact rfl; (focus (decide +kernel)); exact rfl) | ((with_reducible apply Step.extract); exact rfl; exact rfl; exact rfl)) | (with_reducible refine AWo.nil ?_) | ((with_reducible apply AW.seq)) | ((with_reducible apply Then.n)) | ((with_reducible apply AW.regL))))
      ((with_reducible apply Step.callF fit); exact rfl; exact Try.func105; exact rfl; exact rfl; (focus (rw [List.append_nil]; exact hQ)))
      rintro r3 M3 ⟨rfl, ow3, l3, k3, S3⟩
      obtain ⟨hG2, hpl⟩ := rvB_good hG x.n
      obtain ⟨e1, e2⟩ := reverse_eq hG x.n
      rw [e1]
      rw [← e2] at S3
      have hD := hSX.books S3 hG2 hpl (rvB_grow B x.n)
      rw [← List.append_nil M3]
      (repeat (first | (with_reducible refine AWo.cons ?_) | ((with_reducible refine Step.id ?_); first | ((with_reducible apply Step.gdT); exact rfl; exact rfl; (focus ((simp; done)))) | ((with_reducible apply Step.move); exact rfl; exact rfl) | ((with_reducible apply Step.assign); exact rfl; exact rfl) | ((with_reducible apply Step.eql); exact rfl; exact rfl; exact rfl) | ((with_reducible apply Step.extract); exact rfl; exact rfl; exact rfl) | ((with_reducible apply Step.pickT); exact rfl; exact rfl; exact rfl; exact rfl; (focus ((simp; done))))) | (with_reducible refine AWo.nil ?_) | ((with_reducible apply AW.seq)) | ((with_reducible apply Then.n)) | ((with_reducible apply AW.regL))))
      (refine AW.ret ?_; (repeat (first | refine Then.r ?_ | refine InBlk.r ?_)))
      exact ⟨_, rfl, ow3, av, _, ks, by simp, by rw [List.append_nil]; exact hD⟩
    · (repeat (first | (with_reducible refine AWo.cons ?_) | ((with_reducible refine Step.id ?_); first | ((with_reducible apply Step.move); exact rfl; exact rfl) | ((with_reducible apply Step.assign); exact rfl; exact rfl) | ((with_reducible apply Step.eql); exact rfl; exact rfl; exact rfl)) | (with_reducible refine AWo.nil ?_) | ((with_reducible apply AW.seq)) | ((with_reducible apply Then.n)) | ((with_reducible apply AW.regL)) | ((with_reducible apply AW.block)) | ((with_reducible apply AW.condT); exact rfl; (focus (rfl))) | ((with_reducible apply AW.condF); exact rfl; (focus (rfl)))))
      ((with_reducible apply Step.callF fit); exact rfl; exact Try.func30; exact rfl; exact rfl; (focus (rw [List.append_nil]; exact hSX.side.pBegin)))
      rintro r2 M2 ⟨rfl, ow2, l2, k2, S2⟩
      rw [← List.append_nil M2]
      (repeat (first | (with_reducible refine AWo.cons ?_) | ((with_reducible refine Step.id ?_); first | ((with_reducible apply Step.move); exact rfl; exact rfl) | ((with_reducible apply Step.assign); exact rfl; exact rfl)) | (with_reducible refine AWo.nil ?_) | ((with_reducible apply AW.seq)) | ((with_reducible apply Then.n)) | ((with_reducible apply AW.regL))))
      ((with_reducible apply Step.callF fit); exact rfl; exact Try.func106; exact rfl; exact rfl; (focus (rw [List.append_nil]; exact S2.rBegin B.H)))
      rintro r3 M3 ⟨rfl, ow3, l3, k3, S3⟩
      have hr3 := S3.pRow
      rw [← List.append_nil M3]
      (repeat (first | (with_reducible refine AWo.cons ?_) | ((with_reducible refine Step.id ?_); first | ((with_reducible apply Step.buildS 0); exact rfl; exact rfl; exact (fun _ _ => bs91); exact rfl; (focus (first | (simp only [List.nil_append, List.cons_append, List.set_cons_zero, List.set_cons_succ, iv_set, bv_set, iv_rep, bv_rep]; done) | (simp only [List.nil_append, List.cons_append, List.set_cons_zero, List.set_cons_succ, iv_set, bv_set, iv_rep, bv_rep]; rfl) | rfl))) | ((with_reducible apply Step.build); exact rfl; exact bl173; exact rfl))))
      ((with_reducible apply Step.appRow2 (n := (prs ks).length) (xl := 1) (b0 := m.length) (new := [.pointer (some ⟨X.length + 1, 0, none⟩), .pointer (some ⟨M2.length, 0, none⟩)])); exact rfl; exact rfl; exact (hr3.old _); exact (Sl.mk (Nat.le_refl _)); exact (fun _ => RdL.new rfl rfl); exact el91; exact un91; exact rfl; exact rfl; exact rfl; (focus (rw [show (prs ks).length = ks.length from List.length_map ..]; omega)); exact rfl; (focus (have := S3.len; rw [List.length_append]; omega)))
      intro u M4 hr4 hml4 hk4 hk5
      have hS4 := (S3.app [some { cells := [.pointer (some ⟨X.length + 1, 0, none⟩), .pointer (some ⟨M2.length, 0, none⟩)] }] 1).pNamed (M3 := M4) (u := u) (c := X.length + 1) (d := M2.length) hr4 hml4 hk4 hk5
      have hD := hSX.hired rfl hS4
      (repeat (first | (with_reducible refine AWo.cons ?_) | ((with_reducible refine Step.id ?_); first | ((with_reducible apply Step.move); exact rfl; exact rfl) | ((with_reducible apply Step.assign); exact rfl; exact rfl) | ((with_reducible apply Step.ptrNotN); exact rfl; exact rfl; exact un57; exact rfl)) | (with_reducible refine AWo.nil ?_) | ((with_reducible apply Then.n))))
      (refine AW.ret ?_; (repeat (first | refine Then.r ?_ | refine InBlk.r ?_)))
      exact ⟨_, rfl, _, u, B, _, rfl, hD⟩
    · obtain ⟨pv, hB⟩ := hSX.side.pBook
      obtain ⟨px, hR⟩ := hSX.side.rBook
      (repeat (first | (with_reducible refine AWo.cons ?_) | ((with_reducible refine Step.id ?_); first | ((with_reducible apply Step.move); exact rfl; exact rfl) | ((with_reducible apply Step.assign); exact rfl; exact rfl) | ((with_reducible apply Step.load); exact rfl; (focus (decide +kernel)); exact rfl; (focus (exact rqX _ _ _ rfl))) | ((with_reducible apply Step.field (k := 2)); exact rfl; (focus (decide +kernel)); exact rfl) | ((with_reducible apply Step.eql); exact rfl; exact rfl; exact rfl)) | (with_reducible refine AWo.nil ?_) | ((with_reducible apply AW.seq)) | ((with_reducible apply Then.n)) | ((with_reducible apply AW.regL)) | ((with_reducible apply AW.block)) | ((with_reducible apply AW.condT); exact rfl; (focus (rfl))) | ((with_reducible apply AW.condF); exact rfl; (focus (rfl)))))
      ((with_reducible apply Step.callX fit); exact rfl; exact Try.func40; exact rfl; exact rfl; (focus (rw [List.append_nil]; exact Find_any x.n hB hG.ok (by omega))))
      rintro r1 M1 ⟨N1, hN1⟩ ⟨u, rfl, su, hu⟩
      rw [List.append_nil] at hN1
      subst hN1
      have rq1 := fun T => rq (X ++ N1) T (get_old N1 hbA)
      (repeat (first | (with_reducible refine AWo.cons ?_) | ((with_reducible refine Step.id ?_); first | ((with_reducible apply Step.move); exact rfl; exact rfl) | ((with_reducible apply Step.assign); exact rfl; exact rfl) | ((with_reducible apply Step.load); exact rfl; (focus (decide +kernel)); exact rfl; (focus (exact rq1 _ _ _ rfl))) | ((with_reducible apply Step.field (k := 2)); exact rfl; (focus (decide +kernel)); exact rfl) | ((with_reducible apply Step.extract); exact rfl; exact rfl; exact rfl)) | (with_reducible refine AWo.nil ?_) | ((with_reducible apply AW.seq)) | ((with_reducible apply Then.n)) | ((with_reducible apply AW.regL))))
      ((with_reducible apply Step.callX fit); exact rfl; exact Try.func107; exact rfl; exact rfl; (focus (rw [List.append_nil]; exact RFind_any x.n (hR.old N1) (by omega))))
      rintro r2 M2 ⟨N2, hN2⟩ ⟨u2, rfl, su2, hu2⟩
      rw [List.append_nil] at hN2
      subst hN2
      have hll := fdL_len x.n hG.ok
      (repeat (first | (with_reducible refine AWo.cons ?_) | ((with_reducible refine Step.id ?_); first | ((with_reducible apply Step.move); exact rfl; exact rfl) | ((with_reducible apply Step.assign); exact rfl; exact rfl) | ((with_reducible apply Step.extract); exact rfl; exact rfl; exact rfl)) | (with_reducible refine AWo.nil ?_) | ((with_reducible apply AW.seq)) | ((with_reducible apply Then.n)) | ((with_reducible apply AW.regL))))
      ((with_reducible apply Step.callX fit); exact rfl; exact Try.func109; exact rfl; exact rfl; (focus (rw [List.append_nil]; exact own_ok (hu.old N2) (by omega))))
      rintro r3 M3 ⟨N3, hN3⟩ hr3
      rw [List.append_nil] at hN3
      subst hN3
      have hE := fun T => EqualU_ok ((hr3.trs (by simp only [List.length_append] at *; omega)).old T) ((hu2.old N3).old T) (by omega)
      have hD := (hSX.app (N1 ++ (N2 ++ N3))).same
      simp only [← List.append_assoc] at hD
      (repeat (first | (with_reducible refine AWo.cons ?_) | ((with_reducible refine Step.id ?_); first | ((with_reducible apply Step.gdT); exact rfl; exact rfl; (focus (rfl))) | ((with_reducible apply Step.move); exact rfl; exact rfl) | ((with_reducible apply Step.assign); exact rfl; exact rfl) | ((with_reducible apply Step.eql); exact rfl; exact rfl; exact rfl) | ((with_reducible apply Step.pickT); exact rfl; exact rfl; exact rfl; exact rfl; (focus (rfl))) | ((with_reducible apply Step.callR fit); exact rfl; exact Try.func108; exact rfl; exact rfl; exact (hE _))) | (with_reducible refine AWo.nil ?_) | ((with_reducible apply Then.n))))
      (refine AW.ret ?_; (repeat (first | refine Then.r ?_ | refine InBlk.r ?_)))
      exact ⟨_, rfl, _, av, B, ks, by simp, by rw [List.append_nil]; exact hD⟩
    · obtain ⟨pv, hB⟩ := hSX.side.pBook
      obtain ⟨px, hR⟩ := hSX.side.rBook
      have k1 := fun T => Held_ok x.n x.m (hB.old T)
      have k2 := fun T => RHeld_ok x.n x.m (hR.old T) hG.small (by omega) (by omega)
      have k4 := fun T => RTotal_ok (m := X ++ T) (.pointer (some ⟨xb, 0, none⟩)) x.m
      rw [held_eq hG] at k1
      have k3 : ∀ T, ACall Try.prog 43 #[.pointer (some ⟨bk, 0, none⟩), .int .i64 x.m] (X ++ T) (Ret (.tuple #[.int .i64 0, .int .i64 (if 0 ≤ x.m ∧ x.m < 16 then 0 else 2)]) (X ++ T)) := fun T => Total_any x.m (hB.old T) hG
      generalize (if 0 ≤ x.m ∧ x.m < 16 then (0 : Int) else 2) = e at k3 k4
      (repeat (first | (with_reducible refine AWo.cons ?_) | ((with_reducible refine Step.id ?_); first | ((with_reducible apply Step.gdT); exact rfl; exact rfl; (focus (first | rfl | (simp; done)))) | ((with_reducible apply Step.move); exact rfl; exact rfl) | ((with_reducible apply Step.assign); exact rfl; exact rfl) | ((with_reducible apply Step.load); exact rfl; (focus (decide +kernel)); exact rfl; (focus (exact rqX _ _ _ rfl))) | ((with_reducible apply Step.field (k := 2)); exact rfl; (focus (decide +kernel)); exact rfl) | ((with_reducible apply Step.field (k := 3)); exact rfl; (focus (decide +kernel)); exact rfl) | ((with_reducible apply Step.eql); exact rfl; exact rfl; exact rfl) | ((with_reducible apply Step.extract); exact rfl; exact rfl; exact rfl) | ((with_reducible apply Step.pickT); exact rfl; exact rfl; exact rfl; exact rfl; (focus (first | rfl | (simp; done)))) | ((with_reducible apply Step.callR fit); exact rfl; exact Try.func32; exact rfl; exact rfl; exact (k1 _)) | ((with_reducible apply Step.callR fit); exact rfl; exact Try.func97; exact rfl; exact rfl; exact (k2 _)) | ((with_reducible apply Step.callR fit); exact rfl; exact Try.func43; exact rfl; exact rfl; exact (k3 _)) | ((with_reducible apply Step.callR fit); exact rfl; exact Try.func110; exact rfl; exact rfl; exact (k4 _))) | (with_reducible refine AWo.nil ?_) | ((with_reducible apply AW.seq)) | ((with_reducible apply Then.n)) | ((with_reducible apply AW.regL)) | ((with_reducible apply AW.block)) | ((with_reducible apply AW.condT); exact rfl; (focus (rfl))) | ((with_reducible apply AW.condF); exact rfl; (focus (rfl)))))
      (refine AW.ret ?_; (repeat (first | refine Then.r ?_ | refine InBlk.r ?_)))
      exact ⟨_, rfl, _, av, B, ks, by simp, (hSX.app _).same⟩
    · rcases hc with ⟨c0', rfl, rfl⟩ | ⟨j, y, hj, rfl, rfl⟩
      · have rpX := fun T => (rp X T hbB).1
        rcases c3 with rfl | rfl | rfl | rfl
        all_goals
          (repeat (first | (with_reducible refine AWo.cons ?_) | ((with_reducible refine Step.id ?_); first | ((with_reducible apply Step.move); exact rfl; exact rfl) | ((with_reducible apply Step.assign); exact rfl; exact rfl) | ((with_reducible apply Step.load); exact rfl; (focus (decide +kernel)); exact rfl; (focus (exact rpX _))) | ((with_reducible apply Step.field0); exact rfl; (focus (decide +kernel)); exact rfl) | ((with_reducible apply Step.ptrNil); exact rfl; exact rfl; exact un57; exact rfl) | ((with_reducible apply Step.eql); exact rfl; exact rfl; exact rfl)) | (with_reducible refine AWo.nil ?_) | ((with_reducible apply AW.seq)) | ((with_reducible apply Then.n)) | ((with_reducible apply AW.regL)) | ((with_reducible apply AW.block)) | ((with_reducible apply AW.condT); exact rfl; (focus (rfl))) | ((with_reducible apply AW.condF); exact rfl; (focus (rfl)))))
          (refine AW.ret ?_; (repeat (first | refine Then.r ?_ | refine InBlk.r ?_)))
          exact ⟨_, rfl, _, av, B, ks, rfl, (hSX.app _).same⟩
      · obtain ⟨g1, g2⟩ := obs_get hj
        have hyc := fun K hK => h.cl y (List.mem_of_getElem? hj) K hK
        obtain ⟨ck, xk, o⟩ := y
        simp only at g1 g2 hyc
        have g3 : ∀ o', ((obs ks).set (j * 2) ⟨false, ck, o'⟩)[j * 2 + 1]? = some ⟨true, xk, o⟩ := fun o' => by rw [List.getElem?_set_ne (by omega)]; exact g2
        have g4 : ∀ o', ((obs ks).set (j * 2 + 1) ⟨true, xk, o'⟩)[j * 2]? = some ⟨false, ck, o⟩ := fun o' => by rw [List.getElem?_set_ne (by omega)]; exact g1
        have rpX := fun T => (rp X T hbB).1
        have rpY := fun T => (rp X T hbB).2
        have hok : ∀ K, o = some K → OKK K := fun K hK => (hyc K hK).1.okk
        rcases c3 with rfl | rfl | rfl | rfl
        · (repeat (first | (with_reducible refine AWo.cons ?_) | ((with_reducible refine Step.id ?_); first | ((with_reducible apply Step.move); exact rfl; exact rfl) | ((with_reducible apply Step.assign); exact rfl; exact rfl) | ((with_reducible apply Step.load); exact rfl; (focus (decide +kernel)); exact rfl; (focus (first | exact rpX _ | exact rqX _ _ _ rfl))) | ((with_reducible apply Step.field0); exact rfl; (focus (decide +kernel)); exact rfl) | ((with_reducible apply Step.field (k := 2)); exact rfl; (focus (decide +kernel)); exact rfl) | ((with_reducible apply Step.field (k := 3)); exact rfl; (focus (decide +kernel)); exact rfl) | ((with_reducible apply Step.ptrNot); exact rfl; exact rfl; exact un57; exact rfl) | ((with_reducible apply Step.eql); exact rfl; exact rfl; exact rfl)) | (with_reducible refine AWo.nil ?_) | ((with_reducible apply AW.seq)) | ((with_reducible apply Then.n)) | ((with_reducible apply AW.regL)) | ((with_reducible apply AW.block)) | ((with_reducible apply AW.condT); exact rfl; (focus (rfl))) | ((with_reducible apply AW.condF); exact rfl; (focus (rfl)))))
          ((with_reducible apply Step.callF fit); exact rfl; exact Try.func31; exact rfl; exact rfl; (focus (rw [List.append_nil]; exact hSX.side.pHeld g1 x.n x.m)))
          rintro r2 M2 ⟨rfl, ow2, l2, k2, S2⟩
          have rq2 := fun T => rq M2 T (Lft.rd l2 k2 hoA hbA).1
          have rp2 := fun T => (rp M2 T (Lft.rd l2 k2 hoB hbB).1).2
          have hQ := S2.rHeld (g3 _) (fun K hK => ⟨(hyc K hK).1, by have := (hyc K hK).2; omega⟩) x.n x.m hG.small (by omega) (by omega)
          rw [← List.append_nil M2]
          (repeat (first | (with_reducible refine AWo.cons ?_) | ((with_reducible refine Step.id ?_); first | ((with_reducible apply Step.move); exact rfl; exact rfl) | ((with_reducible apply Step.assign); exact rfl; exact rfl) | ((with_reducible apply Step.load); exact rfl; (focus (decide +kernel)); exact rfl; (focus (first | exact rp2 _ | exact rq2 _ _ _ rfl))) | ((with_reducible apply Step.field (k := 1)); exact rfl; (focus (decide +kernel)); exact rfl) | ((with_reducible apply Step.field (k := 2)); exact rfl; (focus (decide +kernel)); exact rfl) | ((with_reducible apply Step.field (k := 3)); exact rfl; (focus (decide +kernel)); exact rfl) | ((with_reducible apply Step.extract); exact rfl; exact rfl; exact rfl)) | (with_reducible refine AWo.nil ?_) | ((with_reducible apply AW.seq)) | ((with_reducible apply Then.n)) | ((with_reducible apply AW.regL))))
          ((with_reducible apply Step.callF fit); exact rfl; exact Try.func111; exact rfl; exact rfl; (focus (rw [List.append_nil]; exact hQ)))
          rintro r3 M3 ⟨rfl, ow3, l3, k3, S3⟩
          have hD := hSX.clerks hj S3 hG (by omega) ⟨[], by simp⟩ (fun K hK => by
            cases o with
            | none => cases hK
            | some K0 =>
              injection hK with hK
              subst hK
              exact ⟨(hyc K0 rfl).1.held x.n x.m, by show (chF K0 x.n x.m).2.2.seen.length ≤ N + 1; have := (hyc K0 rfl).1.seen x.n x.m; have := (hyc K0 rfl).2; omega⟩)
          rw [← List.append_nil M3]
          (repeat (first | (with_reducible refine AWo.cons ?_) | ((with_reducible refine Step.id ?_); first | ((with_reducible apply Step.gdT); exact rfl; exact rfl; (focus ((simp; done)))) | ((with_reducible apply Step.move); exact rfl; exact rfl) | ((with_reducible apply Step.assign); exact rfl; exact rfl) | ((with_reducible apply Step.eql); exact rfl; exact rfl; exact rfl) | ((with_reducible apply Step.extract); exact rfl; exact rfl; exact rfl) | ((with_reducible apply Step.pickT); exact rfl; exact rfl; exact rfl; exact rfl; (focus ((simp; done))))) | (with_reducible refine AWo.nil ?_) | ((with_reducible apply AW.seq)) | ((with_reducible apply Then.n)) | ((with_reducible apply AW.regL))))
          (refine AW.ret ?_; (repeat (first | refine Then.r ?_ | refine InBlk.r ?_)))
          exact ⟨_, rfl, ow3, av, _, _, by simp, by rw [List.append_nil]; exact hD⟩
        · have hone : ∀ T, ACall Try.prog 100 #[.agg #[.int .i64 x.kd, .int .i64 x.who, .int .i64 x.n, .int .i64 x.m, w]] (X ++ T) (Ret (x.l.headD default).v (X ++ T)) := fun T => One_ok (hdX.old T) hle
          have rqL : ∀ T, RdL (X ++ T) (M.length + 0) 0 [.int .i64 x.kd, .int .i64 x.who, .int .i64 x.n, .int .i64 x.m, w] := fun T => RdL.old T ⟨_, hbA, fun p v hv => by rw [Nat.zero_add]; exact hv⟩
          generalize x.l.headD default = z at *
          obtain ⟨yi, yf, yt, yn⟩ := z
          (repeat (first | (with_reducible refine AWo.cons ?_) | ((with_reducible refine Step.id ?_); first | ((with_reducible apply Step.move); exact rfl; exact rfl) | ((with_reducible apply Step.assign); exact rfl; exact rfl) | ((with_reducible apply Step.load); exact rfl; (focus (decide +kernel)); exact rfl; (focus (exact rpX _))) | ((with_reducible apply Step.loadL (n := 5)); exact rfl; (focus (decide +kernel)); (focus (decide +kernel)); exact rfl; (focus (exact rqL _)); exact rfl; exact rfl) | ((with_reducible apply Step.field0); exact rfl; (focus (decide +kernel)); exact rfl) | ((with_reducible apply Step.ptrNot); exact rfl; exact rfl; exact un57; exact rfl) | ((with_reducible apply Step.eql); exact rfl; exact rfl; exact rfl) | ((with_reducible apply Step.callR fit); exact rfl; exact Try.func100; exact rfl; exact rfl; exact (hone _)) | ((with_reducible apply Step.alloc 0); exact rfl; exact ze61; exact rfl; (focus (first | (simp only [List.nil_append, List.cons_append, List.set_cons_zero, List.set_cons_succ, iv_set, bv_set, iv_rep, bv_rep]; done) | (simp only [List.nil_append, List.cons_append, List.set_cons_zero, List.set_cons_succ, iv_set, bv_set, iv_rep, bv_rep]; rfl) | rfl))) | ((with_reducible apply Step.storeA (k := 0) (n := 4)); exact rfl; exact rfl; exact rfl; exact rfl; (focus (decide +kernel)); exact rfl; (focus (kernel_rfl)); exact rfl; (focus (first | (simp only [List.nil_append, List.cons_append, List.set_cons_zero, List.set_cons_succ, iv_set, bv_set, iv_rep, bv_rep]; done) | (simp only [List.nil_append, List.cons_append, List.set_cons_zero, List.set_cons_succ, iv_set, bv_set, iv_rep, bv_rep]; rfl) | rfl)))) | (with_reducible refine AWo.nil ?_) | ((fail_if_success (with_reducible refine AW.atR (id := 34) ?_)); ((with_reducible apply AW.seq))) | ((with_reducible apply Then.n)) | ((with_reducible apply AW.regL)) | ((with_reducible apply AW.block)) | ((with_reducible apply AW.condT); exact rfl; (focus (rfl))) | ((with_reducible apply AW.condF); exact rfl; (focus (rfl)))))
          refine AW.weak (fr_all (l := [(2, av), (10, .pointer (some ⟨M.length + 1, 0, none⟩)), (37, .pointer (some ⟨X.length + 0, 0, none⟩))]) (by repeat (first | exact trivial | (refine And.intro rfl ?_)))) ?_
          obtain ⟨Y, hY⟩ : ∃ Y : AM, Y = X ++ [some { cells := [.int .i64 yi, .int .i64 yf, .int .i64 yt, .int .i64 yn] }] := ⟨_, rfl⟩
          have hSY : Desk m (asg owX X.length 1) Y bk xb B av ks N := by rw [hY]; exact hSX.app _
          have hbYB : Y[M.length + 1]? = some (some { cells := [.pointer (some ⟨ck, 0, none⟩), .pointer (some ⟨xk, 0, none⟩)] }) := by rw [hY]; exact get_old _ hbB
          have hbYC : Y[X.length]? = some (some { cells := [.int .i64 yi, .int .i64 yf, .int .i64 yt, .int .i64 yn] }) := by rw [hY, List.getElem?_append_right (Nat.le_refl _), Nat.sub_self]; rfl
          have hoYB : asg owX X.length 1 (M.length + 1) = 1 := by rw [asg_lt (by omega)]; exact hoB
          have hoYC : asg owX X.length 1 X.length = 1 := asg_ge (Nat.le_refl _)
          rw [show (X ++ [some { cells := (Tr.mk yi yf yt yn).v.cells.toList }] : AM) = Y from hY.symm]
          generalize asg owX X.length 1 = owY at *
          have rtL : ∀ (Z T : AM), Z[X.length]? = some (some { cells := [.int .i64 yi, .int .i64 yf, .int .i64 yt, .int .i64 yn] }) → RdL (Z ++ T) (X.length + 0) 0 [.int .i64 yi, .int .i64 yf, .int .i64 yt, .int .i64 yn] := fun Z T hZ => RdL.old T ⟨_, hZ, fun p v hv => by rw [Nat.zero_add]; exact hv⟩
          have rt : ∀ (Z T : AM), Z[X.length]? = some (some { cells := [.int .i64 yi, .int .i64 yf, .int .i64 yt, .int .i64 yn] }) → ∀ (j : Nat) (v : Value), ([.int .i64 yi, .int .i64 yf, .int .i64 yt, .int .i64 yn] : List Value)[j]? = some v → Rd (Z ++ T) (X.length + 0) j v := fun Z T hZ j v hv => Rd.old T ⟨_, hZ, hv⟩
          have rpY := fun T => rp Y T hbYB
          have rtY := fun T => rt Y T hbYC
          have rtLY := fun T => rtL Y T hbYC
          rw [← List.append_nil Y]
          (repeat' (first | ((with_reducible refine Step.id ?_); first | ((with_reducible apply Step.move); exact rfl; exact rfl) | ((with_reducible apply Step.load); exact rfl; (focus (decide +kernel)); exact rfl; (focus (first | exact (rpY _).1 | exact (rpY _).2 | exact rtY _ _ _ rfl))) | ((with_reducible apply Step.loadL (n := 4)); exact rfl; (focus (decide +kernel)); (focus (decide +kernel)); exact rfl; (focus (exact rtLY _)); exact rfl; exact rfl) | ((with_reducible apply Step.field0); exact rfl; (focus (decide +kernel)); exact rfl) | ((with_reducible apply Step.field (k := 1)); exact rfl; (focus (decide +kernel)); exact rfl) | ((with_reducible apply Step.field (k := 2)); exact rfl; (focus (decide +kernel)); exact rfl) | ((with_reducible apply Step.field (k := 3)); exact rfl; (focus (decide +kernel)); exact rfl) | ((with_reducible apply Step.build); exact rfl; exact bl63; exact rfl)) | ((with_reducible apply AW.seq)) | ((with_reducible apply AW.drawT fit (T := (.step 0 (.step 1 (.step 2 (.step 3 (.step 4 (.step 5 (.step 6 (.step 7 (.step 8 (.step 9 (.step 10 (.step 11 (.step 13 (.both (.step 12 (.step 14 (.step 15 (.step 16 (.step 17 (.step 18 (.step 19 .done))))))) (.both (.step 14 (.both (.step 12 (.step 15 (.step 16 (.step 17 (.step 18 (.step 19 .done)))))) (.step 15 (.step 12 (.step 16 (.step 17 (.step 18 (.step 19 .done)))))))) (.step 15 (.both (.step 12 (.step 14 (.step 16 (.step 17 (.step 18 (.step 19 .done)))))) (.step 14 (.step 12 (.step 16 (.step 17 (.step 18 (.step 19 .done))))))))))))))))))))))))); (focus (decide +kernel))) | ((with_reducible apply AWt.step); exact rfl) | refine AWt.both ?_ ?_))
          all_goals
            ((with_reducible apply Step.callF fit); exact rfl; exact Try.func33; exact rfl; exact rfl; (focus (rw [List.append_nil]; exact hSY.side.pMove g1 hok ⟨yi, yf, yt, yn⟩)))
            rintro r2 M2 ⟨rfl, ow2, l2, k2, S2⟩
            have rp2 := fun T => (rp M2 T (Lft.rd l2 k2 hoYB hbYB).1).2
            have rt2 := fun T => rtL M2 T (Lft.rd l2 k2 hoYC hbYC).1
            have hQ := S2.rMove (g3 _) hok ⟨yi, yf, yt, yn⟩
            rw [← List.append_nil M2]
            (repeat' (first | ((with_reducible refine Step.id ?_); first | ((with_reducible apply Step.load); exact rfl; (focus (decide +kernel)); exact rfl; (focus (exact rp2 _))) | ((with_reducible apply Step.loadL (n := 4)); exact rfl; (focus (decide +kernel)); (focus (decide +kernel)); exact rfl; (focus (exact rt2 _)); exact rfl; exact rfl)) | ((with_reducible apply AWt.step); exact rfl)))
            all_goals
              ((with_reducible apply Step.callF fit); exact rfl; exact Try.func112; exact rfl; exact rfl; (focus (rw [List.append_nil]; exact hQ)))
              rintro r3 M3 ⟨rfl, ow3, l3, k3, S3⟩
              have hD := hSY.clerks hj S3 hG (by omega) ⟨[], by simp⟩ (fun K hK => by
                cases o with
                | none => cases hK
                | some K0 =>
                  injection hK with hK
                  subst hK
                  exact ⟨(hyc K0 rfl).1.move _, by show (moF K0 ⟨yi, yf, yt, yn⟩).2.seen.length ≤ N + 1; rw [moF_seen]; have := (hyc K0 rfl).2; omega⟩)
              rw [← List.append_nil M3]
              (repeat' (first | ((with_reducible refine Step.id ?_); first | ((with_reducible apply Step.assign); exact rfl; exact rfl) | ((with_reducible apply Step.eql); exact rfl; exact rfl; exact rfl)) | ((with_reducible apply Then.n)) | ((with_reducible apply AWt.step); exact rfl) | ((with_reducible apply AWt.done))))
              all_goals
                (refine AW.ret ?_; (repeat (first | refine Then.r ?_ | refine InBlk.r ?_)))
                exact ⟨_, rfl, ow3, av, _, _, by simp, by rw [List.append_nil]; exact hD⟩
        · (repeat (first | (with_reducible refine AWo.cons ?_) | ((with_reducible refine Step.id ?_); first | ((with_reducible apply Step.move); exact rfl; exact rfl) | ((with_reducible apply Step.assign); exact rfl; exact rfl) | ((with_reducible apply Step.load); exact rfl; (focus (decide +kernel)); exact rfl; (focus (exact rpX _))) | ((with_reducible apply Step.field0); exact rfl; (focus (decide +kernel)); exact rfl) | ((with_reducible apply Step.ptrNot); exact rfl; exact rfl; exact un57; exact rfl) | ((with_reducible apply Step.eql); exact rfl; exact rfl; exact rfl)) | (with_reducible refine AWo.nil ?_) | ((with_reducible apply AW.seq)) | ((with_reducible apply Then.n)) | ((with_reducible apply AW.regL)) | ((with_reducible apply AW.block)) | ((with_reducible apply AW.condT); exact rfl; (focus (rfl))) | ((with_reducible apply AW.condF); exact rfl; (focus (rfl)))))
          ((with_reducible apply Step.callF fit); exact rfl; exact Try.func41; exact rfl; exact rfl; (focus (rw [List.append_nil]; exact hSX.side.pCommit g1 hok hG.bd (by omega))))
          rintro r2 M2 ⟨rfl, ow2, l2, k2, S2⟩
          have rp2 := fun T => (rp M2 T (Lft.rd l2 k2 hoB hbB).1).2
          have hQ := S2.rCommit (g3 _) (fun K hK => ⟨hok K hK, by have := (hyc K hK).2; omega⟩) hG.small (by omega) (by omega)
          rw [← List.append_nil M2]
          (repeat (first | (with_reducible refine AWo.cons ?_) | ((with_reducible refine Step.id ?_); first | ((with_reducible apply Step.move); exact rfl; exact rfl) | ((with_reducible apply Step.assign); exact rfl; exact rfl) | ((with_reducible apply Step.load); exact rfl; (focus (decide +kernel)); exact rfl; (focus (exact rp2 _))) | ((with_reducible apply Step.field (k := 1)); exact rfl; (focus (decide +kernel)); exact rfl) | ((with_reducible apply Step.extract); exact rfl; exact rfl; exact rfl)) | (with_reducible refine AWo.nil ?_) | ((with_reducible apply AW.seq)) | ((with_reducible apply Then.n)) | ((with_reducible apply AW.regL))))
          ((with_reducible apply Step.callF fit); exact rfl; exact Try.func113; exact rfl; exact rfl; (focus (rw [List.append_nil]; exact hQ)))
          rintro r3 M3 ⟨rfl, ow3, l3, k3, S3⟩
          obtain ⟨e1, e2, e3⟩ := commit_any hG hok
          obtain ⟨hG2, hpl⟩ := cmB_good hG o
          rw [e1]
          rw [← e2] at S3
          have hD := hSX.clerks hj S3 hG2 hpl e3 (fun K hK => by cases hK)
          rw [← List.append_nil M3]
          (repeat (first | (with_reducible refine AWo.cons ?_) | ((with_reducible refine Step.id ?_); first | ((with_reducible apply Step.gdT); exact rfl; exact rfl; (focus ((simp; done)))) | ((with_reducible apply Step.move); exact rfl; exact rfl) | ((with_reducible apply Step.assign); exact rfl; exact rfl) | ((with_reducible apply Step.eql); exact rfl; exact rfl; exact rfl) | ((with_reducible apply Step.extract); exact rfl; exact rfl; exact rfl) | ((with_reducible apply Step.pickT); exact rfl; exact rfl; exact rfl; exact rfl; (focus ((simp; done))))) | (with_reducible refine AWo.nil ?_) | ((with_reducible apply AW.seq)) | ((with_reducible apply Then.n)) | ((with_reducible apply AW.regL))))
          (refine AW.ret ?_; (repeat (first | refine Then.r ?_ | refine InBlk.r ?_)))
          exact ⟨_, rfl, ow3, av, _, _, by simp, by rw [List.append_nil]; exact hD⟩
        · (repeat (first | (with_reducible refine AWo.cons ?_) | ((with_reducible refine Step.id ?_); first | ((with_reducible apply Step.move); exact rfl; exact rfl) | ((with_reducible apply Step.assign); exact rfl; exact rfl) | ((with_reducible apply Step.load); exact rfl; (focus (decide +kernel)); exact rfl; (focus (exact rpX _))) | ((with_reducible apply Step.field0); exact rfl; (focus (decide +kernel)); exact rfl) | ((with_reducible apply Step.ptrNot); exact rfl; exact rfl; exact un57; exact rfl) | ((with_reducible apply Step.eql); exact rfl; exact rfl; exact rfl)) | (with_reducible refine AWo.nil ?_) | ((fail_if_success (with_reducible refine AW.atR (id := 39) ?_)); ((with_reducible apply AW.seq))) | ((with_reducible apply Then.n)) | ((with_reducible apply AW.regL)) | ((with_reducible apply AW.block)) | ((with_reducible apply InBlk.n)) | ((with_reducible apply AW.skip)) | ((with_reducible apply AW.condF); exact rfl; (focus (rfl)))))
          refine AW.weak (fr_all (l := [(2, av), (10, .pointer (some ⟨M.length + 1, 0, none⟩))]) (by repeat (first | exact trivial | (refine And.intro rfl ?_)))) ?_
          (repeat' (first | ((with_reducible refine Step.id ?_); first | ((with_reducible apply Step.move); exact rfl; exact rfl) | ((with_reducible apply Step.load); exact rfl; (focus (decide +kernel)); exact rfl; (focus (first | exact rpX _ | exact rpY _))) | ((with_reducible apply Step.field0); exact rfl; (focus (decide +kernel)); exact rfl) | ((with_reducible apply Step.field (k := 1)); exact rfl; (focus (decide +kernel)); exact rfl)) | ((with_reducible apply AW.seq)) | ((with_reducible apply AW.drawT fit (T := (.step 0 (.step 1 (.step 2 (.step 4 (.both (.step 3 (.step 5 (.step 6 (.step 7 (.step 8 (.step 9 .done)))))) (.step 5 (.step 3 (.step 6 (.step 7 (.step 8 (.step 9 .done))))))))))))); (focus (decide +kernel))) | ((with_reducible apply AWt.step); exact rfl) | refine AWt.both ?_ ?_))
          all_goals
            ((with_reducible apply Step.callF fit); exact rfl; exact Try.func69; exact rfl; exact rfl; (focus (rw [List.append_nil]; exact hSX.side.pDrop g1 hok)))
            rintro r2 M2 ⟨rfl, ow2, l2, k2, S2⟩
            have rp2 := fun T => (rp M2 T (Lft.rd l2 k2 hoB hbB).1).2
            have hQ := S2.rDrop (g3 _) hok
            rw [← List.append_nil M2]
            (repeat' (first | ((with_reducible refine Step.id ?_); ((with_reducible apply Step.load); exact rfl; (focus (decide +kernel)); exact rfl; (focus (exact rp2 _)))) | ((with_reducible apply AWt.step); exact rfl)))
            all_goals
              ((with_reducible apply Step.callF fit); exact rfl; exact Try.func114; exact rfl; exact rfl; (focus (rw [List.append_nil]; exact hQ)))
              rintro r3 M3 ⟨rfl, ow3, l3, k3, S3⟩
              have hD := hSX.clerks hj S3 hG (by omega) ⟨[], by simp⟩ (fun K hK => by cases hK)
              rw [← List.append_nil M3]
              (repeat' (first | ((with_reducible refine Step.id ?_); first | ((with_reducible apply Step.assign); exact rfl; exact rfl) | ((with_reducible apply Step.eql); exact rfl; exact rfl; exact rfl)) | ((with_reducible apply Then.n)) | ((with_reducible apply AWt.step); exact rfl) | ((with_reducible apply AWt.done))))
              all_goals
                (refine AW.ret ?_; (repeat (first | refine Then.r ?_ | refine InBlk.r ?_)))
                exact ⟨_, rfl, ow3, av, _, _, by simp, by rw [List.append_nil]; exact hD⟩
end Go.Proofs.Ytabdnepfcohncaa.Abs
