/- Proved here: what the proof of StockLogs rests on, part 6 of 6. Conditions: those that each theorem names. -/
import Derived.Test.YtabdnepfcohncaaStockLogsK5
namespace Go.Proofs.Ytabdnepfcohncaa.Abs
set_option linter.unusedSimpArgs false
set_option linter.unusedVariables false
open Go.RowKit
open Go.Proofs.Ytabdnepfcohncaa.Sim
open Go.Proofs
section
variable {P : Program} {nt : Nat} {ops : Array Oper} {t : Fm} {m : AM} {K : Fm → AM → Prop} {d T : Nat} {p : String} {af : Array Edge}
end
theorem KLoop.wide {m M : AM} {K T T' : Nat → Prop} {b7 b8 lg : Nat} {D : Dk} {L : Lg} {mb : List UInt8 × List (List UInt8)} {k : Nat} (h : KLoop m M K T b7 b8 lg D L mb k) (hT : ∀ j, T j → T' j) (hK : ∀ j, T' j → K j) (n7 : ¬ T' b7) (n8 : ¬ T' b8) : KLoop m M K T' b7 b8 lg D L mb k :=
 ⟨h.kd, h.iv, h.g, ⟨h.k7.1, n7, h.k7.2.2⟩, ⟨h.k8.1, n8, h.k8.2.2⟩, h.ne, hK, by have := h.x7.app [] hT; rwa [List.append_nil] at this, by have := h.x8.app [] hT; rwa [List.append_nil] at this, h.z7, h.z8⟩
theorem KLoop.set {m M : AM} {K T : Nat → Prop} {b7 b8 lg b : Nat} {D : Dk} {L : Lg} {mb : List UInt8 × List (List UInt8)} {k : Nat} (h : KLoop m M K T b7 b8 lg D L mb k) (hb : K b) (hm : m.length ≤ b) (nt : ¬ T b) (n7 : b ≠ b7) (n8 : b ≠ b8) (x : Option Blk) : KLoop m (M.set b x) K T b7 b8 lg D L mb k :=
 ⟨h.kd.set hb hm x, h.iv, h.g, h.k7, h.k8, h.ne, h.tk, h.x7.other nt (Ne.symm n7) x, h.x8.other nt (Ne.symm n8) x, h.z7, h.z8⟩
structure KMid (m M : AM) (K T : Nat → Prop) (b7 b8 b15 lg : Nat) (D : Dk) (L0 L : Lg) (mb nx : List UInt8 × List (List UInt8)) (k : Nat) (e : Int) : Prop where
 kd : KDL m M K lg D L
 q : KQ L0 nx mb (e, D, L)
 g : L0.c.gen ≤ 4 * k + 1
 k7 : K b7 ∧ ¬ T b7 ∧ m.length ≤ b7
 k8 : K b8 ∧ ¬ T b8 ∧ m.length ≤ b8
 ne : b7 ≠ b8
 n7 : b15 ≠ b7
 n8 : b15 ≠ b8
 tk : ∀ j, T j → K j
 x7 : BoxAt M T b7 L0.c.cc
 x8 : BoxAt M T b8 mb
 xn : BoxAt M T b15 nx
 z7 : Bnd L0.c.cc k
 z8 : Bnd mb k
 zn : Bnd nx (k + 1)
theorem KMid.done {m M : AM} {K T : Nat → Prop} {b7 b8 b15 lg : Nat} {D : Dk} {L0 L : Lg} {mb nx : List UInt8 × List (List UInt8)} {k : Nat} {s r : Value} (h : KMid m M K T b7 b8 b15 lg D L0 L mb nx k 0) (v : CnAt (vw T M) s r nx) : KLoop m ((M.set b7 (some { cells := [s, r] })).set b8 (some { cells := [s, r] })) K T b7 b8 lg D L nx (k + 1) ∧ L.c.cc = nx := by
 rcases h.q with ⟨_, q1, q2, q3⟩ | ⟨q1, _⟩ | ⟨q1, _⟩
 ·simp only at q1 q2 q3
  have h7 := h.kd.set h.k7.1 h.k7.2.2 (some { cells := [s, r] })
  have hx : BoxAt (M.set b7 (some { cells := [s, r] })) T b7 nx := BoxAt.put v h.k7.2.1 (h.kd.lt h.k7.1)
  have v' : CnAt (vw T (M.set b7 (some { cells := [s, r] }))) s r nx := v.sub (vw_sub_set h.k7.2.1 _)
  exact ⟨⟨h7.set h.k8.1 h.k8.2.2 _, q3 nx, by have := h.g; omega, h.k7, h.k8, h.ne, h.tk, by rw [q1]; exact hx.other h.k8.2.1 h.ne _, BoxAt.put v' h.k8.2.1 (h7.lt h.k8.1), by rw [q1]; exact h.zn, h.zn⟩, q1⟩
 ·exact absurd rfl q1
 ·cases q1
theorem Byts.slv {M : AM} {u : Value} {l : List UInt8} (h : Byts M u l) : SlV u := by
 obtain ⟨_, _, hh, _⟩ := h
 rcases hh with ⟨rfl, _⟩ | ⟨c, _, rfl⟩ | ⟨_, _, _, rfl⟩
 ·exact .inl rfl
 ·exact .inr ⟨_, _, _, rfl⟩
 ·exact .inr ⟨_, _, _, rfl⟩
theorem KI.sub {m0 M : AM} {base : List (Nat × Value)} {pv : Nat → Option Value} {s7 uv rc r' : Value} {pc : List Value} {a b : Nat} {L : Nat → Bool} {t : Fm} (h : KI m0 base pv s7 uv pc rc r' a b L t M) (T : Nat → Prop) : Sub (vw T m0) M := ⟨by rw [vw_len]; exact h.len, fun j g hg => by
 obtain ⟨_, q2⟩ := vw_some.1 hg
 rw [h.keep j (List.getElem?_eq_some_iff.1 q2).1]; exact q2⟩
theorem KI.fin {m0 M : AM} {base : List (Nat × Value)} {pv : Nat → Option Value} {s7 uv rc r' : Value} {pc : List Value} {a b x : Nat} {L : Nat → Bool} {t : Fm} {T : Nat → Prop} {snap p : List UInt8} {recs : List (List UInt8)} {r7 : Value} (h : KI m0 base pv s7 uv pc rc r' a b L t M) (hL : ∀ i, i < 11 → L i = true) (hx : x ≤ m0.length) (hT : ∀ j, T j → j < m0.length) (hu : Byts (vw (fun j => x ≤ j) m0) uv p) (hs : Byts (vw T m0) s7 snap) (hp : PaysL (vw T m0) r7 pc recs) :
  t 15 = some (.pointer (some ⟨b, 0, none⟩)) ∧ m0.length ≤ b ∧ m0.length ≤ M.length ∧ (∀ j, j < m0.length → M[j]? = m0[j]?) ∧ M[b]? = some (some { cells := [s7, r'] }) ∧ CnAt (vw (fun j => T j ∨ x ≤ j ∧ j ≠ b) M) s7 r' (snap, recs ++ [p]) := by
 obtain ⟨b1, b2, b3⟩ := h.box (hL 9 (by decide))
 have hl := h.len
 have hsub : ∀ (Q : Nat → Prop), (∀ j, Q j → T j ∨ x ≤ j) → Sub (vw Q m0) (vw (fun j => T j ∨ x ≤ j ∧ j ≠ b) M) := fun Q hQ => ⟨by rw [vw_len, vw_len]; exact hl, fun j g hg => by
  obtain ⟨q1, q2⟩ := vw_some.1 hg
  have hj : j < m0.length := (List.getElem?_eq_some_iff.1 q2).1
  refine vw_some.2 ⟨(hQ j q1).imp id fun e => ⟨e, by omega⟩, by rw [h.keep j hj]; exact q2⟩⟩
 refine ⟨b1, b2, hl, h.keep, (h.box1 (hL 10 (by decide))).1, hs.sub (hsub T fun j hj => .inl hj), pc ++ [uv], ?_⟩
 obtain ⟨g1, _, g3⟩ := hp
 have hlen : (pc ++ [uv]).length = (recs ++ [p]).length := by simp [g1]
 have hrow := (h.app (hL 7 (by decide))).2
 have hnb := h.bx7 (hL 9 (by decide)) (hL 7 (by decide))
 refine ⟨hlen, ?_, fun k u hu' => ?_⟩
 ·rcases hrow with ⟨_, hc, _⟩ | ⟨q, kd, sz, q1, rfl, q2, q3, _⟩
  ·simp at hc
  ·have hql : q < M.length := (List.getElem?_eq_some_iff.1 q2).1
   have hqb : q ≠ b := fun e => hnb _ _ (by rw [e])
   have e1 : (recs ++ [p]).length = pc.length + 1 := by simp [g1]
   refine ⟨q, 0, by rw [e1]; exact Sl.mk (Nat.le_refl _), by rw [vw_len]; exact hql, fun _ => ⟨_, vw_some.2 ⟨.inr ⟨by omega, hqb⟩, q2⟩, fun j v hj => by rw [Nat.zero_add]; exact hj⟩⟩
 ·rcases Nat.lt_or_ge k pc.length with hk | hk
  ·rw [List.getElem?_append_left hk] at hu'
   have := (g3 k u hu').sub (hsub T fun j hj => .inl hj)
   rwa [show (recs ++ [p]).getD k [] = recs.getD k [] by simp only [List.getD_eq_getElem?_getD]; rw [List.getElem?_append_left (by omega)]]
  ·rw [List.getElem?_append_right hk] at hu'
   have hk0 : k - pc.length = 0 := by
    rcases Nat.eq_zero_or_pos (k - pc.length) with e | e
    ·exact e
    ·rw [List.getElem?_eq_none (by simp; omega)] at hu'; cases hu'
   rw [hk0] at hu'
   simp only [List.getElem?_cons_zero, Option.some.injEq] at hu'
   subst hu'
   have := hu.sub (hsub _ fun j hj => .inr hj)
   rwa [show (recs ++ [p]).getD k [] = p by simp only [List.getD_eq_getElem?_getD]; rw [List.getElem?_append_right (by omega), show k - recs.length = 0 by omega]; rfl]
theorem Pre.mono {K K' : Nat → Prop} {A B : AM} (h : Pre K A B) (hK : ∀ j, K' j → K j) : Pre K' A B := ⟨h.len, fun j hj => h.get j (hK j hj)⟩
theorem Pre.app (K : Nat → Prop) (M N : AM) (h : ∀ j, K j → j < M.length) : Pre K M (M ++ N) := ⟨by rw [List.length_append]; omega, fun j hj => List.getElem?_append_left (h j hj)⟩
theorem TwoS.app {m0 M : AM} {K : Nat → Prop} {dk rk : Nat} {D E : Dk} {o1 o2 : Option (Nat × Lg)} (h : TwoS m0 M K dk rk D E o1 o2) (N : AM) : Pre K M (M ++ N) := Pre.app K M N fun _ hj => h.klt hj
theorem fo43b : foB Try.prog 43 1 = some 1 := by kernel_rfl
theorem sz43 : szB Try.prog 43 = some 4 := by kernel_rfl
def aiV (dk rk bx : Nat) (x : Act9) (w : Value) (e : Int) : Nat → Option Value
 | 0 => some (.pointer (some ⟨dk, 0, none⟩))
 | 1 => some (.pointer (some ⟨bx, 0 + 1, none⟩))
 | 2 => some (.int .i64 x.n)
 | 3 => some (.agg (x.cells w).toArray)
 | 5 => some (.int .i64 e)
 | 6 => some (.pointer (some ⟨rk, 0, none⟩))
 | 7 => some (.pointer (some ⟨bx, 0 + 1, none⟩))
 | 8 => some (.int .i64 x.n)
 | 9 => some (.agg (x.cells w).toArray)
 | 11 => some (.int .i64 e)
 | 12 => some (.bool true)
 | _ => none
structure AI (m0 X : AM) (K1 : Nat → Prop) (dk rk : Nat) (D D1 : Dk) (o1 o2 : Option (Nat × Lg)) (p : List UInt8) (base : List (Nat × Value)) (pv : Nat → Option Value) (L : Nat → Bool) (t : Fm) (M : AM) : Prop where
 pre : Pre K1 X M
 old : ∀ e ∈ base, t e.1 = some e.2
 pure : ∀ j v, pv j = some v → L j = true → t (30 + j) = some v
 st : ∃ K' : Nat → Prop, (∀ j, K1 j → K' j) ∧ TwoS m0 M K' dk rk (if L 5 = true then D1 else D) (if L 11 = true then D1 else D) o1 o2 ∧ (L 4 = true → ∃ u, t 34 = some u ∧ Byts (vw K' M) u p) ∧ (L 10 = true → ∃ u, t 40 = some u ∧ Byts (vw K' M) u p)
 six : L 13 = true → t 6 = some (.bool true)
section
variable {m0 X M : AM} {K1 : Nat → Prop} {dk rk : Nat} {D D1 : Dk} {o1 o2 : Option (Nat × Lg)} {p : List UInt8} {base : List (Nat × Value)} {pv : Nat → Option Value} {L : Nat → Bool} {t : Fm}
theorem AI.start (h : ∀ e ∈ base, t e.1 = some e.2) (hT : TwoS m0 X K1 dk rk D D o1 o2) : AI m0 X K1 dk rk D D1 o1 o2 p base pv (fun _ => false) t X where
 pre := Pre.refl _ _
 old := h
 pure := fun _ _ _ q => by cases q
 st := ⟨K1, fun _ h => h, hT, fun q => (by cases q), fun q => (by cases q)⟩
 six := fun q => by cases q
theorem AI.pure' (h : AI m0 X K1 dk rk D D1 o1 o2 p base pv L t M) {j : Nat} {v : Value} (hv : pv j = some v) : ∀ k w, pv k = some w → upL L j k = true → Abs.put t (30 + j) v (30 + k) = some w := fun k w hw hk => by
 by_cases e : k = j
 ·subst e
  rw [hv] at hw
  injection hw with hw
  rw [put_same, hw]
 ·rw [upL_ne L e] at hk
  rw [put_ne t v (by omega)]
  exact h.pure k w hw hk
theorem AI.put (h : AI m0 X K1 dk rk D D1 o1 o2 p base pv L t M) (hb : ∀ e ∈ base, e.1 < 30 ∧ e.1 ≠ 6) {j : Nat} {v : Value} (hv : pv j = some v) (hj : (j == 4 || j == 5 || j == 10 || j == 11 || j == 13) = false) : AI m0 X K1 dk rk D D1 o1 o2 p base pv (upL L j) (Abs.put t (30 + j) v) M := by
 have hj : j ≠ 4 ∧ j ≠ 5 ∧ j ≠ 10 ∧ j ≠ 11 ∧ j ≠ 13 := by simpa [and_assoc] using hj
 exact {
  pre := h.pre
  old := fun e he => by rw [put_ne t v (by have := (hb e he).1; omega)]; exact h.old e he
  pure := h.pure' hv
  st := by
   obtain ⟨K', g1, g2, g3, g4⟩ := h.st
   refine ⟨K', g1, by rw [upL_ne L (by omega), upL_ne L (by omega)]; exact g2, fun q => ?_, fun q => ?_⟩
   ·rw [upL_ne L (by omega)] at q
    rw [put_ne t v (by omega)]
    exact g3 q
   ·rw [upL_ne L (by omega)] at q
    rw [put_ne t v (by omega)]
    exact g4 q
  six := fun q => by rw [upL_ne L (by omega)] at q; rw [put_ne t v (by omega)]; exact h.six q }
theorem AI.setU (h : AI m0 X K1 dk rk D D1 o1 o2 p base pv L t M) (hb : ∀ e ∈ base, e.1 < 30 ∧ e.1 ≠ 6) {j : Nat} (hj : j = 4 ∨ j = 10) (hp : pv j = none) {M' : AM} {u : Value} (hM : ∃ N, M' = M ++ N) (hr : Row M' M.length 1 u (by8 p) p.length) : AI m0 X K1 dk rk D D1 o1 o2 p base pv (upL L j) (Abs.put t (30 + j) u) M' := by
 obtain ⟨N, rfl⟩ := hM
 obtain ⟨K', g1, g2, g3, g4⟩ := h.st
 have hlt : ∀ q, K' q → q < M.length := fun q hq => g2.klt hq
 have h0 : 0 < (M ++ N).length := by
  obtain ⟨_, _, _, _, _, _, g, _⟩ := g2
  have := g.d.lt
  rw [List.length_append]; omega
 have hsub : Sub (vw K' M) (vw (fun q => K' q ∨ M.length ≤ q ∧ q < (M ++ N).length) (M ++ N)) := vw_sub_app N fun q hq => .inl hq
 exact {
  pre := h.pre.trans (Pre.app _ _ _ fun q hq => hlt q (g1 q hq))
  old := fun e he => by rw [put_ne t u (by have := (hb e he).1; omega)]; exact h.old e he
  pure := fun k w hw hk => by
   have e : k ≠ j := fun e => by rw [e, hp] at hw; cases hw
   rw [upL_ne L e] at hk
   rw [put_ne t u (by omega)]
   exact h.pure k w hw hk
  st := by
   refine ⟨fun q => K' q ∨ M.length ≤ q ∧ q < (M ++ N).length, fun q hq => .inl (g1 q hq), by rw [upL_ne L (by omega), upL_ne L (by omega)]; exact g2.grow N, fun q => ?_, fun q => ?_⟩
   ·rcases hj with rfl | rfl
    ·exact ⟨u, put_same .., (Row.vw2 hr fun q hq => .inr ⟨hr.ge_of hq, hr.lt_of hq⟩).byts (by rw [vw_len]; exact h0)⟩
    ·rw [upL_ne L (by omega)] at q
     rw [put_ne t u (by omega)]
     obtain ⟨x, x1, x2⟩ := g3 q
     exact ⟨x, x1, x2.sub hsub⟩
   ·rcases hj with rfl | rfl
    ·rw [upL_ne L (by omega)] at q
     rw [put_ne t u (by omega)]
     obtain ⟨x, x1, x2⟩ := g4 q
     exact ⟨x, x1, x2.sub hsub⟩
    ·exact ⟨u, put_same .., (Row.vw2 hr fun q hq => .inr ⟨hr.ge_of hq, hr.lt_of hq⟩).byts (by rw [vw_len]; exact h0)⟩
  six := fun q => by rw [upL_ne L (by omega)] at q; rw [put_ne t u (by omega)]; exact h.six q }
theorem AI.setD (h : AI m0 X K1 dk rk D D1 o1 o2 p base pv L t M) (hb : ∀ e ∈ base, e.1 < 30 ∧ e.1 ≠ 6) {v : Value} (hv : pv 5 = some v) {K' : Nat → Prop} {M' : AM} (g1 : ∀ j, K1 j → K' j) (hT : TwoS m0 M' K' dk rk D1 (if L 11 = true then D1 else D) o1 o2) (hp : Pre K' M M') (g3 : L 4 = true → ∃ u, t 34 = some u ∧ Byts (vw K' M) u p) (g4 : L 10 = true → ∃ u, t 40 = some u ∧ Byts (vw K' M) u p) : AI m0 X K1 dk rk D D1 o1 o2 p base pv (upL L 5) (Abs.put t 35 v) M' := by
 exact {
  pre := h.pre.trans (hp.mono g1)
  old := fun e he => by rw [put_ne t v (by have := (hb e he).1; omega)]; exact h.old e he
  pure := h.pure' hv
  st := by
   refine ⟨K', g1, by rw [upL_same, upL_ne L (by omega)]; exact hT, fun q => ?_, fun q => ?_⟩
   ·rw [upL_ne L (by omega)] at q
    rw [put_ne t v (by omega)]
    obtain ⟨x, x1, x2⟩ := g3 q
    exact ⟨x, x1, x2.sub hp.sub⟩
   ·rw [upL_ne L (by omega)] at q
    rw [put_ne t v (by omega)]
    obtain ⟨x, x1, x2⟩ := g4 q
    exact ⟨x, x1, x2.sub hp.sub⟩
  six := fun q => by rw [upL_ne L (by omega)] at q; rw [put_ne t v (by omega)]; exact h.six q }
theorem AI.setR (h : AI m0 X K1 dk rk D D1 o1 o2 p base pv L t M) (hb : ∀ e ∈ base, e.1 < 30 ∧ e.1 ≠ 6) {v : Value} (hv : pv 11 = some v) {K' : Nat → Prop} {M' : AM} (g1 : ∀ j, K1 j → K' j) (hT : TwoS m0 M' K' dk rk (if L 5 = true then D1 else D) D1 o1 o2) (hp : Pre K' M M') (g3 : L 4 = true → ∃ u, t 34 = some u ∧ Byts (vw K' M) u p) (g4 : L 10 = true → ∃ u, t 40 = some u ∧ Byts (vw K' M) u p) : AI m0 X K1 dk rk D D1 o1 o2 p base pv (upL L 11) (Abs.put t 41 v) M' := by
 exact {
  pre := h.pre.trans (hp.mono g1)
  old := fun e he => by rw [put_ne t v (by have := (hb e he).1; omega)]; exact h.old e he
  pure := h.pure' hv
  st := by
   refine ⟨K', g1, by rw [upL_same, upL_ne L (by omega)]; exact hT, fun q => ?_, fun q => ?_⟩
   ·rw [upL_ne L (by omega)] at q
    rw [put_ne t v (by omega)]
    obtain ⟨x, x1, x2⟩ := g3 q
    exact ⟨x, x1, x2.sub hp.sub⟩
   ·rw [upL_ne L (by omega)] at q
    rw [put_ne t v (by omega)]
    obtain ⟨x, x1, x2⟩ := g4 q
    exact ⟨x, x1, x2.sub hp.sub⟩
  six := fun q => by rw [upL_ne L (by omega)] at q; rw [put_ne t v (by omega)]; exact h.six q }
theorem AI.setSix (h : AI m0 X K1 dk rk D D1 o1 o2 p base pv L t M) (hb : ∀ e ∈ base, e.1 < 30 ∧ e.1 ≠ 6) (hp : pv 13 = none) : AI m0 X K1 dk rk D D1 o1 o2 p base pv (upL L 13) (Abs.put t 6 (.bool true)) M where
 pre := h.pre
 old := fun e he => by rw [put_ne t _ (hb e he).2]; exact h.old e he
 pure := fun k w hw hk => by
  have e : k ≠ 13 := fun e => by rw [e, hp] at hw; cases hw
  rw [upL_ne L e] at hk
  rw [put_ne t _ (by omega)]
  exact h.pure k w hw hk
 st := by
  obtain ⟨K', g1, g2, g3, g4⟩ := h.st
  refine ⟨K', g1, by rw [upL_ne L (by omega), upL_ne L (by omega)]; exact g2, fun q => ?_, fun q => ?_⟩
  ·rw [upL_ne L (by omega)] at q
   rw [put_ne t _ (by omega)]
   exact g3 q
  ·rw [upL_ne L (by omega)] at q
   rw [put_ne t _ (by omega)]
   exact g4 q
 six := fun _ => put_same ..
end
set_option maxHeartbeats 32000000 in
set_option maxRecDepth 100000 in
theorem touched_ok {m0 M : AM} {K : Nat → Prop} {dk rk : Nat} {D : Dk} {o1 o2 : Option (Nat × Lg)} {x : Act9} {w : Value} (h : TwoS m0 M K dk rk D D o1 o2) (hw : ∀ N, Byts (M ++ N) w x.l ∧ ∀ M', Pre K M M' → Byts M' w x.l) (hl : x.l.length ≤ 9223372036854775807) (hn : x.n ≤ 9223372036854775807) :
  ACall Try.prog 25 #[.pointer (some ⟨dk, 0, none⟩), .pointer (some ⟨rk, 0, none⟩), .agg (x.cells w).toArray] M (fun r M' => r = .bool true ∧ Pre K M M' ∧ ∃ D', TwoS m0 M' K dk rk D' D' o1 o2) := by
 have hw1 : (Value.agg (x.cells w).toArray).cells.all (·.oneCell') = true := Act9.one (hw []).1
 obtain ⟨q6, hq6, eq6⟩ := mod_in x.kd 6 (by omega) (by omega)
 refine ACall.start Try.func25 rfl rfl ?_
 obtain ⟨X, hX⟩ : ∃ X : AM, X = M ++ [some { cells := x.cells w }] := ⟨_, rfl⟩
 have hXl : X.length = M.length + 1 := by rw [hX, List.length_append]; rfl
 have hbX : X[M.length + 0]? = some (some { cells := x.cells w }) := by rw [hX, get_app]; rfl
 have hT := h.grow [some { cells := x.cells w }]
 have hpX := h.app [some { cells := x.cells w }]
 rw [← hX] at hT hpX
 have hwX : Byts X w x.l := by rw [hX]; exact (hw _).1
 obtain ⟨K1, hK1⟩ : ∃ K1 : Nat → Prop, K1 = fun j => K j ∨ M.length ≤ j ∧ j < X.length := ⟨_, rfl⟩
 rw [← hK1] at hT
 have hbK : K1 (M.length + 0) := by rw [hK1]; exact .inr ⟨by omega, by omega⟩
 have hKK : ∀ j, K j → K1 j := fun j hj => by rw [hK1]; exact .inl hj
 have rdx : ∀ (Y : AM), Y[M.length + 0]? = some (some { cells := x.cells w }) → ∀ T, RdL (Y ++ T) (M.length + 0) 0 (x.cells w) ∧ Rd (Y ++ T) (M.length + 0) (0 + 0) (.int .i64 x.kd) ∧ Rd (Y ++ T) (M.length + 0) (0 + 1) (.int .i64 x.n) ∧ Rd (Y ++ T) (M.length + 0) (0 + 2) (.int .i64 x.m) := fun Y hY T =>
  ⟨RdL.old T ⟨_, hY, fun j v hv => by rw [Nat.zero_add]; exact hv⟩, Rd.old T ⟨_, hY, rfl⟩, Rd.old T ⟨_, hY, rfl⟩, Rd.old T ⟨_, hY, rfl⟩⟩
 have rX := rdx X hbX
 have fin : ∀ {M' : AM} {D' : Dk} {K' : Nat → Prop}, TwoS m0 M' K' dk rk D' D' o1 o2 → Pre K1 X M' → (∀ j, K1 j → K' j) → Pre K M M' ∧ ∃ D', TwoS m0 M' K dk rk D' D' o1 o2 := fun h1 h2 h3 => ⟨hpX.trans (h2.mono hKK), _, h1.less fun j hj => h3 j (hKK j hj)⟩
 (repeat (first|(with_reducible refine AWo.cons ?_)|((with_reducible refine Step.id ?_);first|((with_reducible apply Step.assign);exact rfl;exact rfl)|((with_reducible apply Step.box 0);exact rfl;exact rfl;((first|assumption|exact hw1));exact rfl;((first|(simp only [zq7, zq8, zq9, zq0, iv_set, bv_set, iv_rep, bv_rep] <;> rfl)|rfl))))|(with_reducible apply AWo.nil)|((fail_if_success (with_reducible refine AW.atR (id := 1) ?_));(with_reducible apply AW.seq))|(with_reducible first|apply Then.n|apply AW.regL)))
 rw [show (M ++ [some { cells := (Value.agg (x.cells w).toArray).cells.toList }] : AM) = X from hX.symm]
 generalize M.length + 0 = bx at *
 rw [← List.append_nil X]
 (repeat (first|(with_reducible refine AWo.cons ?_)|((with_reducible refine Step.id ?_);first|((with_reducible apply Step.load);exact rfl;((decide +kernel));exact rfl;((exact (rX _).2.1)))|((with_reducible apply Step.field0);exact rfl;((decide +kernel));exact rfl))|(with_reducible first|apply AW.seq|apply AW.regL)))
 ((with_reducible apply Step.conv);exact rfl;exact un3;exact un31;exact rfl;exact rfl)
 (repeat ((with_reducible refine AWo.cons ?_)))
 ((with_reducible apply Step.remU);exact rfl;exact rfl;exact (wrapU _);((omega));exact rfl)
 (repeat ((with_reducible refine AWo.cons ?_)))
 ((with_reducible apply Step.conv);exact rfl;exact un31;exact un3;exact eq6;exact rfl)
 by_cases c0 : q6 = 0
 ·subst c0
  have hsm := fun (Y : AM) (hY : Pre K1 X Y) => small_ok (kd := x.kd) (n := x.n) (k := x.m) (m := Y) (w := w) ((hw []).2 Y (hpX.trans (hY.mono hKK))) hl
  have hp3 : (x.l.take 3000).length ≤ 1000000000 := by rw [List.length_take]; omega
  (repeat (first|(with_reducible refine AWo.cons ?_)|((with_reducible refine Step.id ?_);first|((with_reducible apply Step.assign);exact rfl;exact rfl)|((with_reducible apply Step.eql);exact rfl;exact rfl;exact rfl))|(with_reducible apply AWo.nil)|((fail_if_success (with_reducible refine AW.atR (id := 5) ?_));(with_reducible apply AW.seq))|(with_reducible first|apply Then.n|apply AW.regL|apply AW.block)|((with_reducible apply AW.condT);exact rfl;((rfl)))))
  rw [List.append_nil]
  refine AW.seq ?_
  refine AW.anyI fit (AI m0 X K1 dk rk D (apF D x.n (x.l.take 3000)).2 o1 o2 (x.l.take 3000) [(0, .pointer (some ⟨dk, 0, none⟩)), (1, .pointer (some ⟨rk, 0, none⟩)), (5, .pointer (some ⟨bx, 0, none⟩))] (aiV dk rk bx x w (apF D x.n (x.l.take 3000)).1)) (by decide +kernel) (AI.start (fun e he => ?_) hT) ?_ ?_
  ·simp only [List.mem_cons, List.not_mem_nil, or_false] at he
   rcases he with rfl | rfl | rfl <;> rfl
  ·have hbs : ∀ e ∈ [(0, Value.pointer (some ⟨dk, 0, none⟩)), (1, .pointer (some ⟨rk, 0, none⟩)), (5, .pointer (some ⟨bx, 0, none⟩))], e.1 < 30 ∧ e.1 ≠ 6 := fun e he => by
    simp only [List.mem_cons, List.not_mem_nil, or_false] at he
    rcases he with rfl | rfl | rfl <;> simp
   intro j o ho L' t' M' hI hLi hdep
   have rc := rdx M' (by rw [hI.pre.get bx hbK]; exact hbX) []
   rw [List.append_nil] at rc
   rcases j with _ | _ | _ | _ | _ | _ | _ | _ | _ | _ | _ | _ | _ | _ | j
   ·injection ho with ho; subst ho
    exact Step.move (x := .tmp 0) (hI.old (0, _) (.head _)) rfl (hI.put hbs (j := 0) rfl rfl)
   ·injection ho with ho; subst ho
    exact Step.field (x := .tmp 5) (k := 1) (hI.old (5, _) (.tail _ (.tail _ (.head _)))) fo43b rfl (hI.put hbs (j := 1) rfl rfl)
   ·injection ho with ho; subst ho
    exact Step.load (x := .tmp 31) (hI.pure 1 _ rfl (hdep 1 (by decide))) (by decide +kernel) rfl rc.2.2.1 (hI.put hbs (j := 2) rfl rfl)
   ·injection ho with ho; subst ho
    exact Step.loadL (x := .tmp 5) (n := 4) (hI.old (5, _) (.tail _ (.tail _ (.head _)))) (by decide +kernel) sz43 rfl rc.1 rfl rfl (hI.put hbs (j := 3) rfl rfl)
   ·injection ho with ho; subst ho
    have d1 : t' 33 = _ := hI.pure 3 _ rfl (hdep 3 (by decide))
    refine Step.callX fit (vs := [.agg (x.cells w).toArray]) (by simp [evL, evo, d1]) Try.func49 rfl rfl (hsm M' hI.pre) fun u M2 hN hr => ?_
    rw [List.append_nil]
    exact hI.setU hbs (j := 4) (.inl rfl) rfl hN hr
   ·injection ho with ho; subst ho
    have d1 : t' 30 = _ := hI.pure 0 _ rfl (hdep 0 (by decide))
    have d2 : t' 32 = _ := hI.pure 2 _ rfl (hdep 2 (by decide))
    obtain ⟨K', g1, g2, g3, g3'⟩ := hI.st
    obtain ⟨u, g4, g5⟩ := g3 (hdep 4 (by decide))
    rw [if_neg (by rw [hLi]; simp)] at g2
    refine Step.callF fit (vs := [.pointer (some ⟨dk, 0, none⟩), .int .i64 x.n, u]) (by simp [evL, evo, d1, d2, g4]) Try.func48 rfl rfl (T_append g2 x.n g5 hp3) ?_
    rintro r2 M2 ⟨rfl, hT2, hp2⟩
    exact hI.setD hbs rfl g1 hT2 hp2 g3 g3'
   ·injection ho with ho; subst ho
    exact Step.move (x := .tmp 1) (hI.old (1, _) (.tail _ (.head _))) rfl (hI.put hbs (j := 6) rfl rfl)
   ·injection ho with ho; subst ho
    exact Step.field (x := .tmp 5) (k := 1) (hI.old (5, _) (.tail _ (.tail _ (.head _)))) fo43b rfl (hI.put hbs (j := 7) rfl rfl)
   ·injection ho with ho; subst ho
    exact Step.load (x := .tmp 37) (hI.pure 7 _ rfl (hdep 7 (by decide))) (by decide +kernel) rfl rc.2.2.1 (hI.put hbs (j := 8) rfl rfl)
   ·injection ho with ho; subst ho
    exact Step.loadL (x := .tmp 5) (n := 4) (hI.old (5, _) (.tail _ (.tail _ (.head _)))) (by decide +kernel) sz43 rfl rc.1 rfl rfl (hI.put hbs (j := 9) rfl rfl)
   ·injection ho with ho; subst ho
    have d1 : t' 39 = _ := hI.pure 9 _ rfl (hdep 9 (by decide))
    refine Step.callX fit (vs := [.agg (x.cells w).toArray]) (by simp [evL, evo, d1]) Try.func49 rfl rfl (hsm M' hI.pre) fun u M2 hN hr => ?_
    rw [List.append_nil]
    exact hI.setU hbs (j := 10) (.inr rfl) rfl hN hr
   ·injection ho with ho; subst ho
    have d1 : t' 36 = _ := hI.pure 6 _ rfl (hdep 6 (by decide))
    have d2 : t' 38 = _ := hI.pure 8 _ rfl (hdep 8 (by decide))
    obtain ⟨K', g1, g2, g3, g3'⟩ := hI.st
    obtain ⟨u, g4, g5⟩ := g3' (hdep 10 (by decide))
    rw [if_neg (by rw [hLi]; simp : ¬ L' 11 = true)] at g2
    refine Step.callF fit (vs := [.pointer (some ⟨rk, 0, none⟩), .int .i64 x.n, u]) (by simp [evL, evo, d1, d2, g4]) Try.func77 rfl rfl (RT_append g2 x.n g5 hp3) ?_
    rintro r2 M2 ⟨rfl, hT2, hp2⟩
    exact hI.setR hbs rfl g1 hT2 hp2 g3 g3'
   ·injection ho with ho; subst ho
    have d1 : t' 35 = _ := hI.pure 5 _ rfl (hdep 5 (by decide))
    have d2 : t' 41 = _ := hI.pure 11 _ rfl (hdep 11 (by decide))
    exact Step.eql (x := .tmp 35) (y := .tmp 41) d1 d2 rfl (by rw [decide_eq_true rfl]; exact hI.put hbs (j := 12) rfl rfl)
   ·injection ho with ho; subst ho
    have d1 : t' 42 = _ := hI.pure 12 _ rfl (hdep 12 (by decide))
    exact Step.assign (x := .tmp 42) d1 rfl (hI.setSix hbs rfl)
   ·simp at ho
  ·intro L' t' M' hall hI
   refine Then.n ?_
   obtain ⟨K', g1, g2, _⟩ := hI.st
   rw [if_pos (hall 5 (by decide)), if_pos (hall 11 (by decide))] at g2
   have h6 := hI.six (hall 13 (by decide))
   refine AW.weak (t1 := fr [(6, .bool true)]) (fr_all ⟨h6, trivial⟩) ?_
   rw [← List.append_nil M']
   (repeat ((with_reducible refine AWo.cons ?_)))
   (refine AW.ret ?_; (repeat (first | refine Then.r ?_ | refine InBlk.r ?_)))
   rw [List.append_nil]
   exact ⟨_, rfl, rfl, fin g2 hI.pre g1⟩
 ·by_cases c1 : q6 = 1
  ·subst c1
   (repeat' (first|(with_reducible refine AWo.cons ?_)|((with_reducible refine Step.id ?_);first|((with_reducible apply Step.move);exact rfl;exact rfl)|((with_reducible apply Step.assign);exact rfl;exact rfl)|((with_reducible apply Step.load);exact rfl;((decide +kernel));exact rfl;((exact (rX _).2.2.1)))|((with_reducible apply Step.field (k := 1));exact rfl;((decide +kernel));exact rfl)|((with_reducible apply Step.eql);exact rfl;exact rfl;exact rfl))|(with_reducible first|apply AWo.nil|apply AW.seq|apply Then.n|apply AW.regL|apply AW.block)|((with_reducible apply AW.drawT fit (T := (.step 0 (.step 1 (.step 2 (.step 4 (.step 5 (.both (.step 3 (.step 6 (.step 7 (.step 8 (.step 9 .done))))) (.step 6 (.step 3 (.step 7 (.step 8 (.step 9 .done)))))))))))));((decide +kernel)))|((with_reducible apply AWt.step);exact rfl)|((with_reducible apply AW.condT);exact rfl;((rfl)))|((with_reducible apply AW.condF);exact rfl;((rfl)))|refine AWt.both ?_ ?_))
   all_goals ((with_reducible apply Step.callF fit);exact rfl;exact Try.func66;exact rfl;exact rfl;((rw [List.append_nil];exact T_sync hT x.n)))
   all_goals rintro r2 M2 ⟨rfl, hT2, hp2⟩
   all_goals have rX2 := rdx M2 (by rw [hp2.get bx hbK]; exact hbX)
   all_goals rw [← List.append_nil M2]
   all_goals (repeat' (first|((with_reducible refine Step.id ?_);((with_reducible apply Step.load);exact rfl;((decide +kernel));exact rfl;((exact (rX2 _).2.2.1))))|((with_reducible apply AWt.step);exact rfl)))
   all_goals ((with_reducible apply Step.callF fit);exact rfl;exact Try.func78;exact rfl;exact rfl;((rw [List.append_nil];exact RT_sync hT2 x.n)))
   all_goals rintro r4 M4 ⟨rfl, hT4, hp4⟩
   all_goals generalize (syF D x.n).1 = e at *
   all_goals rw [← List.append_nil M4]
   all_goals (repeat' (first|((with_reducible refine Step.id ?_);first|((with_reducible apply Step.assign);exact rfl;exact rfl)|((with_reducible apply Step.eql);exact rfl;exact rfl;exact rfl))|(with_reducible apply Then.n)|((with_reducible apply AWt.step);exact rfl)|(with_reducible apply AWt.done)))
   all_goals (refine AW.ret ?_; (repeat (first | refine Then.r ?_ | refine InBlk.r ?_)))
   all_goals rw [List.append_nil]
   all_goals exact ⟨_, rfl, by simp, fin hT4 (hp2.trans hp4) fun _ hj => hj⟩
  ·by_cases c2 : q6 = 2
   ·subst c2
    (repeat' (first|(with_reducible refine AWo.cons ?_)|((with_reducible refine Step.id ?_);first|((with_reducible apply Step.move);exact rfl;exact rfl)|((with_reducible apply Step.assign);exact rfl;exact rfl)|((with_reducible apply Step.load);exact rfl;((decide +kernel));exact rfl;((exact (rX _).2.2.1)))|((with_reducible apply Step.field (k := 1));exact rfl;((decide +kernel));exact rfl)|((with_reducible apply Step.eql);exact rfl;exact rfl;exact rfl))|(with_reducible first|apply AWo.nil|apply AW.seq|apply Then.n|apply AW.regL|apply AW.block)|((with_reducible apply AW.drawT fit (T := (.step 0 (.step 1 (.step 2 (.step 4 (.step 5 (.both (.step 3 (.step 6 (.step 7 (.step 8 (.step 9 .done))))) (.step 6 (.step 3 (.step 7 (.step 8 (.step 9 .done)))))))))))));((decide +kernel)))|((with_reducible apply AWt.step);exact rfl)|((with_reducible apply AW.condT);exact rfl;((rfl)))|((with_reducible apply AW.condF);exact rfl;((rfl)))|refine AWt.both ?_ ?_))
    all_goals ((with_reducible apply Step.callF fit);exact rfl;exact Try.func67;exact rfl;exact rfl;((rw [List.append_nil];exact T_clear hT x.n)))
    all_goals rintro r2 M2 ⟨rfl, hT2, hp2⟩
    all_goals have rX2 := rdx M2 (by rw [hp2.get bx hbK]; exact hbX)
    all_goals rw [← List.append_nil M2]
    all_goals (repeat' (first|((with_reducible refine Step.id ?_);((with_reducible apply Step.load);exact rfl;((decide +kernel));exact rfl;((exact (rX2 _).2.2.1))))|((with_reducible apply AWt.step);exact rfl)))
    all_goals ((with_reducible apply Step.callF fit);exact rfl;exact Try.func79;exact rfl;exact rfl;((rw [List.append_nil];exact RT_clear hT2 x.n)))
    all_goals rintro r4 M4 ⟨rfl, hT4, hp4⟩
    all_goals generalize (clF D x.n).1 = e at *
    all_goals rw [← List.append_nil M4]
    all_goals (repeat' (first|((with_reducible refine Step.id ?_);first|((with_reducible apply Step.assign);exact rfl;exact rfl)|((with_reducible apply Step.eql);exact rfl;exact rfl;exact rfl))|(with_reducible apply Then.n)|((with_reducible apply AWt.step);exact rfl)|(with_reducible apply AWt.done)))
    all_goals (refine AW.ret ?_; (repeat (first | refine Then.r ?_ | refine InBlk.r ?_)))
    all_goals rw [List.append_nil]
    all_goals exact ⟨_, rfl, by simp, fin hT4 (hp2.trans hp4) fun _ hj => hj⟩
   ·by_cases c3 : q6 = 3
    ·subst c3
     (repeat (first|(with_reducible refine AWo.cons ?_)|((with_reducible refine Step.id ?_);first|((with_reducible apply Step.move);exact rfl;exact rfl)|((with_reducible apply Step.assign);exact rfl;exact rfl)|((with_reducible apply Step.load);exact rfl;((decide +kernel));exact rfl;((exact (rX _).2.2.1)))|((with_reducible apply Step.field (k := 1));exact rfl;((decide +kernel));exact rfl)|((with_reducible apply Step.eql);exact rfl;exact rfl;exact rfl))|(with_reducible first|apply AWo.nil|apply AW.seq|apply Then.n|apply AW.regL|apply AW.block)|((with_reducible apply AW.condT);exact rfl;((rfl)))|((with_reducible apply AW.condF);exact rfl;((rfl)))))
     ((with_reducible apply Step.callX fit);exact rfl;exact Try.func53;exact rfl;exact rfl;((rw [List.append_nil];exact T_read hT x.n)))
     rintro r2 M2 ⟨N2, hN2⟩ ⟨u2, rfl, hu2⟩
     rw [List.append_nil] at hN2
     have hT2 := hT.grow N2
     have hp2 := hT.app N2
     rw [← hN2] at hT2 hp2
     have rX2 := rdx M2 (by rw [hp2.get bx hbK]; exact hbX)
     have hM2l : 0 < M2.length := by rw [hN2, List.length_append]; omega
     (repeat (first|(with_reducible refine AWo.cons ?_)|((with_reducible refine Step.id ?_);first|((with_reducible apply Step.move);exact rfl;exact rfl)|((with_reducible apply Step.assign);exact rfl;exact rfl)|((with_reducible apply Step.load);exact rfl;((decide +kernel));exact rfl;((exact (rX2 _).2.2.1)))|((with_reducible apply Step.field (k := 1));exact rfl;((decide +kernel));exact rfl)|((with_reducible apply Step.extract);exact rfl;exact rfl;exact rfl))|(with_reducible first|apply AWo.nil|apply AW.seq|apply Then.n|apply AW.regL)))
     ((with_reducible apply Step.callX fit);exact rfl;exact Try.func80;exact rfl;exact rfl;((rw [List.append_nil];exact RT_read hT2 x.n)))
     rintro r3 M3 ⟨N3, hN3⟩ ⟨u3, rfl, hu3⟩
     rw [List.append_nil] at hN3
     have hT3 := hT2.grow N3
     have hp3 := hT2.app N3
     rw [← hN3] at hT3 hp3
     have hb2 : Byts M3 u2 (rdF D x.n).1 := by rw [hN3]; exact (hu2.old N3).byts (by rw [List.length_append]; omega)
     have hb3 : Byts M3 u3 (rdF D x.n).1 := hu3.byts (by rw [hN3, List.length_append]; omega)
     have hE : ∀ T, ACall Try.prog 19 #[u2, u3] (M3 ++ T) (Ret (.bool true) (M3 ++ T)) := fun T => by
      have := Equal_ok (hb2.old T) (hb3.old T)
      rwa [beq_self_eq_true] at this
     generalize (rdF D x.n).2 = e at *
     (repeat (first|(with_reducible refine AWo.cons ?_)|((with_reducible refine Step.id ?_);first|((with_reducible apply Step.gdT);exact rfl;exact rfl;((rfl)))|((with_reducible apply Step.move);exact rfl;exact rfl)|((with_reducible apply Step.assign);exact rfl;exact rfl)|((with_reducible apply Step.eql);exact rfl;exact rfl;exact rfl)|((with_reducible apply Step.extract);exact rfl;exact rfl;exact rfl)|((with_reducible apply Step.pickT);exact rfl;exact rfl;exact rfl;exact rfl;((rfl)))|((with_reducible apply Step.callR fit);exact rfl;exact Try.func19;exact rfl;exact rfl;exact (hE _)))|(with_reducible first|apply AWo.nil|apply AW.seq|apply Then.n|apply AW.regL)))
     (refine AW.ret ?_; (repeat (first | refine Then.r ?_ | refine InBlk.r ?_)))
     rw [List.append_nil]
     exact ⟨_, rfl, by simp, fin hT3 (hp2.trans (hp3.mono fun j hj => .inl hj)) fun j hj => .inl (.inl hj)⟩
    ·by_cases c4 : q6 = 4
     ·subst c4
      (repeat (first|(with_reducible refine AWo.cons ?_)|((with_reducible refine Step.id ?_);first|((with_reducible apply Step.move);exact rfl;exact rfl)|((with_reducible apply Step.assign);exact rfl;exact rfl)|((with_reducible apply Step.load);exact rfl;((decide +kernel));exact rfl;((exact (rX _).2.2.1)))|((with_reducible apply Step.field (k := 1));exact rfl;((decide +kernel));exact rfl)|((with_reducible apply Step.eql);exact rfl;exact rfl;exact rfl))|(with_reducible first|apply AWo.nil|apply AW.seq|apply Then.n|apply AW.regL|apply AW.block)|((with_reducible apply AW.condT);exact rfl;((rfl)))|((with_reducible apply AW.condF);exact rfl;((rfl)))))
      ((with_reducible apply Step.callF fit);exact rfl;exact Try.func58;exact rfl;exact rfl;((rw [List.append_nil];exact T_fuse hT x.n hn)))
      rintro r2 M2 ⟨rfl, hT2, hp2⟩
      have rX2 := rdx M2 (by rw [hp2.get bx hbK]; exact hbX)
      rw [← List.append_nil M2]
      (repeat (first|(with_reducible refine AWo.cons ?_)|((with_reducible refine Step.id ?_);first|((with_reducible apply Step.move);exact rfl;exact rfl)|((with_reducible apply Step.load);exact rfl;((decide +kernel));exact rfl;((exact (rX2 _).2.2.1)))|((with_reducible apply Step.field (k := 1));exact rfl;((decide +kernel));exact rfl))|(with_reducible first|apply AWo.nil|apply Then.n|apply AW.regL)))
      ((with_reducible apply Step.callF fit);exact rfl;exact Try.func81;exact rfl;exact rfl;((rw [List.append_nil];exact RT_fuse hT2 x.n hn)))
      rintro r4 M4 ⟨rfl, hT4, hp4⟩
      rw [← List.append_nil M4]
      (repeat (first|(with_reducible refine AWo.cons ?_)|((with_reducible refine Step.id ?_);((with_reducible apply Step.assign);exact rfl;exact rfl))|(with_reducible first|apply AWo.nil|apply AW.seq|apply Then.n|apply AW.regL|apply InBlk.n)))
      (refine AW.ret ?_; (repeat (first | refine Then.r ?_ | refine InBlk.r ?_)))
      rw [List.append_nil]
      exact ⟨_, rfl, rfl, fin hT4 (hp2.trans hp4) fun _ hj => hj⟩
     ·(repeat (first|(with_reducible refine AWo.cons ?_)|((with_reducible refine Step.id ?_);first|((with_reducible apply Step.move);exact rfl;exact rfl)|((with_reducible apply Step.assign);exact rfl;exact rfl)|((with_reducible apply Step.load);exact rfl;((decide +kernel));exact rfl;((first|exact (rX _).2.2.1|exact (rX _).2.2.2)))|((with_reducible apply Step.field (k := 1));exact rfl;((decide +kernel));exact rfl)|((with_reducible apply Step.field (k := 2));exact rfl;((decide +kernel));exact rfl)|((with_reducible apply Step.eql);exact rfl;exact rfl;exact rfl))|(with_reducible first|apply AWo.nil|apply AW.seq|apply Then.n|apply AW.regL|apply AW.block)|((with_reducible apply AW.condF);exact rfl;(((simp only [zq1, zq2, zq3, zq4, zq5, zq6];first|assumption|omega))))))
      ((with_reducible apply Step.callF fit);exact rfl;exact Try.func52;exact rfl;exact rfl;((rw [List.append_nil];exact T_crash hT x.n x.m)))
      rintro r2 M2 ⟨rfl, hT2, hp2⟩
      have rX2 := rdx M2 (by rw [hp2.get bx hbK]; exact hbX)
      rw [← List.append_nil M2]
      (repeat (first|(with_reducible refine AWo.cons ?_)|((with_reducible refine Step.id ?_);first|((with_reducible apply Step.move);exact rfl;exact rfl)|((with_reducible apply Step.load);exact rfl;((decide +kernel));exact rfl;((first|exact (rX2 _).2.2.1|exact (rX2 _).2.2.2)))|((with_reducible apply Step.field (k := 1));exact rfl;((decide +kernel));exact rfl)|((with_reducible apply Step.field (k := 2));exact rfl;((decide +kernel));exact rfl))|(with_reducible first|apply AWo.nil|apply Then.n|apply AW.regL)))
      ((with_reducible apply Step.callF fit);exact rfl;exact Try.func82;exact rfl;exact rfl;((rw [List.append_nil];exact RT_crash hT2 x.n x.m)))
      rintro r4 M4 ⟨rfl, hT4, hp4⟩
      rw [← List.append_nil M4]
      (repeat (first|(with_reducible refine AWo.cons ?_)|((with_reducible refine Step.id ?_);((with_reducible apply Step.assign);exact rfl;exact rfl))|(with_reducible first|apply AWo.nil|apply AW.seq|apply Then.n|apply AW.regL|apply InBlk.n)))
      (refine AW.ret ?_; (repeat (first | refine Then.r ?_ | refine InBlk.r ?_)))
      rw [List.append_nil]
      exact ⟨_, rfl, rfl, fin hT4 (hp2.trans hp4) fun _ hj => hj⟩
set_option maxHeartbeats 16000000 in
set_option maxRecDepth 100000 in
theorem both_ok {m0 M : AM} {K : Nat → Prop} {dk rk : Nat} {D : Dk} {o1 o2 : Option (Nat × Lg)} (h : TwoS m0 M K dk rk D D o1 o2) : ACall Try.prog 26 #[.pointer (some ⟨dk, 0, none⟩), .pointer (some ⟨rk, 0, none⟩)] M (Ret (.bool true) M) := by
 refine ACall.drop (.bool _) ?_
 refine ACall.start Try.func26 rfl rfl ?_
 (repeat (first|(with_reducible refine AWo.cons ?_)|((with_reducible refine Step.id ?_);first|((with_reducible apply Step.move);exact rfl;exact rfl)|((with_reducible apply Step.assign);exact rfl;exact rfl))|(with_reducible first|apply AWo.nil|apply AW.seq|apply Then.n|apply AW.regL|apply AW.block)))
 refine AW.midR 0 (fun t' M' => ∃ N, M' = M ++ N) ?_ ?_
 ·refine AW.loopW (fun q t M' => ∃ (k : Nat), q = 2 - k ∧ k ≤ 2 ∧ (∃ N, M' = M ++ N) ∧ t = fr [(0, .pointer (some ⟨dk, 0, none⟩)), (1, .pointer (some ⟨rk, 0, none⟩)), (10, .int .i64 (k : Nat))]) ⟨_, _, (by repeat (first | exact trivial | (refine And.intro rfl ?_))), 0, rfl, Nat.zero_le _, ⟨[], rfl⟩, rfl⟩ ?_
  rintro q t M' ⟨k, rfl, hk, ⟨N, hN⟩, rfl⟩
  refine AW.rebase ?_
  rcases Nat.lt_or_ge k 2 with hlt | hge
  ·have hT := h.grow N
   rw [← hN] at hT
   (repeat (first|(with_reducible refine AWo.cons ?_)|((with_reducible refine Step.id ?_);first|((with_reducible apply Step.move);exact rfl;exact rfl)|((with_reducible apply Step.assign);exact rfl;exact rfl)|((with_reducible apply Step.lss);exact rfl;exact rfl;exact rfl))|(with_reducible first|apply AWo.nil|apply AW.seq|apply Then.n|apply AW.regL|apply AW.block|apply AW.skip)|((with_reducible apply AW.condT);exact rfl;(((simp only [zq1, zq2, zq3, zq4, zq5, zq6];first|assumption|omega))))))
   ((with_reducible apply Step.callX fit);exact rfl;exact Try.func53;exact rfl;exact rfl;((rw [List.append_nil];exact T_read hT (k : Nat))))
   rintro r2 M2 ⟨N2, hN2⟩ ⟨u2, rfl, hu2⟩
   rw [List.append_nil] at hN2
   have hT2 := hT.grow N2
   rw [← hN2] at hT2
   have hM'l : 0 < M'.length := by
    obtain ⟨_, _, _, _, _, _, g, _⟩ := hT
    have := g.d.lt
    omega
   (repeat (first|(with_reducible refine AWo.cons ?_)|((with_reducible refine Step.id ?_);first|((with_reducible apply Step.move);exact rfl;exact rfl)|((with_reducible apply Step.assign);exact rfl;exact rfl)|((with_reducible apply Step.extract);exact rfl;exact rfl;exact rfl))|(with_reducible first|apply AWo.nil|apply AW.seq|apply Then.n|apply AW.regL)))
   ((with_reducible apply Step.callX fit);exact rfl;exact Try.func80;exact rfl;exact rfl;((rw [List.append_nil];exact RT_read hT2 (k : Nat))))
   rintro r3 M3 ⟨N3, hN3⟩ ⟨u3, rfl, hu3⟩
   rw [List.append_nil] at hN3
   have hb2 : Byts M3 u2 (rdF D (k : Nat)).1 := by rw [hN3]; exact (hu2.old N3).byts (by rw [List.length_append, hN2, List.length_append]; omega)
   have hb3 : Byts M3 u3 (rdF D (k : Nat)).1 := hu3.byts (by rw [hN3, hN2]; simp only [List.length_append]; omega)
   have hE : ∀ T, ACall Try.prog 19 #[u2, u3] (M3 ++ T) (Ret (.bool true) (M3 ++ T)) := fun T => by
    have := Equal_ok (hb2.old T) (hb3.old T)
    rwa [beq_self_eq_true] at this
   generalize (rdF D (k : Nat)).2 = e at *
   (repeat (first|(with_reducible refine AWo.cons ?_)|((with_reducible refine Step.id ?_);first|((with_reducible apply Step.gdT);exact rfl;exact rfl;((rfl)))|((with_reducible apply Step.move);exact rfl;exact rfl)|((with_reducible apply Step.assign);exact rfl;exact rfl)|((with_reducible apply Step.add);exact rfl;exact rfl;((omega));exact rfl)|((with_reducible apply Step.neq);exact rfl;exact rfl;exact rfl)|((with_reducible apply Step.not);exact rfl;exact rfl)|((with_reducible apply Step.extract);exact rfl;exact rfl;exact rfl)|((with_reducible apply Step.pickF);exact rfl;exact rfl;exact rfl;exact rfl;((rfl)))|((with_reducible apply Step.callR fit);exact rfl;exact Try.func19;exact rfl;exact rfl;exact (hE _)))|(with_reducible first|apply AWo.nil|apply AW.seq|apply Then.n|apply AW.regL|apply InBlk.n|apply AW.skip)|((with_reducible apply AW.condF);exact rfl;(focus ((simp;done))))))
   exact ⟨_, [(0, .pointer (some ⟨dk, 0, none⟩)), (1, .pointer (some ⟨rk, 0, none⟩)), (10, .int .i64 (k + 1 : Nat))], by omega, (by repeat (first | exact trivial | (refine And.intro rfl ?_))), k + 1, rfl, by omega, ⟨N ++ (N2 ++ N3), by rw [List.append_nil, hN3, hN2, hN]; simp only [List.append_assoc]⟩, rfl⟩
  ·obtain rfl : k = 2 := by omega
   (repeat (first|(with_reducible refine AWo.cons ?_)|((with_reducible refine Step.id ?_);((with_reducible apply Step.lss);exact rfl;exact rfl;exact rfl))|(with_reducible first|apply AWo.nil|apply AW.seq|apply Then.n|apply AW.regL|apply AW.exit|apply Then.e)|((with_reducible apply AW.condF);exact rfl;((rfl)))))
   refine MidR.e ?_
   exact ⟨N, by rw [List.append_nil]; exact hN⟩
 ·rintro t' M' ⟨N, rfl⟩
  refine InBlk.hit ?_
  refine Then.n ?_
  (repeat (first|(with_reducible refine AWo.cons ?_)|((with_reducible refine Step.id ?_);((with_reducible apply Step.assign);exact rfl;exact rfl))|(with_reducible first|apply AWo.nil|apply AW.seq|apply Then.n|apply AW.regL)))
  (refine AW.ret ?_; (repeat (first | refine Then.r ?_ | refine InBlk.r ?_)))
  exact ⟨_, rfl, rfl, N, by simp⟩
theorem RLogIn.paysR {S : Nat → Prop} {M : AM} {lg dk : Nat} {L : Lg} {sv rv : Value} (h : RLogIn S M lg dk L sv rv) : Byts M sv L.c.snap ∧ PaysR M rv L.c.recs := by
 have h0 : 0 < M.length := by have := h.lt; omega
 have hc := h.cont.msub (Sub.vw _ M).m
 exact ⟨hc.snap.byts h0, hc.recs.r h0⟩
set_option maxHeartbeats 16000000 in
set_option maxRecDepth 100000 in
theorem alike_ok {m : AM} {lg lr dk rk : Nat} {R : Nat → Prop} {L : Lg} {sv rv sv' rv' : Value} (h : LogAt m lg dk L sv rv) (hr : RLogIn R m lr rk L sv' rv') (l1 : L.c.snap.length ≤ 1000000000) (l2 : L.c.recs.length ≤ 1000000000) (l3 : ∀ p ∈ L.c.recs, p.length ≤ 1000000000) :
  ACall Try.prog 65 #[.pointer (some ⟨lg, 0, none⟩), .pointer (some ⟨lr, 0, none⟩)] m (Ret (.bool true) m) := by
 have hll := h.lt
 obtain ⟨hs, hp⟩ := hr.paysR
 have hSn := Snap_ok h l1
 have hG : ∀ T, ACall Try.prog 54 #[.pointer (some ⟨lg, 0, none⟩)] (m ++ T) (Ret (.int .i64 (L.c.gen : Nat)) (m ++ T)) := fun T => Gen_ok (h.old T)
 have rd : ∀ (Y : AM), (∃ N, Y = m ++ N) → ∀ T, Rd (Y ++ T) lr (0 + 2) (.int .i64 (L.c.gen : Nat)) ∧ Rd (Y ++ T) lr (0 + 3) sv' ∧ Rd (Y ++ T) lr (0 + 4) rv' := fun Y hY T => by
  obtain ⟨N, rfl⟩ := hY
  exact ⟨hr.rd N T (0 + 2) _ rfl, hr.rd N T (0 + 3) _ rfl, hr.rd N T (0 + 4) _ rfl⟩
 have r0 := rd m ⟨[], by simp⟩
 refine ACall.drop (.bool _) ?_
 refine ACall.start Try.func65 rfl rfl ?_
 (repeat' (first|(with_reducible refine AWo.cons ?_)|((with_reducible refine Step.id ?_);first|((with_reducible apply Step.gdT);exact rfl;exact rfl;(focus ((simp;done))))|((with_reducible apply Step.move);exact rfl;exact rfl)|((with_reducible apply Step.assign);exact rfl;exact rfl)|((with_reducible apply Step.load);exact rfl;((decide +kernel));exact rfl;((first|exact (r0 _).1|exact (r0 _).2.1)))|((with_reducible apply Step.field (k := 2));exact rfl;((decide +kernel));exact rfl)|((with_reducible apply Step.field (k := 3));exact rfl;((decide +kernel));exact rfl)|((with_reducible apply Step.eql);exact rfl;exact rfl;exact rfl)|((with_reducible apply Step.nilp);exact rfl;exact rfl)|((with_reducible apply Step.callR fit);exact rfl;exact Try.func54;exact rfl;exact rfl;exact (hG _)))|(with_reducible first|apply AWo.nil|apply AW.seq|apply Then.n|apply AW.regL)|((with_reducible apply AW.drawT fit (T := (.step 0 (.step 2 (.step 3 (.step 4 (.both (.step 1 (.step 5 (.step 6 (.step 7 (.step 8 (.step 10 (.step 11 (.step 12 (.both (.step 9 (.step 13 (.step 14 (.step 15 (.step 16 (.step 17 (.step 19 (.step 20 (.step 21 (.both (.step 18 (.step 22 (.step 23 (.step 24 (.step 25 .done))))) (.step 22 (.step 18 (.step 23 (.step 24 (.step 25 .done))))))))))))))) (.step 13 (.step 9 (.step 14 (.step 15 (.step 16 (.step 17 (.step 19 (.step 20 (.step 21 (.both (.step 18 (.step 22 (.step 23 (.step 24 (.step 25 .done))))) (.step 22 (.step 18 (.step 23 (.step 24 (.step 25 .done)))))))))))))))))))))))) (.step 5 (.step 1 (.step 6 (.step 7 (.step 8 (.step 10 (.step 11 (.step 12 (.both (.step 9 (.step 13 (.step 14 (.step 15 (.step 16 (.step 17 (.step 19 (.step 20 (.step 21 (.both (.step 18 (.step 22 (.step 23 (.step 24 (.step 25 .done))))) (.step 22 (.step 18 (.step 23 (.step 24 (.step 25 .done))))))))))))))) (.step 13 (.step 9 (.step 14 (.step 15 (.step 16 (.step 17 (.step 19 (.step 20 (.step 21 (.both (.step 18 (.step 22 (.step 23 (.step 24 (.step 25 .done))))) (.step 22 (.step 18 (.step 23 (.step 24 (.step 25 .done)))))))))))))))))))))))))))))));((decide +kernel)))|((with_reducible apply AWt.step);exact rfl)|refine AWt.both ?_ ?_))
 all_goals ((with_reducible apply Step.callX fit);exact rfl;exact Try.func56;exact rfl;exact rfl;((rw [List.append_nil];exact hSn)))
 all_goals rintro u1 M1 ⟨N1, hN1⟩ hu1
 all_goals rw [List.append_nil] at hN1
 all_goals have r1 := rd M1 ⟨N1, hN1⟩
 all_goals have hE : ∀ T, ACall Try.prog 19 #[u1, sv'] (M1 ++ T) (Ret (.bool true) (M1 ++ T)) := fun T => by have := Equal_ok ((hu1.byts (by rw [hN1, List.length_append]; omega)).old T) (show Byts (M1 ++ T) sv' L.c.snap by rw [hN1]; exact (hs.old _).old _); rwa [beq_self_eq_true] at this
 all_goals have hRc := Recs_ok (m := M1) (by rw [hN1]; exact h.old N1) l2 l3
 all_goals (repeat' (first|((with_reducible refine Step.id ?_);first|((with_reducible apply Step.gdT);exact rfl;exact rfl;(focus (first|rfl|(simp;done))))|((with_reducible apply Step.move);exact rfl;exact rfl)|((with_reducible apply Step.load);exact rfl;((decide +kernel));exact rfl;((first|exact (r1 _).2.1|exact (r1 _).2.2)))|((with_reducible apply Step.field (k := 4));exact rfl;((decide +kernel));exact rfl)|((with_reducible apply Step.nilp);exact rfl;exact rfl)|((with_reducible apply Step.pickT);exact rfl;exact rfl;exact rfl;exact rfl;(focus ((simp;done))))|((with_reducible apply Step.callR fit);exact rfl;exact Try.func19;exact rfl;exact rfl;exact (hE _)))|((with_reducible apply AWt.step);exact rfl)|refine AWt.both ?_ ?_))
 all_goals ((with_reducible apply Step.callX fit);exact rfl;exact Try.func57;exact rfl;exact rfl;((rw [List.append_nil];exact hRc)))
 all_goals rintro u2 M2 ⟨N2, hN2⟩ hu2
 all_goals rw [List.append_nil] at hN2
 all_goals have r2 := rd M2 ⟨N1 ++ N2, by rw [hN2, hN1, List.append_assoc]⟩
 all_goals have hEF : ∀ T, ACall Try.prog 22 #[u2, rv', .func (.func 19) #[] #[]] (M2 ++ T) (Ret (.bool true) (M2 ++ T)) := fun T => by have := EqualF_ok ((hu2.r (by rw [hN2, hN1]; simp; omega)).old T) (show PaysR (M2 ++ T) rv' L.c.recs by rw [hN2, hN1]; exact ((hp.old _).old _).old _) (by omega) (by omega); rwa [decide_eq_true rfl] at this
 all_goals (repeat' (first|((with_reducible refine Step.id ?_);first|((with_reducible apply Step.gdT);exact rfl;exact rfl;((rfl)))|((with_reducible apply Step.assign);exact rfl;exact rfl)|((with_reducible apply Step.load);exact rfl;((decide +kernel));exact rfl;((exact (r2 _).2.2)))|((with_reducible apply Step.pickT);exact rfl;exact rfl;exact rfl;exact rfl;((rfl)))|((with_reducible apply Step.callR fit);exact rfl;exact Try.func22;exact rfl;exact rfl;exact (hEF _)))|(with_reducible apply Then.n)|((with_reducible apply AWt.step);exact rfl)|(with_reducible apply AWt.done)))
 all_goals (refine AW.ret ?_; (repeat (first | refine Then.r ?_ | refine InBlk.r ?_)))
 all_goals exact ⟨_, rfl, by simp, N1 ++ N2, by rw [List.append_nil, hN2, hN1, List.append_assoc]⟩
set_option maxHeartbeats 16000000 in
set_option maxRecDepth 100000 in
theorem payload_ok {m : AM} {tb c : Nat} {x : Act9} {w : Value} (hb : m[tb]? = some (some { cells := [.int .i64 (c : Nat)] })) (hc : c ≤ 1000) (hw : Byts m w x.l) (hl : x.l.length ≤ 9223372036854775807) :
  ACall Try.prog 62 #[.agg (x.cells w).toArray, .pointer (some ⟨tb, 0, none⟩)] m (fun r M => ∃ (p : List UInt8) (c' : Nat), p.length ≤ 70300 ∧ c' ≤ c + 1 ∧ (∃ N, M = m.set tb (some { cells := [.int .i64 (c' : Nat)] }) ++ N) ∧ Row M m.length 1 r (by8 p) p.length) := by
 have hw1 : (Value.agg (x.cells w).toArray).cells.all (·.oneCell') = true := Act9.one hw
 have htl := (List.getElem?_eq_some_iff.1 hb).1
 obtain ⟨q7, hq7, eq7⟩ := mod_in x.n 70000 (by omega) (by omega)
 refine ACall.start Try.func62 rfl rfl ?_
 obtain ⟨X, hX⟩ : ∃ X : AM, X = m ++ [some { cells := x.cells w }] := ⟨_, rfl⟩
 have hXl : X.length = m.length + 1 := by rw [hX, List.length_append]; rfl
 have hbX : X[m.length + 0]? = some (some { cells := x.cells w }) := by rw [hX, get_app]; rfl
 have htX : X[tb]? = some (some { cells := [.int .i64 (c : Nat)] }) := by rw [hX]; exact get_old _ hb
 (repeat (first|(with_reducible refine AWo.cons ?_)|((with_reducible refine Step.id ?_);first|((with_reducible apply Step.assign);exact rfl;exact rfl)|((with_reducible apply Step.box 0);exact rfl;exact rfl;((first|assumption|exact hw1));exact rfl;((first|(simp only [zq7, zq8, zq9, zq0, iv_set, bv_set, iv_rep, bv_rep] <;> rfl)|rfl))))|(with_reducible apply AWo.nil)|((fail_if_success (with_reducible refine AW.atR (id := 1) ?_));(with_reducible apply AW.seq))|(with_reducible first|apply Then.n|apply AW.regL)))
 rw [show (m ++ [some { cells := (Value.agg (x.cells w).toArray).cells.toList }] : AM) = X from hX.symm]
 have rX1 : ∀ T, Rd (X ++ T) (m.length + 0) (0 + 1) (.int .i64 x.n) := fun T => Rd.old T ⟨_, hbX, rfl⟩
 have rt : ∀ T, Rd (X ++ T) tb 0 (.int .i64 (c : Nat)) := fun T => Rd.old T ⟨_, htX, rfl⟩
 rw [← List.append_nil X]
 (repeat (first|(with_reducible refine AWo.cons ?_)|((with_reducible refine Step.id ?_);first|((with_reducible apply Step.load);exact rfl;((decide +kernel));exact rfl;((exact rX1 _)))|((with_reducible apply Step.field (k := 1));exact rfl;((decide +kernel));exact rfl))|(with_reducible first|apply AW.seq|apply AW.regL)))
 ((with_reducible apply Step.conv);exact rfl;exact un3;exact un31;exact rfl;exact rfl)
 (repeat ((with_reducible refine AWo.cons ?_)))
 ((with_reducible apply Step.remU);exact rfl;exact rfl;exact (wrapU _);((omega));exact rfl)
 (repeat ((with_reducible refine AWo.cons ?_)))
 ((with_reducible apply Step.conv);exact rfl;exact un31;exact un3;exact eq7;exact rfl)
 (repeat (first|(with_reducible refine AWo.cons ?_)|((with_reducible refine Step.id ?_);first|((with_reducible apply Step.move);exact rfl;exact rfl)|((with_reducible apply Step.assign);exact rfl;exact rfl)|((with_reducible apply Step.geq);exact rfl;exact rfl;exact rfl))|(with_reducible first|apply AWo.nil|apply AW.seq|apply Then.n|apply AW.regL)))
 rw [List.append_nil]
 refine AW.join (fun t' M' => ∃ c' : Nat, c' ≤ c + 1 ∧ M' = X.set tb (some { cells := [.int .i64 (c' : Nat)] }) ∧ All (fun i v => t' i = some v) [(1, .pointer (some ⟨tb, 0, none⟩)), (2, .pointer (some ⟨m.length + 0, 0, none⟩)), (5, .int .i64 (q7 : Nat))]) ?_ ?_
 ·by_cases cg : 1000 ≤ q7
  ·rw [← List.append_nil X]
   (repeat (first|(with_reducible refine AWo.cons ?_)|((with_reducible refine Step.id ?_);first|((with_reducible apply Step.move);exact rfl;exact rfl)|((with_reducible apply Step.load);exact rfl;((decide +kernel));exact rfl;((exact rt _)))|((with_reducible apply Step.add);exact rfl;exact rfl;((omega));exact rfl)|((with_reducible apply Step.nilp);exact rfl;exact rfl))|(with_reducible apply AW.regL)|((with_reducible apply AW.condT);exact rfl;(((simp only [zq1, zq2, zq3, zq4, zq5, zq6];first|assumption|omega))))))
   ((with_reducible apply Step.storeAt);exact rfl;exact rfl;exact (get_old [] htX);exact sz3d;exact rfl;((show 0 < 1;omega));exact rfl;exact rfl)
   rw [List.append_nil]
   rw [← List.append_nil (X.set _ _)]
   (repeat (first|(with_reducible first|apply AWo.nil|apply Then.n)))
   exact ⟨c + 1, Nat.le_refl _, List.append_nil _, (by repeat (first | exact trivial | (refine And.intro rfl ?_)))⟩
  ·have hsame : X.set tb (some { cells := [.int .i64 (c : Nat)] }) = X := by
    refine List.ext_getElem? fun j => ?_
    by_cases e : tb = j
    ·subst e
     rw [List.getElem?_set_self (by omega), htX]
    ·rw [List.getElem?_set_ne e]
   rw [← List.append_nil X]
   (repeat (first|(with_reducible first|apply Then.n|apply AW.skip)|((with_reducible apply AW.condF);exact rfl;(((simp only [zq1, zq2, zq3, zq4, zq5, zq6];first|assumption|omega))))))
   exact ⟨c, by omega, by rw [List.append_nil]; exact hsame.symm, (by repeat (first | exact trivial | (refine And.intro rfl ?_)))⟩
 ·rintro t' M' ⟨c', hc', hM', hsl⟩
  refine AW.weak (fr_all hsl) ?_
  clear hsl
  have hMl : M'.length = m.length + 1 := by rw [hM', List.length_set, hXl]
  have hbM : M'[m.length + 0]? = some (some { cells := x.cells w }) := by rw [hM', List.getElem?_set_ne (by omega)]; exact hbX
  have htM : M'[tb]? = some (some { cells := [.int .i64 (c' : Nat)] }) := by rw [hM']; exact List.getElem?_set_self (by omega)
  have hMm : M' = m.set tb (some { cells := [.int .i64 (c' : Nat)] }) ++ [some { cells := x.cells w }] := by rw [hM', hX, List.set_append_left _ _ htl]
  have hpre : ∀ j, j < m.length → j ≠ tb → M'[j]? = m[j]? := fun j hj hne => by rw [hMm, List.getElem?_append_left (by rw [List.length_set]; exact hj), List.getElem?_set_ne (Ne.symm hne)]
  have rt : ∀ T, Rd (M' ++ T) tb 0 (.int .i64 (c' : Nat)) := fun T => Rd.old T ⟨_, htM, rfl⟩
  obtain ⟨aw, ow, hws, haw, hwd⟩ := hw
  have hwd' : ∀ j, j < x.l.length → Rd M' aw (ow + j) (.int .u8 ((x.l.getD j 0).toNat : Nat)) := fun j hj => by
   obtain ⟨b, q1, q2⟩ := hwd j hj
   by_cases e : aw = tb
   ·subst e
    rw [hb] at q1
    injection q1 with q1
    injection q1 with q1
    subst q1
    generalize ow + j = z at q2
    cases z <;> simp at q2
   ·exact ⟨b, by rw [hpre aw (List.getElem?_eq_some_iff.1 q1).1 e]; exact q1, q2⟩
  clear hM' hX hbX htX hXl rX1 hb
  rw [← List.append_nil M']
  (repeat (first|(with_reducible refine AWo.cons ?_)|((with_reducible refine Step.id ?_);first|((with_reducible apply Step.move);exact rfl;exact rfl)|((with_reducible apply Step.load);exact rfl;((decide +kernel));exact rfl;((exact rt _)))|((with_reducible apply Step.gtr);exact rfl;exact rfl;exact rfl)|((with_reducible apply Step.nilp);exact rfl;exact rfl))|(with_reducible first|apply AWo.nil|apply AW.seq|apply Then.n|apply AW.regL)))
  rw [List.append_nil]
  refine AW.join (fun t' M'' => ∃ n' : Nat, n' ≤ 70000 ∧ M'' = M' ∧ All (fun i v => t' i = some v) [(2, .pointer (some ⟨m.length + 0, 0, none⟩)), (5, .int .i64 (n' : Nat))]) ?_ ?_
  ·by_cases cg : 3 < c'
   ·rw [← List.append_nil M']
    (repeat (first|(with_reducible refine AWo.cons ?_)|((with_reducible refine Step.id ?_);first|((with_reducible apply Step.move);exact rfl;exact rfl)|((with_reducible apply Step.assign);exact rfl;exact rfl)|((with_reducible apply Step.rem);exact rfl;exact rfl;((omega));((omega));exact rfl))|(with_reducible first|apply AWo.nil|apply Then.n|apply AW.regL)|((with_reducible apply AW.condT);exact rfl;(((simp only [zq1, zq2, zq3, zq4, zq5, zq6];first|assumption|omega))))))
    exact ⟨q7 % 1000, by omega, rfl, (by repeat (first | exact trivial | (refine And.intro rfl ?_)))⟩
   ·rw [← List.append_nil M']
    (repeat (first|(with_reducible first|apply Then.n|apply AW.skip)|((with_reducible apply AW.condF);exact rfl;(((simp only [zq1, zq2, zq3, zq4, zq5, zq6];first|assumption|omega))))))
    exact ⟨q7, by omega, rfl, (by repeat (first | exact trivial | (refine And.intro rfl ?_)))⟩
  ·rintro t' M'' ⟨n', hn', rfl, hsl⟩
   refine AW.weak (fr_all hsl) ?_
   clear hsl
   have r3 : ∀ (Y : AM), (∃ N, Y = M'' ++ N) → ∀ T, Rd (Y ++ T) (m.length + 0) (0 + 3) w := fun Y hY T => by
    obtain ⟨N, rfl⟩ := hY
    exact Rd.old T ⟨_, get_old N hbM, rfl⟩
   have r30 := r3 M'' ⟨[], by simp⟩
   have hmin : min ((x.l.length : Nat) : Int) 300 = ((min x.l.length 300 : Nat) : Int) := by omega
   rw [← List.append_nil M'']
   (repeat' (first|((with_reducible refine Step.id ?_);first|((with_reducible apply Step.move);exact rfl;exact rfl)|((with_reducible apply Step.load);exact rfl;((decide +kernel));exact rfl;((exact r30 _)))|((with_reducible apply Step.field (k := 3));exact rfl;((decide +kernel));exact rfl)|((with_reducible apply Step.len);exact rfl;((assumption));((decide +kernel));exact rfl)|((with_reducible apply Step.min);exact rfl;exact rfl;exact rfl)|((with_reducible apply Step.make1 0);exact rfl;exact rfl;exact rfl;exact el22;((omega));exact rfl;((first|(simp only [zq7, zq8, zq9, zq0, iv_set, bv_set, iv_rep, bv_rep] <;> rfl)|rfl))))|(with_reducible apply AW.seq)|((with_reducible apply AW.drawT fit (T := (.step 0 (.step 2 (.step 4 (.both (.step 1 (.step 3 (.step 5 (.step 6 (.step 7 (.step 8 (.step 9 (.step 10 .done)))))))) (.both (.step 3 (.both (.step 1 (.step 5 (.step 6 (.step 7 (.step 8 (.step 9 (.step 10 .done))))))) (.step 5 (.step 6 (.step 7 (.step 8 (.step 1 (.step 9 (.step 10 .done))))))))) (.step 5 (.step 6 (.step 7 (.both (.step 1 (.step 3 (.step 8 (.step 9 (.step 10 .done))))) (.step 3 (.step 8 (.step 1 (.step 9 (.step 10 .done))))))))))))))));((decide +kernel)))|((with_reducible apply AWt.step);exact rfl)|refine AWt.both ?_ ?_))
   all_goals rw [hmin]
   all_goals ((with_reducible apply Step.sliceS (l := 0) (h := min x.l.length 300));exact rfl;exact hws;exact un22;exact sz5;exact rfl;exact (bndO_nat rfl);((omega));((omega));((omega));exact rfl)
   all_goals intro v' hv' _
   all_goals have ht3 : (x.l.take 300).length = min x.l.length 300 := by rw [List.length_take]; omega
   all_goals have hbT : Byts M'' v' (x.l.take 300) := ⟨aw, ow, by rw [ht3]; simpa using hv', by omega, fun j hj => by have := hwd' j (by omega); rw [List.getD_eq_getElem?_getD, List.getElem?_take_of_lt (by omega), ← List.getD_eq_getElem?_getD]; exact this⟩
   all_goals obtain ⟨a2, o2, hs2, hd2⟩ := hbT.row
   all_goals (repeat' (first|((with_reducible refine Step.id ?_);((with_reducible apply Step.make1 0);exact rfl;exact rfl;exact rfl;exact el22;((omega));exact rfl;((first|(simp only [zq7, zq8, zq9, zq0, iv_set, bv_set, iv_rep, bv_rep] <;> rfl)|rfl))))|((with_reducible apply AWt.step);exact rfl)))
   all_goals have hrep : (List.replicate n' (Value.int .u8 0)) = by8 (List.replicate n' (0 : UInt8)) := by simp [by8]
   all_goals rw [hrep]
   all_goals ((with_reducible apply Step.appRow2 (s := 1) (n := (List.replicate n' (0 : UInt8)).length) (xl := (x.l.take 300).length) (b0 := M''.length) (c := by8 (List.replicate n' (0 : UInt8))) (new := by8 (x.l.take 300)));exact rfl;exact rfl;exact (.inr ⟨M''.length + 0, .own, 1, by omega, by simp, by rw [get_app];rfl, by rw [by8_len, Nat.mul_one], .inl rfl⟩);exact hs2;exact (fun h => (hd2 h).old _);exact el22;exact un22;((rw [by8_len, Nat.mul_one]));exact (by8_all _);exact rfl;((rw [List.length_replicate];omega));exact rfl;((simp)))
   all_goals intro r2 M3 hr3 hml3 hk3 _
   all_goals have hr3 := Row.app8 hr3
   all_goals have hM3 := pre_keep (m0 := m.set tb (some { cells := [.int .i64 (c' : Nat)] })) (M := M'' ++ [some { cells := by8 (List.replicate n' (0 : UInt8)) }]) ⟨_, by rw [hMm, List.append_assoc]⟩ hml3 fun j hj => hk3 j (by rw [List.length_append]; rw [List.length_set] at hj; omega) (by intro n c e; simp only [Value.slice.injEq, Option.some.injEq, Addr.mk.injEq] at e; rw [List.length_set] at hj; omega)
   all_goals rw [← List.append_nil M3]
   all_goals (repeat' (first|((with_reducible refine Step.id ?_);((with_reducible apply Step.assign);exact rfl;exact rfl))|(with_reducible apply Then.n)|((with_reducible apply AWt.step);exact rfl)|(with_reducible apply AWt.done)))
   all_goals (refine AW.ret ?_; (repeat (first | refine Then.r ?_ | refine InBlk.r ?_)))
   all_goals rw [List.append_nil]
   all_goals exact ⟨_, rfl, List.replicate n' (0 : UInt8) ++ x.l.take 300, c', by rw [List.length_append, List.length_replicate]; omega, hc', hM3, hr3.low (by omega)⟩
section
variable {P : Program} {nt : Nat} {ops : Array Oper} {t : Fm} {m : AM} {K : Fm → AM → Prop} {d T : Nat} {p : String} {af : Array Edge}
theorem Step.ptrNilN {x y : Operand} {X Y e : TypeId} (hx : evo t x = some (.pointer none)) (hy : evo t y = some (.pointer none)) (hX : P.underlying X = some (.pointer e)) (hlt : Nat.blt d nt = true) (hK : K (put t d (.bool false)) m) : Step P nt ops ⟨some d, .binOp .neq X x y Y, T, p, af, none⟩ t m K := by
 refine .ground rfl rfl hlt (by simp [Op.operands, hx, hy, g1, g0]) (fun h => by simp only [aquiet, evD_of hx, evD_of hy, aint, anil, hX]; simpa [evD_of hx, evD_of hy] using h) ?_ (by simp [g1, g0]) hK
 have he := still_nilP hX 9999
 simp only [execOp, eqGuard, binOp, evD_of hx, evD_of hy, bind, Sem.bind, pure]
 show Sim.still P (((Op.equalIn (9999 + 1) X (.pointer none) (.pointer none)).bind _).bind _) = _
 rw [still_bind, still_bind, he]
 rfl
end
def LBd (L : Lg) (k : Nat) : Prop := L.c.gen ≤ 4611686018427387904 ∧ L.c.snap.length ≤ 65536 ∧ L.c.recs.length ≤ 131072 + k ∧ ∀ p ∈ L.c.recs, p.length ≤ 65536
theorem LBd.mono {L : Lg} {k j : Nat} (h : LBd L k) (hk : k ≤ j) : LBd L j := ⟨h.1, h.2.1, by have := h.2.2.1; omega, h.2.2.2⟩
theorem LBd.met {L : Lg} {k : Nat} (h : LBd L k) (e : Int) : LBd (metF L e) k := h
theorem LBd.add {D : Dk} {L : Lg} {k : Nat} {p : List UInt8} (h : LBd L k) : LBd (addF D L p).2.2 (k + 1) := by
 unfold addF
 rcases rdyF_cases L p with ⟨_, hr⟩ | ⟨_, _, hr⟩ | ⟨_, hp, hr⟩
 ·rw [hr, if_pos (by decide)]; exact h.mono (by omega)
 ·rw [hr, if_pos (by decide)]; exact h.mono (by omega)
 ·rw [hr, if_neg (fun e => e rfl)]
  split
  ·exact (h.met _).mono (by omega)
  ·split
   ·exact (h.met _).mono (by omega)
   ·refine ⟨h.1, h.2.1, ?_, fun q hq => ?_⟩
    ·show (L.c.recs ++ [p]).length ≤ _
     have := h.2.2.1
     rw [List.length_append, List.length_singleton]; omega
    ·rcases List.mem_append.1 hq with hq | hq
     ·exact h.2.2.2 q hq
     ·rw [List.mem_singleton.1 hq]; exact hp
theorem LBd.rw {D : Dk} {L : Lg} {k : Nat} {p : List UInt8} (h : LBd L k) : LBd (rwF D L p).2.2 (k + 1) := by
 unfold rwF
 rcases rdyF_cases L p with ⟨_, hr⟩ | ⟨_, _, hr⟩ | ⟨_, hp, hr⟩
 ·rw [hr, if_pos (by decide)]; exact h.mono (by omega)
 ·rw [hr, if_pos (by decide)]; exact h.mono (by omega)
 ·rw [hr, if_neg (fun e => e rfl)]
  split
  ·exact h.mono (by omega)
  ·split
   ·exact (h.met _).mono (by omega)
   ·refine ⟨?_, hp, Nat.zero_le _, fun q hq => by cases hq⟩
    show L.c.gen + 1 ≤ _
    have := h.1
    omega
def pvL : Option (Nat × Nat × Lg) → Value × Value
 | none => (.pointer none, .pointer none)
 | some (a, b, _) => (.pointer (some ⟨a, 0, none⟩), .pointer (some ⟨b, 0, none⟩))
def fsL : Option (Nat × Nat × Lg) → Option (Nat × Lg) := Option.map fun x => (x.1, x.2.2)
def snL : Option (Nat × Nat × Lg) → Option (Nat × Lg) := Option.map fun x => x.2
def bdL (k : Nat) : Option (Nat × Nat × Lg) → Prop
 | none => True
 | some (_, _, L) => LBd L k
theorem bdL.mono {o : Option (Nat × Nat × Lg)} {k j : Nat} (h : bdL k o) (hk : k ≤ j) : bdL j o := by
 match o, h with
 | none, _ => trivial
 | some (_, _, L), h => exact LBd.mono h hk
theorem TwoS.ok {m0 M : AM} {K : Nat → Prop} {dk rk : Nat} {D E : Dk} {o1 o2 : Option (Nat × Lg)} (h : TwoS m0 M K dk rk D E o1 o2) : OkD D := by
 obtain ⟨_, _, _, _, _, _, g, _⟩ := h
 exact g.d.ok
theorem both_alike {m0 M : AM} {K : Nat → Prop} {dk rk lg lr : Nat} {D : Dk} {L : Lg} {k : Nat} (h : TwoS m0 M K dk rk D D (some (lg, L)) (some (lr, L))) (hb : LBd L k) (hk : k ≤ 1000) : ACall Try.prog 65 #[.pointer (some ⟨lg, 0, none⟩), .pointer (some ⟨lr, 0, none⟩)] M (Ret (.bool true) M) := by
 obtain ⟨_, _, _, _, S, R, g, ⟨sv, rv, h1⟩, sv', rv', h2⟩ := h
 obtain ⟨b1, b2, b3, b4⟩ := hb
 exact alike_ok h1.all h2 (by omega) (by omega) fun p hp => by have := b4 p hp; omega
theorem un39 : Try.prog.underlying 39 = some (.pointer 147) := by kernel_rfl
theorem ze3 : zeroB Try.prog 3 = some #[.int .i64 0] := by kernel_rfl
set_option maxHeartbeats 64000000 in
set_option maxRecDepth 100000 in
theorem StockLogs_ok {m : AM} (hw : ∀ M : AM, ACall Try.prog 16 #[] M (Ret (.bool true) M)) {n : Int} {v : Value} {xs : List Act9} (h : Acts9 m v xs) (hn : xs.length ≤ 9223372036854775807) (hl : ∀ k, (xs.getD k default).l.length ≤ 9223372036854775807) (hf : ∀ k, (xs.getD k default).n ≤ 9223372036854775807) : ACall Try.prog 14 #[.int .i64 n, v] m (Ret (.bool true) m) := by
 refine ACall.drop (.bool _) ?_
 obtain ⟨a, o, h1, h2, h3⟩ := h
 refine ACall.start Try.func14 rfl rfl ?_
 by_cases hnn : 64 ≤ n ∧ n ≤ 1048576
 ·obtain ⟨z, rfl⟩ : ∃ z : Nat, n = (z : Int) := ⟨n.toNat, by omega⟩
  have hz : 64 ≤ z ∧ z ≤ 1048576 := by omega
  (repeat (first|(with_reducible refine AWo.cons ?_)|((with_reducible refine Step.id ?_);first|((with_reducible apply Step.move);exact rfl;exact rfl)|((with_reducible apply Step.assign);exact rfl;exact rfl))|(with_reducible first|apply AWo.nil|apply AW.seq|apply Then.n|apply AW.regL)))
  ((with_reducible apply Step.callF fit);exact rfl;exact Try.func23;exact rfl;exact rfl;((rw [List.append_nil];exact NewDisk_ok hz)))
  rintro r0 M0 ⟨rfl, hM0⟩
  rw [← List.append_nil M0]
  (repeat (first|(with_reducible refine AWo.cons ?_)|((with_reducible refine Step.id ?_);first|((with_reducible apply Step.move);exact rfl;exact rfl)|((with_reducible apply Step.assign);exact rfl;exact rfl)|((with_reducible apply Step.extract);exact rfl;exact rfl;exact rfl))|(with_reducible first|apply AWo.nil|apply AW.seq|apply Then.n|apply AW.regL)))
  ((with_reducible apply Step.callF fit);exact rfl;exact Try.func24;exact rfl;exact rfl;((rw [List.append_nil];exact RNewDisk_ok hz)))
  rintro r1 M1 ⟨rfl, hM1⟩
  have hM0l : M0.length = m.length + 1 := by rw [hM0, List.length_append]; rfl
  obtain ⟨dk, hdk⟩ : ∃ dk, dk = m.length := ⟨_, rfl⟩
  obtain ⟨rk, hrk⟩ : ∃ rk, rk = M0.length := ⟨_, rfl⟩
  obtain ⟨X, hX⟩ : ∃ X : AM, X = M1 ++ [some { cells := [.int .i64 ((0 : Nat) : Int)] }] := ⟨_, rfl⟩
  have hM1l : M1.length = m.length + 2 := by rw [hM1, List.length_append, hM0l]; rfl
  have hXe : X = m ++ [some { cells := dkc (Dk.new z) (.slice none 0 0) (.slice none 0 0) }, some { cells := rkd (Dk.new z) (.slice none 0 0) (.slice none 0 0) }, some { cells := [.int .i64 ((0 : Nat) : Int)] }] := by rw [hX, hM1, hM0]; simp only [List.append_assoc]; rfl
  have hT0 : TwoS m X (fun j => j < m.length ∨ j = M1.length + 0) dk rk (Dk.new z) (Dk.new z) none none := by
   have hn1 : ∀ j, dkD dk (.slice none 0 0) (.slice none 0 0) j → j = dk := fun j hj => by
    rcases hj with e | e | e
    ·exact e
    ·exact absurd .nil e
    ·exact absurd .nil e
   have hn2 : ∀ j, dkD rk (.slice none 0 0) (.slice none 0 0) j → j = rk := fun j hj => by
    rcases hj with e | e | e
    ·exact e
    ·exact absurd .nil e
    ·exact absurd .nil e
   have hXl : X.length = m.length + 3 := by rw [hXe, List.length_append]; rfl
   refine ⟨.slice none 0 0, .slice none 0 0, .slice none 0 0, .slice none 0 0, fun _ => False, fun _ => False, ⟨?_, ?_, ⟨_, hXe⟩, fun j h1 h2 => ?_, fun _ => False.elim, fun _ => False.elim, fun j hj => ⟨?_, fun e => ?_, fun e => ?_, id, id⟩⟩, trivial, trivial⟩
   ·have := DiskAt.new m hz [some { cells := rkd (Dk.new z) (.slice none 0 0) (.slice none 0 0) }, some { cells := [.int .i64 ((0 : Nat) : Int)] }]
    rw [hXe, hdk]
    rwa [List.append_assoc] at this
   ·have := RDiskAt.new (m := M0) (b0 := m.length) (by omega) hz [some { cells := [.int .i64 ((0 : Nat) : Int)] }]
    rw [hX, hM1, hrk]
    exact this
   ·have := hn1 j h1
    have := hn2 j h2
    omega
   ·rcases hj with hj | hj <;> omega
   ·have := hn1 j e
    rcases hj with hj | hj <;> omega
   ·have := hn2 j e
    rcases hj with hj | hj <;> omega
  have htX : X[M1.length + 0]? = some (some { cells := [.int .i64 ((0 : Nat) : Int)] }) := by rw [hX, get_app]; rfl
  rw [← hdk, ← hrk]
  rw [← List.append_nil M1]
  (repeat (first|(with_reducible refine AWo.cons ?_)|((with_reducible refine Step.id ?_);first|((with_reducible apply Step.gdT);exact rfl;exact rfl;((rfl)))|((with_reducible apply Step.move);exact rfl;exact rfl)|((with_reducible apply Step.assign);exact rfl;exact rfl)|((with_reducible apply Step.ptrNot);exact rfl;exact rfl;exact un36;exact rfl)|((with_reducible apply Step.ptrNot);exact rfl;exact rfl;exact un39;exact rfl)|((with_reducible apply Step.neq);exact rfl;exact rfl;exact rfl)|((with_reducible apply Step.neqB);exact rfl;exact rfl;exact un4;exact rfl)|((with_reducible apply Step.extract);exact rfl;exact rfl;exact rfl)|((with_reducible apply Step.pickF);exact rfl;exact rfl;exact rfl;exact rfl;((rfl)))|((with_reducible apply Step.alloc 0);exact rfl;exact ze3;exact rfl;((first|(simp only [zq7, zq8, zq9, zq0, iv_set, bv_set, iv_rep, bv_rep] <;> rfl)|rfl)))|((with_reducible apply Step.store (k := 0));exact rfl;exact rfl;exact rfl;exact rfl;((decide +kernel));exact rfl;exact rfl;(focus (first|omega|(simp [iv, bv];done)|(simp [iv, bv];omega)));((first|(simp only [zq7, zq8, zq9, zq0, iv_set, bv_set, iv_rep, bv_rep] <;> rfl)|rfl))))|(with_reducible apply AWo.nil)|((fail_if_success (with_reducible refine AW.atR (id := 8) ?_));(with_reducible apply AW.seq))|(with_reducible first|apply Then.n|apply AW.regL|apply AW.skip)|((with_reducible apply AW.condF);exact rfl;((rfl)))))
  rw [show (M1 ++ [some { cells := [.int .i64 0] }] : AM) = X from hX.symm]
  have htl : m.length ≤ M1.length + 0 := by omega
  generalize M1.length + 0 = tb at *
  obtain ⟨K, hKe⟩ : ∃ K : Nat → Prop, K = fun j => j < m.length ∨ j = tb := ⟨_, rfl⟩
  rw [← hKe] at hT0
  have hKm : ∀ j, j < m.length → K j := fun j hj => by rw [hKe]; exact .inl hj
  have hKt : K tb := by rw [hKe]; exact .inr rfl
  clear hKe hX hXe hM0 hM1 hM0l hM1l hdk hrk
  rw [← List.append_nil X]
  (repeat (first|(with_reducible refine AWo.cons ?_)|((with_reducible refine Step.id ?_);first|((with_reducible apply Step.move);exact rfl;exact rfl)|((with_reducible apply Step.len);exact rfl;((assumption));((decide +kernel));exact rfl))|(with_reducible first|apply AWo.nil|apply AW.seq|apply Then.n|apply AW.regL|apply AW.block)))
  refine AW.midR 0 (fun t' M => ∃ N, M = m ++ N) ?_ ?_
  ·refine AW.loopW (fun q t M => ∃ (k : Nat) (D : Dk) (o : Option (Nat × Nat × Lg)) (c : Nat), q = xs.length - k ∧ k ≤ xs.length ∧ k ≤ 41 ∧ TwoS m M K dk rk D D (fsL o) (snL o) ∧ bdL k o ∧ M[tb]? = some (some { cells := [.int .i64 (c : Nat)] }) ∧ c ≤ k ∧
    t = fr [(5, .pointer (some ⟨dk, 0, none⟩)), (7, .pointer (some ⟨rk, 0, none⟩)), (9, (pvL o).1), (10, (pvL o).2), (11, .pointer (some ⟨tb, 0, none⟩)), (44, v), (45, .int .i64 (xs.length : Nat)), (46, .int .i64 (k : Nat))]) ⟨_, _, (by repeat (first | exact trivial | (refine And.intro rfl ?_))), 0, Dk.new z, none, 0, rfl, Nat.zero_le _, Nat.zero_le _, by rw [List.append_nil]; exact hT0, trivial, by rw [List.append_nil]; exact htX, Nat.le_refl _, rfl⟩ ?_
   rintro q t M ⟨k, D, o', c, rfl, hk, hk41, hT, hbd, htM, hck, rfl⟩
   refine AW.rebase ?_
   obtain ⟨N, hN⟩ := hT.pre
   rcases Nat.lt_or_ge k xs.length with hlt | hge
   ·obtain ⟨w, g1, g2⟩ := h3 k hlt
    have hMl : M.length = m.length + N.length := by rw [hN, List.length_append]
    have g1' : ∀ T, RdL (M ++ T) a (o + k * 4) ((xs.getD k default).cells w) := fun T => RdL.old T (by rw [hN]; exact RdL.old N g1)
    have hle := hl k
    have hfe := hf k
    generalize xs.getD k default = x at *
    have hw1 : (Value.agg (x.cells w).toArray).cells.all (·.oneCell') = true := Act9.one g2
    by_cases h40 : 40 < k
    ·(repeat (first|(with_reducible refine AWo.cons ?_)|((with_reducible refine Step.id ?_);first|((with_reducible apply Step.move);exact rfl;exact rfl)|((with_reducible apply Step.assign);exact rfl;exact rfl)|((with_reducible apply Step.loadL (n := 4));exact rfl;((decide +kernel));((decide +kernel));exact rfl;((exact g1' _));exact rfl;exact rfl)|((with_reducible apply Step.ix (s := 4));exact rfl;((assumption));exact rfl;((decide +kernel));exact rfl;((omega)))|((with_reducible apply Step.lss);exact rfl;exact rfl;exact rfl)|((with_reducible apply Step.gtr);exact rfl;exact rfl;exact rfl)|((with_reducible apply Step.alloc 0);exact rfl;exact ze43;exact rfl;((first|(simp only [zq7, zq8, zq9, zq0, iv_set, bv_set, iv_rep, bv_rep] <;> rfl)|rfl)))|((with_reducible apply Step.storeA (k := 0) (n := 4));exact rfl;exact rfl;exact rfl;exact rfl;((decide +kernel));exact rfl;((first|assumption|exact hw1));exact rfl;((first|(simp only [zq7, zq8, zq9, zq0, iv_set, bv_set, iv_rep, bv_rep] <;> rfl)|rfl))))|(with_reducible first|apply AWo.nil|apply AW.seq|apply Then.n|apply AW.regL|apply AW.block|apply AW.exit)|((with_reducible apply InBlk.miss);exact rfl)|(with_reducible first|apply Then.e|apply AW.skip)|((with_reducible apply AW.condT);exact rfl;(((simp only [zq1, zq2, zq3, zq4, zq5, zq6];first|assumption|omega))))))
     refine MidR.e ?_
     exact ⟨N ++ [some { cells := x.cells w }], by rw [hN, List.append_assoc]; rfl⟩
    ·obtain ⟨Y, hY⟩ : ∃ Y : AM, Y = M ++ [some { cells := x.cells w }] := ⟨_, rfl⟩
     have hYl : Y.length = M.length + 1 := by rw [hY, List.length_append]; rfl
     have hTY := hT.grow [some { cells := x.cells w }]
     rw [← hY] at hTY
     have hbY : Y[M.length + 0]? = some (some { cells := x.cells w }) := by rw [hY, get_app]; rfl
     have htY : Y[tb]? = some (some { cells := [.int .i64 (c : Nat)] }) := by rw [hY]; exact get_old _ htM
     obtain ⟨K1, hK1⟩ : ∃ K1 : Nat → Prop, K1 = fun j => K j ∨ M.length ≤ j ∧ j < Y.length := ⟨_, rfl⟩
     rw [← hK1] at hTY
     have hbK : K1 (M.length + 0) := by rw [hK1]; exact .inr ⟨by omega, by omega⟩
     have hKK : ∀ j, K j → K1 j := fun j hj => by rw [hK1]; exact .inl hj
     have hbt : M.length + 0 ≠ tb := fun e => by have := (List.getElem?_eq_some_iff.1 htM).1; omega
     clear hK1
     have rdx : ∀ (Z : AM), Z[M.length + 0]? = some (some { cells := x.cells w }) → ∀ T, RdL (Z ++ T) (M.length + 0) 0 (x.cells w) ∧ Rd (Z ++ T) (M.length + 0) (0 + 0) (.int .i64 x.kd) := fun Z hZ T =>
      ⟨RdL.old T ⟨_, hZ, fun j v hv => by rw [Nat.zero_add]; exact hv⟩, Rd.old T ⟨_, hZ, rfl⟩⟩
     have hwb : ∀ Z : AM, (∀ j, j < m.length → Z[j]? = m[j]?) → m.length ≤ Z.length → Byts Z w x.l := fun Z hZ hl => g2.sub ⟨hl, fun j b hb => by rw [hZ j (List.getElem?_eq_some_iff.1 hb).1]; exact hb⟩
     have hYm : ∀ j, j < m.length → Y[j]? = m[j]? := fun j hj => by rw [hY, hN, List.append_assoc, List.getElem?_append_left hj]
     have hwp : ∀ Z, Pre K1 Y Z → Byts Z w x.l := fun Z hp => hwb Z (fun j hj => by rw [hp.get j (hKK j (hKm j hj))]; exact hYm j hj) (by have := hp.len; omega)
     have rY := rdx Y hbY
     obtain ⟨q9, hq9, eq9⟩ := mod_in x.kd 9 (by omega) (by omega)
     (repeat (first|(with_reducible refine AWo.cons ?_)|((with_reducible refine Step.id ?_);first|((with_reducible apply Step.move);exact rfl;exact rfl)|((with_reducible apply Step.assign);exact rfl;exact rfl)|((with_reducible apply Step.loadL (n := 4));exact rfl;((decide +kernel));((decide +kernel));exact rfl;((exact g1' _));exact rfl;exact rfl)|((with_reducible apply Step.ix (s := 4));exact rfl;((assumption));exact rfl;((decide +kernel));exact rfl;((omega)))|((with_reducible apply Step.lss);exact rfl;exact rfl;exact rfl)|((with_reducible apply Step.gtr);exact rfl;exact rfl;exact rfl)|((with_reducible apply Step.alloc 0);exact rfl;exact ze43;exact rfl;((first|(simp only [zq7, zq8, zq9, zq0, iv_set, bv_set, iv_rep, bv_rep] <;> rfl)|rfl)))|((with_reducible apply Step.storeA (k := 0) (n := 4));exact rfl;exact rfl;exact rfl;exact rfl;((decide +kernel));exact rfl;((first|assumption|exact hw1));exact rfl;((first|(simp only [zq7, zq8, zq9, zq0, iv_set, bv_set, iv_rep, bv_rep] <;> rfl)|rfl))))|(with_reducible apply AWo.nil)|((fail_if_success (with_reducible refine AW.atR (id := 12) ?_));(with_reducible apply AW.seq))|(with_reducible first|apply Then.n|apply AW.regL|apply AW.block|apply AW.skip)|((with_reducible apply AW.condT);exact rfl;(((simp only [zq1, zq2, zq3, zq4, zq5, zq6];first|assumption|omega))))|((with_reducible apply AW.condF);exact rfl;(((simp only [zq1, zq2, zq3, zq4, zq5, zq6];first|assumption|omega))))))
     rw [show (M ++ [some { cells := (Value.agg (x.cells w).toArray).cells.toList }] : AM) = Y from hY.symm]
     generalize M.length + 0 = bx at *
     refine AW.seq ?_
     refine AW.join (fun t' M' => M' = Y ∧ All (fun i v => t' i = some v) [(5, .pointer (some ⟨dk, 0, none⟩)), (7, .pointer (some ⟨rk, 0, none⟩)), (9, (pvL o').1), (10, (pvL o').2), (11, .pointer (some ⟨tb, 0, none⟩)), (13, .pointer (some ⟨bx, 0, none⟩)), (14, .int .i64 (q9 : Nat)), (44, v), (45, .int .i64 (xs.length : Nat)), (46, .int .i64 (k : Nat))]) ?_ ?_
     ·rw [← List.append_nil Y]
      (repeat (first|(with_reducible refine AWo.cons ?_)|((with_reducible refine Step.id ?_);first|((with_reducible apply Step.load);exact rfl;((decide +kernel));exact rfl;((exact (rY _).2)))|((with_reducible apply Step.field0);exact rfl;((decide +kernel));exact rfl))|(with_reducible apply AW.regL)))
      ((with_reducible apply Step.conv);exact rfl;exact un3;exact un31;exact rfl;exact rfl)
      (repeat ((with_reducible refine AWo.cons ?_)))
      ((with_reducible apply Step.remU);exact rfl;exact rfl;exact (wrapU _);((omega));exact rfl)
      (repeat ((with_reducible refine AWo.cons ?_)))
      ((with_reducible apply Step.conv);exact rfl;exact un31;exact un3;exact eq9;exact rfl)
      (repeat (first|(with_reducible refine AWo.cons ?_)|((with_reducible refine Step.id ?_);((with_reducible apply Step.assign);exact rfl;exact rfl))|(with_reducible first|apply AWo.nil|apply Then.n)))
      exact ⟨rfl, (by repeat (first | exact trivial | (refine And.intro rfl ?_)))⟩
     ·rintro t' M' ⟨rfl, hsl⟩
      refine AW.weak (fr_all hsl) ?_
      clear hsl
      refine AW.join (fun t' M'' => ∃ D' o'' c', TwoS m M'' K1 dk rk D' D' (fsL o'') (snL o'') ∧ bdL (k + 1) o'' ∧ M''[tb]? = some (some { cells := [.int .i64 (c' : Nat)] }) ∧ c' ≤ k + 1 ∧ All (fun i v => t' i = some v) [(5, .pointer (some ⟨dk, 0, none⟩)), (7, .pointer (some ⟨rk, 0, none⟩)), (9, (pvL o'').1), (10, (pvL o'').2), (11, .pointer (some ⟨tb, 0, none⟩)), (44, v), (45, .int .i64 (xs.length : Nat)), (46, .int .i64 (k : Nat))]) ?_ ?_
      ·by_cases c6 : q9 < 6
       ·rw [← List.append_nil M']
        (repeat (first|(with_reducible refine AWo.cons ?_)|((with_reducible refine Step.id ?_);first|((with_reducible apply Step.move);exact rfl;exact rfl)|((with_reducible apply Step.assign);exact rfl;exact rfl)|((with_reducible apply Step.loadL (n := 4));exact rfl;((decide +kernel));((decide +kernel));exact rfl;((exact (rY _).1));exact rfl;exact rfl)|((with_reducible apply Step.lss);exact rfl;exact rfl;exact rfl))|(with_reducible first|apply AWo.nil|apply AW.seq|apply Then.n|apply AW.regL|apply AW.block)|((with_reducible apply AW.condT);exact rfl;(((simp only [zq1, zq2, zq3, zq4, zq5, zq6];first|assumption|omega))))))
        ((with_reducible apply Step.callF fit);exact rfl;exact Try.func25;exact rfl;exact rfl;((rw [List.append_nil];exact touched_ok hTY (fun N' => ⟨(hwp M' (Pre.refl _ _)).old N', hwp⟩) hle hfe)))
        rintro r2 M2 ⟨rfl, hp2, D2, hT2⟩
        rw [← List.append_nil M2]
        (repeat (first|(with_reducible refine AWo.cons ?_)|((with_reducible refine Step.id ?_);((with_reducible apply Step.not);exact rfl;exact rfl))|(with_reducible first|apply AWo.nil|apply Then.n|apply InBlk.n|apply AW.skip)|((with_reducible apply AW.condF);exact rfl;((rfl)))))
        exact ⟨D2, o', c, by rw [List.append_nil]; exact hT2, hbd.mono (by omega), by rw [List.append_nil, hp2.get tb (hKK tb hKt)]; exact htY, by omega, (by repeat (first | exact trivial | (refine And.intro rfl ?_)))⟩
       ·by_cases c7 : q9 = 6
        ·subst c7
         rw [← List.append_nil M']
         (repeat (first|(with_reducible refine AWo.cons ?_)|((with_reducible refine Step.id ?_);first|((with_reducible apply Step.move);exact rfl;exact rfl)|((with_reducible apply Step.assign);exact rfl;exact rfl)|((with_reducible apply Step.lss);exact rfl;exact rfl;exact rfl)|((with_reducible apply Step.eql);exact rfl;exact rfl;exact rfl))|(with_reducible first|apply AWo.nil|apply AW.seq|apply Then.n|apply AW.regL|apply AW.block)|((with_reducible apply AW.condT);exact rfl;((rfl)))|((with_reducible apply AW.condF);exact rfl;((rfl)))))
         ((with_reducible apply Step.callF fit);exact rfl;exact Try.func50;exact rfl;exact rfl;((rw [List.append_nil];exact T_open hTY)))
         rintro r2 M2 ⟨hp2, hres⟩
         have hko := hTY.ok
         rcases hres with ⟨e0, rfl, e2, hT2⟩ | ⟨cc, nn, lg, e0, e1, rfl, hT2⟩
         ·rw [← List.append_nil M2]
          (repeat (first|(with_reducible refine AWo.cons ?_)|((with_reducible refine Step.id ?_);first|((with_reducible apply Step.move);exact rfl;exact rfl)|((with_reducible apply Step.assign);exact rfl;exact rfl)|((with_reducible apply Step.extract);exact rfl;exact rfl;exact rfl))|(with_reducible first|apply AWo.nil|apply AW.seq|apply Then.n|apply AW.regL)))
          ((with_reducible apply Step.callF fit);exact rfl;exact Try.func61;exact rfl;exact rfl;((rw [List.append_nil];exact RT_open hT2)))
          rintro r3 M3 ⟨hp3, hres3⟩
          have hp23 := hp2.trans hp3
          rcases hres3 with ⟨_, rfl, _, hT3⟩ | ⟨_, _, _, e0', _⟩
          ·generalize (openF D).1 = e at *
           rw [← List.append_nil M3]
           (repeat (first|(with_reducible refine AWo.cons ?_)|((with_reducible refine Step.id ?_);first|((with_reducible apply Step.gdT);exact rfl;exact rfl;(focus ((simp;done))))|((with_reducible apply Step.move);exact rfl;exact rfl)|((with_reducible apply Step.assign);exact rfl;exact rfl)|((with_reducible apply Step.ptrNil);exact rfl;exact rfl;exact un96;exact rfl)|((with_reducible apply Step.ptrNil);exact rfl;exact rfl;exact un108;exact rfl)|((with_reducible apply Step.ptrNilN);exact rfl;exact rfl;exact un108;exact rfl)|((with_reducible apply Step.neq);exact rfl;exact rfl;exact rfl)|((with_reducible apply Step.neqB);exact rfl;exact rfl;exact un4;exact rfl)|((with_reducible apply Step.extract);exact rfl;exact rfl;exact rfl)|((with_reducible apply Step.pickF);exact rfl;exact rfl;exact rfl;exact rfl;(focus ((simp;done)))))|(with_reducible first|apply AWo.nil|apply AW.seq|apply Then.n|apply AW.regL|apply InBlk.n|apply AW.skip)|((with_reducible apply AW.condF);exact rfl;((rfl)))))
           exact ⟨_, o', c, by rw [List.append_nil]; exact hT3, hbd.mono (by omega), by rw [List.append_nil, hp23.get tb (hKK tb hKt)]; exact htY, by omega, (by repeat (first | exact trivial | (refine And.intro rfl ?_)))⟩
          ·rw [e0] at e0'; cases e0'
         ·obtain ⟨b1, _, b2, b3, b4, _⟩ := openF_len hko e0
          rw [← List.append_nil M2]
          (repeat (first|(with_reducible refine AWo.cons ?_)|((with_reducible refine Step.id ?_);first|((with_reducible apply Step.move);exact rfl;exact rfl)|((with_reducible apply Step.assign);exact rfl;exact rfl)|((with_reducible apply Step.extract);exact rfl;exact rfl;exact rfl))|(with_reducible first|apply AWo.nil|apply AW.seq|apply Then.n|apply AW.regL)))
          ((with_reducible apply Step.callF fit);exact rfl;exact Try.func61;exact rfl;exact rfl;((rw [List.append_nil];exact RT_open hT2)))
          rintro r3 M3 ⟨hp3, hres3⟩
          have hp23 := hp2.trans hp3
          rcases hres3 with ⟨e0', _⟩ | ⟨cc', nn', lr, e0', _, rfl, hT3⟩
          ·rw [e0] at e0'; cases e0'
          ·rw [e0] at e0'
           injection e0' with e0'
           simp only [Prod.mk.injEq] at e0'
           obtain ⟨rfl, rfl⟩ := e0'
           rw [← List.append_nil M3]
           (repeat (first|(with_reducible refine AWo.cons ?_)|((with_reducible refine Step.id ?_);first|((with_reducible apply Step.gdT);exact rfl;exact rfl;((rfl)))|((with_reducible apply Step.move);exact rfl;exact rfl)|((with_reducible apply Step.assign);exact rfl;exact rfl)|((with_reducible apply Step.ptrNot);exact rfl;exact rfl;exact un96;exact rfl)|((with_reducible apply Step.ptrNot);exact rfl;exact rfl;exact un108;exact rfl)|((with_reducible apply Step.ptrNotN);exact rfl;exact rfl;exact un108;exact rfl)|((with_reducible apply Step.neq);exact rfl;exact rfl;exact rfl)|((with_reducible apply Step.neqB);exact rfl;exact rfl;exact un4;exact rfl)|((with_reducible apply Step.extract);exact rfl;exact rfl;exact rfl)|((with_reducible apply Step.pickF);exact rfl;exact rfl;exact rfl;exact rfl;((rfl))))|(with_reducible first|apply AWo.nil|apply AW.seq|apply Then.n|apply AW.regL|apply InBlk.n|apply AW.skip)|((with_reducible apply AW.condT);exact rfl;((rfl)))|((with_reducible apply AW.condF);exact rfl;((rfl)))))
           exact ⟨_, some (lg, lr, ⟨cc, nn, false⟩), c, by rw [List.append_nil]; exact hT3, ⟨b1, b2, by show cc.recs.length ≤ _; omega, b4⟩, by rw [List.append_nil, hp23.get tb (hKK tb hKt)]; exact htY, by omega, (by repeat (first | exact trivial | (refine And.intro rfl ?_)))⟩
        ·match o', hTY, hbd with
         | none, hTY, hbd =>
          rw [← List.append_nil M']
          (repeat (first|(with_reducible refine AWo.cons ?_)|((with_reducible refine Step.id ?_);first|((with_reducible apply Step.move);exact rfl;exact rfl)|((with_reducible apply Step.assign);exact rfl;exact rfl)|((with_reducible apply Step.ptrNilN);exact rfl;exact rfl;exact un108;exact rfl)|((with_reducible apply Step.lss);exact rfl;exact rfl;exact rfl)|((with_reducible apply Step.eql);exact rfl;exact rfl;exact rfl))|(with_reducible first|apply AWo.nil|apply AW.seq|apply Then.n|apply AW.regL|apply AW.block|apply InBlk.n|apply AW.skip)|((with_reducible apply AW.condF);exact rfl;((first|rfl|(simp only [zq1, zq2, zq3, zq4, zq5, zq6];first|assumption|omega))))))
          exact ⟨D, none, c, by rw [List.append_nil]; exact hTY, trivial, by rw [List.append_nil]; exact htY, by omega, (by repeat (first | exact trivial | (refine And.intro rfl ?_)))⟩
         | some (lg, lr, L), hTY, hbd =>
          have hbd : LBd L k := hbd
          have hpay := payload_ok htY (by omega) (hwp M' (Pre.refl _ _)) hle
          rw [← List.append_nil M']
          (repeat (first|(with_reducible refine AWo.cons ?_)|((with_reducible refine Step.id ?_);first|((with_reducible apply Step.move);exact rfl;exact rfl)|((with_reducible apply Step.assign);exact rfl;exact rfl)|((with_reducible apply Step.loadL (n := 4));exact rfl;((decide +kernel));((decide +kernel));exact rfl;((exact (rY _).1));exact rfl;exact rfl)|((with_reducible apply Step.ptrNotN);exact rfl;exact rfl;exact un108;exact rfl)|((with_reducible apply Step.lss);exact rfl;exact rfl;exact rfl)|((with_reducible apply Step.eql);exact rfl;exact rfl;exact rfl))|(with_reducible first|apply AWo.nil|apply AW.seq|apply Then.n|apply AW.regL|apply AW.block)|((with_reducible apply AW.condT);exact rfl;((rfl)))|((with_reducible apply AW.condF);exact rfl;(((simp only [zq1, zq2, zq3, zq4, zq5, zq6];first|assumption|omega))))))
          ((with_reducible apply Step.callF fit);exact rfl;exact Try.func62;exact rfl;exact rfl;((rw [List.append_nil];exact hpay)))
          rintro r2 M2 ⟨p, c2, hpl, hc2, ⟨N2, hN2⟩, hr2⟩
          have hTs := (hTY.set (hKK tb hKt) htl (some { cells := [.int .i64 (c2 : Nat)] })).grow N2
          rw [← hN2] at hTs
          have hM2l : M2.length = M'.length + N2.length := by rw [hN2, List.length_append, List.length_set]
          have hub : Byts (vw (fun j => K1 j ∨ (M'.set tb (some { cells := [.int .i64 (c2 : Nat)] })).length ≤ j ∧ j < M2.length) M2) r2 p := (Row.vw2 hr2 fun j hj => .inr ⟨by rw [List.length_set]; exact hr2.ge_of hj, hr2.lt_of hj⟩).byts (by rw [vw_len]; omega)
          have ht2 : M2[tb]? = some (some { cells := [.int .i64 (c2 : Nat)] }) := by rw [hN2]; exact get_old N2 (List.getElem?_set_self (List.getElem?_eq_some_iff.1 htY).1)
          by_cases c8 : q9 = 7
          ·subst c8
           rw [← List.append_nil M2]
           (repeat (first|(with_reducible refine AWo.cons ?_)|((with_reducible refine Step.id ?_);first|((with_reducible apply Step.gdT);exact rfl;exact rfl;((rfl)))|((with_reducible apply Step.move);exact rfl;exact rfl)|((with_reducible apply Step.assign);exact rfl;exact rfl)|((with_reducible apply Step.eql);exact rfl;exact rfl;exact rfl))|(with_reducible first|apply AWo.nil|apply AW.seq|apply Then.n|apply AW.regL)))
           ((with_reducible apply Step.callF fit);exact rfl;exact Try.func51;exact rfl;exact rfl;((rw [List.append_nil];exact T_add (L := L) hTs hub (by omega) (by have := hbd.2.2.1;omega))))
           rintro r3 M3 ⟨rfl, hT3, hp3⟩
           have hub3 := hub.sub hp3.sub
           rw [← List.append_nil M3]
           (repeat (first|(with_reducible refine AWo.cons ?_)|((with_reducible refine Step.id ?_);first|((with_reducible apply Step.gdT);exact rfl;exact rfl;((rfl)))|((with_reducible apply Step.move);exact rfl;exact rfl))))
           ((with_reducible apply Step.callF fit);exact rfl;exact Try.func63;exact rfl;exact rfl;((rw [List.append_nil];exact RT_add (L := L) hT3 hub3 (by omega) (by have := hbd.2.2.1;omega))))
           rintro r4 M4 ⟨rfl, hT4, hp4⟩
           have hb4 := hbd.add (D := D) (p := p)
           generalize (addF D L p).1 = e at *
           rw [← List.append_nil M4]
           (repeat (first|(with_reducible refine AWo.cons ?_)|((with_reducible refine Step.id ?_);first|((with_reducible apply Step.gdT);exact rfl;exact rfl;(focus (first|rfl|(simp;done))))|((with_reducible apply Step.gdF);exact rfl;exact rfl;((rfl)))|((with_reducible apply Step.move);exact rfl;exact rfl)|((with_reducible apply Step.eql);exact rfl;exact rfl;exact rfl)|((with_reducible apply Step.neq);exact rfl;exact rfl;exact rfl)|((with_reducible apply Step.pickT);exact rfl;exact rfl;exact rfl;exact rfl;((rfl)))|((with_reducible apply Step.pickF);exact rfl;exact rfl;exact rfl;exact rfl;(focus (first|rfl|(simp;done)))))|(with_reducible first|apply AWo.nil|apply Then.n|apply InBlk.n|apply AW.skip)|((with_reducible apply AW.condF);exact rfl;((rfl)))))
           exact ⟨_, some (lg, lr, _), c2, by rw [List.append_nil]; exact hT4.less fun j hj => .inl hj, hb4, by rw [List.append_nil, (hp3.trans hp4).get tb (.inl (hKK tb hKt))]; exact ht2, by omega, (by repeat (first | exact trivial | (refine And.intro rfl ?_)))⟩
          ·obtain rfl : q9 = 8 := by omega
           rw [← List.append_nil M2]
           (repeat (first|(with_reducible refine AWo.cons ?_)|((with_reducible refine Step.id ?_);first|((with_reducible apply Step.gdT);exact rfl;exact rfl;((rfl)))|((with_reducible apply Step.gdF);exact rfl;exact rfl;((rfl)))|((with_reducible apply Step.move);exact rfl;exact rfl)|((with_reducible apply Step.assign);exact rfl;exact rfl)|((with_reducible apply Step.eql);exact rfl;exact rfl;exact rfl)|((with_reducible apply Step.pickF);exact rfl;exact rfl;exact rfl;exact rfl;((rfl))))|(with_reducible first|apply AWo.nil|apply AW.seq|apply Then.n|apply AW.regL)))
           ((with_reducible apply Step.callF fit);exact rfl;exact Try.func60;exact rfl;exact rfl;((rw [List.append_nil];exact T_rw (L := L) hTs hub (by omega) hbd.1)))
           rintro r3 M3 ⟨rfl, hT3, hp3⟩
           have hub3 := hub.sub hp3.sub
           rw [← List.append_nil M3]
           (repeat (first|(with_reducible refine AWo.cons ?_)|((with_reducible refine Step.id ?_);first|((with_reducible apply Step.gdT);exact rfl;exact rfl;((rfl)))|((with_reducible apply Step.move);exact rfl;exact rfl))))
           ((with_reducible apply Step.callF fit);exact rfl;exact Try.func64;exact rfl;exact rfl;((rw [List.append_nil];exact RT_rw (L := L) hT3 hub3 (by omega) hbd.1)))
           rintro r4 M4 ⟨rfl, hT4, hp4⟩
           have hb4 := hbd.rw (D := D) (p := p)
           generalize (rwF D L p).1 = e at *
           rw [← List.append_nil M4]
           (repeat (first|(with_reducible refine AWo.cons ?_)|((with_reducible refine Step.id ?_);first|((with_reducible apply Step.gdT);exact rfl;exact rfl;((rfl)))|((with_reducible apply Step.neq);exact rfl;exact rfl;exact rfl)|((with_reducible apply Step.pickT);exact rfl;exact rfl;exact rfl;exact rfl;((rfl)))|((with_reducible apply Step.pickF);exact rfl;exact rfl;exact rfl;exact rfl;((rfl))))|(with_reducible first|apply AWo.nil|apply Then.n|apply InBlk.n|apply AW.skip)|((with_reducible apply AW.condF);exact rfl;(focus ((simp;done))))))
           exact ⟨_, some (lg, lr, _), c2, by rw [List.append_nil]; exact hT4.less fun j hj => .inl hj, hb4, by rw [List.append_nil, (hp3.trans hp4).get tb (.inl (hKK tb hKt))]; exact ht2, by omega, (by repeat (first | exact trivial | (refine And.intro rfl ?_)))⟩
      ·rintro t' M'' ⟨D', o'', c', hT2, hb2, ht2, hc2, hsl⟩
       refine AW.weak (fr_all hsl) ?_
       clear hsl
       have hBo := fun T => both_ok (hT2.grow T)
       match o'', hT2, hb2 with
       | none, hT2, hb2 =>
        rw [← List.append_nil M'']
        (repeat (first|(with_reducible refine AWo.cons ?_)|((with_reducible refine Step.id ?_);first|((with_reducible apply Step.gdT);exact rfl;exact rfl;((rfl)))|((with_reducible apply Step.gdF);exact rfl;exact rfl;((rfl)))|((with_reducible apply Step.move);exact rfl;exact rfl)|((with_reducible apply Step.ptrNilN);exact rfl;exact rfl;exact un108;exact rfl)|((with_reducible apply Step.add);exact rfl;exact rfl;((omega));exact rfl)|((with_reducible apply Step.not);exact rfl;exact rfl)|((with_reducible apply Step.pickF);exact rfl;exact rfl;exact rfl;exact rfl;((rfl)))|((with_reducible apply Step.callR fit);exact rfl;exact Try.func26;exact rfl;exact rfl;exact (hBo _)))|(with_reducible first|apply AWo.nil|apply AW.seq|apply Then.n|apply AW.regL|apply InBlk.n|apply AW.skip)|((with_reducible apply AW.condF);exact rfl;((rfl)))))
        exact ⟨_, [(5, .pointer (some ⟨dk, 0, none⟩)), (7, .pointer (some ⟨rk, 0, none⟩)), (9, .pointer none), (10, .pointer none), (11, .pointer (some ⟨tb, 0, none⟩)), (44, v), (45, .int .i64 (xs.length : Nat)), (46, .int .i64 (k + 1 : Nat))], by omega, (by repeat (first | exact trivial | (refine And.intro rfl ?_))), k + 1, D', none, c', rfl, by omega, by omega, by rw [List.append_nil]; exact hT2.less hKK, trivial, by rw [List.append_nil]; exact ht2, hc2, rfl⟩
       | some (lg, lr, L), hT2, hb2 =>
        have hAl := fun T => both_alike (hT2.grow T) hb2 (by omega)
        rw [← List.append_nil M'']
        (repeat (first|(with_reducible refine AWo.cons ?_)|((with_reducible refine Step.id ?_);first|((with_reducible apply Step.gdT);exact rfl;exact rfl;((rfl)))|((with_reducible apply Step.move);exact rfl;exact rfl)|((with_reducible apply Step.ptrNotN);exact rfl;exact rfl;exact un108;exact rfl)|((with_reducible apply Step.add);exact rfl;exact rfl;((omega));exact rfl)|((with_reducible apply Step.not);exact rfl;exact rfl)|((with_reducible apply Step.pickT);exact rfl;exact rfl;exact rfl;exact rfl;((rfl)))|((with_reducible apply Step.pickF);exact rfl;exact rfl;exact rfl;exact rfl;((rfl)))|((with_reducible apply Step.callR fit);exact rfl;exact Try.func26;exact rfl;exact rfl;exact (hBo _))|((with_reducible apply Step.callR fit);exact rfl;exact Try.func65;exact rfl;exact rfl;exact (hAl _)))|(with_reducible first|apply AWo.nil|apply AW.seq|apply Then.n|apply AW.regL|apply InBlk.n|apply AW.skip)|((with_reducible apply AW.condF);exact rfl;((rfl)))))
        exact ⟨_, [(5, .pointer (some ⟨dk, 0, none⟩)), (7, .pointer (some ⟨rk, 0, none⟩)), (9, .pointer (some ⟨lg, 0, none⟩)), (10, .pointer (some ⟨lr, 0, none⟩)), (11, .pointer (some ⟨tb, 0, none⟩)), (44, v), (45, .int .i64 (xs.length : Nat)), (46, .int .i64 (k + 1 : Nat))], by omega, (by repeat (first | exact trivial | (refine And.intro rfl ?_))), k + 1, D', some (lg, lr, L), c', rfl, by omega, by omega, by rw [List.append_nil]; exact hT2.less hKK, hb2, by rw [List.append_nil]; exact ht2, hc2, rfl⟩
   ·obtain rfl : k = xs.length := by omega
    (repeat (first|(with_reducible refine AWo.cons ?_)|((with_reducible refine Step.id ?_);((with_reducible apply Step.lss);exact rfl;exact rfl;exact rfl))|(with_reducible first|apply AWo.nil|apply AW.seq|apply Then.n|apply AW.regL|apply AW.exit|apply Then.e)|((with_reducible apply AW.condF);exact rfl;(((simp only [zq1, zq2, zq3, zq4, zq5, zq6];first|assumption|omega))))))
    refine MidR.e ?_
    exact ⟨N, by rw [List.append_nil]; exact hN⟩
  ·rintro t' M ⟨N, rfl⟩
   refine InBlk.hit ?_
   refine Then.n ?_
   (repeat (first|(with_reducible refine AWo.cons ?_)|((with_reducible refine Step.id ?_);first|((with_reducible apply Step.assign);exact rfl;exact rfl)|((with_reducible apply Step.callR fit);exact rfl;exact Try.func16;exact rfl;exact rfl;exact (hw _)))|(with_reducible first|apply AWo.nil|apply AW.seq|apply Then.n|apply AW.regL)))
   (refine AW.ret ?_; (repeat (first | refine Then.r ?_ | refine InBlk.r ?_)))
   exact ⟨_, rfl, rfl, N, by simp⟩
 ·(repeat (first|(with_reducible refine AWo.cons ?_)|((with_reducible refine Step.id ?_);first|((with_reducible apply Step.move);exact rfl;exact rfl)|((with_reducible apply Step.assign);exact rfl;exact rfl))|(with_reducible first|apply AWo.nil|apply AW.seq|apply Then.n|apply AW.regL)))
  ((with_reducible apply Step.callF fit);exact rfl;exact Try.func23;exact rfl;exact rfl;((rw [List.append_nil];exact NewDisk_bad hnn)))
  rintro r0 M0 ⟨rfl, rfl⟩
  rw [← List.append_nil m]
  (repeat (first|(with_reducible refine AWo.cons ?_)|((with_reducible refine Step.id ?_);first|((with_reducible apply Step.move);exact rfl;exact rfl)|((with_reducible apply Step.assign);exact rfl;exact rfl)|((with_reducible apply Step.extract);exact rfl;exact rfl;exact rfl))|(with_reducible first|apply AWo.nil|apply AW.seq|apply Then.n|apply AW.regL)))
  ((with_reducible apply Step.callF fit);exact rfl;exact Try.func24;exact rfl;exact rfl;((rw [List.append_nil];exact RNewDisk_bad hnn)))
  rintro r1 M1 ⟨rfl, rfl⟩
  rw [← List.append_nil m]
  (repeat (first|(with_reducible refine AWo.cons ?_)|((with_reducible refine Step.id ?_);first|((with_reducible apply Step.gdT);exact rfl;exact rfl;((rfl)))|((with_reducible apply Step.move);exact rfl;exact rfl)|((with_reducible apply Step.assign);exact rfl;exact rfl)|((with_reducible apply Step.ptrNil);exact rfl;exact rfl;exact un36;exact rfl)|((with_reducible apply Step.ptrNil);exact rfl;exact rfl;exact un39;exact rfl)|((with_reducible apply Step.neq);exact rfl;exact rfl;exact rfl)|((with_reducible apply Step.neqB);exact rfl;exact rfl;exact un4;exact rfl)|((with_reducible apply Step.extract);exact rfl;exact rfl;exact rfl)|((with_reducible apply Step.pickT);exact rfl;exact rfl;exact rfl;exact rfl;((rfl)))|((with_reducible apply Step.pickF);exact rfl;exact rfl;exact rfl;exact rfl;((rfl)))|((with_reducible apply Step.callR fit);exact rfl;exact Try.func16;exact rfl;exact rfl;exact (hw _)))|(with_reducible first|apply AWo.nil|apply AW.seq|apply Then.n|apply AW.regL)|((with_reducible apply AW.condT);exact rfl;((rfl)))))
  (refine AW.ret ?_; (repeat (first | refine Then.r ?_ | refine InBlk.r ?_)))
  exact ⟨_, rfl, rfl, [], by simp⟩
open Go.ChangeShapes Go.WideShapes Go.Deep
section
variable {H : Type} {enc : TypeId × Value → H} {P : Program} {w : World} {base : Nat} {held : Bool}
theorem byts_sl {T e : TypeId} {fuel : Nat} {v : Value} {d : DataW H × List MemPlace} (ht : P.underlying T = some (.slice e)) (he : P.underlying e = some (.int .u8)) (hce : P.cellsOf e = 1) (h : DataW.trod enc P w base (fun _ => true) held fuel T [v] = some d) :
  ∃ l : List UInt8, l.length ≤ maxLen ∧ (∀ R, OkB w R (v, by8 l)) ∧ ∀ (bs : List AR) (i : Nat), bs[i]? = some (v, by8 l) → Byts (bs.map mkB2) (mkV2 i v) l := by
 rcases open_ints ht he hce h with ⟨hcs, _⟩ | ⟨x, n, c, zs, hcs, _, hl, hm, hz, _, hcell, hwz⟩
 ·obtain rfl : v = .slice none 0 0 := by simpa using hcs
  exact ⟨[], Nat.zero_le _, fun R => .inl rfl, fun bs i hi => ⟨i, 0, .inl ⟨rfl, rfl⟩, by simp; exact (List.getElem?_eq_some_iff.1 hi).1, fun k hk => by simp at hk⟩⟩
 ·obtain rfl : v = .slice (some x) n c := by simpa using hcs
  rw [if_pos rfl] at hz
  have hlen : ((zs.take n).map fun z => UInt8.ofNat z.toNat).length = n := by simp; omega
  cases c with
  | zero =>
   obtain rfl : n = 0 := by omega
   refine ⟨[], Nat.zero_le _, fun R => .inr (.inl ⟨x, rfl⟩), fun bs i hi => ?_⟩
   have hlt : i < (bs.map mkB2).length := by simp; exact (List.getElem?_eq_some_iff.1 hi).1
   obtain ⟨b, o, sp⟩ := x
   cases sp with
   | none => exact ⟨i, 0, Sl.mk (Nat.le_refl _), hlt, fun k hk => by simp at hk⟩
   | some k => exact ⟨i, 0, .inr (.inr ⟨rfl, 0, k, rfl⟩), hlt, fun k hk => by simp at hk⟩
  | succ c =>
   obtain ⟨b, o, sp⟩ := x
   have h0 : sp = none ∧ b < w.heap.size := by
    have h1 := hcell 0 (by omega)
    have := cell_some h1
    first | exact this | (simpa [Addr.add] using this) | (cases sp <;> simp_all [Addr.add])
   obtain ⟨rfl, hb⟩ := h0
   refine ⟨(zs.take n).map fun z => UInt8.ofNat z.toNat, by rw [hlen]; omega, fun R => .inr (.inr ⟨b, o, n, c, rfl, hl, hb, fun j x hj => ?_⟩), fun bs i hi => ?_⟩
   ·have hj1 := (List.getElem?_eq_some_iff.1 hj).1
    simp only [by8_len, hlen] at hj1
    have hjz : j < zs.length := by omega
    simp only at hj
    rw [by8_get (by rw [hlen]; exact hj1)] at hj
    injection hj with hj
    have := hcell j hjz
    rw [Addr.add_lit] at this
    have hb' := bounds_u8 (hwz _ (List.getElem_mem hjz))
    have h1 : (UInt8.ofNat zs[j].toNat).toNat = zs[j].toNat := by
     rw [UInt8.toNat_ofNat']; exact Nat.mod_eq_of_lt (by omega)
    refine ⟨x, ?_, by rw [← hj]; exact .int _ _⟩
    rw [this, ← hj]
    simp only [List.getElem_map, List.getElem_take]
    rw [h1, List.getD_eq_getElem?_getD, List.getElem?_eq_getElem hjz, Option.getD_some]
    congr 2
    omega
   ·have hM : (bs.map mkB2)[i]? = some (some { cells := by8 ((zs.take n).map fun z => UInt8.ofNat z.toNat), kind := .ro }) := by rw [List.getElem?_map, hi]; rfl
    exact (BytsAt.of (by rw [hlen]; exact Sl.mk (Nat.le_refl n)) fun _ => ⟨_, hM, fun j v hj => by rw [Nat.zero_add]; exact hj⟩).byts (List.getElem?_eq_some_iff.1 hM).1
end
def actCs (F : Nat → Act9) (s : Nat → Value) (e0 n : Nat) : List Value := (List.range n).flatMap fun k => (F k).cells (mkV2 (e0 + k) (s k))
theorem actCs_succ (F : Nat → Act9) (s : Nat → Value) (e0 n : Nat) : actCs F s e0 (n + 1) = actCs F s e0 n ++ (F n).cells (mkV2 (e0 + n) (s n)) := by
 simp [actCs, List.range_succ, List.flatMap_append]
theorem actCs_len (F : Nat → Act9) (s : Nat → Value) (e0 : Nat) : ∀ n, (actCs F s e0 n).length = n * 4
 | 0 => rfl
 | n + 1 => by rw [actCs_succ, List.length_append, actCs_len F s e0 n]; simp [Act9.cells]; omega
theorem actCs_get (F : Nat → Act9) (s : Nat → Value) (e0 : Nat) : ∀ n k, k < n → ∀ q v, ((F k).cells (mkV2 (e0 + k) (s k)))[q]? = some v → (actCs F s e0 n)[k * 4 + q]? = some v
 | 0, k, h, _, _, _ => by omega
 | n + 1, k, h, q, v, hq => by
  have hq3 : q < 4 := by have := (List.getElem?_eq_some_iff.1 hq).1; simpa [Act9.cells] using this
  rw [actCs_succ]
  rcases Nat.lt_succ_iff_lt_or_eq.1 h with h' | h'
  ·rw [List.getElem?_append_left (by rw [actCs_len]; omega)]
   exact actCs_get F s e0 n k h' q v hq
  ·subst h'
   rw [List.getElem?_append_right (by rw [actCs_len]; omega), actCs_len, Nat.add_sub_cancel_left]
   exact hq
theorem cells4 (x : Act9) (w : Value) (q : Nat) (v : Value) (h : (x.cells w)[q]? = some v) : q = 0 ∧ v = .int .i64 x.kd ∨ q = 1 ∧ v = .int .i64 x.n ∨ q = 2 ∧ v = .int .i64 x.m ∨ q = 3 ∧ v = w := by
 match q, h with
 | 0, h => simp [Act9.cells] at h; exact .inl ⟨rfl, h.symm⟩
 | 1, h => simp [Act9.cells] at h; exact .inr (.inl ⟨rfl, h.symm⟩)
 | 2, h => simp [Act9.cells] at h; exact .inr (.inr (.inl ⟨rfl, h.symm⟩))
 | 3, h => simp [Act9.cells] at h; exact .inr (.inr (.inr ⟨rfl, h.symm⟩))
 | q + 4, h => simp [Act9.cells] at h
section
variable {H : Type} {enc : TypeId × Value → H} {P : Program} {w : World} {base : Nat} {held : Bool}
end
section
variable {H : Type} {enc : TypeId × Value → H} {P : Program} {w : World} {base : Nat} {held : Bool}
theorem arg_acts9i {r : Reach} {b0 : Nat} {T e tS tI : TypeId} {fs : Array Field} {a : Option Addr} {n c : Nat} {d : DataW H} {p : List MemPlace} (ht : P.underlying T = some (.slice e)) (he : P.underlying e = some (.struct fs)) (hone : oneCellFields P fs = true) (hC : P.cellsOf e = fs.size) (hsz : fs.size = 4)
  (hI : ∀ j f, j < 3 → fs[j]? = some f → P.underlying f.type = some (.int .i64)) (hS : ∀ f, fs[3]? = some f → f.type = tS) (hS1 : P.underlying tS = some (.slice tI)) (hS2 : P.underlying tI = some (.int .u8)) (hS3 : P.cellsOf tI = 1)
  (hok : Value.okWide P w r b0 T (.slice a n c)) (h : DataW.Trod enc P w base (fun _ => true) held T (.slice a n c) d p) :
  ∃ (F : Nat → Act9) (s : Nat → Value), n ≤ maxLen ∧ (∀ k, (F k).l.length ≤ maxLen ∧ (F k).n ≤ 9223372036854775807) ∧ (∀ R k, OkB w R (s k, by8 (F k).l)) ∧
   (∀ (bs : List AR) (e0 : Nat), (∀ k, k < n → bs[e0 + k]? = some (s k, by8 (F k).l)) → OkB w (plN bs) (.slice a n c, actCs F s e0 n)) ∧
   (∀ (bs : List AR) (i e0 : Nat), bs[i]? = some (.slice a n c, actCs F s e0 n) → (∀ k, k < n → bs[e0 + k]? = some (s k, by8 (F k).l)) → Acts9 (bs.map mkB2) (mkV2 i (.slice a n c)) ((List.range n).map F)) := by
 obtain ⟨fuel, h⟩ := h
 rcases ok_slice ht hok with ⟨rfl, rfl, rfl⟩ | ⟨b, o, rfl, hle, hlt⟩
 ·exact ⟨fun _ => default, fun _ => .slice none 0 0, by unfold maxLen; omega, fun _ => ⟨by show ([] : List UInt8).length ≤ _; simp, by show (0 : Int) ≤ _; omega⟩, fun R k => .inl rfl, fun bs e0 _ => .inl rfl, fun bs i e0 hi _ =>
   ⟨i, 0, .inl ⟨rfl, rfl⟩, by simp; exact (List.getElem?_eq_some_iff.1 hi).1, fun k hk => by simp at hk⟩⟩
 ·rcases open_slice_fields ht he hone hC h with ⟨hcs, _⟩ | ⟨x, l, cap, m, D, Pl, hcs, _, hl, hm, hmm, _, hrow⟩
  ·simp [Value.cells] at hcs
  ·simp [Value.cells] at hcs
   obtain ⟨rfl, rfl, rfl⟩ := hcs
   rw [if_pos rfl] at hmm
   have key : ∀ k : Nat, ∃ q : Act9 × Value, (q.1.l.length ≤ maxLen ∧ q.1.n ≤ 9223372036854775807) ∧ (∀ R, OkB w R (q.2, by8 q.1.l)) ∧ (∀ (bs : List AR) (i : Nat), bs[i]? = some (q.2, by8 q.1.l) → Byts (bs.map mkB2) (mkV2 i q.2) q.1.l) ∧
     (k < n → w.cell? ⟨b, o + (k * 4 + 0), none⟩ = some (.int .i64 q.1.kd) ∧ w.cell? ⟨b, o + (k * 4 + 1), none⟩ = some (.int .i64 q.1.n) ∧ w.cell? ⟨b, o + (k * 4 + 2), none⟩ = some (.int .i64 q.1.m) ∧ w.cell? ⟨b, o + (k * 4 + 3), none⟩ = some q.2) := fun k => by
    by_cases hk : k < n
    ·obtain ⟨ys, nn, _, _, _, hf⟩ := hrow k (by omega)
     rw [hsz] at hf
     have fi : ∀ j, j < 3 → ∃ z : Int, w.cell? ⟨b, o + (k * 4 + j), none⟩ = some (.int .i64 z) ∧ z ≤ 9223372036854775807 := fun j hj => by
      have hfj : fs[j]? = some (fs[j]'(by omega)) := Array.getElem?_eq_getElem (by omega)
      obtain ⟨v, y, h1, _, h3⟩ := hf j _ hfj
      obtain ⟨z, hz, _, wz⟩ := DataW.trod_int (hI j _ hj hfj) h3
      simp at hz
      subst hz
      rw [Addr.add_lit] at h1
      exact ⟨z, h1, (bounds_i64 wz).2⟩
     obtain ⟨z0, g0', _⟩ := fi 0 (by omega)
     obtain ⟨z1, g1', b1'⟩ := fi 1 (by omega)
     obtain ⟨z2, g2', _⟩ := fi 2 (by omega)
     have hf3 : fs[3]? = some (fs[3]'(by omega)) := Array.getElem?_eq_getElem (by omega)
     obtain ⟨v, y, h1, _, h3⟩ := hf 3 _ hf3
     rw [hS _ hf3] at h3
     rw [Addr.add_lit] at h1
     obtain ⟨l, l1, l2, l3⟩ := byts_sl hS1 hS2 hS3 h3
     exact ⟨(⟨z0, z1, z2, l⟩, v), ⟨l1, b1'⟩, l2, l3, fun _ => ⟨g0', g1', g2', h1⟩⟩
    ·exact ⟨(default, .slice none 0 0), ⟨by show ([] : List UInt8).length ≤ _; simp, by show (0 : Int) ≤ _; omega⟩, fun R => .inl rfl, fun bs i hi => ⟨i, 0, .inl ⟨rfl, rfl⟩, by simp; exact (List.getElem?_eq_some_iff.1 hi).1, fun k hk => by simp [default, instInhabitedAct9] at hk⟩, fun h => absurd h hk⟩
   obtain ⟨G, hG⟩ := Classical.axiomOfChoice key
   refine ⟨fun k => (G k).1, fun k => (G k).2, by omega, fun k => (hG k).1, fun R k => (hG k).2.1 R, fun bs e0 hbs => ?_, fun bs i e0 hi hbs => ?_⟩
   ·cases c with
    | zero =>
     obtain rfl : n = 0 := by omega
     exact .inr (.inl ⟨⟨b, o, none⟩, rfl⟩)
    | succ c =>
     refine .inr (.inr ⟨b, o, n, c, rfl, hle, hlt, fun j x hj => ?_⟩)
     have hjl := (List.getElem?_eq_some_iff.1 hj).1
     simp only [actCs_len] at hjl
     have hk : j / 4 < n := by omega
     have hj5 : j % 4 < 4 := Nat.mod_lt _ (by omega)
     have e : j = j / 4 * 4 + j % 4 := by omega
     generalize hkk : j / 4 = k at *
     generalize hqq : j % 4 = q at *
     subst e
     have hcells : ∃ v, ((G k).1.cells (mkV2 (e0 + k) (G k).2))[q]? = some v := ⟨_, List.getElem?_eq_getElem (by simpa [Act9.cells] using hj5)⟩
     obtain ⟨v, hv⟩ := hcells
     have hget := actCs_get (fun k => (G k).1) (fun k => (G k).2) e0 n k hk q v hv
     simp only at hj
     rw [hget] at hj
     injection hj with hj
     subst hj
     obtain ⟨c0, c1, c2, c4⟩ := (hG k).2.2.2 hk
     rcases cells4 _ _ _ _ hv with ⟨rfl, rfl⟩ | ⟨rfl, rfl⟩ | ⟨rfl, rfl⟩ | ⟨rfl, rfl⟩
     ·exact ⟨_, c0, .int _ _⟩
     ·exact ⟨_, c1, .int _ _⟩
     ·exact ⟨_, c2, .int _ _⟩
     ·exact ⟨_, c4, relN (hbs k hk) ((hG k).2.1 (fun _ => none))⟩
   ·have hlen : i < (bs.map mkB2).length := by simp; exact (List.getElem?_eq_some_iff.1 hi).1
    refine ⟨i, 0, by simpa [mkV2] using Sl.mk (Nat.le_refl n), hlen, fun k hk => ?_⟩
    have hk' : k < n := by simpa using hk
    have eg : ((List.range n).map fun k => (G k).1).getD k default = (G k).1 := by simp [hk']
    rw [eg]
    refine ⟨mkV2 (e0 + k) (G k).2, ?_, (hG k).2.2.1 bs (e0 + k) (hbs k hk')⟩
    cases c with
    | zero => omega
    | succ c =>
     refine ⟨{ cells := actCs (fun k => (G k).1) (fun k => (G k).2) e0 n, kind := .ro }, by rw [List.getElem?_map, hi]; rfl, fun j v hj => ?_⟩
     rw [Nat.zero_add]
     exact actCs_get _ _ e0 n k hk' j v hj
end
theorem short_actsi {F : Nat → Act9} {n : Nat} (hn : n ≤ maxLen) (h : ∀ k, (F k).l.length ≤ maxLen ∧ (F k).n ≤ 9223372036854775807) : ((List.range n).map F).length ≤ 9223372036854775807 ∧ (∀ k, (((List.range n).map F).getD k default).l.length ≤ 9223372036854775807) ∧ ∀ k, (((List.range n).map F).getD k default).n ≤ 9223372036854775807 := by
 unfold maxLen at hn h
 refine ⟨by simp; omega, fun k => ?_, fun k => ?_⟩
 ·by_cases hk : k < n
  ·have := (h k).1
   rw [show ((List.range n).map F).getD k default = F k by simp [hk]]
   omega
  ·rw [show ((List.range n).map F).getD k default = default by simp [hk]]
   exact Nat.zero_le _
 ·by_cases hk : k < n
  ·rw [show ((List.range n).map F).getD k default = F k by simp [hk]]
   exact (h k).2
  ·rw [show ((List.range n).map F).getD k default = default by simp [hk]]
   show (0 : Int) ≤ _
   omega
end Go.Proofs.Ytabdnepfcohncaa.Abs
namespace Go.Proofs.Ytabdnepfcohncaa.Abs
set_option linter.unusedSimpArgs false
set_option linter.unusedVariables false
open Go.RowKit
open Go.Proofs.Ytabdnepfcohncaa.Sim
open Go.Proofs
set_option maxRecDepth 100000 in
theorem DFrame_ok {m : AM} {w : Value} {p : List UInt8} (hp : ∀ N, Byts (m ++ N) w p) (hm : ∀ M r, Add m M (.slice none 0 0) r → Byts M w p) (hlen : p.length ≤ 65536) :
  ACall Try.prog 17 #[w] m (fun r M => ∃ u, r = .tuple #[u, .int .i64 0] ∧ Row M m.length 1 u (by8 (frB p)) (frB p).length ∧ ∃ N, M = m ++ N) := by
 obtain ⟨a, o, hs, ha, hr⟩ := hp []
 refine ACall.start Try.func17 rfl rfl ?_
 (repeat (first|(with_reducible refine AWo.cons ?_)|((with_reducible refine Step.id ?_);first|((with_reducible apply Step.move);exact rfl;exact rfl)|((with_reducible apply Step.assign);exact rfl;exact rfl)|((with_reducible apply Step.gtr);exact rfl;exact rfl;exact rfl)|((with_reducible apply Step.len);exact rfl;((assumption));((decide +kernel));exact rfl))|(with_reducible first|apply AWo.nil|apply AW.seq|apply Then.n|apply AW.regL|apply AW.skip)|((with_reducible apply AW.condF);exact rfl;(((simp only [zq1, zq2, zq3, zq4, zq5, zq6];first|assumption|omega))))))
 ((with_reducible apply Step.callF fit);exact rfl;exact Try.func70;exact rfl;exact rfl;((rw [List.append_nil];exact frame_ok (b0 := m.length) (b := []) (p := p) Row.nil (Nat.le_refl _) hm (by simp;omega))))
 rintro r4 M4 ⟨hr4, ha4⟩
 rw [List.nil_append] at hr4
 obtain ⟨N4, hN4⟩ := pre_keep (m0 := m) ⟨[], (List.append_nil _).symm⟩ ha4.1 fun j hj => ha4.2.1 j hj NotOf.nil
 rw [← List.append_nil M4]
 (repeat (first|(with_reducible refine AWo.cons ?_)|((with_reducible refine Step.id ?_);((with_reducible apply Step.assign);exact rfl;exact rfl))|(with_reducible first|apply AWo.nil|apply Then.n)))
 (refine AW.ret ?_; (repeat (first | refine Then.r ?_ | refine InBlk.r ?_)))
 rw [List.append_nil]
 exact ⟨_, rfl, r4, rfl, hr4, N4, hN4⟩
theorem bs22a {m : AM} {k : Nat} : abuildSlice Try.prog m k 22 1 [(0, .int .u8 97)] = some (.slice (some ⟨k, 0, none⟩) 1 1, m.set k (some { cells := [.int .u8 97] })) := by kernel_rfl
theorem bs22i {m : AM} {k : Nat} : abuildSlice Try.prog m k 22 9 [(0, .int .u8 0), (1, .int .u8 0), (2, .int .u8 0), (3, .int .u8 1), (4, .int .u8 97), (5, .int .u8 232), (6, .int .u8 183), (7, .int .u8 190), (8, .int .u8 67)] = some (.slice (some ⟨k, 0, none⟩) 9 9, m.set k (some { cells := [.int .u8 0, .int .u8 0, .int .u8 0, .int .u8 1, .int .u8 97, .int .u8 232, .int .u8 183, .int .u8 190, .int .u8 67] })) := by kernel_rfl
theorem frB_97 : frB [97] = [0, 0, 0, 1, 97, 232, 183, 190, 67] := by decide +kernel
set_option maxRecDepth 100000 in
theorem awake_ok (m : AM) : ACall Try.prog 16 #[] m (Ret (.bool true) m) := by
 refine ACall.drop (.bool _) ?_
 have hb : ∀ N, Byts ((m ++ [some { cells := [.int .u8 97] }]) ++ N) (.slice (some ⟨m.length + 0, 0, none⟩) 1 1) [97] := fun N => ⟨m.length + 0, 0, Sl.mk (Nat.le_refl _), by simp, fun j hj => by
  obtain rfl : j = 0 := by simpa using hj
  exact ⟨{ cells := [.int .u8 97] }, get_old N (by rw [get_app]; rfl), rfl⟩⟩
 have hf := DFrame_ok (p := [97]) (m := m ++ [some { cells := [.int .u8 97] }]) hb (fun M r h => ⟨m.length + 0, 0, Sl.mk (Nat.le_refl _), by have := h.1; simp at this; omega, fun j hj => by
  obtain rfl : j = 0 := by simpa using hj
  exact ⟨{ cells := [.int .u8 97] }, by rw [h.2.1 _ (by simp) NotOf.nil, get_app]; rfl, rfl⟩⟩) (by simp)
 refine ACall.start Try.func16 rfl rfl ?_
 (repeat (first|(with_reducible refine AWo.cons ?_)|((with_reducible refine Step.id ?_);first|((with_reducible apply Step.assign);exact rfl;exact rfl)|((with_reducible apply Step.buildS 0);exact rfl;exact rfl;exact (fun _ _ => bs22a);exact rfl;((first|(simp only [zq7, zq8, zq9, zq0, iv_set, bv_set, iv_rep, bv_rep] <;> rfl)|rfl))))|(with_reducible first|apply AWo.nil|apply AW.seq|apply Then.n|apply AW.regL)))
 ((with_reducible apply Step.callF fit);exact rfl;exact Try.func17;exact rfl;exact rfl;exact hf)
 rintro r1 M1 ⟨u, rfl, hu, N1, hN1⟩
 rw [frB_97] at hu
 obtain ⟨X, hX⟩ : ∃ X : AM, X = M1 ++ [some { cells := [.int .u8 0, .int .u8 0, .int .u8 0, .int .u8 1, .int .u8 97, .int .u8 232, .int .u8 183, .int .u8 190, .int .u8 67] }] := ⟨_, rfl⟩
 have h2 : Byts X (.slice (some ⟨M1.length + 0, 0, none⟩) 9 9) [0, 0, 0, 1, 97, 232, 183, 190, 67] := ⟨M1.length + 0, 0, Sl.mk (Nat.le_refl _), by rw [hX]; simp, fun j hj => by
  have hj9 : j < 9 := by simpa using hj
  refine ⟨_, by rw [hX, get_app]; rfl, ?_⟩
  rcases j with _ | _ | _ | _ | _ | _ | _ | _ | _ | j <;> first | rfl | omega⟩
 have hE : ∀ T, ACall Try.prog 19 #[u, .slice (some ⟨M1.length + 0, 0, none⟩) 9 9] (X ++ T) (Ret (.bool true) (X ++ T)) := fun T => by
  have := Equal_ok (((show Byts X u _ by rw [hX]; exact (hu.old _).byts (by simp)).old T)) (h2.old T)
  rwa [beq_self_eq_true] at this
 rw [← List.append_nil M1]
 (repeat (first|(with_reducible refine AWo.cons ?_)|((with_reducible refine Step.id ?_);first|((with_reducible apply Step.gdT);exact rfl;exact rfl;((rfl)))|((with_reducible apply Step.move);exact rfl;exact rfl)|((with_reducible apply Step.assign);exact rfl;exact rfl)|((with_reducible apply Step.eql);exact rfl;exact rfl;exact rfl)|((with_reducible apply Step.extract);exact rfl;exact rfl;exact rfl)|((with_reducible apply Step.buildS 0);exact rfl;exact rfl;exact (fun _ _ => bs22i);exact rfl;((first|(simp only [zq7, zq8, zq9, zq0, iv_set, bv_set, iv_rep, bv_rep] <;> rfl)|rfl))))|(with_reducible first|apply AWo.nil|apply AW.seq|apply Then.n|apply AW.regL)))
 rw [show (M1 ++ [some { cells := [.int .u8 0, .int .u8 0, .int .u8 0, .int .u8 1, .int .u8 97, .int .u8 232, .int .u8 183, .int .u8 190, .int .u8 67] }] : AM) = X from hX.symm, ← List.append_nil X]
 (repeat (first|(with_reducible refine AWo.cons ?_)|((with_reducible refine Step.id ?_);first|((with_reducible apply Step.assign);exact rfl;exact rfl)|((with_reducible apply Step.pickT);exact rfl;exact rfl;exact rfl;exact rfl;((rfl)))|((with_reducible apply Step.callR fit);exact rfl;exact Try.func19;exact rfl;exact rfl;exact (hE _)))|(with_reducible first|apply AWo.nil|apply Then.n)))
 (refine AW.ret ?_; (repeat (first | refine Then.r ?_ | refine InBlk.r ?_)))
 exact ⟨_, rfl, rfl, [some { cells := [.int .u8 97] }] ++ (N1 ++ [some { cells := [.int .u8 0, .int .u8 0, .int .u8 0, .int .u8 1, .int .u8 97, .int .u8 232, .int .u8 183, .int .u8 190, .int .u8 67] }]), by rw [List.append_nil, hX, hN1]; simp only [List.append_assoc]⟩
end Go.Proofs.Ytabdnepfcohncaa.Abs
