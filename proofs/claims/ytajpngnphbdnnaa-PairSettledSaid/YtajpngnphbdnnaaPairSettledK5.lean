/- Proved here: what the proof of PairSettled rests on, part 5 of 5. Conditions: those that each theorem names. -/
import Derived.Test.YtajpngnphbdnnaaPairSettledK4
namespace Go.Proofs.Ytajpngnphbdnnaa.Abs
set_option linter.unusedSimpArgs false
set_option linter.unusedVariables false
open Go.RowKit
open Go.Proofs.Ytajpngnphbdnnaa.Sim
open Go.Proofs
open Hung
theorem el98 : elemB Try.prog 98 = some (88, 1, 24, #[.slice none 0 0]) := by kernel_rfl
section
variable {P : Program} {nt : Nat} {ops : Array Oper} {t : Fm} {m : AM} {K : Fm → AM → Prop} {d T : Nat} {p : String} {af : Array Edge}
theorem Step.appInG {x y : Operand} {X Y e e' : TypeId} {by_ : Nat} {z : Array Value} {q r n cp : Nat} {c old Z : List Value} {new : Value} {b : Blk} {L' : AM} (hx : evo t x = some (.slice (some ⟨q, 0, none⟩) n cp)) (hy : evo t y = some (.slice (some ⟨r, 0, none⟩) 1 1)) (hE : elemB P X = some (e, 1, by_, z)) (hY : P.underlying Y = some (.slice e'))
    (hq : m[q]? = some (some b)) (hbs : b.kind.solid = true) (hbc : b.cells = c ++ (old ++ Z)) (hc : c.length = n) (ho : old.length = 1) (hr : m[r]? = some (some { cells := [new] })) (hn1 : new.oneCell' = true) (hcp : n + 1 ≤ cp) (hlt : Nat.blt d nt = true)
    (hL : m.set q (some { b with cells := c ++ (new :: Z) }) ++ [none] = L') (hK : K (put t d (.slice (some ⟨q, 0, none⟩) (n + 1) cp)) L') :
    Step P nt ops ⟨some d, .call ⟨.builtin .append, #[x, y], #[X, Y]⟩, T, p, af, none⟩ t m K := by
  have := Step.appIn (P := P) (nt := nt) (ops := ops) (T := T) (p := p) (af := af) (K := K) (M := []) (L := m) (k := m.length) (q := q) (r := r) rfl (by simpa using hx) (by simpa using hy) hE hY hq hbs hbc hc ho hr hn1 hcp hlt hL (by simpa using hK)
  simpa using this
end
/-- Where the rows of the asking lie. -/
structure SI (ob : Bool) (m M : AM) (O T W Q : Nat) (P : Nat → Nat) (l r : Nat) (kd : Kind) (sz : Nat) (o mt : Nat → Int) (A : Nat → Nat → Bool) (st : List Nat) : Prop where
  o : ob = true → M[O]? = some (some { cells := iv (tab o l) })
  t : M[T]? = some (some { cells := iv (tab mt r) })
  w : M[W]? = some (some { cells := (List.range l).map fun i => .slice (some ⟨P i, 0, none⟩) r r })
  rows : ∀ i, i < l → M[P i]? = some (some { cells := bv (tabB (A i) r) })
  q : 0 < l → ∃ Z, M[Q]? = some (some { cells := iv (nats st ++ Z), kind := kd, size := sz }) ∧ st.length + Z.length = l
  ln : st.length ≤ l
  d1 : O ≠ T ∧ O ≠ W ∧ O ≠ Q ∧ T ≠ W ∧ T ≠ Q ∧ W ≠ Q
  d2 : ∀ i, i < l → P i ≠ O ∧ P i ≠ T ∧ P i ≠ W ∧ P i ≠ Q
  d3 : ∀ i i', i < l → i' < l → P i = P i' → i = i'
  low : ∃ N, M = m ++ N
  dm : m.length ≤ O ∧ m.length ≤ T ∧ m.length ≤ W ∧ m.length ≤ Q
  dp : ∀ i, i < l → m.length ≤ P i
theorem set_low {m M : AM} {k : Nat} {b : Option Blk} (h : ∃ N, M = m ++ N) (hk : m.length ≤ k) : ∃ N, M.set k b = m ++ N := by
  obtain ⟨N, rfl⟩ := h
  exact ⟨_, List.set_append_right _ _ hk⟩
theorem app_low {m M : AM} (L : AM) (h : ∃ N, M = m ++ N) : ∃ N, M ++ L = m ++ N := by
  obtain ⟨N, rfl⟩ := h
  exact ⟨_, List.append_assoc _ _ _⟩
section
variable {ob : Bool} {m M : AM} {O T W Q : Nat} {P : Nat → Nat} {l r : Nat} {kd : Kind} {sz : Nat} {o mt : Nat → Int} {A : Nat → Nat → Bool} {st : List Nat}
theorem SI.old (h : SI ob m M O T W Q P l r kd sz o mt A st) (L : AM) : SI ob m (M ++ L) O T W Q P l r kd sz o mt A st := by
  exact ⟨fun hb => get_old _ (h.o hb), get_old _ h.t, get_old _ h.w, fun i hi => get_old _ (h.rows i hi), fun hp => by (obtain ⟨Z, z1, z2⟩ := h.q hp; exact ⟨Z, get_old _ z1, z2⟩), h.ln, h.d1, h.d2, h.d3, app_low L h.low, h.dm, h.dp⟩
theorem SI.setO (h : SI ob m M O T W Q P l r kd sz o mt A st) (k : Nat) (x : Int) : SI ob m (M.set O (some { cells := (iv (tab o l)).set k (.int .i64 x) })) O T W Q P l r kd sz (up o k x) mt A st := by
  obtain ⟨a1, a2, a3, _⟩ := h.d1
  refine ⟨fun hb => by rw [List.getElem?_set_self (List.getElem?_eq_some_iff.1 (h.o hb)).1, iv_set, tab_set], by rw [List.getElem?_set_ne a1]; exact h.t, by rw [List.getElem?_set_ne a2]; exact h.w, fun i hi => by rw [List.getElem?_set_ne (Ne.symm (h.d2 i hi).1)]; exact h.rows i hi, fun hp => by (obtain ⟨Z, z1, z2⟩ := h.q hp; exact ⟨Z, by rw [List.getElem?_set_ne a3]; exact z1, z2⟩), h.ln, h.d1, h.d2, h.d3, set_low h.low h.dm.1, h.dm, h.dp⟩
theorem SI.setT (h : SI ob m M O T W Q P l r kd sz o mt A st) (k : Nat) (x : Int) : SI ob m (M.set T (some { cells := (iv (tab mt r)).set k (.int .i64 x) })) O T W Q P l r kd sz o (up mt k x) A st := by
  obtain ⟨a1, _, _, a4, a5, _⟩ := h.d1
  have hT := (List.getElem?_eq_some_iff.1 h.t).1
  refine ⟨fun hb => by rw [List.getElem?_set_ne (Ne.symm a1)]; exact h.o hb, by rw [List.getElem?_set_self hT, iv_set, tab_set], by rw [List.getElem?_set_ne a4]; exact h.w, fun i hi => by rw [List.getElem?_set_ne (Ne.symm (h.d2 i hi).2.1)]; exact h.rows i hi, fun hp => by (obtain ⟨Z, z1, z2⟩ := h.q hp; exact ⟨Z, by rw [List.getElem?_set_ne a5]; exact z1, z2⟩), h.ln, h.d1, h.d2, h.d3, set_low h.low h.dm.2.1, h.dm, h.dp⟩
theorem SI.setA (h : SI ob m M O T W Q P l r kd sz o mt A st) {i : Nat} (hi : i < l) (j : Nat) : SI ob m (M.set (P i) (some { cells := (bv (tabB (A i) r)).set j (.bool true) })) O T W Q P l r kd sz o mt (up2 A i j) st := by
  obtain ⟨e1, e2, e3, e4⟩ := h.d2 i hi
  have hP := (List.getElem?_eq_some_iff.1 (h.rows i hi)).1
  refine ⟨fun hb => by rw [List.getElem?_set_ne e1]; exact h.o hb, by rw [List.getElem?_set_ne e2]; exact h.t, by rw [List.getElem?_set_ne e3]; exact h.w, fun x hx => ?_, fun hp => by (obtain ⟨Z, z1, z2⟩ := h.q hp; exact ⟨Z, by rw [List.getElem?_set_ne e4]; exact z1, z2⟩), h.ln, h.d1, h.d2, h.d3, set_low h.low (h.dp i hi), h.dm, h.dp⟩
  by_cases e : x = i
  · subst e; rw [List.getElem?_set_self hP, bv_set, tabB_set, up2_row]
  · rw [List.getElem?_set_ne fun q => e (h.d3 x i hx hi q.symm), show up2 A i j x = A x from by unfold up2; rw [up_ne _ _ e]]
    exact h.rows x hx
theorem SI.pop {S : List Nat} {i : Nat} (h : SI ob m M O T W Q P l r kd sz o mt A (S ++ [i])) : SI ob m M O T W Q P l r kd sz o mt A S := by
  refine ⟨h.o, h.t, h.w, h.rows, fun hp => ?_, by have := h.ln; simp at this; omega, h.d1, h.d2, h.d3, h.low, h.dm, h.dp⟩
  obtain ⟨Z, z1, z2⟩ := h.q hp
  refine ⟨((i : Nat) : Int) :: Z, ?_, ?_⟩
  · rw [z1]; simp [nats]
  · simp at z2 ⊢; omega
/-- A glove is put on top. -/
theorem SI.push (h : SI ob m M O T W Q P l r kd sz o mt A st) (hlt : st.length < l) : ∃ (old : Int) (Z : List Int), M[Q]? = some (some { cells := iv (nats st) ++ ([.int .i64 old] ++ iv Z), kind := kd, size := sz }) ∧
    ∀ x : Nat, SI ob m (M.set Q (some { cells := iv (nats st) ++ (.int .i64 (x : Nat) :: iv Z), kind := kd, size := sz })) O T W Q P l r kd sz o mt A (st ++ [x]) := by
  obtain ⟨Z, z1, z2⟩ := h.q (by omega)
  obtain ⟨_, _, a3, _, a5, a6⟩ := h.d1
  have hQ := (List.getElem?_eq_some_iff.1 z1).1
  cases Z with
  | nil => simp at z2; omega
  | cons y Z =>
    refine ⟨y, Z, by rw [z1]; simp [iv], fun x => ⟨fun hb => by rw [List.getElem?_set_ne (Ne.symm a3)]; exact h.o hb, by rw [List.getElem?_set_ne (Ne.symm a5)]; exact h.t, by rw [List.getElem?_set_ne (Ne.symm a6)]; exact h.w, fun i hi => by rw [List.getElem?_set_ne (Ne.symm (h.d2 i hi).2.2.2)]; exact h.rows i hi, fun _ => ⟨Z, by rw [List.getElem?_set_self hQ]; simp [iv, nats], by simp at z2 ⊢; omega⟩, by simp; omega, h.d1, h.d2, h.d3, set_low h.low h.dm.2.2.2, h.dm, h.dp⟩⟩
theorem SI.rdO (h : SI true m M O T W Q P l r kd sz o mt A st) {k : Nat} (hk : k < l) : Rd M O k (.int .i64 (o k)) := ⟨_, h.o rfl, by have := iv_get (l := tab o l) (k := k) (by simpa using hk); rwa [tab_get o hk] at this⟩
theorem SI.rdT (h : SI ob m M O T W Q P l r kd sz o mt A st) {k : Nat} (hk : k < r) : Rd M T k (.int .i64 (mt k)) := ⟨_, h.t, by have := iv_get (l := tab mt r) (k := k) (by simpa using hk); rwa [tab_get mt hk] at this⟩
theorem SI.rdW (h : SI ob m M O T W Q P l r kd sz o mt A st) {k : Nat} (hk : k < l) : Rd M W k (.slice (some ⟨P k, 0, none⟩) r r) := ⟨_, h.w, by simp [hk]⟩
theorem SI.rdA (h : SI ob m M O T W Q P l r kd sz o mt A st) {i j : Nat} (hi : i < l) (hj : j < r) {b : Bool} (hb : A i j = b) : Rd M (P i) j (.bool b) := ⟨_, h.rows i hi, by subst hb; have := bv_get (l := tabB (A i) r) (k := j) (by simpa using hj); rwa [tabB_get (A i) hj] at this⟩
theorem SI.rdQ {S : List Nat} {i : Nat} (h : SI ob m M O T W Q P l r kd sz o mt A (S ++ [i])) : Rd M Q S.length (.int .i64 (i : Nat)) := by
  obtain ⟨Z, z1, z2⟩ := h.q (by have := h.ln; simp at this; omega)
  refine ⟨_, z1, ?_⟩
  simp [iv, nats]
end
/-- How out goes with the partners. -/
def ORel (l : Nat) (o mt : Nat → Int) : Prop := ∀ x, x < l → (o x = -1 ∧ ∀ j, mt j ≠ (x : Nat)) ∨ ∃ j : Nat, o x = (j : Nat) ∧ mt j = (x : Nat)
theorem orel_out {c : Nat → Nat → Int} {l r : Nat} {s : GS} {o : Nat → Int} (h : GsI c l r s) (ho : ORel l o s.mt) : tab o l = tab (outF s.mt r) l := tab_congr fun x hx => by
  rcases outF_cases (mt := s.mt) (r := r) (i := x) with ⟨e1, e2⟩ | ⟨y, y1, y2, y3⟩
  · rcases ho x hx with ⟨h1, _⟩ | ⟨j, h1, h2⟩
    · rw [h1, e1]
    · rcases h.m1 j with e | ⟨k, k1, k2, k3, _⟩
      · omega
      · exact absurd h2 (e2 j k3)
  · rcases ho x hx with ⟨_, h1⟩ | ⟨j, h1, h2⟩
    · exact absurd y3 (h1 y)
    · have : j = y := h.inj j y (by omega) (by rw [h2, y3])
      rw [h1, y2, this]
/-- A left glove is taken by one that is free. -/
theorem orel_free {l i j : Nat} {o mt : Nat → Int} (h : ORel l o mt) (hj : mt j = -1) (hif : ∀ k, mt k ≠ (i : Nat)) : ORel l (up o i (j : Nat)) (up mt j (i : Nat)) := fun x hx => by
  by_cases e : x = i
  · subst e; exact .inr ⟨j, up_same _ _ _, up_same _ _ _⟩
  · rw [up_ne _ _ e]
    rcases h x hx with ⟨h1, h2⟩ | ⟨k, h1, h2⟩
    · refine .inl ⟨h1, fun y => ?_⟩
      by_cases ey : y = j
      · subst ey; rw [up_same]; omega
      · rw [up_ne _ _ ey]; exact h2 y
    · exact .inr ⟨k, h1, by rw [up_ne _ _ fun e => by subst e; omega]; exact h2⟩
/-- A left glove takes the place of another. -/
theorem orel_swap {l i j k : Nat} {o mt : Nat → Int} (h : ORel l o mt) (hj : mt j = (k : Nat)) (hif : ∀ k, mt k ≠ (i : Nat)) (hinj : ∀ j j', 0 ≤ mt j → mt j = mt j' → j = j') : ORel l (up (up o k (-1)) i (j : Nat)) (up mt j (i : Nat)) := fun x hx => by
  by_cases e : x = i
  · subst e; exact .inr ⟨j, up_same _ _ _, up_same _ _ _⟩
  · rw [up_ne _ _ e]
    by_cases ek : x = k
    · subst ek
      refine .inl ⟨up_same _ _ _, fun y => ?_⟩
      by_cases ey : y = j
      · subst ey; rw [up_same]; omega
      · rw [up_ne _ _ ey]
        exact fun q => ey (hinj y j (by omega) (by rw [q, hj]))
    · rw [up_ne _ _ ek]
      rcases h x hx with ⟨h1, h2⟩ | ⟨y, h1, h2⟩
      · refine .inl ⟨h1, fun y => ?_⟩
        by_cases ey : y = j
        · subst ey; rw [up_same]; omega
        · rw [up_ne _ _ ey]; exact h2 y
      · exact .inr ⟨y, h1, by rw [up_ne _ _ fun e => by subst e; omega]; exact h2⟩
/-- What asking ends with. -/
def stF (c : Nat → Nat → Int) (l r : Nat) : GS := gsRun c r (gsM l r (gs0 l)) (gs0 l)
theorem gsRun_nil {c : Nat → Nat → Int} {r : Nat} {A : Nat → Nat → Bool} {mt : Nat → Int} : ∀ f, gsRun c r f ⟨A, mt, []⟩ = ⟨A, mt, []⟩
  | 0 => rfl
  | _ + 1 => rfl
theorem gsRun_snoc {c : Nat → Nat → Int} {r f i : Nat} {A : Nat → Nat → Bool} {mt : Nat → Int} {S : List Nat} : gsRun c r (f + 1) ⟨A, mt, S ++ [i]⟩ = gsRun c r f (gsTo c r A mt S i) := by
  simp only [gsRun]
  rw [show (S ++ [i]).getLast? = some i from by simp]
  simp only
  rw [List.dropLast_concat]
theorem stF_fin (c : Nat → Nat → Int) (l r : Nat) : GsI c l r (stF c l r) ∧ (stF c l r).st = [] := gsRun_end (gsi0 c l r) (Nat.le_refl _)
end Go.Proofs.Ytajpngnphbdnnaa.Abs
namespace Go.Proofs.Ytajpngnphbdnnaa.Abs
set_option linter.unusedSimpArgs false
set_option linter.unusedVariables false
open Go.RowKit
open Go.Proofs.Ytajpngnphbdnnaa.Sim
open Go.Proofs
open Hung
/-- A row that grew at a place between lo and hi. -/
def Row1 (M : AM) (lo hi : Nat) (v : Value) (X : List Int) : Prop := (X = [] ∧ v = .slice none 0 0) ∨ (0 < X.length ∧ ∃ s, lo ≤ s ∧ s < hi ∧ v = .slice (some ⟨s, 0, none⟩) X.length X.length ∧ M[s]? = some (some { cells := iv X, kind := .grow, size := 1 }))
theorem Row1.keep {M M' : AM} {lo hi hi' : Nat} {v : Value} {X : List Int} (h : Row1 M lo hi v X) (hh : hi ≤ hi') (hk : ∀ s, lo ≤ s → s < hi → M[s]? = some (some { cells := iv X, kind := .grow, size := 1 }) → M'[s]? = M[s]?) : Row1 M' lo hi' v X := by
  rcases h with h | ⟨h1, s, h2, h3, h4, h5⟩
  · exact .inl h
  · exact .inr ⟨h1, s, h2, by omega, h4, by rw [hk s h2 h3 h5]; exact h5⟩
theorem Row1.ints {M : AM} {lo hi : Nat} {v : Value} {X : List Int} (h : Row1 M lo hi v X) (hM : 0 < M.length) : Ints M v X := by
  rcases h with ⟨rfl, rfl⟩ | ⟨h1, s, h2, h3, rfl, h5⟩
  · exact ints_nil hM
  · exact ints_at h5 rfl _ rfl
/-- The graph while it is made: rows before k are done, of row k what lies below j. -/
structure GI (M : AM) (W B n k j : Nat) (adj : Nat → Nat → Bool) (ws : List Value) : Prop where
  len : ws.length = n
  w : M[W]? = some (some { cells := ws })
  lo : W + 2 ≤ B
  hi : B ≤ M.length
  fin : ∀ i, i < k → ∃ v, ws[i]? = some v ∧ Row1 M (W + 2) B v (selL (adj i) n)
  cur : k < n → ∃ v, ws[k]? = some v ∧ Row1 M B M.length v (selL (adj k) j)
  rest : ∀ i, k < i → i < n → ws[i]? = some (.slice none 0 0)
section
variable {M : AM} {W B n k j : Nat} {adj : Nat → Nat → Bool} {ws : List Value}
theorem GI.old (h : GI M W B n k j adj ws) (L : AM) : GI (M ++ L) W B n k j adj ws :=
  ⟨h.len, get_old _ h.w, h.lo, by have := h.hi; simp; omega, fun i hi => by
    obtain ⟨v, h1, h2⟩ := h.fin i hi
    exact ⟨v, h1, h2.keep (Nat.le_refl _) fun s _ hs _ => List.getElem?_append_left (by have := h.hi; omega)⟩, fun hk => by
    obtain ⟨v, h1, h2⟩ := h.cur hk
    exact ⟨v, h1, h2.keep (by simp) fun s _ hs _ => List.getElem?_append_left hs⟩, h.rest⟩
theorem GI.skip (h : GI M W B n k j adj ws) (ha : adj k j = false) : GI M W B n k (j + 1) adj ws :=
  ⟨h.len, h.w, h.lo, h.hi, h.fin, fun hk => by rw [selL_no ha]; exact h.cur hk, h.rest⟩
theorem GI.next (h : GI M W B n k n adj ws) (hk : k < n) : GI M W M.length n (k + 1) 0 adj ws :=
  ⟨h.len, h.w, by have := h.lo; have := h.hi; omega, Nat.le_refl _, fun i hi => by
    by_cases e : i = k
    · subst e
      obtain ⟨v, h1, h2⟩ := h.cur hk
      refine ⟨v, h1, ?_⟩
      rcases h2 with h2 | ⟨q1, s, q2, q3, q4, q5⟩
      · exact .inl h2
      · exact .inr ⟨q1, s, by have := h.lo; omega, q3, q4, q5⟩
    · obtain ⟨v, h1, h2⟩ := h.fin i (by omega)
      exact ⟨v, h1, h2.keep h.hi fun _ _ _ _ => rfl⟩, fun hk' => ⟨_, h.rest (k + 1) (by omega) hk', .inl ⟨rfl, rfl⟩⟩, fun i h1 h2 => h.rest i (by omega) h2⟩
end
section
variable {P : Program} {nt : Nat} {ops : Array Oper} {t : Fm} {m : AM} {K : Fm → AM → Prop} {T : Nat} {pp : String} {af : Array Edge}
/-- A cell of a row is set. -/
theorem Step.storeW {x y : Operand} {ty : TypeId} {a o : Nat} {v : Value} {ws : List Value} {M2 : AM} (hx : evo t x = some (.pointer (some ⟨a, o, none⟩))) (hy : evo t y = some v) (hb : m[a]? = some (some { cells := ws })) (ho : o < ws.length) (hz : szB P ty = some 1) (hc : v.cells = #[v]) (h1 : v.oneCell' = true) (hM : m.set a (some { cells := ws.set o v }) = M2) (hK : K t M2) :
    Step P nt ops ⟨none, .store ty x y, T, pp, af, none⟩ t m K :=
  Step.storeC hx hy hb rfl hz hc h1 ho (by subst hM; exact hK)
end
/-- Which gloves of a heap are allowed with each other. -/
def ag (u : Ru) (H : List Gl) (i j : Nat) : Bool := decide (i ≠ j) && decide (0 ≤ cT u H H i j)
/-- The graph of a heap. -/
def Grf (M : AM) (v : Value) (n : Nat) (adj : Nat → Nat → Bool) : Prop := ∃ a wv b, v = .pointer (some ⟨a, 0, none⟩) ∧ a < M.length ∧ Rd M a 0 (.int .i64 (n : Nat)) ∧ Rd M a 1 wv ∧ Sl wv b 0 n ∧ b < M.length ∧ ∀ i, i < n → ∃ w, Rd M b i w ∧ Ints M w (selL (adj i) n)
theorem Grf.old {M : AM} {v : Value} {n : Nat} {adj : Nat → Nat → Bool} (L : AM) (h : Grf M v n adj) : Grf (M ++ L) v n adj := by
  obtain ⟨a, wv, b, h1, h2, h3, h4, h5, h6, h7⟩ := h
  exact ⟨a, wv, b, h1, by simp; omega, h3.old L, h4.old L, h5, by simp; omega, fun i hi => by
    obtain ⟨w, k1, k2⟩ := h7 i hi
    exact ⟨w, k1.old L, k2.old L⟩⟩
end Go.Proofs.Ytajpngnphbdnnaa.Abs
namespace Go.Proofs.Ytajpngnphbdnnaa.Abs
set_option linter.unusedSimpArgs false
set_option linter.unusedVariables false
open Go.RowKit
open Go.Proofs.Ytajpngnphbdnnaa.Sim
open Go.Proofs
open Hung
set_option maxRecDepth 100000 in
theorem Stable_no {m : AM} {lv rv : Value} {u : Ru} {L R : List Gl} (hl : Gls m lv L) (hr : Gls m rv R) (h1 : L.length ≤ 100000) (h2 : R.length ≤ 100000) (hn : (sB L && sB R && uB u) = false) : ACall Try.prog 33 #[lv, rv, u.v] m (Ret (.tuple #[.slice none 0 0, .int .i64 2]) m) := by
  have r0 : ∀ T : AM, RdL (m ++ (some { cells := u.cells } :: T)) (m.length + 0) 0 u.cells := fun T => RdL.new rfl rfl
  have hc := fun T => costs_no (hl.old T) (hr.old T) h1 h2 hn
  refine ACall.start Try.func33 rfl rfl ?_
  (repeat (first | (with_reducible refine AWo.cons ?_) | ((with_reducible refine Step.id ?_); first | ((with_reducible apply Step.move); exact rfl; exact rfl) | ((with_reducible apply Step.assign); exact rfl; exact rfl) | ((with_reducible apply Step.loadL (n := 8)); exact rfl; (focus (decide +kernel)); (focus (decide +kernel)); exact rfl; (focus (exact RdL.new rfl rfl)); exact rfl; exact rfl) | ((with_reducible apply Step.ptrNil); exact rfl; exact rfl; exact un77; exact rfl) | ((with_reducible apply Step.callR fit); exact rfl; exact Try.func54; exact rfl; exact rfl; exact (hc _)) | ((with_reducible apply Step.box 0); exact rfl; exact rfl; (focus (kernel_rfl)); exact rfl; (focus (first | (simp only [List.nil_append, List.cons_append, List.set_cons_zero, List.set_cons_succ, iv_set, bv_set, iv_rep, bv_rep]; done) | (simp only [List.nil_append, List.cons_append, List.set_cons_zero, List.set_cons_succ, iv_set, bv_set, iv_rep, bv_rep]; rfl) | rfl)))) | (with_reducible refine AWo.nil ?_) | ((with_reducible apply AW.seq)) | ((with_reducible apply Then.n)) | ((with_reducible apply AW.regL)) | ((with_reducible apply AW.condT); exact rfl; (focus (rfl)))))
  (refine AW.retD (l := [(6, _), (7, _)]) (by repeat (first | exact trivial | (refine And.intro ⟨rfl, by (first | exact .int _ _ | exact Ren.of_g0 rfl)⟩ ?_))) ?_; (repeat (first | refine Then.r ?_ | refine InBlk.r ?_)))
  exact ⟨_, rfl, rfl, rfl⟩
/-- The row of rows of which i are made. -/
def rwW (b l r i : Nat) : List Value := (List.range l).map fun x => if x < i then .slice (some ⟨b + (3 + x), 0, none⟩) r r else .slice none 0 0
def stL (b l r i : Nat) : AM := some { cells := iv (tab (fun x => if x < i then -1 else 0) l) } :: some { cells := iv (tab (fun _ => -1) r) } :: some { cells := rwW b l r i } :: List.replicate i (some { cells := bv (tabB (fun _ => false) r) })
theorem rwW_zero (b l r : Nat) : rwW b l r 0 = List.replicate l (.slice none 0 0) := by
  unfold rwW
  simp [List.map_const']
theorem rwW_set {b l r i : Nat} : (rwW b l r i).set i (.slice (some ⟨b + (3 + i), 0, none⟩) r r) = rwW b l r (i + 1) := by
  apply List.ext_getElem?
  intro x
  unfold rwW
  by_cases hx : x < l
  · by_cases e : i = x
    · subst e; simp [hx]
    · rw [List.getElem?_set_ne e]
      simp only [List.getElem?_map, List.getElem?_range hx, Option.map_some]
      by_cases h : x < i
      · rw [if_pos h, if_pos (by omega)]
      · rw [if_neg h, if_neg (by omega)]
  · rw [List.getElem?_eq_none (by simp; omega), List.getElem?_eq_none (by simp; omega)]
theorem rwW_full {b l r : Nat} : rwW b l r l = (List.range l).map fun i => .slice (some ⟨b + (3 + i), 0, none⟩) r r := by
  unfold rwW
  apply List.map_congr_left
  intro x hx
  rw [if_pos (List.mem_range.1 hx)]
@[simp] theorem rwW_len (b l r i : Nat) : (rwW b l r i).length = l := by simp [rwW]
theorem si_start {m : AM} {l r : Nat} : SI true m (m ++ (stL m.length l r l ++ [some { cells := iv (nats (List.range l)) }])) (m.length + 0) (m.length + 1) (m.length + 2) (m.length + (3 + l)) (fun i => m.length + (3 + i)) l r .own 1 (fun _ => -1) (fun _ => -1) (fun _ _ => false) (List.range l) := by
  refine ⟨fun _ => ?_, ?_, ?_, fun i hi => ?_, fun _ => ⟨[], ?_, by simp⟩, by simp, by refine ⟨?_, ?_, ?_, ?_, ?_, ?_⟩ <;> omega, fun i _ => by refine ⟨?_, ?_, ?_, ?_⟩ <;> omega, fun i i' _ _ h => by omega, ⟨_, rfl⟩, ⟨by omega, by omega, by omega, by omega⟩, fun i _ => by omega⟩
  · rw [get_app]; simp only [stL]; rw [fill_all]; rfl
  · rw [get_app]; rfl
  · rw [get_app]; simp only [stL]; rw [rwW_full]; rfl
  · rw [get_app]
    simp only [stL]
    rw [show 3 + i = i + 1 + 1 + 1 by omega]
    simp only [List.cons_append, List.getElem?_cons_succ]
    rw [List.getElem?_append_left (by simpa using hi)]
    simp [hi]
  · rw [get_app, List.getElem?_append_right (by simp [stL]; omega)]
    simp [stL]
    rw [show 3 + l - (l + 1 + 1 + 1) = 0 by omega]
    rfl
set_option maxHeartbeats 8000000 in
set_option maxRecDepth 100000 in
theorem Stable_ok {m : AM} {lv rv : Value} {u : Ru} {L R : List Gl} (hl : Gls m lv L) (hr : Gls m rv R) (hL : sB L = true) (hR : sB R = true) (hu : uB u = true) :
    ACall Try.prog 33 #[lv, rv, u.v] m (More (fun m' v => ∃ w, v = .tuple #[w, .int .i64 0] ∧ Ints m' w (tab (outF (stF (cT u L R) L.length R.length).mt R.length) L.length)) m) := by
  have h1 : L.length ≤ 32 ∧ L.all gB = true := by simpa [sB] using hL
  have h2 : R.length ≤ 32 ∧ R.all gB = true := by simpa [sB] using hR
  have r0 : ∀ T : AM, RdL (m ++ (some { cells := u.cells } :: T)) (m.length + 0) 0 u.cells := fun T => RdL.new rfl rfl
  refine ACall.start Try.func33 rfl rfl ?_
  (repeat (first | (with_reducible refine AWo.cons ?_) | ((with_reducible refine Step.id ?_); first | ((with_reducible apply Step.move); exact rfl; exact rfl) | ((with_reducible apply Step.assign); exact rfl; exact rfl) | ((with_reducible apply Step.loadL (n := 8)); exact rfl; (focus (decide +kernel)); (focus (decide +kernel)); exact rfl; (focus (exact RdL.new rfl rfl)); exact rfl; exact rfl) | ((with_reducible apply Step.box 0); exact rfl; exact rfl; (focus (kernel_rfl)); exact rfl; (focus (first | (simp only [List.nil_append, List.cons_append, List.set_cons_zero, List.set_cons_succ, iv_set, bv_set, iv_rep, bv_rep]; done) | (simp only [List.nil_append, List.cons_append, List.set_cons_zero, List.set_cons_succ, iv_set, bv_set, iv_rep, bv_rep]; rfl) | rfl)))) | (with_reducible refine AWo.nil ?_) | ((with_reducible apply AW.seq)) | ((with_reducible apply Then.n)) | ((with_reducible apply AW.regL))))
  ((with_reducible apply Step.callX fit); exact rfl; exact Try.func54; exact rfl; exact rfl; exact (costs_ok (hl.old _) (hr.old _) hL hR hu))
  rintro tv m1 ⟨N0, hN0⟩ hT
  have hMN : ∃ N, m1 = m ++ N := ⟨_, by rw [hN0, List.append_assoc]⟩
  clear r0 hN0
  generalize cT u L R = c at *
  obtain ⟨a, cv, b, o, htv, t1, t2, t3, t4, t5, t6, t7⟩ := id hT
  generalize hl' : L.length = l at *
  generalize hr' : R.length = r at *
  subst htv
  (repeat (first | (with_reducible refine AWo.cons ?_) | ((with_reducible refine Step.id ?_); first | ((with_reducible apply Step.move); exact rfl; exact rfl) | ((with_reducible apply Step.assign); exact rfl; exact rfl) | ((with_reducible apply Step.ptrNot); exact rfl; exact rfl; exact un77; exact rfl)) | (with_reducible refine AWo.nil ?_) | ((fail_if_success (with_reducible refine AW.atR (id := 4) ?_)); ((with_reducible apply AW.seq))) | ((with_reducible apply Then.n)) | ((with_reducible apply AW.regL)) | ((with_reducible apply AW.skip)) | ((with_reducible apply AW.condF); exact rfl; (focus (rfl)))))
  rw [List.append_nil]
  refine AW.rebase ?_
  have wt : Low m1.length (.pointer (some ⟨a, 0, none⟩)) := .ptr t1
  refine AW.joinG (fr [(8, .pointer (some ⟨a, 0, none⟩)), (9, .slice (some ⟨m1.length + 0, 0, none⟩) l l), (10, .slice (some ⟨m1.length + 1, 0, none⟩) r r)]) (m1 ++ [some { cells := iv (List.replicate l 0) }, some { cells := iv (List.replicate r 0) }]) ?_ ?_
  · (repeat' (first | ((with_reducible refine Step.id ?_); first | ((with_reducible apply Step.move); exact rfl; exact rfl) | ((with_reducible apply Step.assign); exact rfl; exact rfl) | ((with_reducible apply Step.load); exact rfl; (focus (decide +kernel)); exact rfl; (focus (first | exact t3.old _ | exact t4.old _))) | ((with_reducible apply Step.field (k := 1)); exact rfl; (focus (decide +kernel)); exact rfl) | ((with_reducible apply Step.field (k := 2)); exact rfl; (focus (decide +kernel)); exact rfl) | ((with_reducible apply Step.nilp); exact rfl; exact rfl) | ((with_reducible apply Step.make1 0); exact rfl; exact rfl; exact rfl; exact el27; (focus (omega)); exact rfl; (focus (first | (simp only [List.nil_append, List.cons_append, List.set_cons_zero, List.set_cons_succ, iv_set, bv_set, iv_rep, bv_rep]; done) | (simp only [List.nil_append, List.cons_append, List.set_cons_zero, List.set_cons_succ, iv_set, bv_set, iv_rep, bv_rep]; rfl) | rfl))) | ((with_reducible apply Step.make1 1); exact rfl; exact rfl; exact rfl; exact el27; (focus (omega)); exact rfl; (focus (first | (simp only [List.nil_append, List.cons_append, List.set_cons_zero, List.set_cons_succ, iv_set, bv_set, iv_rep, bv_rep]; done) | (simp only [List.nil_append, List.cons_append, List.set_cons_zero, List.set_cons_succ, iv_set, bv_set, iv_rep, bv_rep]; rfl) | rfl)))) | ((with_reducible apply Then.n)) | ((with_reducible apply AW.drawT fit (T := (.step 0 (.step 1 (.step 2 (.step 5 (.step 6 (.step 7 (.both (.step 3 (.both (.step 4 (.step 8 (.step 10 (.step 9 (.step 11 .done))))) (.step 8 (.both (.step 4 (.step 10 (.step 9 (.step 11 .done)))) (.step 9 (.step 4 (.step 10 (.step 11 .done)))))))) (.step 8 (.both (.step 3 (.both (.step 4 (.step 10 (.step 9 (.step 11 .done)))) (.step 9 (.step 4 (.step 10 (.step 11 .done)))))) (.step 9 (.step 3 (.step 4 (.step 10 (.step 11 .done)))))))))))))))); (focus (decide +kernel))) | ((with_reducible apply AWt.step); exact rfl) | ((with_reducible apply AWt.done)) | refine AWt.both ?_ ?_))
    all_goals first | (refine Gc.perm [0,1] rfl (by decide) ?_ (CellsOk.ren ?_) ?_; (focus (intro p hp; rcases p with _ | _ | p <;> first | rfl | exact absurd hp (lenB (n := 2) rfl))); (focus (repeat (first | exact CellsOk.nil | refine CellsOk.cons (by exact g0_iv _) ?_))); (focus ((repeat (first | exact trivial | (refine And.intro ⟨_, rfl, ?_⟩ ?_; (focus (first | exact Low.sg (by assumption) (by simp) | (refine Ren.slice_sg ?_; (focus (first | (simp; done) | omega | (simp; omega))))))))); done))) | (refine Gc.perm [1,0] rfl (by decide) ?_ (CellsOk.ren ?_) ?_; (focus (intro p hp; rcases p with _ | _ | p <;> first | rfl | exact absurd hp (lenB (n := 2) rfl))); (focus (repeat (first | exact CellsOk.nil | refine CellsOk.cons (by exact g0_iv _) ?_))); (focus ((repeat (first | exact trivial | (refine And.intro ⟨_, rfl, ?_⟩ ?_; (focus (first | exact Low.sg (by assumption) (by simp) | (refine Ren.slice_sg ?_; (focus (first | (simp; done) | omega | (simp; omega))))))))); done)))
  (repeat (first | (with_reducible refine AWo.cons ?_) | ((with_reducible refine Step.id ?_); first | ((with_reducible apply Step.move); exact rfl; exact rfl) | ((with_reducible apply Step.len); exact rfl; (focus (exact Sl.mk (by omega))); (focus (decide +kernel)); exact rfl)) | (with_reducible refine AWo.nil ?_) | ((with_reducible apply AW.seq)) | ((with_reducible apply Then.n)) | ((with_reducible apply AW.regL)) | ((with_reducible apply AW.block))))
  refine AW.loopT (fun rk t L' => ∃ k : Nat, rk = r - k ∧ k ≤ r ∧ L' = [some { cells := iv (List.replicate l 0) }, some { cells := iv (tab (fun x => if x < k then -1 else 0) r) }] ∧ t = [(8, .pointer (some ⟨a, 0, none⟩)), (9, .slice (some ⟨m1.length + 0, 0, none⟩) l l), (10, .slice (some ⟨m1.length + 1, 0, none⟩) r r), (37, .int .i64 (r : Nat)), (38, .int .i64 (k : Nat))])
    ⟨_, _, [some { cells := iv (List.replicate l 0) }, some { cells := iv (List.replicate r 0) }], (Or.inl ⟨rfl, (by repeat (first | exact trivial | (refine And.intro rfl ?_)))⟩), 0, rfl, Nat.zero_le _, by simp only [tab_rep]; simp, rfl⟩ ?_
  rintro rk t L' ⟨k, rfl, hk, rfl, rfl⟩
  rcases Nat.lt_or_ge k r with hkl | hkg
  · (repeat (first | (with_reducible refine AWo.cons ?_) | ((with_reducible refine Step.id ?_); first | ((with_reducible apply Step.move); exact rfl; exact rfl) | ((with_reducible apply Step.assign); exact rfl; exact rfl) | ((with_reducible apply Step.ix1z); exact rfl; (focus (exact Sl.mk (by omega))); exact rfl; (focus (decide +kernel)); exact rfl; (focus (omega))) | ((with_reducible apply Step.add); exact rfl; exact rfl; (focus (omega)); exact rfl) | ((with_reducible apply Step.lss); exact rfl; exact rfl; exact rfl) | ((with_reducible apply Step.store (k := 1)); exact rfl; exact rfl; exact rfl; exact rfl; (focus (decide +kernel)); exact rfl; exact rfl; (focus (first | omega | (simp [iv, bv]; done) | (simp [iv, bv]; omega))); (focus (first | (simp only [List.nil_append, List.cons_append, List.set_cons_zero, List.set_cons_succ, iv_set, bv_set, iv_rep, bv_rep]; done) | (simp only [List.nil_append, List.cons_append, List.set_cons_zero, List.set_cons_succ, iv_set, bv_set, iv_rep, bv_rep]; rfl) | rfl)))) | (with_reducible refine AWo.nil ?_) | ((with_reducible apply AW.seq)) | ((with_reducible apply Then.n)) | ((with_reducible apply AW.regL)) | ((with_reducible apply AW.block)) | ((with_reducible apply InBlk.n)) | ((with_reducible apply AW.skip)) | ((with_reducible apply AW.condT); exact rfl; (focus ((simp only [decide_eq_true_eq, decide_eq_false_iff_not, Bool.not_eq_true', Bool.not_eq_false', Bool.not_true, Bool.not_false]; first | assumption | omega))))))
    exact ⟨_, _, [some { cells := iv (List.replicate l 0) }, some { cells := iv (tab (fun x => if x < k + 1 then -1 else 0) r) }], by omega, by rw [tab_set, fill_step]; exact (Or.inl ⟨rfl, (by repeat (first | exact trivial | (refine And.intro rfl ?_)))⟩), k + 1, rfl, by omega, rfl, rfl⟩
  obtain rfl : k = r := by omega
  rw [fill_all]
  (repeat (first | (with_reducible refine AWo.cons ?_) | ((with_reducible refine Step.id ?_); first | ((with_reducible apply Step.move); exact rfl; exact rfl) | ((with_reducible apply Step.assign); exact rfl; exact rfl) | ((with_reducible apply Step.load); exact rfl; (focus (decide +kernel)); exact rfl; (focus (exact t3.old _))) | ((with_reducible apply Step.field (k := 1)); exact rfl; (focus (decide +kernel)); exact rfl) | ((with_reducible apply Step.lss); exact rfl; exact rfl; exact rfl) | ((with_reducible apply Step.len); exact rfl; (focus (exact Sl.mk (by omega))); (focus (decide +kernel)); exact rfl) | ((with_reducible apply Step.nilp); exact rfl; exact rfl) | ((with_reducible apply Step.make1 2); exact rfl; exact rfl; exact rfl; exact el98; (focus (omega)); exact rfl; (focus (first | (simp only [List.nil_append, List.cons_append, List.set_cons_zero, List.set_cons_succ, iv_set, bv_set, iv_rep, bv_rep]; done) | (simp only [List.nil_append, List.cons_append, List.set_cons_zero, List.set_cons_succ, iv_set, bv_set, iv_rep, bv_rep]; rfl) | rfl)))) | (with_reducible refine AWo.nil ?_) | ((with_reducible apply AW.seq)) | ((with_reducible apply Then.n)) | ((with_reducible apply AW.regL)) | ((with_reducible apply AW.block)) | ((with_reducible apply AW.exit)) | ((with_reducible apply InBlk.hit)) | ((with_reducible apply Then.e)) | ((with_reducible apply AW.condF); exact rfl; (focus ((simp only [decide_eq_true_eq, decide_eq_false_iff_not, Bool.not_eq_true', Bool.not_eq_false', Bool.not_true, Bool.not_false]; first | assumption | omega))))))
  rw [show iv (List.replicate l 0) = iv (tab (fun x => if x < 0 then -1 else 0) l) from by simp only [tab_rep]; simp, ← rwW_zero m1.length l k]
  refine AW.loopT (fun rk t L' => ∃ i : Nat, rk = l - i ∧ i ≤ l ∧ L' = some { cells := iv (tab (fun x => if x < i then -1 else 0) l) } :: some { cells := iv (tab (fun _ => -1) k) } :: some { cells := rwW m1.length l k i } :: List.replicate i (some { cells := bv (tabB (fun _ => false) k) }) ∧
      t = [(8, .pointer (some ⟨a, 0, none⟩)), (9, .slice (some ⟨m1.length + 0, 0, none⟩) l l), (10, .slice (some ⟨m1.length + 1, 0, none⟩) k k), (12, .slice (some ⟨m1.length + 2, 0, none⟩) l l), (51, .int .i64 (l : Nat)), (52, .int .i64 (i : Nat))])
    ⟨_, _, _, (Or.inl ⟨rfl, (by repeat (first | exact trivial | (refine And.intro rfl ?_)))⟩), 0, rfl, Nat.zero_le _, rfl, rfl⟩ ?_
  rintro rk t L' ⟨i, rfl, hi, rfl, rfl⟩
  rcases Nat.lt_or_ge i l with hil | hig
  · (repeat' (first | (with_reducible refine AWo.cons ?_) | ((with_reducible refine Step.id ?_); first | ((with_reducible apply Step.move); exact rfl; exact rfl) | ((with_reducible apply Step.assign); exact rfl; exact rfl) | ((with_reducible apply Step.load); exact rfl; (focus (decide +kernel)); exact rfl; (focus (exact t4.old _))) | ((with_reducible apply Step.ix1z); exact rfl; (focus (exact Sl.mk (by omega))); exact rfl; (focus (decide +kernel)); exact rfl; (focus (omega))) | ((with_reducible apply Step.field (k := 2)); exact rfl; (focus (decide +kernel)); exact rfl) | ((with_reducible apply Step.lss); exact rfl; exact rfl; exact rfl) | ((with_reducible apply Step.nilp); exact rfl; exact rfl) | ((with_reducible apply Step.store (k := 0)); exact rfl; exact rfl; exact rfl; exact rfl; (focus (decide +kernel)); exact rfl; exact rfl; (focus (first | omega | (simp [iv, bv]; done) | (simp [iv, bv]; omega))); (focus (first | (simp only [List.nil_append, List.cons_append, List.set_cons_zero, List.set_cons_succ, iv_set, bv_set, iv_rep, bv_rep]; done) | (simp only [List.nil_append, List.cons_append, List.set_cons_zero, List.set_cons_succ, iv_set, bv_set, iv_rep, bv_rep]; rfl) | rfl)))) | (with_reducible refine AWo.nil ?_) | ((with_reducible apply AW.seq)) | ((with_reducible apply Then.n)) | ((with_reducible apply AW.regL)) | ((with_reducible apply AW.block)) | ((with_reducible apply AW.drawT fit (T := (.step 0 (.step 1 (.step 2 (.step 3 (.step 4 (.step 5 (.step 6 (.step 7 (.step 9 (.both (.step 8 (.step 10 (.step 11 (.step 12 .done)))) (.step 10 (.step 8 (.step 11 (.step 12 .done)))))))))))))))); (focus (decide +kernel))) | ((with_reducible apply AWt.step); exact rfl) | ((with_reducible apply AW.skip)) | ((with_reducible apply AW.condT); exact rfl; (focus ((simp only [decide_eq_true_eq, decide_eq_false_iff_not, Bool.not_eq_true', Bool.not_eq_false', Bool.not_true, Bool.not_false]; first | assumption | omega)))) | refine AWt.both ?_ ?_))
    all_goals
      ((with_reducible apply Step.make1 (k := 3 + i)); (focus (simp; omega)); exact rfl; exact rfl; exact el88; (focus (omega)); exact rfl; exact rfl)
      (repeat (first | (with_reducible refine AWo.cons ?_) | ((with_reducible refine Step.id ?_); first | ((with_reducible apply Step.move); exact rfl; exact rfl) | ((with_reducible apply Step.ix1z); exact rfl; (focus (exact Sl.mk (by omega))); exact rfl; (focus (decide +kernel)); exact rfl; (focus (omega))) | ((with_reducible apply Step.add); exact rfl; exact rfl; (focus (omega)); exact rfl) | ((with_reducible apply Step.store (k := 0)); exact rfl; exact rfl; exact rfl; exact rfl; (focus (decide +kernel)); exact rfl; exact rfl; (focus (first | omega | (simp [iv, bv]; done) | (simp [iv, bv]; omega))); (focus (first | (simp only [List.nil_append, List.cons_append, List.set_cons_zero, List.set_cons_succ, iv_set, bv_set, iv_rep, bv_rep]; done) | (simp only [List.nil_append, List.cons_append, List.set_cons_zero, List.set_cons_succ, iv_set, bv_set, iv_rep, bv_rep]; rfl) | rfl))) | ((with_reducible apply Step.store (k := 2)); exact rfl; exact rfl; exact rfl; exact rfl; (focus (decide +kernel)); exact rfl; exact rfl; (focus (first | omega | (simp [iv, bv]; done) | (simp [iv, bv]; omega))); (focus (first | (simp only [List.nil_append, List.cons_append, List.set_cons_zero, List.set_cons_succ, iv_set, bv_set, iv_rep, bv_rep]; done) | (simp only [List.nil_append, List.cons_append, List.set_cons_zero, List.set_cons_succ, iv_set, bv_set, iv_rep, bv_rep]; rfl) | rfl)))) | (with_reducible refine AWo.nil ?_) | ((with_reducible apply Then.n)) | ((with_reducible apply AW.regL)) | ((with_reducible apply AWt.step); exact rfl) | ((with_reducible apply AWt.done)) | ((with_reducible apply InBlk.n))))
      refine ⟨_, _, some { cells := iv (tab (fun x => if x < i + 1 then -1 else 0) l) } :: some { cells := iv (tab (fun _ => -1) k) } :: some { cells := rwW m1.length l k (i + 1) } :: List.replicate (i + 1) (some { cells := bv (tabB (fun _ => false) k) }), by omega, ?_, i + 1, rfl, by omega, rfl, rfl⟩
      rw [← rwW_set, ← fill_step, ← tab_set, ← tabB_rep, List.replicate_succ']
      exact (Or.inl ⟨rfl, (by repeat (first | exact trivial | (refine And.intro rfl ?_)))⟩)
  obtain rfl : i = l := by omega
  (repeat (first | (with_reducible refine AWo.cons ?_) | ((with_reducible refine Step.id ?_); first | ((with_reducible apply Step.move); exact rfl; exact rfl) | ((with_reducible apply Step.load); exact rfl; (focus (decide +kernel)); exact rfl; (focus (exact t3.old _))) | ((with_reducible apply Step.field (k := 1)); exact rfl; (focus (decide +kernel)); exact rfl) | ((with_reducible apply Step.lss); exact rfl; exact rfl; exact rfl) | ((with_reducible apply Step.nilp); exact rfl; exact rfl)) | (with_reducible refine AWo.nil ?_) | ((with_reducible apply AW.seq)) | ((with_reducible apply Then.n)) | ((with_reducible apply AW.regL)) | ((with_reducible apply AW.exit)) | ((with_reducible apply InBlk.hit)) | ((with_reducible apply Then.e)) | ((with_reducible apply AW.condF); exact rfl; (focus ((simp only [decide_eq_true_eq, decide_eq_false_iff_not, Bool.not_eq_true', Bool.not_eq_false', Bool.not_true, Bool.not_false]; first | assumption | omega))))))
  ((with_reducible apply Step.callN fit (k := 3 + i)); (focus (simp; omega)); exact rfl; exact Try.func55; exact rfl; exact rfl; exact (upTo_ok i (by omega)); exact rfl)
  (repeat (first | (with_reducible refine AWo.cons ?_) | ((with_reducible refine Step.id ?_); ((with_reducible apply Step.assign); exact rfl; exact rfl)) | (with_reducible refine AWo.nil ?_) | ((with_reducible apply AW.seq)) | ((with_reducible apply Then.n)) | ((with_reducible apply AW.block))))
  have hs := si_start (m := m1) (l := i) (r := k)
  simp only [stL] at hs
  generalize m1 ++ _ = M at hs ⊢
  generalize m1.length + 0 = O at hs ⊢
  generalize m1.length + 1 = T at hs ⊢
  generalize m1.length + 2 = W at hs ⊢
  generalize m1.length + (3 + i) = Q at hs ⊢
  generalize (fun i => m1.length + (3 + i)) = P at hs
  have hfn := stF_fin c i k
  refine AW.loopW (fun n t M' => ∃ (A : Nat → Nat → Bool) (mt o : Nat → Int) (st : List Nat) (nn : Nat), SI true m1 M' O T W Q P i k .own 1 o mt A st ∧ GsI c i k ⟨A, mt, st⟩ ∧ gsM i k ⟨A, mt, st⟩ ≤ n ∧ gsRun c k n ⟨A, mt, st⟩ = stF c i k ∧ ORel i o mt ∧ st.length = nn ∧
      t = fr [(8, .pointer (some ⟨a, 0, none⟩)), (9, .slice (some ⟨O, 0, none⟩) i i), (10, .slice (some ⟨T, 0, none⟩) k k), (12, .slice (some ⟨W, 0, none⟩) i i), (14, .slice (some ⟨Q, 0, none⟩) nn i)])
    ⟨gsM i k (gs0 i), _, (by repeat (first | exact trivial | (refine And.intro rfl ?_))), _, _, _, _, _, hs, gsi0 c i k, Nat.le_refl _, rfl, fun x hx => .inl ⟨rfl, fun j => by simp only; omega⟩, by simp, rfl⟩ ?_
  clear hs
  generalize i = l at *
  generalize k = r at *
  rintro n t M' ⟨A, mt, o2, st, nn, hs, hg, hm, hrun, hor, hnn, rfl⟩
  obtain ⟨N, hN⟩ := id hs.low
  have hT' : Tab M' (.pointer (some ⟨a, 0, none⟩)) c l r := by rw [hN]; exact hT.old _
  have t2' : Rd M' a 0 cv := by rw [hN]; exact t2.old _
  have t7' : ∀ i, i < l → ∃ w, Rd M' b (o + i) w ∧ Ints M' w (tab (c i) r) := fun i hi => by
    obtain ⟨w, k1, k2⟩ := t7 i hi
    rw [hN]; exact ⟨w, k1.old _, k2.old _⟩
  have hZ := hs.ln
  rcases List.eq_nil_or_concat st with rfl | ⟨S, i, rfl⟩
  · simp only [List.length_nil] at hnn
    subst hnn
    rw [gsRun_nil] at hrun
    (repeat (first | (with_reducible refine AWo.cons ?_) | ((with_reducible refine Step.id ?_); first | ((with_reducible apply Step.move); exact rfl; exact rfl) | ((with_reducible apply Step.assign); exact rfl; exact rfl) | ((with_reducible apply Step.gtr); exact rfl; exact rfl; exact rfl) | ((with_reducible apply Step.len); exact rfl; (focus (exact Sl.mk (by omega))); (focus (decide +kernel)); exact rfl)) | (with_reducible refine AWo.nil ?_) | ((with_reducible apply AW.seq)) | ((with_reducible apply Then.n)) | ((with_reducible apply AW.regL)) | ((with_reducible apply AW.exit)) | ((with_reducible apply InBlk.hit)) | ((with_reducible apply Then.e)) | ((with_reducible apply AW.condF); exact rfl; (focus (rfl)))))
    (refine AW.ret ?_; (repeat (first | refine Then.r ?_ | refine InBlk.r ?_)))
    obtain ⟨N1, hN1⟩ := hMN
    refine ⟨_, rfl, N1 ++ N, by rw [hN, hN1, List.append_assoc], _, rfl, O, 0, by rw [tab_len]; exact Sl.mk (Nat.le_refl _), (List.getElem?_eq_some_iff.1 (hs.o rfl)).1, fun k hk => ?_⟩
    rw [tab_len] at hk
    rw [← hrun, Nat.zero_add, ← orel_out hg hor, tab_get o2 hk]
    exact hs.rdO hk
  simp only [List.concat_eq_append, List.length_append, List.length_singleton] at hnn hs hg hm hrun hZ
  subst hnn
  obtain ⟨hg', hm'⟩ := gsi_step hg
  obtain ⟨hil, hif⟩ := hg.fr i (by simp)
  simp only at hif
  obtain ⟨n, rfl⟩ : ∃ n', n = n' + 1 := ⟨n - 1, by unfold gsM at hm; simp at hm; omega⟩
  rw [gsRun_snoc] at hrun
  have e1 : ((S.length + 1 : Nat) : Int) - 1 = ((S.length : Nat) : Int) := by omega
  have e2 : ((S.length : Nat) : Int) = ((S.length : Nat) : Int) := rfl
  have rq := hs.rdQ
  obtain ⟨w, k1, rb, ro, w1, w2, w3⟩ := t7' i hil
  rw [tab_len] at w1 w3
  (repeat (first | (with_reducible refine AWo.cons ?_) | ((with_reducible refine Step.id ?_); first | ((with_reducible apply Step.move); exact rfl; exact rfl) | ((with_reducible apply Step.assign); exact rfl; exact rfl) | ((with_reducible apply Step.load); exact rfl; (focus (decide +kernel)); exact rfl; (focus (assumption))) | ((with_reducible apply Step.ix1z); exact rfl; (focus (exact Sl.mk (by omega))); exact rfl; (focus (decide +kernel)); exact rfl; (focus (omega))) | ((with_reducible apply Step.ix1); exact rfl; (focus (assumption)); exact rfl; (focus (decide +kernel)); exact rfl; (focus (omega))) | ((with_reducible apply Step.field0); exact rfl; (focus (decide +kernel)); exact rfl) | ((with_reducible apply Step.subE); exact rfl; exact rfl; (focus (assumption)); (focus (omega)); exact rfl) | ((with_reducible apply Step.gtr); exact rfl; exact rfl; exact rfl) | ((with_reducible apply Step.len); exact rfl; (focus (first | assumption | exact Sl.mk (by omega))); (focus (decide +kernel)); exact rfl) | ((with_reducible apply Step.nilp); exact rfl; exact rfl)) | (with_reducible refine AWo.nil ?_) | ((with_reducible apply AW.seq)) | ((with_reducible apply Then.n)) | ((with_reducible apply AW.regL)) | ((with_reducible apply AW.block)) | ((with_reducible apply AW.skip)) | ((with_reducible apply AW.condT); exact rfl; (focus ((simp only [decide_eq_true_eq, decide_eq_false_iff_not, Bool.not_eq_true', Bool.not_eq_false', Bool.not_true, Bool.not_false]; first | assumption | omega))))))
  refine AW.loopW (fun rk t M2 => ∃ j : Nat, rk = r - j ∧ j ≤ r ∧ M2 = M' ∧ t = fr [(8, .pointer (some ⟨a, 0, none⟩)), (9, .slice (some ⟨O, 0, none⟩) l l), (10, .slice (some ⟨T, 0, none⟩) r r), (12, .slice (some ⟨W, 0, none⟩) l l), (14, .slice (some ⟨Q, 0, none⟩) (S.length + 1) l), (15, .int .i64 (i : Nat)), (16, .int .i64 (bstF (A i) (c i) j)), (87, w), (88, .int .i64 (r : Nat)), (89, .int .i64 (j : Nat))])
    ⟨_, _, (by repeat (first | exact trivial | (refine And.intro rfl ?_))), 0, rfl, Nat.zero_le _, rfl, rfl⟩ ?_
  rintro rk t M' ⟨j, rfl, hj, rfl, rfl⟩
  obtain ⟨b0, hb0⟩ : ∃ b0, bstF (A i) (c i) j = b0 := ⟨_, rfl⟩
  obtain ⟨d1, d2, d3⟩ := bstF_bd (A i) (c i) j
  rw [hb0] at d1 d2 d3 ⊢
  rcases Nat.lt_or_ge j r with hjr | hjg
  · have hb1 : bstF (A i) (c i) (j + 1) = if A i j = false ∧ 0 ≤ c i j ∧ (b0 < 0 ∨ c i j < c i b0.toNat) then ((j : Nat) : Int) else b0 := by rw [← hb0]; rfl
    have q5 := w3 j hjr
    rw [tab_get (c i) hjr] at q5
    have rw1 := hs.rdW hil
    cases ha : A i j with
    | true =>
      have ra := hs.rdA hil hjr ha
      rw [if_neg (by rw [ha]; simp)] at hb1
      (repeat (first | (with_reducible refine AWo.cons ?_) | ((with_reducible refine Step.id ?_); first | ((with_reducible apply Step.gdU); exact rfl; exact rfl) | ((with_reducible apply Step.gdF); exact rfl; exact rfl; (focus (rfl))) | ((with_reducible apply Step.move); exact rfl; exact rfl) | ((with_reducible apply Step.assign); exact rfl; exact rfl) | ((with_reducible apply Step.load); exact rfl; (focus (decide +kernel)); exact rfl; (focus (assumption))) | ((with_reducible apply Step.ix1z); exact rfl; (focus (exact Sl.mk (by omega))); exact rfl; (focus (decide +kernel)); exact rfl; (focus (omega))) | ((with_reducible apply Step.ix1); exact rfl; (focus (assumption)); exact rfl; (focus (decide +kernel)); exact rfl; (focus (omega))) | ((with_reducible apply Step.add); exact rfl; exact rfl; (focus (omega)); exact rfl) | ((with_reducible apply Step.lss); exact rfl; exact rfl; exact rfl) | ((with_reducible apply Step.not); exact rfl; exact rfl) | ((with_reducible apply Step.pickF); exact rfl; exact rfl; exact rfl; exact rfl; (focus (rfl)))) | (with_reducible refine AWo.nil ?_) | ((with_reducible apply AW.seq)) | ((with_reducible apply Then.n)) | ((with_reducible apply AW.regL)) | ((with_reducible apply AW.block)) | ((with_reducible apply InBlk.n)) | ((with_reducible apply AW.skip)) | ((with_reducible apply AW.condT); exact rfl; (focus ((simp only [decide_eq_true_eq, decide_eq_false_iff_not, Bool.not_eq_true', Bool.not_eq_false', Bool.not_true, Bool.not_false]; first | assumption | omega)))) | ((with_reducible apply AW.condF); exact rfl; (focus (rfl)))))
      exact ⟨_, [(8, .pointer (some ⟨a, 0, none⟩)), (9, .slice (some ⟨O, 0, none⟩) l l), (10, .slice (some ⟨T, 0, none⟩) r r), (12, .slice (some ⟨W, 0, none⟩) l l), (14, .slice (some ⟨Q, 0, none⟩) (S.length + 1) l), (15, .int .i64 (i : Nat)), (16, .int .i64 b0), (87, w), (88, .int .i64 (r : Nat)), (89, .int .i64 (j + 1 : Nat))], by omega, (by repeat (first | exact trivial | (refine And.intro rfl ?_))), j + 1, rfl, by omega, rfl, by rw [hb1]⟩
    | false =>
      have ra := hs.rdA hil hjr ha
      by_cases hcn : c i j < 0
      · rw [if_neg (by omega)] at hb1
        (repeat (first | (with_reducible refine AWo.cons ?_) | ((with_reducible refine Step.id ?_); first | ((with_reducible apply Step.gdU); exact rfl; exact rfl) | ((with_reducible apply Step.gdT); exact rfl; exact rfl; (focus (rfl))) | ((with_reducible apply Step.gdF); exact rfl; exact rfl; (focus ((simp only [decide_eq_true_eq, decide_eq_false_iff_not, Bool.not_eq_true', Bool.not_eq_false', Bool.not_true, Bool.not_false]; first | assumption | omega)))) | ((with_reducible apply Step.move); exact rfl; exact rfl) | ((with_reducible apply Step.assign); exact rfl; exact rfl) | ((with_reducible apply Step.load); exact rfl; (focus (decide +kernel)); exact rfl; (focus (assumption))) | ((with_reducible apply Step.ix1z); exact rfl; (focus (exact Sl.mk (by omega))); exact rfl; (focus (decide +kernel)); exact rfl; (focus (omega))) | ((with_reducible apply Step.ix1); exact rfl; (focus (assumption)); exact rfl; (focus (decide +kernel)); exact rfl; (focus (omega))) | ((with_reducible apply Step.add); exact rfl; exact rfl; (focus (omega)); exact rfl) | ((with_reducible apply Step.lss); exact rfl; exact rfl; exact rfl) | ((with_reducible apply Step.geq); exact rfl; exact rfl; exact rfl) | ((with_reducible apply Step.not); exact rfl; exact rfl) | ((with_reducible apply Step.pickT); exact rfl; exact rfl; exact rfl; exact rfl; (focus (rfl))) | ((with_reducible apply Step.pickF); exact rfl; exact rfl; exact rfl; exact rfl; (focus ((simp only [decide_eq_true_eq, decide_eq_false_iff_not, Bool.not_eq_true', Bool.not_eq_false', Bool.not_true, Bool.not_false]; first | assumption | omega))))) | (with_reducible refine AWo.nil ?_) | ((with_reducible apply AW.seq)) | ((with_reducible apply Then.n)) | ((with_reducible apply AW.regL)) | ((with_reducible apply AW.block)) | ((with_reducible apply InBlk.n)) | ((with_reducible apply AW.skip)) | ((with_reducible apply AW.condT); exact rfl; (focus ((simp only [decide_eq_true_eq, decide_eq_false_iff_not, Bool.not_eq_true', Bool.not_eq_false', Bool.not_true, Bool.not_false]; first | assumption | omega)))) | ((with_reducible apply AW.condF); exact rfl; (focus (rfl)))))
        exact ⟨_, [(8, .pointer (some ⟨a, 0, none⟩)), (9, .slice (some ⟨O, 0, none⟩) l l), (10, .slice (some ⟨T, 0, none⟩) r r), (12, .slice (some ⟨W, 0, none⟩) l l), (14, .slice (some ⟨Q, 0, none⟩) (S.length + 1) l), (15, .int .i64 (i : Nat)), (16, .int .i64 b0), (87, w), (88, .int .i64 (r : Nat)), (89, .int .i64 (j + 1 : Nat))], by omega, (by repeat (first | exact trivial | (refine And.intro rfl ?_))), j + 1, rfl, by omega, rfl, by rw [hb1]⟩
      by_cases hbn : b0 < 0
      · rw [if_pos ⟨ha, by omega, .inl hbn⟩] at hb1
        (repeat (first | (with_reducible refine AWo.cons ?_) | ((with_reducible refine Step.id ?_); first | ((with_reducible apply Step.gdT); exact rfl; exact rfl; (focus (first | rfl | (simp only [decide_eq_true_eq, decide_eq_false_iff_not, Bool.not_eq_true', Bool.not_eq_false', Bool.not_true, Bool.not_false]; first | assumption | omega)))) | ((with_reducible apply Step.gdF); exact rfl; exact rfl; (focus ((simp only [decide_eq_true_eq, decide_eq_false_iff_not, Bool.not_eq_true', Bool.not_eq_false', Bool.not_true, Bool.not_false]; first | assumption | omega)))) | ((with_reducible apply Step.move); exact rfl; exact rfl) | ((with_reducible apply Step.assign); exact rfl; exact rfl) | ((with_reducible apply Step.load); exact rfl; (focus (decide +kernel)); exact rfl; (focus (assumption))) | ((with_reducible apply Step.ix1z); exact rfl; (focus (exact Sl.mk (by omega))); exact rfl; (focus (decide +kernel)); exact rfl; (focus (omega))) | ((with_reducible apply Step.ix1); exact rfl; (focus (assumption)); exact rfl; (focus (decide +kernel)); exact rfl; (focus (omega))) | ((with_reducible apply Step.add); exact rfl; exact rfl; (focus (omega)); exact rfl) | ((with_reducible apply Step.lss); exact rfl; exact rfl; exact rfl) | ((with_reducible apply Step.geq); exact rfl; exact rfl; exact rfl) | ((with_reducible apply Step.not); exact rfl; exact rfl) | ((with_reducible apply Step.pickT); exact rfl; exact rfl; exact rfl; exact rfl; (focus (first | rfl | (simp only [decide_eq_true_eq, decide_eq_false_iff_not, Bool.not_eq_true', Bool.not_eq_false', Bool.not_true, Bool.not_false]; first | assumption | omega))))) | (with_reducible refine AWo.nil ?_) | ((with_reducible apply AW.seq)) | ((with_reducible apply Then.n)) | ((with_reducible apply AW.regL)) | ((with_reducible apply AW.block)) | ((with_reducible apply InBlk.n)) | ((with_reducible apply AW.skip)) | ((with_reducible apply AW.condT); exact rfl; (focus (first | rfl | (simp only [decide_eq_true_eq, decide_eq_false_iff_not, Bool.not_eq_true', Bool.not_eq_false', Bool.not_true, Bool.not_false]; first | assumption | omega))))))
        exact ⟨_, [(8, .pointer (some ⟨a, 0, none⟩)), (9, .slice (some ⟨O, 0, none⟩) l l), (10, .slice (some ⟨T, 0, none⟩) r r), (12, .slice (some ⟨W, 0, none⟩) l l), (14, .slice (some ⟨Q, 0, none⟩) (S.length + 1) l), (15, .int .i64 (i : Nat)), (16, .int .i64 (j : Nat)), (87, w), (88, .int .i64 (r : Nat)), (89, .int .i64 (j + 1 : Nat))], by omega, (by repeat (first | exact trivial | (refine And.intro rfl ?_))), j + 1, rfl, by omega, rfl, by rw [hb1]⟩
      obtain ⟨q, rfl⟩ := Int.eq_ofNat_of_zero_le (show 0 ≤ b0 by omega)
      simp only [Int.toNat_natCast] at hb1
      have q6 := w3 q (by omega)
      rw [tab_get (c i) (show q < r by omega)] at q6
      by_cases hlt : c i j < c i q
      · rw [if_pos ⟨ha, by omega, .inr hlt⟩] at hb1
        (repeat (first | (with_reducible refine AWo.cons ?_) | ((with_reducible refine Step.id ?_); first | ((with_reducible apply Step.gdT); exact rfl; exact rfl; (focus (first | rfl | (simp only [decide_eq_true_eq, decide_eq_false_iff_not, Bool.not_eq_true', Bool.not_eq_false', Bool.not_true, Bool.not_false]; first | assumption | omega)))) | ((with_reducible apply Step.move); exact rfl; exact rfl) | ((with_reducible apply Step.assign); exact rfl; exact rfl) | ((with_reducible apply Step.load); exact rfl; (focus (decide +kernel)); exact rfl; (focus (assumption))) | ((with_reducible apply Step.ix1z); exact rfl; (focus (exact Sl.mk (by omega))); exact rfl; (focus (decide +kernel)); exact rfl; (focus (omega))) | ((with_reducible apply Step.ix1); exact rfl; (focus (assumption)); exact rfl; (focus (decide +kernel)); exact rfl; (focus (omega))) | ((with_reducible apply Step.field0); exact rfl; (focus (decide +kernel)); exact rfl) | ((with_reducible apply Step.add); exact rfl; exact rfl; (focus (omega)); exact rfl) | ((with_reducible apply Step.lss); exact rfl; exact rfl; exact rfl) | ((with_reducible apply Step.geq); exact rfl; exact rfl; exact rfl) | ((with_reducible apply Step.not); exact rfl; exact rfl) | ((with_reducible apply Step.nilp); exact rfl; exact rfl) | ((with_reducible apply Step.pickT); exact rfl; exact rfl; exact rfl; exact rfl; (focus (first | rfl | (simp only [decide_eq_true_eq, decide_eq_false_iff_not, Bool.not_eq_true', Bool.not_eq_false', Bool.not_true, Bool.not_false]; first | assumption | omega)))) | ((with_reducible apply Step.pickF); exact rfl; exact rfl; exact rfl; exact rfl; (focus (rfl)))) | (with_reducible refine AWo.nil ?_) | ((with_reducible apply AW.seq)) | ((with_reducible apply Then.n)) | ((with_reducible apply AW.regL)) | ((with_reducible apply AW.block)) | ((with_reducible apply InBlk.n)) | ((with_reducible apply AW.skip)) | ((with_reducible apply AW.condT); exact rfl; (focus ((simp only [decide_eq_true_eq, decide_eq_false_iff_not, Bool.not_eq_true', Bool.not_eq_false', Bool.not_true, Bool.not_false]; first | assumption | omega))))))
        exact ⟨_, [(8, .pointer (some ⟨a, 0, none⟩)), (9, .slice (some ⟨O, 0, none⟩) l l), (10, .slice (some ⟨T, 0, none⟩) r r), (12, .slice (some ⟨W, 0, none⟩) l l), (14, .slice (some ⟨Q, 0, none⟩) (S.length + 1) l), (15, .int .i64 (i : Nat)), (16, .int .i64 (j : Nat)), (87, w), (88, .int .i64 (r : Nat)), (89, .int .i64 (j + 1 : Nat))], by omega, (by repeat (first | exact trivial | (refine And.intro rfl ?_))), j + 1, rfl, by omega, rfl, by rw [hb1]⟩
      · rw [if_neg (by omega)] at hb1
        (repeat (first | (with_reducible refine AWo.cons ?_) | ((with_reducible refine Step.id ?_); first | ((with_reducible apply Step.gdT); exact rfl; exact rfl; (focus (first | rfl | (simp only [decide_eq_true_eq, decide_eq_false_iff_not, Bool.not_eq_true', Bool.not_eq_false', Bool.not_true, Bool.not_false]; first | assumption | omega)))) | ((with_reducible apply Step.move); exact rfl; exact rfl) | ((with_reducible apply Step.assign); exact rfl; exact rfl) | ((with_reducible apply Step.load); exact rfl; (focus (decide +kernel)); exact rfl; (focus (assumption))) | ((with_reducible apply Step.ix1z); exact rfl; (focus (exact Sl.mk (by omega))); exact rfl; (focus (decide +kernel)); exact rfl; (focus (omega))) | ((with_reducible apply Step.ix1); exact rfl; (focus (assumption)); exact rfl; (focus (decide +kernel)); exact rfl; (focus (omega))) | ((with_reducible apply Step.field0); exact rfl; (focus (decide +kernel)); exact rfl) | ((with_reducible apply Step.add); exact rfl; exact rfl; (focus (omega)); exact rfl) | ((with_reducible apply Step.lss); exact rfl; exact rfl; exact rfl) | ((with_reducible apply Step.geq); exact rfl; exact rfl; exact rfl) | ((with_reducible apply Step.not); exact rfl; exact rfl) | ((with_reducible apply Step.nilp); exact rfl; exact rfl) | ((with_reducible apply Step.pickT); exact rfl; exact rfl; exact rfl; exact rfl; (focus (first | rfl | (simp only [decide_eq_true_eq, decide_eq_false_iff_not, Bool.not_eq_true', Bool.not_eq_false', Bool.not_true, Bool.not_false]; first | assumption | omega)))) | ((with_reducible apply Step.pickF); exact rfl; exact rfl; exact rfl; exact rfl; (focus (rfl)))) | (with_reducible refine AWo.nil ?_) | ((with_reducible apply AW.seq)) | ((with_reducible apply Then.n)) | ((with_reducible apply AW.regL)) | ((with_reducible apply AW.block)) | ((with_reducible apply InBlk.n)) | ((with_reducible apply AW.skip)) | ((with_reducible apply AW.condT); exact rfl; (focus ((simp only [decide_eq_true_eq, decide_eq_false_iff_not, Bool.not_eq_true', Bool.not_eq_false', Bool.not_true, Bool.not_false]; first | assumption | omega)))) | ((with_reducible apply AW.condF); exact rfl; (focus ((simp only [decide_eq_true_eq, decide_eq_false_iff_not, Bool.not_eq_true', Bool.not_eq_false', Bool.not_true, Bool.not_false]; first | assumption | omega))))))
        exact ⟨_, [(8, .pointer (some ⟨a, 0, none⟩)), (9, .slice (some ⟨O, 0, none⟩) l l), (10, .slice (some ⟨T, 0, none⟩) r r), (12, .slice (some ⟨W, 0, none⟩) l l), (14, .slice (some ⟨Q, 0, none⟩) (S.length + 1) l), (15, .int .i64 (i : Nat)), (16, .int .i64 (q : Nat)), (87, w), (88, .int .i64 (r : Nat)), (89, .int .i64 (j + 1 : Nat))], by omega, (by repeat (first | exact trivial | (refine And.intro rfl ?_))), j + 1, rfl, by omega, rfl, by rw [hb1]⟩
  obtain rfl : j = r := by omega
  by_cases hb : b0 < 0
  · have hto : gsTo c j A mt S i = ⟨A, mt, S⟩ := by unfold gsTo; rw [hb0, if_pos hb]
    rw [hto] at hg' hm' hrun
    (repeat (first | (with_reducible refine AWo.cons ?_) | ((with_reducible refine Step.id ?_); first | ((with_reducible apply Step.move); exact rfl; exact rfl) | ((with_reducible apply Step.assign); exact rfl; exact rfl) | ((with_reducible apply Step.subE); exact rfl; exact rfl; (focus (assumption)); (focus (omega)); exact rfl) | ((with_reducible apply Step.slTo); exact rfl; exact rfl; (focus (assumption)); (focus (omega)); exact un27; exact sz3; exact rfl) | ((with_reducible apply Step.lss); exact rfl; exact rfl; exact rfl) | ((with_reducible apply Step.len); exact rfl; (focus (exact Sl.mk (by omega))); (focus (decide +kernel)); exact rfl)) | (with_reducible refine AWo.nil ?_) | ((with_reducible apply AW.seq)) | ((with_reducible apply Then.n)) | ((with_reducible apply AW.regL)) | ((with_reducible apply AW.exit)) | ((with_reducible apply InBlk.hit)) | ((with_reducible apply Then.e)) | ((with_reducible apply AW.condT); exact rfl; (focus ((simp only [decide_eq_true_eq, decide_eq_false_iff_not, Bool.not_eq_true', Bool.not_eq_false', Bool.not_true, Bool.not_false]; first | assumption | omega)))) | ((with_reducible apply AW.condF); exact rfl; (focus ((simp only [decide_eq_true_eq, decide_eq_false_iff_not, Bool.not_eq_true', Bool.not_eq_false', Bool.not_true, Bool.not_false]; first | assumption | omega))))))
    exact ⟨n, [(8, .pointer (some ⟨a, 0, none⟩)), (9, .slice (some ⟨O, 0, none⟩) l l), (10, .slice (some ⟨T, 0, none⟩) j j), (12, .slice (some ⟨W, 0, none⟩) l l), (14, .slice (some ⟨Q, 0, none⟩) (S.length) l)], by omega, (by repeat (first | exact trivial | (refine And.intro rfl ?_))), A, mt, o2, S, S.length, hs.pop, hg', by omega, hrun, hor, rfl, rfl⟩
  obtain ⟨q, rfl⟩ := Int.eq_ofNat_of_zero_le (show 0 ≤ b0 by omega)
  simp only [Int.toNat_natCast] at d3
  obtain ⟨d3, d4⟩ := d3 (by omega)
  have hqr : q < j := by omega
  have rw1 := hs.rdW hil
  (repeat (first | (with_reducible refine AWo.cons ?_) | ((with_reducible refine Step.id ?_); first | ((with_reducible apply Step.move); exact rfl; exact rfl) | ((with_reducible apply Step.assign); exact rfl; exact rfl) | ((with_reducible apply Step.load); exact rfl; (focus (decide +kernel)); exact rfl; (focus (assumption))) | ((with_reducible apply Step.ix1z); exact rfl; (focus (exact Sl.mk (by omega))); exact rfl; (focus (decide +kernel)); exact rfl; (focus (omega))) | ((with_reducible apply Step.subE); exact rfl; exact rfl; (focus (assumption)); (focus (omega)); exact rfl) | ((with_reducible apply Step.slTo); exact rfl; exact rfl; (focus (assumption)); (focus (omega)); exact un27; exact sz3; exact rfl) | ((with_reducible apply Step.lss); exact rfl; exact rfl; exact rfl) | ((with_reducible apply Step.len); exact rfl; (focus (exact Sl.mk (by omega))); (focus (decide +kernel)); exact rfl)) | (with_reducible refine AWo.nil ?_) | ((with_reducible apply AW.seq)) | ((with_reducible apply Then.n)) | ((with_reducible apply AW.regL)) | ((with_reducible apply AW.exit)) | ((with_reducible apply InBlk.hit)) | ((with_reducible apply Then.e)) | ((with_reducible apply AW.skip)) | ((with_reducible apply AW.condF); exact rfl; (focus (first | rfl | (simp only [decide_eq_true_eq, decide_eq_false_iff_not, Bool.not_eq_true', Bool.not_eq_false', Bool.not_true, Bool.not_false]; first | assumption | omega))))))
  have h2 := hs.pop.setA hil q
  generalize hM2 : M'.set (P i) _ = M2 at h2
  ((with_reducible apply Step.storeW); exact rfl; exact rfl; exact (hs.rows i hil); (focus (rw [bv_len, tabB_len]; exact hqr)); (focus (decide +kernel)); exact rfl; exact rfl; exact hM2)
  have rt := h2.rdT hqr
  obtain ⟨N2, hN2⟩ := id h2.low
  have t2'' : Rd M2 a 0 cv := by rw [hN2]; exact t2.old _
  have t7'' : ∀ i, i < l → ∃ w, Rd M2 b (o + i) w ∧ Ints M2 w (tab (c i) j) := fun i hi => by
    obtain ⟨w, k1, k2⟩ := t7 i hi
    rw [hN2]; exact ⟨w, k1.old _, k2.old _⟩
  by_cases h0 : 0 ≤ mt q
  · rcases hg.m1 q with e | ⟨k, y1, y2, y3, y4, y5⟩
    · simp only at e; omega
    simp only at y1
    rw [y1] at rt
    (repeat (first | (with_reducible refine AWo.cons ?_) | ((with_reducible refine Step.id ?_); first | ((with_reducible apply Step.move); exact rfl; exact rfl) | ((with_reducible apply Step.assign); exact rfl; exact rfl) | ((with_reducible apply Step.load); exact rfl; (focus (decide +kernel)); exact rfl; (focus (assumption))) | ((with_reducible apply Step.ix1z); exact rfl; (focus (exact Sl.mk (by omega))); exact rfl; (focus (decide +kernel)); exact rfl; (focus (omega)))) | (with_reducible refine AWo.nil ?_) | ((fail_if_success (with_reducible refine AW.atR (id := 30) ?_)); ((with_reducible apply AW.seq))) | ((with_reducible apply Then.n)) | ((with_reducible apply AW.regL))))
    refine AW.rebase ?_
    obtain ⟨v1, x1, xb, xo, z1, z2, z3⟩ := t7'' i hil
    obtain ⟨v2, x1', xb', xo', z1', z2', z3'⟩ := t7'' k y2
    rw [tab_len] at z1 z3 z1' z3'
    have q6 := z3 q hqr
    have q7 := z3' q hqr
    rw [tab_get _ hqr] at q6 q7
    have hp1 := fun T => prefers_ok (m := M2 ++ T) (a := c i q) (j := ((i : Nat) : Int)) (b := c k q) (k := ((k : Nat) : Int))
    cases hpf : prf (c i q) i (c k q) k with
    | false =>
      rw [hpf] at hp1
      have hto : gsTo c j A mt S i = ⟨up2 A i q, mt, S ++ [i]⟩ := by
        unfold gsTo
        rw [hb0, if_neg hb]
        simp only [Int.toNat_natCast]
        rw [y1]
        simp only [Int.toNat_natCast]
        rw [if_pos ⟨by omega, hpf⟩]
      rw [hto] at hg' hm' hrun
      (repeat (first | (with_reducible refine AWo.cons ?_) | ((with_reducible refine Step.id ?_); first | ((with_reducible apply Step.gdT); exact rfl; exact rfl; (focus (rfl))) | ((with_reducible apply Step.move); exact rfl; exact rfl) | ((with_reducible apply Step.load); exact rfl; (focus (decide +kernel)); exact rfl; (focus (exact Rd.old _ (by assumption)))) | ((with_reducible apply Step.ix1); exact rfl; (focus (assumption)); exact rfl; (focus (decide +kernel)); exact rfl; (focus (omega))) | ((with_reducible apply Step.field0); exact rfl; (focus (decide +kernel)); exact rfl) | ((with_reducible apply Step.geq); exact rfl; exact rfl; exact rfl) | ((with_reducible apply Step.not); exact rfl; exact rfl) | ((with_reducible apply Step.nilp); exact rfl; exact rfl) | ((with_reducible apply Step.pickT); exact rfl; exact rfl; exact rfl; exact rfl; (focus (rfl))) | ((with_reducible apply Step.callR fit); exact rfl; exact Try.func71; exact rfl; exact rfl; exact (hp1 _)) | ((with_reducible apply Step.buildS 0); exact rfl; exact rfl; exact (fun _ _ => bs27x); exact rfl; (focus (first | (simp only [List.nil_append, List.cons_append, List.set_cons_zero, List.set_cons_succ, iv_set, bv_set, iv_rep, bv_rep]; done) | (simp only [List.nil_append, List.cons_append, List.set_cons_zero, List.set_cons_succ, iv_set, bv_set, iv_rep, bv_rep]; rfl) | rfl)))) | (with_reducible refine AWo.nil ?_) | ((with_reducible apply AW.seq)) | ((with_reducible apply Then.n)) | ((with_reducible apply AW.regL)) | ((with_reducible apply AW.drawL fit); (focus (decide +kernel))) | ((with_reducible apply AW.condT); exact rfl; (focus (rfl)))))
      obtain ⟨old, Z', hq', hpush⟩ := (h2.old [some { cells := [.int .i64 (i : Nat)] }]).push (by omega)
      have h3 := (hpush i).old [none]
      refine Step.appInG (c := iv (nats S)) (old := [.int .i64 old]) (Z := iv Z') (new := .int .i64 (i : Nat)) rfl rfl el27 un27 hq' rfl rfl (by simp [iv, nats]) rfl (by simp) rfl (by omega) rfl rfl ?_
      (repeat (first | (with_reducible refine AWo.cons ?_) | ((with_reducible refine Step.id ?_); ((with_reducible apply Step.assign); exact rfl; exact rfl)) | (with_reducible refine AWo.nil ?_) | ((with_reducible apply Then.n)) | ((with_reducible apply AW.exit)) | ((with_reducible apply InBlk.hit)) | ((with_reducible apply Then.e))))
      exact ⟨n, [(8, .pointer (some ⟨a, 0, none⟩)), (9, .slice (some ⟨O, 0, none⟩) l l), (10, .slice (some ⟨T, 0, none⟩) j j), (12, .slice (some ⟨W, 0, none⟩) l l), (14, .slice (some ⟨Q, 0, none⟩) (S.length + 1) l)], by omega, (by repeat (first | exact trivial | (refine And.intro rfl ?_))), _, _, _, S ++ [i], S.length + 1, h3, hg', by omega, hrun, hor, by simp, rfl⟩
    | true =>
      rw [hpf] at hp1
      have hto : gsTo c j A mt S i = ⟨up2 A i q, up mt q (i : Nat), S ++ [k]⟩ := by
        unfold gsTo
        rw [hb0, if_neg hb]
        simp only [Int.toNat_natCast]
        rw [y1]
        simp only [Int.toNat_natCast]
        rw [if_neg (by rw [hpf]; simp), if_pos (by omega)]
      rw [hto] at hg' hm' hrun
      (repeat (first | (with_reducible refine AWo.cons ?_) | ((with_reducible refine Step.id ?_); first | ((with_reducible apply Step.gdT); exact rfl; exact rfl; (focus (rfl))) | ((with_reducible apply Step.move); exact rfl; exact rfl) | ((with_reducible apply Step.load); exact rfl; (focus (decide +kernel)); exact rfl; (focus (exact Rd.old _ (by assumption)))) | ((with_reducible apply Step.ix1z); exact rfl; (focus (exact Sl.mk (by omega))); exact rfl; (focus (decide +kernel)); exact rfl; (focus (omega))) | ((with_reducible apply Step.ix1); exact rfl; (focus (assumption)); exact rfl; (focus (decide +kernel)); exact rfl; (focus (omega))) | ((with_reducible apply Step.field0); exact rfl; (focus (decide +kernel)); exact rfl) | ((with_reducible apply Step.geq); exact rfl; exact rfl; exact rfl) | ((with_reducible apply Step.not); exact rfl; exact rfl) | ((with_reducible apply Step.nilp); exact rfl; exact rfl) | ((with_reducible apply Step.pickT); exact rfl; exact rfl; exact rfl; exact rfl; (focus (rfl))) | ((with_reducible apply Step.callR fit); exact rfl; exact Try.func71; exact rfl; exact rfl; exact (hp1 _))) | (with_reducible refine AWo.nil ?_) | ((with_reducible apply AW.seq)) | ((with_reducible apply Then.n)) | ((with_reducible apply AW.regL)) | ((with_reducible apply AW.drawL fit); (focus (decide +kernel))) | ((with_reducible apply AW.skip)) | ((with_reducible apply AW.condT); exact rfl; (focus (rfl))) | ((with_reducible apply AW.condF); exact rfl; (focus (rfl)))))
      have h3 := (h2.old []).setO k (-1)
      generalize hM3 : (M2 ++ []).set O _ = M3 at h3
      ((with_reducible apply Step.storeW); exact rfl; exact rfl; exact ((h2.old []).o rfl); (focus (rw [iv_len, tab_len]; exact y2)); (focus (decide +kernel)); exact rfl; exact rfl; exact hM3)
      (repeat (first | (with_reducible refine AWo.nil ?_) | ((with_reducible apply Then.n))))
      refine AW.rebase ?_
      (repeat (first | (with_reducible refine AWo.cons ?_) | ((with_reducible refine Step.id ?_); first | ((with_reducible apply Step.move); exact rfl; exact rfl) | ((with_reducible apply Step.buildS 0); exact rfl; exact rfl; exact (fun _ _ => bs27x); exact rfl; (focus (first | (simp only [List.nil_append, List.cons_append, List.set_cons_zero, List.set_cons_succ, iv_set, bv_set, iv_rep, bv_rep]; done) | (simp only [List.nil_append, List.cons_append, List.set_cons_zero, List.set_cons_succ, iv_set, bv_set, iv_rep, bv_rep]; rfl) | rfl)))) | ((with_reducible apply AW.regL))))
      obtain ⟨old, Z', hq', hpush⟩ := (h3.old [some { cells := [.int .i64 (k : Nat)] }]).push (by omega)
      have h4 := (hpush k).old [none]
      generalize hM4 : (M3 ++ _).set Q _ ++ [none] = M4 at h4
      refine Step.appInG (c := iv (nats S)) (old := [.int .i64 old]) (Z := iv Z') (new := .int .i64 (k : Nat)) rfl rfl el27 un27 hq' rfl rfl (by simp [iv, nats]) rfl (by simp) rfl (by omega) rfl hM4 ?_
      (repeat (first | (with_reducible refine AWo.cons ?_) | ((with_reducible refine Step.id ?_); first | ((with_reducible apply Step.move); exact rfl; exact rfl) | ((with_reducible apply Step.assign); exact rfl; exact rfl) | ((with_reducible apply Step.ix1z); exact rfl; (focus (exact Sl.mk (by omega))); exact rfl; (focus (decide +kernel)); exact rfl; (focus (omega)))) | (with_reducible refine AWo.nil ?_) | ((with_reducible apply Then.n)) | ((with_reducible apply AW.regL))))
      have h5 := h4.setO i (q : Nat)
      generalize hM5 : M4.set O _ = M5 at h5
      ((with_reducible apply Step.storeW); exact rfl; exact rfl; exact (h4.o rfl); (focus (rw [iv_len, tab_len]; exact hil)); (focus (decide +kernel)); exact rfl; exact rfl; exact hM5)
      (repeat (first | (with_reducible refine AWo.cons ?_) | ((with_reducible refine Step.id ?_); ((with_reducible apply Step.ix1z); exact rfl; (focus (exact Sl.mk (by omega))); exact rfl; (focus (decide +kernel)); exact rfl; (focus (omega))))))
      have h6 := h5.setT q (i : Nat)
      ((with_reducible apply Step.storeW); exact rfl; exact rfl; exact h5.t; (focus (rw [iv_len, tab_len]; exact hqr)); (focus (decide +kernel)); exact rfl; exact rfl; exact rfl)
      (repeat (first | (with_reducible refine AWo.nil ?_) | ((with_reducible apply Then.n)) | ((with_reducible apply InBlk.n))))
      exact ⟨n, [(8, .pointer (some ⟨a, 0, none⟩)), (9, .slice (some ⟨O, 0, none⟩) l l), (10, .slice (some ⟨T, 0, none⟩) j j), (12, .slice (some ⟨W, 0, none⟩) l l), (14, .slice (some ⟨Q, 0, none⟩) (S.length + 1) l)], by omega, (by repeat (first | exact trivial | (refine And.intro rfl ?_))), _, _, _, S ++ [k], S.length + 1, h6, hg', by omega, hrun, orel_swap hor y1 hif hg.inj, by simp, rfl⟩
  · have hmq : mt q = -1 := by
      rcases hg.m1 q with e | ⟨k, y1, _⟩
      · exact e
      · simp only at y1; omega
    rw [hmq] at rt
    (repeat (first | (with_reducible refine AWo.cons ?_) | ((with_reducible refine Step.id ?_); first | ((with_reducible apply Step.move); exact rfl; exact rfl) | ((with_reducible apply Step.assign); exact rfl; exact rfl) | ((with_reducible apply Step.load); exact rfl; (focus (decide +kernel)); exact rfl; (focus (assumption))) | ((with_reducible apply Step.ix1z); exact rfl; (focus (exact Sl.mk (by omega))); exact rfl; (focus (decide +kernel)); exact rfl; (focus (omega)))) | (with_reducible refine AWo.nil ?_) | ((fail_if_success (with_reducible refine AW.atR (id := 30) ?_)); ((with_reducible apply AW.seq))) | ((with_reducible apply Then.n)) | ((with_reducible apply AW.regL))))
    refine AW.rebase ?_
    have hto : gsTo c j A mt S i = ⟨up2 A i q, up mt q (i : Nat), S⟩ := by
      unfold gsTo
      rw [hb0, if_neg hb]
      simp only [Int.toNat_natCast]
      rw [if_neg (by rw [hmq]; omega), if_neg h0, List.append_nil]
    rw [hto] at hg' hm' hrun
    (repeat (first | (with_reducible refine AWo.cons ?_) | ((with_reducible refine Step.id ?_); first | ((with_reducible apply Step.gdF); exact rfl; exact rfl; (focus (rfl))) | ((with_reducible apply Step.move); exact rfl; exact rfl) | ((with_reducible apply Step.ix1z); exact rfl; (focus (exact Sl.mk (by omega))); exact rfl; (focus (decide +kernel)); exact rfl; (focus (omega))) | ((with_reducible apply Step.geq); exact rfl; exact rfl; exact rfl) | ((with_reducible apply Step.pickF); exact rfl; exact rfl; exact rfl; exact rfl; (focus (rfl)))) | (with_reducible refine AWo.nil ?_) | ((with_reducible apply AW.seq)) | ((with_reducible apply Then.n)) | ((with_reducible apply AW.regL)) | ((with_reducible apply AW.drawL fit); (focus (decide +kernel))) | ((with_reducible apply AW.skip)) | ((with_reducible apply AW.condF); exact rfl; (focus (rfl)))))
    have h5 := (h2.old []).setO i (q : Nat)
    generalize hM5 : (M2 ++ []).set O _ = M5 at h5
    ((with_reducible apply Step.storeW); exact rfl; exact rfl; exact ((h2.old []).o rfl); (focus (rw [iv_len, tab_len]; exact hil)); (focus (decide +kernel)); exact rfl; exact rfl; exact hM5)
    (repeat (first | (with_reducible refine AWo.cons ?_) | ((with_reducible refine Step.id ?_); ((with_reducible apply Step.ix1z); exact rfl; (focus (exact Sl.mk (by omega))); exact rfl; (focus (decide +kernel)); exact rfl; (focus (omega))))))
    have h6 := h5.setT q (i : Nat)
    ((with_reducible apply Step.storeW); exact rfl; exact rfl; exact h5.t; (focus (rw [iv_len, tab_len]; exact hqr)); (focus (decide +kernel)); exact rfl; exact rfl; exact rfl)
    (repeat (first | (with_reducible refine AWo.nil ?_) | ((with_reducible apply Then.n)) | ((with_reducible apply InBlk.n))))
    exact ⟨n, [(8, .pointer (some ⟨a, 0, none⟩)), (9, .slice (some ⟨O, 0, none⟩) l l), (10, .slice (some ⟨T, 0, none⟩) j j), (12, .slice (some ⟨W, 0, none⟩) l l), (14, .slice (some ⟨Q, 0, none⟩) (S.length) l)], by omega, (by repeat (first | exact trivial | (refine And.intro rfl ?_))), _, _, _, S, S.length, h6, hg', by omega, hrun, orel_free hor hmq hif, rfl, rfl⟩
end Go.Proofs.Ytajpngnphbdnnaa.Abs
namespace Go.Proofs.Ytajpngnphbdnnaa.Abs
set_option linter.unusedSimpArgs false
set_option linter.unusedVariables false
open Go.RowKit
open Go.Proofs.Ytajpngnphbdnnaa.Sim
open Go.Proofs
open Hung
/-- The rows while they are made. -/
structure RS (m M : AM) (T W Q : Nat) (P : Nat → Nat) (l r i : Nat) : Prop where
  t : M[T]? = some (some { cells := iv (tab (fun _ => -1) r) })
  w : M[W]? = some (some { cells := (List.range l).map fun x => if x < i then .slice (some ⟨P x, 0, none⟩) r r else .slice none 0 0 })
  rows : ∀ x, x < i → M[P x]? = some (some { cells := bv (tabB (fun _ => false) r) })
  q : (i = 0 ∧ M.length + 2 ≤ Q) ∨ (0 < i ∧ Q < M.length ∧ M[Q]? = some (some { cells := iv (nats (List.range i)), kind := .grow, size := 1 }))
  d1 : T ≠ W ∧ T ≠ Q ∧ W ≠ Q
  d2 : ∀ x, x < i → P x ≠ T ∧ P x ≠ W ∧ P x ≠ Q
  d3 : ∀ x y, x < i → y < i → P x = P y → x = y
  low : ∃ N, M = m ++ N
  dm : m.length ≤ T ∧ m.length ≤ W ∧ m.length ≤ Q
  dp : ∀ x, x < i → m.length ≤ P x ∧ P x < M.length
theorem keep3 {M : AM} {a W Q : Nat} {b v x : Option Blk} {r k g : AM} (h : M[a]? = some b) (h1 : W ≠ a) (h2 : Q ≠ a) : ((((M ++ r).set W v) ++ k).set Q x ++ g)[a]? = some b :=
  get_old _ (by rw [List.getElem?_set_ne h2]; exact get_old _ (by rw [List.getElem?_set_ne h1]; exact get_old _ h))
theorem RS.next {m M : AM} {T W Q : Nat} {P : Nat → Nat} {l r i : Nat} {k : Option Blk} (h : RS m M T W Q P l r i) (hi : i < l) :
    RS m ((((M ++ ([some { cells := bv (tabB (fun _ => false) r) }] : AM)).set W (some { cells := ((List.range l).map fun x => if x < i then Value.slice (some ⟨P x, 0, none⟩) r r else Value.slice none 0 0).set i (.slice (some ⟨M.length + 0, 0, none⟩) r r) }) ++ [k]).set Q none) ++ [some { cells := iv (nats (List.range i)) ++ [.int .i64 (i : Nat)], kind := .grow, size := 1 }])
      T W (M.length + 2) (up P i (M.length + 0)) l r (i + 1) := by
  obtain ⟨a1, a2, a3⟩ := h.d1
  have hT := (List.getElem?_eq_some_iff.1 h.t).1
  have hW := (List.getElem?_eq_some_iff.1 h.w).1
  obtain ⟨N, hN⟩ := h.low
  have hml : m.length ≤ M.length := by rw [hN]; simp
  have hQM : Q ≠ M.length := by rcases h.q with ⟨_, q⟩ | ⟨_, q, _⟩ <;> omega
  refine ⟨keep3 h.t (Ne.symm a1) (Ne.symm a2), ?_, fun x hx => ?_, .inr ⟨by omega, by simp, ?_⟩, by refine ⟨a1, ?_, ?_⟩ <;> omega, fun x hx => ?_, fun x y hx hy hxy => ?_, ?_, ⟨h.dm.1, h.dm.2.1, by omega⟩, fun x hx => ?_⟩
  · refine get_old _ ?_
    rw [List.getElem?_set_ne (Ne.symm a3)]
    refine get_old _ ?_
    rw [List.getElem?_set_self (by simp; omega)]
    congr 3
    apply List.ext_getElem?
    intro x
    by_cases hx : x < l
    · by_cases e : i = x
      · subst e; simp [hx, up]
      · rw [List.getElem?_set_ne e]
        simp only [List.getElem?_map, List.getElem?_range hx, Option.map_some]
        by_cases h : x < i
        · rw [if_pos h, if_pos (by omega), up_ne _ _ (Ne.symm e)]
        · rw [if_neg h, if_neg (by omega)]
    · rw [List.getElem?_eq_none (by simp; omega), List.getElem?_eq_none (by simp; omega)]
  · by_cases e : x = i
    · subst e
      rw [up_same]
      refine get_old _ ?_
      rw [List.getElem?_set_ne (by omega)]
      refine get_old _ ?_
      rw [List.getElem?_set_ne (by omega)]
      simp
    · rw [up_ne _ _ e]
      obtain ⟨e1, e2, e3⟩ := h.d2 x (by omega)
      exact keep3 (h.rows x (by omega)) (Ne.symm e2) (Ne.symm e3)
  · rw [List.getElem?_append_right (by simp)]
    simp [nats, iv, List.range_succ]
  · by_cases e : x = i
    · subst e; rw [up_same]; refine ⟨?_, ?_, ?_⟩ <;> omega
    · rw [up_ne _ _ e]
      obtain ⟨e1, e2, _⟩ := h.d2 x (by omega)
      have := (h.dp x (by omega)).2
      exact ⟨e1, e2, by omega⟩
  · by_cases e : x = i
    · by_cases e' : y = i
      · omega
      · subst e
        rw [up_same, up_ne _ _ e'] at hxy
        have := (h.dp y (by omega)).2
        omega
    · by_cases e' : y = i
      · subst e'
        rw [up_same, up_ne _ _ e] at hxy
        have := (h.dp x (by omega)).2
        omega
      · rw [up_ne _ _ e, up_ne _ _ e'] at hxy
        exact h.d3 x y (by omega) (by omega) hxy
  · exact app_low _ (set_low (app_low _ (set_low (app_low _ h.low) h.dm.2.1)) h.dm.2.2)
  · by_cases e : x = i
    · subst e; rw [up_same]; simp; omega
    · rw [up_ne _ _ e]
      obtain ⟨e1, e2⟩ := h.dp x (by omega)
      simp; omega
end Go.Proofs.Ytajpngnphbdnnaa.Abs
namespace Go.Proofs.Ytajpngnphbdnnaa.Abs
set_option linter.unusedSimpArgs false
set_option linter.unusedVariables false
open Go.Proofs
open Hung
theorem stF_Fin (c : Nat → Nat → Int) (l r : Nat) : Fin c l r (stF c l r) := ⟨(stF_fin c l r).1, (stF_fin c l r).2⟩
section
variable {c : Nat → Nat → Int} {l r : Nat} {s : GS}
theorem Fin.val (h : Fin c l r s) {i : Nat} (hi : i < l) : (tab (outF s.mt r) l).getD i 0 = -1 ∨ ∃ j : Nat, (tab (outF s.mt r) l).getD i 0 = (j : Nat) ∧ j < r ∧ 0 ≤ c i j ∧ s.mt j = (i : Nat) := by
  rw [tab_get _ hi]
  rcases outF_cases (mt := s.mt) (r := r) (i := i) with ⟨e1, _⟩ | ⟨y, y1, y2, y3⟩
  · exact .inl e1
  · refine .inr ⟨y, y2, y1, ?_, y3⟩
    rcases h.m1 y with h1 | ⟨x, x1, x2, _, x4, _⟩
    · omega
    · have : x = i := by omega
      subst this; exact x4
theorem Fin.wgh (h : Fin c l r s) : ∃ q, wgh c l r (tab (outF s.mt r) l) = (((cN (fun i => decide (0 ≤ (tab (outF s.mt r) l).getD i 0)) l : Nat) : Int), q, 0) := by
  obtain ⟨tk, z, q, e1, e2⟩ := wgS_ok (c := c) (r := r) (M := tab (outF s.mt r) l) (k := l) (fun i hi => by
    rcases h.val hi with h1 | ⟨j, j1, j2, j3, _⟩
    · exact .inl h1
    · exact .inr ⟨j, j1, j2, j3⟩) (fun i i' hi hi' h0 he => by
    rcases h.val hi with h1 | ⟨j, j1, _, _, j4⟩
    · omega
    · rcases h.val hi' with h2 | ⟨j', k1, _, _, k4⟩
      · omega
      · have : j = j' := by omega
        subst this; omega)
  refine ⟨q, ?_⟩
  unfold Abs.wgh
  rw [if_neg (by rw [tab_len]; simp), e1]
  simp only
  rw [e2]
theorem Fin.size (h : Fin c l r s) (hc9 : ∀ i j, c i j ≤ 1000000000) : (kM (okc c 1000000000) r l).2 ≤ 2 * cN (fun i => decide (0 ≤ (tab (outF s.mt r) l).getD i 0)) l := by
  have h1 := h.half hc9
  have h2 : cN (fun j => decide (0 ≤ s.mt j)) r ≤ cN (fun i => decide (0 ≤ (tab (outF s.mt r) l).getD i 0)) l := by
    refine cN_inj (fun j => (s.mt j).toNat) (fun j hj hp => ?_) (fun j j' hj hj' hp hp' he => ?_)
    · simp only [decide_eq_true_eq] at hp ⊢
      rcases h.m1 j with e | ⟨i, i1, i2, i3, i4, i5⟩
      · omega
      · have hi : (s.mt j).toNat = i := by omega
        rw [hi]
        refine ⟨i2, ?_⟩
        rw [tab_get _ i2]
        rcases outF_cases (mt := s.mt) (r := r) (i := i) with ⟨_, e2⟩ | ⟨y, y1, y2, y3⟩
        · exact absurd i1 (e2 j hj)
        · omega
    · simp only [decide_eq_true_eq] at hp hp'
      exact h.inj j j' hp (by omega)
  omega
theorem Fin.blk (h : Fin c l r s) : blk c l r (tab (outF s.mt r) l) = [] := by
  unfold Abs.blk
  split
  · exact bkR_nil.2 fun k hk j hj => h.noblock hk hj
  · rfl
/-- A pairing that nothing blocks is stable. -/
theorem stbM_of {M : List Int} (h0 : (Abs.wgh c l r M).2.2 = 0) (hb : Abs.blk c l r M = []) : StbM c l r M := by
  have hlen : M.length = l := by
    apply Classical.byContradiction
    intro hn
    unfold Abs.wgh at h0
    rw [if_pos hn] at h0
    cases h0
  have hval : ∃ tk s q, wgS c r M l = some (tk, s, q) := by
    unfold Abs.wgh at h0
    rw [if_neg (by omega)] at h0
    cases hw : wgS c r M l with
    | none => rw [hw] at h0; cases h0
    | some x => exact ⟨x.1, x.2.1, x.2.2, rfl⟩
  obtain ⟨tk, z, q, hval⟩ := hval
  obtain ⟨v1, v2, _⟩ := wgS_val hval
  unfold Abs.blk at hb
  rw [if_pos h0] at hb
  exact ⟨hlen, fun i hi => by
    rcases v1 i hi with h | ⟨j, j1, j2, j3, _⟩
    · exact .inl h
    · exact .inr ⟨j, j1, j2, j3⟩, v2, fun i hi j hj => bkR_nil.1 hb i hi j hj⟩
theorem best_stF {M : List Int} (hM : StbM c l r M) {i j : Nat} (hi : i < l) (hj : M.getD i 0 = ((j : Nat) : Int)) : ∃ k : Nat, outF (stF c l r).mt r i = (k : Nat) ∧ k < r ∧ ¬ kl (c i) j k :=
  best_left hM (stF_Fin c l r) (rej_run hM (gsi0 c l r) fun _ _ h => by cases h) hi hj
end
end Go.Proofs.Ytajpngnphbdnnaa.Abs
namespace Go.Proofs.Ytajpngnphbdnnaa.Abs
set_option linter.unusedSimpArgs false
set_option linter.unusedVariables false
open Go.RowKit
open Go.Proofs.Ytajpngnphbdnnaa.Sim
open Go.Proofs
open Hung
/-- What stays known while memory grows. -/
structure SB (m M : AM) (lv rv mv v9 : Value) (L R : List Gl) (W X : List Int) (u : Ru) : Prop where
  low : ∃ N, M = m ++ N
  gl : Gls M lv L
  gr : Gls M rv R
  gm : Ints M mv W
  gi : Ints M v9 X
  gu : RdL M (m.length + 0) 0 u.cells
theorem SB.old {m M : AM} {lv rv mv v9 : Value} {L R : List Gl} {W X : List Int} {u : Ru} (h : SB m M lv rv mv v9 L R W X u) (N : AM) : SB m (M ++ N) lv rv mv v9 L R W X u :=
  ⟨app_low N h.low, h.gl.old N, h.gr.old N, h.gm.old N, h.gi.old N, h.gu.old N⟩
set_option maxHeartbeats 8000000 in
set_option maxRecDepth 100000 in
theorem PairSettled_ok {m : AM} {lv rv mv : Value} {L R : List Gl} {u : Ru} {M : List Int} (hl : Gls m lv L) (hr : Gls m rv R) (h1 : L.length ≤ 9223372036854775807) (h2 : R.length ≤ 9223372036854775807) (hM : Ints m mv M) (hMl : M.length ≤ 9223372036854775807) :
    ACall Try.prog 17 #[lv, rv, u.v, mv] m (Ret (.bool true) m) := by
  have r0 : ∀ T : AM, RdL (m ++ (some { cells := u.cells } :: T)) (m.length + 0) 0 u.cells := fun T => RdL.new rfl rfl
  have c1 := fun T => lside_ok (hl.old T) h1
  have c2 := fun T => lside_ok (hr.old T) h2
  have c3 := fun T => rule_ok (m := m ++ T) u
  have gl : ∀ T : AM, Gls (m ++ (some { cells := u.cells } :: gb (glC (L.take 34)) 4 :: T)) (gv (m.length + 1) (L.take 34).length) (L.take 34) := fun T => gls_new (k := 1) (by simp) rfl
  have gr : ∀ T : AM, Gls (m ++ (some { cells := u.cells } :: gb (glC (L.take 34)) 4 :: gb (glC (R.take 34)) 4 :: T)) (gv (m.length + 2) (R.take 34).length) (R.take 34) := fun T => gls_new (k := 2) (by simp) rfl
  cases hok : okB L R u with
  | false =>
    have w1 := Stable_no (u := u) (gl [gb (glC (R.take 34)) 4]) (gr []) (by simp only [List.length_take]; omega) (by simp only [List.length_take]; omega) (by rw [← hok]; exact okB34 L R u)
    have w2 := fun T => Good_ok (hl.old T) (hr.old T) h1 h2 hok
    refine ACall.start Try.func17 rfl rfl ?_
    (repeat (first | (with_reducible refine AWo.cons ?_) | ((with_reducible refine Step.id ?_); first | ((with_reducible apply Step.assign); exact rfl; exact rfl) | ((with_reducible apply Step.box 0); exact rfl; exact rfl; (focus (kernel_rfl)); exact rfl; (focus (first | (simp only [List.nil_append, List.cons_append, List.set_cons_zero, List.set_cons_succ, iv_set, bv_set, iv_rep, bv_rep]; done) | (simp only [List.nil_append, List.cons_append, List.set_cons_zero, List.set_cons_succ, iv_set, bv_set, iv_rep, bv_rep]; rfl) | rfl)))) | (with_reducible refine AWo.nil ?_) | ((fail_if_success (with_reducible refine AW.atR (id := 1) ?_)); ((with_reducible apply AW.seq))) | ((with_reducible apply Then.n)) | ((with_reducible apply AW.regL))))
    refine AW.joinS [(0, lv), (1, rv), (3, mv), (6, .pointer (some ⟨m.length + 0, 0, none⟩)), (9, .slice none 0 0), (10, .int .i64 2)] (m ++ [some { cells := u.cells }, gb (glC (L.take 34)) 4, gb (glC (R.take 34)) 4]) ?_ ?_
    · (repeat' (first | ((with_reducible refine Step.id ?_); first | ((with_reducible apply Step.move); exact rfl; exact rfl) | ((with_reducible apply Step.assign); exact rfl; exact rfl) | ((with_reducible apply Step.loadL (n := 8)); exact rfl; (focus (decide +kernel)); (focus (decide +kernel)); exact rfl; (focus (exact RdL.new rfl rfl)); exact rfl; exact rfl) | ((with_reducible apply Step.extract); exact rfl; exact rfl; exact rfl) | ((with_reducible apply Step.callG fit (k := 1)); exact rfl; exact rfl; exact Try.func21; exact rfl; exact rfl; exact (c1 _); (focus (first | (simp only [List.nil_append, List.cons_append, List.set_cons_zero, List.set_cons_succ, iv_set, bv_set, iv_rep, bv_rep]; done) | (simp only [List.nil_append, List.cons_append, List.set_cons_zero, List.set_cons_succ, iv_set, bv_set, iv_rep, bv_rep]; rfl) | rfl))) | ((with_reducible apply Step.callG fit (k := 2)); exact rfl; exact rfl; exact Try.func21; exact rfl; exact rfl; exact (c2 _); (focus (first | (simp only [List.nil_append, List.cons_append, List.set_cons_zero, List.set_cons_succ, iv_set, bv_set, iv_rep, bv_rep]; done) | (simp only [List.nil_append, List.cons_append, List.set_cons_zero, List.set_cons_succ, iv_set, bv_set, iv_rep, bv_rep]; rfl) | rfl))) | ((with_reducible apply Step.callR fit); exact rfl; exact Try.func22; exact rfl; exact rfl; exact (c3 _)) | ((with_reducible apply Step.callR fit); exact rfl; exact Try.func33; exact rfl; exact rfl; exact (w1))) | ((with_reducible apply Then.n)) | ((with_reducible apply AW.drawT fit (T := (.step 0 (.step 2 (.both (.step 1 (.both (.step 3 (.step 4 (.step 5 (.step 6 (.step 7 (.step 8 (.step 9 (.step 10 (.step 11 .done))))))))) (.step 4 (.step 3 (.step 5 (.step 6 (.step 7 (.step 8 (.step 9 (.step 10 (.step 11 .done))))))))))) (.step 4 (.step 1 (.step 3 (.step 5 (.step 6 (.step 7 (.step 8 (.step 9 (.step 10 (.step 11 .done))))))))))))))); (focus (decide +kernel))) | ((with_reducible apply AWt.step); exact rfl) | ((with_reducible apply AWt.done)) | refine AWt.both ?_ ?_))
      all_goals exact ⟨rfl, (by repeat (first | exact trivial | (refine And.intro rfl ?_)))⟩
    (repeat (first | (with_reducible refine AWo.cons ?_) | ((with_reducible refine Step.id ?_); first | ((with_reducible apply Step.gdT); exact rfl; exact rfl; (focus (rfl))) | ((with_reducible apply Step.move); exact rfl; exact rfl) | ((with_reducible apply Step.assign); exact rfl; exact rfl) | ((with_reducible apply Step.loadL (n := 8)); exact rfl; (focus (decide +kernel)); (focus (decide +kernel)); exact rfl; (focus (exact RdL.new rfl rfl)); exact rfl; exact rfl) | ((with_reducible apply Step.eql); exact rfl; exact rfl; exact rfl) | ((with_reducible apply Step.len); exact rfl; (focus (exact Sl.nil 0 0)); (focus (decide +kernel)); exact rfl) | ((with_reducible apply Step.not); exact rfl; exact rfl) | ((with_reducible apply Step.pickT); exact rfl; exact rfl; exact rfl; exact rfl; (focus (rfl))) | ((with_reducible apply Step.callR fit); exact rfl; exact Try.func26; exact rfl; exact rfl; exact (w2 _)) | ((with_reducible apply Step.callR fit); exact rfl; exact Try.func25; exact rfl; exact rfl; exact (awake_ok))) | (with_reducible refine AWo.nil ?_) | ((with_reducible apply AW.seq)) | ((with_reducible apply Then.n)) | ((with_reducible apply AW.regL)) | ((with_reducible apply AW.condT); exact rfl; (focus (rfl)))))
    (refine AW.retD (l := [(8, _)]) (by repeat (first | exact trivial | (refine And.intro ⟨rfl, by (exact .bool _)⟩ ?_))) ?_; (repeat (first | refine Then.r ?_ | refine InBlk.r ?_)))
    exact ⟨_, rfl, rfl, rfl⟩
  | true =>
    obtain ⟨k1, k2, k3⟩ := okB_iff hok
    obtain ⟨e34, f34⟩ := cT34 hok
    obtain ⟨k4, k5⟩ := okB_len hok
    have hcs := cT_cs k3 k1 k2
    rw [e34] at gl
    rw [e34, f34] at gr
    rw [e34] at c1
    rw [f34] at c2
    have w1 := Stable_ok (u := u) (gl [gb (glC R) 4]) (gr []) k1 k2 k3
    have hfin := stF_Fin (cT u L R) L.length R.length
    obtain ⟨cost, hwg⟩ := hfin.wgh
    have hsz := hfin.size fun i j => by have := (hcs i j).2; omega
    have hbk := hfin.blk
    have hXl : (tab (outF (stF (cT u L R) L.length R.length).mt R.length) L.length).length = L.length := tab_len _ _
    have hXg : ∀ i, i < L.length → (tab (outF (stF (cT u L R) L.length R.length).mt R.length) L.length).getD i 0 = outF (stF (cT u L R) L.length R.length).mt R.length i := fun i hi => tab_get _ hi
    obtain ⟨X, hX⟩ : ∃ X, tab (outF (stF (cT u L R) L.length R.length).mt R.length) L.length = X := ⟨_, rfl⟩
    rw [hX] at w1 hwg hsz hbk hXl
    simp only [hX] at hXg
    obtain ⟨sz, hsz'⟩ : ∃ sz, cN (fun i => decide (0 ≤ X.getD i 0)) L.length = sz := ⟨_, rfl⟩
    have hsl : sz ≤ L.length := by rw [← hsz']; exact cN_le _
    rw [hsz'] at hwg hsz
    have hmst : mst u L R ≤ 2 * sz := hsz
    clear hsz' hfin hX hsz
    refine ACall.drop (Ren.of_g0 rfl) ?_
    refine ACall.start Try.func17 rfl rfl ?_
    (repeat (first | (with_reducible refine AWo.cons ?_) | ((with_reducible refine Step.id ?_); first | ((with_reducible apply Step.assign); exact rfl; exact rfl) | ((with_reducible apply Step.box 0); exact rfl; exact rfl; (focus (kernel_rfl)); exact rfl; (focus (first | (simp only [List.nil_append, List.cons_append, List.set_cons_zero, List.set_cons_succ, iv_set, bv_set, iv_rep, bv_rep]; done) | (simp only [List.nil_append, List.cons_append, List.set_cons_zero, List.set_cons_succ, iv_set, bv_set, iv_rep, bv_rep]; rfl) | rfl)))) | (with_reducible refine AWo.nil ?_) | ((fail_if_success (with_reducible refine AW.atR (id := 1) ?_)); ((with_reducible apply AW.seq))) | ((with_reducible apply Then.n)) | ((with_reducible apply AW.regL))))
    refine AW.seq ?_
    refine AW.join (fun t M1 => ∃ v9 : Value, SB m M1 lv rv mv v9 L R M X u ∧ All (fun i v => t i = some v) [(0, lv), (1, rv), (3, mv), (6, .pointer (some ⟨m.length + 0, 0, none⟩)), (9, v9), (10, .int .i64 0)]) ?_ ?_
    · (repeat' (first | ((with_reducible refine Step.id ?_); first | ((with_reducible apply Step.move); exact rfl; exact rfl) | ((with_reducible apply Step.loadL (n := 8)); exact rfl; (focus (decide +kernel)); (focus (decide +kernel)); exact rfl; (focus (exact RdL.new rfl rfl)); exact rfl; exact rfl) | ((with_reducible apply Step.callG fit (k := 1)); exact rfl; exact rfl; exact Try.func21; exact rfl; exact rfl; exact (c1 _); (focus (first | (simp only [List.nil_append, List.cons_append, List.set_cons_zero, List.set_cons_succ, iv_set, bv_set, iv_rep, bv_rep]; done) | (simp only [List.nil_append, List.cons_append, List.set_cons_zero, List.set_cons_succ, iv_set, bv_set, iv_rep, bv_rep]; rfl) | rfl))) | ((with_reducible apply Step.callG fit (k := 2)); exact rfl; exact rfl; exact Try.func21; exact rfl; exact rfl; exact (c2 _); (focus (first | (simp only [List.nil_append, List.cons_append, List.set_cons_zero, List.set_cons_succ, iv_set, bv_set, iv_rep, bv_rep]; done) | (simp only [List.nil_append, List.cons_append, List.set_cons_zero, List.set_cons_succ, iv_set, bv_set, iv_rep, bv_rep]; rfl) | rfl))) | ((with_reducible apply Step.callR fit); exact rfl; exact Try.func22; exact rfl; exact rfl; exact (c3 _))) | ((with_reducible apply AW.drawT fit (T := (.step 0 (.step 2 (.both (.step 1 (.both (.step 3 (.step 4 (.step 5 (.step 6 (.step 7 (.step 8 (.step 9 (.step 10 (.step 11 .done))))))))) (.step 4 (.step 3 (.step 5 (.step 6 (.step 7 (.step 8 (.step 9 (.step 10 (.step 11 .done))))))))))) (.step 4 (.step 1 (.step 3 (.step 5 (.step 6 (.step 7 (.step 8 (.step 9 (.step 10 (.step 11 .done))))))))))))))); (focus (decide +kernel))) | ((with_reducible apply AWt.step); exact rfl) | refine AWt.both ?_ ?_))
      all_goals ((with_reducible apply Step.callX fit); exact rfl; exact Try.func33; exact rfl; exact rfl; exact w1)
      all_goals rintro v M1 ⟨N, hN⟩ ⟨w, rfl, hw⟩
      all_goals (repeat' (first | ((with_reducible refine Step.id ?_); first | ((with_reducible apply Step.move); exact rfl; exact rfl) | ((with_reducible apply Step.assign); exact rfl; exact rfl) | ((with_reducible apply Step.extract); exact rfl; exact rfl; exact rfl)) | ((with_reducible apply Then.n)) | ((with_reducible apply AWt.step); exact rfl) | ((with_reducible apply AWt.done))))
      all_goals
        rw [List.append_nil]
        refine ⟨w, ⟨⟨_, by rw [hN, List.append_assoc]⟩, ?_, ?_, ?_, hw, by rw [hN]; exact (r0 _).old N⟩, (by repeat (first | exact trivial | (refine And.intro rfl ?_)))⟩
      all_goals
        rw [hN, List.append_assoc]
        first | exact hl.old _ | exact hr.old _ | exact hM.old _
    rintro t M1 ⟨v9, hB, hall⟩
    refine AW.weak (fr_all hall) ?_
    clear hall w1 c1 c2 c3 gl gr r0 hl hr hM
    have w26 := fun T => Good_ok (hB.gl.old T) (hB.gr.old T) h1 h2 hok
    have hu1 := hB.gu
    refine AW.rebase ?_
    (repeat (first | (with_reducible refine AWo.cons ?_) | ((with_reducible refine Step.id ?_); first | ((with_reducible apply Step.move); exact rfl; exact rfl) | ((with_reducible apply Step.loadL (n := 8)); exact rfl; (focus (decide +kernel)); (focus (decide +kernel)); exact rfl; (focus (exact RdL.old _ (by assumption))); exact rfl; exact rfl) | ((with_reducible apply Step.not); exact rfl; exact rfl) | ((with_reducible apply Step.callR fit); exact rfl; exact Try.func26; exact rfl; exact rfl; exact (w26 _))) | (with_reducible refine AWo.nil ?_) | ((fail_if_success (with_reducible refine AW.atR (id := 4) ?_)); ((with_reducible apply AW.seq))) | ((with_reducible apply Then.n)) | ((with_reducible apply AW.regL)) | ((with_reducible apply AW.skip)) | ((with_reducible apply AW.condF); exact rfl; (focus (rfl)))))
    have c1 := fun T => lside_ok (hB.gl.old T) h1
    have c2 := fun T => lside_ok (hB.gr.old T) h2
    rw [e34] at c1
    rw [f34] at c2
    have c3 := fun T => rule_ok (m := M1 ++ T) u
    have w31 := Weigh_ok (s := ((sz : Nat) : Int)) (q := cost) (e := 0) (L := L) (R := R) (u := u) (M := X) (m := M1 ++ [gb (glC L) 4, gb (glC R) 4]) (lv := gv (M1.length + 0) L.length) (rv := gv (M1.length + 1) R.length) (gls_new (k := 0) (by simp) rfl) (gls_new (k := 1) (by simp) rfl) (by omega) (by omega) (hB.gi.old _) (by omega) (by unfold wghR; rw [if_pos hok]; exact hwg)
    refine AW.joinS [(0, lv), (1, rv), (3, mv), (6, .pointer (some ⟨m.length + 0, 0, none⟩)), (9, v9), (10, .int .i64 0), (11, .int .i64 (sz : Nat)), (13, .int .i64 0)] (M1 ++ [gb (glC L) 4, gb (glC R) 4]) ?_ ?_
    · (repeat' (first | ((with_reducible refine Step.id ?_); first | ((with_reducible apply Step.move); exact rfl; exact rfl) | ((with_reducible apply Step.assign); exact rfl; exact rfl) | ((with_reducible apply Step.loadL (n := 8)); exact rfl; (focus (decide +kernel)); (focus (decide +kernel)); exact rfl; (focus (exact RdL.old _ (by assumption))); exact rfl; exact rfl) | ((with_reducible apply Step.extract); exact rfl; exact rfl; exact rfl) | ((with_reducible apply Step.callG fit (k := 0)); exact rfl; exact rfl; exact Try.func21; exact rfl; exact rfl; exact (c1 _); (focus (first | (simp only [List.nil_append, List.cons_append, List.set_cons_zero, List.set_cons_succ, iv_set, bv_set, iv_rep, bv_rep]; done) | (simp only [List.nil_append, List.cons_append, List.set_cons_zero, List.set_cons_succ, iv_set, bv_set, iv_rep, bv_rep]; rfl) | rfl))) | ((with_reducible apply Step.callG fit (k := 1)); exact rfl; exact rfl; exact Try.func21; exact rfl; exact rfl; exact (c2 _); (focus (first | (simp only [List.nil_append, List.cons_append, List.set_cons_zero, List.set_cons_succ, iv_set, bv_set, iv_rep, bv_rep]; done) | (simp only [List.nil_append, List.cons_append, List.set_cons_zero, List.set_cons_succ, iv_set, bv_set, iv_rep, bv_rep]; rfl) | rfl))) | ((with_reducible apply Step.callR fit); exact rfl; exact Try.func22; exact rfl; exact rfl; exact (c3 _)) | ((with_reducible apply Step.callR fit); exact rfl; exact Try.func31; exact rfl; exact rfl; exact (w31))) | ((with_reducible apply Then.n)) | ((with_reducible apply AW.drawT fit (T := (.step 0 (.step 2 (.step 6 (.both (.step 1 (.both (.step 3 (.step 4 (.step 5 (.step 7 (.step 8 (.step 9 (.step 10 (.step 11 (.step 12 (.step 13 (.step 14 .done))))))))))) (.step 4 (.step 3 (.step 5 (.step 7 (.step 8 (.step 9 (.step 10 (.step 11 (.step 12 (.step 13 (.step 14 .done))))))))))))) (.step 4 (.step 1 (.step 3 (.step 5 (.step 7 (.step 8 (.step 9 (.step 10 (.step 11 (.step 12 (.step 13 (.step 14 .done)))))))))))))))))); (focus (decide +kernel))) | ((with_reducible apply AWt.step); exact rfl) | ((with_reducible apply AWt.done)) | refine AWt.both ?_ ?_))
      all_goals exact ⟨rfl, (by repeat (first | exact trivial | (refine And.intro rfl ?_)))⟩
    clear w31 w26 hu1
    have hB2 := hB.old [gb (glC L) 4, gb (glC R) 4]
    generalize M1 ++ [gb (glC L) 4, gb (glC R) 4] = M2 at hB2 ⊢
    clear hB c1 c2 c3
    have hu2 := hB2.gu
    have c1 := fun T => lside_ok (hB2.gl.old T) h1
    have c2 := fun T => lside_ok (hB2.gr.old T) h2
    rw [e34] at c1
    rw [f34] at c2
    have c3 := fun T => rule_ok (m := M2 ++ T) u
    have w39 := Blocking_ok (M := X) (L := L) (R := R) (u := u) (m := M2 ++ [gb (glC L) 4, gb (glC R) 4]) (lv := gv (M2.length + 0) L.length) (rv := gv (M2.length + 1) R.length) (mv := v9) (gls_new (k := 0) (by simp) rfl) (gls_new (k := 1) (by simp) rfl) k1 k2 k3 (hB2.gi.old _) (by omega)
    rw [hbk, hwg] at w39
    simp only at w39
    refine AW.rebase ?_
    refine AW.seq ?_
    refine AW.join (fun t M1 => ∃ v14 : Value, SB m M1 lv rv mv v9 L R M X u ∧ Prs M1 v14 [] ∧ All (fun i v => t i = some v) [(0, lv), (1, rv), (3, mv), (6, .pointer (some ⟨m.length + 0, 0, none⟩)), (9, v9), (10, .int .i64 0), (11, .int .i64 (sz : Nat)), (13, .int .i64 0), (14, v14), (15, .int .i64 0)]) ?_ ?_
    · (repeat' (first | ((with_reducible refine Step.id ?_); first | ((with_reducible apply Step.move); exact rfl; exact rfl) | ((with_reducible apply Step.loadL (n := 8)); exact rfl; (focus (decide +kernel)); (focus (decide +kernel)); exact rfl; (focus (exact RdL.old _ (by assumption))); exact rfl; exact rfl) | ((with_reducible apply Step.callG fit (k := 0)); exact rfl; exact rfl; exact Try.func21; exact rfl; exact rfl; exact (c1 _); (focus (first | (simp only [List.nil_append, List.cons_append, List.set_cons_zero, List.set_cons_succ, iv_set, bv_set, iv_rep, bv_rep]; done) | (simp only [List.nil_append, List.cons_append, List.set_cons_zero, List.set_cons_succ, iv_set, bv_set, iv_rep, bv_rep]; rfl) | rfl))) | ((with_reducible apply Step.callG fit (k := 1)); exact rfl; exact rfl; exact Try.func21; exact rfl; exact rfl; exact (c2 _); (focus (first | (simp only [List.nil_append, List.cons_append, List.set_cons_zero, List.set_cons_succ, iv_set, bv_set, iv_rep, bv_rep]; done) | (simp only [List.nil_append, List.cons_append, List.set_cons_zero, List.set_cons_succ, iv_set, bv_set, iv_rep, bv_rep]; rfl) | rfl))) | ((with_reducible apply Step.callR fit); exact rfl; exact Try.func22; exact rfl; exact rfl; exact (c3 _))) | ((with_reducible apply AW.drawT fit (T := (.step 0 (.step 2 (.step 6 (.both (.step 1 (.both (.step 3 (.step 4 (.step 5 (.step 7 (.step 8 (.step 9 (.step 10 (.step 11 (.step 12 .done))))))))) (.step 4 (.step 3 (.step 5 (.step 7 (.step 8 (.step 9 (.step 10 (.step 11 (.step 12 .done))))))))))) (.step 4 (.step 1 (.step 3 (.step 5 (.step 7 (.step 8 (.step 9 (.step 10 (.step 11 (.step 12 .done)))))))))))))))); (focus (decide +kernel))) | ((with_reducible apply AWt.step); exact rfl) | refine AWt.both ?_ ?_))
      all_goals ((with_reducible apply Step.callX fit); exact rfl; exact Try.func39; exact rfl; exact rfl; exact w39)
      all_goals rintro v M3 ⟨N, hN⟩ ⟨w, rfl, hw⟩
      all_goals (repeat' (first | ((with_reducible refine Step.id ?_); first | ((with_reducible apply Step.move); exact rfl; exact rfl) | ((with_reducible apply Step.assign); exact rfl; exact rfl) | ((with_reducible apply Step.extract); exact rfl; exact rfl; exact rfl)) | ((with_reducible apply Then.n)) | ((with_reducible apply AWt.step); exact rfl) | ((with_reducible apply AWt.done))))
      all_goals
        rw [List.append_nil]
        exact ⟨w, by rw [hN]; exact (hB2.old _).old N, hw, (by repeat (first | exact trivial | (refine And.intro rfl ?_)))⟩
    rintro t M3 ⟨v14, hB3, hP3, hall⟩
    refine AW.weak (fr_all hall) ?_
    clear hall w39 c1 c2 c3 hu2 hB2
    have hu3 := hB3.gu
    have c1 := fun T => lside_ok (hB3.gl.old T) h1
    have c2 := fun T => lside_ok (hB3.gr.old T) h2
    rw [e34] at c1
    rw [f34] at c2
    have c3 := fun T => rule_ok (m := M3 ++ T) u
    have w32 := Most_ok (L := L) (R := R) (u := u) (m := M3 ++ [gb (glC L) 4, gb (glC R) 4]) (lv := gv (M3.length + 0) L.length) (rv := gv (M3.length + 1) R.length) (gls_new (k := 0) (by simp) rfl) (gls_new (k := 1) (by simp) rfl) k1 k2 k3
    refine AW.rebase ?_
    refine AW.joinS [(0, lv), (1, rv), (3, mv), (6, .pointer (some ⟨m.length + 0, 0, none⟩)), (9, v9), (10, .int .i64 0), (11, .int .i64 (sz : Nat)), (13, .int .i64 0), (14, v14), (15, .int .i64 0), (16, .int .i64 (mst u L R : Nat)), (17, .int .i64 0)] (M3 ++ [gb (glC L) 4, gb (glC R) 4]) ?_ ?_
    · (repeat' (first | ((with_reducible refine Step.id ?_); first | ((with_reducible apply Step.move); exact rfl; exact rfl) | ((with_reducible apply Step.assign); exact rfl; exact rfl) | ((with_reducible apply Step.loadL (n := 8)); exact rfl; (focus (decide +kernel)); (focus (decide +kernel)); exact rfl; (focus (exact RdL.old _ (by assumption))); exact rfl; exact rfl) | ((with_reducible apply Step.extract); exact rfl; exact rfl; exact rfl) | ((with_reducible apply Step.callG fit (k := 0)); exact rfl; exact rfl; exact Try.func21; exact rfl; exact rfl; exact (c1 _); (focus (first | (simp only [List.nil_append, List.cons_append, List.set_cons_zero, List.set_cons_succ, iv_set, bv_set, iv_rep, bv_rep]; done) | (simp only [List.nil_append, List.cons_append, List.set_cons_zero, List.set_cons_succ, iv_set, bv_set, iv_rep, bv_rep]; rfl) | rfl))) | ((with_reducible apply Step.callG fit (k := 1)); exact rfl; exact rfl; exact Try.func21; exact rfl; exact rfl; exact (c2 _); (focus (first | (simp only [List.nil_append, List.cons_append, List.set_cons_zero, List.set_cons_succ, iv_set, bv_set, iv_rep, bv_rep]; done) | (simp only [List.nil_append, List.cons_append, List.set_cons_zero, List.set_cons_succ, iv_set, bv_set, iv_rep, bv_rep]; rfl) | rfl))) | ((with_reducible apply Step.callR fit); exact rfl; exact Try.func22; exact rfl; exact rfl; exact (c3 _)) | ((with_reducible apply Step.callR fit); exact rfl; exact Try.func32; exact rfl; exact rfl; exact (w32))) | ((with_reducible apply Then.n)) | ((with_reducible apply AW.drawT fit (T := (.step 0 (.step 2 (.both (.step 1 (.both (.step 3 (.step 4 (.step 5 (.step 6 (.step 7 (.step 8 (.step 9 (.step 10 (.step 11 .done))))))))) (.step 4 (.step 3 (.step 5 (.step 6 (.step 7 (.step 8 (.step 9 (.step 10 (.step 11 .done))))))))))) (.step 4 (.step 1 (.step 3 (.step 5 (.step 6 (.step 7 (.step 8 (.step 9 (.step 10 (.step 11 .done))))))))))))))); (focus (decide +kernel))) | ((with_reducible apply AWt.step); exact rfl) | ((with_reducible apply AWt.done)) | refine AWt.both ?_ ?_))
      all_goals exact ⟨rfl, (by repeat (first | exact trivial | (refine And.intro rfl ?_)))⟩
    clear w32 hu3
    have hB4 := hB3.old [gb (glC L) 4, gb (glC R) 4]
    generalize M3 ++ [gb (glC L) 4, gb (glC R) 4] = M4 at hB4 ⊢
    obtain ⟨pa, po, p1, _, _⟩ := hP3
    simp only [List.length_nil] at p1
    clear hB3 c1 c2 c3
    (repeat (first | (with_reducible refine AWo.cons ?_) | ((with_reducible refine Step.id ?_); first | ((with_reducible apply Step.gdT); exact rfl; exact rfl; (focus (rfl))) | ((with_reducible apply Step.move); exact rfl; exact rfl) | ((with_reducible apply Step.mul); exact rfl; exact rfl; (focus (omega)); exact rfl) | ((with_reducible apply Step.lss); exact rfl; exact rfl; exact rfl) | ((with_reducible apply Step.gtr); exact rfl; exact rfl; exact rfl) | ((with_reducible apply Step.neq); exact rfl; exact rfl; exact rfl) | ((with_reducible apply Step.len); exact rfl; (focus (assumption)); (focus (decide +kernel)); exact rfl) | ((with_reducible apply Step.pickF); exact rfl; exact rfl; exact rfl; exact rfl; (focus (rfl)))) | (with_reducible refine AWo.nil ?_) | ((fail_if_success (with_reducible refine AW.atR (id := 9) ?_)); ((with_reducible apply AW.seq))) | ((with_reducible apply Then.n)) | ((with_reducible apply AW.regL)) | ((with_reducible apply AW.skip)) | ((with_reducible apply AW.condF); exact rfl; (focus ((simp only [decide_eq_true_eq, decide_eq_false_iff_not, Bool.not_eq_true', Bool.not_eq_false', Bool.not_true, Bool.not_false]; first | assumption | omega))))))
    have hu4 := hB4.gu
    have c1 := fun T => lside_ok (hB4.gl.old T) h1
    have c2 := fun T => lside_ok (hB4.gr.old T) h2
    rw [e34] at c1
    rw [f34] at c2
    have c3 := fun T => rule_ok (m := M4 ++ T) u
    have w39 := Blocking_ok (M := M) (L := L) (R := R) (u := u) (m := M4 ++ [gb (glC L) 4, gb (glC R) 4]) (lv := gv (M4.length + 0) L.length) (rv := gv (M4.length + 1) R.length) (mv := mv) (gls_new (k := 0) (by simp) rfl) (gls_new (k := 1) (by simp) rfl) k1 k2 k3 (hB4.gm.old _) hMl
    have hstb := stbM_of (c := cT u L R) (l := L.length) (r := R.length) (M := M)
    generalize (wgh (cT u L R) L.length R.length M).2.2 = e at w39 hstb
    generalize blk (cT u L R) L.length R.length M = Y at w39 hstb
    refine AW.rebase ?_
    refine AW.seq ?_
    refine AW.join (fun t M1 => ∃ v14 : Value, SB m M1 lv rv mv v9 L R M X u ∧ Prs M1 v14 Y ∧ All (fun i v => t i = some v) [(0, lv), (1, rv), (3, mv), (6, .pointer (some ⟨m.length + 0, 0, none⟩)), (9, v9), (14, v14), (15, .int .i64 e)]) ?_ ?_
    · (repeat' (first | ((with_reducible refine Step.id ?_); first | ((with_reducible apply Step.move); exact rfl; exact rfl) | ((with_reducible apply Step.loadL (n := 8)); exact rfl; (focus (decide +kernel)); (focus (decide +kernel)); exact rfl; (focus (exact RdL.old _ (by assumption))); exact rfl; exact rfl) | ((with_reducible apply Step.callG fit (k := 0)); exact rfl; exact rfl; exact Try.func21; exact rfl; exact rfl; exact (c1 _); (focus (first | (simp only [List.nil_append, List.cons_append, List.set_cons_zero, List.set_cons_succ, iv_set, bv_set, iv_rep, bv_rep]; done) | (simp only [List.nil_append, List.cons_append, List.set_cons_zero, List.set_cons_succ, iv_set, bv_set, iv_rep, bv_rep]; rfl) | rfl))) | ((with_reducible apply Step.callG fit (k := 1)); exact rfl; exact rfl; exact Try.func21; exact rfl; exact rfl; exact (c2 _); (focus (first | (simp only [List.nil_append, List.cons_append, List.set_cons_zero, List.set_cons_succ, iv_set, bv_set, iv_rep, bv_rep]; done) | (simp only [List.nil_append, List.cons_append, List.set_cons_zero, List.set_cons_succ, iv_set, bv_set, iv_rep, bv_rep]; rfl) | rfl))) | ((with_reducible apply Step.callR fit); exact rfl; exact Try.func22; exact rfl; exact rfl; exact (c3 _))) | ((with_reducible apply AW.drawT fit (T := (.step 0 (.step 2 (.step 6 (.both (.step 1 (.both (.step 3 (.step 4 (.step 5 (.step 7 (.step 8 (.step 9 (.step 10 (.step 11 (.step 12 .done))))))))) (.step 4 (.step 3 (.step 5 (.step 7 (.step 8 (.step 9 (.step 10 (.step 11 (.step 12 .done))))))))))) (.step 4 (.step 1 (.step 3 (.step 5 (.step 7 (.step 8 (.step 9 (.step 10 (.step 11 (.step 12 .done)))))))))))))))); (focus (decide +kernel))) | ((with_reducible apply AWt.step); exact rfl) | refine AWt.both ?_ ?_))
      all_goals ((with_reducible apply Step.callX fit); exact rfl; exact Try.func39; exact rfl; exact rfl; exact w39)
      all_goals rintro v M5 ⟨N, hN⟩ ⟨w, rfl, hw⟩
      all_goals (repeat' (first | ((with_reducible refine Step.id ?_); first | ((with_reducible apply Step.move); exact rfl; exact rfl) | ((with_reducible apply Step.assign); exact rfl; exact rfl) | ((with_reducible apply Step.extract); exact rfl; exact rfl; exact rfl)) | ((with_reducible apply Then.n)) | ((with_reducible apply AWt.step); exact rfl) | ((with_reducible apply AWt.done))))
      all_goals
        rw [List.append_nil]
        exact ⟨w, by rw [hN]; exact (hB4.old _).old N, hw, (by repeat (first | exact trivial | (refine And.intro rfl ?_)))⟩
    rintro t M5 ⟨v14', hB5, hP5, hall⟩
    refine AW.weak (fr_all hall) ?_
    clear hall w39 c1 c2 c3 hu4 hB4 p1
    obtain ⟨pa, po, p1, _, _⟩ := hP5
    obtain ⟨N5, hN5⟩ := id hB5.low
    by_cases he : e = 0
    · cases Y with
      | cons y Y =>
        simp only [List.length_cons] at p1
        (repeat (first | (with_reducible refine AWo.cons ?_) | ((with_reducible refine Step.id ?_); first | ((with_reducible apply Step.gdT); exact rfl; exact rfl; (focus ((simp only [decide_eq_true_eq, decide_eq_false_iff_not, Bool.not_eq_true', Bool.not_eq_false', Bool.not_true, Bool.not_false]; first | assumption | omega)))) | ((with_reducible apply Step.move); exact rfl; exact rfl) | ((with_reducible apply Step.assign); exact rfl; exact rfl) | ((with_reducible apply Step.gtr); exact rfl; exact rfl; exact rfl) | ((with_reducible apply Step.neq); exact rfl; exact rfl; exact rfl) | ((with_reducible apply Step.len); exact rfl; (focus (assumption)); (focus (decide +kernel)); exact rfl) | ((with_reducible apply Step.pickF); exact rfl; exact rfl; exact rfl; exact rfl; (focus ((simp only [decide_eq_true_eq, decide_eq_false_iff_not, Bool.not_eq_true', Bool.not_eq_false', Bool.not_true, Bool.not_false]; first | assumption | omega)))) | ((with_reducible apply Step.callR fit); exact rfl; exact Try.func25; exact rfl; exact rfl; exact (awake_ok))) | (with_reducible refine AWo.nil ?_) | ((with_reducible apply AW.seq)) | ((with_reducible apply Then.n)) | ((with_reducible apply AW.regL)) | ((with_reducible apply AW.condT); exact rfl; (focus ((simp only [decide_eq_true_eq, decide_eq_false_iff_not, Bool.not_eq_true', Bool.not_eq_false', Bool.not_true, Bool.not_false]; first | assumption | omega))))))
        (refine AW.ret ?_; (repeat (first | refine Then.r ?_ | refine InBlk.r ?_)))
        exact ⟨_, by simp; rfl, rfl, N5, hN5⟩
      | nil =>
        simp only [List.length_nil] at p1
        have hS := hstb he rfl
        have hMlen := hS.len
        obtain ⟨ma, mo, g1, g2, g3⟩ := id hB5.gm
        obtain ⟨xa, xo, x1, x2, x3⟩ := id hB5.gi
        obtain ⟨la, lo, l1, l2, l3⟩ := id hB5.gl
        obtain ⟨ra, ro, r1, r2, r3⟩ := id hB5.gr
        have hu5 := hB5.gu
        have h3 : gB u.w = true ∧ gB u.l = true := by simpa [uB] using k3
        have hgl : L.all gB = true := by simp [sB] at k1; simpa using k1.2
        have hgr : R.all gB = true := by simp [sB] at k2; simpa using k2.2
        have hcst : ∀ i j, i < L.length → j < R.length → ACall Try.prog 51 #[(L.getD i default).v, (R.getD j default).v, u.v] M5 (Ret (.int .i64 (cT u L R i j)) M5) := fun i j hi hj => by
          have ecT : cT u L R i j = costF u (L.getD i default) (R.getD j default) := if_pos ⟨hi, hj⟩
          rw [ecT]
          exact price_ok u _ _ h3.1 h3.2 (all_getD hgl hi) (all_getD hgr hj) rfl
        rw [hMlen] at g1 g3
        rw [hXl] at x1 x3
        (repeat (first | (with_reducible refine AWo.cons ?_) | ((with_reducible refine Step.id ?_); first | ((with_reducible apply Step.gdT); exact rfl; exact rfl; (focus ((simp only [decide_eq_true_eq, decide_eq_false_iff_not, Bool.not_eq_true', Bool.not_eq_false', Bool.not_true, Bool.not_false]; first | assumption | omega)))) | ((with_reducible apply Step.move); exact rfl; exact rfl) | ((with_reducible apply Step.gtr); exact rfl; exact rfl; exact rfl) | ((with_reducible apply Step.neq); exact rfl; exact rfl; exact rfl) | ((with_reducible apply Step.len); exact rfl; (focus (assumption)); (focus (decide +kernel)); exact rfl) | ((with_reducible apply Step.pickF); exact rfl; exact rfl; exact rfl; exact rfl; (focus ((simp only [decide_eq_true_eq, decide_eq_false_iff_not, Bool.not_eq_true', Bool.not_eq_false', Bool.not_true, Bool.not_false]; first | assumption | omega))))) | (with_reducible refine AWo.nil ?_) | ((with_reducible apply AW.seq)) | ((with_reducible apply Then.n)) | ((with_reducible apply AW.regL)) | ((with_reducible apply AW.block)) | ((with_reducible apply AW.skip)) | ((with_reducible apply AW.condF); exact rfl; (focus (rfl)))))
        refine AW.loopW (fun n t M' => ∃ i : Nat, n = L.length - i ∧ i ≤ L.length ∧ M' = M5 ∧ t = fr [(0, lv), (1, rv), (3, mv), (6, .pointer (some ⟨m.length + 0, 0, none⟩)), (9, v9), (124, mv), (125, .int .i64 (L.length : Nat)), (126, .int .i64 (i : Nat))])
          ⟨_, _, (by repeat (first | exact trivial | (refine And.intro rfl ?_))), 0, rfl, Nat.zero_le _, rfl, rfl⟩ ?_
        rintro n t M' ⟨i, rfl, hi, rfl, rfl⟩
        rcases Nat.lt_or_ge i L.length with hil | hig
        · have q1 := g3 i hil
          rcases hS.v1 i hil with hx | ⟨j, hx, hj, _⟩
          · rw [hx] at q1
            (repeat (first | (with_reducible refine AWo.cons ?_) | ((with_reducible refine Step.id ?_); first | ((with_reducible apply Step.gdT); exact rfl; exact rfl; (focus ((simp only [decide_eq_true_eq, decide_eq_false_iff_not, Bool.not_eq_true', Bool.not_eq_false', Bool.not_true, Bool.not_false]; first | assumption | omega)))) | ((with_reducible apply Step.move); exact rfl; exact rfl) | ((with_reducible apply Step.assign); exact rfl; exact rfl) | ((with_reducible apply Step.load); exact rfl; (focus (decide +kernel)); exact rfl; (focus (assumption))) | ((with_reducible apply Step.ix1); exact rfl; (focus (assumption)); exact rfl; (focus (decide +kernel)); exact rfl; (focus (omega))) | ((with_reducible apply Step.add); exact rfl; exact rfl; (focus (omega)); exact rfl) | ((with_reducible apply Step.lss); exact rfl; exact rfl; exact rfl) | ((with_reducible apply Step.geq); exact rfl; exact rfl; exact rfl) | ((with_reducible apply Step.len); exact rfl; (focus (assumption)); (focus (decide +kernel)); exact rfl) | ((with_reducible apply Step.pickF); exact rfl; exact rfl; exact rfl; exact rfl; (focus ((simp only [decide_eq_true_eq, decide_eq_false_iff_not, Bool.not_eq_true', Bool.not_eq_false', Bool.not_true, Bool.not_false]; first | assumption | omega))))) | (with_reducible refine AWo.nil ?_) | ((with_reducible apply AW.seq)) | ((with_reducible apply Then.n)) | ((with_reducible apply AW.regL)) | ((with_reducible apply AW.block)) | ((with_reducible apply AW.exit)) | ((with_reducible apply InBlk.hit)) | ((with_reducible apply Then.e)) | ((with_reducible apply AW.skip)) | ((with_reducible apply AW.condT); exact rfl; (focus (first | rfl | (simp only [decide_eq_true_eq, decide_eq_false_iff_not, Bool.not_eq_true', Bool.not_eq_false', Bool.not_true, Bool.not_false]; first | assumption | omega))))))
            exact ⟨_, [(0, lv), (1, rv), (3, mv), (6, .pointer (some ⟨m.length + 0, 0, none⟩)), (9, v9), (124, mv), (125, .int .i64 (L.length : Nat)), (126, .int .i64 (i + 1 : Nat))], by omega, (by repeat (first | exact trivial | (refine And.intro rfl ?_))), i + 1, rfl, by omega, rfl, rfl⟩
          · rw [hx] at q1
            obtain ⟨k, z1, z2, z3⟩ := best_stF hS hil hx
            have q2 := x3 i hil
            rw [hXg i hil, z1] at q2
            have y1 := l3 i hil
            have y2 := r3 j hj
            have y3 := r3 k z2
            have f1 := hcst i j hil hj
            have f2 := hcst i k hil z2
            simp only [kl] at z3
            generalize cT u L R i j = a at f1 z3
            generalize cT u L R i k = b at f2 z3
            (repeat (first | (with_reducible refine AWo.cons ?_) | ((with_reducible refine Step.id ?_); first | ((with_reducible apply Step.gdT); exact rfl; exact rfl; (focus ((simp only [decide_eq_true_eq, decide_eq_false_iff_not, Bool.not_eq_true', Bool.not_eq_false', Bool.not_true, Bool.not_false]; first | assumption | omega)))) | ((with_reducible apply Step.move); exact rfl; exact rfl) | ((with_reducible apply Step.assign); exact rfl; exact rfl) | ((with_reducible apply Step.load); exact rfl; (focus (decide +kernel)); exact rfl; (focus (assumption))) | ((with_reducible apply Step.ix1); exact rfl; (focus (assumption)); exact rfl; (focus (decide +kernel)); exact rfl; (focus (omega))) | ((with_reducible apply Step.lss); exact rfl; exact rfl; exact rfl) | ((with_reducible apply Step.geq); exact rfl; exact rfl; exact rfl) | ((with_reducible apply Step.len); exact rfl; (focus (assumption)); (focus (decide +kernel)); exact rfl) | ((with_reducible apply Step.pickF); exact rfl; exact rfl; exact rfl; exact rfl; (focus ((simp only [decide_eq_true_eq, decide_eq_false_iff_not, Bool.not_eq_true', Bool.not_eq_false', Bool.not_true, Bool.not_false]; first | assumption | omega))))) | (with_reducible refine AWo.nil ?_) | ((fail_if_success (with_reducible refine AW.atR (id := 18) ?_)); ((with_reducible apply AW.seq))) | ((with_reducible apply Then.n)) | ((with_reducible apply AW.regL)) | ((with_reducible apply AW.block)) | ((with_reducible apply AW.skip)) | ((with_reducible apply AW.condT); exact rfl; (focus ((simp only [decide_eq_true_eq, decide_eq_false_iff_not, Bool.not_eq_true', Bool.not_eq_false', Bool.not_true, Bool.not_false]; first | assumption | omega)))) | ((with_reducible apply AW.condF); exact rfl; (focus (rfl)))))
            refine AW.seq ?_
            refine AW.join (fun t M1 => M1 = M' ∧ All (fun i v => t i = some v) [(0, lv), (1, rv), (3, mv), (6, .pointer (some ⟨m.length + 0, 0, none⟩)), (9, v9), (18, .int .i64 (i : Nat)), (19, .int .i64 (j : Nat)), (20, .int .i64 a), (21, .int .i64 b), (124, mv), (125, .int .i64 (L.length : Nat)), (126, .int .i64 (i : Nat))]) ?_ ?_
            · (repeat' (first | ((with_reducible refine Step.id ?_); first | ((with_reducible apply Step.move); exact rfl; exact rfl) | ((with_reducible apply Step.assign); exact rfl; exact rfl) | ((with_reducible apply Step.load); exact rfl; (focus (decide +kernel)); exact rfl; (focus (assumption))) | ((with_reducible apply Step.loadL (n := 4)); exact rfl; (focus (decide +kernel)); (focus (decide +kernel)); exact rfl; (focus (assumption)); exact rfl; exact rfl) | ((with_reducible apply Step.loadL (n := 8)); exact rfl; (focus (decide +kernel)); (focus (decide +kernel)); exact rfl; (focus (assumption)); exact rfl; exact rfl) | ((with_reducible apply Step.ix1); exact rfl; (focus (assumption)); exact rfl; (focus (decide +kernel)); exact rfl; (focus (omega))) | ((with_reducible apply Step.ix (s := 4)); exact rfl; (focus (assumption)); exact rfl; (focus (decide +kernel)); exact rfl; (focus (omega))) | ((with_reducible apply Step.callR fit); exact rfl; exact Try.func51; exact rfl; exact rfl; exact (f1)) | ((with_reducible apply Step.callR fit); exact rfl; exact Try.func51; exact rfl; exact rfl; exact (f2))) | ((with_reducible apply Then.n)) | ((with_reducible apply AW.drawT fit (T := (.step 0 (.step 1 (.step 2 (.step 3 (.step 4 (.step 5 (.step 6 (.step 7 (.step 8 (.step 10 (.step 11 (.step 12 (.step 14 (.step 15 (.step 16 (.step 17 (.both (.step 9 (.step 13 (.step 18 (.step 19 (.step 20 (.step 21 (.step 22 (.step 23 (.step 24 .done))))))))) (.both (.step 13 (.both (.step 9 (.step 18 (.step 19 (.step 20 (.step 21 (.step 22 (.step 23 (.step 24 .done)))))))) (.both (.step 18 (.step 19 (.both (.step 9 (.step 20 (.step 21 (.step 22 (.step 23 (.step 24 .done)))))) (.both (.step 20 (.both (.step 9 (.step 21 (.step 22 (.step 23 (.step 24 .done))))) (.step 21 (.step 9 (.step 22 (.step 23 (.step 24 .done))))))) (.step 21 (.both (.step 9 (.step 20 (.step 22 (.step 23 (.step 24 .done))))) (.step 20 (.step 9 (.step 22 (.step 23 (.step 24 .done))))))))))) (.step 21 (.both (.step 9 (.step 18 (.step 19 (.step 20 (.step 22 (.step 23 (.step 24 .done))))))) (.step 18 (.step 19 (.both (.step 9 (.step 20 (.step 22 (.step 23 (.step 24 .done))))) (.step 20 (.step 9 (.step 22 (.step 23 (.step 24 .done))))))))))))) (.both (.step 18 (.step 19 (.both (.step 9 (.step 13 (.step 20 (.step 21 (.step 22 (.step 23 (.step 24 .done))))))) (.both (.step 13 (.both (.step 9 (.step 20 (.step 21 (.step 22 (.step 23 (.step 24 .done)))))) (.both (.step 20 (.both (.step 9 (.step 21 (.step 22 (.step 23 (.step 24 .done))))) (.step 21 (.step 9 (.step 22 (.step 23 (.step 24 .done))))))) (.step 21 (.both (.step 9 (.step 20 (.step 22 (.step 23 (.step 24 .done))))) (.step 20 (.step 9 (.step 22 (.step 23 (.step 24 .done)))))))))) (.both (.step 20 (.both (.step 9 (.step 13 (.step 21 (.step 22 (.step 23 (.step 24 .done)))))) (.both (.step 13 (.both (.step 9 (.step 21 (.step 22 (.step 23 (.step 24 .done))))) (.step 21 (.step 9 (.step 22 (.step 23 (.step 24 .done))))))) (.step 21 (.both (.step 9 (.step 13 (.step 22 (.step 23 (.step 24 .done))))) (.step 13 (.step 9 (.step 22 (.step 23 (.step 24 .done)))))))))) (.step 21 (.both (.step 9 (.step 13 (.step 20 (.step 22 (.step 23 (.step 24 .done)))))) (.both (.step 13 (.both (.step 9 (.step 20 (.step 22 (.step 23 (.step 24 .done))))) (.step 20 (.step 9 (.step 22 (.step 23 (.step 24 .done))))))) (.step 20 (.both (.step 9 (.step 13 (.step 22 (.step 23 (.step 24 .done))))) (.step 13 (.step 9 (.step 22 (.step 23 (.step 24 .done))))))))))))))) (.step 21 (.both (.step 9 (.step 13 (.step 18 (.step 19 (.step 20 (.step 22 (.step 23 (.step 24 .done)))))))) (.both (.step 13 (.both (.step 9 (.step 18 (.step 19 (.step 20 (.step 22 (.step 23 (.step 24 .done))))))) (.step 18 (.step 19 (.both (.step 9 (.step 20 (.step 22 (.step 23 (.step 24 .done))))) (.step 20 (.step 9 (.step 22 (.step 23 (.step 24 .done)))))))))) (.step 18 (.step 19 (.both (.step 9 (.step 13 (.step 20 (.step 22 (.step 23 (.step 24 .done)))))) (.both (.step 13 (.both (.step 9 (.step 20 (.step 22 (.step 23 (.step 24 .done))))) (.step 20 (.step 9 (.step 22 (.step 23 (.step 24 .done))))))) (.step 20 (.both (.step 9 (.step 13 (.step 22 (.step 23 (.step 24 .done))))) (.step 13 (.step 9 (.step 22 (.step 23 (.step 24 .done))))))))))))))))))))))))))))))))))); (focus (decide +kernel))) | ((with_reducible apply AWt.step); exact rfl) | ((with_reducible apply AWt.done)) | refine AWt.both ?_ ?_))
              all_goals exact ⟨rfl, (by repeat (first | exact trivial | (refine And.intro rfl ?_)))⟩
            rintro t _ ⟨rfl, hall⟩
            refine AW.weak (fr_all hall) ?_
            clear hall
            by_cases hab : a = b
            · (repeat (first | (with_reducible refine AWo.cons ?_) | ((with_reducible refine Step.id ?_); first | ((with_reducible apply Step.gdT); exact rfl; exact rfl; (focus ((simp only [decide_eq_true_eq, decide_eq_false_iff_not, Bool.not_eq_true', Bool.not_eq_false', Bool.not_true, Bool.not_false]; first | assumption | omega)))) | ((with_reducible apply Step.move); exact rfl; exact rfl) | ((with_reducible apply Step.load); exact rfl; (focus (decide +kernel)); exact rfl; (focus (assumption))) | ((with_reducible apply Step.ix1); exact rfl; (focus (assumption)); exact rfl; (focus (decide +kernel)); exact rfl; (focus (omega))) | ((with_reducible apply Step.add); exact rfl; exact rfl; (focus (omega)); exact rfl) | ((with_reducible apply Step.lss); exact rfl; exact rfl; exact rfl) | ((with_reducible apply Step.eql); exact rfl; exact rfl; exact rfl) | ((with_reducible apply Step.pickT); exact rfl; exact rfl; exact rfl; exact rfl; (focus ((simp only [decide_eq_true_eq, decide_eq_false_iff_not, Bool.not_eq_true', Bool.not_eq_false', Bool.not_true, Bool.not_false]; first | assumption | omega)))) | ((with_reducible apply Step.pickF); exact rfl; exact rfl; exact rfl; exact rfl; (focus ((simp only [decide_eq_true_eq, decide_eq_false_iff_not, Bool.not_eq_true', Bool.not_eq_false', Bool.not_true, Bool.not_false]; first | assumption | omega))))) | (with_reducible refine AWo.nil ?_) | ((with_reducible apply AW.seq)) | ((with_reducible apply Then.n)) | ((with_reducible apply AW.regL)) | ((with_reducible apply InBlk.n)) | ((with_reducible apply AW.skip)) | ((with_reducible apply AW.condF); exact rfl; (focus ((simp only [decide_eq_true_eq, decide_eq_false_iff_not, Bool.not_eq_true', Bool.not_eq_false', Bool.not_true, Bool.not_false]; first | assumption | omega))))))
              exact ⟨_, [(0, lv), (1, rv), (3, mv), (6, .pointer (some ⟨m.length + 0, 0, none⟩)), (9, v9), (124, mv), (125, .int .i64 (L.length : Nat)), (126, .int .i64 (i + 1 : Nat))], by omega, (by repeat (first | exact trivial | (refine And.intro rfl ?_))), i + 1, rfl, by omega, rfl, rfl⟩
            · (repeat (first | (with_reducible refine AWo.cons ?_) | ((with_reducible refine Step.id ?_); first | ((with_reducible apply Step.gdT); exact rfl; exact rfl; (focus ((simp only [decide_eq_true_eq, decide_eq_false_iff_not, Bool.not_eq_true', Bool.not_eq_false', Bool.not_true, Bool.not_false]; first | assumption | omega)))) | ((with_reducible apply Step.gdF); exact rfl; exact rfl; (focus ((simp only [decide_eq_true_eq, decide_eq_false_iff_not, Bool.not_eq_true', Bool.not_eq_false', Bool.not_true, Bool.not_false]; first | assumption | omega)))) | ((with_reducible apply Step.move); exact rfl; exact rfl) | ((with_reducible apply Step.add); exact rfl; exact rfl; (focus (omega)); exact rfl) | ((with_reducible apply Step.lss); exact rfl; exact rfl; exact rfl) | ((with_reducible apply Step.eql); exact rfl; exact rfl; exact rfl) | ((with_reducible apply Step.pickF); exact rfl; exact rfl; exact rfl; exact rfl; (focus ((simp only [decide_eq_true_eq, decide_eq_false_iff_not, Bool.not_eq_true', Bool.not_eq_false', Bool.not_true, Bool.not_false]; first | assumption | omega))))) | (with_reducible refine AWo.nil ?_) | ((with_reducible apply AW.seq)) | ((with_reducible apply Then.n)) | ((with_reducible apply AW.regL)) | ((with_reducible apply InBlk.n)) | ((with_reducible apply AW.skip)) | ((with_reducible apply AW.condF); exact rfl; (focus (rfl)))))
              exact ⟨_, [(0, lv), (1, rv), (3, mv), (6, .pointer (some ⟨m.length + 0, 0, none⟩)), (9, v9), (124, mv), (125, .int .i64 (L.length : Nat)), (126, .int .i64 (i + 1 : Nat))], by omega, (by repeat (first | exact trivial | (refine And.intro rfl ?_))), i + 1, rfl, by omega, rfl, rfl⟩
        · obtain rfl : i = L.length := by omega
          (repeat (first | (with_reducible refine AWo.cons ?_) | ((with_reducible refine Step.id ?_); first | ((with_reducible apply Step.assign); exact rfl; exact rfl) | ((with_reducible apply Step.lss); exact rfl; exact rfl; exact rfl) | ((with_reducible apply Step.callR fit); exact rfl; exact Try.func25; exact rfl; exact rfl; exact (awake_ok))) | (with_reducible refine AWo.nil ?_) | ((with_reducible apply AW.seq)) | ((with_reducible apply Then.n)) | ((with_reducible apply AW.regL)) | ((with_reducible apply AW.exit)) | ((with_reducible apply InBlk.hit)) | ((with_reducible apply Then.e)) | ((with_reducible apply AW.condF); exact rfl; (focus ((simp only [decide_eq_true_eq, decide_eq_false_iff_not, Bool.not_eq_true', Bool.not_eq_false', Bool.not_true, Bool.not_false]; first | assumption | omega))))))
          (refine AW.ret ?_; (repeat (first | refine Then.r ?_ | refine InBlk.r ?_)))
          exact ⟨_, by simp; rfl, rfl, N5, hN5⟩
    · (repeat (first | (with_reducible refine AWo.cons ?_) | ((with_reducible refine Step.id ?_); first | ((with_reducible apply Step.gdF); exact rfl; exact rfl; (focus ((simp only [decide_eq_true_eq, decide_eq_false_iff_not, Bool.not_eq_true', Bool.not_eq_false', Bool.not_true, Bool.not_false]; first | assumption | omega)))) | ((with_reducible apply Step.move); exact rfl; exact rfl) | ((with_reducible apply Step.assign); exact rfl; exact rfl) | ((with_reducible apply Step.neq); exact rfl; exact rfl; exact rfl) | ((with_reducible apply Step.pickT); exact rfl; exact rfl; exact rfl; exact rfl; (focus ((simp only [decide_eq_true_eq, decide_eq_false_iff_not, Bool.not_eq_true', Bool.not_eq_false', Bool.not_true, Bool.not_false]; first | assumption | omega)))) | ((with_reducible apply Step.callR fit); exact rfl; exact Try.func25; exact rfl; exact rfl; exact (awake_ok))) | (with_reducible refine AWo.nil ?_) | ((with_reducible apply AW.seq)) | ((with_reducible apply Then.n)) | ((with_reducible apply AW.regL)) | ((with_reducible apply AW.condT); exact rfl; (focus (rfl)))))
      (refine AW.ret ?_; (repeat (first | refine Then.r ?_ | refine InBlk.r ?_)))
      exact ⟨_, by simp; rfl, rfl, N5, hN5⟩
end Go.Proofs.Ytajpngnphbdnnaa.Abs
namespace Go.Proofs.Ytajpngnphbdnnaa.Abs
set_option linter.unusedSimpArgs false
set_option linter.unusedVariables false
open Go.RowKit
open Go.Proofs.Ytajpngnphbdnnaa.Sim
open Go.Proofs
theorem gls_args {F : Nat → List Int} (hF : ∀ k, (F k).length = 4) (n : Nat) : ∃ l : List Gl, l.length = n ∧ ∀ {M : AM} {v : Value} {i : Nat}, (Sl v i 0 n ∧ i < M.length ∧ ∀ k, k < n → RdL M i (0 + k * 4) (iv (F k))) → Gls M v l := by
  obtain ⟨g, hg⟩ := Classical.axiomOfChoice fun k => gl_of (hF k)
  refine ⟨(List.range n).map g, by simp, fun {M v i} h => ⟨i, 0, by simpa using h.1, h.2.1, fun k hk => ?_⟩⟩
  have hk' : k < n := by simpa using hk
  have := h.2.2 k hk'
  rw [hg k] at this
  have e : ((List.range n).map g).getD k default = g k := by simp [hk']
  rw [e]
  exact this
end Go.Proofs.Ytajpngnphbdnnaa.Abs
