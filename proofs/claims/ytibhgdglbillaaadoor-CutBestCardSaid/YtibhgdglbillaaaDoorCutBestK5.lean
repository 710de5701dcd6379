/- Proved here: what the proof of CutBest rests on, part 5 of 5. Conditions: those that each theorem names. -/
import Derived.Test.YtibhgdglbillaaaDoorCutBestK4
namespace Go.Proofs.YtibhgdglbillaaaDoor.Abs
set_option linter.unusedSimpArgs false
set_option linter.unusedVariables false
open Go.RowKit
open Go.Proofs.YtibhgdglbillaaaDoor.Sim
open Go.Proofs
/-- What holds whatever of the region was done: L tells which operations were; s is the slot of the first one, pv the values of those that only reckon. -/
structure RI (m0 : AM) (base : List (Nat × Value)) (s : Nat) (pv : Nat → Option Value) (x : Nd) (l1 l2 : List Nd) (L : Nat → Bool) (t : Fm) (M : AM) : Prop where
  mem : ∃ N, M = m0 ++ N
  old : ∀ e ∈ base, t e.1 = some e.2
  pure : ∀ j v, pv j = some v → L j = true → t (s + j) = some v
  lit : L 2 = true → ∃ a, t (s + 2) = some (.slice (some ⟨a, 0, none⟩) 1 1) ∧ m0.length ≤ a ∧ (L 10 = false → M[a]? = some (some { cells := ndc1 x }))
  one : L 9 = true → ∃ (a : Nat) (kd : Kind) (sz : Nat), t (s + 9) = some (.slice (some ⟨a, 0, none⟩) l1.length l1.length) ∧ 0 < l1.length ∧ (L 10 = false → M[a]? = some (some { cells := ndc l1, kind := kd, size := sz }))
  app : L 10 = true → ∃ a, t (s + 10) = some (.slice (some ⟨a, 0, none⟩) (1 + l1.length) (1 + l1.length)) ∧ m0.length ≤ a ∧ (L 18 = false → M[a]? = some (some { cells := ndc1 x ++ ndc l1, kind := .grow, size := 3 }))
  two : L 17 = true → ∃ (a : Nat) (kd : Kind) (sz : Nat), t (s + 17) = some (.slice (some ⟨a, 0, none⟩) l2.length l2.length) ∧ 0 < l2.length ∧ (L 18 = false → M[a]? = some (some { cells := ndc l2, kind := kd, size := sz }))
  all : L 18 = true → ∃ a, t (s + 18) = some (.slice (some ⟨a, 0, none⟩) (1 + l1.length + l2.length) (1 + l1.length + l2.length)) ∧ m0.length ≤ a ∧ M[a]? = some (some { cells := (ndc1 x ++ ndc l1) ++ ndc l2, kind := .grow, size := 3 })
  res : L 19 = true → L 18 = true ∧ ∃ a, t 8 = some (.slice (some ⟨a, 0, none⟩) (1 + l1.length + l2.length) (1 + l1.length + l2.length)) ∧ m0.length ≤ a ∧ M[a]? = some (some { cells := (ndc1 x ++ ndc l1) ++ ndc l2, kind := .grow, size := 3 })
section
variable {m0 : AM} {base : List (Nat × Value)} {s : Nat} {pv : Nat → Option Value} {x : Nd} {l1 l2 : List Nd} {L : Nat → Bool} {t : Fm} {M : AM}
theorem RI.start (h : ∀ e ∈ base, t e.1 = some e.2) : RI m0 base s pv x l1 l2 (fun _ => false) t m0 :=
  ⟨⟨[], by simp⟩, h, fun _ _ _ q => (by cases q), fun q => (by cases q), fun q => (by cases q), fun q => (by cases q), fun q => (by cases q), fun q => (by cases q), fun q => (by cases q)⟩
/-- More memory behind. -/
theorem RI.ext (h : RI m0 base s pv x l1 l2 L t M) (T : AM) : RI m0 base s pv x l1 l2 L t (M ++ T) where
  mem := by obtain ⟨N, e⟩ := h.mem; exact ⟨N ++ T, by rw [e, List.append_assoc]⟩
  old := h.old
  pure := h.pure
  lit := fun q => by obtain ⟨a, a1, a2, a3⟩ := h.lit q; exact ⟨a, a1, a2, fun r => get_old _ (a3 r)⟩
  one := fun q => by obtain ⟨a, kd, sz, a1, a2, a3⟩ := h.one q; exact ⟨a, kd, sz, a1, a2, fun r => get_old _ (a3 r)⟩
  app := fun q => by obtain ⟨a, a1, a2, a3⟩ := h.app q; exact ⟨a, a1, a2, fun r => get_old _ (a3 r)⟩
  two := fun q => by obtain ⟨a, kd, sz, a1, a2, a3⟩ := h.two q; exact ⟨a, kd, sz, a1, a2, fun r => get_old _ (a3 r)⟩
  all := fun q => by obtain ⟨a, a1, a2, a3⟩ := h.all q; exact ⟨a, a1, a2, get_old _ a3⟩
  res := fun q => by obtain ⟨r, a, a1, a2, a3⟩ := h.res q; exact ⟨r, a, a1, a2, get_old _ a3⟩
theorem upL_no {i j : Nat} (h : upL L i j = false) : L j = false := by
  by_cases e : j = i
  · subst e; rw [upL_same] at h; cases h
  · rwa [upL_ne L e] at h
/-- An operation that only reckons. -/
theorem RI.put (h : RI m0 base s pv x l1 l2 L t M) (hb : ∀ e ∈ base, e.1 < s) (hs : 8 < s) {j : Nat} {v : Value} (hv : pv j = some v) (hj : j ≠ 2 ∧ j ≠ 9 ∧ j ≠ 10 ∧ j ≠ 17 ∧ j ≠ 18 ∧ j ≠ 19) : RI m0 base s pv x l1 l2 (upL L j) (Abs.put t (s + j) v) M where
  mem := h.mem
  old := fun e he => by rw [put_ne t v (by have := hb e he; omega)]; exact h.old e he
  pure := fun k w hw hk => by
    by_cases e : k = j
    · subst e
      rw [hv] at hw
      injection hw with hw
      rw [put_same, hw]
    · rw [upL_ne L e] at hk
      rw [put_ne t v (by omega)]
      exact h.pure k w hw hk
  lit := fun q => by
    rw [upL_ne L (by omega)] at q
    obtain ⟨a, a1, a2, a3⟩ := h.lit q
    exact ⟨a, by rw [put_ne t v (by omega)]; exact a1, a2, fun r => a3 (upL_no r)⟩
  one := fun q => by
    rw [upL_ne L (by omega)] at q
    obtain ⟨a, kd, sz, a1, a2, a3⟩ := h.one q
    exact ⟨a, kd, sz, by rw [put_ne t v (by omega)]; exact a1, a2, fun r => a3 (upL_no r)⟩
  app := fun q => by
    rw [upL_ne L (by omega)] at q
    obtain ⟨a, a1, a2, a3⟩ := h.app q
    exact ⟨a, by rw [put_ne t v (by omega)]; exact a1, a2, fun r => a3 (upL_no r)⟩
  two := fun q => by
    rw [upL_ne L (by omega)] at q
    obtain ⟨a, kd, sz, a1, a2, a3⟩ := h.two q
    exact ⟨a, kd, sz, by rw [put_ne t v (by omega)]; exact a1, a2, fun r => a3 (upL_no r)⟩
  all := fun q => by
    rw [upL_ne L (by omega)] at q
    obtain ⟨a, a1, a2, a3⟩ := h.all q
    exact ⟨a, by rw [put_ne t v (by omega)]; exact a1, a2, a3⟩
  res := fun q => by
    rw [upL_ne L (by omega)] at q
    obtain ⟨r, a, a1, a2, a3⟩ := h.res q
    exact ⟨by rw [upL_ne L (by omega)]; exact r, a, by rw [put_ne t v (by omega)]; exact a1, a2, a3⟩
/-- The literal. -/
theorem RI.setLit (h : RI m0 base s pv x l1 l2 L t M) (hb : ∀ e ∈ base, e.1 < s) (hs : 8 < s) (hp : pv 2 = none) : RI m0 base s pv x l1 l2 (upL L 2) (Abs.put t (s + 2) (.slice (some ⟨M.length, 0, none⟩) 1 1)) (M ++ [some { cells := ndc1 x }]) := by
  have hml : m0.length ≤ M.length := by obtain ⟨N, e⟩ := h.mem; rw [e]; simp
  have h := h.ext [some { cells := ndc1 x }]
  exact
  { mem := h.mem
    old := fun e he => by rw [put_ne t _ (by have := hb e he; omega)]; exact h.old e he
    pure := fun k w hw hk => by
      have e : k ≠ 2 := fun e => by rw [e, hp] at hw; cases hw
      rw [upL_ne L e] at hk
      rw [put_ne t _ (by omega)]
      exact h.pure k w hw hk
    lit := fun _ => ⟨M.length, put_same .., hml, fun _ => by simp⟩
    one := fun q => by
      rw [upL_ne L (by omega)] at q
      obtain ⟨a, kd, sz, a1, a2, a3⟩ := h.one q
      exact ⟨a, kd, sz, by rw [put_ne t _ (by omega)]; exact a1, a2, fun r => a3 (upL_no r)⟩
    app := fun q => by
      rw [upL_ne L (by omega)] at q
      obtain ⟨a, a1, a2, a3⟩ := h.app q
      exact ⟨a, by rw [put_ne t _ (by omega)]; exact a1, a2, fun r => a3 (upL_no r)⟩
    two := fun q => by
      rw [upL_ne L (by omega)] at q
      obtain ⟨a, kd, sz, a1, a2, a3⟩ := h.two q
      exact ⟨a, kd, sz, by rw [put_ne t _ (by omega)]; exact a1, a2, fun r => a3 (upL_no r)⟩
    all := fun q => by
      rw [upL_ne L (by omega)] at q
      obtain ⟨a, a1, a2, a3⟩ := h.all q
      exact ⟨a, by rw [put_ne t _ (by omega)]; exact a1, a2, a3⟩
    res := fun q => by
      rw [upL_ne L (by omega)] at q
      obtain ⟨r, a, a1, a2, a3⟩ := h.res q
      exact ⟨by rw [upL_ne L (by omega)]; exact r, a, by rw [put_ne t _ (by omega)]; exact a1, a2, a3⟩ }
/-- The first call. -/
theorem RI.setOne (h : RI m0 base s pv x l1 l2 L t M) (hb : ∀ e ∈ base, e.1 < s) (hs : 8 < s) (hp : pv 9 = none) {M' : AM} {v : Value} {b0 : Nat} (hM : ∃ N, M' = M ++ N) (hP : PL b0 l1 M' v) : RI m0 base s pv x l1 l2 (upL L 9) (Abs.put t (s + 9) v) M' := by
  obtain ⟨T, rfl⟩ := hM
  have h := h.ext T
  obtain ⟨a, kd, sz, _, rfl, q2, q3, _⟩ := hP
  exact
  { mem := h.mem
    old := fun e he => by rw [put_ne t _ (by have := hb e he; omega)]; exact h.old e he
    pure := fun k w hw hk => by
      have e : k ≠ 9 := fun e => by rw [e, hp] at hw; cases hw
      rw [upL_ne L e] at hk
      rw [put_ne t _ (by omega)]
      exact h.pure k w hw hk
    lit := fun q => by
      rw [upL_ne L (by omega)] at q
      obtain ⟨a, a1, a2, a3⟩ := h.lit q
      exact ⟨a, by rw [put_ne t _ (by omega)]; exact a1, a2, fun r => a3 (upL_no r)⟩
    one := fun _ => ⟨a, kd, sz, put_same .., q2, fun _ => q3⟩
    app := fun q => by
      rw [upL_ne L (by omega)] at q
      obtain ⟨a, a1, a2, a3⟩ := h.app q
      exact ⟨a, by rw [put_ne t _ (by omega)]; exact a1, a2, fun r => a3 (upL_no r)⟩
    two := fun q => by
      rw [upL_ne L (by omega)] at q
      obtain ⟨a, kd, sz, a1, a2, a3⟩ := h.two q
      exact ⟨a, kd, sz, by rw [put_ne t _ (by omega)]; exact a1, a2, fun r => a3 (upL_no r)⟩
    all := fun q => by
      rw [upL_ne L (by omega)] at q
      obtain ⟨a, a1, a2, a3⟩ := h.all q
      exact ⟨a, by rw [put_ne t _ (by omega)]; exact a1, a2, a3⟩
    res := fun q => by
      rw [upL_ne L (by omega)] at q
      obtain ⟨r, a, a1, a2, a3⟩ := h.res q
      exact ⟨by rw [upL_ne L (by omega)]; exact r, a, by rw [put_ne t _ (by omega)]; exact a1, a2, a3⟩ }
/-- The second call. -/
theorem RI.setTwo (h : RI m0 base s pv x l1 l2 L t M) (hb : ∀ e ∈ base, e.1 < s) (hs : 8 < s) (hp : pv 17 = none) {M' : AM} {v : Value} {b0 : Nat} (hM : ∃ N, M' = M ++ N) (hP : PL b0 l2 M' v) : RI m0 base s pv x l1 l2 (upL L 17) (Abs.put t (s + 17) v) M' := by
  obtain ⟨T, rfl⟩ := hM
  have h := h.ext T
  obtain ⟨a, kd, sz, _, rfl, q2, q3, _⟩ := hP
  exact
  { mem := h.mem
    old := fun e he => by rw [put_ne t _ (by have := hb e he; omega)]; exact h.old e he
    pure := fun k w hw hk => by
      have e : k ≠ 17 := fun e => by rw [e, hp] at hw; cases hw
      rw [upL_ne L e] at hk
      rw [put_ne t _ (by omega)]
      exact h.pure k w hw hk
    lit := fun q => by
      rw [upL_ne L (by omega)] at q
      obtain ⟨a, a1, a2, a3⟩ := h.lit q
      exact ⟨a, by rw [put_ne t _ (by omega)]; exact a1, a2, fun r => a3 (upL_no r)⟩
    one := fun q => by
      rw [upL_ne L (by omega)] at q
      obtain ⟨a, kd, sz, a1, a2, a3⟩ := h.one q
      exact ⟨a, kd, sz, by rw [put_ne t _ (by omega)]; exact a1, a2, fun r => a3 (upL_no r)⟩
    app := fun q => by
      rw [upL_ne L (by omega)] at q
      obtain ⟨a, a1, a2, a3⟩ := h.app q
      exact ⟨a, by rw [put_ne t _ (by omega)]; exact a1, a2, fun r => a3 (upL_no r)⟩
    two := fun _ => ⟨a, kd, sz, put_same .., q2, fun _ => q3⟩
    all := fun q => by
      rw [upL_ne L (by omega)] at q
      obtain ⟨a, a1, a2, a3⟩ := h.all q
      exact ⟨a, by rw [put_ne t _ (by omega)]; exact a1, a2, a3⟩
    res := fun q => by
      rw [upL_ne L (by omega)] at q
      obtain ⟨r, a, a1, a2, a3⟩ := h.res q
      exact ⟨by rw [upL_ne L (by omega)]; exact r, a, by rw [put_ne t _ (by omega)]; exact a1, a2, a3⟩ }
/-- The first append. -/
theorem RI.setApp (h : RI m0 base s pv x l1 l2 L t M) (hb : ∀ e ∈ base, e.1 < s) (hs : 8 < s) (hp : pv 10 = none) : RI m0 base s pv x l1 l2 (upL L 10) (Abs.put t (s + 10) (.slice (some ⟨M.length, 0, none⟩) (1 + l1.length) (1 + l1.length))) (M ++ [some { cells := ndc1 x ++ ndc l1, kind := .grow, size := 3 }]) := by
  have hml : m0.length ≤ M.length := by obtain ⟨N, e⟩ := h.mem; rw [e]; simp
  have h := h.ext [some { cells := ndc1 x ++ ndc l1, kind := .grow, size := 3 }]
  exact
  { mem := h.mem
    old := fun e he => by rw [put_ne t _ (by have := hb e he; omega)]; exact h.old e he
    pure := fun k w hw hk => by
      have e : k ≠ 10 := fun e => by rw [e, hp] at hw; cases hw
      rw [upL_ne L e] at hk
      rw [put_ne t _ (by omega)]
      exact h.pure k w hw hk
    lit := fun q => by
      rw [upL_ne L (by omega)] at q
      obtain ⟨a, a1, a2, a3⟩ := h.lit q
      exact ⟨a, by rw [put_ne t _ (by omega)]; exact a1, a2, fun r => a3 (upL_no r)⟩
    one := fun q => by
      rw [upL_ne L (by omega)] at q
      obtain ⟨a, kd, sz, a1, a2, a3⟩ := h.one q
      exact ⟨a, kd, sz, by rw [put_ne t _ (by omega)]; exact a1, a2, fun r => a3 (upL_no r)⟩
    app := fun _ => ⟨M.length, put_same .., hml, fun _ => by simp⟩
    two := fun q => by
      rw [upL_ne L (by omega)] at q
      obtain ⟨a, kd, sz, a1, a2, a3⟩ := h.two q
      exact ⟨a, kd, sz, by rw [put_ne t _ (by omega)]; exact a1, a2, fun r => a3 (upL_no r)⟩
    all := fun q => by
      rw [upL_ne L (by omega)] at q
      obtain ⟨a, a1, a2, a3⟩ := h.all q
      exact ⟨a, by rw [put_ne t _ (by omega)]; exact a1, a2, a3⟩
    res := fun q => by
      rw [upL_ne L (by omega)] at q
      obtain ⟨r, a, a1, a2, a3⟩ := h.res q
      exact ⟨by rw [upL_ne L (by omega)]; exact r, a, by rw [put_ne t _ (by omega)]; exact a1, a2, a3⟩ }
/-- The second append, behind all. -/
theorem RI.setAll (h : RI m0 base s pv x l1 l2 L t M) (hb : ∀ e ∈ base, e.1 < s) (hs : 8 < s) (hp : pv 18 = none) (h10 : L 10 = true) (h18 : L 18 = false) {a : Nat} (ha : m0.length ≤ a) :
    RI m0 base s pv x l1 l2 (upL L 18) (Abs.put t (s + 18) (.slice (some ⟨M.length, 0, none⟩) (1 + l1.length + l2.length) (1 + l1.length + l2.length))) (M.set a none ++ [some { cells := (ndc1 x ++ ndc l1) ++ ndc l2, kind := .grow, size := 3 }]) := by
  obtain ⟨N, hN⟩ := h.mem
  have hml : m0.length ≤ M.length := by rw [hN]; simp
  obtain ⟨N2, hN2⟩ := set_high (m0 := m0) (N := N) (a := a) ha none
  rw [← hN] at hN2
  have e10 : upL L 18 10 = true := by rw [upL_ne L (by omega)]; exact h10
  have e18 : upL L 18 18 = true := upL_same ..
  exact
  { mem := ⟨N2 ++ [_], by rw [hN2, List.append_assoc]⟩
    old := fun e he => by rw [put_ne t _ (by have := hb e he; omega)]; exact h.old e he
    pure := fun k w hw hk => by
      have e : k ≠ 18 := fun e => by rw [e, hp] at hw; cases hw
      rw [upL_ne L e] at hk
      rw [put_ne t _ (by omega)]
      exact h.pure k w hw hk
    lit := fun q => by
      rw [upL_ne L (by omega)] at q
      obtain ⟨a, a1, a2, _⟩ := h.lit q
      exact ⟨a, by rw [put_ne t _ (by omega)]; exact a1, a2, fun r => by rw [e10] at r; cases r⟩
    one := fun q => by
      rw [upL_ne L (by omega)] at q
      obtain ⟨a, kd, sz, a1, a2, _⟩ := h.one q
      exact ⟨a, kd, sz, by rw [put_ne t _ (by omega)]; exact a1, a2, fun r => by rw [e10] at r; cases r⟩
    app := fun q => by
      rw [upL_ne L (by omega)] at q
      obtain ⟨a, a1, a2, _⟩ := h.app q
      exact ⟨a, by rw [put_ne t _ (by omega)]; exact a1, a2, fun r => by rw [e18] at r; cases r⟩
    two := fun q => by
      rw [upL_ne L (by omega)] at q
      obtain ⟨a, kd, sz, a1, a2, _⟩ := h.two q
      exact ⟨a, kd, sz, by rw [put_ne t _ (by omega)]; exact a1, a2, fun r => by rw [e18] at r; cases r⟩
    all := fun _ => ⟨M.length, put_same .., hml, by rw [List.getElem?_append_right (by simp)]; simp⟩
    res := fun q => by
      rw [upL_ne L (by omega)] at q
      have := (h.res q).1
      rw [h18] at this; cases this }
/-- The result is laid into its variable. -/
theorem RI.setRes (h : RI m0 base s pv x l1 l2 L t M) (hb : ∀ e ∈ base, e.1 ≠ 8) (hs : 8 < s) (hp : pv 19 = none) (h18 : L 18 = true) : ∃ v, t (s + 18) = some v ∧ RI m0 base s pv x l1 l2 (upL L 19) (Abs.put t 8 v) M := by
  obtain ⟨a, a1, a2, a3⟩ := h.all h18
  refine ⟨_, a1, ?_⟩
  exact
  { mem := h.mem
    old := fun e he => by rw [put_ne t _ (hb e he)]; exact h.old e he
    pure := fun k w hw hk => by
      have e : k ≠ 19 := fun e => by rw [e, hp] at hw; cases hw
      rw [upL_ne L e] at hk
      rw [put_ne t _ (by omega)]
      exact h.pure k w hw hk
    lit := fun q => by
      rw [upL_ne L (by omega)] at q
      obtain ⟨a, a1, a2, a3⟩ := h.lit q
      exact ⟨a, by rw [put_ne t _ (by omega)]; exact a1, a2, fun r => a3 (upL_no r)⟩
    one := fun q => by
      rw [upL_ne L (by omega)] at q
      obtain ⟨a, kd, sz, a1, a2, a3⟩ := h.one q
      exact ⟨a, kd, sz, by rw [put_ne t _ (by omega)]; exact a1, a2, fun r => a3 (upL_no r)⟩
    app := fun q => by
      rw [upL_ne L (by omega)] at q
      obtain ⟨a, a1, a2, a3⟩ := h.app q
      exact ⟨a, by rw [put_ne t _ (by omega)]; exact a1, a2, fun r => a3 (upL_no r)⟩
    two := fun q => by
      rw [upL_ne L (by omega)] at q
      obtain ⟨a, kd, sz, a1, a2, a3⟩ := h.two q
      exact ⟨a, kd, sz, by rw [put_ne t _ (by omega)]; exact a1, a2, fun r => a3 (upL_no r)⟩
    all := fun q => by
      rw [upL_ne L (by omega)] at q
      obtain ⟨a, a1, a2, a3⟩ := h.all q
      exact ⟨a, by rw [put_ne t _ (by omega)]; exact a1, a2, a3⟩
    res := fun _ => ⟨by rw [upL_ne L (by omega)]; exact h18, a, put_same .., a2, a3⟩ }
end
end Go.Proofs.YtibhgdglbillaaaDoor.Abs
namespace Go.Proofs.YtibhgdglbillaaaDoor.Abs
set_option linter.unusedSimpArgs false
set_option linter.unusedVariables false
open Go.RowKit
open Go.Proofs.YtibhgdglbillaaaDoor.Sim
open Go.Proofs
theorem bl63 {a b : Int} {c : Bool} : abuild Tryd.prog 63 [(0, .int .i64 a), (1, .int .i64 b), (2, .bool c)] = some (.agg #[.int .i64 a, .int .i64 b, .bool c]) := by kernel_rfl
theorem bs58 {m : AM} {k : Nat} {a b : Int} {c : Bool} : abuildSlice Tryd.prog m k 58 1 [(0, .agg #[.int .i64 a, .int .i64 b, .bool c])] = some (.slice (some ⟨k, 0, none⟩) 1 1, m.set k (some { cells := [.int .i64 a, .int .i64 b, .bool c] })) := by kernel_rfl
theorem el58 : elemB Tryd.prog 58 = some (63, 3, 24, #[.int .i64 0, .int .i64 0, .bool false]) := by kernel_rfl
theorem un58 : Tryd.prog.underlying 58 = some (.slice 63) := by kernel_rfl
/-- What the operations that only reckon leave. -/
def pvP (sv kv tb rv lo hi : Value) (op i1 : Int) : Nat → Option Value
  | 0 => some (.int .i64 i1)
  | 1 => some (.agg #[.int .i64 op, .int .i64 i1, .bool false])
  | 3 => some sv
  | 4 => some kv
  | 5 => some tb
  | 6 => some rv
  | 7 => some (.int .i64 i1)
  | 8 => some lo
  | 11 => some sv
  | 12 => some kv
  | 13 => some tb
  | 14 => some rv
  | 15 => some (.int .i64 i1)
  | 16 => some hi
  | _ => none
set_option maxHeartbeats 16000000 in
set_option maxRecDepth 100000 in
theorem planned_ok {B : Brd} {K : List Kd} (hg : goodB B K = true) : ∀ (f : Nat), f ≤ 32 → ∀ {r : R4}, r.ok (bw B) (bh B) → r.size ≤ f → ∀ {m : AM} {sv kv : Value} {q : Nat}, Strs m sv B → Kds m kv K → m[q]? = some (some { cells := iv (boardT B K) }) →
    ACall Tryd.prog 85 #[sv, kv, .slice (some ⟨q, 0, none⟩) (total (bw B) (bh B)) (total (bw B) (bh B)), .agg r.rc.cells.toArray] m (More (PL m.length (plM B K f r)) m) := by
  intro f
  induction f with
  | zero =>
    intro _ r hr hs
    exfalso
    unfold R4.ok at hr
    unfold R4.size at hs
    omega
  | succ f ih =>
    intro hf32 r hr hs m sv kv q hS hK hq
    have ih := @ih (by omega)
    have hgb : boardB B = true := by simp only [goodB, Bool.and_eq_true] at hg; exact hg.1
    have hin := good_in hgb
    have hql := (List.getElem?_eq_some_iff.1 hq).1
    have hkl : K.length ≤ 12 := by simp only [goodB, kindsB, Bool.and_eq_true, decide_eq_true_eq] at hg; exact hg.2.1
    have htl := total_le hin.2.2.2 hin.2.1
    have hb0 : 0 < B.length := hin.1
    have h16 : r.x ≤ 16 ∧ r.y ≤ 16 ∧ r.a ≤ 16 ∧ r.b ≤ 16 := by
      have := hin
      unfold R4.ok at hr
      omega
    have hpw : 2 ^ f ≤ 2 ^ 31 := Nat.pow_le_pow_right (by omega) (by omega)
    have hlen : ∀ r', (plM B K f r').length ≤ 2147483648 := fun r' => by
      have := plM_len (B := B) (K := K) f r'
      omega
    have hT := bestT_ok (leaf := leafM B K) hin.2.2.2 hin.2.1
    have htlen : (boardT B K).length = total (bw B) (bh B) := hT.len
    obtain ⟨M0, hM0⟩ : ∃ M0, m ++ [some { cells := r.rc.cells }] = M0 := ⟨_, rfl⟩
    have hM0l : M0.length = m.length + 1 := by rw [← hM0]; simp
    have S0 : ∀ T, Strs (M0 ++ T) sv B := fun T => by rw [← hM0]; exact (hS.old _).old _
    have K0 : ∀ T, Kds (M0 ++ T) kv K := fun T => by rw [← hM0]; exact (hK.old _).old _
    have hq0 : ∀ T, (M0 ++ T)[q]? = some (some { cells := iv (boardT B K) }) := fun T => by rw [← hM0]; exact get_old _ (get_old _ hq)
    have y7 : ∀ T, RdL (M0 ++ T) (m.length + 0) 0 r.rc.cells := fun T => by rw [← hM0]; exact RdL.old _ (show RdL (m ++ [some { cells := r.rc.cells }]) (m.length + 0) 0 r.rc.cells from RdL.new rfl rfl)
    have yltrue : ∀ T, Rd (M0 ++ T) (m.length + 0) (0 + 2) (.int .i64 (r.len true : Nat)) := fun T => (y7 T).at_ 2 rfl
    have ylfalse : ∀ T, Rd (M0 ++ T) (m.length + 0) (0 + 3) (.int .i64 (r.len false : Nat)) := fun T => (y7 T).at_ 3 rfl
    have hrd : ∀ r', r'.ok (bw B) (bh B) → ∀ T, Rd (M0 ++ T) q (r'.at (bw B) (bh B)) (.int .i64 (V (leafM B K) r')) := fun r' h' T => by
      have hv : (boardT B K).getD (r'.at (bw B) (bh B)) 0 = V (leafM B K) r' := hT.dn _ h'
      have hat := at_lt hin.2.2.2 hin.2.1 h'
      rw [← hv]
      exact rd_iv (hq0 T) rfl (by omega)
    have hat := fun (r' : R4) (h' : r'.ok (bw B) (bh B)) => at_lt hin.2.2.2 hin.2.1 h'
    have hN := fun (M : AM) (r' : R4) (h' : r'.ok (bw B) (bh B)) => place_ok' (m := M) hin.2.2.2 hin.2.1 h'
    change ∀ (M : AM) (r' : R4), _ → ACall Tryd.prog 64 #[.int .i64 ((rowOf B 0).size : Nat), .int .i64 (B.length : Nat), .agg r'.rc.cells.toArray] _ _ at hN
    have hMN : ∃ N, M0 = m ++ N := ⟨_, hM0.symm⟩
    have w7 : Low M0.length (.pointer (some ⟨m.length + 0, 0, none⟩)) := Low.ptr (by omega)
    have w2 : Low M0.length (.slice (some ⟨q, 0, none⟩) (total (bw B) (bh B)) (total (bw B) (bh B))) := Low.slice (by omega)
    have hpc := fun T => piece_ok (S0 T) (K0 T) hg hr
    change ∀ T, ACall Tryd.prog 78 #[_, _, .agg r.rc.cells.toArray] _ _ at hpc
    have hlt0 := len_pos true hr
    have hlf0 := len_pos false hr
    have hl16 := fun d => len_le d hin.2.2.2 hin.2.1 hr
    have hl16t := hl16 true
    have hl16f := hl16 false
    have hNr := fun M => hN M _ hr
    have har := hat _ hr
    have htr := hrd _ hr
    have hVr := V_in hg hr
    have hle := leaf_le_V (leaf := leafM B K) hr
    have hatq := atN_eq B K r (V (leafM B K) r)
    have hrow : (rowOf B 0).size ≤ 16 := hin.2.2.2
    have hBl : B.length ≤ 16 := hin.2.1
    obtain ⟨A1, O1, sl1, la1, rd1⟩ := id (S0 [])
    rw [List.append_nil] at la1 rd1
    have r0 := rd1 0 hb0
    have w0 : Low M0.length sv := Low.of_sl sl1 la1
    obtain ⟨A2, O2, sl2, la2, rd2⟩ := id (K0 [])
    rw [List.append_nil] at la2 rd2
    have w1 : Low M0.length kv := Low.of_sl sl2 la2
    refine ACall.start Tryd.func85 rfl rfl ?_
    (repeat (first | (with_reducible refine AWo.cons ?_) | ((with_reducible refine Step.id ?_); first | ((with_reducible apply Step.assign); exact rfl; exact rfl) | ((with_reducible apply Step.box 0); exact rfl; exact rfl; (focus (kernel_rfl)); exact rfl; (focus (first | (simp only [List.nil_append, List.cons_append, List.set_cons_zero, List.set_cons_succ, iv_set, bv_set, iv_rep, bv_rep]; done) | (simp only [List.nil_append, List.cons_append, List.set_cons_zero, List.set_cons_succ, iv_set, bv_set, iv_rep, bv_rep]; rfl) | rfl)))) | (with_reducible refine AWo.nil ?_) | ((fail_if_success (with_reducible refine AW.atR (id := 1) ?_)); ((with_reducible apply AW.seq))) | ((with_reducible apply Then.n)) | ((with_reducible apply AW.regL))))
    change AW _ _ _ _ _ (m ++ [some { cells := r.rc.cells }]) _
    rw [hM0]
    refine AW.rebase ?_
    generalize hvv : V (leafM B K) r = vv at *
    generalize hleaf : leafM B K r = lf at *
    generalize hxr : r.at (bw B) (bh B) = xr at *
    (repeat (first | (with_reducible refine AWo.cons ?_) | ((with_reducible refine Step.id ?_); first | ((with_reducible apply Step.move); exact rfl; exact rfl) | ((with_reducible apply Step.assign); exact rfl; exact rfl) | ((with_reducible apply Step.load); exact rfl; (focus (decide +kernel)); exact rfl; (focus (first | exact htr _ | exact Rd.old _ (by assumption)))) | ((with_reducible apply Step.loadL (n := 4)); exact rfl; (focus (decide +kernel)); (focus (decide +kernel)); exact rfl; (focus (exact y7 _)); exact rfl; exact rfl) | ((with_reducible apply Step.ix1z); exact rfl; (focus (exact Sl.mk (by omega))); exact rfl; (focus (decide +kernel)); exact rfl; (focus (omega))) | ((with_reducible apply Step.ix1); exact rfl; (focus (assumption)); exact rfl; (focus (decide +kernel)); exact rfl; (focus (omega))) | ((with_reducible apply Step.lenS); exact rfl; exact un9; exact rfl) | ((with_reducible apply Step.eql); exact rfl; exact rfl; exact rfl) | ((with_reducible apply Step.len); exact rfl; (focus (assumption)); (focus (decide +kernel)); exact rfl) | ((with_reducible apply Step.extract); exact rfl; exact rfl; exact rfl) | ((with_reducible apply Step.callR fit); exact rfl; exact Tryd.func64; exact rfl; exact rfl; exact (hNr _)) | ((with_reducible apply Step.callR fit); exact rfl; exact Tryd.func78; exact rfl; exact rfl; exact (hpc _))) | (with_reducible refine AWo.nil ?_) | ((with_reducible apply AW.seq)) | ((with_reducible apply Then.n)) | ((with_reducible apply AW.regL))))
    by_cases h0 : vv = 0
    · rw [plM_zero (by rw [hvv]; exact h0)]
      (repeat (first | (with_reducible refine AWo.cons ?_) | ((with_reducible refine Step.id ?_); first | ((with_reducible apply Step.assign); exact rfl; exact rfl) | ((with_reducible apply Step.buildS 0); exact rfl; exact rfl; exact (fun _ _ => bs58); exact rfl; (focus (first | (simp only [List.nil_append, List.cons_append, List.set_cons_zero, List.set_cons_succ, iv_set, bv_set, iv_rep, bv_rep]; done) | (simp only [List.nil_append, List.cons_append, List.set_cons_zero, List.set_cons_succ, iv_set, bv_set, iv_rep, bv_rep]; rfl) | rfl))) | ((with_reducible apply Step.build); exact rfl; exact bl63; exact rfl)) | (with_reducible refine AWo.nil ?_) | ((with_reducible apply AW.seq)) | ((with_reducible apply Then.n)) | ((with_reducible apply AW.regL)) | ((with_reducible apply AW.condT); exact rfl; (focus ((simp only [decide_eq_true_eq, decide_eq_false_iff_not, Bool.not_eq_true', Bool.not_eq_false', Bool.not_true, Bool.not_false]; first | assumption | omega))))))
      (refine AW.ret ?_; (repeat (first | refine Then.r ?_ | refine InBlk.r ?_)))
      obtain ⟨N, hN⟩ := hMN
      exact ⟨_, rfl, N ++ [some { cells := [.int .i64 0, .int .i64 0, .bool false] }], by rw [hN, List.append_assoc], M0.length + 0, .own, 1, by omega, rfl, by decide, by rw [get_app]; rfl, .inl ⟨rfl, rfl⟩⟩
    have h0' : ¬ V (leafM B K) r = 0 := by rw [hvv]; exact h0
    have hatq := hatq (by omega) K.length (by have : leafN B K r K.length = lf := hleaf; omega)
    have hpk : lq (pkQ B K r) K.length = lq (fun k => okB B (K.getD k default) r && decide ((K.getD k default).worth = vv)) K.length := by
      unfold pkQ
      rw [hvv]
    by_cases h1 : lf = vv
    · obtain ⟨hq1, hq2⟩ := hatq
      have hlN : leafN B K r K.length = vv := by rw [← h1, ← hleaf]; rfl
      have hk := hq2.2 hlN
      have hat' := hq1 hlN
      rw [← hpk] at hk hat'
      have hbb : ∀ j, j < lq (pkQ B K r) K.length → pkQ B K r j = false := fun j hj => lq_before hj
      have haa : pkQ B K r (lq (pkQ B K r) K.length) = true := lq_at hk
      rw [plM_piece h0' hk hbb haa, hat']
      clear hq1 hq2 hat' hpk hbb
      generalize lq (pkQ B K r) K.length = kx at *
      have rk := rd2 kx hk
      have hF := fun T => RFits_ok (S0 T) hgb (K.getD kx default) hr
      have hok : okB B (K.getD kx default) r = true := by
        unfold pkQ at haa
        rw [Bool.and_eq_true] at haa
        exact haa.1
      rw [hok, Bool.true_and] at hF
      clear haa hok
      change ∀ T, ACall Tryd.prog 55 #[_, .agg (K.getD kx default).cells.toArray, .agg r.rc.cells.toArray] _ _ at hF
      generalize K.getD kx default = kd at *
      generalize turnedB kd r = tb at *
      obtain ⟨kw, kh, kg, ko, kt⟩ := kd
      simp only [Kd.cells] at rk hF
      (repeat (first | (with_reducible refine AWo.cons ?_) | ((with_reducible refine Step.id ?_); first | ((with_reducible apply Step.move); exact rfl; exact rfl) | ((with_reducible apply Step.assign); exact rfl; exact rfl) | ((with_reducible apply Step.loadL (n := 4)); exact rfl; (focus (decide +kernel)); (focus (decide +kernel)); exact rfl; (focus (exact y7 _)); exact rfl; exact rfl) | ((with_reducible apply Step.loadL (n := 5)); exact rfl; (focus (decide +kernel)); (focus (decide +kernel)); exact rfl; (focus (exact RdL.old _ (by assumption))); exact rfl; exact rfl) | ((with_reducible apply Step.ix (s := 5)); exact rfl; (focus (assumption)); exact rfl; (focus (decide +kernel)); exact rfl; (focus (omega))) | ((with_reducible apply Step.eql); exact rfl; exact rfl; exact rfl) | ((with_reducible apply Step.extract); exact rfl; exact rfl; exact rfl) | ((with_reducible apply Step.callR fit); exact rfl; exact Tryd.func55; exact rfl; exact rfl; exact (hF _)) | ((with_reducible apply Step.buildS 0); exact rfl; exact rfl; exact (fun _ _ => bs58); exact rfl; (focus (first | (simp only [List.nil_append, List.cons_append, List.set_cons_zero, List.set_cons_succ, iv_set, bv_set, iv_rep, bv_rep]; done) | (simp only [List.nil_append, List.cons_append, List.set_cons_zero, List.set_cons_succ, iv_set, bv_set, iv_rep, bv_rep]; rfl) | rfl))) | ((with_reducible apply Step.build); exact rfl; exact bl63; exact rfl)) | (with_reducible refine AWo.nil ?_) | ((with_reducible apply AW.seq)) | ((with_reducible apply Then.n)) | ((with_reducible apply AW.regL)) | ((with_reducible apply AW.drawL fit); (focus (decide +kernel))) | ((with_reducible apply AW.skip)) | ((with_reducible apply AW.condT); exact rfl; (focus ((simp only [decide_eq_true_eq, decide_eq_false_iff_not, Bool.not_eq_true', Bool.not_eq_false', Bool.not_true, Bool.not_false]; first | assumption | omega)))) | ((with_reducible apply AW.condF); exact rfl; (focus ((simp only [decide_eq_true_eq, decide_eq_false_iff_not, Bool.not_eq_true', Bool.not_eq_false', Bool.not_true, Bool.not_false]; first | assumption | omega))))))
      (refine AW.ret ?_; (repeat (first | refine Then.r ?_ | refine InBlk.r ?_)))
      obtain ⟨N, hN⟩ := hMN
      exact ⟨_, rfl, N ++ [some { cells := [.int .i64 1, .int .i64 (kx : Nat), .bool tb] }], by rw [hN, List.append_assoc], M0.length + 0, .own, 1, by omega, rfl, by simp, by rw [get_app]; rfl, .inl ⟨rfl, rfl⟩⟩
    have hnp : ¬ lq (pkQ B K r) K.length < K.length := fun a => by
      have := (pk_leaf hr h0').1 a
      rw [hvv, hleaf] at this
      exact h1 this
    have h0 := h0'
    clear h0' hatq hpk
    (repeat (first | (with_reducible refine AWo.cons ?_) | ((with_reducible refine Step.id ?_); first | ((with_reducible apply Step.move); exact rfl; exact rfl) | ((with_reducible apply Step.assign); exact rfl; exact rfl) | ((with_reducible apply Step.eql); exact rfl; exact rfl; exact rfl)) | (with_reducible refine AWo.nil ?_) | ((with_reducible apply AW.seq)) | ((with_reducible apply Then.n)) | ((with_reducible apply AW.regL)) | ((with_reducible apply AW.block)) | ((with_reducible apply AW.skip)) | ((with_reducible apply AW.condF); exact rfl; (focus ((simp only [decide_eq_true_eq, decide_eq_false_iff_not, Bool.not_eq_true', Bool.not_eq_false', Bool.not_true, Bool.not_false]; first | assumption | omega))))))
    refine AW.loopT (fun n t L => ∃ i : Nat, n = r.len true - i ∧ i + 1 ≤ r.len true ∧ (∀ j, j < i → ctQ B K r true j = false) ∧ L = [] ∧ t = [(0, sv), (1, kv), (2, .slice (some ⟨q, 0, none⟩) (total (bw B) (bh B)) (total (bw B) (bh B))), (7, .pointer (some ⟨m.length + 0, 0, none⟩)), (9, .int .i64 ((rowOf B 0).size : Nat)), (10, .int .i64 (B.length : Nat)), (11, .int .i64 vv), (16, .int .i64 (i + 1 : Nat))]) ⟨_, [(0, sv), (1, kv), (2, .slice (some ⟨q, 0, none⟩) (total (bw B) (bh B)) (total (bw B) (bh B))), (7, .pointer (some ⟨m.length + 0, 0, none⟩)), (9, .int .i64 ((rowOf B 0).size : Nat)), (10, .int .i64 (B.length : Nat)), (11, .int .i64 vv), (16, .int .i64 1)], _, (Or.inl ⟨rfl, (by repeat (first | exact trivial | (refine And.intro rfl ?_)))⟩), 0, rfl, by omega, fun j hj => by omega, rfl, rfl⟩ ?_
    rintro n t L ⟨i, rfl, hi, hall, rfl, rfl⟩
    rcases Nat.lt_or_ge (i + 1) (r.len true) with hil | hil
    · have o1 := lo_ok hr (d := true) (i := i + 1) (by omega) (by omega)
      have o2 := hi_ok hr (d := true) (i := i + 1) (by omega) (by omega)
      have s1 := lo_size hr (d := true) (i := i + 1) (by omega) (by omega)
      have s2 := hi_size hr (d := true) (i := i + 1) (by omega) (by omega)
      have P1 := fun M => left_ok (m := M) r (i + 1)
      have P2 := fun M => rightp_ok (m := M) r (i := i + 1) (by omega) h16
      change ∀ M, ACall Tryd.prog 74 #[.agg r.rc.cells.toArray, _] _ (Ret (.agg (r.lo true (i + 1)).rc.cells.toArray) _) at P1
      change ∀ M, ACall Tryd.prog 75 #[.agg r.rc.cells.toArray, _] _ (Ret (.agg (r.hi true (i + 1)).rc.cells.toArray) _) at P2
      have n1 := fun M => hN M _ o1
      have n2 := fun M => hN M _ o2
      have a1 := hat _ o1
      have a2 := hat _ o2
      have V1 := V_in hg o1
      have V2 := V_in hg o2
      have t1 := hrd _ o1
      have t2 := hrd _ o2
      have i1 := @ih _ o1 (by omega)
      have i2 := @ih _ o2 (by omega)
      have hct : ctQ B K r true i = decide (V (leafM B K) (r.lo true (i + 1)) + V (leafM B K) (r.hi true (i + 1)) = vv) := by rw [← hvv]; rfl
      have hpl := fun ha => plM_true h0 hnp (f := f) (i := i) (by omega) hall ha
      have ll1 := hlen (r.lo true (i + 1))
      have ll2 := hlen (r.hi true (i + 1))
      generalize plM B K f (r.lo true (i + 1)) = p1 at *
      generalize plM B K f (r.hi true (i + 1)) = p2 at *
      generalize V (leafM B K) (r.lo true (i + 1)) = va at *
      generalize V (leafM B K) (r.hi true (i + 1)) = vb at *
      generalize (r.lo true (i + 1)).at (bw B) (bh B) = x1 at *
      generalize (r.hi true (i + 1)).at (bw B) (bh B) = x2 at *
      generalize hg1 : (r.lo true (i + 1)).rc = g1 at *
      generalize hg2 : (r.hi true (i + 1)).rc = g2 at *
      (repeat (first | (with_reducible refine AWo.cons ?_) | ((with_reducible refine Step.id ?_); first | ((with_reducible apply Step.move); exact rfl; exact rfl) | ((with_reducible apply Step.load); exact rfl; (focus (decide +kernel)); exact rfl; (focus (exact yltrue _))) | ((with_reducible apply Step.field (k := 2)); exact rfl; (focus (decide +kernel)); exact rfl) | ((with_reducible apply Step.lss); exact rfl; exact rfl; exact rfl)) | (with_reducible refine AWo.nil ?_) | ((fail_if_success (with_reducible refine AW.atR (id := 12) ?_)); ((with_reducible apply AW.seq))) | ((with_reducible apply Then.n)) | ((with_reducible apply AW.regL)) | ((with_reducible apply AW.block)) | ((with_reducible apply AW.skip)) | ((with_reducible apply AW.condT); exact rfl; (focus ((simp only [decide_eq_true_eq, decide_eq_false_iff_not, Bool.not_eq_true', Bool.not_eq_false', Bool.not_true, Bool.not_false]; first | assumption | omega))))))
      refine AW.seq ?_
      refine AW.flatN fit [(0, sv), (1, kv), (2, .slice (some ⟨q, 0, none⟩) (total (bw B) (bh B)) (total (bw B) (bh B))), (7, .pointer (some ⟨m.length + 0, 0, none⟩)), (9, .int .i64 ((rowOf B 0).size : Nat)), (10, .int .i64 (B.length : Nat)), (11, .int .i64 vv), (16, .int .i64 (i + 1 : Nat))] [(0, sv), (1, kv), (2, .slice (some ⟨q, 0, none⟩) (total (bw B) (bh B)) (total (bw B) (bh B))), (7, .pointer (some ⟨m.length + 0, 0, none⟩)), (9, .int .i64 ((rowOf B 0).size : Nat)), (10, .int .i64 (B.length : Nat)), (11, .int .i64 vv), (16, .int .i64 (i + 1 : Nat)), (85, .bool (decide (va + vb = vv)))] [0, 1, 2, 7, 9, 10, 11, 16] [[], [], [], [], [], [1, 0], [4, 3, 0, 0], [6, 0], [0], [], [], [], [], [], [1, 0, 7], [4, 3, 0, 0], [6, 0], [0], [9, 0], [], [1, 0]] (by repeat (first | exact trivial | (refine And.intro rfl ?_))) rfl (by decide +kernel) ?_ ?_
      · (repeat (first | ((with_reducible refine Step.id ?_); first | ((with_reducible apply Step.move); exact rfl; exact rfl) | ((with_reducible apply Step.load); exact rfl; (focus (decide +kernel)); exact rfl; (focus (first | exact t1 _ | exact t2 _))) | ((with_reducible apply Step.loadL (n := 4)); exact rfl; (focus (decide +kernel)); (focus (decide +kernel)); exact rfl; (focus (exact y7 _)); exact rfl; exact rfl) | ((with_reducible apply Step.ix1z); exact rfl; (focus (exact Sl.mk (by omega))); exact rfl; (focus (decide +kernel)); exact rfl; (focus (omega))) | ((with_reducible apply Step.add); exact rfl; exact rfl; (focus (omega)); exact rfl) | ((with_reducible apply Step.eql); exact rfl; exact rfl; exact rfl) | ((with_reducible apply Step.callR fit); exact rfl; exact Tryd.func74; exact rfl; exact rfl; exact (P1 _)) | ((with_reducible apply Step.callR fit); exact rfl; exact Tryd.func75; exact rfl; exact rfl; exact (P2 _)) | ((with_reducible apply Step.callR fit); exact rfl; exact Tryd.func64; exact rfl; exact rfl; exact (n1 _)) | ((with_reducible apply Step.callR fit); exact rfl; exact Tryd.func64; exact rfl; exact rfl; exact (n2 _))) | (apply AWf.cons; exact rfl) | exact ⟨put_same _ _ _, rfl⟩ | ((with_reducible apply AWf.nil))))
        exact (by repeat (first | exact trivial | (refine And.intro rfl ?_)))
      intro t2' ht2
      refine Then.n ?_
      refine AW.weak ht2 ?_
      by_cases hc : va + vb = vv
      · rw [decide_eq_true hc] at hct ⊢
        rw [hpl hct]
        (repeat (((with_reducible apply AW.condT); exact rfl; (focus (rfl)))))
        refine AW.seq ?_
        have hbs : ∀ e ∈ [(0, sv), (1, kv), (2, .slice (some ⟨q, 0, none⟩) (total (bw B) (bh B)) (total (bw B) (bh B))), (7, .pointer (some ⟨m.length + 0, 0, none⟩)), (9, .int .i64 ((rowOf B 0).size : Nat)), (10, .int .i64 (B.length : Nat)), (11, .int .i64 vv), (16, .int .i64 (i + 1 : Nat))], e.1 < 86 := fun e he => by
          simp only [List.mem_cons, List.not_mem_nil, or_false] at he
          rcases he with rfl | rfl | rfl | rfl | rfl | rfl | rfl | rfl <;> simp
        have hb8 : ∀ e ∈ [(0, sv), (1, kv), (2, .slice (some ⟨q, 0, none⟩) (total (bw B) (bh B)) (total (bw B) (bh B))), (7, .pointer (some ⟨m.length + 0, 0, none⟩)), (9, .int .i64 ((rowOf B 0).size : Nat)), (10, .int .i64 (B.length : Nat)), (11, .int .i64 vv), (16, .int .i64 (i + 1 : Nat))], e.1 ≠ 8 := fun e he => by
          simp only [List.mem_cons, List.not_mem_nil, or_false] at he
          rcases he with rfl | rfl | rfl | rfl | rfl | rfl | rfl | rfl <;> simp
        refine AW.anyI fit (RI (M0 ++ []) [(0, sv), (1, kv), (2, .slice (some ⟨q, 0, none⟩) (total (bw B) (bh B)) (total (bw B) (bh B))), (7, .pointer (some ⟨m.length + 0, 0, none⟩)), (9, .int .i64 ((rowOf B 0).size : Nat)), (10, .int .i64 (B.length : Nat)), (11, .int .i64 vv), (16, .int .i64 (i + 1 : Nat))] 86 (pvP sv kv (.slice (some ⟨q, 0, none⟩) (total (bw B) (bh B)) (total (bw B) (bh B))) (.agg r.rc.cells.toArray) (.agg g1.cells.toArray) (.agg g2.cells.toArray) 2 (i + 1 : Nat)) (2, ((i + 1 : Nat) : Int), false) p1 p2) (by decide +kernel) (RI.start (fun e he => by
          simp only [List.mem_cons, List.not_mem_nil, or_false] at he
          rcases he with rfl | rfl | rfl | rfl | rfl | rfl | rfl | rfl <;> rfl)) ?_ ?_
        · intro k o ho L t M hI hLi hdep
          rcases k with _ | _ | _ | _ | _ | _ | _ | _ | _ | _ | _ | _ | _ | _ | _ | _ | _ | _ | _ | _ | k
          · injection ho with ho; subst ho
            exact Step.move (hI.old (16, .int .i64 (i + 1 : Nat)) (by simp)) rfl (hI.put hbs (by decide) (j := 0) rfl (by decide))
          · injection ho with ho; subst ho
            have d1 : t 86 = _ := hI.pure 0 _ rfl (hdep 0 (by decide))
            exact Step.build (ws := [.int .i64 2, .int .i64 (i + 1 : Nat), .bool false]) (by simp [evL, evo, d1, Sim.g1, Sim.g0]) bl63 rfl (hI.put hbs (by decide) (j := 1) rfl (by decide))
          · injection ho with ho; subst ho
            have d1 : t 87 = _ := hI.pure 1 _ rfl (hdep 1 (by decide))
            exact Step.buildG (ws := [.agg #[.int .i64 2, .int .i64 (i + 1 : Nat), .bool false]]) (by simp [evL, evo, d1]) (fun _ _ => bs58) rfl (hI.setLit hbs (by decide) rfl)
          · injection ho with ho; subst ho
            exact Step.move (hI.old (0, sv) (by simp)) rfl (hI.put hbs (by decide) (j := 3) rfl (by decide))
          · injection ho with ho; subst ho
            exact Step.move (hI.old (1, kv) (by simp)) rfl (hI.put hbs (by decide) (j := 4) rfl (by decide))
          · injection ho with ho; subst ho
            exact Step.move (hI.old (2, .slice (some ⟨q, 0, none⟩) (total (bw B) (bh B)) (total (bw B) (bh B))) (by simp)) rfl (hI.put hbs (by decide) (j := 5) rfl (by decide))
          · injection ho with ho; subst ho
            obtain ⟨N, hN⟩ := hI.mem
            exact Step.loadL (n := 4) (c := r.rc.cells) (hI.old (7, .pointer (some ⟨m.length + 0, 0, none⟩)) (by simp)) (by decide +kernel) (by decide +kernel) rfl (by rw [hN]; exact (y7 _).old _) rfl rfl (hI.put hbs (by decide) (j := 6) rfl (by decide))
          · injection ho with ho; subst ho
            exact Step.move (hI.old (16, .int .i64 (i + 1 : Nat)) (by simp)) rfl (hI.put hbs (by decide) (j := 7) rfl (by decide))
          · injection ho with ho; subst ho
            have d1 : t 92 = _ := hI.pure 6 _ rfl (hdep 6 (by decide))
            have d2 : t 93 = _ := hI.pure 7 _ rfl (hdep 7 (by decide))
            exact Step.callR fit (vs := [.agg r.rc.cells.toArray, .int .i64 (i + 1 : Nat)]) (by simp [evL, evo, d1, d2]) Tryd.func74 rfl rfl (P1 _) (hI.put hbs (by decide) (j := 8) rfl (by decide))
          · injection ho with ho; subst ho
            obtain ⟨N, hN⟩ := hI.mem
            have d1 : t 89 = _ := hI.pure 3 _ rfl (hdep 3 (by decide))
            have d2 : t 90 = _ := hI.pure 4 _ rfl (hdep 4 (by decide))
            have d3 : t 91 = _ := hI.pure 5 _ rfl (hdep 5 (by decide))
            have d4 : t 94 = _ := hI.pure 8 _ rfl (hdep 8 (by decide))
            exact Step.callX fit (vs := [sv, kv, .slice (some ⟨q, 0, none⟩) (total (bw B) (bh B)) (total (bw B) (bh B)), .agg g1.cells.toArray]) (by simp [evL, evo, d1, d2, d3, d4]) Tryd.func85 rfl rfl (i1 (by rw [hN]; exact (S0 _).old _) (by rw [hN]; exact (K0 _).old _) (by rw [hN]; exact get_old _ (hq0 _))) fun v M' hM hP => by
              rw [List.append_nil M']
              exact hI.setOne hbs (by decide) rfl hM hP
          · injection ho with ho; subst ho
            obtain ⟨a, e1, e2, e3⟩ := hI.lit (hdep 2 (by decide))
            obtain ⟨b, kd, sz, f1, f2, f3⟩ := hI.one (hdep 9 (by decide))
            exact Step.appOXg (x := .tmp 88) (y := .tmp 95) e1 f1 el58 un58 rfl f2 (e3 hLi) rfl (f3 hLi) (ndc_len _) (ndc_one _) (by omega) rfl (hI.setApp hbs (by decide) rfl)
          · injection ho with ho; subst ho
            exact Step.move (hI.old (0, sv) (by simp)) rfl (hI.put hbs (by decide) (j := 11) rfl (by decide))
          · injection ho with ho; subst ho
            exact Step.move (hI.old (1, kv) (by simp)) rfl (hI.put hbs (by decide) (j := 12) rfl (by decide))
          · injection ho with ho; subst ho
            exact Step.move (hI.old (2, .slice (some ⟨q, 0, none⟩) (total (bw B) (bh B)) (total (bw B) (bh B))) (by simp)) rfl (hI.put hbs (by decide) (j := 13) rfl (by decide))
          · injection ho with ho; subst ho
            obtain ⟨N, hN⟩ := hI.mem
            exact Step.loadL (n := 4) (c := r.rc.cells) (hI.old (7, .pointer (some ⟨m.length + 0, 0, none⟩)) (by simp)) (by decide +kernel) (by decide +kernel) rfl (by rw [hN]; exact (y7 _).old _) rfl rfl (hI.put hbs (by decide) (j := 14) rfl (by decide))
          · injection ho with ho; subst ho
            exact Step.move (hI.old (16, .int .i64 (i + 1 : Nat)) (by simp)) rfl (hI.put hbs (by decide) (j := 15) rfl (by decide))
          · injection ho with ho; subst ho
            have d1 : t 100 = _ := hI.pure 14 _ rfl (hdep 14 (by decide))
            have d2 : t 101 = _ := hI.pure 15 _ rfl (hdep 15 (by decide))
            exact Step.callR fit (vs := [.agg r.rc.cells.toArray, .int .i64 (i + 1 : Nat)]) (by simp [evL, evo, d1, d2]) Tryd.func75 rfl rfl (P2 _) (hI.put hbs (by decide) (j := 16) rfl (by decide))
          · injection ho with ho; subst ho
            obtain ⟨N, hN⟩ := hI.mem
            have d1 : t 97 = _ := hI.pure 11 _ rfl (hdep 11 (by decide))
            have d2 : t 98 = _ := hI.pure 12 _ rfl (hdep 12 (by decide))
            have d3 : t 99 = _ := hI.pure 13 _ rfl (hdep 13 (by decide))
            have d4 : t 102 = _ := hI.pure 16 _ rfl (hdep 16 (by decide))
            exact Step.callX fit (vs := [sv, kv, .slice (some ⟨q, 0, none⟩) (total (bw B) (bh B)) (total (bw B) (bh B)), .agg g2.cells.toArray]) (by simp [evL, evo, d1, d2, d3, d4]) Tryd.func85 rfl rfl (i2 (by rw [hN]; exact (S0 _).old _) (by rw [hN]; exact (K0 _).old _) (by rw [hN]; exact get_old _ (hq0 _))) fun v M' hM hP => by
              rw [List.append_nil M']
              exact hI.setTwo hbs (by decide) rfl hM hP
          · injection ho with ho; subst ho
            obtain ⟨a, e1, e2, e3⟩ := hI.app (hdep 10 (by decide))
            obtain ⟨b, kd, sz, f1, f2, f3⟩ := hI.two (hdep 17 (by decide))
            exact Step.appGXg (x := .tmp 96) (y := .tmp 103) e1 f1 el58 un58 rfl f2 (e3 hLi) (by rw [List.length_append, ndc_len]; simp [ndc1]; omega) (f3 hLi) (ndc_len _) (ndc_one _) (by omega) rfl (hI.setAll hbs (by decide) rfl (hdep 10 (by decide)) hLi e2)
          · injection ho with ho; subst ho
            obtain ⟨w, w1, w2⟩ := hI.setRes hb8 (by decide) rfl (hdep 18 (by decide))
            exact Step.assign (x := .tmp 104) w1 rfl w2
          · simp at ho
        · intro L t M hall2 hI
          obtain ⟨_, a, e1, e2, e3⟩ := hI.res (hall2 19 (by decide))
          obtain ⟨N, hN⟩ := hI.mem
          obtain ⟨N0, hN0⟩ := hMN
          refine Then.n ?_
          refine AW.weak (fr_all (l := [(8, .slice (some ⟨a, 0, none⟩) (1 + p1.length + p2.length) (1 + p1.length + p2.length))]) ⟨e1, trivial⟩) ?_
          (refine AW.ret ?_; (repeat (first | refine Then.r ?_ | refine InBlk.r ?_)))
          refine ⟨_, rfl, N0 ++ ([] ++ N), by rw [hN, hN0]; simp only [List.append_assoc], PL.cons (a := a) ?_ e3⟩
          rw [hN0] at e2
          simp only [List.length_append] at e2
          omega
      · rw [decide_eq_false hc] at hct ⊢
        (repeat (first | (with_reducible refine AWo.cons ?_) | ((with_reducible refine Step.id ?_); first | ((with_reducible apply Step.move); exact rfl; exact rfl) | ((with_reducible apply Step.assign); exact rfl; exact rfl) | ((with_reducible apply Step.add); exact rfl; exact rfl; (focus (omega)); exact rfl)) | (with_reducible refine AWo.nil ?_) | ((with_reducible apply Then.n)) | ((with_reducible apply AW.regL)) | ((with_reducible apply InBlk.n)) | ((with_reducible apply AW.skip)) | ((with_reducible apply AW.condF); exact rfl; (focus (rfl)))))
        exact ⟨_, [(0, sv), (1, kv), (2, .slice (some ⟨q, 0, none⟩) (total (bw B) (bh B)) (total (bw B) (bh B))), (7, .pointer (some ⟨m.length + 0, 0, none⟩)), (9, .int .i64 ((rowOf B 0).size : Nat)), (10, .int .i64 (B.length : Nat)), (11, .int .i64 vv), (16, .int .i64 (i + 1 + 1 : Nat))], [], by omega, (Or.inl ⟨rfl, (by repeat (first | exact trivial | (refine And.intro rfl ?_)))⟩), i + 1, rfl, by omega, fun j hj => by
          rcases Nat.lt_succ_iff_lt_or_eq.1 hj with h' | h'
          · exact hall j h'
          · rw [h', hct], rfl, rfl⟩
    · have hnt := no_lq (q := ctQ B K r true) (n := r.len true - 1) fun j hj => hall j (by omega)
      clear hall
      (repeat (first | (with_reducible refine AWo.cons ?_) | ((with_reducible refine Step.id ?_); first | ((with_reducible apply Step.move); exact rfl; exact rfl) | ((with_reducible apply Step.assign); exact rfl; exact rfl) | ((with_reducible apply Step.load); exact rfl; (focus (decide +kernel)); exact rfl; (focus (exact yltrue _))) | ((with_reducible apply Step.field (k := 2)); exact rfl; (focus (decide +kernel)); exact rfl) | ((with_reducible apply Step.lss); exact rfl; exact rfl; exact rfl)) | (with_reducible refine AWo.nil ?_) | ((with_reducible apply AW.seq)) | ((with_reducible apply Then.n)) | ((with_reducible apply AW.regL)) | ((with_reducible apply AW.block)) | ((with_reducible apply AW.exit)) | ((with_reducible apply InBlk.hit)) | ((with_reducible apply Then.e)) | ((with_reducible apply AW.condF); exact rfl; (focus ((simp only [decide_eq_true_eq, decide_eq_false_iff_not, Bool.not_eq_true', Bool.not_eq_false', Bool.not_true, Bool.not_false]; first | assumption | omega))))))
      refine AW.loopT (fun n t L => ∃ i : Nat, n = r.len false - i ∧ i + 1 ≤ r.len false ∧ (∀ j, j < i → ctQ B K r false j = false) ∧ L = [] ∧ t = [(0, sv), (1, kv), (2, .slice (some ⟨q, 0, none⟩) (total (bw B) (bh B)) (total (bw B) (bh B))), (7, .pointer (some ⟨m.length + 0, 0, none⟩)), (9, .int .i64 ((rowOf B 0).size : Nat)), (10, .int .i64 (B.length : Nat)), (11, .int .i64 vv), (17, .int .i64 (i + 1 : Nat))]) ⟨_, [(0, sv), (1, kv), (2, .slice (some ⟨q, 0, none⟩) (total (bw B) (bh B)) (total (bw B) (bh B))), (7, .pointer (some ⟨m.length + 0, 0, none⟩)), (9, .int .i64 ((rowOf B 0).size : Nat)), (10, .int .i64 (B.length : Nat)), (11, .int .i64 vv), (17, .int .i64 1)], _, (Or.inl ⟨rfl, (by repeat (first | exact trivial | (refine And.intro rfl ?_)))⟩), 0, rfl, by omega, fun j hj => by omega, rfl, rfl⟩ ?_
      rintro n t L ⟨i, rfl, hi, hall, rfl, rfl⟩
      rcases Nat.lt_or_ge (i + 1) (r.len false) with hil | hil
      · have o1 := lo_ok hr (d := false) (i := i + 1) (by omega) (by omega)
        have o2 := hi_ok hr (d := false) (i := i + 1) (by omega) (by omega)
        have s1 := lo_size hr (d := false) (i := i + 1) (by omega) (by omega)
        have s2 := hi_size hr (d := false) (i := i + 1) (by omega) (by omega)
        have P1 := fun M => top_ok (m := M) r (i + 1)
        have P2 := fun M => bottom_ok (m := M) r (i := i + 1) (by omega) h16
        change ∀ M, ACall Tryd.prog 76 #[.agg r.rc.cells.toArray, _] _ (Ret (.agg (r.lo false (i + 1)).rc.cells.toArray) _) at P1
        change ∀ M, ACall Tryd.prog 77 #[.agg r.rc.cells.toArray, _] _ (Ret (.agg (r.hi false (i + 1)).rc.cells.toArray) _) at P2
        have n1 := fun M => hN M _ o1
        have n2 := fun M => hN M _ o2
        have a1 := hat _ o1
        have a2 := hat _ o2
        have V1 := V_in hg o1
        have V2 := V_in hg o2
        have t1 := hrd _ o1
        have t2 := hrd _ o2
        have i1 := @ih _ o1 (by omega)
        have i2 := @ih _ o2 (by omega)
        have hct : ctQ B K r false i = decide (V (leafM B K) (r.lo false (i + 1)) + V (leafM B K) (r.hi false (i + 1)) = vv) := by rw [← hvv]; rfl
        have hpl := fun ha => plM_false h0 hnp hnt (f := f) (i := i) (by omega) hall ha
        have ll1 := hlen (r.lo false (i + 1))
        have ll2 := hlen (r.hi false (i + 1))
        generalize plM B K f (r.lo false (i + 1)) = p1 at *
        generalize plM B K f (r.hi false (i + 1)) = p2 at *
        generalize V (leafM B K) (r.lo false (i + 1)) = va at *
        generalize V (leafM B K) (r.hi false (i + 1)) = vb at *
        generalize (r.lo false (i + 1)).at (bw B) (bh B) = x1 at *
        generalize (r.hi false (i + 1)).at (bw B) (bh B) = x2 at *
        generalize hg1 : (r.lo false (i + 1)).rc = g1 at *
        generalize hg2 : (r.hi false (i + 1)).rc = g2 at *
        (repeat (first | (with_reducible refine AWo.cons ?_) | ((with_reducible refine Step.id ?_); first | ((with_reducible apply Step.move); exact rfl; exact rfl) | ((with_reducible apply Step.load); exact rfl; (focus (decide +kernel)); exact rfl; (focus (exact ylfalse _))) | ((with_reducible apply Step.field (k := 3)); exact rfl; (focus (decide +kernel)); exact rfl) | ((with_reducible apply Step.lss); exact rfl; exact rfl; exact rfl)) | (with_reducible refine AWo.nil ?_) | ((fail_if_success (with_reducible refine AW.atR (id := 17) ?_)); ((with_reducible apply AW.seq))) | ((with_reducible apply Then.n)) | ((with_reducible apply AW.regL)) | ((with_reducible apply AW.block)) | ((with_reducible apply AW.skip)) | ((with_reducible apply AW.condT); exact rfl; (focus ((simp only [decide_eq_true_eq, decide_eq_false_iff_not, Bool.not_eq_true', Bool.not_eq_false', Bool.not_true, Bool.not_false]; first | assumption | omega))))))
        refine AW.seq ?_
        refine AW.flatN fit [(0, sv), (1, kv), (2, .slice (some ⟨q, 0, none⟩) (total (bw B) (bh B)) (total (bw B) (bh B))), (7, .pointer (some ⟨m.length + 0, 0, none⟩)), (9, .int .i64 ((rowOf B 0).size : Nat)), (10, .int .i64 (B.length : Nat)), (11, .int .i64 vv), (17, .int .i64 (i + 1 : Nat))] [(0, sv), (1, kv), (2, .slice (some ⟨q, 0, none⟩) (total (bw B) (bh B)) (total (bw B) (bh B))), (7, .pointer (some ⟨m.length + 0, 0, none⟩)), (9, .int .i64 ((rowOf B 0).size : Nat)), (10, .int .i64 (B.length : Nat)), (11, .int .i64 vv), (17, .int .i64 (i + 1 : Nat)), (131, .bool (decide (va + vb = vv)))] [0, 1, 2, 7, 9, 10, 11, 17] [[], [], [], [], [], [1, 0], [4, 3, 0, 0], [6, 0], [0], [], [], [], [], [], [1, 0, 7], [4, 3, 0, 0], [6, 0], [0], [9, 0], [], [1, 0]] (by repeat (first | exact trivial | (refine And.intro rfl ?_))) rfl (by decide +kernel) ?_ ?_
        · (repeat (first | ((with_reducible refine Step.id ?_); first | ((with_reducible apply Step.move); exact rfl; exact rfl) | ((with_reducible apply Step.load); exact rfl; (focus (decide +kernel)); exact rfl; (focus (first | exact t1 _ | exact t2 _))) | ((with_reducible apply Step.loadL (n := 4)); exact rfl; (focus (decide +kernel)); (focus (decide +kernel)); exact rfl; (focus (exact y7 _)); exact rfl; exact rfl) | ((with_reducible apply Step.ix1z); exact rfl; (focus (exact Sl.mk (by omega))); exact rfl; (focus (decide +kernel)); exact rfl; (focus (omega))) | ((with_reducible apply Step.add); exact rfl; exact rfl; (focus (omega)); exact rfl) | ((with_reducible apply Step.eql); exact rfl; exact rfl; exact rfl) | ((with_reducible apply Step.callR fit); exact rfl; exact Tryd.func76; exact rfl; exact rfl; exact (P1 _)) | ((with_reducible apply Step.callR fit); exact rfl; exact Tryd.func77; exact rfl; exact rfl; exact (P2 _)) | ((with_reducible apply Step.callR fit); exact rfl; exact Tryd.func64; exact rfl; exact rfl; exact (n1 _)) | ((with_reducible apply Step.callR fit); exact rfl; exact Tryd.func64; exact rfl; exact rfl; exact (n2 _))) | (apply AWf.cons; exact rfl) | exact ⟨put_same _ _ _, rfl⟩ | ((with_reducible apply AWf.nil))))
          exact (by repeat (first | exact trivial | (refine And.intro rfl ?_)))
        intro t2' ht2
        refine Then.n ?_
        refine AW.weak ht2 ?_
        by_cases hc : va + vb = vv
        · rw [decide_eq_true hc] at hct ⊢
          rw [hpl hct]
          (repeat (((with_reducible apply AW.condT); exact rfl; (focus (rfl)))))
          refine AW.seq ?_
          have hbs : ∀ e ∈ [(0, sv), (1, kv), (2, .slice (some ⟨q, 0, none⟩) (total (bw B) (bh B)) (total (bw B) (bh B))), (7, .pointer (some ⟨m.length + 0, 0, none⟩)), (9, .int .i64 ((rowOf B 0).size : Nat)), (10, .int .i64 (B.length : Nat)), (11, .int .i64 vv), (17, .int .i64 (i + 1 : Nat))], e.1 < 132 := fun e he => by
            simp only [List.mem_cons, List.not_mem_nil, or_false] at he
            rcases he with rfl | rfl | rfl | rfl | rfl | rfl | rfl | rfl <;> simp
          have hb8 : ∀ e ∈ [(0, sv), (1, kv), (2, .slice (some ⟨q, 0, none⟩) (total (bw B) (bh B)) (total (bw B) (bh B))), (7, .pointer (some ⟨m.length + 0, 0, none⟩)), (9, .int .i64 ((rowOf B 0).size : Nat)), (10, .int .i64 (B.length : Nat)), (11, .int .i64 vv), (17, .int .i64 (i + 1 : Nat))], e.1 ≠ 8 := fun e he => by
            simp only [List.mem_cons, List.not_mem_nil, or_false] at he
            rcases he with rfl | rfl | rfl | rfl | rfl | rfl | rfl | rfl <;> simp
          refine AW.anyI fit (RI (M0 ++ []) [(0, sv), (1, kv), (2, .slice (some ⟨q, 0, none⟩) (total (bw B) (bh B)) (total (bw B) (bh B))), (7, .pointer (some ⟨m.length + 0, 0, none⟩)), (9, .int .i64 ((rowOf B 0).size : Nat)), (10, .int .i64 (B.length : Nat)), (11, .int .i64 vv), (17, .int .i64 (i + 1 : Nat))] 132 (pvP sv kv (.slice (some ⟨q, 0, none⟩) (total (bw B) (bh B)) (total (bw B) (bh B))) (.agg r.rc.cells.toArray) (.agg g1.cells.toArray) (.agg g2.cells.toArray) 3 (i + 1 : Nat)) (3, ((i + 1 : Nat) : Int), false) p1 p2) (by decide +kernel) (RI.start (fun e he => by
            simp only [List.mem_cons, List.not_mem_nil, or_false] at he
            rcases he with rfl | rfl | rfl | rfl | rfl | rfl | rfl | rfl <;> rfl)) ?_ ?_
          · intro k o ho L t M hI hLi hdep
            rcases k with _ | _ | _ | _ | _ | _ | _ | _ | _ | _ | _ | _ | _ | _ | _ | _ | _ | _ | _ | _ | k
            · injection ho with ho; subst ho
              exact Step.move (hI.old (17, .int .i64 (i + 1 : Nat)) (by simp)) rfl (hI.put hbs (by decide) (j := 0) rfl (by decide))
            · injection ho with ho; subst ho
              have d1 : t 132 = _ := hI.pure 0 _ rfl (hdep 0 (by decide))
              exact Step.build (ws := [.int .i64 3, .int .i64 (i + 1 : Nat), .bool false]) (by simp [evL, evo, d1, Sim.g1, Sim.g0]) bl63 rfl (hI.put hbs (by decide) (j := 1) rfl (by decide))
            · injection ho with ho; subst ho
              have d1 : t 133 = _ := hI.pure 1 _ rfl (hdep 1 (by decide))
              exact Step.buildG (ws := [.agg #[.int .i64 3, .int .i64 (i + 1 : Nat), .bool false]]) (by simp [evL, evo, d1]) (fun _ _ => bs58) rfl (hI.setLit hbs (by decide) rfl)
            · injection ho with ho; subst ho
              exact Step.move (hI.old (0, sv) (by simp)) rfl (hI.put hbs (by decide) (j := 3) rfl (by decide))
            · injection ho with ho; subst ho
              exact Step.move (hI.old (1, kv) (by simp)) rfl (hI.put hbs (by decide) (j := 4) rfl (by decide))
            · injection ho with ho; subst ho
              exact Step.move (hI.old (2, .slice (some ⟨q, 0, none⟩) (total (bw B) (bh B)) (total (bw B) (bh B))) (by simp)) rfl (hI.put hbs (by decide) (j := 5) rfl (by decide))
            · injection ho with ho; subst ho
              obtain ⟨N, hN⟩ := hI.mem
              exact Step.loadL (n := 4) (c := r.rc.cells) (hI.old (7, .pointer (some ⟨m.length + 0, 0, none⟩)) (by simp)) (by decide +kernel) (by decide +kernel) rfl (by rw [hN]; exact (y7 _).old _) rfl rfl (hI.put hbs (by decide) (j := 6) rfl (by decide))
            · injection ho with ho; subst ho
              exact Step.move (hI.old (17, .int .i64 (i + 1 : Nat)) (by simp)) rfl (hI.put hbs (by decide) (j := 7) rfl (by decide))
            · injection ho with ho; subst ho
              have d1 : t 138 = _ := hI.pure 6 _ rfl (hdep 6 (by decide))
              have d2 : t 139 = _ := hI.pure 7 _ rfl (hdep 7 (by decide))
              exact Step.callR fit (vs := [.agg r.rc.cells.toArray, .int .i64 (i + 1 : Nat)]) (by simp [evL, evo, d1, d2]) Tryd.func76 rfl rfl (P1 _) (hI.put hbs (by decide) (j := 8) rfl (by decide))
            · injection ho with ho; subst ho
              obtain ⟨N, hN⟩ := hI.mem
              have d1 : t 135 = _ := hI.pure 3 _ rfl (hdep 3 (by decide))
              have d2 : t 136 = _ := hI.pure 4 _ rfl (hdep 4 (by decide))
              have d3 : t 137 = _ := hI.pure 5 _ rfl (hdep 5 (by decide))
              have d4 : t 140 = _ := hI.pure 8 _ rfl (hdep 8 (by decide))
              exact Step.callX fit (vs := [sv, kv, .slice (some ⟨q, 0, none⟩) (total (bw B) (bh B)) (total (bw B) (bh B)), .agg g1.cells.toArray]) (by simp [evL, evo, d1, d2, d3, d4]) Tryd.func85 rfl rfl (i1 (by rw [hN]; exact (S0 _).old _) (by rw [hN]; exact (K0 _).old _) (by rw [hN]; exact get_old _ (hq0 _))) fun v M' hM hP => by
                rw [List.append_nil M']
                exact hI.setOne hbs (by decide) rfl hM hP
            · injection ho with ho; subst ho
              obtain ⟨a, e1, e2, e3⟩ := hI.lit (hdep 2 (by decide))
              obtain ⟨b, kd, sz, f1, f2, f3⟩ := hI.one (hdep 9 (by decide))
              exact Step.appOXg (x := .tmp 134) (y := .tmp 141) e1 f1 el58 un58 rfl f2 (e3 hLi) rfl (f3 hLi) (ndc_len _) (ndc_one _) (by omega) rfl (hI.setApp hbs (by decide) rfl)
            · injection ho with ho; subst ho
              exact Step.move (hI.old (0, sv) (by simp)) rfl (hI.put hbs (by decide) (j := 11) rfl (by decide))
            · injection ho with ho; subst ho
              exact Step.move (hI.old (1, kv) (by simp)) rfl (hI.put hbs (by decide) (j := 12) rfl (by decide))
            · injection ho with ho; subst ho
              exact Step.move (hI.old (2, .slice (some ⟨q, 0, none⟩) (total (bw B) (bh B)) (total (bw B) (bh B))) (by simp)) rfl (hI.put hbs (by decide) (j := 13) rfl (by decide))
            · injection ho with ho; subst ho
              obtain ⟨N, hN⟩ := hI.mem
              exact Step.loadL (n := 4) (c := r.rc.cells) (hI.old (7, .pointer (some ⟨m.length + 0, 0, none⟩)) (by simp)) (by decide +kernel) (by decide +kernel) rfl (by rw [hN]; exact (y7 _).old _) rfl rfl (hI.put hbs (by decide) (j := 14) rfl (by decide))
            · injection ho with ho; subst ho
              exact Step.move (hI.old (17, .int .i64 (i + 1 : Nat)) (by simp)) rfl (hI.put hbs (by decide) (j := 15) rfl (by decide))
            · injection ho with ho; subst ho
              have d1 : t 146 = _ := hI.pure 14 _ rfl (hdep 14 (by decide))
              have d2 : t 147 = _ := hI.pure 15 _ rfl (hdep 15 (by decide))
              exact Step.callR fit (vs := [.agg r.rc.cells.toArray, .int .i64 (i + 1 : Nat)]) (by simp [evL, evo, d1, d2]) Tryd.func77 rfl rfl (P2 _) (hI.put hbs (by decide) (j := 16) rfl (by decide))
            · injection ho with ho; subst ho
              obtain ⟨N, hN⟩ := hI.mem
              have d1 : t 143 = _ := hI.pure 11 _ rfl (hdep 11 (by decide))
              have d2 : t 144 = _ := hI.pure 12 _ rfl (hdep 12 (by decide))
              have d3 : t 145 = _ := hI.pure 13 _ rfl (hdep 13 (by decide))
              have d4 : t 148 = _ := hI.pure 16 _ rfl (hdep 16 (by decide))
              exact Step.callX fit (vs := [sv, kv, .slice (some ⟨q, 0, none⟩) (total (bw B) (bh B)) (total (bw B) (bh B)), .agg g2.cells.toArray]) (by simp [evL, evo, d1, d2, d3, d4]) Tryd.func85 rfl rfl (i2 (by rw [hN]; exact (S0 _).old _) (by rw [hN]; exact (K0 _).old _) (by rw [hN]; exact get_old _ (hq0 _))) fun v M' hM hP => by
                rw [List.append_nil M']
                exact hI.setTwo hbs (by decide) rfl hM hP
            · injection ho with ho; subst ho
              obtain ⟨a, e1, e2, e3⟩ := hI.app (hdep 10 (by decide))
              obtain ⟨b, kd, sz, f1, f2, f3⟩ := hI.two (hdep 17 (by decide))
              exact Step.appGXg (x := .tmp 142) (y := .tmp 149) e1 f1 el58 un58 rfl f2 (e3 hLi) (by rw [List.length_append, ndc_len]; simp [ndc1]; omega) (f3 hLi) (ndc_len _) (ndc_one _) (by omega) rfl (hI.setAll hbs (by decide) rfl (hdep 10 (by decide)) hLi e2)
            · injection ho with ho; subst ho
              obtain ⟨w, w1, w2⟩ := hI.setRes hb8 (by decide) rfl (hdep 18 (by decide))
              exact Step.assign (x := .tmp 150) w1 rfl w2
            · simp at ho
          · intro L t M hall2 hI
            obtain ⟨_, a, e1, e2, e3⟩ := hI.res (hall2 19 (by decide))
            obtain ⟨N, hN⟩ := hI.mem
            obtain ⟨N0, hN0⟩ := hMN
            refine Then.n ?_
            refine AW.weak (fr_all (l := [(8, .slice (some ⟨a, 0, none⟩) (1 + p1.length + p2.length) (1 + p1.length + p2.length))]) ⟨e1, trivial⟩) ?_
            (refine AW.ret ?_; (repeat (first | refine Then.r ?_ | refine InBlk.r ?_)))
            refine ⟨_, rfl, N0 ++ ([] ++ N), by rw [hN, hN0]; simp only [List.append_assoc], PL.cons (a := a) ?_ e3⟩
            rw [hN0] at e2
            simp only [List.length_append] at e2
            omega
        · rw [decide_eq_false hc] at hct ⊢
          (repeat (first | (with_reducible refine AWo.cons ?_) | ((with_reducible refine Step.id ?_); first | ((with_reducible apply Step.move); exact rfl; exact rfl) | ((with_reducible apply Step.assign); exact rfl; exact rfl) | ((with_reducible apply Step.add); exact rfl; exact rfl; (focus (omega)); exact rfl)) | (with_reducible refine AWo.nil ?_) | ((with_reducible apply Then.n)) | ((with_reducible apply AW.regL)) | ((with_reducible apply InBlk.n)) | ((with_reducible apply AW.skip)) | ((with_reducible apply AW.condF); exact rfl; (focus (rfl)))))
          exact ⟨_, [(0, sv), (1, kv), (2, .slice (some ⟨q, 0, none⟩) (total (bw B) (bh B)) (total (bw B) (bh B))), (7, .pointer (some ⟨m.length + 0, 0, none⟩)), (9, .int .i64 ((rowOf B 0).size : Nat)), (10, .int .i64 (B.length : Nat)), (11, .int .i64 vv), (17, .int .i64 (i + 1 + 1 : Nat))], [], by omega, (Or.inl ⟨rfl, (by repeat (first | exact trivial | (refine And.intro rfl ?_)))⟩), i + 1, rfl, by omega, fun j hj => by
            rcases Nat.lt_succ_iff_lt_or_eq.1 hj with h' | h'
            · exact hall j h'
            · rw [h', hct], rfl, rfl⟩
      · exfalso
        exact no_lq (q := ctQ B K r false) (n := r.len false - 1) (fun j hj => hall j (by omega)) (plan_open hr h0 hnp hnt)
end Go.Proofs.YtibhgdglbillaaaDoor.Abs
namespace Go.Proofs.YtibhgdglbillaaaDoor.Abs
set_option linter.unusedSimpArgs false
set_option linter.unusedVariables false
open Go.RowKit
open Go.Proofs.YtibhgdglbillaaaDoor.Sim
open Go.Proofs
def stripB (n x : Int) : Bool := decide (1 ≤ x ∧ x ≤ n)
def stripsB (n : Int) (l : List Int) : Bool := decide (1 ≤ n) && decide (n ≤ 2000) && decide (l.length ≤ 14) && l.all (stripB n)
structure SpOk (n : Int) (l : List Int) : Prop where
  n1 : 1 ≤ n
  n2 : n ≤ 2000
  len : l.length ≤ 14
  at_ : ∀ i, i < l.length → 1 ≤ l.getD i 0 ∧ l.getD i 0 ≤ n
theorem SpOk.of {n : Int} {l : List Int} (h : stripsB n l = true) : SpOk n l := by
  simp only [stripsB, Bool.and_eq_true, decide_eq_true_eq, List.all_eq_true] at h
  obtain ⟨⟨⟨h1, h2⟩, h3⟩, h4⟩ := h
  refine ⟨h1, h2, h3, fun i hi => ?_⟩
  have := h4 (l.getD i 0) (by simp [hi])
  simpa [stripB] using this
end Go.Proofs.YtibhgdglbillaaaDoor.Abs
namespace Go.Proofs.YtibhgdglbillaaaDoor.Abs
set_option linter.unusedSimpArgs false
set_option linter.unusedVariables false
open Go.RowKit
open Go.Proofs.YtibhgdglbillaaaDoor.Sim
open Go.Proofs
section
variable {P : Program} {nt : Nat} {ops : Array Oper} {t : Fm} {m : AM} {K : Fm → AM → Prop} {d T : Nat} {p : String} {af : Array Edge}
theorem still_eqI {X : TypeId} (hX : P.underlying X = some (.int .i64)) (n : Nat) (a b : Int) : Sim.still P (Op.equalIn (n + 1) X (.int .i64 a) (.int .i64 b)) = some (a == b) := by
  rw [Op.equalIn]
  show Sim.still P (Sem.bind (underlying X) _) = _
  rw [still_bind, still_und hX]
  rfl
/-- The fields of a node. -/
def ndF : Array Field := #[⟨"Op", 3, 0, false, "", "", 0⟩, ⟨"Arg", 3, 1, false, "", "", 8⟩, ⟨"Turned", 4, 2, false, "", "", 16⟩]
theorem un63s : Tryd.prog.underlying 63 = some (.struct ndF) := by kernel_rfl
theorem forIn3 {α σ : Type} (x y z : α) (s : σ) (f : α → σ → Sem (ForInStep σ)) : (forIn #[x, y, z] s f : Sem σ) = (do match ← f x s with | .done b => pure b | .yield b => match ← f y b with | .done b => pure b | .yield b => match ← f z b with | .done b => pure b | .yield b => pure b) := by
  simp [List.forIn_cons, List.forIn_nil]
  exact congrArg (fun g => f x s >>= g) (funext fun u => by
    cases u with
    | done b => rfl
    | yield b => exact congrArg (fun g => f y b >>= g) (funext fun v => by
        cases v with
        | done b => rfl
        | yield b => exact congrArg (fun g => f z b >>= g) (funext fun w => by cases w <;> rfl)))
theorem part_ndI {a b x : Int} {c : Bool} {k : Nat} (hk : (#[Value.int .i64 a, .int .i64 b, .bool c] : Array Value)[k]? = some (.int .i64 x)) : Sim.still Tryd.prog (part 3 #[.int .i64 a, .int .i64 b, .bool c] k) = some (.int .i64 x) := by
  unfold part
  have ha : Sim.still Tryd.prog (isAgg 3) = some false := by kernel_rfl
  show Sim.still Tryd.prog (Sem.bind (isAgg 3) _) = _
  rw [still_bind, ha]
  simp only [hk]
  rfl
theorem part_ndB {a b : Int} {c x : Bool} {k : Nat} (hk : (#[Value.int .i64 a, .int .i64 b, .bool c] : Array Value)[k]? = some (.bool x)) : Sim.still Tryd.prog (part 4 #[.int .i64 a, .int .i64 b, .bool c] k) = some (.bool x) := by
  unfold part
  have ha : Sim.still Tryd.prog (isAgg 4) = some false := by kernel_rfl
  show Sim.still Tryd.prog (Sem.bind (isAgg 4) _) = _
  rw [still_bind, ha]
  simp only [hk]
  rfl
set_option maxRecDepth 100000 in
theorem still_eqN {X : TypeId} (hX : Tryd.prog.underlying X = some (.struct ndF)) (hs : Tryd.prog.stoodInHeld X = false) (n : Nat) (a b a' b' : Int) (c c' : Bool) :
    Sim.still Tryd.prog (Op.equalIn (n + 1 + 1) X (.agg #[.int .i64 a, .int .i64 b, .bool c]) (.agg #[.int .i64 a', .int .i64 b', .bool c'])) = some (a == a' && b == b' && c == c') := by
  have h3 := fun (x y : Int) => still_eqI (P := Tryd.prog) un3 n x y
  have h4 := still_eqB (P := Tryd.prog) un4 n c c'
  have p0 := part_ndI (a := a) (b := b) (c := c) (k := 0) rfl
  have p1 := part_ndI (a := a) (b := b) (c := c) (k := 1) rfl
  have p2 := part_ndB (a := a) (b := b) (c := c) (k := 2) rfl
  have q0 := part_ndI (a := a') (b := b') (c := c') (k := 0) rfl
  have q1 := part_ndI (a := a') (b := b') (c := c') (k := 1) rfl
  have q2 := part_ndB (a := a') (b := b') (c := c') (k := 2) rfl
  rw [Op.equalIn]
  show Sim.still Tryd.prog (Sem.bind (underlying X) _) = _
  rw [still_bind, still_und hX]
  show Sim.still Tryd.prog (Sem.bind program _) = _
  have hp : Sim.still Tryd.prog program = some Tryd.prog := rfl
  rw [still_bind, hp]
  simp only [hs]
  unfold ndF
  simp only [forIn3]
  by_cases e1 : a = a'
  · subst e1
    by_cases e2 : b = b'
    · subst e2
      simp [bind, still_bind, p0, q0, p1, q1, p2, q2, h3, h4, pure, Sim.still]
      cases c <;> cases c' <;> rfl
    · have e2' : (b == b') = false := by simp [e2]
      simp [bind, still_bind, p0, q0, p1, q1, h3, pure, Sim.still, e2']
  · have e1' : (a == a') = false := by simp [e1]
    simp [bind, still_bind, p0, q0, h3, pure, Sim.still, e1']
end
section
variable {nt : Nat} {ops : Array Oper} {t : Fm} {m : AM} {K : Fm → AM → Prop} {d T : Nat} {p : String} {af : Array Edge}
set_option maxRecDepth 100000 in
theorem Step.neqN {x y : Operand} {Y : TypeId} {a b : Int} {c : Bool} (hx : evo t x = some (.agg #[.int .i64 a, .int .i64 b, .bool c])) (hy : evo t y = some (.agg #[.int .i64 a, .int .i64 b, .bool c])) (hlt : Nat.blt d nt = true) (hK : K (put t d (.bool false)) m) : Step Tryd.prog nt ops ⟨some d, .binOp .neq 63 x y Y, T, p, af, none⟩ t m K := by
  refine .ground rfl rfl hlt (by simp [Op.operands, hx, hy, g1, g0]) (fun h => by simp only [aquiet, evD_of hx, evD_of hy, aint, anil, un63s]; simpa [evD_of hx, evD_of hy] using h) ?_ (by simp [g1, g0]) hK
  have he : Sim.still Tryd.prog (Op.equal 63 (.agg #[.int .i64 a, .int .i64 b, .bool c]) (.agg #[.int .i64 a, .int .i64 b, .bool c])) = some (a == a && b == b && c == c) := still_eqN un63s (by kernel_rfl) 9998 a b a b c c
  simp only [beq_self_eq_true, Bool.and_self] at he
  have hgt : Tryd.prog.eqGuardType Tryd.prog.depth 63 = false := by kernel_rfl
  have hp : Sim.still Tryd.prog program = some Tryd.prog := rfl
  simp only [execOp, eqGuard, binOp, evD_of hx, evD_of hy, bind, Sem.bind, pure]
  simp [still_bind, hp, hgt, he, Sim.still]
end
end Go.Proofs.YtibhgdglbillaaaDoor.Abs
namespace Go.Proofs.YtibhgdglbillaaaDoor.Abs
set_option linter.unusedSimpArgs false
set_option linter.unusedVariables false
/-- Cut in one direction, down to what the base gives. -/
def WW (base : R4 → Int) (d : Bool) : Nat → R4 → Int
  | 0, _ => 0
  | f + 1, r => max (base r) (cutM (WW base d f) r d)
def W (base : R4 → Int) (d : Bool) (r : R4) : Int := WW base d r.size r
section
variable {base base' leaf : R4 → Int} {w h : Nat} {d : Bool}
/-- With t changes of direction left, below a cut in direction d. -/
def SS (leaf : R4 → Int) : Nat → Bool → R4 → Int
  | 0, d => W leaf d
  | t + 1, d => W (fun r => max (leaf r) (cutM (SS leaf t (!d)) r (!d))) d
end
end Go.Proofs.YtibhgdglbillaaaDoor.Abs
namespace Go.Proofs.YtibhgdglbillaaaDoor.Abs
set_option linter.unusedSimpArgs false
set_option linter.unusedVariables false
open Go.RowKit
open Go.Proofs.YtibhgdglbillaaaDoor.Sim
open Go.Proofs
section
variable (leaf : R4 → Int) (w h : Nat)
/-- The tables with t changes left hold what they should. -/
def SI2 (t : Nat) (D : R4 → Prop) (s : List Int × List Int) : Prop := TabI (SS leaf t true) w h D s.1 ∧ TabI (SS leaf t false) w h D s.2
end
section
variable {leaf : R4 → Int} {w h : Nat} {t : Nat} {pv : List Int × List Int}
theorem SI2.zero : SI2 leaf w h t (fun _ => False) (List.replicate (total w h) 0, List.replicate (total w h) 0) := ⟨TabI.zero, TabI.zero⟩
end
end Go.Proofs.YtibhgdglbillaaaDoor.Abs
namespace Go.Proofs.YtibhgdglbillaaaDoor.Abs
set_option linter.unusedSimpArgs false
set_option linter.unusedVariables false
open Go.RowKit
open Go.Proofs.YtibhgdglbillaaaDoor.Sim
open Go.Proofs
/-- Two blocks of numbers. -/
def M2 (M : AM) (q0 q1 : Nat) (s : List Int × List Int) : AM := MI (MI M q0 s.1) q1 s.2
section
variable {M M0 L T : AM} {q0 q1 : Nat} {s : List Int × List Int}
theorem M2.len : (M2 M q0 q1 s).length = M.length := by unfold M2; rw [MI.len, MI.len]
theorem M2.at0 (h : q0 ≠ q1) (h0 : q0 < M.length) : (M2 M q0 q1 s)[q0]? = some (some { cells := iv s.1 }) := by unfold M2; rw [MI.ne h]; exact MI.at h0
theorem M2.at1 (h1 : q1 < M.length) : (M2 M q0 q1 s)[q1]? = some (some { cells := iv s.2 }) := by unfold M2; exact MI.at (by rw [MI.len]; exact h1)
theorem M2.flat (h : q0 ≠ q1) (h0 : q0 < M.length) (h1 : q1 < M.length) (s s' : List Int × List Int) (n j : Nat) (b : Blk) (hj : (M2 M q0 q1 s')[j]? = some (some b)) : (j < M.length ∧ (M2 M q0 q1 s)[j]? = some (some b)) ∨ (isMapK b.kind = false ∧ ∀ x ∈ b.cells, Ren rid n x x) := by
  by_cases e1 : j = q1
  · subst e1
    rw [M2.at1 h1] at hj
    simp only [Option.some.injEq] at hj
    subst hj
    exact .inr ⟨rfl, fun x hx => Ren.of_g0 (g0_iv _ x hx)⟩
  by_cases e0 : j = q0
  · subst e0
    rw [M2.at0 h h0] at hj
    simp only [Option.some.injEq] at hj
    subst hj
    exact .inr ⟨rfl, fun x hx => Ren.of_g0 (g0_iv _ x hx)⟩
  unfold M2 at hj ⊢
  rw [MI.ne e1, MI.ne e0] at hj
  exact .inl ⟨(List.getElem?_eq_some_iff.1 hj).1, by rw [MI.ne e1, MI.ne e0]; exact hj⟩
theorem M2.same (h : q0 ≠ q1) (h0 : M[q0]? = some (some { cells := iv s.1 })) (h1 : M[q1]? = some (some { cells := iv s.2 })) : M2 M q0 q1 s = M := by
  unfold M2 MI
  have e0 := List.getElem?_eq_some_iff.1 h0
  have e1 := List.getElem?_eq_some_iff.1 h1
  rw [← e0.2, List.set_getElem_self, ← e1.2, List.set_getElem_self]
theorem M2.rd {a o : Nat} {x : Value} (h0 : a ≠ q0) (h1 : a ≠ q1) (hr : Rd M a o x) : Rd (M2 M q0 q1 s) a o x := by
  unfold M2
  exact MI.rd h1 (MI.rd h0 hr)
end
end Go.Proofs.YtibhgdglbillaaaDoor.Abs
namespace Go.Proofs.YtibhgdglbillaaaDoor.Abs
set_option linter.unusedSimpArgs false
set_option linter.unusedVariables false
open Go.RowKit
open Go.Proofs.YtibhgdglbillaaaDoor.Sim
open Go.Proofs
theorem M2.ne {M : AM} {q0 q1 a : Nat} {s : List Int × List Int} (h0 : a ≠ q0) (h1 : a ≠ q1) : (M2 M q0 q1 s)[a]? = M[a]? := by unfold M2; rw [MI.ne h1, MI.ne h0]
end Go.Proofs.YtibhgdglbillaaaDoor.Abs
namespace Go.Proofs.YtibhgdglbillaaaDoor.Abs
set_option linter.unusedSimpArgs false
set_option linter.unusedVariables false
open Go.RowKit
open Go.Proofs.YtibhgdglbillaaaDoor.Sim
open Go.Proofs
section
variable {P : Program} {nt d : Nat} {ops : Array Oper} {T : TypeId} {p : String} {af : Array Edge} {t : Fm} {m : AM} {K : Fm → AM → Prop}
end
theorem kds_at {m L : AM} {k : Nat} {l : List Kd} (h : L[k]? = some (gb (kvc l) 5)) : Kds (m ++ L) (gv (m.length + k) l.length) l := by
  have hlt : m.length + k < (m ++ L).length := by
    rw [List.length_append]
    have := (List.getElem?_eq_some_iff.1 h).1
    omega
  refine ⟨m.length + k, 0, gv_sl _ _, hlt, fun i hi => ?_⟩
  have hp : 0 < (kvc l).length := by rw [kvc_len]; omega
  rw [gb_pos hp] at h
  refine ⟨_, by rw [get_app]; exact h, fun j v hj => ?_⟩
  rw [Nat.zero_add]
  exact kvc_get l i hi j v hj
end Go.Proofs.YtibhgdglbillaaaDoor.Abs
namespace Go.Proofs.YtibhgdglbillaaaDoor.Abs
set_option linter.unusedSimpArgs false
set_option linter.unusedVariables false
open Go.RowKit
open Go.Proofs.YtibhgdglbillaaaDoor.Sim
open Go.Proofs
set_option maxRecDepth 100000 in
theorem equalN_ok {m : AM} {v w : Value} {l : List Nd} (hl : Nds m v l) (hk : Nds m w l) (hlen : l.length ≤ 9223372036854775807) : ACall Tryd.prog 36 #[v, w] m (Ret (.bool true) m) := by
  obtain ⟨a, o, h1, h2, h3⟩ := hl
  obtain ⟨c, u, k1, k2, k3⟩ := hk
  refine ACall.start Tryd.func36 rfl rfl ?_
  (repeat (first | (with_reducible refine AWo.cons ?_) | ((with_reducible refine Step.id ?_); first | ((with_reducible apply Step.move); exact rfl; exact rfl) | ((with_reducible apply Step.assign); exact rfl; exact rfl) | ((with_reducible apply Step.neq); exact rfl; exact rfl; exact rfl) | ((with_reducible apply Step.len); exact rfl; (focus (assumption)); (focus (decide +kernel)); exact rfl)) | (with_reducible refine AWo.nil ?_) | ((with_reducible apply AW.seq)) | ((with_reducible apply Then.n)) | ((with_reducible apply AW.regL)) | ((with_reducible apply AW.block)) | ((with_reducible apply AW.skip)) | ((with_reducible apply AW.condF); exact rfl; (focus ((simp; done))))))
  refine AW.loopT (fun n t L => ∃ i : Nat, n = l.length - i ∧ i ≤ l.length ∧ L = [] ∧
    t = [(0, v), (1, w), (12, .int .i64 (l.length : Nat)), (13, .int .i64 (i : Nat))]) ⟨_, _, _, (Or.inl ⟨rfl, (by repeat (first | exact trivial | (refine And.intro rfl ?_)))⟩), 0, rfl, Nat.zero_le _, rfl, rfl⟩ ?_
  rintro n t L ⟨i, rfl, hi, rfl, rfl⟩
  rcases Nat.lt_or_ge i l.length with hlt | hge
  · have r1 := h3 i hlt
    have r2 := k3 i hlt
    generalize l.getD i (0, 0, false) = x at *
    obtain ⟨xa, xb, xc⟩ := x
    simp only [ndc1] at r1 r2
    (repeat (first | (with_reducible refine AWo.cons ?_) | ((with_reducible refine Step.id ?_); first | ((with_reducible apply Step.move); exact rfl; exact rfl) | ((with_reducible apply Step.assign); exact rfl; exact rfl) | ((with_reducible apply Step.loadL (n := 3)); exact rfl; (focus (decide +kernel)); (focus (decide +kernel)); exact rfl; (focus (exact RdL.old _ (by assumption))); exact rfl; exact rfl) | ((with_reducible apply Step.ix (s := 3)); exact rfl; (focus (assumption)); exact rfl; (focus (decide +kernel)); exact rfl; (focus (omega))) | ((with_reducible apply Step.lss); exact rfl; exact rfl; exact rfl)) | (with_reducible refine AWo.nil ?_) | ((with_reducible apply AW.seq)) | ((with_reducible apply Then.n)) | ((with_reducible apply AW.regL)) | ((with_reducible apply AW.block)) | ((with_reducible apply AW.drawL fit); (focus (decide +kernel))) | ((with_reducible apply AW.skip)) | ((with_reducible apply AW.condT); exact rfl; (focus ((simp only [decide_eq_true_eq, decide_eq_false_iff_not, Bool.not_eq_true', Bool.not_eq_false', Bool.not_true, Bool.not_false]; first | assumption | omega))))))
    ((with_reducible apply Step.neqN); exact rfl; exact rfl; exact rfl)
    (repeat (first | (with_reducible refine AWo.cons ?_) | ((with_reducible refine Step.id ?_); first | ((with_reducible apply Step.move); exact rfl; exact rfl) | ((with_reducible apply Step.add); exact rfl; exact rfl; (focus (omega)); exact rfl)) | (with_reducible refine AWo.nil ?_) | ((with_reducible apply Then.n)) | ((with_reducible apply AW.regL)) | ((with_reducible apply InBlk.n)) | ((with_reducible apply AW.skip)) | ((with_reducible apply AW.condF); exact rfl; (focus (rfl)))))
    exact ⟨_, _, _, by omega, (Or.inl ⟨rfl, (by repeat (first | exact trivial | (refine And.intro rfl ?_)))⟩), i + 1, rfl, by omega, rfl, rfl⟩
  · (repeat (first | (with_reducible refine AWo.cons ?_) | ((with_reducible refine Step.id ?_); first | ((with_reducible apply Step.assign); exact rfl; exact rfl) | ((with_reducible apply Step.lss); exact rfl; exact rfl; exact rfl)) | (with_reducible refine AWo.nil ?_) | ((with_reducible apply AW.seq)) | ((with_reducible apply Then.n)) | ((with_reducible apply AW.regL)) | ((with_reducible apply AW.exit)) | ((with_reducible apply InBlk.hit)) | ((with_reducible apply Then.e)) | ((with_reducible apply AW.condF); exact rfl; (focus ((simp only [decide_eq_true_eq, decide_eq_false_iff_not, Bool.not_eq_true', Bool.not_eq_false', Bool.not_true, Bool.not_false]; first | assumption | omega))))))
    (refine AW.retD (l := [(4, _)]) (by repeat (first | exact trivial | (refine And.intro ⟨rfl, by (exact .bool _)⟩ ?_))) ?_; (repeat (first | refine Then.r ?_ | refine InBlk.r ?_)))
    exact ⟨_, rfl, rfl, rfl⟩
set_option maxHeartbeats 8000000 in
set_option maxRecDepth 100000 in
theorem RPlan_no {m : AM} {sv kv : Value} {B : Brd} {K : List Kd} (hs : Strs m sv B) (hk : Kds m kv K) (hg : goodB B K = false) :
    ACall Tryd.prog 35 #[sv, kv] m (Ret (.tuple #[.slice none 0 0, .int .i64 2]) m) := by
  have hG := fun T => RGood_ok (hs.old T) (hk.old T)
  rw [hg] at hG
  refine ACall.start Tryd.func35 rfl rfl ?_
  (repeat (first | (with_reducible refine AWo.cons ?_) | ((with_reducible refine Step.id ?_); first | ((with_reducible apply Step.move); exact rfl; exact rfl) | ((with_reducible apply Step.assign); exact rfl; exact rfl) | ((with_reducible apply Step.not); exact rfl; exact rfl) | ((with_reducible apply Step.callR fit); exact rfl; exact Tryd.func24; exact rfl; exact rfl; exact (hG _))) | (with_reducible refine AWo.nil ?_) | ((with_reducible apply AW.seq)) | ((with_reducible apply Then.n)) | ((with_reducible apply AW.regL)) | ((with_reducible apply AW.condT); exact rfl; (focus (rfl)))))
  (refine AW.retD (l := [(4, _), (5, _)]) (by repeat (first | exact trivial | (refine And.intro ⟨rfl, by (first | exact .int _ _ | exact Ren.of_g0 rfl)⟩ ?_))) ?_; (repeat (first | refine Then.r ?_ | refine InBlk.r ?_)))
  exact ⟨_, rfl, rfl, rfl⟩
set_option maxHeartbeats 8000000 in
set_option maxRecDepth 100000 in
theorem RPlan_ok {m : AM} {sv kv : Value} {B : Brd} {K : List Kd} (hs : Strs m sv B) (hk : Kds m kv K) (hg : goodB B K = true) :
    ACall Tryd.prog 35 #[sv, kv] m (More (fun M v => ∃ w, v = .tuple #[w, .int .i64 0] ∧ PL m.length (planM B K) M w) m) := by
  have hgb : boardB B = true := by simp only [goodB, Bool.and_eq_true] at hg; exact hg.1
  have hin := good_in hgb
  have hok : (wholeR B).ok (bw B) (bh B) := by
    simp only [R4.ok, wholeR]
    omega
  have hsz : (wholeR B).size ≤ 32 := by
    simp only [R4.size, wholeR]
    omega
  have hb0 : 0 < B.length := hin.1
  have hG := fun T => RGood_ok (hs.old T) (hk.old T)
  rw [hg] at hG
  have hT := fun T => Table_ok (hs.old T) (hk.old T) hg
  have hP := fun {M : AM} {q : Nat} (h0 : Strs M sv B) (h1 : Kds M kv K) (h2 : M[q]? = some (some { cells := iv (boardT B K) })) => planned_ok hg 32 (Nat.le_refl _) hok hsz h0 h1 h2
  change ∀ {M : AM} {q : Nat}, _ → _ → _ → ACall Tryd.prog 85 #[_, _, _, .agg #[.int .i64 0, .int .i64 0, .int .i64 ((rowOf B 0).size : Nat), .int .i64 (B.length : Nat)]] M _ at hP
  obtain ⟨A1, O1, sl1, la1, rd1⟩ := id hs
  have r0 := rd1 0 hb0
  refine ACall.start Tryd.func35 rfl rfl ?_
  (repeat (first | (with_reducible refine AWo.cons ?_) | ((with_reducible refine Step.id ?_); first | ((with_reducible apply Step.move); exact rfl; exact rfl) | ((with_reducible apply Step.assign); exact rfl; exact rfl) | ((with_reducible apply Step.not); exact rfl; exact rfl) | ((with_reducible apply Step.callR fit); exact rfl; exact Tryd.func24; exact rfl; exact rfl; exact (hG _))) | (with_reducible refine AWo.nil ?_) | ((fail_if_success (with_reducible refine AW.atR (id := 3) ?_)); ((with_reducible apply AW.seq))) | ((with_reducible apply Then.n)) | ((with_reducible apply AW.regL)) | ((with_reducible apply AW.skip)) | ((with_reducible apply AW.condF); exact rfl; (focus (rfl)))))
  (repeat' (first | ((with_reducible refine Step.id ?_); first | ((with_reducible apply Step.move); exact rfl; exact rfl) | ((with_reducible apply Step.load); exact rfl; (focus (decide +kernel)); exact rfl; (focus (exact Rd.old _ (by assumption)))) | ((with_reducible apply Step.ix1); exact rfl; (focus (assumption)); exact rfl; (focus (decide +kernel)); exact rfl; (focus (omega))) | ((with_reducible apply Step.lenS); exact rfl; exact un9; exact rfl) | ((with_reducible apply Step.len); exact rfl; (focus (assumption)); (focus (decide +kernel)); exact rfl) | ((with_reducible apply Step.callN fit (k := 0)); exact rfl; exact rfl; exact Tryd.func83; exact rfl; exact rfl; exact (hT _); (focus (first | (simp only [List.nil_append, List.cons_append, List.set_cons_zero, List.set_cons_succ, iv_set, bv_set, iv_rep, bv_rep]; done) | (simp only [List.nil_append, List.cons_append, List.set_cons_zero, List.set_cons_succ, iv_set, bv_set, iv_rep, bv_rep]; rfl) | rfl))) | ((with_reducible apply Step.build); exact rfl; exact bl23w; exact rfl)) | ((with_reducible apply AW.seq)) | ((with_reducible apply AW.drawT fit (T := (.step 0 (.step 1 (.step 2 (.step 3 (.step 5 (.step 6 (.step 9 (.step 10 (.both (.step 4 (.step 7 (.step 8 (.step 11 (.step 12 (.step 13 (.step 14 .done))))))) (.step 7 (.step 8 (.step 11 (.step 4 (.step 12 (.step 13 (.step 14 .done)))))))))))))))))); (focus (decide +kernel))) | ((with_reducible apply AWt.step); exact rfl) | refine AWt.both ?_ ?_))
  all_goals
    ((with_reducible apply Step.callX fit); exact rfl; exact Tryd.func85; exact rfl; exact rfl; exact (hP (hs.old _) (hk.old _) (by rw [get_app]; rfl)))
    rintro _ m1 ⟨N1, hN1⟩ ⟨a, kd, sz, q1, rfl, q2, q3, q4⟩
    have hm1 : ∃ N, m1 = m ++ N := ⟨_, by rw [hN1, List.append_assoc]⟩
    have hma : m.length ≤ a := by
      simp only [List.length_append] at q1
      omega
    clear hN1
    (repeat' (first | ((with_reducible refine Step.id ?_); ((with_reducible apply Step.assign); exact rfl; exact rfl)) | ((with_reducible apply Then.n)) | ((with_reducible apply AWt.step); exact rfl) | ((with_reducible apply AWt.done))))
    all_goals
      (refine AW.ret ?_; (repeat (first | refine Then.r ?_ | refine InBlk.r ?_)))
      obtain ⟨N, hN⟩ := hm1
      exact ⟨_, rfl, N ++ [], by rw [hN, List.append_assoc], _, rfl, a, kd, sz, hma, rfl, q2, by rw [List.append_nil]; exact q3, q4⟩
set_option maxHeartbeats 8000000 in
set_option maxRecDepth 100000 in
theorem RBest_no {m : AM} {sv kv : Value} {B : Brd} {K : List Kd} (hs : Strs m sv B) (hk : Kds m kv K) (hg : goodB B K = false) :
    ACall Tryd.prog 33 #[sv, kv] m (Ret (.tuple #[.int .i64 0, .int .i64 2]) m) := by
  have hG := fun T => RGood_ok (hs.old T) (hk.old T)
  rw [hg] at hG
  refine ACall.start Tryd.func33 rfl rfl ?_
  (repeat (first | (with_reducible refine AWo.cons ?_) | ((with_reducible refine Step.id ?_); first | ((with_reducible apply Step.move); exact rfl; exact rfl) | ((with_reducible apply Step.assign); exact rfl; exact rfl) | ((with_reducible apply Step.not); exact rfl; exact rfl) | ((with_reducible apply Step.callR fit); exact rfl; exact Tryd.func24; exact rfl; exact rfl; exact (hG _))) | (with_reducible refine AWo.nil ?_) | ((with_reducible apply AW.seq)) | ((with_reducible apply Then.n)) | ((with_reducible apply AW.regL)) | ((with_reducible apply AW.condT); exact rfl; (focus (rfl)))))
  (refine AW.retD (l := [(4, _), (5, _)]) (by repeat (first | exact trivial | (refine And.intro ⟨rfl, by (exact .int _ _)⟩ ?_))) ?_; (repeat (first | refine Then.r ?_ | refine InBlk.r ?_)))
  exact ⟨_, rfl, rfl, rfl⟩
set_option maxHeartbeats 8000000 in
set_option maxRecDepth 100000 in
theorem CutBest_ok {m : AM} {sv kv : Value} {B : Brd} {K : List Kd} (hs : Strs m sv B) (hk : Kds m kv K) (hkl : K.length ≤ 9223372036854775807) :
    ACall Tryd.prog 9 #[sv, kv] m (Ret (.bool true) m) := by
  have h3 := fun T => of_ok (hk.old T) hkl
  have hM : 0 < m.length := by obtain ⟨A1, O1, sl1, la1, rd1⟩ := hs; omega
  cases hg : goodB B K with
  | false =>
    have hg' : goodB B (K.take 14) = false := by rw [good_take]; exact hg
    refine ACall.start Tryd.func9 rfl rfl ?_
    (repeat (first | (with_reducible refine AWo.cons ?_) | ((with_reducible refine Step.id ?_); first | ((with_reducible apply Step.gdT); exact rfl; exact rfl; (focus (rfl))) | ((with_reducible apply Step.move); exact rfl; exact rfl) | ((with_reducible apply Step.assign); exact rfl; exact rfl) | ((with_reducible apply Step.eql); exact rfl; exact rfl; exact rfl) | ((with_reducible apply Step.extract); exact rfl; exact rfl; exact rfl) | ((with_reducible apply Step.pickT); exact rfl; exact rfl; exact rfl; exact rfl; (focus (rfl))) | ((with_reducible apply Step.callG fit (k := 0)); exact rfl; exact rfl; exact Tryd.func23; exact rfl; exact rfl; exact (h3 _); (focus (first | (simp only [List.nil_append, List.cons_append, List.set_cons_zero, List.set_cons_succ, iv_set, bv_set, iv_rep, bv_rep]; done) | (simp only [List.nil_append, List.cons_append, List.set_cons_zero, List.set_cons_succ, iv_set, bv_set, iv_rep, bv_rep]; rfl) | rfl))) | ((with_reducible apply Step.callG fit (k := 1)); exact rfl; exact rfl; exact Tryd.func23; exact rfl; exact rfl; exact (h3 _); (focus (first | (simp only [List.nil_append, List.cons_append, List.set_cons_zero, List.set_cons_succ, iv_set, bv_set, iv_rep, bv_rep]; done) | (simp only [List.nil_append, List.cons_append, List.set_cons_zero, List.set_cons_succ, iv_set, bv_set, iv_rep, bv_rep]; rfl) | rfl))) | ((with_reducible apply Step.callR fit); exact rfl; exact Tryd.func22; exact rfl; exact rfl; exact (Best_no (hs.old _) (kds_at (l := K.take 14) rfl) hg')) | ((with_reducible apply Step.callR fit); exact rfl; exact Tryd.func33; exact rfl; exact rfl; exact (RBest_no (hs.old _) (hk.old _) hg)) | ((with_reducible apply Step.callR fit); exact rfl; exact Tryd.func34; exact rfl; exact rfl; exact (Plan_no (hs.old _) (kds_at (l := K.take 14) rfl) hg')) | ((with_reducible apply Step.callR fit); exact rfl; exact Tryd.func35; exact rfl; exact rfl; exact (RPlan_no (hs.old _) (hk.old _) hg)) | ((with_reducible apply Step.callG fit (k := 2)); exact rfl; exact rfl; exact Tryd.func37; exact rfl; exact rfl; exact (own_ok ((Nds.nil hM).old _) (by decide)); (focus (first | (simp only [List.nil_append, List.cons_append, List.set_cons_zero, List.set_cons_succ, iv_set, bv_set, iv_rep, bv_rep]; done) | (simp only [List.nil_append, List.cons_append, List.set_cons_zero, List.set_cons_succ, iv_set, bv_set, iv_rep, bv_rep]; rfl) | rfl))) | ((with_reducible apply Step.callR fit); exact rfl; exact Tryd.func36; exact rfl; exact rfl; exact (equalN_ok (nds_gv (l := []) rfl) ((Nds.nil hM).old _) (by decide))) | ((with_reducible apply Step.callR fit); exact rfl; exact Tryd.func21; exact rfl; exact rfl; exact (awake_ok))) | (with_reducible refine AWo.nil ?_) | ((with_reducible apply AW.seq)) | ((with_reducible apply Then.n)) | ((with_reducible apply AW.regL))))
    (refine AW.retD (l := [(4, _)]) (by repeat (first | exact trivial | (refine And.intro ⟨rfl, by (exact .bool _)⟩ ?_))) ?_; (repeat (first | refine Then.r ?_ | refine InBlk.r ?_)))
    exact ⟨_, rfl, rfl, rfl⟩
  | true =>
    have et := good_len hg
    rw [et] at h3
    have hpl : (planM B K).length ≤ 4294967296 := by
      have := plM_len (B := B) (K := K) 32 (wholeR B)
      unfold planM
      omega
    refine ACall.drop (.bool _) ?_
    refine ACall.start Tryd.func9 rfl rfl ?_
    (repeat (first | (with_reducible refine AWo.cons ?_) | ((with_reducible refine Step.id ?_); first | ((with_reducible apply Step.move); exact rfl; exact rfl) | ((with_reducible apply Step.assign); exact rfl; exact rfl) | ((with_reducible apply Step.extract); exact rfl; exact rfl; exact rfl) | ((with_reducible apply Step.callG fit (k := 0)); exact rfl; exact rfl; exact Tryd.func23; exact rfl; exact rfl; exact (h3 _); (focus (first | (simp only [List.nil_append, List.cons_append, List.set_cons_zero, List.set_cons_succ, iv_set, bv_set, iv_rep, bv_rep]; done) | (simp only [List.nil_append, List.cons_append, List.set_cons_zero, List.set_cons_succ, iv_set, bv_set, iv_rep, bv_rep]; rfl) | rfl))) | ((with_reducible apply Step.callG fit (k := 1)); exact rfl; exact rfl; exact Tryd.func23; exact rfl; exact rfl; exact (h3 _); (focus (first | (simp only [List.nil_append, List.cons_append, List.set_cons_zero, List.set_cons_succ, iv_set, bv_set, iv_rep, bv_rep]; done) | (simp only [List.nil_append, List.cons_append, List.set_cons_zero, List.set_cons_succ, iv_set, bv_set, iv_rep, bv_rep]; rfl) | rfl))) | ((with_reducible apply Step.callR fit); exact rfl; exact Tryd.func22; exact rfl; exact rfl; exact (Best_ok (hs.old _) (kds_at (l := K) rfl) hg)) | ((with_reducible apply Step.callR fit); exact rfl; exact Tryd.func33; exact rfl; exact rfl; exact (RBest_ok (hs.old _) (hk.old _) hg))) | (with_reducible refine AWo.nil ?_) | ((with_reducible apply AW.seq)) | ((with_reducible apply Then.n)) | ((with_reducible apply AW.regL))))
    ((with_reducible apply Step.callX fit); exact rfl; exact Tryd.func34; exact rfl; exact rfl; exact (Plan_ok (hs.old _) (kds_at (l := K) rfl) hg))
    rintro _ m1 ⟨N1, hN1⟩ ⟨w, rfl, hw⟩
    have hs1 : ∀ T, Strs (m1 ++ T) sv B := fun T => by rw [hN1]; exact ((hs.old _).old _).old _
    have hk1 : ∀ T, Kds (m1 ++ T) kv K := fun T => by rw [hN1]; exact ((hk.old _).old _).old _
    have n1 := Nds.of_pl hw
    have hm1 : ∃ N, m1 = m ++ N := ⟨_, by rw [hN1, List.append_assoc]⟩
    clear hN1 hw
    (repeat (first | (with_reducible refine AWo.cons ?_) | ((with_reducible refine Step.id ?_); first | ((with_reducible apply Step.move); exact rfl; exact rfl) | ((with_reducible apply Step.assign); exact rfl; exact rfl) | ((with_reducible apply Step.extract); exact rfl; exact rfl; exact rfl)) | (with_reducible refine AWo.nil ?_) | ((with_reducible apply AW.seq)) | ((with_reducible apply Then.n)) | ((with_reducible apply AW.regL))))
    ((with_reducible apply Step.callX fit); exact rfl; exact Tryd.func35; exact rfl; exact rfl; exact (RPlan_ok (hs1 _) (hk1 _) hg))
    rintro _ m2 ⟨N2, hN2⟩ ⟨w2, rfl, hw2⟩
    have n2 := Nds.of_pl hw2
    have n1' : Nds m2 w (planM B K) := by rw [hN2]; exact (n1.old _).old _
    have hm2 : ∃ N, m2 = m ++ N := by
      obtain ⟨N, hN⟩ := hm1
      exact ⟨_, by rw [hN2, hN]; simp only [List.append_assoc]; rfl⟩
    clear hN2 hw2 n1 hs1 hk1
    generalize bestM B K = b at *
    generalize planM B K = l at *
    (repeat (first | (with_reducible refine AWo.cons ?_) | ((with_reducible refine Step.id ?_); first | ((with_reducible apply Step.gdT); exact rfl; exact rfl; (focus (first | rfl | (simp; done)))) | ((with_reducible apply Step.move); exact rfl; exact rfl) | ((with_reducible apply Step.assign); exact rfl; exact rfl) | ((with_reducible apply Step.eql); exact rfl; exact rfl; exact rfl) | ((with_reducible apply Step.extract); exact rfl; exact rfl; exact rfl) | ((with_reducible apply Step.pickT); exact rfl; exact rfl; exact rfl; exact rfl; (focus (first | rfl | (simp; done)))) | ((with_reducible apply Step.callG fit (k := 0)); exact rfl; exact rfl; exact Tryd.func37; exact rfl; exact rfl; exact (own_ok (n1'.old _) hpl); (focus (first | (simp only [List.nil_append, List.cons_append, List.set_cons_zero, List.set_cons_succ, iv_set, bv_set, iv_rep, bv_rep]; done) | (simp only [List.nil_append, List.cons_append, List.set_cons_zero, List.set_cons_succ, iv_set, bv_set, iv_rep, bv_rep]; rfl) | rfl))) | ((with_reducible apply Step.callR fit); exact rfl; exact Tryd.func36; exact rfl; exact rfl; exact (equalN_ok (nds_gv (l := l) rfl) (n2.old _) (by omega))) | ((with_reducible apply Step.callR fit); exact rfl; exact Tryd.func21; exact rfl; exact rfl; exact (awake_ok))) | (with_reducible refine AWo.nil ?_) | ((with_reducible apply AW.seq)) | ((with_reducible apply Then.n)) | ((with_reducible apply AW.regL))))
    (refine AW.ret ?_; (repeat (first | refine Then.r ?_ | refine InBlk.r ?_)))
    obtain ⟨N, hN⟩ := hm2
    exact ⟨_, rfl, by simp, N ++ _, by rw [hN, List.append_assoc]⟩
end Go.Proofs.YtibhgdglbillaaaDoor.Abs
namespace Go.Proofs.YtibhgdglbillaaaDoor.Abs
set_option linter.unusedSimpArgs false
set_option linter.unusedVariables false
open Go.RowKit
open Go.Proofs.YtibhgdglbillaaaDoor.Sim
open Go.ChangeShapes Go.WideShapes Go.Deep
def RelSelf (v : Value) : Prop := ∃ c, v = .agg c ∧ ∀ R, Rel R (.agg c) (.agg c)
def Okarg3 (W : World) (a : AR) : Prop := Okarg W a ∨ RelSelf a.1
theorem top_call3 {P : Program} {f : FuncId} {W : World} (ars : List AR) (h : ∀ a ∈ ars, Okarg3 W a) (hc : ACall P f (mkVs 0 ars).toArray (ars.map mkB) (Ret (.bool true) (ars.map mkB))) :
    Calls P f (ars.map (·.1)).toArray W fun e w' => e = .returned (.bool true) ∧ Below W.heap.size W w' := by
  let R : Pl := fun i => (ars[i]?).bind mkP
  have hm : MRep W.heap.size R (ars.map mkB) W := by
    refine ⟨fun i hi => ?_, fun i b hi => ?_, fun i j b c p q hi hj hb _ _ _ _ => ?_⟩
    · simp only [List.length_map] at hi
      simp [R, List.getElem?_eq_none hi]
    · rw [List.getElem?_map] at hi
      cases ha : ars[i]? with
      | none => rw [ha] at hi; cases hi
      | some a =>
        rw [ha] at hi
        simp only [Option.map_some, Option.some.injEq] at hi
        obtain ⟨v, c⟩ := a
        rcases h _ (List.mem_of_getElem? ha) with (h1 | ⟨bb, o, n, cap, h1, h2, h3, h4, h5⟩) | ⟨l, h1, hl⟩
        · simp only at h1
          cases v with
          | slice x n cap => cases x with
            | none => simp [mkB] at hi
            | some x => simp [g0] at h1
          | _ => simp [mkB] at hi
        · simp only at h1
          subst h1
          simp only [mkB, Option.some.injEq] at hi
          subst hi
          refine ⟨⟨bb, o, cap - n⟩, by simp [R, ha, mkP], h3, ?_⟩
          refine ⟨fun e => by simp at e, fun j x hj => ⟨x, h4 j x hj, g0_rel (h5 x (List.mem_of_getElem? hj))⟩⟩
        · simp only at h1
          subst h1
          simp [mkB] at hi
    · rw [List.getElem?_map] at hi
      cases ha : ars[i]? with
      | none => rw [ha] at hi; cases hi
      | some a =>
        rw [ha] at hi
        simp only [Option.map_some, Option.some.injEq] at hi
        obtain ⟨v, c'⟩ := a
        cases v with
        | slice x n cap => cases x with
          | none => simp [mkB] at hi
          | some x => simp only [mkB, Option.some.injEq] at hi; subst hi; cases hb
        | _ => simp [mkB] at hi
  have hargs : Rels R (mkVs 0 ars).toArray (ars.map (·.1)).toArray := by
    refine ⟨by simp [mkVs_len], fun i hi => ?_⟩
    simp only [List.size_toArray, mkVs_len] at hi
    have ha : ars[i]? = some ars[i] := List.getElem?_eq_getElem hi
    have e1 : (mkVs 0 ars).toArray.getD i undef = mkV i ars[i].1 := by
      simp [mkVs_get, ha]
    have e2 : (ars.map (·.1)).toArray.getD i undef = ars[i].1 := by simp [hi]
    rw [e1, e2]
    generalize ars[i] = a at ha
    obtain ⟨v, c⟩ := a
    rcases h _ (List.mem_of_getElem? ha) with (h1 | ⟨bb, o, n, cap, h1, h2, h3, h4, h5⟩) | ⟨l, h1, hl⟩
    · simp only at h1 ⊢
      cases v with
      | slice x n cap => cases x with
        | none => exact g0_rel h1
        | some x => simp [g0] at h1
      | _ => exact g0_rel h1
    · simp only at h1 ⊢
      subst h1
      have := Rel.slice (R := R) i 0 n n ⟨bb, o, cap - n⟩ (by simp [R, ha, mkP]) (Nat.le_refl _)
      rw [show n + (cap - n) = cap by omega] at this
      simpa [mkV] using this
    · simp only at h1 ⊢
      subst h1
      exact hl R
  refine (hc W.heap.size R W _ (Nat.le_refl _) hm hargs).mono ?_
  rintro e w' ⟨v, v', R', m', rfl, k1, k2, rfl, rfl⟩
  cases k1
  exact ⟨rfl, k2.below hm (Nat.le_refl _)⟩
theorem RelSelf.rect (r : Rc) : RelSelf r.v := ⟨_, rfl, fun R => rel_aggI R [r.x, r.y, r.w, r.h]⟩
theorem RelSelf.kind (k : Kd) : RelSelf k.v := ⟨_, rfl, fun R => .agg _ _ rfl fun i hi => by
  simp at hi
  rcases (show i = 0 ∨ i = 1 ∨ i = 2 ∨ i = 3 ∨ i = 4 by omega) with rfl | rfl | rfl | rfl | rfl
  · exact .int _ _
  · exact .int _ _
  · exact .int _ _
  · exact .int _ _
  · exact .bool _⟩
def sv (l : List ByteArray) : List Value := l.map .string
def kb (y : List Int × Bool) : List Value := iv y.1 ++ [.bool y.2]
theorem g0_kb (y : List Int × Bool) : ∀ v ∈ kb y, g0 v = true := fun v hv => by
  rcases List.mem_append.1 hv with h | h
  · exact g0_iv _ v h
  · simp at h; subst h; rfl
def kindB (P : Program) (f : Field) : Bool := match P.underlying f.type with | some .bool => true | _ => false
def kindI (P : Program) (f : Field) : Bool := match P.underlying f.type with | some (.int .i64) => true | _ => false
def fieldsKB (P : Program) (fs : Array Field) (q : Nat) : Bool := (List.range q).all (fun j => match fs[j]? with | some f => kindI P f | none => false) && match fs[q]? with | some f => kindB P f | none => false
theorem fieldsKB_int {P : Program} {fs : Array Field} {q j : Nat} {f : Field} (h : fieldsKB P fs q = true) (hj : fs[j]? = some f) (hq : j < q) : P.underlying f.type = some (.int .i64) := by
  simp only [fieldsKB, Bool.and_eq_true] at h
  have := List.all_eq_true.1 h.1 j (List.mem_range.2 hq)
  rw [hj] at this
  simp only [kindI] at this
  split at this
  · assumption
  · cases this
theorem fieldsKB_bool {P : Program} {fs : Array Field} {q : Nat} {f : Field} (h : fieldsKB P fs q = true) (hj : fs[q]? = some f) : P.underlying f.type = some .bool := by
  simp only [fieldsKB, Bool.and_eq_true] at h
  have := h.2
  rw [hj] at this
  simp only [kindB] at this
  split at this
  · assumption
  · cases this
section
variable {H : Type} {enc : TypeId × Value → H} {P : Program} {w : World} {base : Nat} {spare : Nat → Bool} {held : Bool}
theorem arg_strs {r : Reach} {b0 : Nat} {T e : TypeId} {a : Option Addr} {n c : Nat} {d : DataW H} {p : List MemPlace} (ht : P.underlying T = some (.slice e)) (he : P.underlying e = some .string) (hce : P.cellsOf e = 1) (hok : Value.okWide P w r b0 T (.slice a n c)) (h : DataW.Trod enc P w base spare held T (.slice a n c) d p) :
    ∃ l : List ByteArray, l.length = n ∧ n ≤ maxLen ∧ Okarg w (.slice a n c, sv l) ∧ ∀ M : AM, ∀ i, M[i]? = some (mkB (.slice a n c, sv l)) → Strs M (mkV i (.slice a n c)) l := by
  obtain ⟨fuel, h⟩ := h
  rcases ok_slice ht hok with ⟨rfl, rfl, rfl⟩ | ⟨b, o, rfl, hle, hlt⟩
  · exact ⟨[], rfl, by unfold maxLen; omega, .inl rfl, fun M i hi => ⟨i, 0, .inl ⟨rfl, rfl⟩, (List.getElem?_eq_some_iff.1 hi).1, fun k hk => by simp at hk⟩⟩
  · rcases open_strs ht he hce h with ⟨hcs, _⟩ | ⟨x, l, cap, m, S, hcs, _, hl, hm, hmm, _, hcell⟩
    · simp [Value.cells] at hcs
    · simp [Value.cells] at hcs
      obtain ⟨rfl, rfl, rfl⟩ := hcs
      have hnm : n ≤ m := by rw [hmm]; split <;> omega
      refine ⟨(List.range n).map S, by simp, by omega, .inr ⟨b, o, n, c, rfl, hle, hlt, fun j x hj => ?_, fun x hx => ?_⟩, fun M i hM => ?_⟩
      · have hjl := (List.getElem?_eq_some_iff.1 hj).1
        simp [sv] at hjl
        have := (hcell j (by omega)).1
        rw [Addr.add_lit] at this
        rw [this]
        simpa [sv, hjl] using hj
      · simp [sv] at hx
        obtain ⟨k, _, rfl⟩ := hx
        rfl
      · simp only [mkB] at hM
        refine ⟨i, 0, by simpa [mkV] using Sl.mk (Nat.le_refl n), (List.getElem?_eq_some_iff.1 hM).1, fun k hk => ⟨_, hM, ?_⟩⟩
        simp at hk
        simp [sv, rowOf, hk]
theorem arg_kb {r : Reach} {b0 : Nat} {T e : TypeId} {fs : Array Field} {a : Option Addr} {n c : Nat} {d : DataW H} {p : List MemPlace} (ht : P.underlying T = some (.slice e)) (he : P.underlying e = some (.struct fs)) (hone : oneCellFields P fs = true) (hC : P.cellsOf e = fs.size)
    {q : Nat} (hq : fs.size = q + 1) (hi : fieldsKB P fs q = true) (hok : Value.okWide P w r b0 T (.slice a n c)) (h : DataW.Trod enc P w base spare held T (.slice a n c) d p) :
    ∃ F : Nat → List Int × Bool, (∀ k, (F k).1.length = q) ∧ n ≤ maxLen ∧ Okarg w (.slice a n c, (List.range n).flatMap fun k => kb (F k)) ∧ (∀ M : AM, ∀ i, M[i]? = some (mkB (.slice a n c, (List.range n).flatMap fun k => kb (F k))) → Sl (mkV i (.slice a n c)) i 0 n ∧ i < M.length ∧ ∀ k, k < n → RdL M i (0 + k * fs.size) (kb (F k))) := by
  obtain ⟨fuel, h⟩ := h
  rcases ok_slice ht hok with ⟨rfl, rfl, rfl⟩ | ⟨b, o, rfl, hle, hlt⟩
  · exact ⟨fun _ => (List.replicate q 0, false), fun _ => by simp, by unfold maxLen; omega, .inl rfl, fun M i hi => ⟨.inl ⟨rfl, rfl⟩, (List.getElem?_eq_some_iff.1 hi).1, fun k hk => by omega⟩⟩
  · rcases open_slice_fields ht he hone hC h with ⟨hcs, _⟩ | ⟨x, l, cap, m, D, Pl, hcs, _, hl, hm, hmm, _, hrow⟩
    · simp [Value.cells] at hcs
    · simp [Value.cells] at hcs
      obtain ⟨rfl, rfl, rfl⟩ := hcs
      have key : ∀ k : Nat, ∃ y : List Int × Bool, y.1.length = q ∧ (k < n → ∀ j v, (kb y)[j]? = some v → w.cell? ⟨b, o + (k * fs.size + j), none⟩ = some v) := fun k => by
        by_cases hk : k < n
        · obtain ⟨ys, nn, _, _, _, hf⟩ := hrow k (by rw [hmm]; split <;> omega)
          have key2 : ∀ j : Nat, ∃ z : Int, j < q → w.cell? ⟨b, o + (k * fs.size + j), none⟩ = some (.int .i64 z) := fun j => by
            by_cases hj : j < q
            · obtain ⟨v, y, h1, _, h3⟩ := hf j fs[j] (Array.getElem?_eq_getElem (by omega))
              obtain ⟨z, hz, _⟩ := DataW.trod_int (fieldsKB_int hi (Array.getElem?_eq_getElem (by omega)) hj) h3
              simp at hz
              subst hz
              rw [Addr.add_lit] at h1
              exact ⟨z, fun _ => h1⟩
            · exact ⟨0, fun h => absurd h hj⟩
          obtain ⟨g, hg⟩ := Classical.axiomOfChoice key2
          obtain ⟨v, y, h1, _, h3⟩ := hf q (fs[q]'(by omega)) (Array.getElem?_eq_getElem (by omega))
          obtain ⟨z, hz, _⟩ := DataW.trod_bool (fieldsKB_bool hi (Array.getElem?_eq_getElem (by omega))) h3
          simp at hz
          subst hz
          rw [Addr.add_lit] at h1
          refine ⟨((List.range q).map g, z), by simp, fun _ j v hj => ?_⟩
          unfold kb at hj
          rcases Nat.lt_trichotomy j q with h | rfl | h
          · rw [List.getElem?_append_left (by simpa [iv] using h), iv_get (by simpa using h)] at hj
            injection hj with hj
            rw [hg j h, ← hj]
            simp [h]
          · rw [List.getElem?_append_right (by simp [iv])] at hj
            simp [iv] at hj
            rw [← hj]; exact h1
          · rw [List.getElem?_eq_none (by simp [iv]; omega)] at hj
            cases hj
        · exact ⟨(List.replicate q 0, false), by simp, fun h => absurd h hk⟩
      obtain ⟨F, hF⟩ := Classical.axiomOfChoice key
      have hlenF : ∀ k, (kb (F k)).length = fs.size := fun k => by unfold kb; rw [List.length_append, iv_len, (hF k).1, hq]; rfl
      have get : ∀ q, ∀ k, k < q → ∀ j v, (kb (F k))[j]? = some v → ((List.range q).flatMap fun k => kb (F k))[k * fs.size + j]? = some v := by
        intro q
        induction q with
        | zero => intro k hk; omega
        | succ q ih =>
          intro k hk j v hj
          have hjl : j < fs.size := by
            have := (List.getElem?_eq_some_iff.1 hj).1
            rwa [hlenF] at this
          have hql : ((List.range q).flatMap fun k => kb (F k)).length = q * fs.size := by
            clear ih hk hj
            induction q with
            | zero => simp
            | succ q ih2 => rw [List.range_succ, List.flatMap_append, List.length_append, ih2]; simp [hlenF, Nat.add_mul]
          rw [List.range_succ, List.flatMap_append]
          rcases Nat.lt_succ_iff_lt_or_eq.1 hk with h' | h'
          · have h2 : k * fs.size + fs.size ≤ q * fs.size := by
              have := Nat.mul_le_mul_right fs.size (show k + 1 ≤ q by omega)
              rw [Nat.add_mul] at this; omega
            rw [List.getElem?_append_left (by rw [hql]; omega)]
            exact ih k h' j v hj
          · subst h'
            rw [List.getElem?_append_right (by rw [hql]; omega), hql, Nat.add_sub_cancel_left]
            simpa using hj
      have tot : ∀ q, ((List.range q).flatMap fun k => kb (F k)).length = q * fs.size := fun q => by
        induction q with
        | zero => simp
        | succ q ih2 => rw [List.range_succ, List.flatMap_append, List.length_append, ih2]; simp [hlenF, Nat.add_mul]
      refine ⟨F, fun k => (hF k).1, by omega, .inr ⟨b, o, n, c, rfl, hle, hlt, fun j x hj => ?_, fun x hx => ?_⟩, fun M i hM => ?_⟩
      · have hjl := (List.getElem?_eq_some_iff.1 hj).1
        simp only at hjl hj
        rw [tot] at hjl
        have hs : 0 < fs.size := by
          rcases Nat.eq_zero_or_pos fs.size with h0 | h0
          · rw [h0] at hjl; omega
          · exact h0
        have hk : j / fs.size < n := (Nat.div_lt_iff_lt_mul hs).2 hjl
        have hr : j % fs.size < fs.size := Nat.mod_lt _ hs
        have e : j = j / fs.size * fs.size + j % fs.size := by rw [Nat.mul_comm]; exact (Nat.div_add_mod j fs.size).symm
        obtain ⟨v, hv⟩ : ∃ v, (kb (F (j / fs.size)))[j % fs.size]? = some v := ⟨_, List.getElem?_eq_getElem (by rw [hlenF]; exact hr)⟩
        have h1 := get n (j / fs.size) hk (j % fs.size) v hv
        rw [← e] at h1
        rw [h1] at hj
        injection hj with hj
        have h2 := (hF (j / fs.size)).2 hk (j % fs.size) v hv
        rw [← e] at h2
        rw [h2, hj]
      · obtain ⟨k, _, hk⟩ := List.mem_flatMap.1 hx
        exact g0_kb _ x hk
      · simp only [mkB] at hM
        refine ⟨Sl.mk (Nat.le_refl _), (List.getElem?_eq_some_iff.1 hM).1, fun k hk => ⟨_, hM, fun j v hj => ?_⟩⟩
        rw [Nat.zero_add]
        exact get n k hk j v hj
def kv (l : List Kd) : List Value := l.flatMap Kd.cells
theorem arg_kinds {r : Reach} {b0 : Nat} {T e : TypeId} {fs : Array Field} {a : Option Addr} {n c : Nat} {d : DataW H} {p : List MemPlace} (ht : P.underlying T = some (.slice e)) (he : P.underlying e = some (.struct fs)) (hone : oneCellFields P fs = true) (hC : P.cellsOf e = fs.size)
    (hq : fs.size = 4 + 1) (hi : fieldsKB P fs 4 = true) (hok : Value.okWide P w r b0 T (.slice a n c)) (h : DataW.Trod enc P w base spare held T (.slice a n c) d p) :
    ∃ l : List Kd, l.length = n ∧ n ≤ maxLen ∧ Okarg w (.slice a n c, kv l) ∧ ∀ M : AM, ∀ i, M[i]? = some (mkB (.slice a n c, kv l)) → Kds M (mkV i (.slice a n c)) l := by
  obtain ⟨F, h1, h2, h3, h4⟩ := arg_kb ht he hone hC hq hi hok h
  have key : ∀ k, ∃ x : Kd, kb (F k) = x.cells := fun k => by
    have hk := h1 k
    generalize F k = y at hk ⊢
    obtain ⟨l, b⟩ := y
    simp only at hk
    match l, hk with
    | [x, y, z, u], _ => exact ⟨⟨x, y, z, u, b⟩, rfl⟩
  obtain ⟨G, hG⟩ := Classical.axiomOfChoice key
  have e : ((List.range n).flatMap fun k => kb (F k)) = kv ((List.range n).map G) := by
    unfold kv
    rw [List.flatMap_map]
    congr 1
    funext k
    exact hG k
  rw [e] at h3 h4
  refine ⟨(List.range n).map G, by simp, h2, h3, fun M i hM => ?_⟩
  obtain ⟨k1, k2, k3⟩ := h4 M i hM
  refine ⟨i, 0, by simpa using k1, k2, fun k hk => ?_⟩
  simp at hk
  have := k3 k hk
  rw [hq, hG k] at this
  have eg : ((List.range n).map G).getD k default = G k := by simp [hk]
  rw [eg]
  exact this
end
end Go.Proofs.YtibhgdglbillaaaDoor.Abs
