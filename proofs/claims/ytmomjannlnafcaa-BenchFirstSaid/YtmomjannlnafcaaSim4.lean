import Derived.Test.YtmomjannlnafcaaSim3
namespace Go.Proofs.Ytmomjannlnafcaa.Sim
set_option linter.unusedSimpArgs false
set_option linter.unusedVariables false
open Go.RowKit
section
variable {P : Program} {base : Nat} {R : Pl} {m : AM} {w : World} {n : Nat}
/-! #### slices -/
/-- The cells that a slice or a string shows. -/
def acells (m : AM) (size k : Nat) : Value → Option (List Value)
  | .slice none _ _ => if k = 0 then some [] else none
  | .slice (some ⟨i, o, none⟩) l _ =>
    if k = 0 then some [] else
    match m[i]? with
    | some (some b) => if k ≤ l ∧ o + k * size ≤ b.cells.length then some ((b.cells.drop o).take (k * size)) else none
    | _ => none
  | _ => none
theorem run_firstCells_zero (size : Nat) (a : Option Addr) (l c : Nat) (w : World) : (Builtin.firstCells size 0 (.slice a l c)).run P w = .ok #[] w := by
  cases a <;> simp [Builtin.firstCells, loadCells, loadCellsFrom]
theorem acells_ok (h : MRep base R m w) {x x' : Value} {size k : Nat} {l : List Value} (hx : Rel R x x') (hl : acells m size k x = some l) :
    ∃ l', RelL R l l' ∧ (Builtin.firstCells size k x').run P w = .ok l'.toArray w := by
  unfold acells at hl
  split at hl
  · cases hx with
    | sliceNil =>
      split at hl
      · rename_i hk; subst hk
        injection hl with hl; subst hl
        exact ⟨[], .nil, run_firstCells_zero _ _ _ _ _⟩
      · cases hl
  · rename_i i o ll c
    cases hx with
    | slice _ _ _ _ p hp hle =>
    split at hl
    · rename_i hk; subst hk
      injection hl with hl; subst hl
      exact ⟨[], .nil, run_firstCells_zero _ _ _ _ _⟩
    · split at hl
      · rename_i b hb
        split at hl
        · rename_i hc
          injection hl with hl; subst hl
          obtain ⟨l', h1, h2⟩ := (h.of hb hp).cells o (k * size) hc.2
          have hlen : l'.length = k * size := by rw [← h1.1]; simp; omega
          have h3 := run_loadCells_list (P := P) w _ l' h2
          rw [hlen] at h3
          exact ⟨l', h1, by simpa [Builtin.firstCells] using h3⟩
        · cases hl
      · cases hl
  · cases hl
def aSliceLen : Value → Option Nat
  | .slice none _ _ => some 0
  | .slice (some ⟨_, _, none⟩) l _ => some l
  | _ => none
theorem aSliceLen_ok {x x' : Value} {k : Nat} (hx : Rel R x x') (h : aSliceLen x = some k) : ∀ w, (Builtin.lenOf x').run P w = .ok k w := by
  unfold aSliceLen at h
  split at h
  · cases hx with | sliceNil => injection h with h; subst h; intro w; rfl
  · cases hx with | slice _ _ _ _ p hp => injection h with h; subst h; intro w; rfl
  · cases h
def alen (P : Program) (t : TypeId) (x : Value) : Option Value :=
  match P.underlying t with
  | some (.slice _) => (aSliceLen x).map fun k => .int .i64 k
  | _ => none
theorem alen_ok {t ty : TypeId} {x x' v : Value} (hx : Rel R x x') (hl : alen P t x = some v) : (Builtin.len_ #[t] ty #[x']).run P w = .ok v w := by
  unfold alen at hl
  split at hl
  · rename_i e hu
    cases hs : aSliceLen x with
    | none => simp [hs] at hl
    | some k =>
      simp [hs] at hl
      subst hl
      unfold aSliceLen at hs
      split at hs
      · cases hx with | sliceNil => injection hs with hs; subst hs; simp [Builtin.len_, run_underlying hu, goInt]
      · cases hx with | slice _ _ _ _ p hp => injection hs with hs; subst hs; simp [Builtin.len_, run_underlying hu, goInt]
      · cases hs
  · cases hl
/-- The type of a slice's elements: size, bytes, zero. -/
def elemB (P : Program) (t : TypeId) : Option (TypeId × Nat × Nat × Array Value) :=
  match P.underlying t with
  | some (.slice e) => match P.info? e, zeroB P e with
    | some i, some z => if z.size == i.size then some (e, i.size, i.bytes, z) else none
    | _, _ => none
  | _ => none
theorem elemB_spec {t e : TypeId} {size bytes : Nat} {zc : Array Value} (h : elemB P t = some (e, size, bytes, zc)) :
    P.underlying t = some (.slice e) ∧ ∃ i z, P.info? e = some i ∧ i.size = size ∧ i.bytes = bytes ∧ i.zero = some z ∧ z.cells = zc ∧ zc.size = size ∧ g0one zc = true := by
  unfold elemB at h
  split at h
  · rename_i e' hu
    split at h
    · rename_i i z hi hz
      split at h
      · rename_i hs
        simp only [Option.some.injEq, Prod.mk.injEq] at h
        obtain ⟨rfl, rfl, rfl, rfl⟩ := h
        obtain ⟨hg, i', z', h1, h2, h3, _⟩ := zeroB_run hz
        rw [hi] at h1; injection h1 with h1; subst h1
        exact ⟨hu, i, z', hi, rfl, rfl, h2, h3, by simpa using hs, hg⟩
      · cases h
    · cases h
  · cases h
theorem relL_zeros {zc : Array Value} (h : g0one zc = true) (k : Nat) : RelL R (Builtin.zeroCells zc k).toList (Builtin.zeroCells zc k).toList ∧ ∀ v ∈ (Builtin.zeroCells zc k).toList, v.oneCell' = true := by
  have hm : ∀ v ∈ (Builtin.zeroCells zc k).toList, g0 v = true ∧ v.oneCell' = true := by
    intro v hv
    simp [Builtin.zeroCells] at hv
    obtain ⟨i, hi, rfl⟩ := hv
    have hpos : 0 < zc.size := by
      rcases Nat.eq_zero_or_pos zc.size with h0 | h0
      · rw [h0] at hi; simp at hi
      · exact h0
    have hlt : i % zc.size < zc.size := Nat.mod_lt _ hpos
    have := Array.all_eq_true.1 h (i % zc.size) hlt
    simp only [Bool.and_eq_true] at this
    simpa [hlt] using this
  exact ⟨⟨rfl, fun j v hj => ⟨v, hj, g0_rel (hm v (List.mem_of_getElem? hj)).1⟩⟩, fun v hv => (hm v hv).2⟩
theorem relL_made {zc : Array Value} (h : g0one zc = true) (k : Nat) (hk : zc.size = 0 → k = 0) :
    RelL R (madeCells zc k).toList (madeCells zc k).toList ∧ ∀ v ∈ (madeCells zc k).toList, v.oneCell' = true := by
  have hm : ∀ v ∈ (madeCells zc k).toList, g0 v = true ∧ v.oneCell' = true := by
    intro v hv
    simp [madeCells] at hv
    obtain ⟨i, hi, rfl⟩ := hv
    have hpos : 0 < zc.size := by
      rcases Nat.eq_zero_or_pos zc.size with h0 | h0
      · rw [hk h0] at hi; simp at hi
      · exact h0
    have hlt : i % zc.size < zc.size := Nat.mod_lt _ hpos
    have := Array.all_eq_true.1 h (i % zc.size) hlt
    simp only [Bool.and_eq_true] at this
    simpa [hlt] using this
  exact ⟨⟨rfl, fun j v hj => ⟨v, hj, g0_rel (hm v (List.mem_of_getElem? hj)).1⟩⟩, fun v hv => (hm v hv).2⟩
def amake (P : Program) (m : AM) (n : Nat) (t : TypeId) (l c : Value) : Option (Value × AM) :=
  match l, c, elemB P t with
  | .int _ l, .int _ c, some (_, size, bytes, z) =>
    if 0 ≤ l ∧ l ≤ c ∧ bytes * c ≤ 281474976710656 ∧ c ≤ 9223372036854775807 ∧ size ≠ 0 then
      some (.slice (some ⟨n, 0, none⟩) l.toNat c.toNat, m.set n (some { cells := (madeCells z (c.toNat * size)).toList })) else none
  | _, _, _ => none
theorem amake_ok (h : MRep base R m w) (hbase : base ≤ w.heap.size) (hfree : m[n]? = some none) (hR : R n = none) {t : TypeId} {l c l' c' v : Value} {m' : AM} (hl : Rel R l l') (hc : Rel R c c') (he : amake P m n t l c = some (v, m'))
    {s : Sem Next} (hs : ∀ v w', (Instr.makeSlice t l' c').run P w = .ok v w' → s.run P w = .ok (.value v) w') : Does P base R m n w s v m' := by
  unfold amake at he
  split at he
  · rename_i _ _ _ k l k' c e size bytes z hE
    cases hl with | int =>
    cases hc with | int =>
    split at he
    · rename_i hcond
      obtain ⟨c1, c2, c3, c4, c5⟩ := hcond
      simp only [Option.some.injEq, Prod.mk.injEq] at he
      obtain ⟨rfl, rfl⟩ := he
      obtain ⟨hu, i, zz, h1, h2, h3, h4, h5, h6, h7⟩ := elemB_spec hE
      have hr := run_make (P := P) w t e i zz hu h1 h4 k k' l c c1 c2 (by rw [h3]; exact c3) c4
      rw [h2, h5] at hr
      obtain ⟨q1, q2⟩ := relL_made (R := R) h7 (c.toNat * size) (fun h0 => by omega)
      refine set_new h hbase hfree hR e q1 q2 (hs _ _ hr) ?_
      have := Rel.slice (R := R.put n ⟨w.heap.size, 0, 0⟩) n 0 l.toNat c.toNat ⟨w.heap.size, 0, 0⟩ (Pl.put_same _ _ _) (by omega)
      simpa using this
    · cases he
  · cases he
def abuildSlice (P : Program) (m : AM) (n : Nat) (t : TypeId) (len : Nat) (parts : List (Nat × Value)) : Option (Value × AM) :=
  match elemB P t with
  | some (_, size, _, z) =>
    if len = 0 ∧ parts.isEmpty then some (.slice (some ⟨n, 0, none⟩) 0 0, m.set n (some { cells := [] })) else
    if len * size ≤ 2 ^ 24 ∧ len * size ≠ 0 then
      match Instr.fill (fun i => some (i * size, size)) ((Array.range (len * size)).map (z[· % z.size]!)) parts with
      | some cells => if cells.all (·.oneCell') then some (.slice (some ⟨n, 0, none⟩) len len, m.set n (some { cells := cells.toList })) else none
      | none => none
    else none
  | none => none
theorem abuildSlice_ok (h : MRep base R m w) (hbase : base ≤ w.heap.size) (hfree : m[n]? = some none) (hR : R n = none) {t : TypeId} {len : Nat} {parts parts' : Array (Nat × Value)} {v : Value} {m' : AM}
    (hm : parts.toList.map (·.1) = parts'.toList.map (·.1)) (hv : ∀ (j : Nat) (x y : Nat × Value), parts.toList[j]? = some x → parts'.toList[j]? = some y → Rel R x.2 y.2)
    (he : abuildSlice P m n t len parts.toList = some (v, m')) {s : Sem Next} (hs : ∀ v w', (Instr.buildSlice t len parts').run P w = .ok v w' → s.run P w = .ok (.value v) w') : Does P base R m n w s v m' := by
  unfold abuildSlice at he
  split at he
  · rename_i e size bytes z hE
    split at he
    · rename_i hcond
      obtain ⟨rfl, hemp⟩ := hcond
      simp only [Option.some.injEq, Prod.mk.injEq] at he
      obtain ⟨rfl, rfl⟩ := he
      obtain ⟨hu, i, zz, h1, h2, h3, h4, h5, h6, h7⟩ := elemB_spec hE
      have hp0 : parts'.toList = [] := by
        have e0 : parts.toList = [] := by simpa using hemp
        rw [e0] at hm
        simpa using hm.symm
      refine set_new h hbase hfree hR e (l := []) (c' := #[]) .nil (by simp) (hs (.slice (some ⟨w.heap.size, 0, none⟩) 0 0) _ ?_) ?_
      · simp [Instr.buildSlice, run_underlying hu, sizeOf, typeInfo, h1, hp0, Instr.fill, newRow, show Array.range 0 = #[] by apply Array.ext'; simp]
      · have := Rel.slice (R := R.put n ⟨w.heap.size, 0, 0⟩) n 0 0 0 ⟨w.heap.size, 0, 0⟩ (Pl.put_same _ _ _) (Nat.le_refl _)
        simpa using this
    split at he
    · rename_i hcond
      split at he
      · rename_i cells hf
        split at he
        · rename_i hone
          simp only [Option.some.injEq, Prod.mk.injEq] at he
          obtain ⟨rfl, rfl⟩ := he
          obtain ⟨hu, i, zz, h1, h2, h3, h4, h5, h6, h7⟩ := elemB_spec hE
          have hz0 : Rels R (madeCells z (len * size)) (madeCells z (len * size)) := by
            have := (relL_made (R := R) h7 (len * size) (fun h0 => by rw [h6] at h0; rw [h0] at hcond; simp at hcond)).1.rels
            simpa using this
          obtain ⟨r', k1, k2⟩ := fill_rels (R := R) _ _ _ _ _ _ hz0 hm hv hf
          subst h5
          subst h2
          have hr := run_buildSlice (P := P) w t e len parts' r' i zz hu h1 h4 (by omega) hcond.2 k1
          refine set_new h hbase hfree hR e k2.relL (allOne hone) (hs _ _ hr) ?_
          have := Rel.slice (R := R.put n ⟨w.heap.size, 0, 0⟩) n 0 len len ⟨w.heap.size, 0, 0⟩ (Pl.put_same _ _ _) (Nat.le_refl _)
          simpa using this
        · cases he
      · cases he
    · cases he
  · cases he
/-! #### copy, clear -/
def acopy (P : Program) (m : AM) (t : TypeId) (d x : Value) : Option (Value × AM) :=
  match elemB P t, d, aSliceLen x with
  | some (_, size, _, _), .slice (some ⟨i, o, none⟩) dl _, some xl =>
    match m[i]?, acells m size (Nat.min xl dl) x with
    | some (some b), some l => if b.kind.solid && decide (o + l.length ≤ b.cells.length) && l.all (·.oneCell') then some (.int .i64 (Nat.min xl dl), m.set i (some { b with cells := splice b.cells o l })) else none
    | _, _ => none
  | _, _, _ => none
theorem acopy_ok (h : MRep base R m w) {t tx ty : TypeId} {d d' x x' v : Value} {m' : AM} (hd : Rel R d d') (hx : Rel R x x') (he : acopy P m t d x = some (v, m')) :
    ∃ w', (Builtin.copy_ #[t, tx] ty #[d', x']).run P w = .ok v w' ∧ Post base m m' R R w w' := by
  unfold acopy at he
  split at he
  · rename_i e size bytes z i o dl c xl hE hxl
    cases hd with
    | slice _ _ _ _ p hp hle =>
    split at he
    · rename_i b l hb hl
      split at he
      · rename_i hcond
        simp only [Option.some.injEq, Prod.mk.injEq] at he
        obtain ⟨rfl, rfl⟩ := he
        simp only [Bool.and_eq_true, decide_eq_true_eq] at hcond
        obtain ⟨⟨c1, c2⟩, c3⟩ := hcond
        obtain ⟨hu, i', zz, h1, h2, _⟩ := elemB_spec hE
        obtain ⟨l', k1, k2⟩ := acells_ok (P := P) h hx hl
        obtain ⟨w', q1, q2⟩ := write_ok (P := P) h hb c1 hp k1 (by simpa using c3) c2
        refine ⟨w', ?_, q2⟩
        subst h2
        have hlen := aSliceLen_ok (P := P) hx hxl w
        simp only [Nat.min_def] at k2 ⊢
        simp [Builtin.copy_, run_underlying hu, hlen, sizeOf, typeInfo, h1, Nat.min_def, k2, q1, goInt]
      · cases he
    · cases he
  · cases he
def aclear (P : Program) (m : AM) (t : TypeId) (x : Value) : Option (Value × AM) :=
  match elemB P t, x with
  | some _, .slice none _ _ => some (.tuple #[], m)
  | some (_, size, _, z), .slice (some ⟨i, o, none⟩) l _ =>
    if l = 0 then some (.tuple #[], m) else
    match m[i]? with
    | some (some b) => if b.kind.solid && decide (o + l * size ≤ b.cells.length) then some (.tuple #[], m.set i (some { b with cells := splice b.cells o (Builtin.zeroCells z l).toList })) else none
    | _ => none
  | _, _ => none
theorem aclear_ok (h : MRep base R m w) {t ty : TypeId} {x x' v : Value} {m' : AM} (hx : Rel R x x') (he : aclear P m t x = some (v, m')) :
    ∃ w', (Builtin.clear_ #[t] ty #[x']).run P w = .ok v w' ∧ Post base m m' R R w w' := by
  unfold aclear at he
  split at he
  · rename_i q _ _ hE
    obtain ⟨e, size, bytes, z⟩ := q
    obtain ⟨hu, i', zz, h1, h2, _⟩ := elemB_spec hE
    have hx' : x' = .slice none 0 0 := by cases hx; rfl
    subst hx'
    simp only [Option.some.injEq, Prod.mk.injEq] at he
    obtain ⟨rfl, rfl⟩ := he
    exact ⟨w, by simp [Builtin.clear_, run_underlying hu], .refl h⟩
  · rename_i e size bytes z i o l c hE
    obtain ⟨hu, i', zz, h1, h2, h3, h4, h5, h6, h7⟩ := elemB_spec hE
    cases hx with
    | slice _ _ _ _ p hp hle =>
    split at he
    · rename_i hl0
      subst hl0
      simp only [Option.some.injEq, Prod.mk.injEq] at he
      obtain ⟨rfl, rfl⟩ := he
      exact ⟨w, by simp [Builtin.clear_, run_underlying hu], .refl h⟩
    · rename_i hl0
      split at he
      · rename_i b hb
        split at he
        · rename_i hcond
          simp only [Option.some.injEq, Prod.mk.injEq] at he
          obtain ⟨rfl, rfl⟩ := he
          simp only [Bool.and_eq_true, decide_eq_true_eq] at hcond
          obtain ⟨c1, c2⟩ := hcond
          obtain ⟨r1, r2⟩ := relL_zeros (R := R) h7 l
          obtain ⟨w', q1, q2⟩ := write_ok (P := P) h hb c1 hp (o := o) r1 r2 (by simp [Builtin.zeroCells, h6]; exact c2)
          refine ⟨w', ?_, q2⟩
          simp [Builtin.clear_, run_underlying hu, zeroValue, typeInfo, h1, h4, h5, q1]
        · cases he
      · cases he
  · cases he
end
end Go.Proofs.Ytmomjannlnafcaa.Sim
