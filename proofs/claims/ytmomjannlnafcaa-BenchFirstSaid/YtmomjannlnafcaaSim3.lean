import Derived.Test.YtmomjannlnafcaaSim2
namespace Go.Proofs.Ytmomjannlnafcaa.Sim
set_option linter.unusedSimpArgs false
set_option linter.unusedVariables false
open Go.RowKit
/-- What one operation yields, in the real run. -/
def Ran (P : Program) (s : Sem Next) (w : World) (v' : Value) (w' : World) : Prop := s.run P w = .ok (.value v') w' ∨ (s.run P w = .ok .skip w' ∧ v' = undef)
/-- An operation's step in both memories; only block n may be new. -/
def Does (P : Program) (base : Nat) (R : Pl) (m : AM) (n : Nat) (w : World) (s : Sem Next) (v : Value) (m' : AM) : Prop :=
  ∃ R' v' w', Ran P s w v' w' ∧ Rel R' v v' ∧ Post base m m' R R' w w' ∧ ∀ i, i ≠ n → R' i = R i
/-- A computation that looks at no world. -/
def still (P : Program) {α : Type} : Sem α → Option α
  | .pure a => some a
  | .program k => still P (k P)
  | _ => none
theorem still_run (P : Program) {α : Type} : ∀ (s : Sem α) (a : α), still P s = some a → ∀ w, s.run P w = .ok a w := by
  intro s
  induction s with
  | pure a => intro b h w; simp [still] at h; subst h; rfl
  | program k ih => intro b h w; simp only [still] at h; exact ih _ b h w
  | _ => intro b h; simp [still] at h
section
variable {P : Program} {base : Nat} {R : Pl} {m : AM} {w : World} {n : Nat}
theorem does_same (h : MRep base R m w) {s : Sem Next} {v v' : Value} (hr : Ran P s w v' w) (hv : Rel R v v') : Does P base R m n w s v m := ⟨R, v', w, hr, hv, .refl h, fun _ _ => rfl⟩
def aggB (P : Program) (t : TypeId) : Option Bool := (P.underlying t).map fun d => match d with | .struct _ | .array _ _ => true | _ => false
def szB (P : Program) (t : TypeId) : Option Nat := (P.info? t).map (·.size)
theorem run_isAgg' {t : TypeId} {b : Bool} (h : aggB P t = some b) (w : World) : (isAgg t).run P w = .ok b w := by
  unfold aggB at h
  cases hu : P.underlying t with
  | none => simp [hu] at h
  | some d =>
    simp [hu] at h
    unfold isAgg
    simp only [Sem.run_bind, run_underlying hu, Result.andThen_ok]
    cases d <;> simp_all
theorem run_sizeOf' {t : TypeId} {n : Nat} (h : szB P t = some n) (w : World) : (sizeOf t).run P w = .ok n w := by
  unfold szB at h
  cases hi : P.info? t with
  | none => simp [hi] at h
  | some i =>
    simp [hi] at h
    simp [sizeOf, typeInfo, hi, h]
/-! #### load, store -/
def aload (P : Program) (m : AM) (t : TypeId) : Value → Option Value
  | .pointer (some ⟨i, o, none⟩) =>
    match m[i]? with
    | some (some b) =>
      match aggB P t with
      | some true => match szB P t with
        | some n => if o + n ≤ b.cells.length then some (.agg ((b.cells.drop o).take n).toArray) else none
        | none => none
      | some false => b.cells[o]?
      | none => none
    | _ => none
  | _ => none
theorem aload_ok (h : ∀ (i : Nat) (b : Blk), m[i]? = some (some b) → ∃ p, R i = some p ∧ BRep base R b p w) {t : TypeId} {a a' v : Value} (ha : Rel R a a') (hl : aload P m t a = some v) : ∃ v', (Instr.loadAt t a').run P w = .ok v' w ∧ Rel R v v' := by
  unfold aload at hl
  split at hl
  · rename_i i o
    cases ha with
    | ptr _ _ p hp =>
    split at hl
    · rename_i b hb
      have hr : BRep base R b p w := by
        obtain ⟨q, k1, k2⟩ := h i b hb
        rw [hp] at k1; injection k1 with k1; rw [k1]; exact k2
      split at hl
      · rename_i hg
        split at hl
        · rename_i n hn
          split at hl
          · rename_i hle
            injection hl with hl; subst hl
            obtain ⟨l', h1, h2⟩ := hr.cells o n hle
            have hlen : l'.length = n := by rw [← h1.1]; simp; omega
            have h3 := run_loadCells_list (P := P) w _ l' h2
            rw [hlen] at h3
            refine ⟨.agg l'.toArray, ?_, ?_⟩
            · simp [Instr.loadAt, Instr.sureAddr, loadVar, run_isAgg' hg, run_sizeOf' hn, h3]
            · have := h1.rels
              exact .agg _ _ this.1 this.2
          · cases hl
        · cases hl
      · rename_i hg
        obtain ⟨v', h1, h2⟩ := hr.cell hl
        refine ⟨v', ?_, h2⟩
        simp [Instr.loadAt, Instr.sureAddr, loadVar, run_isAgg' hg, load, Sem.run, h1]
      · cases hl
    · cases hl
  · cases hl
def astore (P : Program) (m : AM) (t : TypeId) (a x : Value) : Option AM :=
  match a with
  | .pointer (some ⟨i, o, none⟩) =>
    match m[i]?, szB P t with
    | some (some b), some n => if b.kind.solid && x.cells.size == n && decide (o + n ≤ b.cells.length) && x.cells.all (·.oneCell') then some (m.set i (some { b with cells := splice b.cells o x.cells.toList })) else none
    | _, _ => none
  | _ => none
theorem astore_ok (h : MRep base R m w) {t : TypeId} {a a' x x' : Value} {m' : AM} (ha : Rel R a a') (hx : Rel R x x') (hl : astore P m t a x = some m') :
    ∃ w', (Instr.storeAt t a' x').run P w = .ok () w' ∧ Post base m m' R R w w' := by
  unfold astore at hl
  split at hl
  · rename_i i o
    cases ha with
    | ptr _ _ p hp =>
    split at hl
    · rename_i b n hb hn
      split at hl
      · rename_i hc
        injection hl with hl; subst hl
        simp only [Bool.and_eq_true, decide_eq_true_eq, beq_iff_eq] at hc
        obtain ⟨⟨⟨c1, c2⟩, c3⟩, c4⟩ := hc
        have hxc := hx.cells
        have hone : ∀ v ∈ x.cells.toList, v.oneCell' = true := fun v hv => by
          have := Array.all_eq_true'.1 c4 v (by simpa using hv)
          exact this
        obtain ⟨w', h1, h2⟩ := write_ok (P := P) h hb c1 hp (o := o) hxc.relL hone (by simp; omega)
        refine ⟨w', ?_, h2⟩
        have hs : x'.cells.size = n := by rw [← hxc.1]; exact c2
        simp [Instr.storeAt, Instr.sureAddr, storeVar, run_sizeOf' hn, hs, h1]
      · cases hl
    · cases hl
  · cases hl
/-! #### new variables -/
theorem set_new (h : MRep base R m w) (hbase : base ≤ w.heap.size) (hfree : m[n]? = some none) (hR : R n = none) {s : Sem Next} (ty : TypeId) {l : List Value} {c' : Array Value} (hx : RelL R l c'.toList)
    (h1 : ∀ v ∈ l, v.oneCell' = true) {v v' : Value} (hrun : s.run P w = .ok (.value v') (w.alloc (.cells c' ty))) (hv : Rel (R.put n ⟨w.heap.size, 0, 0⟩) v v') :
    Does P base R m n w s v (m.set n (some { cells := l })) :=
  ⟨_, v', _, .inl hrun, hv, put_ok h hbase n (List.getElem?_eq_some_iff.1 hfree).1 hfree hR ty hx h1, fun i hi => Pl.put_other _ _ hi⟩
theorem rel_new (k : Nat) : Rel (R.put n ⟨k, 0, 0⟩) (.pointer (some ⟨n, 0, none⟩)) (.pointer (some ⟨k, 0, none⟩)) := by
  have := Rel.ptr (R := R.put n ⟨k, 0, 0⟩) n 0 ⟨k, 0, 0⟩ (Pl.put_same _ _ _)
  simpa using this
theorem rel_new_slice (k l : Nat) : Rel (R.put n ⟨k, 0, 0⟩) (.slice (some ⟨n, 0, none⟩) l l) (.slice (some ⟨k, 0, none⟩) l l) := by
  have := Rel.slice (R := R.put n ⟨k, 0, 0⟩) n 0 l l ⟨k, 0, 0⟩ (Pl.put_same _ _ _) (Nat.le_refl _)
  simpa using this
theorem allOne {c : Array Value} (h : c.all (·.oneCell') = true) : ∀ v ∈ c.toList, v.oneCell' = true := fun v hv => Array.all_eq_true'.1 h v (by simpa using hv)
def g0one (c : Array Value) : Bool := c.all fun v => g0 v && v.oneCell'
theorem g0one_rel {c : Array Value} (h : g0one c = true) : RelL R c.toList c.toList ∧ ∀ v ∈ c.toList, v.oneCell' = true := by
  have hh : ∀ v ∈ c.toList, (g0 v && v.oneCell') = true := fun v hv => Array.all_eq_true'.1 h v (by simpa using hv)
  refine ⟨⟨rfl, fun j v hj => ⟨v, hj, g0_rel ?_⟩⟩, fun v hv => ?_⟩
  · have := hh v (List.mem_of_getElem? hj)
    simp at this; exact this.1
  · have := hh v hv
    simp at this; exact this.2
def zeroB (P : Program) (t : TypeId) : Option (Array Value) :=
  match P.info? t with
  | some i => match i.zero with
    | some z => if g0one z.cells then some z.cells else none
    | none => none
  | none => none
theorem zeroB_run {t : TypeId} {c : Array Value} (h : zeroB P t = some c) : g0one c = true ∧ ∃ i z, P.info? t = some i ∧ i.zero = some z ∧ z.cells = c ∧ ∀ w, (zeroValue t).run P w = .ok z w := by
  unfold zeroB at h
  split at h
  · rename_i i hi
    split at h
    · rename_i z hz
      split at h
      · rename_i hg
        injection h with h; subst h
        exact ⟨hg, i, z, hi, hz, rfl, fun w => by simp [zeroValue, typeInfo, hi, hz]⟩
      · cases h
    · cases h
  · cases h
/-! #### addresses and parts -/
theorem rel_add {i o k : Nat} {p : Place} (hp : R i = some p) : Rel R (.pointer (some ⟨i, o + k, none⟩)) (.pointer (some ((⟨p.block, p.off + o, none⟩ : Addr).add k))) := by
  rw [Addr.add_lit, Nat.add_assoc]
  exact .ptr i (o + k) p hp
def afield (P : Program) (s : TypeId) (a : Value) (f : Nat) : Option Value :=
  match P.underlying s, a with
  | some (.struct fs), .pointer (some ⟨i, o, none⟩) =>
    match fs[f]? with
    | some fd => match szB P fd.type with
      | some (_ + 1) => some (.pointer (some ⟨i, o + fd.offset, none⟩))
      | _ => none
    | none => none
  | _, _ => none
theorem afield_ok {s : TypeId} {a a' v : Value} {f : Nat} (ha : Rel R a a') (hl : afield P s a f = some v) : ∃ v', (Instr.fieldAt s a' f).run P w = .ok v' w ∧ Rel R v v' := by
  unfold afield at hl
  split at hl
  · rename_i fs i o hu
    cases ha with
    | ptr _ _ p hp =>
    split at hl
    · rename_i fd hf
      split at hl
      · rename_i k hs
        injection hl with hl; subst hl
        refine ⟨_, ?_, rel_add hp (k := fd.offset)⟩
        simp [Instr.fieldAt, run_underlying hu, hf, Instr.sureAddr, fieldPlace, run_sizeOf' hs]
      · cases hl
    · cases hl
  · cases hl
def aindex (P : Program) (t : TypeId) (x ix : Value) : Option Value :=
  match P.underlying t, x, ix with
  | some (.array len e), .pointer (some ⟨i, o, none⟩), .int _ k =>
    match szB P e with
    | some s => if 0 ≤ k ∧ k < len then some (.pointer (some ⟨i, o + k.toNat * s, none⟩)) else none
    | none => none
  | some (.slice e), .slice (some ⟨i, o, none⟩) len _, .int _ k =>
    match szB P e with
    | some s => if 0 ≤ k ∧ k < len then some (.pointer (some ⟨i, o + k.toNat * s, none⟩)) else none
    | none => none
  | _, _, _ => none
theorem aindex_ok {t : TypeId} {x x' ix v : Value} (hx : Rel R x x') (hl : aindex P t x ix = some v) : ∃ v', (Instr.indexAt t x' ix).run P w = .ok v' w ∧ Rel R v v' := by
  unfold aindex at hl
  split at hl
  · rename_i len e i o kk k hu
    cases hx with
    | ptr _ _ p hp =>
    split at hl
    · rename_i s hs
      split at hl
      · rename_i hk
        injection hl with hl; subst hl
        refine ⟨_, ?_, rel_add hp (k := k.toNat * s)⟩
        simp [Instr.indexAt, asIntOf, run_underlying hu, Instr.sureAddr, hk, run_sizeOf' hs]
      · cases hl
    · cases hl
  · rename_i e i o len c kk k hu
    cases hx with
    | slice _ _ _ _ p hp =>
    split at hl
    · rename_i s hs
      split at hl
      · rename_i hk
        injection hl with hl; subst hl
        refine ⟨_, ?_, rel_add hp (k := k.toNat * s)⟩
        simp [Instr.indexAt, asIntOf, run_underlying hu, hk, run_sizeOf' hs]
      · cases hl
    · cases hl
  · cases hl
/-- A part of an aggregate. -/
def apart_ (P : Program) (t : TypeId) (c : Array Value) (o : Nat) : Option Value :=
  match aggB P t with
  | some true => match szB P t with
    | some n => some (.agg (c.extract o (o + n)))
    | none => none
  | some false => c[o]?
  | none => none
theorem apart_ok {t : TypeId} {c c' : Array Value} {o : Nat} {v : Value} (hc : Rels R c c') (hl : apart_ P t c o = some v) : ∃ v', (part t c' o).run P w = .ok v' w ∧ Rel R v v' := by
  unfold apart_ at hl
  have h0 := hc.1
  split at hl
  · rename_i hg
    split at hl
    · rename_i n hn
      injection hl with hl; subst hl
      refine ⟨.agg (c'.extract o (o + n)), by simp [part, run_isAgg' hg, run_sizeOf' hn], .agg _ _ (by simp [h0]) fun i hi => ?_⟩
      simp at hi
      have := hc.2 (o + i) (by omega)
      simpa [hi, show i < min (o + n) c'.size - o by omega, show o + i < c.size by omega, show o + i < c'.size by omega] using this
    · cases hl
  · rename_i hg
    have hlt := (Array.getElem?_eq_some_iff.1 hl).1
    have := hc.2 o hlt
    have hlt' : o < c'.size := by omega
    refine ⟨c'[o], by simp [part, run_isAgg' hg, hlt'], ?_⟩
    simpa [hl, hlt'] using this
  · cases hl
def afieldOf (P : Program) (t : TypeId) (x : Value) (f : Nat) : Option Value :=
  match P.underlying t, x with
  | some (.struct fs), .agg c => match fs[f]? with
    | some fd => apart_ P fd.type c fd.offset
    | none => none
  | _, _ => none
theorem afieldOf_ok {t : TypeId} {x x' v : Value} {f : Nat} (hx : Rel R x x') (hl : afieldOf P t x f = some v) : ∃ v', (Instr.field t x' f).run P w = .ok v' w ∧ Rel R v v' := by
  unfold afieldOf at hl
  split at hl
  · rename_i fs c hu
    cases hx with
    | agg _ c' h1 h2 =>
    split at hl
    · rename_i fd hf
      obtain ⟨v', k1, k2⟩ := apart_ok (w := w) ⟨h1, h2⟩ hl
      exact ⟨v', by simp [Instr.field, run_underlying hu, hf, asAgg, k1], k2⟩
    · cases hl
  · cases hl
def aindexOf (P : Program) (t : TypeId) (x ix : Value) : Option Value :=
  match P.underlying t, x, ix with
  | some (.array len e), .agg c, .int _ k => match szB P e with
    | some s => if 0 ≤ k ∧ k < len then apart_ P e c (k.toNat * s) else none
    | none => none
  | _, _, _ => none
theorem aindexOf_ok {t : TypeId} {x x' ix v : Value} (hx : Rel R x x') (hl : aindexOf P t x ix = some v) : ∃ v', (Instr.index t x' ix).run P w = .ok v' w ∧ Rel R v v' := by
  unfold aindexOf at hl
  split at hl
  · rename_i len e c kk k hu
    cases hx with
    | agg _ c' h1 h2 =>
    split at hl
    · rename_i s hs
      split at hl
      · rename_i hk
        obtain ⟨v', k1, k2⟩ := apart_ok (w := w) ⟨h1, h2⟩ hl
        exact ⟨v', by simp [Instr.index, asIntOf, run_underlying hu, hk, run_sizeOf' hs, k1], k2⟩
      · cases hl
    · cases hl
  · cases hl
/-! #### aggregates -/
theorem foldl_set_rels : ∀ (l l' : List Value) (k off : Nat) (c c' : Array Value), RelL R l l' → Rels R c c' →
    Rels R ((l.zipIdx k).foldl (fun cs (x, j) => cs.setIfInBounds (off + j) x) c) ((l'.zipIdx k).foldl (fun cs (x, j) => cs.setIfInBounds (off + j) x) c')
  | [], [], _, _, _, _, _, hc => hc
  | [], _ :: _, _, _, _, _, hl, _ => by have := hl.1; simp at this
  | _ :: _, [], _, _, _, _, hl, _ => by have := hl.1; simp at this
  | v :: l, v' :: l', k, off, c, c', hl, hc => by
    simp only [List.zipIdx_cons, List.foldl_cons]
    refine foldl_set_rels l l' (k + 1) off _ _ ⟨by simpa using hl.1, fun j u hj => hl.2 (j + 1) u (by simpa using hj)⟩ (hc.set _ ?_)
    obtain ⟨u, h1, h2⟩ := hl.2 0 v rfl
    simp at h1; subst h1; exact h2
theorem fill_rels (place : Nat → Option (Nat × Nat)) : ∀ (parts parts' : List (Nat × Value)) (c c' r : Array Value), Rels R c c' → parts.map (·.1) = parts'.map (·.1) →
    (∀ (j : Nat) (x y : Nat × Value), parts[j]? = some x → parts'[j]? = some y → Rel R x.2 y.2) → Instr.fill place c parts = some r → ∃ r', Instr.fill place c' parts' = some r' ∧ Rels R r r'
  | [], [], c, c', r, hc, _, _, h => by simp [Instr.fill] at h ⊢; subst h; exact hc
  | [], _ :: _, _, _, _, _, hm, _, _ => by simp at hm
  | _ :: _, [], _, _, _, _, hm, _, _ => by simp at hm
  | (i, v) :: rest, (i', v') :: rest', c, c', r, hc, hm, hv, h => by
    simp at hm
    obtain ⟨rfl, hm⟩ := hm
    have hvv := hv 0 (i, v) (i, v') rfl rfl
    have hcc := Rel.cells hvv
    simp only [Instr.fill] at h ⊢
    cases hp : place i with
    | none => rw [hp] at h; cases h
    | some q =>
      obtain ⟨off, size⟩ := q
      rw [hp] at h
      simp only at h ⊢
      have e1 := hcc.1
      have e2 := hc.1
      simp only at e1
      rw [← e1, ← e2]
      split at h
      · cases h
      · rename_i hcond
        rw [if_neg hcond]
        refine fill_rels place rest rest' _ _ r ?_ hm (fun j x y hx hy => hv (j + 1) x y (by simpa using hx) (by simpa using hy)) h
        have := foldl_set_rels (R := R) v.cells.toList v'.cells.toList 0 off c c' hcc.relL hc
        rw [← Array.foldl_toList, ← Array.foldl_toList]
        simpa using this
def abuild (P : Program) (t : TypeId) (parts : List (Nat × Value)) : Option Value :=
  match zeroB P t with
  | some _ => (P.built t parts).map .agg
  | none => none
theorem abuild_ok {t : TypeId} {parts parts' : Array (Nat × Value)} {v : Value} (hm : parts.toList.map (·.1) = parts'.toList.map (·.1))
    (hv : ∀ (j : Nat) (x y : Nat × Value), parts.toList[j]? = some x → parts'.toList[j]? = some y → Rel R x.2 y.2) (hl : abuild P t parts.toList = some v) :
    ∃ v', (Instr.build t parts').run P w = .ok v' w ∧ Rel R v v' := by
  unfold abuild at hl
  split at hl
  · rename_i zc hz
    obtain ⟨hg, i, z, hi, hzz, hzc, _⟩ := zeroB_run hz
    have hzr : Rels R z.cells z.cells := by
      have := (g0one_rel (R := R) hg).1.rels
      rw [hzc]; simpa using this
    cases hb : P.built t parts.toList with
    | none => simp [hb] at hl
    | some r =>
      simp [hb] at hl
      subst hl
      have : ∃ r', P.built t parts'.toList = some r' ∧ Rels R r r' := by
        unfold Program.built at hb ⊢
        rw [hi] at hb ⊢
        split at hb
        · rename_i it _ e h1 h2
          injection h1 with h1
          subst h1
          rw [hzz] at hb ⊢
          split at hb
          · rename_i z' ie q1 q2
            injection q1 with q1
            subst q1
            exact fill_rels _ _ _ _ _ _ hzr hm hv hb
          · cases hb
        · rename_i it _ fs h1 h2
          injection h1 with h1
          subst h1
          rw [hzz] at hb ⊢
          split at hb
          · rename_i z' pl q1 q2
            injection q1 with q1
            subst q1
            exact fill_rels _ _ _ _ _ _ hzr hm hv hb
          · cases hb
        · cases hb
      obtain ⟨r', h1, h2⟩ := this
      exact ⟨.agg r', run_build w t parts' r' h1, .agg _ _ h2.1 h2.2⟩
  · cases hl
end
end Go.Proofs.Ytmomjannlnafcaa.Sim
