/- From the abstract memory back to the run: arguments that are flat. -/
import Derived.Test.YtmomjannlnafcaaAbs9
import Derived.Deep.Slices
import Derived.Deep.Fields
import Derived.ChangeSame
import Derived.ProofKit
import Derived.OpenShut
namespace Go.Proofs.Ytmomjannlnafcaa.Abs
set_option linter.unusedSimpArgs false
set_option linter.unusedVariables false
open Go.RowKit
open Go.Proofs.Ytmomjannlnafcaa.Sim
open Go.ChangeShapes Go.WideShapes Go.Deep
/-- An argument with the cells that it shows. -/
abbrev AR := Value × List Value
def Okarg (W : World) (a : AR) : Prop := g0 a.1 = true ∨ ∃ b o n cap, a.1 = .slice (some ⟨b, o, none⟩) n cap ∧ n ≤ cap ∧ b < W.heap.size ∧ (∀ j x, a.2[j]? = some x → W.cell? ⟨b, o + j, none⟩ = some x) ∧ ∀ x ∈ a.2, g0 x = true
def mkV (i : Nat) : Value → Value
  | .slice (some _) n _ => .slice (some ⟨i, 0, none⟩) n n
  | v => v
def mkP : AR → Option Sim.Place
  | (.slice (some a) n cap, _) => some ⟨a.block, a.off, cap - n⟩
  | _ => none
def mkB : AR → Option Blk
  | (.slice (some _) _ _, c) => some { cells := c, kind := .ro }
  | _ => none
def mkVs : Nat → List AR → List Value
  | _, [] => []
  | i, a :: l => mkV i a.1 :: mkVs (i + 1) l
theorem mkVs_get : ∀ (l : List AR) (i k : Nat), (mkVs i l)[k]? = (l[k]?).map fun a => mkV (i + k) a.1
  | [], i, k => by simp [mkVs]
  | a :: l, i, 0 => by simp [mkVs]
  | a :: l, i, k + 1 => by simp only [mkVs, List.getElem?_cons_succ, mkVs_get l (i + 1) k]; congr 1; funext x; congr 1; omega
theorem mkVs_len : ∀ (l : List AR) (i : Nat), (mkVs i l).length = l.length
  | [], _ => rfl
  | a :: l, i => by simp [mkVs, mkVs_len l (i + 1)]
theorem top_call {P : Program} {f : FuncId} {W : World} (as : List AR) (h : ∀ a ∈ as, Okarg W a) (hc : ACall P f (mkVs 0 as).toArray (as.map mkB) (Ret (.bool true) (as.map mkB))) :
    Calls P f (as.map (·.1)).toArray W fun e w' => e = .returned (.bool true) ∧ Below W.heap.size W w' := by
  let R : Pl := fun i => (as[i]?).bind mkP
  have hm : MRep W.heap.size R (as.map mkB) W := by
    refine ⟨fun i hi => ?_, fun i b hi => ?_, fun i j b c p q hi hj hb _ _ _ _ => ?_⟩
    · simp only [List.length_map] at hi
      simp [R, List.getElem?_eq_none hi]
    · rw [List.getElem?_map] at hi
      cases ha : as[i]? with
      | none => rw [ha] at hi; cases hi
      | some a =>
        rw [ha] at hi
        simp only [Option.map_some, Option.some.injEq] at hi
        obtain ⟨v, c⟩ := a
        rcases h _ (List.mem_of_getElem? ha) with h1 | ⟨bb, o, n, cap, h1, h2, h3, h4, h5⟩
        · simp only at h1
          cases v with
          | slice x n cap => cases x with
            | none => simp [mkB] at hi
            | some x => simp [g0] at h1
          | _ => simp [mkB] at hi
        · simp only at h1
          subst h1
          simp only [mkB, Option.some.injEq] at hi
          subst hi
          refine ⟨⟨bb, o, cap - n⟩, by simp [R, ha, mkP], h3, ?_⟩
          refine ⟨fun e => by simp at e, fun j x hj => ⟨x, h4 j x hj, g0_rel (h5 x (List.mem_of_getElem? hj))⟩⟩
    · rw [List.getElem?_map] at hi
      cases ha : as[i]? with
      | none => rw [ha] at hi; cases hi
      | some a =>
        rw [ha] at hi
        simp only [Option.map_some, Option.some.injEq] at hi
        obtain ⟨v, c'⟩ := a
        cases v with
        | slice x n cap => cases x with
          | none => simp [mkB] at hi
          | some x => simp only [mkB, Option.some.injEq] at hi; subst hi; cases hb
        | _ => simp [mkB] at hi
  have hargs : Rels R (mkVs 0 as).toArray (as.map (·.1)).toArray := by
    refine ⟨by simp [mkVs_len], fun i hi => ?_⟩
    simp only [List.size_toArray, mkVs_len] at hi
    have ha : as[i]? = some as[i] := List.getElem?_eq_getElem hi
    have e1 : (mkVs 0 as).toArray.getD i undef = mkV i as[i].1 := by
      simp [mkVs_get, ha]
    have e2 : (as.map (·.1)).toArray.getD i undef = as[i].1 := by simp [hi]
    rw [e1, e2]
    generalize as[i] = a at ha
    obtain ⟨v, c⟩ := a
    rcases h _ (List.mem_of_getElem? ha) with h1 | ⟨bb, o, n, cap, h1, h2, h3, h4, h5⟩
    · simp only at h1 ⊢
      cases v with
      | slice x n cap => cases x with
        | none => exact g0_rel h1
        | some x => simp [g0] at h1
      | _ => exact g0_rel h1
    · simp only at h1 ⊢
      subst h1
      have := Rel.slice (R := R) i 0 n n ⟨bb, o, cap - n⟩ (by simp [R, ha, mkP]) (Nat.le_refl _)
      rw [show n + (cap - n) = cap by omega] at this
      simpa [mkV] using this
  refine (hc W.heap.size R W _ (Nat.le_refl _) hm hargs).mono ?_
  rintro e w' ⟨v, v', R', m', rfl, k1, k2, rfl, rfl⟩
  cases k1
  exact ⟨rfl, k2.below hm (Nat.le_refl _)⟩
/-! ### arguments opened -/
section
variable {H : Type} {enc : TypeId × Value → H} {P : Program} {w : World} {base : Nat} {spare : Nat → Bool} {held : Bool}
theorem ok_slice {r : Reach} {b0 : Nat} {T e : TypeId} {a : Option Addr} {n c : Nat} (ht : P.underlying T = some (.slice e)) (h : Value.okWide P w r b0 T (.slice a n c)) : (a = none ∧ n = 0 ∧ c = 0) ∨ ∃ b o, a = some ⟨b, o, none⟩ ∧ n ≤ c ∧ b < w.heap.size := by
  simp only [Value.okWide, ht, Cell.okWide, Cell.ok] at h
  cases a with
  | none =>
    cases n <;> cases c <;> simp_all
  | some x =>
    obtain ⟨h1, _, h3⟩ := h
    obtain ⟨_, hs, row, cells, hsh, _⟩ := h3
    obtain ⟨b, o, s⟩ := x
    simp only at hs
    subst hs
    refine .inr ⟨b, o, rfl, h1, ?_⟩
    simp only [World.shape?] at hsh
    rcases Nat.lt_or_ge b w.heap.size with hlt | hge
    · exact hlt
    · rw [Array.getElem?_eq_none hge] at hsh; cases hsh
/-- A slice of ints as an argument. -/
theorem arg_ints {r : Reach} {b0 : Nat} {T e : TypeId} {a : Option Addr} {n c : Nat} {d : DataW H} {p : List MemPlace} (ht : P.underlying T = some (.slice e)) (he : P.underlying e = some (.int .i64)) (hce : P.cellsOf e = 1) (hok : Value.okWide P w r b0 T (.slice a n c)) (h : DataW.Trod enc P w base spare held T (.slice a n c) d p) :
    ∃ l : List Int, l.length = n ∧ n ≤ maxLen ∧ Okarg w (.slice a n c, iv l) ∧ (∀ M : AM, ∀ i, M[i]? = some (mkB (.slice a n c, iv l)) → Ints M (mkV i (.slice a n c)) l) := by
  obtain ⟨fuel, h⟩ := h
  rcases ok_slice ht hok with ⟨rfl, rfl, rfl⟩ | ⟨b, o, rfl, hle, hlt⟩
  · exact ⟨[], rfl, by unfold maxLen; omega, .inl rfl, fun M i hi => ⟨i, 0, .inl ⟨rfl, rfl⟩, (List.getElem?_eq_some_iff.1 hi).1, fun k hk => by simp at hk⟩⟩
  · rcases open_ints ht he hce h with ⟨hcs, _⟩ | ⟨x, l, c', zs, hcs, _, hl, hm, hz, _, hcell, _⟩
    · simp [Value.cells] at hcs
    · simp [Value.cells] at hcs
      obtain ⟨rfl, rfl, rfl⟩ := hcs
      have hzl : n ≤ zs.length := by rw [hz]; split <;> omega
      have hlen : (zs.take n).length = n := by simp; omega
      refine ⟨zs.take n, hlen, by omega, .inr ⟨b, o, n, c, rfl, hle, hlt, fun j x hj => ?_, g0_iv _⟩, fun M i hi => ?_⟩
      · simp only [iv, List.getElem?_map] at hj
        by_cases hjn : j < n
        · rw [List.getElem?_take, if_pos hjn, List.getElem?_eq_getElem (by omega)] at hj
          simp only [Option.map_some, Option.some.injEq] at hj
          have := hcell j (by omega)
          rw [Addr.add_lit] at this
          rw [this, ← hj]
          simp [show j < zs.length by omega]
        · rw [List.getElem?_take, if_neg hjn] at hj
          cases hj
      · simp only [mkB] at hi
        exact ints_at hi rfl n hlen.symm
theorem open_slice_fields {t e : TypeId} {fs : Array Field} {fuel : Nat} {cs : List Value} {x : DataW H × List MemPlace} (ht : P.underlying t = some (.slice e)) (he : P.underlying e = some (.struct fs))
    (hone : oneCellFields P fs = true) (hC : P.cellsOf e = fs.size) (h : DataW.trod enc P w base spare held fuel t cs = some x) :
    (cs = [.slice none 0 0] ∧ x = (.nil, [])) ∨
    ∃ (a : Addr) (len cap m : Nat) (D : Nat → DataW H) (Pl : Nat → List MemPlace), cs = [.slice (some a) len cap] ∧ base ≤ a.block ∧ len ≤ cap ∧ cap ≤ maxLen ∧ m = (if spare a.block then cap else len) ∧
      x = (.slice ((List.range len).map D) ((List.range (m - len)).map fun j => D (len + j)), MemPlace.row a (m * fs.size) ++ (List.range m).flatMap Pl) ∧
      ∀ i, i < m → ∃ (ys : List (DataW H × List MemPlace)) (n : Nat), D i = .agg (ys.map (·.1)) ∧ Pl i = ys.flatMap (·.2) ∧ ys.length = fs.size ∧
        ∀ (j : Nat) (f : Field), fs[j]? = some f → ∃ (v : Value) (y : DataW H × List MemPlace), w.cell? (a.add (i * fs.size + j)) = some v ∧ ys[j]? = some y ∧ DataW.trod enc P w base spare held n f.type [v] = some y := by
  rcases open_slice ht h with h0 | ⟨a, len, cap, m, n, D, Pl, hcs, hb, hl, hm, hmm, hx, hi⟩
  · exact .inl h0
  · refine .inr ⟨a, len, cap, m, D, Pl, hcs, hb, hl, hm, hmm, by rw [hC] at hx; exact hx, fun i him => ?_⟩
    obtain ⟨cs', hc, ht'⟩ := hi i him
    rw [hC] at hc
    obtain ⟨ys, n', hn', hy, hlen, hyl, hf⟩ := DataW.trod_struct he ht'
    obtain ⟨_, hcl, hat⟩ := World.cells?_some hc
    simp only [Prod.mk.injEq] at hy
    refine ⟨ys, n', hy.1, hy.2, hyl, fun j f hj => ?_⟩
    obtain ⟨ho, hk⟩ := hone_of hone j f hj
    have hjl : j < fs.size := (Array.getElem?_eq_some_iff.1 hj).1
    have hcell := hat j hjl
    have hv : cs'[j]? = some (cs'[j]'(by omega)) := List.getElem?_eq_getElem (by omega)
    have h1 := hf j f hj
    rw [ho, hk] at h1
    have hone' : (cs'.drop j).take 1 = [cs'[j]'(by omega)] := by
      rw [List.drop_eq_getElem_cons (by omega)]
      rfl
    rw [hone'] at h1
    have hys : ys[j]? = some (ys[j]'(by omega)) := List.getElem?_eq_getElem (by omega)
    refine ⟨_, _, ?_, hys, h1.trans hys⟩
    rw [← Go.Deep.add_add, hcell, hv]
theorem fields_int {fs : Array Field} (h : fs.all (fun f => match P.underlying f.type with | some (.int .i64) => true | _ => false) = true) {j : Nat} {f : Field} (hj : fs[j]? = some f) : P.underlying f.type = some (.int .i64) := by
  have := Array.all_eq_true'.1 h f (Array.mem_of_getElem? hj)
  split at this
  · assumption
  · cases this
/-- A slice of structs of ints as an argument. -/
theorem arg_rows {r : Reach} {b0 : Nat} {T e : TypeId} {fs : Array Field} {a : Option Addr} {n c : Nat} {d : DataW H} {p : List MemPlace} (ht : P.underlying T = some (.slice e)) (he : P.underlying e = some (.struct fs)) (hone : oneCellFields P fs = true) (hC : P.cellsOf e = fs.size)
    (hi : fs.all (fun f => match P.underlying f.type with | some (.int .i64) => true | _ => false) = true) (hok : Value.okWide P w r b0 T (.slice a n c)) (h : DataW.Trod enc P w base spare held T (.slice a n c) d p) :
    ∃ F : Nat → List Int, (∀ k, (F k).length = fs.size) ∧ n ≤ maxLen ∧ Okarg w (.slice a n c, (List.range n).flatMap fun k => iv (F k)) ∧ (∀ M : AM, ∀ i, M[i]? = some (mkB (.slice a n c, (List.range n).flatMap fun k => iv (F k))) → Sl (mkV i (.slice a n c)) i 0 n ∧ i < M.length ∧ ∀ k, k < n → RdL M i (0 + k * fs.size) (iv (F k))) := by
  obtain ⟨fuel, h⟩ := h
  rcases ok_slice ht hok with ⟨rfl, rfl, rfl⟩ | ⟨b, o, rfl, hle, hlt⟩
  · exact ⟨fun _ => List.replicate fs.size 0, fun _ => by simp, by unfold maxLen; omega, .inl rfl, fun M i hi => ⟨.inl ⟨rfl, rfl⟩, (List.getElem?_eq_some_iff.1 hi).1, fun k hk => by omega⟩⟩
  · rcases open_slice_fields ht he hone hC h with ⟨hcs, _⟩ | ⟨x, l, cap, m, D, Pl, hcs, _, hl, hm, hmm, _, hrow⟩
    · simp [Value.cells] at hcs
    · simp [Value.cells] at hcs
      obtain ⟨rfl, rfl, rfl⟩ := hcs
      have key : ∀ k : Nat, ∃ q : List Int, q.length = fs.size ∧ (k < n → ∀ j, j < fs.size → w.cell? ⟨b, o + (k * fs.size + j), none⟩ = some (.int .i64 (q.getD j 0))) := fun k => by
        by_cases hk : k < n
        · obtain ⟨ys, nn, _, _, _, hf⟩ := hrow k (by rw [hmm]; split <;> omega)
          have key2 : ∀ j : Nat, ∃ z : Int, j < fs.size → w.cell? ⟨b, o + (k * fs.size + j), none⟩ = some (.int .i64 z) := fun j => by
            by_cases hj : j < fs.size
            · obtain ⟨v, y, h1, _, h3⟩ := hf j fs[j] (Array.getElem?_eq_getElem hj)
              obtain ⟨z, hz, _⟩ := DataW.trod_int (fields_int hi (Array.getElem?_eq_getElem hj)) h3
              simp at hz
              subst hz
              rw [Addr.add_lit] at h1
              exact ⟨z, fun _ => h1⟩
            · exact ⟨0, fun h => absurd h hj⟩
          obtain ⟨g, hg⟩ := Classical.axiomOfChoice key2
          refine ⟨(List.range fs.size).map g, by simp, fun _ j hj => ?_⟩
          rw [hg j hj]
          simp [hj]
        · exact ⟨List.replicate fs.size 0, by simp, fun h => absurd h hk⟩
      obtain ⟨F, hF⟩ := Classical.axiomOfChoice key
      have hlenF : ∀ k, (iv (F k)).length = fs.size := fun k => by rw [iv_len]; exact (hF k).1
      have get : ∀ q, ∀ k, k < q → ∀ j v, (iv (F k))[j]? = some v → ((List.range q).flatMap fun k => iv (F k))[k * fs.size + j]? = some v := by
        intro q
        induction q with
        | zero => intro k hk; omega
        | succ q ih =>
          intro k hk j v hj
          have hjl : j < fs.size := by
            have := (List.getElem?_eq_some_iff.1 hj).1
            rwa [hlenF] at this
          have hql : ((List.range q).flatMap fun k => iv (F k)).length = q * fs.size := by
            clear ih hk hj
            induction q with
            | zero => simp
            | succ q ih2 => rw [List.range_succ, List.flatMap_append, List.length_append, ih2]; simp [hlenF, Nat.add_mul]
          rw [List.range_succ, List.flatMap_append]
          rcases Nat.lt_succ_iff_lt_or_eq.1 hk with h' | h'
          · have h2 : k * fs.size + fs.size ≤ q * fs.size := by
              have := Nat.mul_le_mul_right fs.size (show k + 1 ≤ q by omega)
              rw [Nat.add_mul] at this; omega
            rw [List.getElem?_append_left (by rw [hql]; omega)]
            exact ih k h' j v hj
          · subst h'
            rw [List.getElem?_append_right (by rw [hql]; omega), hql, Nat.add_sub_cancel_left]
            simpa using hj
      have tot : ∀ q, ((List.range q).flatMap fun k => iv (F k)).length = q * fs.size := fun q => by
        induction q with
        | zero => simp
        | succ q ih2 => rw [List.range_succ, List.flatMap_append, List.length_append, ih2]; simp [hlenF, Nat.add_mul]
      refine ⟨F, fun k => (hF k).1, by omega, .inr ⟨b, o, n, c, rfl, hle, hlt, fun j x hj => ?_, fun x hx => ?_⟩, fun M i hM => ?_⟩
      · have hjl := (List.getElem?_eq_some_iff.1 hj).1
        simp only at hjl hj
        rw [tot] at hjl
        have hs : 0 < fs.size := by
          rcases Nat.eq_zero_or_pos fs.size with h0 | h0
          · rw [h0] at hjl; omega
          · exact h0
        have hk : j / fs.size < n := (Nat.div_lt_iff_lt_mul hs).2 hjl
        have hr : j % fs.size < fs.size := Nat.mod_lt _ hs
        have e : j = j / fs.size * fs.size + j % fs.size := by rw [Nat.mul_comm]; exact (Nat.div_add_mod j fs.size).symm
        have h1 := get n (j / fs.size) hk (j % fs.size) (.int .i64 ((F (j / fs.size)).getD (j % fs.size) 0)) (iv_get (by rw [(hF _).1]; exact hr))
        rw [← e] at h1
        rw [h1] at hj
        injection hj with hj
        have h2 := (hF (j / fs.size)).2 hk (j % fs.size) hr
        rw [← e] at h2
        rw [h2, hj]
      · obtain ⟨k, _, hk⟩ := List.mem_flatMap.1 hx
        exact g0_iv _ x hk
      · simp only [mkB] at hM
        refine ⟨Sl.mk (Nat.le_refl _), (List.getElem?_eq_some_iff.1 hM).1, fun k hk => ⟨_, hM, fun j v hj => ?_⟩⟩
        rw [Nat.zero_add]
        exact get n k hk j v hj
end
end Go.Proofs.Ytmomjannlnafcaa.Abs
