import Derived.Test.YtmomjannlnafcaaAbs7
namespace Go.Proofs.Ytmomjannlnafcaa.Abs
set_option linter.unusedSimpArgs false
set_option linter.unusedVariables false
open Go.RowKit
open Go.Proofs.Ytmomjannlnafcaa.Sim
/-! ### loops over a memory M ++ L -/
/-- From here a round may begin anew with the frame l and the blocks L. -/
def Back (M : AM) (t : Fm) (m : AM) (l : List (Nat × Value)) (L : AM) : Prop := (m = M ++ L ∧ All (fun i v => t i = some v) l) ∨ Gc M t m (fr l) (M ++ L)
section
variable {P : Program} {nt : Nat} {M L : AM} {t : Fm} {Q : AEx → Fm → AM → Prop} {ops : Array Oper} {K : Fm → AM → Prop} {d T : Nat} {p : String} {af : Array Edge}
theorem Back.ok {base : Nat} {R R0 : Pl} {m : AM} {w w0 : World} {u : Array Value} {l : List (Nat × Value)} (h : Back M t m l L) (h0 : MRep base R0 M w0) (hp : Post base M m R0 R w0 w) (ht : FR R nt t u) : ∃ R1, Post base M (M ++ L) R0 R1 w0 w ∧ FR R1 nt (fr l) u := by
  rcases h with ⟨rfl, h⟩ | h
  · exact ⟨R, hp, ht.weak (fr_all h)⟩
  · exact h.ok h0 hp ht
theorem AW.loopT {c : Code} (I : Nat → List (Nat × Value) → AM → Prop) (h0 : ∃ k l L', Back M t (M ++ L) l L' ∧ I k l L')
    (round : ∀ k l L, I k l L → AW P nt M c (fr l) (M ++ L) (Then (fun t' m' => ∃ k' l' L', k' < k ∧ Back M t' m' l' L' ∧ I k' l' L') Q)) : AW P nt M (.loop c) t (M ++ L) Q := by
  intro base R0 w0 R ac w hb hm0 hp ht
  let J : Nat → Act → World → Prop := fun k a w => ∃ l L R, I k l L ∧ Post base M (M ++ L) R0 R w0 w ∧ FR R nt (fr l) a.tmps ∧ a.defers = ac.defers
  have hJ0 : ∃ k, J k ac w := by
    obtain ⟨k, l, L', h1, h2⟩ := h0
    obtain ⟨R1, k1, k2⟩ := h1.ok hm0 hp ht
    exact ⟨k, l, L', R1, h2, k1, k2, rfl⟩
  open Classical in
  let μ : Act → World → Nat := fun a w => if h : ∃ k, J k a w then Classical.choose (least _ h) else 0
  have hμ : ∀ a w (h : ∃ k, J k a w), J (μ a w) a w ∧ ∀ k, J k a w → μ a w ≤ k := fun a w h => by
    have hs := Classical.choose_spec (least _ h)
    have e : μ a w = Classical.choose (least _ h) := dif_pos h
    rw [e]
    exact ⟨hs.1, fun k hk => Nat.le_of_not_lt fun hlt => hs.2 k hlt hk⟩
  refine wp_loop (fun a w => ∃ k, J k a w) μ hJ0 fun a w hJ => ?_
  obtain ⟨⟨l2, L2, R2, q1, q2, q3, q4⟩, _⟩ := hμ a w hJ
  refine wp_mono (round _ _ _ q1 base R0 w0 R2 a w hb hm0 q2 q3) ?_
  rintro ex a' w' ⟨e, t', m', R', rfl, h2, h3, h4, h5⟩
  cases e with
  | normal =>
    obtain ⟨k', l', L', r1, r2, r3⟩ := h5
    obtain ⟨R1, s1, s2⟩ := r2.ok hm0 h3 h4
    have hJ' : J k' a' w' := ⟨l', L', R1, r3, s1, s2, h2.trans q4⟩
    exact ⟨⟨k', hJ'⟩, Nat.lt_of_le_of_lt ((hμ a' w' ⟨k', hJ'⟩).2 k' hJ') r1⟩
  | exit i => exact ⟨.exit i, t', m', R', rfl, h2.trans q4, h3, h4, h5⟩
  | ret => exact ⟨.ret, t', m', R', rfl, h2.trans q4, h3, h4, h5⟩
theorem ACall.start {f : FuncId} {fn : Func} {c : Code} {args : Array Value} {Q : Value → AM → Prop} (hf : P.funcs[f]? = some fn) (hb : fn.body = some c) (hsz : Nat.ble args.size fn.ntmps = true)
    (h : AW P fn.ntmps M c (argF args) (M ++ []) (Ends P fn Q)) : ACall P f args M Q :=
  .intro hf hb (Nat.le_of_ble_eq_true hsz) (by rw [List.append_nil] at h; exact h)
/-- Cells that name no blocks. -/
def CellsOk (L : AM) : Prop := ∀ b, some b ∈ L → ∀ v ∈ b.cells, g0 v = true
theorem CellsOk.nil : CellsOk [] := fun b h => by simp at h
theorem CellsOk.none {L : AM} (h : CellsOk L) : CellsOk (none :: L) := fun b hb => h b (by simpa using hb)
theorem CellsOk.cons {b : Blk} {L : AM} (hb : ∀ v ∈ b.cells, g0 v = true) (h : CellsOk L) : CellsOk (some b :: L) := fun c hc => by
  rcases List.mem_cons.1 hc with e | e
  · injection e with e; subst e; exact hb
  · exact h c e
theorem Back.trim {m : AM} {l : List (Nat × Value)} {L1 L2 L3 : AM} (hm : m = M ++ L3) (hL : L3 = L1 ++ L2) (hc : CellsOk L1) (h : All (fun i v => t i = some v ∧ Ren rid (M.length + L1.length) v v) l) : Back M t m l L1 := by
  subst hm
  exact .inr (Gc.trim hL (fun b hb v hv => .of_g0 (hc b hb v hv)) h)
theorem Back.mv {m : AM} {l : List (Nat × Value)} {L1 L3 : AM} (p q : Nat) (hm : m = M ++ L3) (hp : Nat.blt p L1.length = true) (hq : Nat.ble L1.length q = true) (hpq : L1[p]? = L3[q]?) (hrest : ∀ j b, j ≠ p → L1[j]? = some (some b) → L3[j]? = some (some b)) (hc : CellsOk L1)
    (h : All (fun i v => ∃ v', t i = some v' ∧ Ren (fun i => if i = M.length + p then M.length + q else i) (M.length + L1.length) v v') l) : Back M t m l L1 := by
  subst hm
  exact .inr (Gc.mv (by simpa using hp) (Nat.le_of_ble_eq_true hq) hpq hrest (fun b hb v hv => .of_g0 (hc b hb v hv)) h)
theorem Ren.slice_mv {N p q : Nat} {l c o n : Nat} (h : N + p < n) : Ren (fun i => if i = N + p then N + q else i) n (.slice (some ⟨N + p, o, none⟩) l c) (.slice (some ⟨N + q, o, none⟩) l c) := by
  have := Ren.slice (ρ := fun i => if i = N + p then N + q else i) (n := n) (N + p) o l c h
  simpa using this
theorem Ren.slice_ne {N p q : Nat} {a l c o n : Nat} (h : a < n) (hne : a ≠ N + p) : Ren (fun i => if i = N + p then N + q else i) n (.slice (some ⟨a, o, none⟩) l c) (.slice (some ⟨a, o, none⟩) l c) := by
  have := Ren.slice (ρ := fun i => if i = N + p then N + q else i) (n := n) a o l c h
  simpa [hne] using this
theorem Ren.of_sl_ne {N p q : Nat} {v : Value} {a o n k : Nat} (h : Sl v a o k) (ha : a < N) (hn : N ≤ n) : Ren (fun i => if i = N + p then N + q else i) n v v := by
  rcases h with ⟨rfl, _⟩ | ⟨c, _, rfl⟩
  · exact .sliceNil
  · exact .slice_ne (by omega) (by omega)
/-- At the end: all that the call made is let go. -/
theorem AW.retD {l : List (Nat × Value)} (h : All (fun i v => t i = some v ∧ Ren rid M.length v v) l) (hQ : Q .ret (fr l) M) : AW P nt M .ret t (M ++ L) Q := .gc (Gc.drop h) (.ret hQ)
/-- At the end: of the blocks that the call made the first ones stay. -/
theorem AW.retT {l : List (Nat × Value)} {L1 L2 : AM} (hL : L = L1 ++ L2) (hc : CellsOk L1) (h : All (fun i v => t i = some v ∧ Ren rid (M.length + L1.length) v v) l) (hQ : Q .ret (fr l) (M ++ L1)) : AW P nt M .ret t (M ++ L) Q :=
  .gc (Gc.trim hL (fun b hb v hv => .of_g0 (hc b hb v hv)) h) (.ret hQ)
theorem AW.retB {l : List (Nat × Value)} {L1 : AM} (hB : Back M t (M ++ L) l L1) (hQ : Q .ret (fr l) (M ++ L1)) : AW P nt M .ret t (M ++ L) Q := by
  intro base R0 w0 R a w hb h0 hp ht
  obtain ⟨R1, k1, k2⟩ := hB.ok h0 hp ht
  exact AW.ret hQ base R0 w0 R1 a w hb h0 k1 k2
theorem Step.ix1z {x y : Operand} {a n k X : Nat} {kk : IntKind} {v : Value} {m : AM} (hx : evo t x = some v) (hs : Sl v a 0 n) (hy : evo t y = some (.int kk ((k : Nat) : Int))) (he : elB P X = some 1) (hlt : Nat.blt d nt = true) (hk : k < n) (hK : K (put t d (.pointer (some ⟨a, k, none⟩))) m) : Step P nt ops ⟨some d, .indexAddr X x y, T, p, af, none⟩ t m K :=
  .ix1 hx hs hy he hlt hk (by simpa using hK)
theorem Step.ixz {x y : Operand} {s a n k X : Nat} {kk : IntKind} {v : Value} {m : AM} (hx : evo t x = some v) (hs : Sl v a 0 n) (hy : evo t y = some (.int kk ((k : Nat) : Int))) (he : elB P X = some s) (hlt : Nat.blt d nt = true) (hk : k < n) (hK : K (put t d (.pointer (some ⟨a, k * s, none⟩))) m) : Step P nt ops ⟨some d, .indexAddr X x y, T, p, af, none⟩ t m K :=
  .ix hx hs hy he hlt hk (by simpa using hK)
end
/-! ### operations as a list -/
def planB (P : Program) (ops : Array Oper) : Bool := match plan P ops ops.size (Array.replicate ops.size false) with
  | some q => q == List.range ops.size
  | none => false
def AWo (P : Program) (nt : Nat) (ops : Array Oper) : List Oper → Fm → AM → (Fm → AM → Prop) → Prop
  | [], t, m, Q => Q t m
  | o :: rest, t, m, Q => Step P nt ops o t m (fun t m => AWo P nt ops rest t m Q)
section
variable {P : Program} {nt : Nat} {ops : Array Oper} {t : Fm} {m m0 : AM}
theorem AWo.nil {Q : Fm → AM → Prop} (h : Q t m) : AWo P nt ops [] t m Q := h
theorem AWo.cons {o : Oper} {rest : List Oper} {Q : Fm → AM → Prop} (h : Step P nt ops o t m (fun t m => AWo P nt ops rest t m Q)) : AWo P nt ops (o :: rest) t m Q := h
theorem AWo.to {Q : Fm → AM → Prop} : ∀ (l : List Oper) (k : Nat) (t : Fm) (m : AM), (∀ j, l[j]? = ops[k + j]?) → AWo P nt ops l t m Q → AWi P nt ops (List.range' k l.length) t m Q
  | [], _, _, _, _, h => h
  | o :: rest, k, t, m, hl, h => by
    rw [List.length_cons, List.range'_succ]
    refine ⟨o, by have := hl 0; simpa using this.symm, ?_⟩
    exact Step.mono h fun v m' hk => AWo.to rest (k + 1) _ _ (fun j => by have := hl (j + 1); simpa [Nat.add_assoc, Nat.add_comm 1 j] using this) hk
theorem AW.regL {id : Nat} {l : List Oper} {Q : AEx → Fm → AM → Prop} (h : AWo P nt l.toArray l t m (fun t m => Q .normal t m)) : AW P nt m0 (.region id l.toArray false) t m Q :=
  .reg rfl (by
    have := AWo.to l 0 t m (by simp) h
    simpa [List.range_eq_range'] using this)
/-- A region that draws, and whose plan is the order of the text. -/
theorem AW.drawL (hP : Fit P) {id : Nat} {l : List Oper} {Q : AEx → Fm → AM → Prop} (hl : planB P l.toArray = true) (h : AWo P nt l.toArray l t m (fun t m => Q .normal t m)) : AW P nt m0 (.region id l.toArray true) t m Q := by
  unfold planB at hl
  split at hl
  · rename_i q hq
    have e := eq_of_beq hl
    subst e
    exact .draw hP hq (by
      have := AWo.to l 0 t m (by simp) h
      simpa [List.range_eq_range'] using this)
  · cases hl
end
/-! ### rows of numbers -/
def iv (l : List Int) : List Value := l.map (.int .i64)
def bv (l : List Bool) : List Value := l.map .bool
theorem iv_get {l : List Int} {k : Nat} (h : k < l.length) : (iv l)[k]? = some (.int .i64 (l.getD k 0)) := by simp [iv, h]
theorem bv_get {l : List Bool} {k : Nat} (h : k < l.length) : (bv l)[k]? = some (.bool (l.getD k false)) := by simp [bv, h]
theorem iv_set (l : List Int) (k : Nat) (x : Int) : (iv l).set k (.int .i64 x) = iv (l.set k x) := by simp [iv, List.map_set]
theorem bv_set (l : List Bool) (k : Nat) (x : Bool) : (bv l).set k (.bool x) = bv (l.set k x) := by simp [bv, List.map_set]
theorem iv_rep (n : Nat) : List.replicate n (.int .i64 0) = iv (List.replicate n 0) := by simp [iv]
theorem bv_rep (n : Nat) : List.replicate n (.bool false) = bv (List.replicate n false) := by simp [bv]
theorem iv_app (l k : List Int) : iv l ++ iv k = iv (l ++ k) := by simp [iv]
theorem iv_len (l : List Int) : (iv l).length = l.length := by simp [iv]
theorem bv_len (l : List Bool) : (bv l).length = l.length := by simp [bv]
theorem g0_iv (l : List Int) : ∀ v ∈ iv l, g0 v = true := fun v h => by
  obtain ⟨x, _, rfl⟩ := List.mem_map.1 h; rfl
theorem g0_bv (l : List Bool) : ∀ v ∈ bv l, g0 v = true := fun v h => by
  obtain ⟨x, _, rfl⟩ := List.mem_map.1 h; rfl
theorem iv_one (l : List Int) : (iv l).all (·.oneCell') = true := by simp [iv, Value.oneCell']
theorem ints_new {M : AM} {L : AM} {k : Nat} {l : List Int} {b : Blk} (h : L[k]? = some (some b)) (hb : b.cells = iv l) (n : Nat) (hn : n = l.length) : Ints (M ++ L) (.slice (some ⟨M.length + k, 0, none⟩) n n) l := by
  subst hn
  refine ⟨M.length + k, 0, Sl.mk (Nat.le_refl _), by have := (List.getElem?_eq_some_iff.1 h).1; simp; omega, fun j hj => ?_⟩
  exact Rd.new h (by rw [hb, Nat.zero_add]; exact iv_get hj)
theorem ints_at {M : AM} {l : List Int} {b : Blk} {a : Nat} (h : M[a]? = some (some b)) (hb : b.cells = iv l) (n : Nat) (hn : n = l.length) : Ints M (.slice (some ⟨a, 0, none⟩) n n) l := by
  subst hn
  exact ⟨a, 0, Sl.mk (Nat.le_refl _), (List.getElem?_eq_some_iff.1 h).1, fun j hj => ⟨b, h, by rw [hb, Nat.zero_add]; exact iv_get hj⟩⟩
theorem ints_nil {M : AM} (hM : 0 < M.length) : Ints M (.slice none 0 0) [] := ⟨0, 0, .inl ⟨rfl, rfl⟩, hM, fun k hk => by simp at hk⟩
end Go.Proofs.Ytmomjannlnafcaa.Abs
