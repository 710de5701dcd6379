/- Proved here: what the proof of StockSaves rests on, part 4 of 4. Conditions: those that each theorem names. -/
import Derived.Test.YtabdnepfcohncaaStockSavesK3
namespace Go.Proofs.Ytabdnepfcohncaa.Abs
set_option linter.unusedSimpArgs false
set_option linter.unusedVariables false
open Go.RowKit
open Go.Proofs.Ytabdnepfcohncaa.Sim
open Go.Proofs
/-- A place is named, nothing lies in it. -/
theorem Post.none_put {base : Nat} {R : Pl} {m : AM} {w : World} (h : MRep base R m w) (q : Sim.Place) : Post base m (m ++ [none]) R (R.put m.length q) w w := by
  have hle := Pl.le_put R m.length q (h.none_ _ (Nat.le_refl _))
  have old : ∀ (i : Nat) (b : Blk), (m ++ [none])[i]? = some (some b) → m[i]? = some (some b) := by
    intro i b hi
    rcases Nat.lt_or_ge i m.length with hl | hl
    · rwa [List.getElem?_append_left hl] at hi
    · rw [List.getElem?_append_right hl] at hi
      rcases Nat.eq_zero_or_pos (i - m.length) with e | e
      · rw [e] at hi; simp at hi
      · rw [List.getElem?_eq_none (by simp; omega)] at hi; cases hi
  have ne : ∀ (i : Nat) (b : Blk), m[i]? = some (some b) → i ≠ m.length := fun i b hi => by
    have := (List.getElem?_eq_some_iff.1 hi).1
    omega
  refine ⟨hle, ⟨fun j hj => ?_, fun j d hj => ?_, fun i j b c p r hi hj hb hc hij hp hr => ?_⟩, rfl, rfl, rfl, Nat.le_refl _, fun _ _ _ => rfl, fun k ho => .inr ?_⟩
  · simp at hj
    rw [Pl.put_other _ _ (by omega)]
    exact h.none_ j (by omega)
  · obtain ⟨r, h1, h2⟩ := h.rep j d (old j d hj)
    exact ⟨r, hle _ _ h1, h2.mono hle⟩
  · rw [Pl.put_other _ _ (ne i b (old i b hi))] at hp
    rw [Pl.put_other _ _ (ne j c (old j c hj))] at hr
    exact h.apart i j b c p r (old i b hi) (old j c hj) hb hc hij hp hr
  · obtain ⟨i, b, p, h1, h2, h3, h4⟩ := ho
    rw [Pl.put_other _ _ (ne i b (old i b h1))] at h3
    exact ⟨i, b, p, old i b h1, h2, h3, h4⟩
section
variable {P : Program} {nt : Nat} {ops : Array Oper} {t : Fm} {m : AM} {K : Fm → AM → Prop} {d T : Nat} {p : String} {af : Array Edge}
/-- A row without its first elements, whatever room it has. -/
theorem Step.restN {x y : Operand} {X e s a o n c l : Nat} {kk : IntKind} {i : Int} (hx : evo t x = some (.slice (some ⟨a, o, none⟩) n c)) (hy : evo t y = some (.int kk i)) (hi : i = ((l : Nat) : Int)) (hl : l ≤ n) (hn : n ≤ c) (hX : P.underlying X = some (.slice e)) (hsz : szB P e = some s)
    (hlt : Nat.blt d nt = true) (hK : ∀ a' o', a' < m.length + 1 ∨ a' = a → (l < n → a' = a ∧ o' = o + l * s) → K (put t d (.slice (some ⟨a', o', none⟩) (n - l) (c - l))) (m ++ [none])) : Step P nt ops ⟨some d, .slice X x (some y) none none, T, p, af, none⟩ t m K := by
  subst hi
  refine .l rfl rfl hlt (by simp [stillB, hX]) (by simp [Op.operands, hx, hy]) ?_
  intro base R w b Q next hb hm hev hn'
  have h1 := hev x (by simp [Op.operands])
  have h2 := hev y (by simp [Op.operands])
  rw [evD_of hx] at h1
  rw [evD_of hy] at h2
  obtain ⟨q, hq, ex⟩ : ∃ q, R a = some q ∧ b.eval x = .slice (some ⟨q.block, q.off + o, none⟩) n (c + q.extra) := by
    generalize b.eval x = x' at h1
    cases h1 with
    | slice _ _ _ _ q hq hle => exact ⟨q, hq, rfl⟩
  have ey : b.eval y = .int kk ((l : Nat) : Int) := by
    generalize b.eval y = y' at h2
    cases h2
    rfl
  have b1 : bnd 0 (some (.int kk ((l : Nat) : Int))) = some l := by simp [bnd]
  have b2 : bnd n none = some n := by simp [bnd]
  obtain ⟨u, hu⟩ : ∃ u, u = (if c + q.extra = l then (⟨q.block, q.off + o, none⟩ : Addr) else (⟨q.block, q.off + o, none⟩ : Addr).add (l * s)) := ⟨_, rfl⟩
  have hr : (Instr.sliceAt X (b.eval x) (some (b.eval y)) none none).run P w = .ok (.slice (some u) (n - l) (c + q.extra - l)) w := by
    rw [ex, ey, hu]
    simp [Instr.sliceAt, Instr.slice, run_underlying hX, run_bounds (P := P) b1 b2 hl (show n ≤ c + q.extra by omega), run_sizeOf' hsz]
    split <;> rfl
  have hx' : (execOp b.eval ⟨some d, .slice X x (some y) none none, T, p, af, none⟩).run P w = .ok (.value (.slice (some u) (n - l) (c + q.extra - l))) w := by simp [execOp, hr]
  by_cases hc : c = l
  · obtain rfl : n = l := by omega
    subst hc
    have hrel : ∃ z : Sim.Place, u = ⟨z.block, z.off, none⟩ ∧ z.extra = q.extra := by
      by_cases hz : c + q.extra = c
      · rw [if_pos hz] at hu
        exact ⟨⟨q.block, q.off + o, q.extra⟩, hu, rfl⟩
      · rw [if_neg hz, Addr.add_lit] at hu
        exact ⟨⟨q.block, q.off + o + c * s, q.extra⟩, hu, rfl⟩
    obtain ⟨z, hz, hze⟩ := hrel
    refine wp_of_does rfl (.inl hx') (hn' (R.put m.length z) (.slice (some ⟨m.length, 0, none⟩) (c - c) (c - c)) _ _ w ?_ (Post.none_put hm z) (hK m.length 0 (.inl (by omega)) (fun h => by omega)))
    have := Rel.slice (R := R.put m.length z) m.length 0 0 0 z (Pl.put_same _ _ _) (Nat.le_refl _)
    rw [hze] at this
    rw [hz, show c + q.extra - c = q.extra by omega, Nat.sub_self]
    simpa using this
  · refine wp_of_does rfl (.inl hx') (hn' (R.put m.length q) (.slice (some ⟨a, o + l * s, none⟩) (n - l) (c - l)) _ _ w ?_ (Post.none_put hm q) (hK a (o + l * s) (.inr rfl) (fun _ => ⟨rfl, rfl⟩)))
    have hle := Pl.le_put R m.length q (hm.none_ _ (Nat.le_refl _))
    have := Rel.slice (R := R.put m.length q) a (o + l * s) (n - l) (c - l) q (hle _ _ hq) (by omega)
    rw [if_neg (by omega), Addr.add_lit] at hu
    rw [hu, show c + q.extra - l = c - l + q.extra by omega]
    simpa [Nat.add_assoc] using this
end
/-- The transfer of six bytes. -/
def decX (xs : List UInt8) : Tr := ⟨(((xs.getD 0 0).toNat : Nat) : Int) / 16, (((xs.getD 0 0).toNat : Nat) : Int) % 16, (((xs.getD 1 0).toNat : Nat) : Int), ((numB (xs.drop 2) : Nat) : Int)⟩
def sixB (r : List UInt8) (k : Nat) : List UInt8 := (r.drop (6 * k)).take 6
def decL (r : List UInt8) (n : Nat) : List Tr := (List.range n).map fun k => decX (sixB r k)
theorem decL_len (r : List UInt8) (n : Nat) : (decL r n).length = n := by simp [decL]
theorem decL_succ (r : List UInt8) (n : Nat) : decL r (n + 1) = decL r n ++ [decX (sixB r n)] := by simp [decL, List.range_succ]
theorem sixB_len {r : List UInt8} {n k : Nat} (h : 6 * n ≤ r.length) (hk : k < n) : (sixB r k).length = 6 := by
  unfold sixB; rw [List.length_take, List.length_drop]; omega
theorem sixB_get {r : List UInt8} {k j : Nat} (hj : j < 6) : (sixB r k).getD j 0 = r.getD (6 * k + j) 0 := by
  unfold sixB
  simp only [List.getD_eq_getElem?_getD, List.getElem?_take, List.getElem?_drop, if_pos hj]
theorem bl88 : abuild Try.prog 88 [] = some (.agg #[.slice none 0 0]) := by kernel_rfl
theorem bl63 {a b c d : Int} : abuild Try.prog 63 [(0, .int .i64 a), (1, .int .i64 b), (2, .int .i64 c), (3, .int .i64 d)] = some (.agg #[.int .i64 a, .int .i64 b, .int .i64 c, .int .i64 d]) := by kernel_rfl
theorem bs55 {m : AM} {k : Nat} {a b c d : Int} : abuildSlice Try.prog m k 55 1 [(0, .agg #[.int .i64 a, .int .i64 b, .int .i64 c, .int .i64 d])] = some (.slice (some ⟨k, 0, none⟩) 1 1, m.set k (some { cells := [.int .i64 a, .int .i64 b, .int .i64 c, .int .i64 d] })) := by kernel_rfl
theorem el22B : elB Try.prog 22 = some 1 := by kernel_rfl
theorem sz5 : szB Try.prog 5 = some 1 := by kernel_rfl
/-- What an operation that reckons has made. -/
def pvX (wa wo wc : Nat) (u0 : Value) (xs : List UInt8) : Nat → Option Value
  | 0 => some u0
  | 1 => some (.slice (some ⟨wa, wo, none⟩) 6 wc)
  | 2 => some (.pointer (some ⟨wa, wo + 0, none⟩))
  | 3 => some (.int .u8 ((xs.getD 0 0).toNat : Nat))
  | 4 => some (.int .i64 ((xs.getD 0 0).toNat : Nat))
  | 5 => some (.int .i64 ((((xs.getD 0 0).toNat : Nat) : Int) / 16))
  | 6 => some (.slice (some ⟨wa, wo, none⟩) 6 wc)
  | 7 => some (.pointer (some ⟨wa, wo + 0, none⟩))
  | 8 => some (.int .u8 ((xs.getD 0 0).toNat : Nat))
  | 9 => some (.int .i64 ((xs.getD 0 0).toNat : Nat))
  | 10 => some (.int .i64 ((((xs.getD 0 0).toNat : Nat) : Int) % 16))
  | 11 => some (.slice (some ⟨wa, wo, none⟩) 6 wc)
  | 12 => some (.pointer (some ⟨wa, wo + 1, none⟩))
  | 13 => some (.int .u8 ((xs.getD 1 0).toNat : Nat))
  | 14 => some (.int .i64 ((xs.getD 1 0).toNat : Nat))
  | 15 => some (.slice (some ⟨wa, wo, none⟩) 6 wc)
  | 16 => some (.slice (some ⟨wa, wo + 2 * 1, none⟩) (6 - 2) (wc - 2))
  | 17 => some (.int .i64 (numB (xs.drop 2) : Nat))
  | 18 => some (decX xs).v
  | _ => none
/-- Bytes that come from elsewhere. -/
def BytsAt (m : AM) (v : Value) (a o : Nat) (l : List UInt8) : Prop := Sl v a o l.length ∧ ∀ k, k < l.length → Rd m a (o + k) (.int .u8 ((l.getD k 0).toNat : Nat))
theorem BytsAt.keep {m M : AM} {v : Value} {a o : Nat} {l : List UInt8} (h : BytsAt m v a o l) (hk : M[a]? = m[a]?) : BytsAt M v a o l := ⟨h.1, fun k hk' => by
  obtain ⟨b, q1, q2⟩ := h.2 k hk'
  exact ⟨b, by rw [hk]; exact q1, q2⟩⟩
theorem PostsAt.notOf {M : AM} {b0 a sz : Nat} {kd : Kind} {pv : Value} {P : List (List Tr)} {l : List Tr} (h : PostsAt M b0 pv P) (ha : M[a]? = some (some { cells := tcs l, kind := kd, size := sz })) (hl : 0 < l.length) : NotOf pv a := by
  intro n c e
  obtain ⟨pc, hrow, hps⟩ := h
  rcases hrow with ⟨h0, _⟩ | ⟨a', kd', sz', k1, k2, k3, k4, k5⟩
  · rw [e] at h0; cases h0
  · rw [k2] at e
    simp only [Value.slice.injEq, Option.some.injEq, Addr.mk.injEq] at e
    obtain ⟨rfl, _⟩ := e.1
    rw [ha] at k3
    injection k3 with k3; injection k3 with k3
    injection k3 with k3 _ _
    subst k3
    rw [tcs_len] at k4
    obtain ⟨u, q1, a'', _, _, q4, _⟩ := hps 0 (by omega)
    have := tcs_get l 0 hl 0 _ rfl
    simp only [Nat.zero_mul, Nat.zero_add] at this
    rw [this] at q1
    injection q1 with q1
    rw [q4] at q1
    cases q1
/-- A row just made stays a row of transfers whatever a book does. -/
theorem Row.trsKeep {M M' : AM} {b0 b1 xk : Nat} {pv u : Value} {P : List (List Tr)} {l : List Tr} (hX : PostsAt M b1 pv P) (hne : ∀ a x, Rd M a 0 (.int .i64 x) → a ≠ xk) (hr : Row M b0 4 u (tcs l) l.length) (h0 : 0 < M.length) (hF : Fr M M' xk pv) : Trs M' u l := by
  rcases hr with ⟨rfl, h1, h2⟩ | ⟨a, kd, sz, k1, rfl, k3, k4, k5⟩
  · obtain rfl := List.eq_nil_of_length_eq_zero h2
    exact Trs.nil (by have := hF.1; omega)
  · have hal := (List.getElem?_eq_some_iff.1 k3).1
    by_cases hl : 0 < l.length
    · have hrd : Rd M a 0 (.int .i64 (l.getD 0 default).i) := ⟨_, k3, by simpa using tcs_get l 0 hl 0 _ rfl⟩
      have e : M'[a]? = M[a]? := hF.2 a hal (hne a _ hrd) (hX.notOf k3 hl)
      exact ⟨a, 0, Sl.mk (Nat.le_refl _), by have := hF.1; omega, fun k hk => ⟨_, by rw [e]; exact k3, fun j v hj => by rw [Nat.zero_add]; exact tcs_get l k hk j v hj⟩⟩
    · obtain rfl := List.eq_nil_of_length_eq_zero (show l.length = 0 by omega)
      exact ⟨a, 0, Sl.mk (Nat.le_refl _), by have := hF.1; omega, fun k hk => by simp at hk⟩
end Go.Proofs.Ytabdnepfcohncaa.Abs
namespace Go.Proofs.Ytabdnepfcohncaa.Abs
set_option linter.unusedSimpArgs false
set_option linter.unusedVariables false
open Go.RowKit Go.Shelf
open Go.Proofs.Ytabdnepfcohncaa.Sim
open Go.Proofs
theorem bl133 : abuild Try.prog 133 [(0, .bool true)] = some (.agg (bkc (List.replicate 256 0) (List.replicate 256 0) (.slice none 0 0)).toArray) := by kernel_rfl
set_option maxRecDepth 100000 in
theorem NewBook_ok {m : AM} : ACall Try.prog 27 #[] m (NewL (fun k => .pointer (some ⟨k, 0, none⟩)) [some { cells := bkc (List.replicate 256 0) (List.replicate 256 0) (.slice none 0 0) }] m) := by
  refine ACall.start Try.func27 rfl rfl ?_
  (repeat (first | (with_reducible refine AWo.cons ?_) | ((with_reducible refine Step.id ?_); first | ((with_reducible apply Step.assign); exact rfl; exact rfl) | ((with_reducible apply Step.box 0); exact rfl; exact rfl; (focus (kernel_rfl)); exact rfl; (focus (first | (simp only [List.nil_append, List.cons_append, List.set_cons_zero, List.set_cons_succ, iv_set, bv_set, iv_rep, bv_rep]; done) | (simp only [List.nil_append, List.cons_append, List.set_cons_zero, List.set_cons_succ, iv_set, bv_set, iv_rep, bv_rep]; rfl) | rfl))) | ((with_reducible apply Step.build); exact rfl; exact bl133; exact rfl)) | (with_reducible refine AWo.nil ?_) | ((with_reducible apply AW.seq)) | ((with_reducible apply Then.n)) | ((with_reducible apply AW.regL))))
  (refine AW.ret ?_; (repeat (first | refine Then.r ?_ | refine InBlk.r ?_)))
  exact ⟨_, rfl, rfl, rfl⟩
set_option maxRecDepth 100000 in
theorem Chunk_ok {m : AM} {q : Option Addr} {n c : Nat} : ACall Try.prog 95 #[.slice q n c, .int .i64 6] m (Ret (.func (.func 127) #[] #[.pointer (some ⟨m.length, 0, none⟩), .pointer (some ⟨m.length + 1, 0, none⟩)]) (m ++ [some { cells := [.slice q n c] }, some { cells := [.int .i64 6] }])) := by
  refine ACall.start Try.func95 rfl rfl ?_
  (repeat (first | (with_reducible refine AWo.cons ?_) | ((with_reducible refine Step.id ?_); first | ((with_reducible apply Step.assign); exact rfl; exact rfl) | ((with_reducible apply Step.load); exact rfl; (focus (decide +kernel)); exact rfl; (focus (exact Rd.new rfl rfl))) | ((with_reducible apply Step.lss); exact rfl; exact rfl; exact rfl) | ((with_reducible apply Step.fn); exact rfl; exact rfl; exact rfl) | ((with_reducible apply Step.box 0); exact rfl; exact rfl; (focus (kernel_rfl)); exact rfl; (focus (first | (simp only [List.nil_append, List.cons_append, List.set_cons_zero, List.set_cons_succ, iv_set, bv_set, iv_rep, bv_rep]; done) | (simp only [List.nil_append, List.cons_append, List.set_cons_zero, List.set_cons_succ, iv_set, bv_set, iv_rep, bv_rep]; rfl) | rfl))) | ((with_reducible apply Step.box 1); exact rfl; exact rfl; (focus (kernel_rfl)); exact rfl; (focus (first | (simp only [List.nil_append, List.cons_append, List.set_cons_zero, List.set_cons_succ, iv_set, bv_set, iv_rep, bv_rep]; done) | (simp only [List.nil_append, List.cons_append, List.set_cons_zero, List.set_cons_succ, iv_set, bv_set, iv_rep, bv_rep]; rfl) | rfl)))) | (with_reducible refine AWo.nil ?_) | ((with_reducible apply AW.seq)) | ((with_reducible apply Then.n)) | ((with_reducible apply AW.regL)) | ((with_reducible apply AW.skip)) | ((with_reducible apply AW.condF); exact rfl; (focus (rfl)))))
  (refine AW.ret ?_; (repeat (first | refine Then.r ?_ | refine InBlk.r ?_)))
  exact ⟨_, rfl, rfl, rfl⟩
theorem ze55 : zeroB Try.prog 55 = some #[.slice none 0 0] := by kernel_rfl
/-- The program's Load. -/
def loadF : Nat → List UInt8 → Bk → Option Bk
  | _, [], B => some B
  | 0, _ :: _, _ => none
  | f + 1, c :: r, B => if r.length < 6 * c.toNat then none else if (postF B (decL r c.toNat)).2.2 ≠ 0 then none else loadF f (r.drop (6 * c.toNat)) (postF B (decL r c.toNat)).1
theorem postF_len (B : Bk) (l : List Tr) : (postF B l).1.P.length ≤ B.P.length + 1 := by
  unfold postF
  split
  · exact Nat.le_succ _
  · split
    · exact Nat.le_succ _
    · split
      · exact Nat.le_succ _
      · simp
/-- What the rounds over the chunks read. -/
def rdChunk (k : Nat) (u : Value) (i o : Nat) (v : Value) : Prop := (i = k ∧ o = 0 ∧ v = u) ∨ (i = k + 1 ∧ o = 0 ∧ v = .int .i64 6)
theorem World.drew_grown (W : World) : W.grownBy W.drew none := ⟨rfl, rfl, rfl, Nat.le_refl _, fun _ _ _ => rfl⟩
theorem chunk_stops {base : Nat} {R : Pl} {M : AM} {w : World} {k a o n c : Nat} {q : Option Addr} {p1 p2 p : Sim.Place} (hm : MRep base R M w) (hk1 : R k = some p1) (hk2 : R (k + 1) = some p2) (ha : R a = some p) (hn : n ≤ 100000) (hnc : 6 * n ≤ c)
    (hq : 0 < n → q = some ⟨a, o, none⟩) (h1 : Rd M k 0 (.slice q (6 * n) c)) (h2 : Rd M (k + 1) 0 (.int .i64 6)) :
    SeqStopsK Fence.wide 1 Try.prog 127 #[.pointer (some ⟨p1.block, p1.off + 0, none⟩), .pointer (some ⟨p2.block, p2.off + 0, none⟩)] (fun x : {q : Nat // q < n} => #[.slice (some ⟨p.block, p.off + (o + 6 * x.val), none⟩) 6 6]) (KpF (RdF R (rdChunk k (.slice q (6 * n) c)))) (· = chunkX n) (fun _ => True) n w := by
  intro l J Jx W hW hJ hJx hY h0'
  have cell : ∀ (i : Nat) (v : Value) (pi : Sim.Place), Rd M i 0 v → R i = some pi → ∃ v', w.cell? ⟨pi.block, pi.off + 0, none⟩ = some v' ∧ Rel R v v' := fun i v pi ⟨blk, r1, r2⟩ hpi => by
    obtain ⟨x, q1, q2⟩ := (hm.of r1 hpi).cell r2
    exact ⟨x, q1, q2⟩
  obtain ⟨v1, c1, r1⟩ := cell k _ p1 h1 hk1
  obtain ⟨v2, c2, r2⟩ := cell (k + 1) _ p2 h2 hk2
  cases r2
  have up : ∀ a v, w.cell? a = some v → W.cell? a = some v := fun a v h => by
    have hlt := World.block_lt_of_cell? w a h
    exact (hW.cell (p := a) hlt).trans h
  by_cases h0 : 0 < n
  · obtain rfl := hq h0
    obtain ⟨c', hc', rfl⟩ : ∃ c', 6 * n ≤ c' ∧ v1 = .slice (some ⟨p.block, p.off + o, none⟩) (6 * n) c' := by
      cases r1 with
      | slice _ _ _ _ pp hpp hle =>
        rw [ha] at hpp; injection hpp with hpp; subst hpp
        exact ⟨_, by omega, rfl⟩
    refine chunk1_in l p1.block (p1.off + 0) p2.block (p2.off + 0) p.block (p.off + o) n c' hc' (by omega) (KpF (RdF R (rdChunk k (.slice (some ⟨a, o, none⟩) (6 * n) c)))) J Jx (fun pre x W1 h3 h4 => ?_) (fun pre W1 h3 => hJ pre W1 _ none h3 (World.drew_grown W1) (fun r e => by cases e)) (fun A B hk ⟨k1, k2⟩ => ⟨?_, ?_⟩) W ⟨up _ _ c1, up _ _ c2⟩ h0'
    · have := hY pre x W1 h3 h4
      simp only [← Nat.add_assoc] at this
      exact this
    · exact hk _ _ ⟨k, 0, _, p1, .inl ⟨rfl, rfl, rfl⟩, hk1, rfl, r1⟩ k1
    · exact hk _ _ ⟨k + 1, 0, _, p2, .inr ⟨rfl, rfl, rfl⟩, hk2, rfl, .int _ _⟩ k2
  · obtain rfl : n = 0 := by omega
    obtain ⟨a', c', rfl⟩ : ∃ a' c', v1 = .slice a' 0 c' := by
      cases r1 <;> exact ⟨_, _, rfl⟩
    exact (chunk0_in l p1.block (p1.off + 0) p2.block (p2.off + 0) a' c' J W (up _ _ c1) h0').mono fun e W' ⟨hv, hj⟩ => ⟨hv, .inl ⟨_, rfl, by simpa [chunkX] using hj⟩⟩
/-- What the rounds keep: M1 is the memory at the start, q the block of the row. -/
structure JL (M1 : AM) (q : Nat) (l : List Tr) (M' : AM) : Prop where
  len : M1.length ≤ M'.length
  keep : ∀ j, j < M1.length → j ≠ q → M'[j]? = M1[j]?
  map : ∀ (i : Nat) (b : Blk), M'[i]? = some (some b) → isMapK b.kind = true → M1[i]? = some (some b)
  row : ∃ u, M'[q]? = some (some { cells := [u] }) ∧ Row M' M1.length 4 u (tcs l) l.length
set_option maxHeartbeats 8000000 in
set_option maxRecDepth 100000 in
theorem Load_ok {m : AM} {v : Value} {a o : Nat} {s : List UInt8} (h : BytsAt m v a o s) (ha : a < m.length) (hro : 0 < s.length → ∃ b, m[a]? = some (some b) ∧ b.kind = .ro) (hlen : s.length ≤ 100000) :
    ACall Try.prog 34 #[v] m (fun r M => (∃ N, M = m ++ N) ∧ match loadF s.length s Bk.new with
      | none => r = .tuple #[.pointer none, .int .i64 6]
      | some B => ∃ bk pv, r = .tuple #[.pointer (some ⟨bk, 0, none⟩), .int .i64 0] ∧ BookAt M m.length bk B pv) := by
  refine ACall.start Try.func34 rfl rfl ?_
  (repeat (first | (with_reducible refine AWo.cons ?_) | ((with_reducible refine Step.id ?_); first | ((with_reducible apply Step.assign); exact rfl; exact rfl) | ((with_reducible apply Step.callL fit (k := 0)); exact rfl; exact rfl; exact Try.func27; exact rfl; exact rfl; exact (NewBook_ok); (focus (first | (simp only [List.nil_append, List.cons_append, List.set_cons_zero, List.set_cons_succ, iv_set, bv_set, iv_rep, bv_rep]; done) | (simp only [List.nil_append, List.cons_append, List.set_cons_zero, List.set_cons_succ, iv_set, bv_set, iv_rep, bv_rep]; rfl) | rfl)))) | (with_reducible refine AWo.nil ?_) | ((with_reducible apply AW.seq)) | ((with_reducible apply Then.n)) | ((with_reducible apply AW.regL)) | ((with_reducible apply AW.block))))
  refine AW.loopW (fun q t M => ∃ (r : List UInt8) (B : Bk) (pv v' : Value) (a' o' f : Nat), q = r.length ∧ r.length ≤ f ∧ loadF f r B = loadF s.length s Bk.new ∧ r.length ≤ s.length ∧ B.P.length + r.length ≤ s.length ∧ Good B ∧
    BytsAt M v' a' o' r ∧ a' < M.length ∧ (0 < r.length → a' = a) ∧ BookAt M m.length (m.length + 0) B pv ∧ (∃ N, M = m ++ N) ∧
    t = fr [(0, v'), (4, .pointer (some ⟨m.length + 0, 0, none⟩))])
    ⟨_, _, (by repeat (first | exact trivial | (refine And.intro rfl ?_))), s, Bk.new, .slice none 0 0, v, a, o, s.length, rfl, Nat.le_refl _, rfl, Nat.le_refl _, by rw [show Bk.new.P.length = 0 from rfl]; omega, Good.new, h.keep (List.getElem?_append_left ha), by rw [List.length_append]; omega, fun _ => rfl,
      ⟨by omega, by rw [get_app]; rfl, Good.new.lH, Good.new.lC, ⟨[], Row.nil, fun k hk => absurd hk (Nat.not_lt_zero _)⟩⟩, ⟨_, rfl⟩, rfl⟩ ?_
  rintro q t M ⟨r, B, pv, v', a', o', f, rfl, hf, hR, hrl, hPl, hG, hB, haM, haa, hX, ⟨N, rfl⟩, rfl⟩
  obtain ⟨h1, h2⟩ := id hB
  rcases r with _ | ⟨c, r⟩
  · have e : loadF f [] B = some B := by cases f <;> rfl
    rw [e] at hR
    rw [← hR]
    refine AW.rebase ?_
    (repeat (first | (with_reducible refine AWo.cons ?_) | ((with_reducible refine Step.id ?_); first | ((with_reducible apply Step.move); exact rfl; exact rfl) | ((with_reducible apply Step.assign); exact rfl; exact rfl) | ((with_reducible apply Step.gtr); exact rfl; exact rfl; exact rfl) | ((with_reducible apply Step.len); exact rfl; (focus (assumption)); (focus (decide +kernel)); exact rfl)) | (with_reducible refine AWo.nil ?_) | ((with_reducible apply AW.seq)) | ((with_reducible apply Then.n)) | ((with_reducible apply AW.regL)) | ((with_reducible apply AW.exit)) | ((with_reducible apply InBlk.hit)) | ((with_reducible apply Then.e)) | ((with_reducible apply AW.condF); exact rfl; (focus (rfl)))))
    (refine AW.ret ?_; (repeat (first | refine Then.r ?_ | refine InBlk.r ?_)))
    exact ⟨_, rfl, ⟨N, by rw [List.append_nil]⟩, _, pv, rfl, by rw [List.append_nil]; exact hX⟩
  · obtain ⟨cv, hcv, rfl⟩ : ∃ cv, r.length + 1 ≤ cv ∧ v' = .slice (some ⟨a', o', none⟩) (r.length + 1) cv := by
      rcases h1 with ⟨_, e⟩ | ⟨cv, q1, q2⟩ | ⟨e, _⟩
      · simp at e
      · exact ⟨cv, q1, q2⟩
      · simp at e
    rw [List.length_cons] at h1
    obtain rfl := haa (by simp)
    obtain ⟨f, rfl⟩ : ∃ f', f = f' + 1 := ⟨f - 1, by simp at hf; omega⟩
    have rc := h2 0 (by simp)
    have hcb := c.toNat_lt
    simp only [List.getD_cons_zero] at rc
    rw [List.length_cons] at hf hrl hPl
    obtain ⟨bro, hb1, hb2⟩ := hro (by omega)
    have er : loadF (f + 1) (c :: r) B = if r.length < 6 * c.toNat then none else if (postF B (decL r c.toNat)).2.2 ≠ 0 then none else loadF f (r.drop (6 * c.toNat)) (postF B (decL r c.toNat)).1 := rfl
    rw [er] at hR
    refine AW.rebase ?_
    have hmulc : (6 : Int) * ((c.toNat : Nat) : Int) = ((6 * c.toNat : Nat) : Int) := by omega
    have hwn : ∀ k, k < r.length → Rd (m ++ N) a' (o' + 1 * 1 + k) (.int .u8 ((r.getD k 0).toNat : Nat)) := fun k hk => by
      have := h2 (k + 1) (by simp; omega)
      simp only [List.getD_cons_succ] at this
      rwa [show o' + (k + 1) = o' + 1 * 1 + k by omega] at this
    have hdr : (r.drop (6 * c.toNat)).length = r.length - 6 * c.toNat := List.length_drop
    have hdg : ∀ k, k < r.length - 6 * c.toNat → (r.drop (6 * c.toNat)).getD k 0 = r.getD (6 * c.toNat + k) 0 := fun k hk => by
      simp only [List.getD_eq_getElem?_getD, List.getElem?_drop]
    generalize c.toNat = n at *
    clear er
    (repeat (first | (with_reducible refine AWo.cons ?_) | ((with_reducible refine Step.id ?_); first | ((with_reducible apply Step.move); exact rfl; exact rfl) | ((with_reducible apply Step.assign); exact rfl; exact rfl) | ((with_reducible apply Step.load); exact rfl; (focus (decide +kernel)); exact rfl; (focus (exact Rd.old _ (by assumption)))) | ((with_reducible apply Step.ix1 (k := 0)); exact rfl; (focus (assumption)); exact rfl; (focus (decide +kernel)); exact rfl; (focus (omega))) | ((with_reducible apply Step.u8I); exact rfl; exact un5; exact un3; (focus (omega)); exact rfl) | ((with_reducible apply Step.gtr); exact rfl; exact rfl; exact rfl) | ((with_reducible apply Step.len); exact rfl; (focus (assumption)); (focus (decide +kernel)); exact rfl)) | (with_reducible refine AWo.nil ?_) | ((with_reducible apply AW.seq)) | ((with_reducible apply Then.n)) | ((with_reducible apply AW.regL)) | ((with_reducible apply AW.block)) | ((with_reducible apply AW.skip)) | ((with_reducible apply AW.condT); exact rfl; (focus ((simp only [decide_eq_true_eq, decide_eq_false_iff_not, Bool.not_eq_true', Bool.not_eq_false', Bool.not_true, Bool.not_false]; first | assumption | omega))))))
    ((with_reducible apply Step.restN (l := 1)); exact rfl; exact rfl; exact rfl; (focus (omega)); exact hcv; exact un22; exact sz5; exact rfl)
    intro a1 o1 hq1 hq2
    rw [List.append_nil] at hq1 ⊢
    rw [show r.length + 1 - 1 = r.length by omega]
    have ha1 : 0 < r.length → a1 = a' ∧ o1 = o' + 1 * 1 := fun h => hq2 (by omega)
    clear hq2
    have hcv1 : r.length ≤ cv - 1 := by omega
    generalize cv - 1 = c1v at *
    have ha1M : a1 < (m ++ N ++ [none]).length := by
      rw [List.length_append]
      rcases hq1 with h | h
      · exact h
      · subst h; simp; omega
    have hb1' : (m ++ N ++ [none])[a']? = some (some bro) := by rw [List.append_assoc, List.getElem?_append_left ha]; exact hb1
    have hX' := hX.old [none]
    have hwn' := fun k hk => (hwn k hk).old [none]
    have hpre' : ∃ N', m ++ N ++ [none] = m ++ N' := ⟨N ++ [none], List.append_assoc _ _ _⟩
    generalize hMM : m ++ N ++ [none] = MM at *
    clear hMM hwn rc hX hq1
    rw [← List.append_nil MM]
    by_cases c1 : r.length < 6 * n
    · rw [if_pos c1] at hR
      rw [← hR]
      (repeat (first | (with_reducible refine AWo.cons ?_) | ((with_reducible refine Step.id ?_); first | ((with_reducible apply Step.move); exact rfl; exact rfl) | ((with_reducible apply Step.assign); exact rfl; exact rfl) | ((with_reducible apply Step.mulE); exact rfl; exact rfl; (focus (assumption)); (focus (omega)); exact rfl) | ((with_reducible apply Step.lss); exact rfl; exact rfl; exact rfl) | ((with_reducible apply Step.len); exact rfl; (focus (exact Sl.mk (by omega))); (focus (decide +kernel)); exact rfl)) | (with_reducible refine AWo.nil ?_) | ((with_reducible apply AW.seq)) | ((with_reducible apply Then.n)) | ((with_reducible apply AW.regL)) | ((with_reducible apply AW.condT); exact rfl; (focus ((simp only [decide_eq_true_eq, decide_eq_false_iff_not, Bool.not_eq_true', Bool.not_eq_false', Bool.not_true, Bool.not_false]; first | assumption | omega))))))
      (refine AW.ret ?_; (repeat (first | refine Then.r ?_ | refine InBlk.r ?_)))
      obtain ⟨N', hN'⟩ := hpre'
      exact ⟨_, rfl, ⟨N', by rw [List.append_nil]; exact hN'⟩, rfl⟩
    · rw [if_neg c1] at hR
      have hn6 : 6 * n ≤ r.length := by omega
      (repeat (first | (with_reducible refine AWo.cons ?_) | ((with_reducible refine Step.id ?_); first | ((with_reducible apply Step.move); exact rfl; exact rfl) | ((with_reducible apply Step.assign); exact rfl; exact rfl) | ((with_reducible apply Step.mulE); exact rfl; exact rfl; (focus (assumption)); (focus (omega)); exact rfl) | ((with_reducible apply Step.slTo); exact rfl; exact rfl; (focus (assumption)); (focus (omega)); exact un22; exact sz5; exact rfl) | ((with_reducible apply Step.lss); exact rfl; exact rfl; exact rfl) | ((with_reducible apply Step.len); exact rfl; (focus (exact Sl.mk (by omega))); (focus (decide +kernel)); exact rfl) | ((with_reducible apply Step.callM fit); exact rfl; exact Try.func95; exact rfl; exact rfl; exact (Chunk_ok)) | ((with_reducible apply Step.alloc 0); exact rfl; exact ze55; exact rfl; (focus (first | (simp only [List.nil_append, List.cons_append, List.set_cons_zero, List.set_cons_succ, iv_set, bv_set, iv_rep, bv_rep]; done) | (simp only [List.nil_append, List.cons_append, List.set_cons_zero, List.set_cons_succ, iv_set, bv_set, iv_rep, bv_rep]; rfl) | rfl)))) | (with_reducible refine AWo.nil ?_) | ((with_reducible apply AW.seq)) | ((with_reducible apply Then.n)) | ((with_reducible apply AW.regL)) | ((with_reducible apply AW.block)) | ((with_reducible apply AW.skip)) | ((with_reducible apply AW.condF); exact rfl; (focus ((simp only [decide_eq_true_eq, decide_eq_false_iff_not, Bool.not_eq_true', Bool.not_eq_false', Bool.not_true, Bool.not_false]; first | assumption | omega))))))
      have hqb : ∀ j, j < MM.length → j ≠ MM.length + 0 := fun j hj => by omega
      obtain ⟨M1, hM1⟩ : ∃ M1 : AM, M1 = (MM ++ ([some { cells := [.slice none 0 0] }] : AM)) ++ ([some { cells := [.slice (some ⟨a1, o1, none⟩) (6 * n) c1v] }, some { cells := [.int .i64 6] }] : AM) := ⟨_, rfl⟩
      have hM1l : M1.length = MM.length + 3 := by rw [hM1]; simp only [List.length_append, List.length_cons, List.length_nil]
      have hM1q : M1[MM.length + 0]? = some (some { cells := [.slice none 0 0] }) := by rw [hM1, List.append_assoc, get_app]; rfl
      have hM1a : Rd M1 (MM ++ ([some { cells := [.slice none 0 0] }] : AM)).length 0 (.slice (some ⟨a1, o1, none⟩) (6 * n) c1v) := by rw [hM1]; exact Rd.new (k := 0) rfl rfl
      have hM1b : Rd M1 ((MM ++ ([some { cells := [.slice none 0 0] }] : AM)).length + 1) 0 (.int .i64 6) := by rw [hM1]; exact Rd.new (k := 1) rfl rfl
      have hM1p : ∀ j, j < MM.length → M1[j]? = MM[j]? := fun j hj => by rw [hM1, List.append_assoc, List.getElem?_append_left hj]
      have hKl : (MM ++ ([some { cells := [.slice none 0 0] }] : AM)).length = MM.length + 1 := by simp
      have haMM : a' < MM.length := (List.getElem?_eq_some_iff.1 hb1').1
      rw [← hM1]
      clear hM1
      have hXm : (chunkX n).map (fun x => decX (sixB r x.val)) = decL r n := by
        apply List.ext_getElem
        · simp [chunkX_len, decL]
        · intro i h1 h2
          simp [chunkX, decL]
      refine AW.rangeW fit (Asg.one rfl) (chunkX n) (fun x => o1 + 6 * x.val) (fun _ => 6) (fun x => by8 (sixB r x.val)) a' (fun pre M' => JL M1 (MM.length + 0) (pre.map fun x => decX (sixB r x.val)) M') (rdChunk (MM ++ ([some { cells := [.slice none 0 0] }] : AM)).length (.slice (some ⟨a1, o1, none⟩) (6 * n) c1v)) rfl Try.func127 rfl (by kernel_rfl) rfl ?_ ?_ ?_ ?_ ?_ ?_ ?_
      · exact ⟨Nat.le_refl _, fun _ _ _ => rfl, fun i b hi _ => hi, _, hM1q, Row.nil⟩
      · intro pre M' hJ i b hi hb
        exact ⟨b, hJ.map i b hi hb⟩
      · rintro pre M' hJ i o2 v2 (⟨rfl, rfl, rfl⟩ | ⟨rfl, rfl, rfl⟩)
        · obtain ⟨b, w1, w2⟩ := hM1a
          exact ⟨b, by rw [hJ.keep _ (by omega) (by omega)]; exact w1, w2⟩
        · obtain ⟨b, w1, w2⟩ := hM1b
          exact ⟨b, by rw [hJ.keep _ (by omega) (by omega)]; exact w1, w2⟩
      · intro pre M' hJ x
        refine ⟨bro, by rw [hJ.keep a' (by omega) (hqb _ haMM), hM1p a' haMM]; exact hb1', hb2, fun j v2 hj => ?_⟩
        have hx6 := sixB_len hn6 x.property
        have hj6 := (List.getElem?_eq_some_iff.1 hj).1
        rw [by8_len, hx6] at hj6
        rw [by8_get (by rw [hx6]; exact hj6)] at hj
        injection hj with hj
        subst hj
        obtain ⟨b, w1, w2⟩ := hwn' (6 * x.val + j) (by have := x.property; omega)
        rw [hb1'] at w1
        injection w1 with w1; injection w1 with w1; subst w1
        have hxp := x.property
        rw [(ha1 (by omega)).2, show o' + 1 * 1 + 6 * x.val + j = o' + 1 * 1 + (6 * x.val + j) by omega, w2]
        have e := sixB_get (r := r) (k := x.val) hj6
        rw [← e, List.getD_eq_getElem?_getD, List.getElem?_eq_getElem (by rw [hx6]; exact hj6)]
        rfl
      · intro base R w lb' hbs hm hlb
        obtain ⟨p1, p2, hp1, hp2, rfl⟩ : ∃ p1 p2, R (MM ++ ([some { cells := [.slice none 0 0] }] : AM)).length = some p1 ∧ R ((MM ++ ([some { cells := [.slice none 0 0] }] : AM)).length + 1) = some p2 ∧ lb' = #[.pointer (some ⟨p1.block, p1.off + 0, none⟩), .pointer (some ⟨p2.block, p2.off + 0, none⟩)] := by
          have e1 := hlb.1
          have e2 := hlb.2 0 (by simp)
          have e4 := hlb.2 1 (by simp)
          have e3 : lb' = #[lb'.getD 0 undef, lb'.getD 1 undef] := by
            apply Array.ext
            · simpa using e1.symm
            · intro k q1 q2
              have : k = 0 ∨ k = 1 := by simp at q2; omega
              rcases this with rfl | rfl <;> simp [q1]
          rw [e3]
          generalize lb'.getD 0 undef = y1 at e2
          generalize lb'.getD 1 undef = y2 at e4
          simp only [Array.getD_eq_getD_getElem?, List.getElem?_toArray, List.getElem?_cons_zero, List.getElem?_cons_succ, Option.getD_some] at e2 e4
          cases e2 with
          | ptr _ _ p1 hp1 =>
            cases e4 with
            | ptr _ _ p2 hp2 => exact ⟨p1, p2, hp1, hp2, rfl⟩
        obtain ⟨p, hp, _⟩ := hm.rep a' bro (by rw [hM1p a' haMM]; exact hb1')
        refine ⟨p, hp, ?_⟩
        rw [chunkX_len]
        exact chunk_stops hm hp1 hp2 hp (by omega) (by omega) (fun h => by rw [(ha1 (by omega)).1]) hM1a hM1b
      · intro pre x M' hJ hlen'
        change AW _ _ _ _ (put (put _ 30 (.slice (some ⟨M'.length, 0, none⟩) 6 6)) 7 (.slice (some ⟨M'.length, 0, none⟩) 6 6)) _ _
        refine AW.block ?_
        rw [chunkX_len] at hlen'
        obtain ⟨u0, hcu, hrow⟩ := hJ.row
        have hxs := sixB_len hn6 x.property
        have hJl := hJ.len
        have hds : ((pre ++ [x]).map fun x => decX (sixB r x.val)) = (pre.map fun x => decX (sixB r x.val)) ++ [decX (sixB r x.val)] := by rw [List.map_append]; rfl
        have hpl : (pre.map fun x => decX (sixB r x.val)).length = pre.length := List.length_map ..
        generalize (pre.map fun x => decX (sixB r x.val)) = ls at *
        generalize sixB r x.val = xs at *
        obtain ⟨M0, hM0⟩ : ∃ M0 : AM, M0 = M' ++ ([some { cells := by8 xs, kind := .ro }] : AM) := ⟨_, rfl⟩
        rw [← hM0]
        have hM0l : M0.length = M'.length + 1 := by rw [hM0]; simp
        have hrow0 : Row M0 M1.length 4 u0 (tcs ls) ls.length := by rw [hM0]; exact hrow.old _
        have hc0 : M0[MM.length + 0]? = some (some { cells := [u0] }) := by rw [hM0]; exact get_old _ hcu
        have hwin0 : ∀ j, j < 6 → Rd M0 M'.length (0 + j) (.int .u8 ((xs.getD j 0).toNat : Nat)) := fun j hj => by
          rw [hM0]
          refine ⟨{ cells := by8 xs, kind := .ro }, by simp, ?_⟩
          rw [Nat.zero_add, by8_get (by rw [hxs]; exact hj), List.getD_eq_getElem?_getD, List.getElem?_eq_getElem (by rw [hxs]; exact hj)]
          rfl
        have hmap0 : ∀ (i : Nat) (b : Blk), M0[i]? = some (some b) → isMapK b.kind = true → M1[i]? = some (some b) := fun i b hi hb => by
          rw [hM0] at hi
          rcases Nat.lt_or_ge i M'.length with hl | hl
          · rw [List.getElem?_append_left hl] at hi; exact hJ.map i b hi hb
          · rw [List.getElem?_append_right hl] at hi
            rcases Nat.eq_zero_or_pos (i - M'.length) with e | e
            · rw [e] at hi
              simp at hi
              subst hi
              cases hb
            · rw [List.getElem?_eq_none (by simp; omega)] at hi; cases hi
        have hkeep0 : ∀ j, j < M1.length → j ≠ MM.length + 0 → M0[j]? = M1[j]? := fun j hj hne => by rw [hM0, List.getElem?_append_left (by omega)]; exact hJ.keep j hj hne
        have hnw : NotOf u0 M'.length := hrow.far (Nat.le_refl _)
        have hnq : NotOf u0 (MM.length + 0) := NotOf.row hrow (by omega)
        have hqm : MM.length + 0 < M0.length := by omega
        clear hM0 hcu
        have hwc : 6 ≤ 6 := Nat.le_refl _
        have hwin : ∀ M, (∀ j, j < M0.length → j ≠ MM.length + 0 → NotOf u0 j → M[j]? = M0[j]?) → ∀ j, j < 6 → Rd M M'.length (0 + j) (.int .u8 ((xs.getD j 0).toNat : Nat)) := fun M hM j hj => by
          obtain ⟨b, q1, q2⟩ := hwin0 j hj
          exact ⟨b, by rw [hM M'.length (by omega) (by omega) hnw]; exact q1, q2⟩
        have hby : ∀ M, M0.length ≤ M.length → (∀ j, j < M0.length → j ≠ MM.length + 0 → NotOf u0 j → M[j]? = M0[j]?) → Byts M (.slice (some ⟨M'.length, 0 + 2 * 1, none⟩) (6 - 2) (6 - 2)) (xs.drop 2) := fun M hMl hM => by
          refine ⟨M'.length, 0 + 2 * 1, by rw [List.length_drop, hxs]; exact Sl.mk (by omega), by omega, fun j hj => ?_⟩
          rw [List.length_drop, hxs] at hj
          have := hwin M hM (2 + j) (by omega)
          rw [show (xs.drop 2).getD j 0 = xs.getD (2 + j) 0 by simp only [List.getD_eq_getElem?_getD, List.getElem?_drop]]
          rwa [show 0 + (2 + j) = 0 + 2 * 1 + j by omega] at this
        have hbs : ∀ e ∈ [(6, Value.pointer (some ⟨MM.length + 0, 0, none⟩)), (7, .slice (some ⟨M'.length, 0, none⟩) 6 6)], e.1 < 31 := fun e he => by
          simp only [List.mem_cons, List.not_mem_nil, or_false] at he
          rcases he with rfl | rfl <;> simp
        refine AW.anyI fit (TI M0 M1.length (MM.length + 0) 31 [(6, Value.pointer (some ⟨MM.length + 0, 0, none⟩)), (7, .slice (some ⟨M'.length, 0, none⟩) 6 6)] (pvX M'.length 0 6 u0 xs) u0 (tcs ls) (decX xs).c ls.length) (by decide +kernel) (TI.start (fun e he => by
          simp only [List.mem_cons, List.not_mem_nil, or_false] at he
          rcases he with rfl | rfl <;> rfl) hrow0 (fun _ => hc0) (fun h => by omega)) ?_ ?_
        · intro k o ho L t M hI hLi hdep
          rcases k with _ | _ | _ | _ | _ | _ | _ | _ | _ | _ | _ | _ | _ | _ | _ | _ | _ | _ | _ | _ | _ | _ | k
          · injection ho with ho; subst ho
            have h21 : L 21 = false := by
                cases e : L 21 with
                | false => rfl
                | true => rw [hI.c0 (hI.c21 e)] at hLi; cases hLi
            exact Step.load (hI.old (6, .pointer (some ⟨MM.length + 0, 0, none⟩)) (by simp)) (by decide +kernel) rfl ⟨_, hI.cell hqm h21, rfl⟩ (hI.put hbs (by decide) (j := 0) rfl (by decide))
          · injection ho with ho; subst ho
            exact Step.move (hI.old (7, .slice (some ⟨M'.length, 0, none⟩) 6 6) (by simp)) rfl (hI.put hbs (by decide) (j := 1) rfl (by decide))
          · injection ho with ho; subst ho
            have d1 : t 32 = _ := hI.pure 1 _ rfl (hdep 1 (by decide))
            exact Step.ix1 (x := .tmp 32) (a := M'.length) (o := 0) (n := 6) (k := 0) d1 (Sl.mk hwc) rfl el22B rfl (by decide) (hI.put hbs (by decide) (j := 2) rfl (by decide))
          · injection ho with ho; subst ho
            have d1 : t 33 = _ := hI.pure 2 _ rfl (hdep 2 (by decide))
            exact Step.load (x := .tmp 33) d1 (by decide +kernel) rfl (hwin M hI.keep 0 (by decide)) (hI.put hbs (by decide) (j := 3) rfl (by decide))
          · injection ho with ho; subst ho
            have d1 : t 34 = _ := hI.pure 3 _ rfl (hdep 3 (by decide))
            have hx := (xs.getD 0 0).toNat_lt
            exact Step.u8I (x := .tmp 34) d1 un5 un3 (by omega) rfl (hI.put hbs (by decide) (j := 4) rfl (by decide))
          · injection ho with ho; subst ho
            have d1 : t 35 = _ := hI.pure 4 _ rfl (hdep 4 (by decide))
            have hx := (xs.getD 0 0).toNat_lt
            exact Step.quo (x := .tmp 35) d1 rfl (by omega) (by decide) rfl (hI.put hbs (by decide) (j := 5) rfl (by decide))
          · injection ho with ho; subst ho
            exact Step.move (hI.old (7, .slice (some ⟨M'.length, 0, none⟩) 6 6) (by simp)) rfl (hI.put hbs (by decide) (j := 6) rfl (by decide))
          · injection ho with ho; subst ho
            have d1 : t 37 = _ := hI.pure 6 _ rfl (hdep 6 (by decide))
            exact Step.ix1 (x := .tmp 37) (a := M'.length) (o := 0) (n := 6) (k := 0) d1 (Sl.mk hwc) rfl el22B rfl (by decide) (hI.put hbs (by decide) (j := 7) rfl (by decide))
          · injection ho with ho; subst ho
            have d1 : t 38 = _ := hI.pure 7 _ rfl (hdep 7 (by decide))
            exact Step.load (x := .tmp 38) d1 (by decide +kernel) rfl (hwin M hI.keep 0 (by decide)) (hI.put hbs (by decide) (j := 8) rfl (by decide))
          · injection ho with ho; subst ho
            have d1 : t 39 = _ := hI.pure 8 _ rfl (hdep 8 (by decide))
            have hx := (xs.getD 0 0).toNat_lt
            exact Step.u8I (x := .tmp 39) d1 un5 un3 (by omega) rfl (hI.put hbs (by decide) (j := 9) rfl (by decide))
          · injection ho with ho; subst ho
            have d1 : t 40 = _ := hI.pure 9 _ rfl (hdep 9 (by decide))
            have hx := (xs.getD 0 0).toNat_lt
            exact Step.rem (x := .tmp 40) d1 rfl (by omega) (by decide) rfl (hI.put hbs (by decide) (j := 10) rfl (by decide))
          · injection ho with ho; subst ho
            exact Step.move (hI.old (7, .slice (some ⟨M'.length, 0, none⟩) 6 6) (by simp)) rfl (hI.put hbs (by decide) (j := 11) rfl (by decide))
          · injection ho with ho; subst ho
            have d1 : t 42 = _ := hI.pure 11 _ rfl (hdep 11 (by decide))
            exact Step.ix1 (x := .tmp 42) (a := M'.length) (o := 0) (n := 6) (k := 1) d1 (Sl.mk hwc) rfl el22B rfl (by decide) (hI.put hbs (by decide) (j := 12) rfl (by decide))
          · injection ho with ho; subst ho
            have d1 : t 43 = _ := hI.pure 12 _ rfl (hdep 12 (by decide))
            exact Step.load (x := .tmp 43) d1 (by decide +kernel) rfl (hwin M hI.keep 1 (by decide)) (hI.put hbs (by decide) (j := 13) rfl (by decide))
          · injection ho with ho; subst ho
            have d1 : t 44 = _ := hI.pure 13 _ rfl (hdep 13 (by decide))
            have hx := (xs.getD 1 0).toNat_lt
            exact Step.u8I (x := .tmp 44) d1 un5 un3 (by omega) rfl (hI.put hbs (by decide) (j := 14) rfl (by decide))
          · injection ho with ho; subst ho
            exact Step.move (hI.old (7, .slice (some ⟨M'.length, 0, none⟩) 6 6) (by simp)) rfl (hI.put hbs (by decide) (j := 15) rfl (by decide))
          · injection ho with ho; subst ho
            have d1 : t 46 = _ := hI.pure 15 _ rfl (hdep 15 (by decide))
            exact Step.slFrom (x := .tmp 46) (l := 2) d1 rfl rfl (by decide) hwc (by omega) un22 (by decide +kernel) rfl (hI.put hbs (by decide) (j := 16) rfl (by decide))
          · injection ho with ho; subst ho
            have d1 : t 47 = _ := hI.pure 16 _ rfl (hdep 16 (by decide))
            exact Step.callR fit (vs := [.slice (some ⟨M'.length, 0 + 2 * 1, none⟩) (6 - 2) (6 - 2)]) (by simp [evL, evo, d1]) Try.func71 rfl rfl (get_ok (hby M hI.len hI.keep) (by rw [List.length_drop, hxs]; decide)) (hI.put hbs (by decide) (j := 17) rfl (by decide))
          · injection ho with ho; subst ho
            have d1 : t 36 = _ := hI.pure 5 _ rfl (hdep 5 (by decide))
            have d2 : t 41 = _ := hI.pure 10 _ rfl (hdep 10 (by decide))
            have d3 : t 45 = _ := hI.pure 14 _ rfl (hdep 14 (by decide))
            have d4 : t 48 = _ := hI.pure 17 _ rfl (hdep 17 (by decide))
            exact Step.build (ws := [.int .i64 (decX xs).i, .int .i64 (decX xs).f, .int .i64 (decX xs).t, .int .i64 (decX xs).n]) (by simp [evL, evo, d1, d2, d3, d4, decX]) bl63 rfl (hI.put hbs (by decide) (j := 18) rfl (by decide))
          · injection ho with ho; subst ho
            have d1 : t 49 = _ := hI.pure 18 _ rfl (hdep 18 (by decide))
            exact Step.buildG (ws := [(decX xs).v]) (by simp [evL, evo, d1]) (fun _ _ => bs55) rfl (hI.setLit hbs (by decide) rfl)
          · injection ho with ho; subst ho
            have d1 : t 31 = _ := hI.pure 0 _ rfl (hdep 0 (by decide))
            obtain ⟨a, e1, e2⟩ := hI.lit (hdep 19 (by decide))
            exact Step.appRow3 (x := .tmp 31) (y := .tmp 50) d1 e1 (hI.row hLi) (Sl.mk (Nat.le_refl _)) (fun _ => e2 hLi) el55 un55 rfl rfl rfl (by omega) rfl (by have := hI.len; omega) fun u' M' g1 g2 g3 g4 g5 => hI.setApp hbs (by decide) rfl (hdep 0 (by decide)) hLi (fun _ => hnq) g1 g2 g3 g4 g5
          · injection ho with ho; subst ho
            obtain ⟨u, e1, e2, e3⟩ := hI.setSto (hdep 20 (by decide)) rfl hqm hnq
            exact Step.storeAt (x := .tmp 6) (y := .tmp 51) (hI.old (6, .pointer (some ⟨MM.length + 0, 0, none⟩)) (by simp)) e1 (hI.cell hqm hLi) (by decide +kernel) rfl Nat.zero_lt_one e2.one.2 e2.one.1 e3
          · simp at ho
        · intro L t M2 hall hI
          obtain ⟨u1, g1, g2, g3, _⟩ := hI.fin (hall 21 (by decide))
          refine InBlk.n ?_
          refine ⟨rfl, ?_⟩
          rw [hds]
          refine ⟨by have := hI.len; omega, fun j hj hne => by rw [hI.keep j (by omega) hne (NotOf.row hrow0 hj)]; exact hkeep0 j hj hne, fun i b hi hb => hmap0 i b (hI.map i b hi hb) hb, u1, g3 hqm, ?_⟩
          rw [tcs_app, List.length_append]
          simpa [tcs] using g1
      · intro M' hJ
        rw [hXm] at hJ
        refine InBlk.n ?_
        refine Then.n ?_
        obtain ⟨u0, hcu, hrow⟩ := hJ.row
        have hJl := hJ.len
        have hpm : ∃ T, M' = MM ++ T := pre_keep (m0 := MM) (M := MM) ⟨[], (List.append_nil _).symm⟩ (by omega) fun j hj => by rw [hJ.keep j (by omega) (hqb j hj), hM1p j hj]
        obtain ⟨T, hT⟩ := hpm
        have hX2 : BookAt (M' ++ [none]) m.length (m.length + 0) B pv := by rw [hT]; exact (hX'.old T).old _
        have hrow2 : Row (M' ++ [none]) M1.length 4 u0 (tcs (decL r n)) (decL r n).length := hrow.old _
        have hwn2 : ∀ j, j < r.length → Rd (M' ++ [none]) a' (o' + 1 * 1 + j) (.int .u8 ((r.getD j 0).toNat : Nat)) := fun j hj => by rw [hT]; exact ((hwn' j hj).old T).old _
        have hxl := hX2.lt
        have hpv : ∀ j, j < m.length → NotOf pv j := fun j hj => by
          obtain ⟨pc, q1, _⟩ := hX2.row
          exact NotOf.row q1 hj
        have hlT : ∀ M'', Fr (M' ++ [none]) M'' (m.length + 0) pv → Trs M'' u0 (decL r n) := fun M'' hF => Row.trsKeep hX2.row (fun b x hb => (hX2.sep hb).1) hrow2 (by omega) hF
        have hdl := decL_len r n
        have hpre3 : ∃ N, M' ++ [none] = m ++ N := by
          obtain ⟨N', hN'⟩ := hpre'
          exact ⟨N' ++ (T ++ [none]), by rw [hT, hN']; simp only [List.append_assoc]⟩
        have hl3 : MM.length + 1 ≤ (M' ++ [none]).length := by rw [List.length_append]; simp; omega
        refine AW.rebase ?_
        (repeat (first | (with_reducible refine AWo.cons ?_) | ((with_reducible refine Step.id ?_); first | ((with_reducible apply Step.move); exact rfl; exact rfl) | ((with_reducible apply Step.mulE); exact rfl; exact rfl; (focus (assumption)); (focus (omega)); exact rfl)) | ((with_reducible apply AW.seq)) | ((with_reducible apply AW.regL))))
        ((with_reducible apply Step.restN (l := 6 * n)); exact rfl; exact rfl; exact rfl; (focus (omega)); exact hcv1; exact un22; exact sz5; exact rfl)
        intro a2 o2 hq1 hq2
        rw [List.append_nil] at hq1 ⊢
        have rq : Rd (M' ++ [none]) (MM.length + 0) 0 u0 := Rd.old _ ⟨_, hcu, rfl⟩
        have ha2 : a2 < (M' ++ [none]).length := by
          rw [List.length_append]
          rcases hq1 with h | h
          · exact h
          · subst h; simp; omega
        clear hq1
        generalize M' ++ [none] = M3 at *
        rw [← List.append_nil M3]
        (repeat (first | (with_reducible refine AWo.cons ?_) | ((with_reducible refine Step.id ?_); first | ((with_reducible apply Step.move); exact rfl; exact rfl) | ((with_reducible apply Step.assign); exact rfl; exact rfl) | ((with_reducible apply Step.load); exact rfl; (focus (decide +kernel)); exact rfl; (focus (exact rq.old _)))) | (with_reducible refine AWo.nil ?_) | ((with_reducible apply AW.seq)) | ((with_reducible apply Then.n)) | ((with_reducible apply AW.regL))))
        by_cases he : (postF B (decL r n)).2.2 = 0
        · rw [if_neg (by simpa using he)] at hR
          ((with_reducible apply Step.callF fit); exact rfl; exact Try.func28; exact rfl; exact rfl; (focus (rw [List.append_nil]; exact Post_good hX2 hlT hG.bd (by omega) he)))
          rintro rr M4 ⟨u, rfl, hX4, hF4, hn4⟩
          have hpre4 : ∃ N, M4 = m ++ N := pre_keep hpre3 hF4.1 fun j hj => hF4.2 j (by omega) (by omega) (hpv j hj)
          have hPl2 := postF_len B (decL r n)
          have hG2 := hG.post (decL r n)
          generalize (postF B (decL r n)).1 = B2 at *
          rw [← List.append_nil M4]
          (repeat (first | (with_reducible refine AWo.cons ?_) | ((with_reducible refine Step.id ?_); first | ((with_reducible apply Step.move); exact rfl; exact rfl) | ((with_reducible apply Step.assign); exact rfl; exact rfl) | ((with_reducible apply Step.neq); exact rfl; exact rfl; exact rfl) | ((with_reducible apply Step.extract); exact rfl; exact rfl; exact rfl)) | (with_reducible refine AWo.nil ?_) | ((with_reducible apply AW.seq)) | ((with_reducible apply Then.n)) | ((with_reducible apply AW.regL)) | ((with_reducible apply InBlk.n)) | ((with_reducible apply AW.skip)) | ((with_reducible apply AW.condF); exact rfl; (focus (rfl)))))
          refine ⟨_, [(0, .slice (some ⟨a2, o2, none⟩) (r.length - 6 * n) (c1v - 6 * n)), (4, .pointer (some ⟨m.length + 0, 0, none⟩))], ?_, (by repeat (first | exact trivial | (refine And.intro rfl ?_))), r.drop (6 * n), B2, u, _, a2, o2, f, rfl, by omega, hR, by omega, by omega, hG2, ⟨by rw [hdr]; exact Sl.mk (by omega), fun j hj => ?_⟩, ?_, fun h => ?_, by rw [List.append_nil]; exact hX4, by rw [List.append_nil]; exact hpre4, rfl⟩
          · rw [hdr, List.length_cons]; omega
          · rw [hdr] at hj
            obtain ⟨rfl, rfl⟩ := hq2 (by omega)
            obtain ⟨rfl, rfl⟩ := ha1 (by omega)
            rw [hdg j hj, List.append_nil]
            obtain ⟨b, w1, w2⟩ := hwn2 (6 * n + j) (by omega)
            refine ⟨b, by rw [hF4.2 a2 (by omega) (by omega) (hpv a2 ha)]; exact w1, ?_⟩
            rw [show o' + 1 * 1 + 6 * n * 1 + j = o' + 1 * 1 + (6 * n + j) by omega]
            exact w2
          · rw [List.append_nil]; have := hF4.1; omega
          · rw [hdr] at h
            rw [(hq2 (by omega)).1, (ha1 (by omega)).1]
        · rw [if_pos he] at hR
          rw [← hR]
          ((with_reducible apply Step.callR fit); exact rfl; exact Try.func28; exact rfl; exact rfl; (focus (rw [List.append_nil]; exact Post_bad hX2 (hlT _ (Fr.refl _ _ _)) hG.bd (by omega) he)))
          (repeat (first | (with_reducible refine AWo.cons ?_) | ((with_reducible refine Step.id ?_); first | ((with_reducible apply Step.move); exact rfl; exact rfl) | ((with_reducible apply Step.assign); exact rfl; exact rfl) | ((with_reducible apply Step.neq); exact rfl; exact rfl; exact rfl) | ((with_reducible apply Step.extract); exact rfl; exact rfl; exact rfl)) | (with_reducible refine AWo.nil ?_) | ((with_reducible apply AW.seq)) | ((with_reducible apply Then.n)) | ((with_reducible apply AW.regL)) | ((with_reducible apply AW.condT); exact rfl; (focus ((simp only [decide_eq_true_eq, decide_eq_false_iff_not, Bool.not_eq_true', Bool.not_eq_false', Bool.not_true, Bool.not_false]; first | assumption | omega))))))
          (refine AW.ret ?_; (repeat (first | refine Then.r ?_ | refine InBlk.r ?_)))
          obtain ⟨N2, hN2⟩ := hpre3
          exact ⟨_, rfl, ⟨N2, by rw [List.append_nil]; exact hN2⟩, rfl⟩
end Go.Proofs.Ytabdnepfcohncaa.Abs
namespace Go.Proofs.Ytabdnepfcohncaa.Abs
set_option linter.unusedSimpArgs false
set_option linter.unusedVariables false
open Go.RowKit
open Go.Proofs.Ytabdnepfcohncaa.Sim
open Go.Proofs
set_option maxHeartbeats 8000000 in
set_option maxRecDepth 100000 in
theorem counts_ok {m : AM} {b0 b1 bk xk : Nat} {B : Bk} {pv px : Value} (h : BookAt m b0 bk B pv) (hx : RBook m b1 xk B.P px) (hg : Good B) (hpl : B.P.length ≤ 1000000) :
    ACall Try.prog 37 #[.pointer (some ⟨bk, 0, none⟩), .pointer (some ⟨xk, 0, none⟩)] m (Ret (.bool true) m) := by
  have hfl := flat_len hg.ok
  have h1 := fun T p i => Held_ok p i (h.old T)
  have h2 := fun T p i => RHeld_ok p i (hx.old T) hg.small (by omega) hpl
  have h3 := fun T p i => Changed_ok p i (h.old T)
  have h4 := fun T p i => RChanged_ok p i (hx.old T) (by omega) hpl
  simp only [held_eq hg, chg_eq hg] at h1 h3
  have hbl := h.lt
  have hxl := hx.lt
  refine ACall.start Try.func37 rfl rfl ?_
  (repeat (first | (with_reducible refine AWo.cons ?_) | ((with_reducible refine Step.id ?_); ((with_reducible apply Step.assign); exact rfl; exact rfl)) | (with_reducible refine AWo.nil ?_) | ((with_reducible apply AW.seq)) | ((with_reducible apply Then.n)) | ((with_reducible apply AW.regL)) | ((with_reducible apply AW.block))))
  refine AW.loopT (fun n t L => ∃ z : Int, n = (17 - z).toNat ∧ -1 ≤ z ∧ z ≤ 17 ∧ L = [] ∧
    t = [(0, .pointer (some ⟨bk, 0, none⟩)), (1, .pointer (some ⟨xk, 0, none⟩)), (5, .int .i64 z)]) ⟨_, _, _, (Or.inl ⟨rfl, (by repeat (first | exact trivial | (refine And.intro rfl ?_)))⟩), -1, rfl, by omega, by omega, rfl, rfl⟩ ?_
  rintro n t L ⟨p, rfl, p1, p2, rfl, rfl⟩
  by_cases c0 : p ≤ 16
  · (repeat (first | (with_reducible refine AWo.cons ?_) | ((with_reducible refine Step.id ?_); first | ((with_reducible apply Step.move); exact rfl; exact rfl) | ((with_reducible apply Step.assign); exact rfl; exact rfl) | ((with_reducible apply Step.leq); exact rfl; exact rfl; exact rfl)) | (with_reducible refine AWo.nil ?_) | ((with_reducible apply AW.seq)) | ((with_reducible apply Then.n)) | ((with_reducible apply AW.regL)) | ((with_reducible apply AW.block)) | ((with_reducible apply AW.skip)) | ((with_reducible apply AW.condT); exact rfl; (focus ((simp only [decide_eq_true_eq, decide_eq_false_iff_not, Bool.not_eq_true', Bool.not_eq_false', Bool.not_true, Bool.not_false]; first | assumption | omega))))))
    refine AW.loopT (fun n t L => ∃ z : Int, n = (17 - z).toNat ∧ -1 ≤ z ∧ z ≤ 17 ∧ L = [] ∧
      t = [(0, .pointer (some ⟨bk, 0, none⟩)), (1, .pointer (some ⟨xk, 0, none⟩)), (5, .int .i64 p), (6, .int .i64 z)]) ⟨_, _, _, (Or.inl ⟨rfl, (by repeat (first | exact trivial | (refine And.intro rfl ?_)))⟩), -1, rfl, by omega, by omega, rfl, rfl⟩ ?_
    rintro n t L ⟨i, rfl, i1, i2, rfl, rfl⟩
    by_cases c1 : i ≤ 16
    · by_cases d1 : 4 < i
      · by_cases d2 : i < 15
        · (repeat (first | (with_reducible refine AWo.cons ?_) | ((with_reducible refine Step.id ?_); first | ((with_reducible apply Step.gdU); exact rfl; exact rfl) | ((with_reducible apply Step.gdT); exact rfl; exact rfl; (focus ((simp only [decide_eq_true_eq, decide_eq_false_iff_not, Bool.not_eq_true', Bool.not_eq_false', Bool.not_true, Bool.not_false]; first | assumption | omega)))) | ((with_reducible apply Step.gdF); exact rfl; exact rfl; (focus ((simp only [decide_eq_true_eq, decide_eq_false_iff_not, Bool.not_eq_true', Bool.not_eq_false', Bool.not_true, Bool.not_false]; first | assumption | omega)))) | ((with_reducible apply Step.move); exact rfl; exact rfl) | ((with_reducible apply Step.assign); exact rfl; exact rfl) | ((with_reducible apply Step.add); exact rfl; exact rfl; (focus (omega)); exact rfl) | ((with_reducible apply Step.lss); exact rfl; exact rfl; exact rfl) | ((with_reducible apply Step.leq); exact rfl; exact rfl; exact rfl) | ((with_reducible apply Step.gtr); exact rfl; exact rfl; exact rfl) | ((with_reducible apply Step.pickT); exact rfl; exact rfl; exact rfl; exact rfl; (focus ((simp only [decide_eq_true_eq, decide_eq_false_iff_not, Bool.not_eq_true', Bool.not_eq_false', Bool.not_true, Bool.not_false]; first | assumption | omega))))) | (with_reducible refine AWo.nil ?_) | ((with_reducible apply AW.seq)) | ((with_reducible apply Then.n)) | ((with_reducible apply AW.regL)) | ((with_reducible apply AW.block)) | ((with_reducible apply AW.exit)) | ((with_reducible apply InBlk.hit)) | ((with_reducible apply Then.e)) | ((with_reducible apply AW.skip)) | ((with_reducible apply AW.condT); exact rfl; (focus (first | rfl | (simp only [decide_eq_true_eq, decide_eq_false_iff_not, Bool.not_eq_true', Bool.not_eq_false', Bool.not_true, Bool.not_false]; first | assumption | omega))))))
          exact ⟨_, _, _, by omega, (Or.inl ⟨rfl, (by repeat (first | exact trivial | (refine And.intro rfl ?_)))⟩), i + 1, rfl, by omega, by omega, rfl, rfl⟩
        · by_cases d3 : 7 < p
          · by_cases d4 : p < 15
            · (repeat (first | (with_reducible refine AWo.cons ?_) | ((with_reducible refine Step.id ?_); first | ((with_reducible apply Step.gdT); exact rfl; exact rfl; (focus ((simp only [decide_eq_true_eq, decide_eq_false_iff_not, Bool.not_eq_true', Bool.not_eq_false', Bool.not_true, Bool.not_false]; first | assumption | omega)))) | ((with_reducible apply Step.move); exact rfl; exact rfl) | ((with_reducible apply Step.assign); exact rfl; exact rfl) | ((with_reducible apply Step.add); exact rfl; exact rfl; (focus (omega)); exact rfl) | ((with_reducible apply Step.lss); exact rfl; exact rfl; exact rfl) | ((with_reducible apply Step.leq); exact rfl; exact rfl; exact rfl) | ((with_reducible apply Step.gtr); exact rfl; exact rfl; exact rfl) | ((with_reducible apply Step.pickT); exact rfl; exact rfl; exact rfl; exact rfl; (focus ((simp only [decide_eq_true_eq, decide_eq_false_iff_not, Bool.not_eq_true', Bool.not_eq_false', Bool.not_true, Bool.not_false]; first | assumption | omega)))) | ((with_reducible apply Step.pickF); exact rfl; exact rfl; exact rfl; exact rfl; (focus ((simp only [decide_eq_true_eq, decide_eq_false_iff_not, Bool.not_eq_true', Bool.not_eq_false', Bool.not_true, Bool.not_false]; first | assumption | omega))))) | (with_reducible refine AWo.nil ?_) | ((with_reducible apply AW.seq)) | ((with_reducible apply Then.n)) | ((with_reducible apply AW.regL)) | ((with_reducible apply AW.block)) | ((with_reducible apply AW.exit)) | ((with_reducible apply InBlk.hit)) | ((with_reducible apply Then.e)) | ((with_reducible apply AW.skip)) | ((with_reducible apply AW.condT); exact rfl; (focus ((simp only [decide_eq_true_eq, decide_eq_false_iff_not, Bool.not_eq_true', Bool.not_eq_false', Bool.not_true, Bool.not_false]; first | assumption | omega))))))
              exact ⟨_, _, _, by omega, (Or.inl ⟨rfl, (by repeat (first | exact trivial | (refine And.intro rfl ?_)))⟩), i + 1, rfl, by omega, by omega, rfl, rfl⟩
            · (repeat (first | (with_reducible refine AWo.cons ?_) | ((with_reducible refine Step.id ?_); first | ((with_reducible apply Step.gdT); exact rfl; exact rfl; (focus (first | (simp only [decide_eq_true_eq, decide_eq_false_iff_not, Bool.not_eq_true', Bool.not_eq_false', Bool.not_true, Bool.not_false]; first | assumption | omega) | (simp; done)))) | ((with_reducible apply Step.move); exact rfl; exact rfl) | ((with_reducible apply Step.assign); exact rfl; exact rfl) | ((with_reducible apply Step.add); exact rfl; exact rfl; (focus (omega)); exact rfl) | ((with_reducible apply Step.lss); exact rfl; exact rfl; exact rfl) | ((with_reducible apply Step.leq); exact rfl; exact rfl; exact rfl) | ((with_reducible apply Step.gtr); exact rfl; exact rfl; exact rfl) | ((with_reducible apply Step.neq); exact rfl; exact rfl; exact rfl) | ((with_reducible apply Step.extract); exact rfl; exact rfl; exact rfl) | ((with_reducible apply Step.pickT); exact rfl; exact rfl; exact rfl; exact rfl; (focus ((simp only [decide_eq_true_eq, decide_eq_false_iff_not, Bool.not_eq_true', Bool.not_eq_false', Bool.not_true, Bool.not_false]; first | assumption | omega)))) | ((with_reducible apply Step.pickF); exact rfl; exact rfl; exact rfl; exact rfl; (focus (first | (simp only [decide_eq_true_eq, decide_eq_false_iff_not, Bool.not_eq_true', Bool.not_eq_false', Bool.not_true, Bool.not_false]; first | assumption | omega) | (simp; done)))) | ((with_reducible apply Step.callR fit); exact rfl; exact Try.func32; exact rfl; exact rfl; exact (h1 _ _ _)) | ((with_reducible apply Step.callR fit); exact rfl; exact Try.func97; exact rfl; exact rfl; exact (h2 _ _ _)) | ((with_reducible apply Step.callR fit); exact rfl; exact Try.func98; exact rfl; exact rfl; exact (h3 _ _ _)) | ((with_reducible apply Step.callR fit); exact rfl; exact Try.func99; exact rfl; exact rfl; exact (h4 _ _ _))) | (with_reducible refine AWo.nil ?_) | ((with_reducible apply AW.seq)) | ((with_reducible apply Then.n)) | ((with_reducible apply AW.regL)) | ((with_reducible apply AW.block)) | ((with_reducible apply InBlk.n)) | ((with_reducible apply AW.skip)) | ((with_reducible apply AW.condT); exact rfl; (focus ((simp only [decide_eq_true_eq, decide_eq_false_iff_not, Bool.not_eq_true', Bool.not_eq_false', Bool.not_true, Bool.not_false]; first | assumption | omega)))) | ((with_reducible apply AW.condF); exact rfl; (focus (first | (simp only [decide_eq_true_eq, decide_eq_false_iff_not, Bool.not_eq_true', Bool.not_eq_false', Bool.not_true, Bool.not_false]; first | assumption | omega) | (simp; done))))))
              exact ⟨_, _, _, by omega, (Or.inl ⟨rfl, (by repeat (first | exact trivial | (refine And.intro rfl ?_)))⟩), i + 1, rfl, by omega, by omega, rfl, rfl⟩
          · (repeat (first | (with_reducible refine AWo.cons ?_) | ((with_reducible refine Step.id ?_); first | ((with_reducible apply Step.gdT); exact rfl; exact rfl; (focus (first | (simp only [decide_eq_true_eq, decide_eq_false_iff_not, Bool.not_eq_true', Bool.not_eq_false', Bool.not_true, Bool.not_false]; first | assumption | omega) | (simp; done)))) | ((with_reducible apply Step.gdF); exact rfl; exact rfl; (focus ((simp only [decide_eq_true_eq, decide_eq_false_iff_not, Bool.not_eq_true', Bool.not_eq_false', Bool.not_true, Bool.not_false]; first | assumption | omega)))) | ((with_reducible apply Step.move); exact rfl; exact rfl) | ((with_reducible apply Step.assign); exact rfl; exact rfl) | ((with_reducible apply Step.add); exact rfl; exact rfl; (focus (omega)); exact rfl) | ((with_reducible apply Step.lss); exact rfl; exact rfl; exact rfl) | ((with_reducible apply Step.leq); exact rfl; exact rfl; exact rfl) | ((with_reducible apply Step.gtr); exact rfl; exact rfl; exact rfl) | ((with_reducible apply Step.neq); exact rfl; exact rfl; exact rfl) | ((with_reducible apply Step.extract); exact rfl; exact rfl; exact rfl) | ((with_reducible apply Step.pickT); exact rfl; exact rfl; exact rfl; exact rfl; (focus ((simp only [decide_eq_true_eq, decide_eq_false_iff_not, Bool.not_eq_true', Bool.not_eq_false', Bool.not_true, Bool.not_false]; first | assumption | omega)))) | ((with_reducible apply Step.pickF); exact rfl; exact rfl; exact rfl; exact rfl; (focus (first | (simp only [decide_eq_true_eq, decide_eq_false_iff_not, Bool.not_eq_true', Bool.not_eq_false', Bool.not_true, Bool.not_false]; first | assumption | omega) | (simp; done)))) | ((with_reducible apply Step.callR fit); exact rfl; exact Try.func32; exact rfl; exact rfl; exact (h1 _ _ _)) | ((with_reducible apply Step.callR fit); exact rfl; exact Try.func97; exact rfl; exact rfl; exact (h2 _ _ _)) | ((with_reducible apply Step.callR fit); exact rfl; exact Try.func98; exact rfl; exact rfl; exact (h3 _ _ _)) | ((with_reducible apply Step.callR fit); exact rfl; exact Try.func99; exact rfl; exact rfl; exact (h4 _ _ _))) | (with_reducible refine AWo.nil ?_) | ((with_reducible apply AW.seq)) | ((with_reducible apply Then.n)) | ((with_reducible apply AW.regL)) | ((with_reducible apply AW.block)) | ((with_reducible apply InBlk.n)) | ((with_reducible apply AW.skip)) | ((with_reducible apply AW.condT); exact rfl; (focus ((simp only [decide_eq_true_eq, decide_eq_false_iff_not, Bool.not_eq_true', Bool.not_eq_false', Bool.not_true, Bool.not_false]; first | assumption | omega)))) | ((with_reducible apply AW.condF); exact rfl; (focus (first | rfl | (simp; done))))))
            exact ⟨_, _, _, by omega, (Or.inl ⟨rfl, (by repeat (first | exact trivial | (refine And.intro rfl ?_)))⟩), i + 1, rfl, by omega, by omega, rfl, rfl⟩
      · by_cases d3 : 7 < p
        · by_cases d4 : p < 15
          · (repeat (first | (with_reducible refine AWo.cons ?_) | ((with_reducible refine Step.id ?_); first | ((with_reducible apply Step.gdT); exact rfl; exact rfl; (focus (first | rfl | (simp only [decide_eq_true_eq, decide_eq_false_iff_not, Bool.not_eq_true', Bool.not_eq_false', Bool.not_true, Bool.not_false]; first | assumption | omega)))) | ((with_reducible apply Step.gdF); exact rfl; exact rfl; (focus ((simp only [decide_eq_true_eq, decide_eq_false_iff_not, Bool.not_eq_true', Bool.not_eq_false', Bool.not_true, Bool.not_false]; first | assumption | omega)))) | ((with_reducible apply Step.move); exact rfl; exact rfl) | ((with_reducible apply Step.assign); exact rfl; exact rfl) | ((with_reducible apply Step.add); exact rfl; exact rfl; (focus (omega)); exact rfl) | ((with_reducible apply Step.lss); exact rfl; exact rfl; exact rfl) | ((with_reducible apply Step.leq); exact rfl; exact rfl; exact rfl) | ((with_reducible apply Step.gtr); exact rfl; exact rfl; exact rfl) | ((with_reducible apply Step.pickT); exact rfl; exact rfl; exact rfl; exact rfl; (focus ((simp only [decide_eq_true_eq, decide_eq_false_iff_not, Bool.not_eq_true', Bool.not_eq_false', Bool.not_true, Bool.not_false]; first | assumption | omega)))) | ((with_reducible apply Step.pickF); exact rfl; exact rfl; exact rfl; exact rfl; (focus (first | rfl | (simp only [decide_eq_true_eq, decide_eq_false_iff_not, Bool.not_eq_true', Bool.not_eq_false', Bool.not_true, Bool.not_false]; first | assumption | omega))))) | (with_reducible refine AWo.nil ?_) | ((with_reducible apply AW.seq)) | ((with_reducible apply Then.n)) | ((with_reducible apply AW.regL)) | ((with_reducible apply AW.block)) | ((with_reducible apply AW.exit)) | ((with_reducible apply InBlk.hit)) | ((with_reducible apply Then.e)) | ((with_reducible apply AW.skip)) | ((with_reducible apply AW.condT); exact rfl; (focus ((simp only [decide_eq_true_eq, decide_eq_false_iff_not, Bool.not_eq_true', Bool.not_eq_false', Bool.not_true, Bool.not_false]; first | assumption | omega))))))
            exact ⟨_, _, _, by omega, (Or.inl ⟨rfl, (by repeat (first | exact trivial | (refine And.intro rfl ?_)))⟩), i + 1, rfl, by omega, by omega, rfl, rfl⟩
          · (repeat (first | (with_reducible refine AWo.cons ?_) | ((with_reducible refine Step.id ?_); first | ((with_reducible apply Step.gdT); exact rfl; exact rfl; (focus (first | rfl | (simp only [decide_eq_true_eq, decide_eq_false_iff_not, Bool.not_eq_true', Bool.not_eq_false', Bool.not_true, Bool.not_false]; first | assumption | omega) | (simp; done)))) | ((with_reducible apply Step.gdF); exact rfl; exact rfl; (focus ((simp only [decide_eq_true_eq, decide_eq_false_iff_not, Bool.not_eq_true', Bool.not_eq_false', Bool.not_true, Bool.not_false]; first | assumption | omega)))) | ((with_reducible apply Step.move); exact rfl; exact rfl) | ((with_reducible apply Step.assign); exact rfl; exact rfl) | ((with_reducible apply Step.add); exact rfl; exact rfl; (focus (omega)); exact rfl) | ((with_reducible apply Step.lss); exact rfl; exact rfl; exact rfl) | ((with_reducible apply Step.leq); exact rfl; exact rfl; exact rfl) | ((with_reducible apply Step.gtr); exact rfl; exact rfl; exact rfl) | ((with_reducible apply Step.neq); exact rfl; exact rfl; exact rfl) | ((with_reducible apply Step.extract); exact rfl; exact rfl; exact rfl) | ((with_reducible apply Step.pickT); exact rfl; exact rfl; exact rfl; exact rfl; (focus ((simp only [decide_eq_true_eq, decide_eq_false_iff_not, Bool.not_eq_true', Bool.not_eq_false', Bool.not_true, Bool.not_false]; first | assumption | omega)))) | ((with_reducible apply Step.pickF); exact rfl; exact rfl; exact rfl; exact rfl; (focus (first | rfl | (simp only [decide_eq_true_eq, decide_eq_false_iff_not, Bool.not_eq_true', Bool.not_eq_false', Bool.not_true, Bool.not_false]; first | assumption | omega) | (simp; done)))) | ((with_reducible apply Step.callR fit); exact rfl; exact Try.func32; exact rfl; exact rfl; exact (h1 _ _ _)) | ((with_reducible apply Step.callR fit); exact rfl; exact Try.func97; exact rfl; exact rfl; exact (h2 _ _ _)) | ((with_reducible apply Step.callR fit); exact rfl; exact Try.func98; exact rfl; exact rfl; exact (h3 _ _ _)) | ((with_reducible apply Step.callR fit); exact rfl; exact Try.func99; exact rfl; exact rfl; exact (h4 _ _ _))) | (with_reducible refine AWo.nil ?_) | ((with_reducible apply AW.seq)) | ((with_reducible apply Then.n)) | ((with_reducible apply AW.regL)) | ((with_reducible apply AW.block)) | ((with_reducible apply InBlk.n)) | ((with_reducible apply AW.skip)) | ((with_reducible apply AW.condT); exact rfl; (focus ((simp only [decide_eq_true_eq, decide_eq_false_iff_not, Bool.not_eq_true', Bool.not_eq_false', Bool.not_true, Bool.not_false]; first | assumption | omega)))) | ((with_reducible apply AW.condF); exact rfl; (focus (first | (simp only [decide_eq_true_eq, decide_eq_false_iff_not, Bool.not_eq_true', Bool.not_eq_false', Bool.not_true, Bool.not_false]; first | assumption | omega) | (simp; done))))))
            exact ⟨_, _, _, by omega, (Or.inl ⟨rfl, (by repeat (first | exact trivial | (refine And.intro rfl ?_)))⟩), i + 1, rfl, by omega, by omega, rfl, rfl⟩
        · (repeat (first | (with_reducible refine AWo.cons ?_) | ((with_reducible refine Step.id ?_); first | ((with_reducible apply Step.gdT); exact rfl; exact rfl; (focus (first | rfl | (simp; done)))) | ((with_reducible apply Step.gdF); exact rfl; exact rfl; (focus ((simp only [decide_eq_true_eq, decide_eq_false_iff_not, Bool.not_eq_true', Bool.not_eq_false', Bool.not_true, Bool.not_false]; first | assumption | omega)))) | ((with_reducible apply Step.move); exact rfl; exact rfl) | ((with_reducible apply Step.assign); exact rfl; exact rfl) | ((with_reducible apply Step.add); exact rfl; exact rfl; (focus (omega)); exact rfl) | ((with_reducible apply Step.leq); exact rfl; exact rfl; exact rfl) | ((with_reducible apply Step.gtr); exact rfl; exact rfl; exact rfl) | ((with_reducible apply Step.neq); exact rfl; exact rfl; exact rfl) | ((with_reducible apply Step.extract); exact rfl; exact rfl; exact rfl) | ((with_reducible apply Step.pickF); exact rfl; exact rfl; exact rfl; exact rfl; (focus (first | rfl | (simp only [decide_eq_true_eq, decide_eq_false_iff_not, Bool.not_eq_true', Bool.not_eq_false', Bool.not_true, Bool.not_false]; first | assumption | omega) | (simp; done)))) | ((with_reducible apply Step.callR fit); exact rfl; exact Try.func32; exact rfl; exact rfl; exact (h1 _ _ _)) | ((with_reducible apply Step.callR fit); exact rfl; exact Try.func97; exact rfl; exact rfl; exact (h2 _ _ _)) | ((with_reducible apply Step.callR fit); exact rfl; exact Try.func98; exact rfl; exact rfl; exact (h3 _ _ _)) | ((with_reducible apply Step.callR fit); exact rfl; exact Try.func99; exact rfl; exact rfl; exact (h4 _ _ _))) | (with_reducible refine AWo.nil ?_) | ((with_reducible apply AW.seq)) | ((with_reducible apply Then.n)) | ((with_reducible apply AW.regL)) | ((with_reducible apply AW.block)) | ((with_reducible apply InBlk.n)) | ((with_reducible apply AW.skip)) | ((with_reducible apply AW.condT); exact rfl; (focus ((simp only [decide_eq_true_eq, decide_eq_false_iff_not, Bool.not_eq_true', Bool.not_eq_false', Bool.not_true, Bool.not_false]; first | assumption | omega)))) | ((with_reducible apply AW.condF); exact rfl; (focus (first | rfl | (simp; done))))))
          exact ⟨_, _, _, by omega, (Or.inl ⟨rfl, (by repeat (first | exact trivial | (refine And.intro rfl ?_)))⟩), i + 1, rfl, by omega, by omega, rfl, rfl⟩
    · (repeat (first | (with_reducible refine AWo.cons ?_) | ((with_reducible refine Step.id ?_); first | ((with_reducible apply Step.move); exact rfl; exact rfl) | ((with_reducible apply Step.assign); exact rfl; exact rfl) | ((with_reducible apply Step.add); exact rfl; exact rfl; (focus (omega)); exact rfl) | ((with_reducible apply Step.leq); exact rfl; exact rfl; exact rfl)) | (with_reducible refine AWo.nil ?_) | ((with_reducible apply AW.seq)) | ((with_reducible apply Then.n)) | ((with_reducible apply AW.regL)) | ((with_reducible apply AW.exit)) | ((with_reducible apply InBlk.n)) | ((with_reducible apply InBlk.hit)) | ((with_reducible apply Then.e)) | ((with_reducible apply AW.condF); exact rfl; (focus ((simp only [decide_eq_true_eq, decide_eq_false_iff_not, Bool.not_eq_true', Bool.not_eq_false', Bool.not_true, Bool.not_false]; first | assumption | omega))))))
      exact ⟨_, _, _, by omega, (Or.inl ⟨rfl, (by repeat (first | exact trivial | (refine And.intro rfl ?_)))⟩), p + 1, rfl, by omega, by omega, rfl, rfl⟩
  · (repeat (first | (with_reducible refine AWo.cons ?_) | ((with_reducible refine Step.id ?_); first | ((with_reducible apply Step.move); exact rfl; exact rfl) | ((with_reducible apply Step.assign); exact rfl; exact rfl) | ((with_reducible apply Step.leq); exact rfl; exact rfl; exact rfl)) | (with_reducible refine AWo.nil ?_) | ((with_reducible apply AW.seq)) | ((with_reducible apply Then.n)) | ((with_reducible apply AW.regL)) | ((with_reducible apply AW.exit)) | ((with_reducible apply InBlk.hit)) | ((with_reducible apply Then.e)) | ((with_reducible apply AW.condF); exact rfl; (focus ((simp only [decide_eq_true_eq, decide_eq_false_iff_not, Bool.not_eq_true', Bool.not_eq_false', Bool.not_true, Bool.not_false]; first | assumption | omega))))))
    (refine AW.retD (l := [(4, _)]) (by repeat (first | exact trivial | (refine And.intro ⟨rfl, by (exact .bool _)⟩ ?_))) ?_; (repeat (first | refine Then.r ?_ | refine InBlk.r ?_)))
    exact ⟨_, rfl, rfl, rfl⟩
end Go.Proofs.Ytabdnepfcohncaa.Abs
namespace Go.Proofs.Ytabdnepfcohncaa.Abs
set_option linter.unusedSimpArgs false
set_option linter.unusedVariables false
open Go.RowKit
open Go.Proofs.Ytabdnepfcohncaa.Sim
open Go.Proofs
section
variable {P : Program} {nt : Nat} {ops : Array Oper} {t : Fm} {m : AM} {K : Fm → AM → Prop} {d T : Nat} {p : String} {af : Array Edge}
theorem Step.toStrB {x : Operand} {S D e a o n : Nat} {v : Value} {l : List UInt8} (hx : evo t x = some v) (hs : Sl v a o n) (hn : l.length = n) (hrd : 0 < n → RdL m a o (by8 l)) (hS : P.underlying S = some (.slice e)) (he : P.underlying e = some (.int .u8)) (hD : P.underlying D = some .string)
    (hlt : Nat.blt d nt = true) (hK : K (put t d (.string ⟨l.toArray⟩)) m) : Step P nt ops ⟨some d, .convert S D x, T, p, af, none⟩ t m K := by
  refine .l rfl rfl hlt (by simp [stillB, hS]) (by simp [Op.operands, hx]) ?_
  intro base R w b Q next hb hm hev hn'
  have h1 := hev x (by simp [Op.operands])
  rw [evD_of hx] at h1
  have hrun : (convert S D (b.eval x)).run P w = .ok (.string ⟨l.toArray⟩) w := by
    generalize b.eval x = x' at h1
    rcases hs with ⟨rfl, h0⟩ | ⟨c, hc, rfl⟩ | ⟨h0, o', k, rfl⟩
    · obtain rfl : l = [] := List.eq_nil_of_length_eq_zero (by omega)
      cases h1
      rw [run_convert_bytes_string w S D e none 0 0 hS he hD]
      simp [Conv.bytesToString]
      rfl
    · cases h1 with
      | slice _ _ _ _ q hq hle =>
      subst hn
      refine run_convert_bytes_back w S D e _ _ l hS he hD fun j hj => ?_
      obtain ⟨blk, k1, k2⟩ := hrd (by omega)
      obtain ⟨v', r1, r2⟩ := (hm.of k1 hq).cell (k2 j _ (by8_get hj))
      rw [Addr.add_lit]
      cases r2
      rw [Nat.add_assoc]
      exact r1
    · obtain rfl : l = [] := List.eq_nil_of_length_eq_zero (by omega)
      subst h0
      cases h1 with
      | sliceSpot _ _ _ q hq => exact run_convert_bytes_back w S D e _ _ [] hS he hD fun j hj => by simp at hj
  exact wp_of_does rfl (.inl (by simp [execOp, hrun])) (hn' R (.string ⟨l.toArray⟩) _ m w (.string _) (.refl hm) hK)
theorem Step.eqlS {x y : Operand} {X Y : TypeId} {a b : ByteArray} (hx : evo t x = some (.string a)) (hy : evo t y = some (.string b)) (hX : P.underlying X = some .string) (hlt : Nat.blt d nt = true) (hK : K (put t d (.bool (a.toList == b.toList))) m) : Step P nt ops ⟨some d, .binOp .eql X x y Y, T, p, af, none⟩ t m K := by
  refine .ground rfl rfl hlt (by simp [Op.operands, hx, hy, g1, g0]) (fun h => by simp only [aquiet, evD_of hx, evD_of hy, aint, anil, hX]; simpa [evD_of hx, evD_of hy] using h) ?_ (by simp [g1, g0]) hK
  simp only [execOp, eqGuard, binOp, evD_of hx, evD_of hy, bind, Sem.bind, pure]
  rfl
end
theorem un9 : Try.prog.underlying 9 = some .string := by kernel_rfl
theorem Byts.row {m : AM} {v : Value} {l : List UInt8} (h : Byts m v l) : ∃ a o, Sl v a o l.length ∧ (0 < l.length → RdL m a o (by8 l)) := by
  obtain ⟨a, o, h1, h2, h3⟩ := h
  refine ⟨a, o, h1, fun h0 => ?_⟩
  obtain ⟨b, q1, _⟩ := h3 0 h0
  refine ⟨b, q1, fun j v hj => ?_⟩
  have hj1 := (List.getElem?_eq_some_iff.1 hj).1
  rw [by8_len] at hj1
  obtain ⟨b', r1, r2⟩ := h3 j hj1
  rw [q1] at r1; injection r1 with r1; injection r1 with r1; subst r1
  rw [by8_get hj1] at hj
  injection hj with hj
  rw [← hj, r2, List.getD_eq_getElem?_getD, List.getElem?_eq_getElem hj1]
  rfl
set_option maxRecDepth 100000 in
theorem Equal_ok {m : AM} {v w : Value} {l k : List UInt8} (hv : Byts m v l) (hw : Byts m w k) : ACall Try.prog 19 #[v, w] m (Ret (.bool (l == k)) m) := by
  obtain ⟨a1, o1, s1, r1⟩ := hv.row
  obtain ⟨a2, o2, s2, r2⟩ := hw.row
  refine ACall.start Try.func19 rfl rfl ?_
  (repeat (first | (with_reducible refine AWo.cons ?_) | ((with_reducible refine Step.id ?_); first | ((with_reducible apply Step.move); exact rfl; exact rfl) | ((with_reducible apply Step.assign); exact rfl; exact rfl)) | (with_reducible refine AWo.nil ?_) | ((with_reducible apply AW.seq)) | ((with_reducible apply Then.n)) | ((with_reducible apply AW.regL))))
  ((with_reducible apply Step.toStrB); exact rfl; exact s1; exact rfl; exact (fun h => (r1 h).old _); exact un22; exact un5; exact un9; exact rfl)
  (repeat (first | (with_reducible refine AWo.cons ?_) | ((with_reducible refine Step.id ?_); ((with_reducible apply Step.move); exact rfl; exact rfl))))
  ((with_reducible apply Step.toStrB); exact rfl; exact s2; exact rfl; exact (fun h => (r2 h).old _); exact un22; exact un5; exact un9; exact rfl)
  (repeat ((with_reducible refine AWo.cons ?_)))
  ((with_reducible apply Step.eqlS); exact rfl; exact rfl; exact un9; exact rfl)
  (repeat (first | (with_reducible refine AWo.cons ?_) | ((with_reducible refine Step.id ?_); ((with_reducible apply Step.assign); exact rfl; exact rfl)) | (with_reducible refine AWo.nil ?_) | ((with_reducible apply Then.n))))
  (refine AW.retD (l := [(4, _)]) (by repeat (first | exact trivial | (refine And.intro ⟨rfl, by (exact .bool _)⟩ ?_))) ?_; (repeat (first | refine Then.r ?_ | refine InBlk.r ?_)))
  exact ⟨_, rfl, by simp, rfl⟩
theorem fold_eq : ∀ (l : List UInt8) (n : Nat), l.foldl (fun n c => n * 256 + c.toNat) n = n * 2 ^ (8 * l.length) + numB l
  | [], n => by simp [numB]
  | x :: l, n => by
    have h1 := fold_eq l (n * 256 + x.toNat)
    have h2 := fold_eq l (0 * 256 + x.toNat)
    have e : numB (x :: l) = l.foldl (fun n c => n * 256 + c.toNat) (0 * 256 + x.toNat) := rfl
    rw [e, h2, List.foldl_cons, h1, List.length_cons, show 8 * (l.length + 1) = 8 * l.length + 8 by omega, Nat.pow_add]
    generalize 2 ^ (8 * l.length) = Q
    rw [show (2 : Nat) ^ 8 = 256 by decide, Nat.add_mul, Nat.zero_mul, Nat.zero_add, Nat.mul_assoc, Nat.mul_comm 256 Q]
    omega
theorem BytsAt.byts {m : AM} {v : Value} {a o : Nat} {l : List UInt8} (h : BytsAt m v a o l) (ha : a < m.length) : Byts m v l := ⟨a, o, h.1, ha, h.2⟩
end Go.Proofs.Ytabdnepfcohncaa.Abs
namespace Go.Proofs.Ytabdnepfcohncaa.Abs
set_option linter.unusedSimpArgs false
set_option linter.unusedVariables false
open Go.RowKit
open Go.Proofs.Ytabdnepfcohncaa.Sim
open Go.Proofs
/-- A call may take a row of one's own as one that is never written again. -/
theorem ACall.freeze {P : Program} {f : FuncId} {args : Array Value} {m : AM} {a : Nat} {b : Blk} {Q : Value → AM → Prop} (ha : m[a]? = some (some b)) (hs : b.kind.solid = true) (h : ACall P f args (m.set a (some { cells := b.cells, kind := .ro })) Q) : ACall P f args m Q := by
  intro base R w args' hb hm hargs
  have hp := Post.freeze hm ha hs
  refine (h base R w args' hb hp.rep hargs).mono ?_
  rintro e w' ⟨v, v', R', m', h1, h2, h3, h4⟩
  exact ⟨v, v', R', m', h1, h2, hp.trans h3, h4⟩
set_option maxRecDepth 100000 in
theorem Last_ok {m : AM} {b0 bk : Nat} {B : Bk} {pv : Value} (h : BookAt m b0 bk B pv) : ACall Try.prog 39 #[.pointer (some ⟨bk, 0, none⟩)] m (Ret (.int .i64 (B.P.length : Nat)) m) := by
  have hnone := fun T => none_ok (m := m ++ T) (bk := bk) (Rd.old T ⟨_, h.cells, bkc_0⟩)
  have hbl := h.lt
  have rp := fun T => Rd.old T (show Rd m bk 513 pv from ⟨_, h.cells, bkc_P h.lH h.lC⟩)
  obtain ⟨pc, hrow, hps⟩ := h.row
  obtain ⟨ar, r1, r2, r3⟩ := hrow.sl (by omega)
  refine ACall.start Try.func39 rfl rfl ?_
  (repeat (first | (with_reducible refine AWo.cons ?_) | ((with_reducible refine Step.id ?_); first | ((with_reducible apply Step.move); exact rfl; exact rfl) | ((with_reducible apply Step.assign); exact rfl; exact rfl) | ((with_reducible apply Step.load); exact rfl; (focus (decide +kernel)); exact rfl; (focus (exact rp _))) | ((with_reducible apply Step.field (k := 513)); exact rfl; (focus (decide +kernel)); exact rfl) | ((with_reducible apply Step.len); exact rfl; (focus (assumption)); (focus (decide +kernel)); exact rfl) | ((with_reducible apply Step.nilp); exact rfl; exact rfl) | ((with_reducible apply Step.callR fit); exact rfl; exact Try.func83; exact rfl; exact rfl; exact (hnone _))) | (with_reducible refine AWo.nil ?_) | ((with_reducible apply AW.seq)) | ((with_reducible apply Then.n)) | ((with_reducible apply AW.regL)) | ((with_reducible apply AW.skip)) | ((with_reducible apply AW.condF); exact rfl; (focus (rfl)))))
  (refine AW.retD (l := [(2, _)]) (by repeat (first | exact trivial | (refine And.intro ⟨rfl, by (exact .int _ _)⟩ ?_))) ?_; (repeat (first | refine Then.r ?_ | refine InBlk.r ?_)))
  exact ⟨_, rfl, rfl, rfl⟩
set_option maxHeartbeats 4000000 in
set_option maxRecDepth 100000 in
theorem Find_ok {m : AM} {b0 bk : Nat} {B : Bk} {pv : Value} {k : Nat} (h : BookAt m b0 bk B pv) (hk : k < B.P.length) (hok : ∀ l ∈ B.P, postB l = true) (hpl : B.P.length ≤ 1000000) : ACall Try.prog 40 #[.pointer (some ⟨bk, 0, none⟩), .int .i64 ((k : Nat) + 1)] m
    (More (fun M r => ∃ u, r = .tuple #[u, .int .i64 0] ∧ Row M m.length 4 u (tcs (B.P.getD k [])) (B.P.getD k []).length) m) := by
  have hnone := fun T => none_ok (m := m ++ T) (bk := bk) (Rd.old T ⟨_, h.cells, bkc_0⟩)
  have hbl := h.lt
  have rp := fun T => Rd.old T (show Rd m bk 513 pv from ⟨_, h.cells, bkc_P h.lH h.lC⟩)
  obtain ⟨pc, hrow, hps⟩ := h.row
  obtain ⟨ar, r1, r2, r3⟩ := hrow.sl (by omega)
  obtain ⟨u, q1, q2⟩ := hps k hk
  have rk : ∀ T, Rd (m ++ T) ar (0 + k) u := fun T => Rd.old T (by
    obtain ⟨b, w1, w2⟩ := r3 (by omega)
    exact ⟨b, w1, w2 k u q1⟩)
  simp only [Nat.zero_add] at rk
  have hmem : B.P.getD k [] ∈ B.P := by rw [List.getD_eq_getElem?_getD, List.getElem?_eq_getElem hk]; exact List.getElem_mem hk
  obtain ⟨p1, p2, p3⟩ := postB_all (hok _ hmem)
  have hC := Clone_ok q2.trs (by omega) (by omega)
  generalize B.P.getD k [] = l at *
  have e1 : ((k : Nat) : Int) + 1 - 1 = ((k : Nat) : Int) := by omega
  refine ACall.start Try.func40 rfl rfl ?_
  (repeat (first | (with_reducible refine AWo.cons ?_) | ((with_reducible refine Step.id ?_); first | ((with_reducible apply Step.gdT); exact rfl; exact rfl; (focus (rfl))) | ((with_reducible apply Step.move); exact rfl; exact rfl) | ((with_reducible apply Step.assign); exact rfl; exact rfl) | ((with_reducible apply Step.load); exact rfl; (focus (decide +kernel)); exact rfl; (focus (exact rp _))) | ((with_reducible apply Step.field (k := 513)); exact rfl; (focus (decide +kernel)); exact rfl) | ((with_reducible apply Step.sub); exact rfl; exact rfl; (focus (omega)); exact rfl) | ((with_reducible apply Step.lss); exact rfl; exact rfl; exact rfl) | ((with_reducible apply Step.gtr); exact rfl; exact rfl; exact rfl) | ((with_reducible apply Step.len); exact rfl; (focus (assumption)); (focus (decide +kernel)); exact rfl) | ((with_reducible apply Step.nilp); exact rfl; exact rfl) | ((with_reducible apply Step.pickF); exact rfl; exact rfl; exact rfl; exact rfl; (focus (rfl))) | ((with_reducible apply Step.callR fit); exact rfl; exact Try.func83; exact rfl; exact rfl; exact (hnone _))) | (with_reducible refine AWo.nil ?_) | ((with_reducible apply AW.seq)) | ((with_reducible apply Then.n)) | ((with_reducible apply AW.regL)) | ((with_reducible apply AW.block)) | ((with_reducible apply InBlk.n)) | ((with_reducible apply AW.skip)) | ((with_reducible apply AW.condF); exact rfl; (focus (first | rfl | (simp only [decide_eq_true_eq, decide_eq_false_iff_not, Bool.not_eq_true', Bool.not_eq_false', Bool.not_true, Bool.not_false]; first | assumption | omega))))))
  rw [e1]
  (repeat (first | (with_reducible refine AWo.cons ?_) | ((with_reducible refine Step.id ?_); first | ((with_reducible apply Step.load); exact rfl; (focus (decide +kernel)); exact rfl; (focus (exact rk _))) | ((with_reducible apply Step.ix1z); exact rfl; (focus (assumption)); exact rfl; (focus (decide +kernel)); exact rfl; (focus (omega))))))
  ((with_reducible apply Step.callX fit); exact rfl; exact Try.func90; exact rfl; exact rfl; (focus (rw [List.append_nil]; exact hC)))
  rintro w M1 ⟨N1, hN1⟩ hr
  rw [List.append_nil] at hN1
  (repeat (first | (with_reducible refine AWo.cons ?_) | ((with_reducible refine Step.id ?_); ((with_reducible apply Step.assign); exact rfl; exact rfl)) | (with_reducible refine AWo.nil ?_) | ((with_reducible apply Then.n))))
  (refine AW.ret ?_; (repeat (first | refine Then.r ?_ | refine InBlk.r ?_)))
  exact ⟨_, rfl, N1, by rw [List.append_nil]; exact hN1, w, rfl, by rw [List.append_nil]; exact hr⟩
set_option maxHeartbeats 4000000 in
set_option maxRecDepth 100000 in
theorem post_ok {m : AM} {v : Value} {l : List Tr} (h : Trs m v l) (hlen : l.length ≤ 9223372036854775807) : ACall Try.prog 29 #[v] m (More (fun M r => Row M m.length 4 r (tcs (l.take 18)) (l.take 18).length) m) := by
  obtain ⟨a, o, h1, h2, h3⟩ := h
  refine ACall.start Try.func29 rfl rfl ?_
  (repeat (first | (with_reducible refine AWo.cons ?_) | ((with_reducible refine Step.id ?_); first | ((with_reducible apply Step.move); exact rfl; exact rfl) | ((with_reducible apply Step.assign); exact rfl; exact rfl) | ((with_reducible apply Step.len); exact rfl; (focus (assumption)); (focus (decide +kernel)); exact rfl)) | (with_reducible refine AWo.nil ?_) | ((with_reducible apply AW.seq)) | ((with_reducible apply Then.n)) | ((with_reducible apply AW.regL)) | ((with_reducible apply AW.block))))
  refine AW.loopW (fun q t M => ∃ (k : Nat) (r : Value), q = l.length - k ∧ k ≤ l.length ∧ k ≤ 18 ∧ Row M m.length 4 r (tcs (l.take k)) k ∧ (∃ N, M = m ++ N) ∧
    t = fr [(3, r), (6, v), (7, .int .i64 (l.length : Nat)), (8, .int .i64 (k : Nat))]) ⟨_, _, (by repeat (first | exact trivial | (refine And.intro rfl ?_))), 0, _, rfl, Nat.zero_le _, Nat.zero_le _, Row.nil, ⟨_, rfl⟩, rfl⟩ ?_
  rintro q t M ⟨k, r, rfl, hk, hk18, hR, ⟨N, rfl⟩, rfl⟩
  refine AW.rebase ?_
  rcases Nat.lt_or_ge k l.length with hlt | hge
  · have hr := fun T => (h3 k hlt).old T
    have hr := fun T => hr (N ++ T)
    simp only [← List.append_assoc] at hr
    have ts := take_snocT l k hlt
    generalize l.getD k default = x at *
    obtain ⟨xi, xf, xt, xn⟩ := x
    simp only [Tr.c] at hr
    by_cases c1 : 17 < k
    · obtain rfl : k = 18 := by omega
      (repeat (first | (with_reducible refine AWo.cons ?_) | ((with_reducible refine Step.id ?_); first | ((with_reducible apply Step.move); exact rfl; exact rfl) | ((with_reducible apply Step.assign); exact rfl; exact rfl) | ((with_reducible apply Step.loadL (n := 4)); exact rfl; (focus (decide +kernel)); (focus (decide +kernel)); exact rfl; (focus (exact hr _)); exact rfl; exact rfl) | ((with_reducible apply Step.ix (s := 4)); exact rfl; (focus (assumption)); exact rfl; (focus (decide +kernel)); exact rfl; (focus (omega))) | ((with_reducible apply Step.lss); exact rfl; exact rfl; exact rfl) | ((with_reducible apply Step.gtr); exact rfl; exact rfl; exact rfl) | ((with_reducible apply Step.alloc 0); exact rfl; exact ze61; exact rfl; (focus (first | (simp only [List.nil_append, List.cons_append, List.set_cons_zero, List.set_cons_succ, iv_set, bv_set, iv_rep, bv_rep]; done) | (simp only [List.nil_append, List.cons_append, List.set_cons_zero, List.set_cons_succ, iv_set, bv_set, iv_rep, bv_rep]; rfl) | rfl))) | ((with_reducible apply Step.storeA (k := 0) (n := 4)); exact rfl; exact rfl; exact rfl; exact rfl; (focus (decide +kernel)); exact rfl; (focus (kernel_rfl)); exact rfl; (focus (first | (simp only [List.nil_append, List.cons_append, List.set_cons_zero, List.set_cons_succ, iv_set, bv_set, iv_rep, bv_rep]; done) | (simp only [List.nil_append, List.cons_append, List.set_cons_zero, List.set_cons_succ, iv_set, bv_set, iv_rep, bv_rep]; rfl) | rfl)))) | (with_reducible refine AWo.nil ?_) | ((with_reducible apply AW.seq)) | ((with_reducible apply Then.n)) | ((with_reducible apply AW.regL)) | ((with_reducible apply AW.block)) | ((with_reducible apply AW.exit)) | ((with_reducible apply InBlk.hit)) | ((with_reducible apply InBlk.miss); exact rfl) | ((with_reducible apply Then.e)) | ((with_reducible apply AW.skip)) | ((with_reducible apply AW.condT); exact rfl; (focus (first | rfl | (simp only [decide_eq_true_eq, decide_eq_false_iff_not, Bool.not_eq_true', Bool.not_eq_false', Bool.not_true, Bool.not_false]; first | assumption | omega))))))
      (refine AW.ret ?_; (repeat (first | refine Then.r ?_ | refine InBlk.r ?_)))
      refine ⟨_, rfl, N ++ _, by rw [List.append_assoc], ?_⟩
      have e : (l.take 18).length = 18 := by rw [List.length_take]; omega
      rw [e]
      exact hR.old _
    · (repeat (first | (with_reducible refine AWo.cons ?_) | ((with_reducible refine Step.id ?_); first | ((with_reducible apply Step.move); exact rfl; exact rfl) | ((with_reducible apply Step.assign); exact rfl; exact rfl) | ((with_reducible apply Step.load); exact rfl; (focus (decide +kernel)); exact rfl; (focus (exact Rd.new rfl rfl))) | ((with_reducible apply Step.loadL (n := 4)); exact rfl; (focus (decide +kernel)); (focus (decide +kernel)); exact rfl; (focus (exact hr _)); exact rfl; exact rfl) | ((with_reducible apply Step.ix (s := 4)); exact rfl; (focus (assumption)); exact rfl; (focus (decide +kernel)); exact rfl; (focus (omega))) | ((with_reducible apply Step.field0); exact rfl; (focus (decide +kernel)); exact rfl) | ((with_reducible apply Step.field (k := 1)); exact rfl; (focus (decide +kernel)); exact rfl) | ((with_reducible apply Step.field (k := 2)); exact rfl; (focus (decide +kernel)); exact rfl) | ((with_reducible apply Step.field (k := 3)); exact rfl; (focus (decide +kernel)); exact rfl) | ((with_reducible apply Step.lss); exact rfl; exact rfl; exact rfl) | ((with_reducible apply Step.gtr); exact rfl; exact rfl; exact rfl) | ((with_reducible apply Step.alloc 0); exact rfl; exact ze61; exact rfl; (focus (first | (simp only [List.nil_append, List.cons_append, List.set_cons_zero, List.set_cons_succ, iv_set, bv_set, iv_rep, bv_rep]; done) | (simp only [List.nil_append, List.cons_append, List.set_cons_zero, List.set_cons_succ, iv_set, bv_set, iv_rep, bv_rep]; rfl) | rfl))) | ((with_reducible apply Step.storeA (k := 0) (n := 4)); exact rfl; exact rfl; exact rfl; exact rfl; (focus (decide +kernel)); exact rfl; (focus (kernel_rfl)); exact rfl; (focus (first | (simp only [List.nil_append, List.cons_append, List.set_cons_zero, List.set_cons_succ, iv_set, bv_set, iv_rep, bv_rep]; done) | (simp only [List.nil_append, List.cons_append, List.set_cons_zero, List.set_cons_succ, iv_set, bv_set, iv_rep, bv_rep]; rfl) | rfl))) | ((with_reducible apply Step.buildS 1); exact rfl; exact rfl; exact (fun _ _ => bs55); exact rfl; (focus (first | (simp only [List.nil_append, List.cons_append, List.set_cons_zero, List.set_cons_succ, iv_set, bv_set, iv_rep, bv_rep]; done) | (simp only [List.nil_append, List.cons_append, List.set_cons_zero, List.set_cons_succ, iv_set, bv_set, iv_rep, bv_rep]; rfl) | rfl))) | ((with_reducible apply Step.build); exact rfl; exact bl63; exact rfl)) | (with_reducible refine AWo.nil ?_) | ((with_reducible apply AW.seq)) | ((with_reducible apply Then.n)) | ((with_reducible apply AW.regL)) | ((with_reducible apply AW.block)) | ((with_reducible apply AW.skip)) | ((with_reducible apply AW.condT); exact rfl; (focus ((simp only [decide_eq_true_eq, decide_eq_false_iff_not, Bool.not_eq_true', Bool.not_eq_false', Bool.not_true, Bool.not_false]; first | assumption | omega)))) | ((with_reducible apply AW.condF); exact rfl; (focus ((simp only [decide_eq_true_eq, decide_eq_false_iff_not, Bool.not_eq_true', Bool.not_eq_false', Bool.not_true, Bool.not_false]; first | assumption | omega))))))
      ((with_reducible apply Step.appRow2 (n := k) (xl := 1) (b0 := m.length) (new := [.int .i64 xi, .int .i64 xf, .int .i64 xt, .int .i64 xn])); exact rfl; exact rfl; exact (hR.old _); exact (Sl.mk (Nat.le_refl _)); exact (fun _ => RdL.new rfl rfl); exact el55; exact un55; exact rfl; exact rfl; exact rfl; (focus (omega)); exact rfl; (focus (simp only [List.length_append]; omega)))
      intro r' M1 hr1 hml1 hk1 _
      have hM1 := pre_keep (m0 := m) ⟨N ++ _, (List.append_assoc _ _ _)⟩ hml1 fun j hj => hk1 j (by simp only [List.length_append]; omega) (NotOf.row hR hj)
      (repeat (first | (with_reducible refine AWo.cons ?_) | ((with_reducible refine Step.id ?_); first | ((with_reducible apply Step.move); exact rfl; exact rfl) | ((with_reducible apply Step.assign); exact rfl; exact rfl) | ((with_reducible apply Step.add); exact rfl; exact rfl; (focus (omega)); exact rfl)) | (with_reducible refine AWo.nil ?_) | ((with_reducible apply Then.n)) | ((with_reducible apply AW.regL)) | ((with_reducible apply InBlk.n))))
      exact ⟨_, [(3, r'), (6, v), (7, .int .i64 (l.length : Nat)), (8, .int .i64 (k + 1 : Nat))], by omega, (by repeat (first | exact trivial | (refine And.intro rfl ?_))), k + 1, _, rfl, by omega, by omega, by rw [ts, tcs_app]; simpa [tcs, Tr.c] using hr1, hM1, rfl⟩
  · obtain rfl : k = l.length := by omega
    (repeat (first | (with_reducible refine AWo.cons ?_) | ((with_reducible refine Step.id ?_); first | ((with_reducible apply Step.move); exact rfl; exact rfl) | ((with_reducible apply Step.assign); exact rfl; exact rfl) | ((with_reducible apply Step.lss); exact rfl; exact rfl; exact rfl)) | (with_reducible refine AWo.nil ?_) | ((with_reducible apply AW.seq)) | ((with_reducible apply Then.n)) | ((with_reducible apply AW.regL)) | ((with_reducible apply AW.exit)) | ((with_reducible apply InBlk.hit)) | ((with_reducible apply Then.e)) | ((with_reducible apply AW.condF); exact rfl; (focus ((simp only [decide_eq_true_eq, decide_eq_false_iff_not, Bool.not_eq_true', Bool.not_eq_false', Bool.not_true, Bool.not_false]; first | assumption | omega))))))
    (refine AW.ret ?_; (repeat (first | refine Then.r ?_ | refine InBlk.r ?_)))
    refine ⟨_, rfl, N, by rw [List.append_nil], ?_⟩
    rw [List.append_nil, List.take_of_length_le hk18]
    rwa [List.take_length] at hR
end Go.Proofs.Ytabdnepfcohncaa.Abs
namespace Go.Proofs.Ytabdnepfcohncaa.Abs
set_option linter.unusedSimpArgs false
set_option linter.unusedVariables false
open Go.RowKit
open Go.Proofs.Ytabdnepfcohncaa.Sim
open Go.Proofs
section
variable {P : Program}
theorem still_eqI {X : TypeId} (hX : P.underlying X = some (.int .i64)) (n : Nat) (a b : Int) : Sim.still P (Op.equalIn (n + 1) X (.int .i64 a) (.int .i64 b)) = some (a == b) := by
  rw [Op.equalIn]
  show Sim.still P (Sem.bind (underlying X) _) = _
  rw [still_bind, still_und hX]
  rfl
end
theorem forIn4 {α σ : Type} (x y z u : α) (s : σ) (f : α → σ → Sem (ForInStep σ)) : (forIn #[x, y, z, u] s f : Sem σ) = (do match ← f x s with | .done b => pure b | .yield b => match ← f y b with | .done b => pure b | .yield b => match ← f z b with | .done b => pure b | .yield b => match ← f u b with | .done b => pure b | .yield b => pure b) := by
  simp [List.forIn_cons, List.forIn_nil]
  exact congrArg (fun g => f x s >>= g) (funext fun u' => by
    cases u' with
    | done b => rfl
    | yield b => exact congrArg (fun g => f y b >>= g) (funext fun v => by
        cases v with
        | done b => rfl
        | yield b => exact congrArg (fun g => f z b >>= g) (funext fun w => by
            cases w with
            | done b => rfl
            | yield b => exact congrArg (fun g => f u b >>= g) (funext fun w => by cases w <;> rfl))))
def trFT : Array Field := #[⟨"Item", 3, 0, false, "", "", 0⟩, ⟨"From", 3, 1, false, "", "", 8⟩, ⟨"To", 3, 2, false, "", "", 16⟩, ⟨"N", 3, 3, false, "", "", 24⟩]
theorem un63s : Try.prog.underlying 63 = some (.struct trFT) := by kernel_rfl
theorem part_tr {c : Array Value} {x : Int} {k : Nat} (hk : c[k]? = some (.int .i64 x)) : Sim.still Try.prog (part 3 c k) = some (.int .i64 x) := by
  unfold part
  have ha : Sim.still Try.prog (isAgg 3) = some false := by kernel_rfl
  show Sim.still Try.prog (Sem.bind (isAgg 3) _) = _
  rw [still_bind, ha]
  simp only [hk]
  rfl
set_option maxRecDepth 100000 in
theorem still_eqT (n : Nat) (a b c d : Int) : Sim.still Try.prog (Op.equalIn (n + 1 + 1) 63 (.agg #[.int .i64 a, .int .i64 b, .int .i64 c, .int .i64 d]) (.agg #[.int .i64 a, .int .i64 b, .int .i64 c, .int .i64 d])) = some true := by
  have hs : Try.prog.stoodInHeld 63 = false := by kernel_rfl
  have h3 := fun (x y : Int) => still_eqI (P := Try.prog) un3 n x y
  have p0 := part_tr (c := #[.int .i64 a, .int .i64 b, .int .i64 c, .int .i64 d]) (k := 0) rfl
  have p1 := part_tr (c := #[.int .i64 a, .int .i64 b, .int .i64 c, .int .i64 d]) (k := 1) rfl
  have p2 := part_tr (c := #[.int .i64 a, .int .i64 b, .int .i64 c, .int .i64 d]) (k := 2) rfl
  have p3 := part_tr (c := #[.int .i64 a, .int .i64 b, .int .i64 c, .int .i64 d]) (k := 3) rfl
  rw [Op.equalIn]
  show Sim.still Try.prog (Sem.bind (underlying 63) _) = _
  rw [still_bind, still_und un63s]
  show Sim.still Try.prog (Sem.bind program _) = _
  have hp : Sim.still Try.prog program = some Try.prog := rfl
  rw [still_bind, hp]
  simp only [hs]
  unfold trFT
  simp only [forIn4]
  simp [bind, still_bind, p0, p1, p2, p3, h3, pure, Sim.still]
section
variable {nt : Nat} {ops : Array Oper} {t : Fm} {m : AM} {K : Fm → AM → Prop} {d T : Nat} {p : String} {af : Array Edge}
set_option maxRecDepth 100000 in
theorem Step.neqT {x y : Operand} {Y : TypeId} {a b c e : Int} (hx : evo t x = some (.agg #[.int .i64 a, .int .i64 b, .int .i64 c, .int .i64 e])) (hy : evo t y = some (.agg #[.int .i64 a, .int .i64 b, .int .i64 c, .int .i64 e])) (hlt : Nat.blt d nt = true) (hK : K (put t d (.bool false)) m) : Step Try.prog nt ops ⟨some d, .binOp .neq 63 x y Y, T, p, af, none⟩ t m K := by
  refine .ground rfl rfl hlt (by simp [Op.operands, hx, hy, g1, g0]) (fun h => by simp only [aquiet, evD_of hx, evD_of hy, aint, anil, un63s]; simpa [evD_of hx, evD_of hy] using h) ?_ (by simp [g1, g0]) hK
  have he : Sim.still Try.prog (Op.equal 63 (.agg #[.int .i64 a, .int .i64 b, .int .i64 c, .int .i64 e]) (.agg #[.int .i64 a, .int .i64 b, .int .i64 c, .int .i64 e])) = some true := still_eqT 9998 a b c e
  have hgt : Try.prog.eqGuardType Try.prog.depth 63 = false := by kernel_rfl
  have hp : Sim.still Try.prog program = some Try.prog := rfl
  simp only [execOp, eqGuard, binOp, evD_of hx, evD_of hy, bind, Sem.bind, pure]
  simp [still_bind, hp, hgt, he, Sim.still]
end
section
variable {nt : Nat} {ops : Array Oper} {t : Fm} {m : AM} {K : Fm → AM → Prop} {d T : Nat} {p : String} {af : Array Edge}
end
set_option maxHeartbeats 4000000 in
set_option maxRecDepth 100000 in
theorem EqualT_ok {m : AM} {v w : Value} {l : List Tr} (hv : Trs m v l) (hw : Trs m w l) (hlen : l.length ≤ 1000000) : ACall Try.prog 46 #[v, w] m (Ret (.bool true) m) := by
  obtain ⟨a1, o1, s1, s2, s3⟩ := hv
  obtain ⟨a2, o2, z1, z2, z3⟩ := hw
  refine ACall.start Try.func46 rfl rfl ?_
  (repeat (first | (with_reducible refine AWo.cons ?_) | ((with_reducible refine Step.id ?_); first | ((with_reducible apply Step.move); exact rfl; exact rfl) | ((with_reducible apply Step.assign); exact rfl; exact rfl) | ((with_reducible apply Step.neq); exact rfl; exact rfl; exact rfl) | ((with_reducible apply Step.len); exact rfl; (focus (assumption)); (focus (decide +kernel)); exact rfl)) | (with_reducible refine AWo.nil ?_) | ((with_reducible apply AW.seq)) | ((with_reducible apply Then.n)) | ((with_reducible apply AW.regL)) | ((with_reducible apply AW.block)) | ((with_reducible apply AW.skip)) | ((with_reducible apply AW.condF); exact rfl; (focus ((simp; done))))))
  refine AW.loopT (fun q t L => ∃ k : Nat, q = l.length - k ∧ k ≤ l.length ∧ L = [] ∧
    t = [(0, v), (1, w), (11, v), (12, .int .i64 (l.length : Nat)), (13, .int .i64 (k : Nat))]) ⟨_, _, _, (Or.inl ⟨rfl, (by repeat (first | exact trivial | (refine And.intro rfl ?_)))⟩), 0, rfl, Nat.zero_le _, rfl, rfl⟩ ?_
  rintro q t L ⟨k, rfl, hk, rfl, rfl⟩
  rcases Nat.lt_or_ge k l.length with hlt | hge
  · have hr1 := s3 k hlt
    have hr2 := z3 k hlt
    generalize l.getD k default = x at *
    obtain ⟨xi, xf, xt, xn⟩ := x
    simp only [Tr.c] at hr1 hr2
    (repeat (first | (with_reducible refine AWo.cons ?_) | ((with_reducible refine Step.id ?_); first | ((with_reducible apply Step.move); exact rfl; exact rfl) | ((with_reducible apply Step.assign); exact rfl; exact rfl) | ((with_reducible apply Step.loadL (n := 4)); exact rfl; (focus (decide +kernel)); (focus (decide +kernel)); exact rfl; (focus (exact RdL.old _ (by assumption))); exact rfl; exact rfl) | ((with_reducible apply Step.ix (s := 4)); exact rfl; (focus (assumption)); exact rfl; (focus (decide +kernel)); exact rfl; (focus (omega))) | ((with_reducible apply Step.lss); exact rfl; exact rfl; exact rfl)) | (with_reducible refine AWo.nil ?_) | ((with_reducible apply AW.seq)) | ((with_reducible apply Then.n)) | ((with_reducible apply AW.regL)) | ((with_reducible apply AW.block)) | ((with_reducible apply AW.drawL fit); (focus (decide +kernel))) | ((with_reducible apply AW.skip)) | ((with_reducible apply AW.condT); exact rfl; (focus ((simp only [decide_eq_true_eq, decide_eq_false_iff_not, Bool.not_eq_true', Bool.not_eq_false', Bool.not_true, Bool.not_false]; first | assumption | omega))))))
    ((with_reducible apply Step.neqT); exact rfl; exact rfl; exact rfl)
    (repeat (first | (with_reducible refine AWo.cons ?_) | ((with_reducible refine Step.id ?_); first | ((with_reducible apply Step.move); exact rfl; exact rfl) | ((with_reducible apply Step.add); exact rfl; exact rfl; (focus (omega)); exact rfl)) | (with_reducible refine AWo.nil ?_) | ((with_reducible apply Then.n)) | ((with_reducible apply AW.regL)) | ((with_reducible apply InBlk.n)) | ((with_reducible apply AW.skip)) | ((with_reducible apply AW.condF); exact rfl; (focus (rfl)))))
    exact ⟨_, _, _, by omega, (Or.inl ⟨rfl, (by repeat (first | exact trivial | (refine And.intro rfl ?_)))⟩), k + 1, rfl, by omega, rfl, rfl⟩
  · obtain rfl : k = l.length := by omega
    (repeat (first | (with_reducible refine AWo.cons ?_) | ((with_reducible refine Step.id ?_); first | ((with_reducible apply Step.assign); exact rfl; exact rfl) | ((with_reducible apply Step.lss); exact rfl; exact rfl; exact rfl)) | (with_reducible refine AWo.nil ?_) | ((with_reducible apply AW.seq)) | ((with_reducible apply Then.n)) | ((with_reducible apply AW.regL)) | ((with_reducible apply AW.exit)) | ((with_reducible apply InBlk.hit)) | ((with_reducible apply Then.e)) | ((with_reducible apply AW.condF); exact rfl; (focus ((simp only [decide_eq_true_eq, decide_eq_false_iff_not, Bool.not_eq_true', Bool.not_eq_false', Bool.not_true, Bool.not_false]; first | assumption | omega))))))
    (refine AW.retD (l := [(4, _)]) (by repeat (first | exact trivial | (refine And.intro ⟨rfl, by (exact .bool _)⟩ ?_))) ?_; (repeat (first | refine Then.r ?_ | refine InBlk.r ?_)))
    exact ⟨_, rfl, rfl, rfl⟩
end Go.Proofs.Ytabdnepfcohncaa.Abs
namespace Go.Proofs.Ytabdnepfcohncaa.Abs
set_option linter.unusedSimpArgs false
set_option linter.unusedVariables false
open Go.RowKit
open Go.Proofs.Ytabdnepfcohncaa.Sim
open Go.Proofs
theorem by8_all (l : List UInt8) : (by8 l).all (·.oneCell') = true := by
  rw [List.all_eq_true]
  intro v hv
  obtain ⟨x, _, rfl⟩ := List.mem_map.1 hv
  rfl
theorem AW.joinQ {P : Program} {nt : Nat} {m m0 : AM} {t : Fm} {c : Code} {Q : AEx → Fm → AM → Prop} (Mid : Fm → AM → Prop) (h : AW P nt m0 c t m (fun e t' m' => e = .normal ∧ Mid t' m')) (h2 : ∀ t' m', Mid t' m' → Q .normal t' m') : AW P nt m0 c t m Q :=
  h.mono fun e t' m' ⟨e1, e2⟩ => by subst e1; exact h2 _ _ e2
set_option maxHeartbeats 4000000 in
set_option maxRecDepth 100000 in
theorem number_ok {m : AM} {n s : Nat} (hn : n ≤ 9223372036854775807) (hs : s ≤ 8) :
    ACall Try.prog 104 #[.int .i64 (n : Nat), .int .i64 (s : Nat)] m (More (fun M r => Row M m.length 1 r (by8 (be n s)) (be n s).length) m) := by
  refine ACall.start Try.func104 rfl rfl ?_
  (repeat (first | (with_reducible refine AWo.cons ?_) | ((with_reducible refine Step.id ?_); first | ((with_reducible apply Step.move); exact rfl; exact rfl) | ((with_reducible apply Step.assign); exact rfl; exact rfl) | ((with_reducible apply Step.sub); exact rfl; exact rfl; (focus (omega)); exact rfl)) | (with_reducible refine AWo.nil ?_) | ((with_reducible apply AW.seq)) | ((with_reducible apply Then.n)) | ((with_reducible apply AW.regL)) | ((with_reducible apply AW.block))))
  refine AW.loopW (fun q t M => ∃ (k : Nat) (z : Int) (pre : List UInt8) (r : Value), q = k ∧ k ≤ s ∧ z = (k : Int) - 1 ∧ pre ++ be n k = be n s ∧ pre.length + k = s ∧ Row M m.length 1 r (by8 pre) pre.length ∧ (∃ N, M = m ++ N) ∧
    t = fr [(0, .int .i64 (n : Nat)), (5, r), (6, .int .i64 z)]) ⟨_, _, (by repeat (first | exact trivial | (refine And.intro rfl ?_))), s, _, [], _, rfl, Nat.le_refl _, rfl, rfl, by simp, Row.nil, ⟨_, rfl⟩, rfl⟩ ?_
  rintro q t M ⟨k, z, pre, r, rfl, hk, hz, hpre, hpl, hrow, ⟨N, rfl⟩, rfl⟩
  rcases q with _ | k
  · subst hz
    refine AW.rebase ?_
    (repeat (first | (with_reducible refine AWo.cons ?_) | ((with_reducible refine Step.id ?_); first | ((with_reducible apply Step.move); exact rfl; exact rfl) | ((with_reducible apply Step.assign); exact rfl; exact rfl) | ((with_reducible apply Step.geq); exact rfl; exact rfl; exact rfl)) | (with_reducible refine AWo.nil ?_) | ((with_reducible apply AW.seq)) | ((with_reducible apply Then.n)) | ((with_reducible apply AW.regL)) | ((with_reducible apply AW.exit)) | ((with_reducible apply InBlk.hit)) | ((with_reducible apply Then.e)) | ((with_reducible apply AW.condF); exact rfl; (focus (rfl)))))
    (refine AW.ret ?_; (repeat (first | refine Then.r ?_ | refine InBlk.r ?_)))
    rw [show be n 0 = [] from rfl, List.append_nil] at hpre
    subst hpre
    exact ⟨_, rfl, N, by rw [List.append_nil], by rw [List.append_nil]; exact hrow⟩
  · obtain rfl : z = (k : Int) := by omega
    have h8 : (8 : Int) * (k : Int) = ((8 * k : Nat) : Int) := by omega
    refine AW.rebase ?_
    (repeat (first | (with_reducible refine AWo.cons ?_) | ((with_reducible refine Step.id ?_); first | ((with_reducible apply Step.move); exact rfl; exact rfl) | ((with_reducible apply Step.mulE); exact rfl; exact rfl; (focus (assumption)); (focus (omega)); exact rfl) | ((with_reducible apply Step.shrN); exact rfl; exact rfl; (focus (omega)); exact rfl) | ((with_reducible apply Step.geq); exact rfl; exact rfl; exact rfl)) | (with_reducible refine AWo.nil ?_) | ((with_reducible apply AW.seq)) | ((with_reducible apply Then.n)) | ((with_reducible apply AW.regL)) | ((with_reducible apply AW.block)) | ((with_reducible apply AW.skip)) | ((with_reducible apply AW.condT); exact rfl; (focus (rfl)))))
    ((with_reducible apply Step.toB); exact rfl; exact un3; exact un5; exact rfl)
    (repeat (first | (with_reducible refine AWo.cons ?_) | ((with_reducible refine Step.id ?_); ((with_reducible apply Step.buildS 0); exact rfl; exact rfl; exact (fun _ _ => bs22); exact rfl; (focus (first | (simp only [List.nil_append, List.cons_append, List.set_cons_zero, List.set_cons_succ, iv_set, bv_set, iv_rep, bv_rep]; done) | (simp only [List.nil_append, List.cons_append, List.set_cons_zero, List.set_cons_succ, iv_set, bv_set, iv_rep, bv_rep]; rfl) | rfl))))))
    ((with_reducible apply Step.appRow2 (n := pre.length) (xl := 1) (b0 := m.length) (new := [.int .u8 ((UInt8.ofNat (n / 2 ^ (8 * k))).toNat : Nat)])); exact rfl; exact rfl; exact (hrow.old _); exact (Sl.mk (Nat.le_refl _)); exact (fun _ => RdL.new rfl rfl); exact el22; exact un22; exact rfl; exact rfl; exact rfl; (focus (omega)); exact rfl; (focus (simp only [List.length_append]; omega)))
    intro r' M' hr' hml' hk' _
    have hM' := pre_keep (m0 := m) ⟨N ++ _, (List.append_assoc _ _ _)⟩ hml' fun j hj => hk' j (by simp only [List.length_append]; omega) (NotOf.row hrow hj)
    have hr2 : Row M' m.length 1 r' (by8 (pre ++ [UInt8.ofNat (n / 2 ^ (8 * k))])) (pre ++ [UInt8.ofNat (n / 2 ^ (8 * k))]).length := by
      have e1 : by8 (pre ++ [UInt8.ofNat (n / 2 ^ (8 * k))]) = by8 pre ++ [.int .u8 ((UInt8.ofNat (n / 2 ^ (8 * k))).toNat : Nat)] := by simp [by8]
      have e2 : (pre ++ [UInt8.ofNat (n / 2 ^ (8 * k))]).length = pre.length + 1 := by simp
      rw [e1, e2]
      exact hr'
    (repeat (first | (with_reducible refine AWo.cons ?_) | ((with_reducible refine Step.id ?_); first | ((with_reducible apply Step.move); exact rfl; exact rfl) | ((with_reducible apply Step.assign); exact rfl; exact rfl) | ((with_reducible apply Step.sub); exact rfl; exact rfl; (focus (omega)); exact rfl)) | (with_reducible refine AWo.nil ?_) | ((with_reducible apply Then.n)) | ((with_reducible apply AW.regL)) | ((with_reducible apply InBlk.n))))
    exact ⟨_, [(0, .int .i64 (n : Nat)), (5, r'), (6, .int .i64 ((k : Int) - 1))], by omega, (by repeat (first | exact trivial | (refine And.intro rfl ?_))), k, _, _, _, rfl, by omega, rfl, by rw [List.append_assoc]; exact hpre, by rw [List.length_append]; simp; omega, hr2, hM', rfl⟩
set_option maxHeartbeats 8000000 in
set_option maxRecDepth 100000 in
theorem RSave_ok {m : AM} {b0 xk : Nat} {P : List (List Tr)} {pv : Value} (h : RBook m b0 xk P pv) (hok : ∀ l ∈ P, postB l = true) (hpl : P.length ≤ 1000000) :
    ACall Try.prog 45 #[.pointer (some ⟨xk, 0, none⟩)] m (More (fun M r => Byts M r (saveB P)) m) := by
  have hxl := h.lt
  have rp := fun T => Rd.old T (show Rd m xk 0 pv from ⟨_, h.cells, rfl⟩)
  obtain ⟨pc, hrow, hps⟩ := h.posts
  obtain ⟨ar, r1, r2, r3⟩ := hrow.sl (by omega)
  refine ACall.start Try.func45 rfl rfl ?_
  (repeat (first | (with_reducible refine AWo.cons ?_) | ((with_reducible refine Step.id ?_); first | ((with_reducible apply Step.move); exact rfl; exact rfl) | ((with_reducible apply Step.assign); exact rfl; exact rfl) | ((with_reducible apply Step.load); exact rfl; (focus (decide +kernel)); exact rfl; (focus (exact rp _))) | ((with_reducible apply Step.field0); exact rfl; (focus (decide +kernel)); exact rfl) | ((with_reducible apply Step.len); exact rfl; (focus (assumption)); (focus (decide +kernel)); exact rfl) | ((with_reducible apply Step.nilp); exact rfl; exact rfl)) | (with_reducible refine AWo.nil ?_) | ((with_reducible apply AW.seq)) | ((with_reducible apply Then.n)) | ((with_reducible apply AW.regL)) | ((with_reducible apply AW.block))))
  refine AW.loopW (fun q t M => ∃ (k : Nat) (r : Value), q = P.length - k ∧ k ≤ P.length ∧ Row M m.length 1 r (by8 (saveB (P.take k))) (saveB (P.take k)).length ∧ (∃ N, M = m ++ N) ∧
    t = fr [(3, r), (11, pv), (12, .int .i64 (P.length : Nat)), (13, .int .i64 (k : Nat))]) ⟨_, _, (by repeat (first | exact trivial | (refine And.intro rfl ?_))), 0, _, rfl, Nat.zero_le _, Row.nil, ⟨_, rfl⟩, rfl⟩ ?_
  rintro q t M ⟨k, r, rfl, hk, hR, ⟨N, rfl⟩, rfl⟩
  rcases Nat.lt_or_ge k P.length with hlt | hge
  · obtain ⟨u, q1, q2⟩ := hps k hlt
    have rk : ∀ T, Rd (m ++ T) ar (0 + k) u := fun T => Rd.old T (by
      obtain ⟨b, w1, w2⟩ := r3 (by omega)
      exact ⟨b, w1, w2 k u q1⟩)
    simp only [Nat.zero_add] at rk
    have hmem : P.getD k [] ∈ P := by rw [List.getD_eq_getElem?_getD, List.getElem?_eq_getElem hlt]; exact List.getElem_mem hlt
    obtain ⟨p1, p2, p3⟩ := postB_all (hok _ hmem)
    have hsl := saveB_len (P := P.take k) fun q hq => hok q (List.mem_of_mem_take hq)
    rw [List.length_take, Nat.min_eq_left hk] at hsl
    have hsn : saveB (P.take (k + 1)) = saveB (P.take k) ++ postBy (P.getD k []) := by
      rw [List.take_succ_eq_append_getElem hlt, saveB_snoc]; simp [hlt]
    have q3 := fun T => (q2.trs).old T
    generalize P.getD k [] = l at *
    generalize saveB (P.take k) = S at *
    obtain ⟨a3, o3, s1, s2, s3⟩ := q2.trs
    have s3' := fun T j (hj : j < l.length) => (s3 j hj).old T
    have rk1 := fun T => rk (N ++ T)
    simp only [← List.append_assoc] at rk1
    refine AW.rebase ?_
    (repeat (first | (with_reducible refine AWo.cons ?_) | ((with_reducible refine Step.id ?_); first | ((with_reducible apply Step.move); exact rfl; exact rfl) | ((with_reducible apply Step.assign); exact rfl; exact rfl) | ((with_reducible apply Step.load); exact rfl; (focus (decide +kernel)); exact rfl; (focus (exact rk1 _))) | ((with_reducible apply Step.ix1z); exact rfl; (focus (assumption)); exact rfl; (focus (decide +kernel)); exact rfl; (focus (omega))) | ((with_reducible apply Step.lss); exact rfl; exact rfl; exact rfl) | ((with_reducible apply Step.len); exact rfl; (focus (assumption)); (focus (decide +kernel)); exact rfl)) | (with_reducible refine AWo.nil ?_) | ((with_reducible apply AW.seq)) | ((with_reducible apply Then.n)) | ((with_reducible apply AW.regL)) | ((with_reducible apply AW.block)) | ((with_reducible apply AW.skip)) | ((with_reducible apply AW.condT); exact rfl; (focus ((simp only [decide_eq_true_eq, decide_eq_false_iff_not, Bool.not_eq_true', Bool.not_eq_false', Bool.not_true, Bool.not_false]; first | assumption | omega))))))
    ((with_reducible apply Step.toB); exact rfl; exact un3; exact un5; exact rfl)
    (repeat (first | (with_reducible refine AWo.cons ?_) | ((with_reducible refine Step.id ?_); ((with_reducible apply Step.buildS 0); exact rfl; exact rfl; exact (fun _ _ => bs22); exact rfl; (focus (first | (simp only [List.nil_append, List.cons_append, List.set_cons_zero, List.set_cons_succ, iv_set, bv_set, iv_rep, bv_rep]; done) | (simp only [List.nil_append, List.cons_append, List.set_cons_zero, List.set_cons_succ, iv_set, bv_set, iv_rep, bv_rep]; rfl) | rfl))))))
    ((with_reducible apply Step.appRow2 (n := S.length) (xl := 1) (b0 := m.length) (new := by8 [UInt8.ofNat l.length])); exact rfl; exact rfl; exact (hR.old _); exact (Sl.mk (Nat.le_refl _)); exact (fun _ => RdL.new rfl rfl); exact el22; exact un22; exact rfl; exact rfl; exact rfl; (focus (omega)); exact rfl; (focus (simp only [List.length_append]; omega)))
    intro r1' M1 hr1 hml1 hk1 _
    have hM1 := pre_keep (m0 := m) ⟨N ++ _, (List.append_assoc _ _ _)⟩ hml1 fun j hj => hk1 j (by simp only [List.length_append]; omega) (NotOf.row hR hj)
    have hr1 := Row.app8 (b := [UInt8.ofNat l.length]) hr1
    clear hk1
    (repeat (first | (with_reducible refine AWo.cons ?_) | ((with_reducible refine Step.id ?_); first | ((with_reducible apply Step.move); exact rfl; exact rfl) | ((with_reducible apply Step.assign); exact rfl; exact rfl) | ((with_reducible apply Step.len); exact rfl; (focus (assumption)); (focus (decide +kernel)); exact rfl)) | (with_reducible refine AWo.nil ?_) | ((with_reducible apply AW.seq)) | ((with_reducible apply Then.n)) | ((with_reducible apply AW.regL)) | ((with_reducible apply AW.block))))
    refine AW.loopW (fun q t M => ∃ (j : Nat) (r : Value), q = l.length - j ∧ j ≤ l.length ∧ Row M m.length 1 r (by8 (S ++ UInt8.ofNat l.length :: (l.take j).flatMap trB)) (S ++ UInt8.ofNat l.length :: (l.take j).flatMap trB).length ∧ (∃ N, M = m ++ N) ∧
      t = fr [(3, r), (11, pv), (12, .int .i64 (P.length : Nat)), (13, .int .i64 (k : Nat)), (23, u), (24, .int .i64 (l.length : Nat)), (25, .int .i64 (j : Nat))]) ⟨_, _, (by repeat (first | exact trivial | (refine And.intro rfl ?_))), 0, _, rfl, Nat.zero_le _, hr1, hM1, rfl⟩ ?_
    clear hM1 hr1 hml1
    rintro q t M2 ⟨j, r', rfl, hj, hR2, ⟨N2, rfl⟩, rfl⟩
    rcases Nat.lt_or_ge j l.length with hlt' | hge'
    · have hr := fun T => s3' (N2 ++ T) j hlt'
      simp only [← List.append_assoc] at hr
      have ts := take_snocT l j hlt'
      have hmem' : l.getD j default ∈ l := by rw [List.getD_eq_getElem?_getD, List.getElem?_eq_getElem hlt']; exact List.getElem_mem hlt'
      have hx := List.all_eq_true.1 p3 _ hmem'
      have hlen2 : (S ++ UInt8.ofNat l.length :: (l.take j).flatMap trB).length ≤ 500000000 := by
        rw [List.length_append, List.length_cons, trBs_len, List.length_take]; omega
      have hnx : S ++ UInt8.ofNat l.length :: (l.take (j + 1)).flatMap trB = (S ++ UInt8.ofNat l.length :: (l.take j).flatMap trB) ++ trB (l.getD j default) := by
        rw [ts, List.flatMap_append]; simp
      generalize l.getD j default = x at *
      generalize S ++ UInt8.ofNat l.length :: (l.take j).flatMap trB = S2 at *
      obtain ⟨xi, xf, xt, xn⟩ := x
      simp only [Tr.c] at hr
      simp only [okT, decide_eq_true_eq] at hx
      obtain ⟨x1, x2, x3, x4, x5, x6, x7, x8, x9⟩ := hx
      obtain ⟨i, rfl⟩ := Int.eq_ofNat_of_zero_le x1
      obtain ⟨f, rfl⟩ := Int.eq_ofNat_of_zero_le x3
      obtain ⟨t, rfl⟩ := Int.eq_ofNat_of_zero_le x5
      obtain ⟨n, rfl⟩ := Int.eq_ofNat_of_zero_le (show 0 ≤ xn by omega)
      have w1 : ((i : Nat) : Int) * 16 = ((i * 16 : Nat) : Int) := by omega
      have w2 : ((i * 16 : Nat) : Int) + ((f : Nat) : Int) = ((i * 16 + f : Nat) : Int) := by omega
      have etr : trB ⟨i, f, t, n⟩ = [UInt8.ofNat (i * 16 + f), UInt8.ofNat t] ++ be n 4 := by simp [trB]
      rw [etr, ← List.append_assoc] at hnx
      have hnum := fun M => number_ok (m := M) (n := n) (s := 4) (by omega) (by omega)
      have hne : Row (m ++ N2) m.length 1 r' (by8 S2) S2.length := hR2
      refine AW.rebase ?_
      (repeat (first | (with_reducible refine AWo.cons ?_) | ((with_reducible refine Step.id ?_); first | ((with_reducible apply Step.loadL (n := 4)); exact rfl; (focus (decide +kernel)); (focus (decide +kernel)); exact rfl; (focus (exact hr _)); exact rfl; exact rfl) | ((with_reducible apply Step.ix (s := 4)); exact rfl; (focus (assumption)); exact rfl; (focus (decide +kernel)); exact rfl; (focus (omega))) | ((with_reducible apply Step.lss); exact rfl; exact rfl; exact rfl) | ((with_reducible apply Step.alloc 0); exact rfl; exact ze61; exact rfl; (focus (first | (simp only [List.nil_append, List.cons_append, List.set_cons_zero, List.set_cons_succ, iv_set, bv_set, iv_rep, bv_rep]; done) | (simp only [List.nil_append, List.cons_append, List.set_cons_zero, List.set_cons_succ, iv_set, bv_set, iv_rep, bv_rep]; rfl) | rfl))) | ((with_reducible apply Step.storeA (k := 0) (n := 4)); exact rfl; exact rfl; exact rfl; exact rfl; (focus (decide +kernel)); exact rfl; (focus (kernel_rfl)); exact rfl; (focus (first | (simp only [List.nil_append, List.cons_append, List.set_cons_zero, List.set_cons_succ, iv_set, bv_set, iv_rep, bv_rep]; done) | (simp only [List.nil_append, List.cons_append, List.set_cons_zero, List.set_cons_succ, iv_set, bv_set, iv_rep, bv_rep]; rfl) | rfl)))) | (with_reducible refine AWo.nil ?_) | ((with_reducible apply AW.seq)) | ((with_reducible apply Then.n)) | ((fail_if_success (with_reducible refine AW.atL (id := 9) ?_)); ((with_reducible apply AW.regL))) | ((with_reducible apply AW.block)) | ((with_reducible apply AW.skip)) | ((with_reducible apply AW.condT); exact rfl; (focus ((simp only [decide_eq_true_eq, decide_eq_false_iff_not, Bool.not_eq_true', Bool.not_eq_false', Bool.not_true, Bool.not_false]; first | assumption | omega))))))
      refine AW.joinQ (fun t' M' => ∃ r4, Row M' m.length 1 r4 (by8 ((S2 ++ [UInt8.ofNat (i * 16 + f), UInt8.ofNat t]) ++ be n 4)) ((S2 ++ [UInt8.ofNat (i * 16 + f), UInt8.ofNat t]) ++ be n 4).length ∧ (∃ N, M' = m ++ N) ∧
        All (fun i v => t' i = some v) [(3, r4), (11, pv), (12, .int .i64 (P.length : Nat)), (13, .int .i64 (k : Nat)), (23, u), (24, .int .i64 (l.length : Nat)), (25, .int .i64 (j : Nat))]) ?_ ?_
      · (repeat' (first | ((with_reducible refine Step.id ?_); first | ((with_reducible apply Step.move); exact rfl; exact rfl) | ((with_reducible apply Step.load); exact rfl; (focus (decide +kernel)); exact rfl; (focus (exact Rd.new rfl rfl))) | ((with_reducible apply Step.field0); exact rfl; (focus (decide +kernel)); exact rfl) | ((with_reducible apply Step.field (k := 1)); exact rfl; (focus (decide +kernel)); exact rfl) | ((with_reducible apply Step.addE); exact rfl; exact rfl; (focus (assumption)); (focus (omega)); exact rfl) | ((with_reducible apply Step.mulE); exact rfl; exact rfl; (focus (assumption)); (focus (omega)); exact rfl)) | ((with_reducible apply AW.drawT fit (T := (.step 0 (.step 1 (.step 2 (.step 3 (.step 4 (.step 5 (.step 6 (.step 7 (.step 8 (.step 9 (.step 10 (.step 13 (.both (.step 11 (.both (.step 12 (.step 14 (.step 15 (.step 16 (.step 17 .done))))) (.step 14 (.step 12 (.step 15 (.step 16 (.step 17 .done))))))) (.step 14 (.step 11 (.step 12 (.step 15 (.step 16 (.step 17 .done))))))))))))))))))))); (focus (decide +kernel))) | ((with_reducible apply AWt.step); exact rfl)))
        all_goals ((with_reducible apply Step.toB); exact rfl; exact un3; exact un5; exact rfl)
        all_goals (repeat' (first | ((with_reducible refine Step.id ?_); first | ((with_reducible apply Step.load); exact rfl; (focus (decide +kernel)); exact rfl; (focus (exact Rd.new rfl rfl))) | ((with_reducible apply Step.field (k := 2)); exact rfl; (focus (decide +kernel)); exact rfl)) | ((with_reducible apply AWt.step); exact rfl)))
        all_goals ((with_reducible apply Step.toB); exact rfl; exact un3; exact un5; exact rfl)
        all_goals (repeat' (first | ((with_reducible refine Step.id ?_); first | ((with_reducible apply Step.load); exact rfl; (focus (decide +kernel)); exact rfl; (focus (exact Rd.new rfl rfl))) | ((with_reducible apply Step.field (k := 3)); exact rfl; (focus (decide +kernel)); exact rfl) | ((with_reducible apply Step.buildS 1); exact rfl; exact rfl; exact (fun _ _ => bs22b); exact rfl; (focus (first | (simp only [List.nil_append, List.cons_append, List.set_cons_zero, List.set_cons_succ, iv_set, bv_set, iv_rep, bv_rep]; done) | (simp only [List.nil_append, List.cons_append, List.set_cons_zero, List.set_cons_succ, iv_set, bv_set, iv_rep, bv_rep]; rfl) | rfl)))) | ((with_reducible apply AWt.step); exact rfl) | refine AWt.both ?_ ?_))
        all_goals ((with_reducible apply Step.appRow2 (n := S2.length) (xl := 2) (b0 := m.length) (new := by8 [UInt8.ofNat (i * 16 + f), UInt8.ofNat t])); exact rfl; exact rfl; exact (hR2.old _); exact (Sl.mk (Nat.le_refl _)); exact (fun _ => RdL.new rfl rfl); exact el22; exact un22; exact rfl; exact rfl; exact rfl; (focus (omega)); exact rfl; (focus (simp only [List.length_append]; omega)))
        all_goals intro r3' M3 hr3 hml3 hk3 _
        all_goals have hM3 := pre_keep (m0 := m) ⟨N2 ++ _, (List.append_assoc _ _ _)⟩ hml3 fun j hj => hk3 j (by simp only [List.length_append]; omega) (NotOf.row hR2 hj)
        all_goals have hr3 := Row.app8 (b := [UInt8.ofNat (i * 16 + f), UInt8.ofNat t]) hr3
        all_goals have rn : ∀ T, Rd (M3 ++ T) ((m ++ N2).length + 0) 3 (.int .i64 (n : Nat)) := fun T => Rd.old T ⟨{ cells := [.int .i64 i, .int .i64 f, .int .i64 t, .int .i64 n] }, by rw [hk3 _ (by simp only [List.length_append]; simp) (hR2.far (by omega)), get_app]; rfl, rfl⟩
        all_goals clear hk3
        all_goals obtain ⟨N3, hN3⟩ := hM3
        all_goals have hlen3 : (S2 ++ [UInt8.ofNat (i * 16 + f), UInt8.ofNat t]).length ≤ 600000000 := by rw [List.length_append]; simp; omega
        all_goals generalize hS3 : S2 ++ [UInt8.ofNat (i * 16 + f), UInt8.ofNat t] = S3 at *
        all_goals rw [← List.append_nil M3]
        all_goals (repeat' (first | ((with_reducible refine Step.id ?_); ((with_reducible apply Step.load); exact rfl; (focus (decide +kernel)); exact rfl; (focus (exact rn _)))) | ((with_reducible apply AWt.step); exact rfl)))
        all_goals ((with_reducible apply Step.callX fit); exact rfl; exact Try.func104; exact rfl; exact rfl; exact (hnum _))
        all_goals rintro r4 M4 ⟨N4, hN4⟩ hr4
        all_goals obtain ⟨a4, v1, v2, v3⟩ := hr4.sl (by rw [hN4, hN3]; simp only [List.length_append]; omega)
        all_goals have v3' := fun T h => (v3 h).old T
        all_goals have hr34 : ∀ T, Row (M4 ++ T) m.length 1 r3' (by8 S3) S3.length := fun T => by rw [hN4, List.append_nil]; exact (hr3.old _).old _
        all_goals have hbl := be_len n 4
        all_goals (repeat' (((with_reducible apply AWt.step); exact rfl)))
        all_goals ((with_reducible apply Step.appRow2 (n := S3.length) (xl := (be n 4).length) (b0 := m.length) (new := by8 (be n 4))); exact rfl; exact rfl; exact (hr34 _); exact v1; exact (fun h => v3' _ h); exact el22; exact un22; (focus (rw [by8_len, Nat.mul_one])); exact (by8_all _); exact rfl; (focus (omega)); exact rfl; (focus (rw [hN4, hN3]; simp only [List.length_append]; omega)))
        all_goals intro r5 M5 hr5 hml5 hk5 _
        all_goals have hM5 := pre_keep (m0 := m) (M := M4 ++ []) ⟨N3 ++ N4, by rw [hN4, hN3]; simp only [List.append_nil, List.append_assoc]⟩ hml5 fun j hj => hk5 j (by rw [hN4, hN3]; simp only [List.length_append]; omega) (NotOf.row hr3 hj)
        all_goals have hr5 := Row.app8 hr5
        all_goals (repeat' (first | ((with_reducible refine Step.id ?_); ((with_reducible apply Step.assign); exact rfl; exact rfl)) | ((with_reducible apply AWt.step); exact rfl) | ((with_reducible apply AWt.done))))
        all_goals exact ⟨rfl, r5, hr5, hM5, (by repeat (first | exact trivial | (refine And.intro rfl ?_)))⟩
      · rintro t' M4 ⟨r4, hr4, ⟨N4, rfl⟩, hsl4⟩
        refine InBlk.n ?_
        refine Then.n ?_
        refine AW.weak (fr_all hsl4) ?_
        refine AW.rebase ?_
        (repeat (first | (with_reducible refine AWo.cons ?_) | ((with_reducible refine Step.id ?_); first | ((with_reducible apply Step.move); exact rfl; exact rfl) | ((with_reducible apply Step.add); exact rfl; exact rfl; (focus (omega)); exact rfl)) | (with_reducible refine AWo.nil ?_) | ((with_reducible apply Then.n)) | ((with_reducible apply AW.regL))))
        exact ⟨_, [(3, r4), (11, pv), (12, .int .i64 (P.length : Nat)), (13, .int .i64 (k : Nat)), (23, u), (24, .int .i64 (l.length : Nat)), (25, .int .i64 (j + 1 : Nat))], by omega, (by repeat (first | exact trivial | (refine And.intro rfl ?_))), j + 1, _, rfl, by omega, by rw [hnx, List.append_nil]; exact hr4, ⟨N4, by rw [List.append_nil]⟩, rfl⟩
    · obtain rfl : j = l.length := by omega
      rw [List.take_length] at hR2
      refine AW.rebase ?_
      (repeat (first | (with_reducible refine AWo.cons ?_) | ((with_reducible refine Step.id ?_); first | ((with_reducible apply Step.move); exact rfl; exact rfl) | ((with_reducible apply Step.add); exact rfl; exact rfl; (focus (omega)); exact rfl) | ((with_reducible apply Step.lss); exact rfl; exact rfl; exact rfl)) | (with_reducible refine AWo.nil ?_) | ((with_reducible apply AW.seq)) | ((with_reducible apply Then.n)) | ((with_reducible apply AW.regL)) | ((with_reducible apply AW.exit)) | ((with_reducible apply InBlk.n)) | ((with_reducible apply InBlk.hit)) | ((with_reducible apply Then.e)) | ((with_reducible apply AW.condF); exact rfl; (focus ((simp only [decide_eq_true_eq, decide_eq_false_iff_not, Bool.not_eq_true', Bool.not_eq_false', Bool.not_true, Bool.not_false]; first | assumption | omega))))))
      exact ⟨_, [(3, r'), (11, pv), (12, .int .i64 (P.length : Nat)), (13, .int .i64 (k + 1 : Nat))], by omega, (by repeat (first | exact trivial | (refine And.intro rfl ?_))), k + 1, _, rfl, by omega, by rw [hsn, List.append_nil]; exact hR2, ⟨N2, by rw [List.append_nil]⟩, rfl⟩
  · obtain rfl : k = P.length := by omega
    rw [List.take_length] at hR
    refine AW.rebase ?_
    (repeat (first | (with_reducible refine AWo.cons ?_) | ((with_reducible refine Step.id ?_); first | ((with_reducible apply Step.move); exact rfl; exact rfl) | ((with_reducible apply Step.assign); exact rfl; exact rfl) | ((with_reducible apply Step.lss); exact rfl; exact rfl; exact rfl)) | (with_reducible refine AWo.nil ?_) | ((with_reducible apply AW.seq)) | ((with_reducible apply Then.n)) | ((with_reducible apply AW.regL)) | ((with_reducible apply AW.exit)) | ((with_reducible apply InBlk.hit)) | ((with_reducible apply Then.e)) | ((with_reducible apply AW.condF); exact rfl; (focus ((simp only [decide_eq_true_eq, decide_eq_false_iff_not, Bool.not_eq_true', Bool.not_eq_false', Bool.not_true, Bool.not_false]; first | assumption | omega))))))
    (refine AW.ret ?_; (repeat (first | refine Then.r ?_ | refine InBlk.r ?_)))
    exact ⟨_, rfl, N, by rw [List.append_nil], by rw [List.append_nil]; exact hR.byts (by rw [List.length_append]; omega)⟩
end Go.Proofs.Ytabdnepfcohncaa.Abs
namespace Go.Proofs.Ytabdnepfcohncaa.Abs
set_option linter.unusedSimpArgs false
set_option linter.unusedVariables false
open Go.RowKit
open Go.Proofs.Ytabdnepfcohncaa.Sim
open Go.Proofs
/-- A book that posts have made. -/
inductive Built : Bk → Prop
  | new : Built Bk.new
  | post {B : Bk} {l : List Tr} : Built B → (postF B l).2.2 = 0 → Built (postF B l).1
theorem postF_zero {B : Bk} {l : List Tr} (h : (postF B l).2.2 = 0) : postB l = true ∧ (postF B l).1.P = B.P ++ [l] := by
  revert h
  unfold postF
  split
  · intro h; exact absurd h (show ¬ ((2 : Int) = 0) by decide)
  · rename_i hp
    split
    · intro h; exact absurd h (show ¬ ((11 : Int) = 0) by decide)
    · split
      · intro h; exact absurd h (show ¬ ((5 : Int) = 0) by decide)
      · intro _; exact ⟨by simpa using hp, rfl⟩
theorem be_mod (n : Nat) : ∀ (j q : Nat), be (n + q * 2 ^ (8 * j)) j = be n j
  | 0, q => rfl
  | j + 1, q => by
    show UInt8.ofNat ((n + q * 2 ^ (8 * (j + 1))) / 2 ^ (8 * j)) :: be _ j = UInt8.ofNat (n / 2 ^ (8 * j)) :: be n j
    have e1 : q * 2 ^ (8 * (j + 1)) = (q * 256) * 2 ^ (8 * j) := by
      rw [show 8 * (j + 1) = 8 * j + 8 by omega, Nat.pow_add, show (2 : Nat) ^ 8 = 256 by decide, Nat.mul_assoc, Nat.mul_comm 256]
    rw [e1, be_mod n j (q * 256)]
    congr 1
    apply UInt8.toNat_inj.1
    rw [UInt8.toNat_ofNat', UInt8.toNat_ofNat', Nat.add_mul_div_right _ _ (Nat.pow_pos (by decide))]
    omega
theorem numB_be : ∀ (k n : Nat), n < 2 ^ (8 * k) → numB (be n k) = n
  | 0, n, h => by
    have : n = 0 := by simpa using h
    subst this; rfl
  | k + 1, n, h => by
    rw [show 8 * (k + 1) = 8 * k + 8 by omega, Nat.pow_add] at h
    have hq : n / 2 ^ (8 * k) < 256 := Nat.div_lt_of_lt_mul (by simpa using h)
    have hm := Nat.mod_lt n (Nat.pow_pos (n := 8 * k) (show 0 < 2 by decide))
    have hdm := Nat.mod_add_div n (2 ^ (8 * k))
    have e2 : be n k = be (n % 2 ^ (8 * k)) k := by
      have := be_mod (n % 2 ^ (8 * k)) k (n / 2 ^ (8 * k))
      rwa [show n % 2 ^ (8 * k) + n / 2 ^ (8 * k) * 2 ^ (8 * k) = n by rw [Nat.mul_comm (n / 2 ^ (8 * k))]; exact hdm] at this
    have ih := numB_be k (n % 2 ^ (8 * k)) hm
    show (be n k).foldl _ (0 * 256 + (UInt8.ofNat (n / 2 ^ (8 * k))).toNat) = n
    rw [fold_eq, e2, be_len, ih, UInt8.toNat_ofNat']
    generalize 2 ^ (8 * k) = Q at *
    rw [Nat.zero_mul, Nat.zero_add, Nat.mod_eq_of_lt (show n / Q < 2 ^ 8 from hq), Nat.mul_comm, Nat.add_comm]
    exact hdm
theorem decX_trB {x : Tr} (h : okT x = true) : decX (trB x) = x := by
  obtain ⟨i, f, t, n⟩ := x
  simp only [okT, decide_eq_true_eq] at h
  obtain ⟨x1, x2, x3, x4, x5, x6, x7, x8, x9⟩ := h
  obtain ⟨i, rfl⟩ := Int.eq_ofNat_of_zero_le x1
  obtain ⟨f, rfl⟩ := Int.eq_ofNat_of_zero_le x3
  obtain ⟨t, rfl⟩ := Int.eq_ofNat_of_zero_le x5
  obtain ⟨n, rfl⟩ := Int.eq_ofNat_of_zero_le (show 0 ≤ n by omega)
  unfold decX trB
  simp only [Int.toNat_natCast, List.getD_cons_zero, List.getD_cons_succ, List.drop_succ_cons, List.drop_zero]
  rw [numB_be 4 n (by rw [show (2 : Nat) ^ (8 * 4) = 4294967296 by decide]; omega), UInt8.toNat_ofNat', UInt8.toNat_ofNat']
  rw [Tr.mk.injEq]
  exact ⟨by omega, by omega, by omega, rfl⟩
theorem decL_tr : ∀ {l : List Tr} (rest : List UInt8), l.all okT = true → decL (l.flatMap trB ++ rest) l.length = l := by
  intro l
  have key : ∀ (k : Nat), k ≤ l.length → ∀ rest, l.all okT = true → decL (l.flatMap trB ++ rest) k = l.take k := by
    intro k
    induction k with
    | zero => intro _ _ _; rfl
    | succ k ih =>
      intro hk rest hok
      have hk' : k < l.length := hk
      have hmem : l.getD k default ∈ l := by rw [List.getD_eq_getElem?_getD, List.getElem?_eq_getElem hk']; exact List.getElem_mem hk'
      rw [decL_succ, ih (by omega) rest hok, take_snocT l k hk']
      congr 2
      rw [← decX_trB (List.all_eq_true.1 hok _ hmem)]
      congr 1
      unfold sixB
      have e : l = l.take k ++ (l.getD k default :: l.drop (k + 1)) := by
        have := List.take_append_drop k l
        rw [List.drop_eq_getElem_cons hk'] at this
        rw [show l.getD k default = l[k] by rw [List.getD_eq_getElem?_getD, List.getElem?_eq_getElem hk']; rfl]
        exact this.symm
      have e2 : l.flatMap trB ++ rest = (l.take k).flatMap trB ++ (trB (l.getD k default) ++ ((l.drop (k + 1)).flatMap trB ++ rest)) := by
        conv => lhs; rw [e]
        rw [List.flatMap_append, List.flatMap_cons]
        simp only [List.append_assoc]
      have hl6 : ((l.take k).flatMap trB).length = 6 * k := by rw [trBs_len, List.length_take, Nat.min_eq_left (by omega)]
      rw [e2, ← hl6, List.drop_left, List.take_append_of_le_length (by rw [trB_len]; exact Nat.le_refl _), List.take_of_length_le (by rw [trB_len]; exact Nat.le_refl _)]
  intro rest hok
  rw [key l.length (Nat.le_refl _) rest hok, List.take_length]
/-- What posts have made is loaded again. -/
theorem load_run : ∀ {B : Bk}, Built B → ∀ (rest : List UInt8) (f : Nat), ∃ g, f ≤ g ∧ loadF g (saveB B.P ++ rest) Bk.new = loadF f rest B := by
  intro B hB
  induction hB with
  | new => intro rest f; exact ⟨f, Nat.le_refl _, rfl⟩
  | @post B l hB hz ih =>
    intro rest f
    obtain ⟨h1, h2⟩ := postF_zero hz
    obtain ⟨p1, p2, p3⟩ := postB_all h1
    obtain ⟨g, hg1, hg2⟩ := ih (postBy l ++ rest) (f + 1)
    refine ⟨g, by omega, ?_⟩
    rw [h2, saveB_snoc, List.append_assoc, hg2]
    have hc : (UInt8.ofNat l.length).toNat = l.length := by rw [UInt8.toNat_ofNat']; omega
    show (if (l.flatMap trB ++ rest).length < 6 * (UInt8.ofNat l.length).toNat then none else if (postF B (decL (l.flatMap trB ++ rest) (UInt8.ofNat l.length).toNat)).2.2 ≠ 0 then none else loadF f ((l.flatMap trB ++ rest).drop (6 * (UInt8.ofNat l.length).toNat)) (postF B (decL (l.flatMap trB ++ rest) (UInt8.ofNat l.length).toNat)).1) = _
    rw [hc, decL_tr rest p3, if_neg (by rw [List.length_append, trBs_len]; omega), if_neg (by rw [hz]; simp), ← trBs_len l, List.drop_left]
theorem load_more : ∀ (f : Nat) (s : List UInt8) (B : Bk), s.length ≤ f → ∀ g, s.length ≤ g → loadF f s B = loadF g s B
  | 0, [], B, _, g, _ => by cases g <;> rfl
  | f + 1, [], B, _, g, _ => by cases g <;> rfl
  | 0, _ :: _, B, h, _, _ => by simp at h
  | f + 1, c :: r, B, h, 0, h2 => by simp at h2
  | f + 1, c :: r, B, h, g + 1, h2 => by
    rw [List.length_cons] at h h2
    unfold loadF
    rw [load_more f (r.drop (6 * c.toNat)) _ (by rw [List.length_drop]; omega) g (by rw [List.length_drop]; omega)]
/-- SAVED, LOADED. -/
theorem load_save {B : Bk} (h : Built B) : loadF (saveB B.P).length (saveB B.P) Bk.new = some B := by
  obtain ⟨g, _, hg⟩ := load_run h [] (saveB B.P).length
  rw [List.append_nil] at hg
  have e : loadF (saveB B.P).length [] B = some B := by cases (saveB B.P).length <;> rfl
  rw [e] at hg
  obtain ⟨g2, hg1, hg2⟩ := load_run h [] (saveB B.P).length
  rw [List.append_nil] at hg2
  have e2 : loadF (saveB B.P).length [] B = some B := by cases (saveB B.P).length <;> rfl
  rw [load_more _ _ _ (Nat.le_refl _) g2 hg1, hg2, e2]
end Go.Proofs.Ytabdnepfcohncaa.Abs
namespace Go.Proofs.Ytabdnepfcohncaa.Abs
set_option linter.unusedSimpArgs false
set_option linter.unusedVariables false
open Go.RowKit
open Go.Proofs.Ytabdnepfcohncaa.Sim
open Go.ChangeShapes Go.WideShapes Go.Deep
/-- An argument with the cells that it shows. -/
abbrev AR := Value × List Value
def mkP : AR → Option Sim.Place
  | (.slice (some a) n cap, _) => some ⟨a.block, a.off, cap - n⟩
  | _ => none
section
variable {H : Type} {enc : TypeId × Value → H} {P : Program} {w : World} {base : Nat} {spare : Nat → Bool} {held : Bool}
theorem ok_slice {r : Reach} {b0 : Nat} {T e : TypeId} {a : Option Addr} {n c : Nat} (ht : P.underlying T = some (.slice e)) (h : Value.okWide P w r b0 T (.slice a n c)) : (a = none ∧ n = 0 ∧ c = 0) ∨ ∃ b o, a = some ⟨b, o, none⟩ ∧ n ≤ c ∧ b < w.heap.size := by
  simp only [Value.okWide, ht, Cell.okWide, Cell.ok] at h
  cases a with
  | none =>
    cases n <;> cases c <;> simp_all
  | some x =>
    obtain ⟨h1, _, h3⟩ := h
    obtain ⟨_, hs, row, cells, hsh, _⟩ := h3
    obtain ⟨b, o, s⟩ := x
    simp only at hs
    subst hs
    refine .inr ⟨b, o, rfl, h1, ?_⟩
    simp only [World.shape?] at hsh
    rcases Nat.lt_or_ge b w.heap.size with hlt | hge
    · exact hlt
    · rw [Array.getElem?_eq_none hge] at hsh; cases hsh
theorem open_slice_fields {t e : TypeId} {fs : Array Field} {fuel : Nat} {cs : List Value} {x : DataW H × List MemPlace} (ht : P.underlying t = some (.slice e)) (he : P.underlying e = some (.struct fs))
    (hone : oneCellFields P fs = true) (hC : P.cellsOf e = fs.size) (h : DataW.trod enc P w base spare held fuel t cs = some x) :
    (cs = [.slice none 0 0] ∧ x = (.nil, [])) ∨
    ∃ (a : Addr) (len cap m : Nat) (D : Nat → DataW H) (Pl : Nat → List MemPlace), cs = [.slice (some a) len cap] ∧ base ≤ a.block ∧ len ≤ cap ∧ cap ≤ maxLen ∧ m = (if spare a.block then cap else len) ∧
      x = (.slice ((List.range len).map D) ((List.range (m - len)).map fun j => D (len + j)), MemPlace.row a (m * fs.size) ++ (List.range m).flatMap Pl) ∧
      ∀ i, i < m → ∃ (ys : List (DataW H × List MemPlace)) (n : Nat), D i = .agg (ys.map (·.1)) ∧ Pl i = ys.flatMap (·.2) ∧ ys.length = fs.size ∧
        ∀ (j : Nat) (f : Field), fs[j]? = some f → ∃ (v : Value) (y : DataW H × List MemPlace), w.cell? (a.add (i * fs.size + j)) = some v ∧ ys[j]? = some y ∧ DataW.trod enc P w base spare held n f.type [v] = some y := by
  rcases open_slice ht h with h0 | ⟨a, len, cap, m, n, D, Pl, hcs, hb, hl, hm, hmm, hx, hi⟩
  · exact .inl h0
  · refine .inr ⟨a, len, cap, m, D, Pl, hcs, hb, hl, hm, hmm, by rw [hC] at hx; exact hx, fun i him => ?_⟩
    obtain ⟨cs', hc, ht'⟩ := hi i him
    rw [hC] at hc
    obtain ⟨ys, n', hn', hy, hlen, hyl, hf⟩ := DataW.trod_struct he ht'
    obtain ⟨_, hcl, hat⟩ := World.cells?_some hc
    simp only [Prod.mk.injEq] at hy
    refine ⟨ys, n', hy.1, hy.2, hyl, fun j f hj => ?_⟩
    obtain ⟨ho, hk⟩ := hone_of hone j f hj
    have hjl : j < fs.size := (Array.getElem?_eq_some_iff.1 hj).1
    have hcell := hat j hjl
    have hv : cs'[j]? = some (cs'[j]'(by omega)) := List.getElem?_eq_getElem (by omega)
    have h1 := hf j f hj
    rw [ho, hk] at h1
    have hone' : (cs'.drop j).take 1 = [cs'[j]'(by omega)] := by
      rw [List.drop_eq_getElem_cons (by omega)]
      rfl
    rw [hone'] at h1
    have hys : ys[j]? = some (ys[j]'(by omega)) := List.getElem?_eq_getElem (by omega)
    refine ⟨_, _, ?_, hys, h1.trans hys⟩
    rw [← Go.Deep.add_add, hcell, hv]
end
end Go.Proofs.Ytabdnepfcohncaa.Abs
namespace Go.Proofs.Ytabdnepfcohncaa.Abs
set_option linter.unusedSimpArgs false
set_option linter.unusedVariables false
open Go.RowKit
open Go.Proofs.Ytabdnepfcohncaa.Sim
open Go.ChangeShapes Go.WideShapes Go.Deep
def plN (bs : List AR) : Pl := fun i => (bs[i]?).bind mkP
def mkV2 (i : Nat) : Value → Value
  | .slice (some ⟨_, _, some k⟩) _ _ => .slice (some ⟨i, 0, some k⟩) 0 0
  | .slice (some ⟨_, _, none⟩) n _ => .slice (some ⟨i, 0, none⟩) n n
  | v => v
def mkB2 : AR → Option Blk
  | (.slice (some _) _ (_ + 1), c) => some { cells := c, kind := .ro }
  | _ => none
/-- A slice of the input, with its cells as the abstract memory has them; or what is no block. -/
def OkB (W : World) (R : Pl) (a : AR) : Prop := g0 a.1 = true ∨ (∃ x, a.1 = .slice (some x) 0 0) ∨
  ∃ b o n cap, a.1 = .slice (some ⟨b, o, none⟩) n (cap + 1) ∧ n ≤ cap + 1 ∧ b < W.heap.size ∧ ∀ j x, a.2[j]? = some x → ∃ x', W.cell? ⟨b, o + j, none⟩ = some x' ∧ Rel R x x'
theorem relN {W : World} {R : Pl} {bs : List AR} {i : Nat} {a : AR} (hi : bs[i]? = some a) (h : OkB W R a) : Rel (plN bs) (mkV2 i a.1) a.1 := by
  obtain ⟨v, c⟩ := a
  rcases h with h1 | ⟨⟨b, o, sp⟩, h1⟩ | ⟨b, o, n, cap, h1, h2, h3, h4⟩
  · simp only at h1 ⊢
    cases v with
    | slice x n cap => cases x with
      | none => exact g0_rel h1
      | some x => simp [g0] at h1
    | _ => exact g0_rel h1
  · simp only at h1 ⊢
    subst h1
    cases sp with
    | none =>
      have := Rel.slice (R := plN bs) i 0 0 0 ⟨b, o, 0 - 0⟩ (by simp [plN, hi, mkP]) (Nat.le_refl _)
      simpa [mkV2] using this
    | some k =>
      have := Rel.sliceSpot (R := plN bs) i 0 k ⟨b, o, 0 - 0⟩ (by simp [plN, hi, mkP])
      simpa [mkV2] using this
  · simp only at h1 ⊢
    subst h1
    have := Rel.slice (R := plN bs) i 0 n n ⟨b, o, cap + 1 - n⟩ (by simp [plN, hi, mkP]) (Nat.le_refl _)
    rw [show n + (cap + 1 - n) = cap + 1 by omega] at this
    simpa [mkV2] using this
def mkVs2 : Nat → List AR → List Value
  | _, [] => []
  | i, a :: l => mkV2 i a.1 :: mkVs2 (i + 1) l
theorem mkVs2_get : ∀ (l : List AR) (i k : Nat), (mkVs2 i l)[k]? = (l[k]?).map fun a => mkV2 (i + k) a.1
  | [], i, k => by simp [mkVs2]
  | a :: l, i, 0 => by simp [mkVs2]
  | a :: l, i, k + 1 => by simp only [mkVs2, List.getElem?_cons_succ, mkVs2_get l (i + 1) k]; congr 1; funext x; congr 1; omega
theorem mkVs2_len : ∀ (l : List AR) (i : Nat), (mkVs2 i l).length = l.length
  | [], _ => rfl
  | a :: l, i => by simp [mkVs2, mkVs2_len l (i + 1)]
theorem mkB2_none {W : World} {R : Pl} {a : AR} {b : Blk} (h : OkB W R a) (hb : mkB2 a = some b) : ∃ bb o n cap, a.1 = .slice (some ⟨bb, o, none⟩) n (cap + 1) ∧ b = { cells := a.2, kind := .ro } ∧ bb < W.heap.size ∧ ∀ j x, a.2[j]? = some x → ∃ x', W.cell? ⟨bb, o + j, none⟩ = some x' ∧ Rel R x x' := by
  obtain ⟨v, c⟩ := a
  rcases h with h1 | ⟨x, h1⟩ | ⟨bb, o, n, cap, h1, h2, h3, h4⟩
  · simp only at h1
    cases v with
    | slice x n cap => cases x with
      | none => simp [mkB2] at hb
      | some x => simp [g0] at h1
    | _ => simp [mkB2] at hb
  · simp only at h1
    subst h1
    simp [mkB2] at hb
  · simp only at h1
    subst h1
    simp only [mkB2, Option.some.injEq] at hb
    exact ⟨bb, o, n, cap, rfl, hb.symm, h3, h4⟩
theorem top_callN {P : Program} {f : FuncId} {W : World} (bs : List AR) (na : Nat) (h : ∀ a ∈ bs, OkB W (plN bs) a) (hc : ACall P f ((mkVs2 0 bs).take na).toArray (bs.map mkB2) (Ret (.bool true) (bs.map mkB2))) :
    Calls P f ((bs.take na).map (·.1)).toArray W fun e w' => e = .returned (.bool true) ∧ Below W.heap.size W w' := by
  have hm : MRep W.heap.size (plN bs) (bs.map mkB2) W := by
    refine ⟨fun i hi => ?_, fun i b hi => ?_, fun i j b c p q hi hj hb _ _ _ _ => ?_⟩
    · simp only [List.length_map] at hi
      simp [plN, List.getElem?_eq_none hi]
    · rw [List.getElem?_map] at hi
      cases ha : bs[i]? with
      | none => rw [ha] at hi; cases hi
      | some a =>
        rw [ha] at hi
        simp only [Option.map_some, Option.some.injEq] at hi
        obtain ⟨bb, o, n, cap, h1, rfl, h3, h4⟩ := mkB2_none (h _ (List.mem_of_getElem? ha)) hi
        obtain ⟨v, c⟩ := a
        simp only at h1 h4
        subst h1
        refine ⟨⟨bb, o, cap + 1 - n⟩, by simp [plN, ha, mkP], h3, ?_⟩
        exact ⟨fun e => by simp at e, fun j x hj => h4 j x hj⟩
    · rw [List.getElem?_map] at hi
      cases ha : bs[i]? with
      | none => rw [ha] at hi; cases hi
      | some a =>
        rw [ha] at hi
        simp only [Option.map_some, Option.some.injEq] at hi
        obtain ⟨bb, o, n, cap, h1, rfl, _⟩ := mkB2_none (h _ (List.mem_of_getElem? ha)) hi
        cases hb
  have hargs : Rels (plN bs) ((mkVs2 0 bs).take na).toArray ((bs.take na).map (·.1)).toArray := by
    refine ⟨by simp [mkVs2_len], fun i hi => ?_⟩
    simp only [List.size_toArray, List.length_take, mkVs2_len] at hi
    have hib : i < bs.length := by omega
    have ha : bs[i]? = some bs[i] := List.getElem?_eq_getElem hib
    have e1 : ((mkVs2 0 bs).take na).toArray.getD i undef = mkV2 i bs[i].1 := by
      simp [mkVs2_get, ha, List.getElem?_take, show i < na by omega]
    have e2 : ((bs.take na).map (·.1)).toArray.getD i undef = bs[i].1 := by simp [List.getElem?_take, show i < na by omega, ha]
    rw [e1, e2]
    exact relN ha (h _ (List.mem_of_getElem? ha))
  refine (hc W.heap.size (plN bs) W _ (Nat.le_refl _) hm hargs).mono ?_
  rintro e w' ⟨v, v', R', m', rfl, k1, k2, rfl, rfl⟩
  cases k1
  exact ⟨rfl, k2.below hm (Nat.le_refl _)⟩
section
variable {H : Type} {enc : TypeId × Value → H} {P : Program} {w : World} {base : Nat} {held : Bool}
theorem cell_some {a : Addr} {v : Value} (h : w.cell? a = some v) : a.spot = none ∧ a.block < w.heap.size := by
  unfold World.cell? at h
  cases hb : w.heap[a.block]? with
  | none => rw [hb] at h; cases h
  | some o =>
    refine ⟨?_, (Array.getElem?_eq_some_iff.1 hb).1⟩
    rw [hb] at h
    cases o with
    | cells c ty fz =>
      simp only at h
      split at h
      · cases h
      · rename_i hs
        cases hsp : a.spot with
        | none => rfl
        | some k => rw [hsp] at hs; simp at hs
    | _ => cases h
end
end Go.Proofs.Ytabdnepfcohncaa.Abs
namespace Go.Proofs.Ytabdnepfcohncaa.Abs
set_option linter.unusedSimpArgs false
set_option linter.unusedVariables false
open Go.RowKit
open Go.Proofs.Ytabdnepfcohncaa.Sim
open Go.Proofs
open Go.ChangeShapes Go.WideShapes Go.Deep
section
variable {H : Type} {enc : TypeId × Value → H} {P : Program} {w : World} {base : Nat} {held : Bool}
/-- A row of transfers that the input shows, wherever it stands. -/
theorem trs_sl {T e : TypeId} {fs : Array Field} {fuel : Nat} {v : Value} {d : DataW H × List MemPlace} (ht : P.underlying T = some (.slice e)) (he : P.underlying e = some (.struct fs)) (hone : oneCellFields P fs = true) (hC : P.cellsOf e = fs.size) (hsz : fs.size = 4)
    (hI : ∀ j f, j < 4 → fs[j]? = some f → P.underlying f.type = some (.int .i64)) (h : DataW.trod enc P w base (fun _ => true) held fuel T [v] = some d) :
    ∃ l : List Tr, l.length ≤ maxLen ∧ (∀ R, OkB w R (v, tcs l)) ∧ ∀ (bs : List AR) (i : Nat), bs[i]? = some (v, tcs l) → Trs (bs.map mkB2) (mkV2 i v) l := by
  rcases open_slice_fields ht he hone hC h with ⟨hcs, _⟩ | ⟨x, n, c, m, D, Pl, hcs, _, hl, hm, hmm, _, hrow⟩
  · obtain rfl : v = .slice none 0 0 := by simpa using hcs
    exact ⟨[], Nat.zero_le _, fun R => .inl rfl, fun bs i hi => ⟨i, 0, .inl ⟨rfl, rfl⟩, by simp; exact (List.getElem?_eq_some_iff.1 hi).1, fun k hk => by simp at hk⟩⟩
  · obtain rfl : v = .slice (some x) n c := by simpa using hcs
    rw [if_pos rfl] at hmm
    have key : ∀ k : Nat, ∃ q : Tr, k < n → ∀ j : Nat, j < 4 → ∃ z, q.c[j]? = some (.int .i64 z) ∧ w.cell? (x.add (k * 4 + j)) = some (.int .i64 z) := fun k => by
      by_cases hk : k < n
      · obtain ⟨ys, nn, _, _, _, hf⟩ := hrow k (by omega)
        rw [hsz] at hf
        have fi : ∀ j, j < 4 → ∃ z : Int, w.cell? (x.add (k * 4 + j)) = some (.int .i64 z) := fun j hj => by
          have hfj : fs[j]? = some (fs[j]'(by omega)) := Array.getElem?_eq_getElem (by omega)
          obtain ⟨v, y, h1, _, h3⟩ := hf j _ hfj
          obtain ⟨z, hz, _⟩ := DataW.trod_int (hI j _ hj hfj) h3
          simp at hz
          subst hz
          exact ⟨z, h1⟩
        obtain ⟨z0, g0'⟩ := fi 0 (by omega)
        obtain ⟨z1, g1'⟩ := fi 1 (by omega)
        obtain ⟨z2, g2'⟩ := fi 2 (by omega)
        obtain ⟨z3, g3'⟩ := fi 3 (by omega)
        refine ⟨⟨z0, z1, z2, z3⟩, fun _ j hj => ?_⟩
        rcases (show j = 0 ∨ j = 1 ∨ j = 2 ∨ j = 3 by omega) with rfl | rfl | rfl | rfl
        · exact ⟨_, rfl, g0'⟩
        · exact ⟨_, rfl, g1'⟩
        · exact ⟨_, rfl, g2'⟩
        · exact ⟨_, rfl, g3'⟩
      · exact ⟨default, fun h => absurd h hk⟩
    obtain ⟨G, hG⟩ := Classical.axiomOfChoice key
    have hlen : ((List.range n).map G).length = n := by simp
    have hgd : ∀ k, k < n → ((List.range n).map G).getD k default = G k := fun k hk => by simp [hk]
    have hcell : ∀ j v, (tcs ((List.range n).map G))[j]? = some v → j < n * 4 ∧ w.cell? (x.add j) = some v ∧ ∃ z, v = .int .i64 z := fun j v hj => by
      have hj1 := (List.getElem?_eq_some_iff.1 hj).1
      rw [tcs_len, hlen] at hj1
      obtain ⟨z, q1, q2⟩ := hG (j / 4) (by omega) (j % 4) (by omega)
      have := tcs_get ((List.range n).map G) (j / 4) (by rw [hlen]; omega) (j % 4) (.int .i64 z) (by rw [hgd _ (by omega)]; exact q1)
      rw [show j / 4 * 4 + j % 4 = j by omega] at this q2
      rw [this] at hj
      injection hj with hj
      subst hj
      exact ⟨hj1, q2, z, rfl⟩
    cases c with
    | zero =>
      obtain rfl : n = 0 := by omega
      refine ⟨[], Nat.zero_le _, fun R => .inr (.inl ⟨x, rfl⟩), fun bs i hi => ?_⟩
      have hlt : i < (bs.map mkB2).length := by simp; exact (List.getElem?_eq_some_iff.1 hi).1
      obtain ⟨b, o, sp⟩ := x
      cases sp with
      | none => exact ⟨i, 0, Sl.mk (Nat.le_refl _), hlt, fun k hk => by simp at hk⟩
      | some k => exact ⟨i, 0, .inr (.inr ⟨rfl, 0, k, rfl⟩), hlt, fun k hk => by simp at hk⟩
    | succ c =>
      obtain ⟨b, o, sp⟩ := x
      have h0 : sp = none ∧ b < w.heap.size := by
        obtain ⟨ys, nn, _, _, _, hf⟩ := hrow 0 (by omega)
        have hfj : fs[0]? = some (fs[0]'(by omega)) := Array.getElem?_eq_getElem (by omega)
        obtain ⟨v, y, h1, _, h3⟩ := hf 0 _ hfj
        have := cell_some h1
        first | exact this | (simpa [Addr.add] using this) | (cases sp <;> simp_all [Addr.add])
      obtain ⟨rfl, hb⟩ := h0
      refine ⟨(List.range n).map G, by rw [hlen]; omega, fun R => .inr (.inr ⟨b, o, n, c, rfl, hl, hb, fun j x hj => ?_⟩), fun bs i hi => ?_⟩
      · obtain ⟨q1, q2, z, rfl⟩ := hcell j x hj
        rw [Addr.add_lit] at q2
        exact ⟨_, q2, .int _ _⟩
      · have hM : (bs.map mkB2)[i]? = some (some { cells := tcs ((List.range n).map G), kind := .ro }) := by rw [List.getElem?_map, hi]; rfl
        have hlt := (List.getElem?_eq_some_iff.1 hM).1
        refine ⟨i, 0, by rw [hlen]; exact Sl.mk (Nat.le_refl n), hlt, fun k hk => ⟨_, hM, fun j v hj => ?_⟩⟩
        rw [Nat.zero_add]
        exact tcs_get _ k hk j v hj
end
end Go.Proofs.Ytabdnepfcohncaa.Abs
namespace Go.Proofs.Ytabdnepfcohncaa.Abs
set_option linter.unusedSimpArgs false
set_option linter.unusedVariables false
open Go.RowKit
open Go.Proofs.Ytabdnepfcohncaa.Sim
open Go.Proofs
open Go.ChangeShapes Go.WideShapes Go.Deep
structure Deed where
  kd : Int
  who : Int
  n : Int
  m : Int
  l : List Tr
instance : Inhabited Deed := ⟨⟨0, 0, 0, 0, []⟩⟩
def Deed.cells (x : Deed) (w : Value) : List Value := [.int .i64 x.kd, .int .i64 x.who, .int .i64 x.n, .int .i64 x.m, w]
/-- A row of deeds. -/
def Deeds (M : AM) (v : Value) (ds : List Deed) : Prop := ∃ a o, Sl v a o ds.length ∧ a < M.length ∧ ∀ k, k < ds.length → ∃ w, RdL M a (o + k * 5) ((ds.getD k default).cells w) ∧ Trs M w (ds.getD k default).l
/-- The cells of n deeds; the After of job k lies in block e0 + k. -/
def deedCs (F : Nat → Deed) (s : Nat → Value) (e0 n : Nat) : List Value := (List.range n).flatMap fun k => (F k).cells (mkV2 (e0 + k) (s k))
theorem deedCs_succ (F : Nat → Deed) (s : Nat → Value) (e0 n : Nat) : deedCs F s e0 (n + 1) = deedCs F s e0 n ++ (F n).cells (mkV2 (e0 + n) (s n)) := by
  simp [deedCs, List.range_succ, List.flatMap_append]
theorem deedCs_len (F : Nat → Deed) (s : Nat → Value) (e0 : Nat) : ∀ n, (deedCs F s e0 n).length = n * 5
  | 0 => rfl
  | n + 1 => by rw [deedCs_succ, List.length_append, deedCs_len F s e0 n]; simp [Deed.cells]; omega
theorem deedCs_get (F : Nat → Deed) (s : Nat → Value) (e0 : Nat) : ∀ n k, k < n → ∀ q v, ((F k).cells (mkV2 (e0 + k) (s k)))[q]? = some v → (deedCs F s e0 n)[k * 5 + q]? = some v
  | 0, k, h, _, _, _ => by omega
  | n + 1, k, h, q, v, hq => by
    have hq4 : q < 5 := by have := (List.getElem?_eq_some_iff.1 hq).1; simpa [Deed.cells] using this
    rw [deedCs_succ]
    rcases Nat.lt_succ_iff_lt_or_eq.1 h with h' | h'
    · rw [List.getElem?_append_left (by rw [deedCs_len]; omega)]
      exact deedCs_get F s e0 n k h' q v hq
    · subst h'
      rw [List.getElem?_append_right (by rw [deedCs_len]; omega), deedCs_len, Nat.add_sub_cancel_left]
      exact hq
theorem cells5 (x : Deed) (w : Value) (q : Nat) (v : Value) (h : (x.cells w)[q]? = some v) : q = 0 ∧ v = .int .i64 x.kd ∨ q = 1 ∧ v = .int .i64 x.who ∨ q = 2 ∧ v = .int .i64 x.n ∨ q = 3 ∧ v = .int .i64 x.m ∨ q = 4 ∧ v = w := by
  match q, h with
  | 0, h => simp [Deed.cells] at h; exact .inl ⟨rfl, h.symm⟩
  | 1, h => simp [Deed.cells] at h; exact .inr (.inl ⟨rfl, h.symm⟩)
  | 2, h => simp [Deed.cells] at h; exact .inr (.inr (.inl ⟨rfl, h.symm⟩))
  | 3, h => simp [Deed.cells] at h; exact .inr (.inr (.inr (.inl ⟨rfl, h.symm⟩)))
  | 4, h => simp [Deed.cells] at h; exact .inr (.inr (.inr (.inr ⟨rfl, h.symm⟩)))
  | q + 5, h => simp [Deed.cells] at h
section
variable {H : Type} {enc : TypeId × Value → H} {P : Program} {w : World} {base : Nat} {held : Bool}
theorem arg_deeds {r : Reach} {b0 : Nat} {T e tS tI : TypeId} {fs gs : Array Field} {a : Option Addr} {n c : Nat} {d : DataW H} {p : List MemPlace} (ht : P.underlying T = some (.slice e)) (he : P.underlying e = some (.struct fs)) (hone : oneCellFields P fs = true) (hC : P.cellsOf e = fs.size) (hsz : fs.size = 5)
    (hI : ∀ j f, j < 4 → fs[j]? = some f → P.underlying f.type = some (.int .i64)) (hS : ∀ f, fs[4]? = some f → f.type = tS) (hS1 : P.underlying tS = some (.slice tI)) (hS2 : P.underlying tI = some (.struct gs)) (hS3 : oneCellFields P gs = true) (hS4 : P.cellsOf tI = gs.size) (hS5 : gs.size = 4) (hS6 : ∀ j f, j < 4 → gs[j]? = some f → P.underlying f.type = some (.int .i64))
    (hok : Value.okWide P w r b0 T (.slice a n c)) (h : DataW.Trod enc P w base (fun _ => true) held T (.slice a n c) d p) :
    ∃ (F : Nat → Deed) (s : Nat → Value), n ≤ maxLen ∧ (∀ k, (F k).l.length ≤ maxLen) ∧ (∀ R k, OkB w R (s k, tcs (F k).l)) ∧
      (∀ (bs : List AR) (e0 : Nat), (∀ k, k < n → bs[e0 + k]? = some (s k, tcs (F k).l)) → OkB w (plN bs) (.slice a n c, deedCs F s e0 n)) ∧
      (∀ (bs : List AR) (i e0 : Nat), bs[i]? = some (.slice a n c, deedCs F s e0 n) → (∀ k, k < n → bs[e0 + k]? = some (s k, tcs (F k).l)) → Deeds (bs.map mkB2) (mkV2 i (.slice a n c)) ((List.range n).map F)) := by
  obtain ⟨fuel, h⟩ := h
  rcases ok_slice ht hok with ⟨rfl, rfl, rfl⟩ | ⟨b, o, rfl, hle, hlt⟩
  · exact ⟨fun _ => default, fun _ => .slice none 0 0, by unfold maxLen; omega, fun _ => by show ([] : List Tr).length ≤ _; simp, fun R k => .inl rfl, fun bs e0 _ => .inl rfl, fun bs i e0 hi _ =>
      ⟨i, 0, .inl ⟨rfl, rfl⟩, by simp; exact (List.getElem?_eq_some_iff.1 hi).1, fun k hk => by simp at hk⟩⟩
  · rcases open_slice_fields ht he hone hC h with ⟨hcs, _⟩ | ⟨x, l, cap, m, D, Pl, hcs, _, hl, hm, hmm, _, hrow⟩
    · simp [Value.cells] at hcs
    · simp [Value.cells] at hcs
      obtain ⟨rfl, rfl, rfl⟩ := hcs
      rw [if_pos rfl] at hmm
      have key : ∀ k : Nat, ∃ q : Deed × Value, q.1.l.length ≤ maxLen ∧ (∀ R, OkB w R (q.2, tcs q.1.l)) ∧ (∀ (bs : List AR) (i : Nat), bs[i]? = some (q.2, tcs q.1.l) → Trs (bs.map mkB2) (mkV2 i q.2) q.1.l) ∧
          (k < n → w.cell? ⟨b, o + (k * 5 + 0), none⟩ = some (.int .i64 q.1.kd) ∧ w.cell? ⟨b, o + (k * 5 + 1), none⟩ = some (.int .i64 q.1.who) ∧ w.cell? ⟨b, o + (k * 5 + 2), none⟩ = some (.int .i64 q.1.n) ∧ w.cell? ⟨b, o + (k * 5 + 3), none⟩ = some (.int .i64 q.1.m) ∧ w.cell? ⟨b, o + (k * 5 + 4), none⟩ = some q.2) := fun k => by
        by_cases hk : k < n
        · obtain ⟨ys, nn, _, _, _, hf⟩ := hrow k (by omega)
          rw [hsz] at hf
          have fi : ∀ j, j < 4 → ∃ z : Int, w.cell? ⟨b, o + (k * 5 + j), none⟩ = some (.int .i64 z) := fun j hj => by
            have hfj : fs[j]? = some (fs[j]'(by omega)) := Array.getElem?_eq_getElem (by omega)
            obtain ⟨v, y, h1, _, h3⟩ := hf j _ hfj
            obtain ⟨z, hz, _⟩ := DataW.trod_int (hI j _ hj hfj) h3
            simp at hz
            subst hz
            rw [Addr.add_lit] at h1
            exact ⟨z, h1⟩
          obtain ⟨z0, g0'⟩ := fi 0 (by omega)
          obtain ⟨z1, g1'⟩ := fi 1 (by omega)
          obtain ⟨z2, g2'⟩ := fi 2 (by omega)
          obtain ⟨z3, g3'⟩ := fi 3 (by omega)
          have hf3 : fs[4]? = some (fs[4]'(by omega)) := Array.getElem?_eq_getElem (by omega)
          obtain ⟨v, y, h1, _, h3⟩ := hf 4 _ hf3
          rw [hS _ hf3] at h3
          rw [Addr.add_lit] at h1
          obtain ⟨l, l1, l2, l3⟩ := trs_sl hS1 hS2 hS3 hS4 hS5 hS6 h3
          exact ⟨(⟨z0, z1, z2, z3, l⟩, v), l1, l2, l3, fun _ => ⟨g0', g1', g2', g3', h1⟩⟩
        · exact ⟨(default, .slice none 0 0), by show ([] : List Tr).length ≤ _; simp, fun R => .inl rfl, fun bs i hi => ⟨i, 0, .inl ⟨rfl, rfl⟩, by simp; exact (List.getElem?_eq_some_iff.1 hi).1, fun k hk => by simp [default, instInhabitedDeed] at hk⟩, fun h => absurd h hk⟩
      obtain ⟨G, hG⟩ := Classical.axiomOfChoice key
      refine ⟨fun k => (G k).1, fun k => (G k).2, by omega, fun k => (hG k).1, fun R k => (hG k).2.1 R, fun bs e0 hbs => ?_, fun bs i e0 hi hbs => ?_⟩
      · cases c with
        | zero =>
          obtain rfl : n = 0 := by omega
          exact .inr (.inl ⟨⟨b, o, none⟩, rfl⟩)
        | succ c =>
          refine .inr (.inr ⟨b, o, n, c, rfl, hle, hlt, fun j x hj => ?_⟩)
          have hjl := (List.getElem?_eq_some_iff.1 hj).1
          simp only [deedCs_len] at hjl
          have hk : j / 5 < n := by omega
          have hj5 : j % 5 < 5 := Nat.mod_lt _ (by omega)
          have e : j = j / 5 * 5 + j % 5 := by omega
          generalize hkk : j / 5 = k at *
          generalize hqq : j % 5 = q at *
          subst e
          have hcells : ∃ v, ((G k).1.cells (mkV2 (e0 + k) (G k).2))[q]? = some v := ⟨_, List.getElem?_eq_getElem (by simpa [Deed.cells] using hj5)⟩
          obtain ⟨v, hv⟩ := hcells
          have hget := deedCs_get (fun k => (G k).1) (fun k => (G k).2) e0 n k hk q v hv
          simp only at hj
          rw [hget] at hj
          injection hj with hj
          subst hj
          obtain ⟨c0, c1, c2, c3, c4⟩ := (hG k).2.2.2 hk
          rcases cells5 _ _ _ _ hv with ⟨rfl, rfl⟩ | ⟨rfl, rfl⟩ | ⟨rfl, rfl⟩ | ⟨rfl, rfl⟩ | ⟨rfl, rfl⟩
          · exact ⟨_, c0, .int _ _⟩
          · exact ⟨_, c1, .int _ _⟩
          · exact ⟨_, c2, .int _ _⟩
          · exact ⟨_, c3, .int _ _⟩
          · exact ⟨_, c4, relN (hbs k hk) ((hG k).2.1 (fun _ => none))⟩
      · have hlen : i < (bs.map mkB2).length := by simp; exact (List.getElem?_eq_some_iff.1 hi).1
        refine ⟨i, 0, by simpa [mkV2] using Sl.mk (Nat.le_refl n), hlen, fun k hk => ?_⟩
        have hk' : k < n := by simpa using hk
        have eg : ((List.range n).map fun k => (G k).1).getD k default = (G k).1 := by simp [hk']
        rw [eg]
        refine ⟨mkV2 (e0 + k) (G k).2, ?_, (hG k).2.2.1 bs (e0 + k) (hbs k hk')⟩
        cases c with
        | zero => omega
        | succ c =>
          refine ⟨{ cells := deedCs (fun k => (G k).1) (fun k => (G k).2) e0 n, kind := .ro }, by rw [List.getElem?_map, hi]; rfl, fun j v hj => ?_⟩
          rw [Nat.zero_add]
          exact deedCs_get _ _ e0 n k hk' j v hj
end
end Go.Proofs.Ytabdnepfcohncaa.Abs
namespace Go.Proofs.Ytabdnepfcohncaa.Abs
set_option linter.unusedSimpArgs false
set_option linter.unusedVariables false
open Go.RowKit
open Go.Proofs.Ytabdnepfcohncaa.Sim
open Go.Proofs
theorem BytsAt.of {m : AM} {v : Value} {i : Nat} {l : List UInt8} (hs : Sl v i 0 l.length) (hr : 0 < l.length → RdL m i 0 (by8 l)) : BytsAt m v i 0 l := ⟨hs, fun k hk => by
  obtain ⟨b, q1, q2⟩ := hr (by omega)
  refine ⟨b, q1, q2 k _ ?_⟩
  rw [by8_get hk, List.getD_eq_getElem?_getD, List.getElem?_eq_getElem hk]
  rfl⟩
end Go.Proofs.Ytabdnepfcohncaa.Abs
namespace Go.Proofs.Ytabdnepfcohncaa.Abs
set_option linter.unusedSimpArgs false
set_option linter.unusedVariables false
open Go.RowKit
open Go.Proofs.Ytabdnepfcohncaa.Sim
open Go.Proofs
theorem Sl.one {v : Value} {a o n : Nat} (h : Sl v a o n) : v.oneCell' = true ∧ v.cells = #[v] := by
  rcases h with ⟨rfl, _⟩ | ⟨c, _, rfl⟩ | ⟨_, o', k, rfl⟩ <;> exact ⟨rfl, rfl⟩
theorem ze52 : zeroB Try.prog 52 = some #[.int .i64 0, .int .i64 0, .int .i64 0, .int .i64 0, .slice none 0 0] := by kernel_rfl
/-- The posts of deeds, by the program. -/
def bkF (ds : List Deed) : Bk := ds.foldl (fun B d => (postF B d.l).1) Bk.new
theorem postF_take (B : Bk) (l : List Tr) : (postF B (l.take 18)).1 = (postF B l).1 ∧ (postF B (l.take 18)).2.2 = (postF B l).2.2 := by
  by_cases h : l.length ≤ 18
  · rw [List.take_of_length_le h]; exact ⟨rfl, rfl⟩
  · have h1 : postB l = false := by
      unfold postB
      rw [show decide (l.length ≤ 16) = false from decide_eq_false (by omega)]
      simp
    have h2 : postB (l.take 18) = false := by
      unfold postB
      rw [List.length_take, show decide (min 18 l.length ≤ 16) = false from decide_eq_false (by omega)]
      simp
    unfold postF
    rw [if_pos h1, if_pos h2]
    exact ⟨rfl, rfl⟩
theorem Built.step {B : Bk} (h : Built B) (l : List Tr) : Built (postF B l).1 := by
  by_cases hz : (postF B l).2.2 = 0
  · exact .post h hz
  · have : (postF B l).1 = B := by
      revert hz
      unfold postF
      split
      · intro _; rfl
      · split
        · intro _; rfl
        · split
          · intro _; rfl
          · intro h; exact absurd rfl h
    rw [this]; exact h
theorem bkF_snoc (ds : List Deed) (d : Deed) : bkF (ds ++ [d]) = (postF (bkF ds) d.l).1 := by simp [bkF]
theorem bkF_built : ∀ (ds : List Deed) (B : Bk), Built B → Good B → Built (ds.foldl (fun B d => (postF B d.l).1) B) ∧ Good (ds.foldl (fun B d => (postF B d.l).1) B) ∧ (ds.foldl (fun B d => (postF B d.l).1) B).P.length ≤ B.P.length + ds.length
  | [], B, h1, h2 => ⟨h1, h2, Nat.le_refl _⟩
  | d :: ds, B, h1, h2 => by
    obtain ⟨q1, q2, q3⟩ := bkF_built ds _ (h1.step d.l) (h2.post d.l)
    have := postF_len B d.l
    rw [List.foldl_cons, List.length_cons]
    exact ⟨q1, q2, by omega⟩
theorem postF_bad {B : Bk} {l : List Tr} (h : (postF B l).2.2 ≠ 0) : (postF B l).1 = B ∧ (postF B l).2.1 = 0 := by
  revert h
  unfold postF
  split
  · intro _; exact ⟨rfl, rfl⟩
  · split
    · intro _; exact ⟨rfl, rfl⟩
    · split
      · intro _; exact ⟨rfl, rfl⟩
      · intro h; exact absurd rfl h
theorem postF_num {B : Bk} {l : List Tr} (h : (postF B l).2.2 = 0) : (postF B l).2.1 = ((B.P.length + 1 : Nat) : Int) := by
  revert h
  unfold postF
  split
  · intro h; exact absurd h (show ¬ ((2 : Int) = 0) by decide)
  · split
    · intro h; exact absurd h (show ¬ ((11 : Int) = 0) by decide)
    · split
      · intro h; exact absurd h (show ¬ ((5 : Int) = 0) by decide)
      · intro _; rfl
/-- Post, whatever comes of it. -/
theorem Post_ok {m : AM} {b0 bk : Nat} {B : Bk} {pv v : Value} {l : List Tr} (h : BookAt m b0 bk B pv) (hl : ∀ M, Fr m M bk pv → Trs M v l) (hb : Bd B.H 1000000000) (hlen : B.P.length ≤ 1000000) (hll : l.length ≤ 1000000) :
    ACall Try.prog 28 #[.pointer (some ⟨bk, 0, none⟩), v] m (fun r M => ∃ u, r = .tuple #[.int .i64 (postF B l).2.1, .int .i64 (postF B l).2.2] ∧ BookAt M b0 bk (postF B l).1 u ∧ Fr m M bk pv ∧ (∀ j, j < m.length → NotOf pv j → NotOf u j) ∧ ((postF B l).1.P.length = 0 → u = pv)) := by
  by_cases hz : (postF B l).2.2 = 0
  · rw [postF_num hz, hz]
    refine (Post_good h hl hb hlen hz).mono ?_
    rintro r M ⟨u, e1, e2, e3, e4⟩
    refine ⟨u, e1, e2, e3, e4, fun h0 => ?_⟩
    rw [(postF_zero hz).2] at h0
    simp at h0
  · obtain ⟨e1, e2⟩ := postF_bad hz
    refine (Post_bad h (hl m (Fr.refl _ _ _)) hb hll hz).mono ?_
    rintro r M ⟨rfl, rfl⟩
    rw [e1, e2]
    exact ⟨pv, rfl, h, Fr.refl _ _ _, fun j _ hn => hn, fun _ => rfl⟩
end Go.Proofs.Ytabdnepfcohncaa.Abs
namespace Go.Proofs.Ytabdnepfcohncaa.Abs
set_option linter.unusedSimpArgs false
set_option linter.unusedVariables false
open Go.RowKit
open Go.Proofs.Ytabdnepfcohncaa.Sim
open Go.Proofs
theorem take_snocD (l : List Deed) (k : Nat) (h : k < l.length) : l.take (k + 1) = l.take k ++ [l.getD k default] := by
  rw [List.take_succ_eq_append_getElem h]; simp [h]
/-- A book stays what it is while another is written. -/
theorem PostsAt.keep {M M' : AM} {b0 xk : Nat} {pv px : Value} {P : List (List Tr)} (h : PostsAt M b0 pv P) (hF : Fr M M' xk px) (hd : ∀ j, NotOf pv j ∨ NotOf px j) (hx : NotOf pv xk) (hs : ∀ a x, Rd M a 0 (.int .i64 x) → a ≠ xk ∧ NotOf px a) : PostsAt M' b0 pv P := by
  obtain ⟨pc, h5, h6⟩ := h
  refine ⟨pc, h5.keep fun j hj hnj => hF.2 j hj (fun e => hnj (e ▸ hx)) ((hd j).resolve_left hnj), fun k hk => ?_⟩
  obtain ⟨u, q1, q2⟩ := h6 k hk
  exact ⟨u, q1, q2.keep hF.1 fun a ha hr => hF.2 a ha (hs a _ hr).1 (hs a _ hr).2⟩
theorem BookAt.other {M M' : AM} {b0 bk b1 xk : Nat} {B : Bk} {P : List (List Tr)} {pv px : Value} (h : BookAt M b0 bk B pv) (hX : RBook M b1 xk P px) (hz : P.length = 0 → px = .slice none 0 0) (hF : Fr M M' xk px) (hd : ∀ j, NotOf pv j ∨ NotOf px j) (hne : bk ≠ xk) (h1 : NotOf pv xk) (h2 : NotOf px bk) : BookAt M' b0 bk B pv :=
  ⟨h.lo, by rw [hF.2 bk h.lt hne h2]; exact h.cells, h.lH, h.lC, PostsAt.keep h.row hF hd h1 fun a x hr => ⟨(hX.sep hr).1 hX.slv, by
    by_cases h0 : P.length = 0
    · rw [hz h0]; exact NotOf.nil
    · exact (hX.sep hr).2 (by omega)⟩⟩
theorem RBook.other {M M' : AM} {b0 bk b1 xk : Nat} {B : Bk} {P : List (List Tr)} {pv px : Value} (h : BookAt M b0 bk B pv) (hz : B.P.length = 0 → pv = .slice none 0 0) (hX : RBook M b1 xk P px) (hF : Fr M M' bk pv) (hd : ∀ j, NotOf pv j ∨ NotOf px j) (hne : bk ≠ xk) (h1 : NotOf pv xk) (h2 : NotOf px bk) : RBook M' b1 xk P px :=
  ⟨hX.lo, by rw [hF.2 xk hX.lt (Ne.symm hne) h1]; exact hX.cells, PostsAt.keep hX.posts hF (fun j => (hd j).symm) h2 fun a x hr => ⟨(h.sep hr).1, by
    by_cases h0 : B.P.length = 0
    · rw [hz h0]; exact NotOf.nil
    · exact (h.sep hr).2 (by omega)⟩⟩
/-- Two books side by side, apart. -/
structure Two (M : AM) (b0 bk xk : Nat) (B : Bk) (pv px : Value) : Prop where
  b : BookAt M b0 bk B pv
  x : RBook M b0 xk B.P px
  ne : bk ≠ xk
  dis : ∀ j, NotOf pv j ∨ NotOf px j
  n1 : NotOf pv xk
  n2 : NotOf px bk
  z1 : B.P.length = 0 → pv = .slice none 0 0
  z2 : B.P.length = 0 → px = .slice none 0 0
theorem Two.old {M : AM} {b0 bk xk : Nat} {B : Bk} {pv px : Value} (h : Two M b0 bk xk B pv px) (T : AM) : Two (M ++ T) b0 bk xk B pv px := ⟨h.b.old T, h.x.old T, h.ne, h.dis, h.n1, h.n2, h.z1, h.z2⟩
theorem Two.bfar {M : AM} {b0 bk xk : Nat} {B : Bk} {pv px : Value} (h : Two M b0 bk xk B pv px) (j : Nat) : (j < M.length ∨ NotOf pv j) ∧ (j < M.length ∨ NotOf px j) := by
  obtain ⟨pc, q1, _⟩ := h.b.row
  obtain ⟨pd, q2, _⟩ := h.x.posts
  by_cases hj : j < M.length
  · exact ⟨.inl hj, .inl hj⟩
  · exact ⟨.inr (q1.far (by omega)), .inr (q2.far (by omega))⟩
theorem Row.trs {M : AM} {b0 : Nat} {u : Value} {l : List Tr} (h : Row M b0 4 u (tcs l) l.length) (h0 : 0 < M.length) : Trs M u l := by
  obtain ⟨a, q1, q2, q3⟩ := h.sl h0
  refine ⟨a, 0, q1, q2, fun k hk => ?_⟩
  obtain ⟨b, w1, w2⟩ := q3 (by omega)
  exact ⟨b, w1, fun j v hj => by have := w2 (k * 4 + j) v (tcs_get l k hk j v hj); rwa [show 0 + k * 4 + j = 0 + (k * 4 + j) by omega]⟩
theorem Two.step {M M1 M2 : AM} {b0 bk xk : Nat} {B B' : Bk} {P' : List (List Tr)} {pv px pv' px' : Value} (h : Two M b0 bk xk B pv px) (hb : BookAt M1 b0 bk B' pv') (hF1 : Fr M M1 bk pv) (hn1 : ∀ j, j < M.length → NotOf pv j → NotOf pv' j) (hz1 : B'.P.length = 0 → pv' = pv)
    (hx : RBook M2 b0 xk P' px') (hF2 : Fr M1 M2 xk px) (hn2 : ∀ j, j < M1.length → NotOf px j → NotOf px' j) (hz2 : P'.length = 0 → px' = px) (eP : P' = B'.P) (hP : B'.P.length = 0 → B.P.length = 0) : Two M2 b0 bk xk B' pv' px' := by
  subst eP
  have hx1 := RBook.other h.b h.z1 h.x hF1 h.dis h.ne h.n1 h.n2
  have hl := h.x.lt
  have hl1 := h.b.lt
  have hLL := hF1.1
  have hb2 : BookAt M2 b0 bk B' pv' := BookAt.other hb hx1 h.z2 hF2 (fun j => by
    rcases h.dis j with hj | hj
    · by_cases hlt : j < M.length
      · exact .inl (hn1 j hlt hj)
      · exact .inr ((h.bfar j).2.resolve_left hlt)
    · exact .inr hj) h.ne (hn1 _ hl h.n1) h.n2
  refine ⟨hb2, hx, h.ne, fun j => ?_, hn1 _ hl h.n1, hn2 _ (by omega) h.n2, fun e => by rw [hz1 e]; exact h.z1 (hP e), fun e => by rw [hz2 e]; exact h.z2 (hP e)⟩
  by_cases h1 : j < M.length
  · rcases h.dis j with hj | hj
    · exact .inl (hn1 j h1 hj)
    · exact .inr (hn2 j (by omega) hj)
  · by_cases h2 : j < M1.length
    · exact .inr (hn2 j h2 ((h.bfar j).2.resolve_left h1))
    · obtain ⟨pc, q1, _⟩ := hb.row
      exact .inl (q1.far (by omega))
theorem Two.low {M : AM} {b0 bk xk : Nat} {B : Bk} {pv px : Value} (h : Two M b0 bk xk B pv px) {j : Nat} (hj : j < b0) : j ≠ bk ∧ j ≠ xk ∧ NotOf pv j ∧ NotOf px j := by
  obtain ⟨pc, q1, _⟩ := h.b.row
  obtain ⟨pd, q2, _⟩ := h.x.posts
  have := h.b.lo
  have := h.x.lo
  exact ⟨by omega, by omega, NotOf.row q1 hj, NotOf.row q2 hj⟩
theorem rpostF_num {P : List (List Tr)} {l : List Tr} (h : (rpostF P l).1.length = 0) : (rpostF P l).2.2 ≠ 0 ∧ P.length = 0 := by
  revert h
  unfold rpostF
  split
  · intro h; exact ⟨by simp, h⟩
  · split
    · intro h; exact ⟨by simp, h⟩
    · split
      · intro h; exact ⟨by simp, h⟩
      · intro h; simp at h
/-- What was saved is loaded. -/
theorem LoadSave_ok {M M1 : AM} {B : Bk} {r : Value} (hB : Built B) (hM : ∃ N, M1 = M ++ N) (hr : Row M1 M.length 1 r (by8 (saveB B.P)) (saveB B.P).length) (hlen : (saveB B.P).length ≤ 100000) (h0 : 0 < M1.length) :
    ACall Try.prog 34 #[r] M1 (fun v M2 => ∃ ck pc, v = .tuple #[.pointer (some ⟨ck, 0, none⟩), .int .i64 0] ∧ BookAt M2 M1.length ck B pc ∧ ∃ N, M2 = M ++ N) := by
  obtain ⟨N, hN⟩ := hM
  by_cases hs : 0 < (saveB B.P).length
  · obtain ⟨a, kd, sz, q1, q2, q3, q4⟩ := hr.pos hs
    have hkd : kd.solid = true := by
      rcases hr with ⟨_, _, e⟩ | ⟨a', kd', sz', _, e2, e3, _, e5⟩
      · omega
      · rw [q3] at e2
        simp only [Value.slice.injEq, Option.some.injEq, Addr.mk.injEq] at e2
        obtain ⟨⟨rfl, _⟩, _⟩ := e2
        rw [q4] at e3
        injection e3 with e3; injection e3 with e3
        simp only [Blk.mk.injEq] at e3
        obtain ⟨_, rfl, _⟩ := e3
        rcases e5 with rfl | ⟨rfl, _⟩ <;> rfl
    subst q3
    refine ACall.freeze q4 hkd ?_
    obtain ⟨M3, hM3⟩ : ∃ M3 : AM, M3 = List.set M1 a (some { cells := by8 (saveB B.P), kind := .ro }) := ⟨_, rfl⟩
    have hM3' : M3 = M ++ N.set (a - M.length) (some { cells := by8 (saveB B.P), kind := .ro }) := by
      rw [hM3, hN, List.set_append_right _ _ q1]
    have ha3 : M3[a]? = some (some { cells := by8 (saveB B.P), kind := .ro }) := by rw [hM3]; exact List.getElem?_set_self q2
    have hl3 : M3.length = M1.length := by rw [hM3, List.length_set]
    have hby : BytsAt M3 (.slice (some ⟨a, 0, none⟩) (saveB B.P).length (saveB B.P).length) a 0 (saveB B.P) := BytsAt.of (Sl.mk (Nat.le_refl _)) fun _ => ⟨_, ha3, fun j v hj => by simpa using hj⟩
    have hL := Load_ok hby (by omega) (fun _ => ⟨_, ha3, rfl⟩) hlen
    rw [load_save hB] at hL
    rw [← hM3]
    refine hL.mono ?_
    rintro v M2 ⟨⟨N2, e2⟩, ck, pc, e1, e3⟩
    rw [hl3] at e3
    exact ⟨ck, pc, e1, e3, _, by rw [e2, hM3', List.append_assoc]⟩
  · have h1 : (saveB B.P).length = 0 := by omega
    have h2 : saveB B.P = [] := List.eq_nil_of_length_eq_zero h1
    have hbr := hr.byts h0
    obtain ⟨a, o, w1, w2, w3⟩ := hbr
    have hL := Load_ok (s := saveB B.P) (a := a) (o := o) ⟨w1, fun k hk => absurd hk (by omega)⟩ w2 (fun h => absurd h hs) hlen
    rw [load_save hB] at hL
    refine hL.mono ?_
    rintro v M2 ⟨⟨N2, e2⟩, ck, pc, e1, e3⟩
    exact ⟨ck, pc, e1, e3, _, by rw [e2, hN, List.append_assoc]⟩
theorem Deed.one {x : Deed} {w : Value} {a o n : Nat} (h : Sl w a o n) : (Value.agg (x.cells w).toArray).cells.all (·.oneCell') = true := by
  rcases h with ⟨rfl, _⟩ | ⟨c, _, rfl⟩ | ⟨_, o', k, rfl⟩ <;> simp [Deed.cells, Value.cells, Value.oneCell']
/-- What holds where a block is left. -/
theorem AW.midX {P : Program} {nt : Nat} {m m0 : AM} {t : Fm} {c : Code} {Q : AEx → Fm → AM → Prop} (id : Nat) (Mid : Fm → AM → Prop) (h : AW P nt m0 c t m (fun e t' m' => e = .exit id ∧ Mid t' m')) (h2 : ∀ t' m', Mid t' m' → Q (.exit id) t' m') : AW P nt m0 c t m Q :=
  h.mono fun e t' m' ⟨e1, e2⟩ => by subst e1; exact h2 _ _ e2
set_option maxHeartbeats 16000000 in
set_option maxRecDepth 100000 in
theorem StockSaves_ok {m : AM} (hw : ∀ M : AM, ACall Try.prog 16 #[] M (Ret (.bool true) M)) {v : Value} {ds : List Deed} (h : Deeds m v ds) (hn : ds.length ≤ 9223372036854775807) (hl : ∀ k, (ds.getD k default).l.length ≤ 9223372036854775807) : ACall Try.prog 10 #[v] m (Ret (.bool true) m) := by
  refine ACall.drop (.bool _) ?_
  obtain ⟨a, o, h1, h2, h3⟩ := h
  refine ACall.start Try.func10 rfl rfl ?_
  (repeat (first | (with_reducible refine AWo.cons ?_) | ((with_reducible refine Step.id ?_); first | ((with_reducible apply Step.move); exact rfl; exact rfl) | ((with_reducible apply Step.assign); exact rfl; exact rfl) | ((with_reducible apply Step.ptrNot); exact rfl; exact rfl; exact un49; exact rfl) | ((with_reducible apply Step.len); exact rfl; (focus (assumption)); (focus (decide +kernel)); exact rfl) | ((with_reducible apply Step.callL fit (k := 0)); exact rfl; exact rfl; exact Try.func27; exact rfl; exact rfl; exact (NewBook_ok); (focus (first | (simp only [List.nil_append, List.cons_append, List.set_cons_zero, List.set_cons_succ, iv_set, bv_set, iv_rep, bv_rep]; done) | (simp only [List.nil_append, List.cons_append, List.set_cons_zero, List.set_cons_succ, iv_set, bv_set, iv_rep, bv_rep]; rfl) | rfl))) | ((with_reducible apply Step.box 1); exact rfl; exact rfl; (focus (kernel_rfl)); exact rfl; (focus (first | (simp only [List.nil_append, List.cons_append, List.set_cons_zero, List.set_cons_succ, iv_set, bv_set, iv_rep, bv_rep]; done) | (simp only [List.nil_append, List.cons_append, List.set_cons_zero, List.set_cons_succ, iv_set, bv_set, iv_rep, bv_rep]; rfl) | rfl))) | ((with_reducible apply Step.build); exact rfl; exact bl88; exact rfl)) | (with_reducible refine AWo.nil ?_) | ((with_reducible apply AW.seq)) | ((with_reducible apply Then.n)) | ((with_reducible apply AW.regL)) | ((with_reducible apply AW.block)) | ((with_reducible apply AW.skip)) | ((with_reducible apply AW.condF); exact rfl; (focus (rfl)))))
  refine AW.midX 0 (fun t' M => ∃ (k bk xk : Nat) (pv px : Value), k ≤ 41 ∧ Two M m.length bk xk (bkF (ds.take k)) pv px ∧ (∃ N, M = m ++ N) ∧ All (fun i v => t' i = some v) [(3, .pointer (some ⟨bk, 0, none⟩)), (4, .pointer (some ⟨xk, 0, none⟩))]) ?_ ?_
  · refine AW.loopW (fun q t M => ∃ (k bk xk : Nat) (pv px : Value), q = ds.length - k ∧ k ≤ ds.length ∧ k ≤ 41 ∧ Two M m.length bk xk (bkF (ds.take k)) pv px ∧ (∃ N, M = m ++ N) ∧
      t = fr [(3, .pointer (some ⟨bk, 0, none⟩)), (4, .pointer (some ⟨xk, 0, none⟩)), (19, v), (20, .int .i64 (ds.length : Nat)), (21, .int .i64 (k : Nat))])
      ⟨_, _, (by repeat (first | exact trivial | (refine And.intro rfl ?_))), 0, m.length + 0, m.length + 1, .slice none 0 0, .slice none 0 0, rfl, Nat.zero_le _, Nat.zero_le _,
        ⟨⟨by omega, by rw [get_app]; rfl, Good.new.lH, Good.new.lC, ⟨[], Row.nil, fun k hk => absurd hk (Nat.not_lt_zero _)⟩⟩,
         ⟨by omega, by rw [get_app]; rfl, ⟨[], Row.nil, fun k hk => absurd hk (Nat.not_lt_zero _)⟩⟩, by omega, fun _ => .inl NotOf.nil, NotOf.nil, NotOf.nil, fun _ => rfl, fun _ => rfl⟩, ⟨_, rfl⟩, rfl⟩ ?_
    rintro q t M ⟨k, bk, xk, pv, px, rfl, hk, hk41, hT, ⟨N, rfl⟩, rfl⟩
    have hbl := hT.b.lt
    have hxl := hT.x.lt
    rcases Nat.lt_or_ge k ds.length with hlt | hge
    · obtain ⟨w, g1, g2⟩ := h3 k hlt
      have g1 := fun T => (g1.old N).old T
      have hle := hl k
      have hsn := take_snocD ds k hlt
      generalize ds.getD k default = x at *
      have hw1 : (Value.agg (x.cells w).toArray).cells.all (·.oneCell') = true := by obtain ⟨aa, oo, hs, _⟩ := g2; exact Deed.one hs
      have hpo := fun M h => post_ok (m := M) (v := w) (l := x.l) h (by omega)
      refine AW.rebase ?_
      by_cases h40 : 40 < k
      · (repeat (first | (with_reducible refine AWo.cons ?_) | ((with_reducible refine Step.id ?_); first | ((with_reducible apply Step.move); exact rfl; exact rfl) | ((with_reducible apply Step.assign); exact rfl; exact rfl) | ((with_reducible apply Step.loadL (n := 5)); exact rfl; (focus (decide +kernel)); (focus (decide +kernel)); exact rfl; (focus (exact g1 _)); exact rfl; exact rfl) | ((with_reducible apply Step.ix (s := 5)); exact rfl; (focus (assumption)); exact rfl; (focus (decide +kernel)); exact rfl; (focus (omega))) | ((with_reducible apply Step.lss); exact rfl; exact rfl; exact rfl) | ((with_reducible apply Step.gtr); exact rfl; exact rfl; exact rfl) | ((with_reducible apply Step.alloc 0); exact rfl; exact ze52; exact rfl; (focus (first | (simp only [List.nil_append, List.cons_append, List.set_cons_zero, List.set_cons_succ, iv_set, bv_set, iv_rep, bv_rep]; done) | (simp only [List.nil_append, List.cons_append, List.set_cons_zero, List.set_cons_succ, iv_set, bv_set, iv_rep, bv_rep]; rfl) | rfl))) | ((with_reducible apply Step.storeA (k := 0) (n := 5)); exact rfl; exact rfl; exact rfl; exact rfl; (focus (decide +kernel)); exact rfl; (focus (first | assumption | exact hw1)); exact rfl; (focus (first | (simp only [List.nil_append, List.cons_append, List.set_cons_zero, List.set_cons_succ, iv_set, bv_set, iv_rep, bv_rep]; done) | (simp only [List.nil_append, List.cons_append, List.set_cons_zero, List.set_cons_succ, iv_set, bv_set, iv_rep, bv_rep]; rfl) | rfl)))) | (with_reducible refine AWo.nil ?_) | ((with_reducible apply AW.seq)) | ((with_reducible apply Then.n)) | ((with_reducible apply AW.regL)) | ((with_reducible apply AW.block)) | ((with_reducible apply AW.exit)) | ((with_reducible apply InBlk.miss); exact rfl) | ((with_reducible apply Then.e)) | ((with_reducible apply AW.skip)) | ((with_reducible apply AW.condT); exact rfl; (focus ((simp only [decide_eq_true_eq, decide_eq_false_iff_not, Bool.not_eq_true', Bool.not_eq_false', Bool.not_true, Bool.not_false]; first | assumption | omega))))))
        exact ⟨rfl, k, bk, xk, pv, px, hk41, hT.old _, ⟨_, List.append_assoc _ _ _⟩, (by repeat (first | exact trivial | (refine And.intro rfl ?_)))⟩
      · have hbF := bkF_built (ds.take k) Bk.new .new Good.new
        change Built (bkF (ds.take k)) ∧ Good (bkF (ds.take k)) ∧ (bkF (ds.take k)).P.length ≤ _ at hbF
        rw [List.length_take, show Bk.new.P.length = 0 from rfl] at hbF
        obtain ⟨hBu, hG, hPl⟩ := hbF
        have hsn' : bkF (ds.take (k + 1)) = (postF (bkF (ds.take k)) x.l).1 := by rw [hsn, bkF_snoc]
        generalize bkF (ds.take k) = B at *
        obtain ⟨X, hX⟩ : ∃ X : AM, X = (m ++ N) ++ [some { cells := x.cells w }] := ⟨_, rfl⟩
        have hXl : X.length = (m ++ N).length + 1 := by rw [hX, List.length_append]; rfl
        have hTX : Two X m.length bk xk B pv px := by rw [hX]; exact hT.old _
        (repeat (first | (with_reducible refine AWo.cons ?_) | ((with_reducible refine Step.id ?_); first | ((with_reducible apply Step.move); exact rfl; exact rfl) | ((with_reducible apply Step.assign); exact rfl; exact rfl) | ((with_reducible apply Step.load); exact rfl; (focus (decide +kernel)); exact rfl; (focus (exact Rd.new rfl rfl))) | ((with_reducible apply Step.loadL (n := 5)); exact rfl; (focus (decide +kernel)); (focus (decide +kernel)); exact rfl; (focus (exact g1 _)); exact rfl; exact rfl) | ((with_reducible apply Step.ix (s := 5)); exact rfl; (focus (assumption)); exact rfl; (focus (decide +kernel)); exact rfl; (focus (omega))) | ((with_reducible apply Step.field (k := 4)); exact rfl; (focus (decide +kernel)); exact rfl) | ((with_reducible apply Step.lss); exact rfl; exact rfl; exact rfl) | ((with_reducible apply Step.gtr); exact rfl; exact rfl; exact rfl) | ((with_reducible apply Step.alloc 0); exact rfl; exact ze52; exact rfl; (focus (first | (simp only [List.nil_append, List.cons_append, List.set_cons_zero, List.set_cons_succ, iv_set, bv_set, iv_rep, bv_rep]; done) | (simp only [List.nil_append, List.cons_append, List.set_cons_zero, List.set_cons_succ, iv_set, bv_set, iv_rep, bv_rep]; rfl) | rfl))) | ((with_reducible apply Step.storeA (k := 0) (n := 5)); exact rfl; exact rfl; exact rfl; exact rfl; (focus (decide +kernel)); exact rfl; (focus (first | assumption | exact hw1)); exact rfl; (focus (first | (simp only [List.nil_append, List.cons_append, List.set_cons_zero, List.set_cons_succ, iv_set, bv_set, iv_rep, bv_rep]; done) | (simp only [List.nil_append, List.cons_append, List.set_cons_zero, List.set_cons_succ, iv_set, bv_set, iv_rep, bv_rep]; rfl) | rfl)))) | (with_reducible refine AWo.nil ?_) | ((with_reducible apply AW.seq)) | ((with_reducible apply Then.n)) | ((with_reducible apply AW.regL)) | ((with_reducible apply AW.block)) | ((with_reducible apply AW.skip)) | ((with_reducible apply AW.condT); exact rfl; (focus ((simp only [decide_eq_true_eq, decide_eq_false_iff_not, Bool.not_eq_true', Bool.not_eq_false', Bool.not_true, Bool.not_false]; first | assumption | omega)))) | ((with_reducible apply AW.condF); exact rfl; (focus ((simp only [decide_eq_true_eq, decide_eq_false_iff_not, Bool.not_eq_true', Bool.not_eq_false', Bool.not_true, Bool.not_false]; first | assumption | omega))))))
        rw [show (m ++ N ++ [some { cells := (Value.agg (x.cells w).toArray).cells.toList }] : AM) = X from hX.symm]
        ((with_reducible apply Step.callX fit); exact rfl; exact Try.func29; exact rfl; exact rfl; exact (hpo _ (by rw [hX, List.append_assoc]; exact g2.old _)))
        rintro r1 M1 ⟨N1, hN1⟩ hr1
        have hT1 : Two M1 m.length bk xk B pv px := by rw [hN1]; exact hTX.old _
        have hlk : (x.l.take 18).length ≤ 18 := by rw [List.length_take]; omega
        have hM1l : X.length ≤ M1.length := by rw [hN1, List.length_append]; omega
        have hP1 := Post_ok hT1.b (l := x.l.take 18) (fun M hF => Row.trsKeep hT1.b.row (fun a y hr => (hT1.b.sep hr).1) hr1 (by omega) hF) hG.bd (by omega) (by omega)
        rw [(postF_take B x.l).1, (postF_take B x.l).2] at hP1
        (repeat ((with_reducible refine AWo.cons ?_)))
        ((with_reducible apply Step.callF fit); exact rfl; exact Try.func28; exact rfl; exact rfl; (focus (rw [List.append_nil]; exact hP1)))
        rintro r2 M2 ⟨u, rfl, hB2, hF2, hn2, hz2⟩
        have hX2 := RBook.other hT1.b hT1.z1 hT1.x hF2 hT1.dis hT1.ne hT1.n1 hT1.n2
        have hM2 : ∃ N, M2 = m ++ N := pre_keep (M := M1) ⟨N ++ ([some { cells := x.cells w }] ++ N1), by rw [hN1, hX]; simp only [List.append_nil, List.append_assoc]⟩ hF2.1 fun j hj => hF2.2 j (by rw [hXl, List.length_append] at hM1l; omega) (hT1.low hj).1 (hT1.low hj).2.2.1
        have rq : ∀ T, Rd (M2 ++ T) ((m ++ N).length + 0) 4 w := fun T => Rd.old T ⟨{ cells := x.cells w }, by
          rw [hF2.2 _ (by omega) (by omega) ((hT.bfar _).1.resolve_left (by omega)), hN1, List.getElem?_append_left (by omega), hX, get_app]; rfl, rfl⟩
        have hfl := flat_len hG.ok
        have hX2' := RPost_ok hX2 (l := x.l) (v := w) (fun M hF => by
          obtain ⟨N2, hN2⟩ := hM2
          obtain ⟨N3, hN3⟩ := pre_keep (m0 := m) (M := M2) ⟨N2, hN2⟩ hF.1 fun j hj => hF.2 j (by rw [hN2, List.length_append]; omega) (hT1.low hj).2.1 (hT1.low hj).2.2.2
          rw [hN3]; exact g2.old _) (by omega) hG.small (by omega) (by omega)
        rw [← List.append_nil M2]
        (repeat (first | (with_reducible refine AWo.cons ?_) | ((with_reducible refine Step.id ?_); first | ((with_reducible apply Step.move); exact rfl; exact rfl) | ((with_reducible apply Step.load); exact rfl; (focus (decide +kernel)); exact rfl; (focus (exact rq _))) | ((with_reducible apply Step.field (k := 4)); exact rfl; (focus (decide +kernel)); exact rfl)) | (with_reducible refine AWo.nil ?_) | ((with_reducible apply Then.n)) | ((with_reducible apply AW.regL))))
        ((with_reducible apply Step.callF fit); exact rfl; exact Try.func44; exact rfl; exact rfl; (focus (rw [List.append_nil]; exact hX2')))
        rintro r3 M3 ⟨ux, rfl, hX3, hF3, hn3, hz3⟩
        rw [← List.append_nil M3]
        (repeat (first | (with_reducible refine AWo.cons ?_) | ((with_reducible refine Step.id ?_); first | ((with_reducible apply Step.move); exact rfl; exact rfl) | ((with_reducible apply Step.add); exact rfl; exact rfl; (focus (omega)); exact rfl)) | (with_reducible refine AWo.nil ?_) | ((with_reducible apply Then.n)) | ((with_reducible apply AW.regL)) | ((with_reducible apply InBlk.n))))
        refine ⟨_, [(3, .pointer (some ⟨bk, 0, none⟩)), (4, .pointer (some ⟨xk, 0, none⟩)), (19, v), (20, .int .i64 (ds.length : Nat)), (21, .int .i64 (k + 1 : Nat))], by omega, (by repeat (first | exact trivial | (refine And.intro rfl ?_))), k + 1, bk, xk, u, ux, rfl, by omega, by omega, ?_, ?_, rfl⟩
        · rw [hsn', List.append_nil]
          exact Two.step hT1 hB2 hF2 hn2 hz2 hX3 hF3 hn3 (fun e => (hz3 (rpostF_num e).1).2) (post_eq hG x.l).2.symm (fun e => (rpostF_num (by rw [← (post_eq hG x.l).2]; exact e)).2)
        · obtain ⟨N2, hN2⟩ := hM2
          obtain ⟨N3, hN3⟩ := pre_keep (m0 := m) (M := M2) ⟨N2, hN2⟩ hF3.1 fun j hj => hF3.2 j (by rw [hN2, List.length_append]; omega) (hT1.low hj).2.1 (hT1.low hj).2.2.2
          exact ⟨N3, by rw [List.append_nil]; exact hN3⟩
    · obtain rfl : k = ds.length := by omega
      (repeat (first | (with_reducible refine AWo.cons ?_) | ((with_reducible refine Step.id ?_); ((with_reducible apply Step.lss); exact rfl; exact rfl; exact rfl)) | (with_reducible refine AWo.nil ?_) | ((with_reducible apply AW.seq)) | ((with_reducible apply Then.n)) | ((with_reducible apply AW.regL)) | ((with_reducible apply AW.exit)) | ((with_reducible apply Then.e)) | ((with_reducible apply AW.condF); exact rfl; (focus ((simp only [decide_eq_true_eq, decide_eq_false_iff_not, Bool.not_eq_true', Bool.not_eq_false', Bool.not_true, Bool.not_false]; first | assumption | omega))))))
      exact ⟨rfl, _, bk, xk, pv, px, hk41, hT, ⟨_, rfl⟩, (by repeat (first | exact trivial | (refine And.intro rfl ?_)))⟩
  · rintro t' M ⟨k, bk, xk, pv, px, hk41, hT, ⟨N, rfl⟩, hsl⟩
    refine InBlk.hit ?_
    refine Then.n ?_
    refine AW.weak (fr_all hsl) ?_
    clear hsl
    refine AW.rebase ?_
    have hbl := hT.b.lt
    have hxl := hT.x.lt
    have hbF := bkF_built (ds.take k) Bk.new .new Good.new
    change Built (bkF (ds.take k)) ∧ Good (bkF (ds.take k)) ∧ (bkF (ds.take k)).P.length ≤ _ at hbF
    rw [List.length_take, show Bk.new.P.length = 0 from rfl] at hbF
    obtain ⟨hBu, hG, hPl⟩ := hbF
    generalize bkF (ds.take k) = B at *
    have hSv := fun T => Save_row (hT.b.old T) hG.ok (by omega)
    have hsl := saveB_len hG.ok
    (repeat (first | (with_reducible refine AWo.cons ?_) | ((with_reducible refine Step.id ?_); ((with_reducible apply Step.move); exact rfl; exact rfl)) | ((with_reducible apply AW.seq)) | ((with_reducible apply AW.regL))))
    ((with_reducible apply Step.callX fit); exact rfl; exact Try.func36; exact rfl; exact rfl; exact (hSv _))
    rintro r1 M1 ⟨N1, hN1⟩ hr1
    rw [List.append_nil] at hN1
    have hLd := LoadSave_ok hBu ⟨N1, hN1⟩ (hr1.low (by simp)) (by omega) (by rw [hN1, List.length_append]; omega)
    (repeat ((with_reducible refine AWo.cons ?_)))
    ((with_reducible apply Step.callF fit); exact rfl; exact Try.func34; exact rfl; exact rfl; (focus (rw [List.append_nil]; exact hLd)))
    rintro r2 M2 ⟨ck, pc, rfl, hC, N2, rfl⟩
    have hT2 := fun T => (hT.old N2).old T
    have hC2 := fun T => hC.old T
    have hS1 := fun T => Save_ok (hT2 T).b hG.ok (by omega)
    have hS2 := fun T => RSave_ok (hT2 T).x hG.ok (by omega)
    have hS3 := fun T => Save_ok (hC2 T) hG.ok (by omega)
    have hla1 := fun T => Last_ok (hT2 T).b
    have hla2 := fun T => Last_ok (hC2 T)
    have hcnt := fun T => counts_ok (hC2 T) (hT2 T).x hG (by omega)
    have hcl := hC.lt
    obtain ⟨Z, hZ⟩ : ∃ Z : AM, Z = m ++ N ++ N2 := ⟨_, rfl⟩
    have hZm : ∀ T : AM, ∃ N, Z ++ T = m ++ N := fun T => ⟨N ++ (N2 ++ T), by rw [hZ]; simp only [List.append_assoc]⟩
    have hZl : bk < Z.length ∧ xk < Z.length ∧ ck < Z.length := by rw [hZ]; simp only [List.length_append] at *; omega
    rw [← hZ] at hcl
    simp only [← hZ] at hS1 hS2 hS3 hla1 hla2 hcnt hT2 hC2
    rw [← hZ, ← List.append_nil Z]
    (repeat (first | (with_reducible refine AWo.cons ?_) | ((with_reducible refine Step.id ?_); first | ((with_reducible apply Step.gdT); exact rfl; exact rfl; (focus (first | rfl | (simp; done)))) | ((with_reducible apply Step.move); exact rfl; exact rfl) | ((with_reducible apply Step.assign); exact rfl; exact rfl) | ((with_reducible apply Step.ptrNot); exact rfl; exact rfl; exact un49; exact rfl) | ((with_reducible apply Step.neq); exact rfl; exact rfl; exact rfl) | ((with_reducible apply Step.extract); exact rfl; exact rfl; exact rfl) | ((with_reducible apply Step.pickF); exact rfl; exact rfl; exact rfl; exact rfl; (focus (rfl))) | ((with_reducible apply Step.callR fit); exact rfl; exact Try.func39; exact rfl; exact rfl; exact (hla1 _)) | ((with_reducible apply Step.callR fit); exact rfl; exact Try.func39; exact rfl; exact rfl; exact (hla2 _))) | (with_reducible refine AWo.nil ?_) | ((with_reducible apply AW.seq)) | ((with_reducible apply Then.n)) | ((with_reducible apply AW.regL))))
    ((with_reducible apply Step.callX fit); exact rfl; exact Try.func36; exact rfl; exact rfl; exact (hS1 _))
    rintro r3 M3 ⟨N3, hN3⟩ hb3
    rw [List.append_nil] at hN3
    subst hN3
    (repeat (first | (with_reducible refine AWo.cons ?_) | ((with_reducible refine Step.id ?_); first | ((with_reducible apply Step.gdT); exact rfl; exact rfl; (focus ((simp; done)))) | ((with_reducible apply Step.move); exact rfl; exact rfl))))
    ((with_reducible apply Step.callX fit); exact rfl; exact Try.func45; exact rfl; exact rfl; (focus (rw [List.append_nil]; exact hS2 _)))
    rintro r4 M4 ⟨N4, hN4⟩ hb4
    rw [List.append_nil, List.append_assoc] at hN4
    subst hN4
    have hE := fun T => Equal_ok (by rw [← List.append_assoc]; exact (hb3.old N4).old T : Byts (Z ++ (N3 ++ N4) ++ T) r3 (saveB B.P)) (hb4.old T)
    rw [beq_self_eq_true] at hE
    (repeat (first | (with_reducible refine AWo.cons ?_) | ((with_reducible refine Step.id ?_); first | ((with_reducible apply Step.gdT); exact rfl; exact rfl; (focus (first | rfl | (simp; done)))) | ((with_reducible apply Step.move); exact rfl; exact rfl) | ((with_reducible apply Step.not); exact rfl; exact rfl) | ((with_reducible apply Step.pickF); exact rfl; exact rfl; exact rfl; exact rfl; (focus ((simp; done)))) | ((with_reducible apply Step.callR fit); exact rfl; exact Try.func19; exact rfl; exact rfl; exact (hE _)))))
    ((with_reducible apply Step.callX fit); exact rfl; exact Try.func36; exact rfl; exact rfl; (focus (rw [List.append_nil]; exact hS3 _)))
    rintro r5 M5 ⟨N5, hN5⟩ hb5
    rw [List.append_nil, List.append_assoc] at hN5
    subst hN5
    (repeat (first | (with_reducible refine AWo.cons ?_) | ((with_reducible refine Step.id ?_); first | ((with_reducible apply Step.gdT); exact rfl; exact rfl; (focus (rfl))) | ((with_reducible apply Step.move); exact rfl; exact rfl))))
    ((with_reducible apply Step.callX fit); exact rfl; exact Try.func36; exact rfl; exact rfl; (focus (rw [List.append_nil]; exact hS1 _)))
    rintro r6 M6 ⟨N6, hN6⟩ hb6
    rw [List.append_nil, List.append_assoc] at hN6
    subst hN6
    have hE := fun T => Equal_ok (by rw [← List.append_assoc Z]; exact (hb5.old N6).old T : Byts (Z ++ ((N3 ++ N4 ++ N5) ++ N6) ++ T) r5 (saveB B.P)) (hb6.old T)
    rw [beq_self_eq_true] at hE
    (repeat (first | (with_reducible refine AWo.cons ?_) | ((with_reducible refine Step.id ?_); first | ((with_reducible apply Step.gdT); exact rfl; exact rfl; (focus (rfl))) | ((with_reducible apply Step.move); exact rfl; exact rfl) | ((with_reducible apply Step.not); exact rfl; exact rfl) | ((with_reducible apply Step.pickF); exact rfl; exact rfl; exact rfl; exact rfl; (focus (rfl))) | ((with_reducible apply Step.callR fit); exact rfl; exact Try.func19; exact rfl; exact rfl; exact (hE _)) | ((with_reducible apply Step.callR fit); exact rfl; exact Try.func37; exact rfl; exact rfl; exact ((by rw [List.append_nil]; exact hcnt _))) | ((with_reducible apply Step.callR fit); exact rfl; exact Try.func39; exact rfl; exact rfl; exact ((by rw [List.append_nil]; exact hla2 _)))) | (with_reducible refine AWo.nil ?_) | ((with_reducible apply AW.seq)) | ((with_reducible apply Then.n)) | ((with_reducible apply AW.regL)) | ((with_reducible apply AW.block)) | ((with_reducible apply AW.skip)) | ((with_reducible apply AW.condF); exact rfl; (focus (rfl)))))
    refine AW.loopW (fun q t M => ∃ (k : Nat) (T : AM), q = B.P.length - k ∧ k ≤ B.P.length ∧ M = Z ++ T ∧ t = fr [(3, .pointer (some ⟨bk, 0, none⟩)), (7, .pointer (some ⟨ck, 0, none⟩)), (80, .int .i64 (B.P.length : Nat)), (81, .int .i64 (k : Nat))])
      ⟨_, _, (by repeat (first | exact trivial | (refine And.intro rfl ?_))), 0, (N3 ++ N4 ++ N5) ++ N6, rfl, Nat.zero_le _, by rw [List.append_nil], rfl⟩ ?_
    rintro q t M ⟨k, T, rfl, hk, rfl, rfl⟩
    rcases Nat.lt_or_ge k B.P.length with hlt | hge
    · have hmem : B.P.getD k [] ∈ B.P := by rw [List.getD_eq_getElem?_getD, List.getElem?_eq_getElem hlt]; exact List.getElem_mem hlt
      have hll := postB_all (hG.ok _ hmem)
      have hf1 := fun T => Find_ok (hT2 T).b hlt hG.ok (by omega)
      have hf2 := fun T => Find_ok (hC2 T) hlt hG.ok (by omega)
      refine AW.rebase ?_
      (repeat (first | (with_reducible refine AWo.cons ?_) | ((with_reducible refine Step.id ?_); first | ((with_reducible apply Step.move); exact rfl; exact rfl) | ((with_reducible apply Step.assign); exact rfl; exact rfl) | ((with_reducible apply Step.add); exact rfl; exact rfl; (focus (omega)); exact rfl) | ((with_reducible apply Step.lss); exact rfl; exact rfl; exact rfl)) | (with_reducible refine AWo.nil ?_) | ((with_reducible apply AW.seq)) | ((with_reducible apply Then.n)) | ((with_reducible apply AW.regL)) | ((with_reducible apply AW.block)) | ((with_reducible apply AW.skip)) | ((with_reducible apply AW.condT); exact rfl; (focus ((simp only [decide_eq_true_eq, decide_eq_false_iff_not, Bool.not_eq_true', Bool.not_eq_false', Bool.not_true, Bool.not_false]; first | assumption | omega))))))
      ((with_reducible apply Step.callX fit); exact rfl; exact Try.func40; exact rfl; exact rfl; (focus (rw [List.append_nil]; exact hf1 _)))
      rintro r7 M7 ⟨N7, hN7⟩ ⟨u1, rfl, hu1⟩
      rw [List.append_nil, List.append_assoc] at hN7
      subst hN7
      (repeat (first | (with_reducible refine AWo.cons ?_) | ((with_reducible refine Step.id ?_); first | ((with_reducible apply Step.move); exact rfl; exact rfl) | ((with_reducible apply Step.assign); exact rfl; exact rfl) | ((with_reducible apply Step.add); exact rfl; exact rfl; (focus (omega)); exact rfl) | ((with_reducible apply Step.extract); exact rfl; exact rfl; exact rfl)) | (with_reducible refine AWo.nil ?_) | ((with_reducible apply AW.seq)) | ((with_reducible apply Then.n)) | ((with_reducible apply AW.regL))))
      ((with_reducible apply Step.callX fit); exact rfl; exact Try.func40; exact rfl; exact rfl; (focus (rw [List.append_nil]; exact hf2 _)))
      rintro r8 M8 ⟨N8, hN8⟩ ⟨u2, rfl, hu2⟩
      rw [List.append_nil, List.append_assoc] at hN8
      subst hN8
      have hE := EqualT_ok (m := Z ++ ((T ++ N7) ++ N8)) (v := u1) (w := u2) (l := B.P.getD k []) (by rw [← List.append_assoc]; exact (hu1.old _).trs (by simp only [List.length_append]; omega)) (hu2.trs (by simp only [List.length_append]; omega)) (by omega)
      (repeat (first | (with_reducible refine AWo.cons ?_) | ((with_reducible refine Step.id ?_); first | ((with_reducible apply Step.gdT); exact rfl; exact rfl; (focus (rfl))) | ((with_reducible apply Step.move); exact rfl; exact rfl) | ((with_reducible apply Step.assign); exact rfl; exact rfl) | ((with_reducible apply Step.add); exact rfl; exact rfl; (focus (omega)); exact rfl) | ((with_reducible apply Step.neq); exact rfl; exact rfl; exact rfl) | ((with_reducible apply Step.not); exact rfl; exact rfl) | ((with_reducible apply Step.extract); exact rfl; exact rfl; exact rfl) | ((with_reducible apply Step.pickF); exact rfl; exact rfl; exact rfl; exact rfl; (focus (rfl))) | ((with_reducible apply Step.callR fit); exact rfl; exact Try.func46; exact rfl; exact rfl; exact ((by rw [List.append_nil]; exact hE)))) | (with_reducible refine AWo.nil ?_) | ((with_reducible apply AW.seq)) | ((with_reducible apply Then.n)) | ((with_reducible apply AW.regL)) | ((with_reducible apply InBlk.n)) | ((with_reducible apply AW.skip)) | ((with_reducible apply AW.condF); exact rfl; (focus (rfl)))))
      exact ⟨_, [(3, .pointer (some ⟨bk, 0, none⟩)), (7, .pointer (some ⟨ck, 0, none⟩)), (80, .int .i64 (B.P.length : Nat)), (81, .int .i64 (k + 1 : Nat))], by omega, (by repeat (first | exact trivial | (refine And.intro rfl ?_))), k + 1, _, rfl, by omega, by rw [List.append_nil], rfl⟩
    · obtain rfl : k = B.P.length := by omega
      refine AW.rebase ?_
      (repeat (first | (with_reducible refine AWo.cons ?_) | ((with_reducible refine Step.id ?_); first | ((with_reducible apply Step.assign); exact rfl; exact rfl) | ((with_reducible apply Step.lss); exact rfl; exact rfl; exact rfl) | ((with_reducible apply Step.callR fit); exact rfl; exact Try.func16; exact rfl; exact rfl; exact (hw _))) | (with_reducible refine AWo.nil ?_) | ((with_reducible apply AW.seq)) | ((with_reducible apply Then.n)) | ((with_reducible apply AW.regL)) | ((with_reducible apply AW.exit)) | ((with_reducible apply InBlk.hit)) | ((with_reducible apply Then.e)) | ((with_reducible apply AW.condF); exact rfl; (focus ((simp only [decide_eq_true_eq, decide_eq_false_iff_not, Bool.not_eq_true', Bool.not_eq_false', Bool.not_true, Bool.not_false]; first | assumption | omega))))))
      (refine AW.ret ?_; (repeat (first | refine Then.r ?_ | refine InBlk.r ?_)))
      obtain ⟨N9, hN9⟩ := hZm T
      exact ⟨_, rfl, rfl, N9, by rw [List.append_nil]; exact hN9⟩
end Go.Proofs.Ytabdnepfcohncaa.Abs
namespace Go.Proofs.Ytabdnepfcohncaa.Abs
set_option linter.unusedSimpArgs false
set_option linter.unusedVariables false
open Go.RowKit
open Go.Proofs.Ytabdnepfcohncaa.Sim
open Go.Proofs
open Go.ChangeShapes Go.WideShapes Go.Deep
section
variable {H : Type} {enc : TypeId × Value → H} {P : Program} {w : World} {base : Nat} {held : Bool}
end
/-- The deeds of an argument are few enough to be counted. -/
structure DShort (ds : List Deed) : Prop where
  n : ds.length ≤ 9223372036854775807
  l : ∀ k, (ds.getD k default).l.length ≤ 9223372036854775807
theorem short_deeds {F : Nat → Deed} {n : Nat} (h : n ≤ maxLen) (hF : ∀ k, (F k).l.length ≤ maxLen) : DShort ((List.range n).map F) := by
  unfold maxLen at *
  refine ⟨by simp; omega, fun k => ?_⟩
  by_cases hk : k < n
  · have e : ((List.range n).map F).getD k default = F k := by simp [hk]
    rw [e]
    have := hF k
    omega
  · have e : ((List.range n).map F).getD k default = default := by simp [hk]
    rw [e]
    show ([] : List Tr).length ≤ _
    simp
end Go.Proofs.Ytabdnepfcohncaa.Abs
