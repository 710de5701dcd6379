/- Proved here: what the proof of StockApart rests on, part 3 of 3. Conditions: those that each theorem names. -/
import Derived.Test.YtabdnepfcohncaaStockApartK2
namespace Go.Proofs.Ytabdnepfcohncaa.Abs
set_option linter.unusedSimpArgs false
set_option linter.unusedVariables false
open Go.RowKit
open Go.Proofs.Ytabdnepfcohncaa.Sim
open Go.Proofs
section
variable {P : Program} {nt : Nat} {ops : Array Oper} {t : Fm} {m : AM} {K : Fm → AM → Prop} {d T : Nat} {p : String} {af : Array Edge}
theorem Step.toB {x : Operand} {S D : TypeId} {a : Nat} (hx : evo t x = some (.int .i64 ((a : Nat) : Int))) (hS : P.underlying S = some (.int .i64)) (hD : P.underlying D = some (.int .u8)) (hlt : Nat.blt d nt = true) (hK : K (put t d (.int .u8 ((UInt8.ofNat a).toNat : Nat))) m) :
    Step P nt ops ⟨some d, .convert S D x, T, p, af, none⟩ t m K := by
  refine .ground rfl rfl hlt (by simp [Op.operands, hx, g1, g0]) (fun h => by simpa [aquiet] using h) ?_ (by simp [g1, g0]) hK
  have hw : IntKind.u8.wrap ((a : Nat) : Int) = ((UInt8.ofNat a).toNat : Nat) := by
    rw [show IntKind.u8.wrap ((a : Nat) : Int) = ((a : Nat) : Int) % 256 from rfl, UInt8.toNat_ofNat']
    omega
  simp only [execOp, evD_of hx, bind]
  rw [still_bind]
  unfold convert
  simp only [bind]
  rw [still_bind, still_und hS]
  simp only
  rw [still_bind, still_und hD]
  simp [Conv.intToInt, hw, pure, Sim.still]
end
/-- A number as bytes, the highest first. -/
def be (n : Nat) : Nat → List UInt8
  | 0 => []
  | k + 1 => UInt8.ofNat (n / 2 ^ (8 * k)) :: be n k
theorem bs22 {m : AM} {k : Nat} {a : Int} : abuildSlice Try.prog m k 22 1 [(0, .int .u8 a)] = some (.slice (some ⟨k, 0, none⟩) 1 1, m.set k (some { cells := [.int .u8 a] })) := by kernel_rfl
/-- What an addition to a row leaves as it was. -/
def Add (m M : AM) (v r : Value) : Prop := m.length ≤ M.length ∧ (∀ j, j < m.length → NotOf v j → M[j]? = m[j]?) ∧ ∀ j, j < m.length → NotOf v j → NotOf r j
theorem Add.trans {m M M' : AM} {v r w : Value} (h : Add m M v r) (h' : Add M M' r w) : Add m M' v w :=
  ⟨Nat.le_trans h.1 h'.1, fun j hj hn => by rw [h'.2.1 j (by have := h.1; omega) (h.2.2 j hj hn), h.2.1 j hj hn], fun j hj hn => h'.2.2 j (by have := h.1; omega) (h.2.2 j hj hn)⟩
theorem Add.refl (m : AM) (v : Value) : Add m m v v := ⟨Nat.le_refl _, fun _ _ _ => rfl, fun _ _ h => h⟩
theorem Add.low {m M : AM} {v r : Value} (T : AM) (h : Add (m ++ T) M v r) : Add m M v r :=
  ⟨by have := h.1; rw [List.length_append] at this; omega, fun j hj hn => by rw [h.2.1 j (by rw [List.length_append]; omega) hn, List.getElem?_append_left hj], fun j hj hn => h.2.2 j (by rw [List.length_append]; omega) hn⟩
set_option maxHeartbeats 4000000 in
set_option maxRecDepth 100000 in
theorem put_ok {m : AM} {b0 : Nat} {v : Value} {l : List UInt8} {n s : Nat} (h : Row m b0 1 v (by8 l) l.length) (hb0 : b0 ≤ m.length) (hl : l.length ≤ 1000000000) (hn : n ≤ 9223372036854775807) (hs : s ≤ 8) :
    ACall Try.prog 96 #[v, .int .i64 (n : Nat), .int .i64 (s : Nat)] m (fun r M => Row M b0 1 r (by8 (l ++ be n s)) (l ++ be n s).length ∧ Add m M v r) := by
  refine ACall.start Try.func96 rfl rfl ?_
  (repeat (first | (with_reducible refine AWo.cons ?_) | ((with_reducible refine Step.id ?_); first | ((with_reducible apply Step.move); exact rfl; exact rfl) | ((with_reducible apply Step.assign); exact rfl; exact rfl) | ((with_reducible apply Step.sub); exact rfl; exact rfl; (focus (omega)); exact rfl)) | (with_reducible refine AWo.nil ?_) | ((with_reducible apply AW.seq)) | ((with_reducible apply Then.n)) | ((with_reducible apply AW.regL)) | ((with_reducible apply AW.block))))
  refine AW.loopW (fun q t M => ∃ (k : Nat) (z : Int) (pre : List UInt8) (r : Value), q = k ∧ k ≤ s ∧ z = (k : Int) - 1 ∧ pre ++ be n k = be n s ∧ pre.length + k = s ∧ Row M b0 1 r (by8 (l ++ pre)) (l ++ pre).length ∧ Add m M v r ∧
    t = fr [(0, r), (1, .int .i64 (n : Nat)), (7, .int .i64 z)]) ⟨_, _, (by repeat (first | exact trivial | (refine And.intro rfl ?_))), s, _, [], v, rfl, Nat.le_refl _, rfl, rfl, by simp, by rw [List.append_nil, List.append_nil]; exact h, by rw [List.append_nil]; exact Add.refl _ _, rfl⟩ ?_
  rintro q t M ⟨k, z, pre, r, rfl, hk, hz, hpre, hpl, hrow, hadd, rfl⟩
  have hbM : b0 ≤ M.length := by have := hadd.1; omega
  rcases q with _ | k
  · subst hz
    refine AW.rebase ?_
    (repeat (first | (with_reducible refine AWo.cons ?_) | ((with_reducible refine Step.id ?_); first | ((with_reducible apply Step.move); exact rfl; exact rfl) | ((with_reducible apply Step.assign); exact rfl; exact rfl) | ((with_reducible apply Step.geq); exact rfl; exact rfl; exact rfl)) | (with_reducible refine AWo.nil ?_) | ((with_reducible apply AW.seq)) | ((with_reducible apply Then.n)) | ((with_reducible apply AW.regL)) | ((with_reducible apply AW.exit)) | ((with_reducible apply InBlk.hit)) | ((with_reducible apply Then.e)) | ((with_reducible apply AW.condF); exact rfl; (focus (rfl)))))
    (refine AW.ret ?_; (repeat (first | refine Then.r ?_ | refine InBlk.r ?_)))
    rw [show be n 0 = [] from rfl, List.append_nil] at hpre
    subst hpre
    exact ⟨_, rfl, by rw [List.append_nil]; exact hrow, by rw [List.append_nil]; exact hadd⟩
  · obtain rfl : z = (k : Int) := by omega
    have h8 : (8 : Int) * (k : Int) = ((8 * k : Nat) : Int) := by omega
    have hprl : (l ++ pre).length = l.length + pre.length := List.length_append
    refine AW.rebase ?_
    (repeat (first | (with_reducible refine AWo.cons ?_) | ((with_reducible refine Step.id ?_); first | ((with_reducible apply Step.move); exact rfl; exact rfl) | ((with_reducible apply Step.mulE); exact rfl; exact rfl; (focus (assumption)); (focus (omega)); exact rfl) | ((with_reducible apply Step.shrN); exact rfl; exact rfl; (focus (omega)); exact rfl) | ((with_reducible apply Step.geq); exact rfl; exact rfl; exact rfl)) | (with_reducible refine AWo.nil ?_) | ((with_reducible apply AW.seq)) | ((with_reducible apply Then.n)) | ((with_reducible apply AW.regL)) | ((with_reducible apply AW.block)) | ((with_reducible apply AW.skip)) | ((with_reducible apply AW.condT); exact rfl; (focus (rfl)))))
    ((with_reducible apply Step.toB); exact rfl; exact un3; exact un5; exact rfl)
    (repeat (first | (with_reducible refine AWo.cons ?_) | ((with_reducible refine Step.id ?_); ((with_reducible apply Step.buildS 0); exact rfl; exact rfl; exact (fun _ _ => bs22); exact rfl; (focus (first | (simp only [List.nil_append, List.cons_append, List.set_cons_zero, List.set_cons_succ, iv_set, bv_set, iv_rep, bv_rep]; done) | (simp only [List.nil_append, List.cons_append, List.set_cons_zero, List.set_cons_succ, iv_set, bv_set, iv_rep, bv_rep]; rfl) | rfl))))))
    ((with_reducible apply Step.appRow2 (n := (l ++ pre).length) (xl := 1) (b0 := b0) (new := [.int .u8 ((UInt8.ofNat (n / 2 ^ (8 * k))).toNat : Nat)])); exact rfl; exact rfl; exact (hrow.old _); exact (Sl.mk (Nat.le_refl _)); exact (fun _ => RdL.new rfl rfl); exact el22; exact un22; exact rfl; exact rfl; exact rfl; (focus (omega)); exact rfl; (focus (rw [List.length_append]; omega)))
    intro r' M' hr' hml' hk' hk2'
    have hr2 : Row M' b0 1 r' (by8 (l ++ (pre ++ [UInt8.ofNat (n / 2 ^ (8 * k))]))) (l ++ (pre ++ [UInt8.ofNat (n / 2 ^ (8 * k))])).length := by
      have e1 : by8 (l ++ (pre ++ [UInt8.ofNat (n / 2 ^ (8 * k))])) = by8 (l ++ pre) ++ [.int .u8 ((UInt8.ofNat (n / 2 ^ (8 * k))).toNat : Nat)] := by simp [by8]
      have e2 : (l ++ (pre ++ [UInt8.ofNat (n / 2 ^ (8 * k))])).length = (l ++ pre).length + 1 := by simp; omega
      rw [e1, e2]
      exact hr'
    have hadd2 : Add m M' v r' := hadd.trans (Add.low _ ⟨hml', hk', hk2'⟩)
    (repeat (first | (with_reducible refine AWo.cons ?_) | ((with_reducible refine Step.id ?_); first | ((with_reducible apply Step.move); exact rfl; exact rfl) | ((with_reducible apply Step.assign); exact rfl; exact rfl) | ((with_reducible apply Step.sub); exact rfl; exact rfl; (focus (omega)); exact rfl)) | (with_reducible refine AWo.nil ?_) | ((with_reducible apply Then.n)) | ((with_reducible apply AW.regL)) | ((with_reducible apply InBlk.n))))
    exact ⟨_, [(0, r'), (1, .int .i64 (n : Nat)), (7, .int .i64 ((k : Int) - 1))], by omega, (by repeat (first | exact trivial | (refine And.intro rfl ?_))), k, _, _, _, rfl, by omega, rfl, by rw [List.append_assoc]; exact hpre, by rw [List.length_append]; simp; omega, hr2, hadd2, rfl⟩
end Go.Proofs.Ytabdnepfcohncaa.Abs
namespace Go.Proofs.Ytabdnepfcohncaa.Abs
set_option linter.unusedSimpArgs false
set_option linter.unusedVariables false
open Go.RowKit
open Go.Proofs.Ytabdnepfcohncaa.Sim
open Go.Proofs
section
variable {P : Program} {nt : Nat} {ops : Array Oper} {t : Fm} {m : AM} {K : Fm → AM → Prop} {d T : Nat} {p : String} {af : Array Edge}
end
theorem upL_noT {L : Nat → Bool} {i j : Nat} (h : upL L i j = false) : L j = false := by
  by_cases e : j = i
  · subst e; rw [upL_same] at h; cases h
  · rwa [upL_ne L e] at h
/-- What holds whatever of the region was done: 0 to 18 reckon, 19 makes the element, 20 adds it, 21 stores the row (in block q, or in slot 6 where q is no block). -/
structure TI (m0 : AM) (b0 q s : Nat) (base : List (Nat × Value)) (pv : Nat → Option Value) (u0 : Value) (c new : List Value) (n : Nat) (L : Nat → Bool) (t : Fm) (M : AM) : Prop where
  len : m0.length ≤ M.length
  old : ∀ e ∈ base, t e.1 = some e.2
  pure : ∀ j v, pv j = some v → L j = true → t (s + j) = some v
  keep : ∀ j, j < m0.length → j ≠ q → NotOf u0 j → M[j]? = m0[j]?
  row : L 20 = false → Row M b0 4 u0 c n
  cell : q < m0.length → L 21 = false → M[q]? = some (some { cells := [u0] })
  six : m0.length ≤ q → L 21 = false → t 6 = some u0
  lit : L 19 = true → ∃ a, t (s + 19) = some (.slice (some ⟨a, 0, none⟩) 1 1) ∧ (L 20 = false → RdL M a 0 new)
  app : L 20 = true → ∃ u, t (s + 20) = some u ∧ SlV u ∧ Row M b0 4 u (c ++ new) (n + 1) ∧ ∀ j, j < m0.length → NotOf u0 j → NotOf u j
  map : ∀ (i : Nat) (b : Blk), M[i]? = some (some b) → isMapK b.kind = true → m0[i]? = some (some b)
  c0 : L 20 = true → L 0 = true
  c21 : L 21 = true → L 20 = true
  fin : L 21 = true → ∃ u, Row M b0 4 u (c ++ new) (n + 1) ∧ (∀ j, j < m0.length → NotOf u0 j → NotOf u j) ∧ (q < m0.length → M[q]? = some (some { cells := [u] })) ∧ (m0.length ≤ q → t 6 = some u)
section
variable {m0 M : AM} {b0 q s : Nat} {base : List (Nat × Value)} {pv : Nat → Option Value} {u0 : Value} {c new : List Value} {n : Nat} {L : Nat → Bool} {t : Fm}
theorem TI.start (h : ∀ e ∈ base, t e.1 = some e.2) (hr : Row m0 b0 4 u0 c n) (hc : q < m0.length → m0[q]? = some (some { cells := [u0] })) (h6 : m0.length ≤ q → t 6 = some u0) : TI m0 b0 q s base pv u0 c new n (fun _ => false) t m0 :=
  ⟨Nat.le_refl _, h, fun _ _ _ q => (by cases q), fun _ _ _ _ => rfl, fun _ => hr, fun h _ => hc h, fun h _ => h6 h, fun q => (by cases q), fun q => (by cases q), fun i b hi _ => hi, fun q => (by cases q), fun q => (by cases q), fun q => (by cases q)⟩
theorem TI.put (h : TI m0 b0 q s base pv u0 c new n L t M) (hb : ∀ e ∈ base, e.1 < s) (hs : 6 < s) {j : Nat} {v : Value} (hv : pv j = some v) (hj : j < 19) : TI m0 b0 q s base pv u0 c new n (upL L j) (Abs.put t (s + j) v) M where
  len := h.len
  old := fun e he => by rw [put_ne t v (by have := hb e he; omega)]; exact h.old e he
  pure := fun k w hw hk => by
    by_cases e : k = j
    · subst e
      rw [hv] at hw
      injection hw with hw
      rw [put_same, hw]
    · rw [upL_ne L e] at hk
      rw [put_ne t v (by omega)]
      exact h.pure k w hw hk
  keep := h.keep
  row := fun r => h.row (upL_noT r)
  cell := fun r r2 => h.cell r (upL_noT r2)
  six := fun r r2 => by rw [put_ne t v (by omega)]; exact h.six r (upL_noT r2)
  lit := fun r => by
    rw [upL_ne L (by omega)] at r
    obtain ⟨a, a1, a2⟩ := h.lit r
    exact ⟨a, by rw [put_ne t v (by omega)]; exact a1, fun r => a2 (upL_noT r)⟩
  app := fun r => by
    rw [upL_ne L (by omega)] at r
    obtain ⟨a, a1, a2⟩ := h.app r
    exact ⟨a, by rw [put_ne t v (by omega)]; exact a1, a2⟩
  map := h.map
  c0 := fun r => by
    rw [upL_ne L (by omega)] at r
    by_cases e : 0 = j
    · rw [← e]; exact upL_same _ _
    · rw [upL_ne L e]; exact h.c0 r
  c21 := fun r => by rw [upL_ne L (by omega)] at r ⊢; exact h.c21 r
  fin := fun r => by
    rw [upL_ne L (by omega)] at r
    obtain ⟨a, a1, a2, a3, a4⟩ := h.fin r
    exact ⟨a, a1, a2, a3, fun r => by rw [put_ne t v (by omega)]; exact a4 r⟩
end
end Go.Proofs.Ytabdnepfcohncaa.Abs
namespace Go.Proofs.Ytabdnepfcohncaa.Abs
set_option linter.unusedSimpArgs false
set_option linter.unusedVariables false
open Go.RowKit
open Go.Proofs.Ytabdnepfcohncaa.Sim
open Go.Proofs
section
variable {P : Program} {nt : Nat} {ops : Array Oper} {t : Fm} {m : AM} {K : Fm → AM → Prop} {d T : Nat} {p : String} {af : Array Edge}
end
theorem bl63 {a b c d : Int} : abuild Try.prog 63 [(0, .int .i64 a), (1, .int .i64 b), (2, .int .i64 c), (3, .int .i64 d)] = some (.agg #[.int .i64 a, .int .i64 b, .int .i64 c, .int .i64 d]) := by kernel_rfl
theorem bs55 {m : AM} {k : Nat} {a b c d : Int} : abuildSlice Try.prog m k 55 1 [(0, .agg #[.int .i64 a, .int .i64 b, .int .i64 c, .int .i64 d])] = some (.slice (some ⟨k, 0, none⟩) 1 1, m.set k (some { cells := [.int .i64 a, .int .i64 b, .int .i64 c, .int .i64 d] })) := by kernel_rfl
/-- Bytes that come from elsewhere. -/
def BytsAt (m : AM) (v : Value) (a o : Nat) (l : List UInt8) : Prop := Sl v a o l.length ∧ ∀ k, k < l.length → Rd m a (o + k) (.int .u8 ((l.getD k 0).toNat : Nat))
theorem BytsAt.keep {m M : AM} {v : Value} {a o : Nat} {l : List UInt8} (h : BytsAt m v a o l) (hk : M[a]? = m[a]?) : BytsAt M v a o l := ⟨h.1, fun k hk' => by
  obtain ⟨b, q1, q2⟩ := h.2 k hk'
  exact ⟨b, by rw [hk]; exact q1, q2⟩⟩
theorem PostsAt.notOf {M : AM} {b0 a sz : Nat} {kd : Kind} {pv : Value} {P : List (List Tr)} {l : List Tr} (h : PostsAt M b0 pv P) (ha : M[a]? = some (some { cells := tcs l, kind := kd, size := sz })) (hl : 0 < l.length) : NotOf pv a := by
  intro n c e
  obtain ⟨pc, hrow, hps⟩ := h
  rcases hrow with ⟨h0, _⟩ | ⟨a', kd', sz', k1, k2, k3, k4, k5⟩
  · rw [e] at h0; cases h0
  · rw [k2] at e
    simp only [Value.slice.injEq, Option.some.injEq, Addr.mk.injEq] at e
    obtain ⟨rfl, _⟩ := e.1
    rw [ha] at k3
    injection k3 with k3; injection k3 with k3
    injection k3 with k3 _ _
    subst k3
    rw [tcs_len] at k4
    obtain ⟨u, q1, a'', _, _, q4, _⟩ := hps 0 (by omega)
    have := tcs_get l 0 hl 0 _ rfl
    simp only [Nat.zero_mul, Nat.zero_add] at this
    rw [this] at q1
    injection q1 with q1
    rw [q4] at q1
    cases q1
/-- A row just made stays a row of transfers whatever a book does. -/
theorem Row.trsKeep {M M' : AM} {b0 b1 xk : Nat} {pv u : Value} {P : List (List Tr)} {l : List Tr} (hX : PostsAt M b1 pv P) (hne : ∀ a x, Rd M a 0 (.int .i64 x) → a ≠ xk) (hr : Row M b0 4 u (tcs l) l.length) (h0 : 0 < M.length) (hF : Fr M M' xk pv) : Trs M' u l := by
  rcases hr with ⟨rfl, h1, h2⟩ | ⟨a, kd, sz, k1, rfl, k3, k4, k5⟩
  · obtain rfl := List.eq_nil_of_length_eq_zero h2
    exact Trs.nil (by have := hF.1; omega)
  · have hal := (List.getElem?_eq_some_iff.1 k3).1
    by_cases hl : 0 < l.length
    · have hrd : Rd M a 0 (.int .i64 (l.getD 0 default).i) := ⟨_, k3, by simpa using tcs_get l 0 hl 0 _ rfl⟩
      have e : M'[a]? = M[a]? := hF.2 a hal (hne a _ hrd) (hX.notOf k3 hl)
      exact ⟨a, 0, Sl.mk (Nat.le_refl _), by have := hF.1; omega, fun k hk => ⟨_, by rw [e]; exact k3, fun j v hj => by rw [Nat.zero_add]; exact tcs_get l k hk j v hj⟩⟩
    · obtain rfl := List.eq_nil_of_length_eq_zero (show l.length = 0 by omega)
      exact ⟨a, 0, Sl.mk (Nat.le_refl _), by have := hF.1; omega, fun k hk => by simp at hk⟩
end Go.Proofs.Ytabdnepfcohncaa.Abs
namespace Go.Proofs.Ytabdnepfcohncaa.Abs
set_option linter.unusedSimpArgs false
set_option linter.unusedVariables false
open Go.RowKit Go.Shelf
open Go.Proofs.Ytabdnepfcohncaa.Sim
open Go.Proofs
theorem bl133 : abuild Try.prog 133 [(0, .bool true)] = some (.agg (bkc (List.replicate 256 0) (List.replicate 256 0) (.slice none 0 0)).toArray) := by kernel_rfl
set_option maxRecDepth 100000 in
theorem NewBook_ok {m : AM} : ACall Try.prog 27 #[] m (NewL (fun k => .pointer (some ⟨k, 0, none⟩)) [some { cells := bkc (List.replicate 256 0) (List.replicate 256 0) (.slice none 0 0) }] m) := by
  refine ACall.start Try.func27 rfl rfl ?_
  (repeat (first | (with_reducible refine AWo.cons ?_) | ((with_reducible refine Step.id ?_); first | ((with_reducible apply Step.assign); exact rfl; exact rfl) | ((with_reducible apply Step.box 0); exact rfl; exact rfl; (focus (kernel_rfl)); exact rfl; (focus (first | (simp only [List.nil_append, List.cons_append, List.set_cons_zero, List.set_cons_succ, iv_set, bv_set, iv_rep, bv_rep]; done) | (simp only [List.nil_append, List.cons_append, List.set_cons_zero, List.set_cons_succ, iv_set, bv_set, iv_rep, bv_rep]; rfl) | rfl))) | ((with_reducible apply Step.build); exact rfl; exact bl133; exact rfl)) | (with_reducible refine AWo.nil ?_) | ((with_reducible apply AW.seq)) | ((with_reducible apply Then.n)) | ((with_reducible apply AW.regL))))
  (refine AW.ret ?_; (repeat (first | refine Then.r ?_ | refine InBlk.r ?_)))
  exact ⟨_, rfl, rfl, rfl⟩
theorem postF_len (B : Bk) (l : List Tr) : (postF B l).1.P.length ≤ B.P.length + 1 := by
  unfold postF
  split
  · exact Nat.le_succ _
  · split
    · exact Nat.le_succ _
    · split
      · exact Nat.le_succ _
      · simp
end Go.Proofs.Ytabdnepfcohncaa.Abs
namespace Go.Proofs.Ytabdnepfcohncaa.Abs
set_option linter.unusedSimpArgs false
set_option linter.unusedVariables false
open Go.RowKit
open Go.Proofs.Ytabdnepfcohncaa.Sim
open Go.Proofs
section
variable {P : Program} {nt : Nat} {ops : Array Oper} {t : Fm} {m : AM} {K : Fm → AM → Prop} {d T : Nat} {p : String} {af : Array Edge}
end
theorem Byts.row {m : AM} {v : Value} {l : List UInt8} (h : Byts m v l) : ∃ a o, Sl v a o l.length ∧ (0 < l.length → RdL m a o (by8 l)) := by
  obtain ⟨a, o, h1, h2, h3⟩ := h
  refine ⟨a, o, h1, fun h0 => ?_⟩
  obtain ⟨b, q1, _⟩ := h3 0 h0
  refine ⟨b, q1, fun j v hj => ?_⟩
  have hj1 := (List.getElem?_eq_some_iff.1 hj).1
  rw [by8_len] at hj1
  obtain ⟨b', r1, r2⟩ := h3 j hj1
  rw [q1] at r1; injection r1 with r1; injection r1 with r1; subst r1
  rw [by8_get hj1] at hj
  injection hj with hj
  rw [← hj, r2, List.getD_eq_getElem?_getD, List.getElem?_eq_getElem hj1]
  rfl
end Go.Proofs.Ytabdnepfcohncaa.Abs
namespace Go.Proofs.Ytabdnepfcohncaa.Abs
set_option linter.unusedSimpArgs false
set_option linter.unusedVariables false
open Go.RowKit
open Go.Proofs.Ytabdnepfcohncaa.Sim
open Go.Proofs
set_option maxHeartbeats 4000000 in
set_option maxRecDepth 100000 in
theorem post_ok {m : AM} {v : Value} {l : List Tr} (h : Trs m v l) (hlen : l.length ≤ 9223372036854775807) : ACall Try.prog 29 #[v] m (More (fun M r => Row M m.length 4 r (tcs (l.take 18)) (l.take 18).length) m) := by
  obtain ⟨a, o, h1, h2, h3⟩ := h
  refine ACall.start Try.func29 rfl rfl ?_
  (repeat (first | (with_reducible refine AWo.cons ?_) | ((with_reducible refine Step.id ?_); first | ((with_reducible apply Step.move); exact rfl; exact rfl) | ((with_reducible apply Step.assign); exact rfl; exact rfl) | ((with_reducible apply Step.len); exact rfl; (focus (assumption)); (focus (decide +kernel)); exact rfl)) | (with_reducible refine AWo.nil ?_) | ((with_reducible apply AW.seq)) | ((with_reducible apply Then.n)) | ((with_reducible apply AW.regL)) | ((with_reducible apply AW.block))))
  refine AW.loopW (fun q t M => ∃ (k : Nat) (r : Value), q = l.length - k ∧ k ≤ l.length ∧ k ≤ 18 ∧ Row M m.length 4 r (tcs (l.take k)) k ∧ (∃ N, M = m ++ N) ∧
    t = fr [(3, r), (6, v), (7, .int .i64 (l.length : Nat)), (8, .int .i64 (k : Nat))]) ⟨_, _, (by repeat (first | exact trivial | (refine And.intro rfl ?_))), 0, _, rfl, Nat.zero_le _, Nat.zero_le _, Row.nil, ⟨_, rfl⟩, rfl⟩ ?_
  rintro q t M ⟨k, r, rfl, hk, hk18, hR, ⟨N, rfl⟩, rfl⟩
  refine AW.rebase ?_
  rcases Nat.lt_or_ge k l.length with hlt | hge
  · have hr := fun T => (h3 k hlt).old T
    have hr := fun T => hr (N ++ T)
    simp only [← List.append_assoc] at hr
    have ts := take_snocT l k hlt
    generalize l.getD k default = x at *
    obtain ⟨xi, xf, xt, xn⟩ := x
    simp only [Tr.c] at hr
    by_cases c1 : 17 < k
    · obtain rfl : k = 18 := by omega
      (repeat (first | (with_reducible refine AWo.cons ?_) | ((with_reducible refine Step.id ?_); first | ((with_reducible apply Step.move); exact rfl; exact rfl) | ((with_reducible apply Step.assign); exact rfl; exact rfl) | ((with_reducible apply Step.loadL (n := 4)); exact rfl; (focus (decide +kernel)); (focus (decide +kernel)); exact rfl; (focus (exact hr _)); exact rfl; exact rfl) | ((with_reducible apply Step.ix (s := 4)); exact rfl; (focus (assumption)); exact rfl; (focus (decide +kernel)); exact rfl; (focus (omega))) | ((with_reducible apply Step.lss); exact rfl; exact rfl; exact rfl) | ((with_reducible apply Step.gtr); exact rfl; exact rfl; exact rfl) | ((with_reducible apply Step.alloc 0); exact rfl; exact ze61; exact rfl; (focus (first | (simp only [List.nil_append, List.cons_append, List.set_cons_zero, List.set_cons_succ, iv_set, bv_set, iv_rep, bv_rep]; done) | (simp only [List.nil_append, List.cons_append, List.set_cons_zero, List.set_cons_succ, iv_set, bv_set, iv_rep, bv_rep]; rfl) | rfl))) | ((with_reducible apply Step.storeA (k := 0) (n := 4)); exact rfl; exact rfl; exact rfl; exact rfl; (focus (decide +kernel)); exact rfl; (focus (kernel_rfl)); exact rfl; (focus (first | (simp only [List.nil_append, List.cons_append, List.set_cons_zero, List.set_cons_succ, iv_set, bv_set, iv_rep, bv_rep]; done) | (simp only [List.nil_append, List.cons_append, List.set_cons_zero, List.set_cons_succ, iv_set, bv_set, iv_rep, bv_rep]; rfl) | rfl)))) | (with_reducible refine AWo.nil ?_) | ((with_reducible apply AW.seq)) | ((with_reducible apply Then.n)) | ((with_reducible apply AW.regL)) | ((with_reducible apply AW.block)) | ((with_reducible apply AW.exit)) | ((with_reducible apply InBlk.hit)) | ((with_reducible apply InBlk.miss); exact rfl) | ((with_reducible apply Then.e)) | ((with_reducible apply AW.skip)) | ((with_reducible apply AW.condT); exact rfl; (focus (first | rfl | (simp only [decide_eq_true_eq, decide_eq_false_iff_not, Bool.not_eq_true', Bool.not_eq_false', Bool.not_true, Bool.not_false]; first | assumption | omega))))))
      (refine AW.ret ?_; (repeat (first | refine Then.r ?_ | refine InBlk.r ?_)))
      refine ⟨_, rfl, N ++ _, by rw [List.append_assoc], ?_⟩
      have e : (l.take 18).length = 18 := by rw [List.length_take]; omega
      rw [e]
      exact hR.old _
    · (repeat (first | (with_reducible refine AWo.cons ?_) | ((with_reducible refine Step.id ?_); first | ((with_reducible apply Step.move); exact rfl; exact rfl) | ((with_reducible apply Step.assign); exact rfl; exact rfl) | ((with_reducible apply Step.load); exact rfl; (focus (decide +kernel)); exact rfl; (focus (exact Rd.new rfl rfl))) | ((with_reducible apply Step.loadL (n := 4)); exact rfl; (focus (decide +kernel)); (focus (decide +kernel)); exact rfl; (focus (exact hr _)); exact rfl; exact rfl) | ((with_reducible apply Step.ix (s := 4)); exact rfl; (focus (assumption)); exact rfl; (focus (decide +kernel)); exact rfl; (focus (omega))) | ((with_reducible apply Step.field0); exact rfl; (focus (decide +kernel)); exact rfl) | ((with_reducible apply Step.field (k := 1)); exact rfl; (focus (decide +kernel)); exact rfl) | ((with_reducible apply Step.field (k := 2)); exact rfl; (focus (decide +kernel)); exact rfl) | ((with_reducible apply Step.field (k := 3)); exact rfl; (focus (decide +kernel)); exact rfl) | ((with_reducible apply Step.lss); exact rfl; exact rfl; exact rfl) | ((with_reducible apply Step.gtr); exact rfl; exact rfl; exact rfl) | ((with_reducible apply Step.alloc 0); exact rfl; exact ze61; exact rfl; (focus (first | (simp only [List.nil_append, List.cons_append, List.set_cons_zero, List.set_cons_succ, iv_set, bv_set, iv_rep, bv_rep]; done) | (simp only [List.nil_append, List.cons_append, List.set_cons_zero, List.set_cons_succ, iv_set, bv_set, iv_rep, bv_rep]; rfl) | rfl))) | ((with_reducible apply Step.storeA (k := 0) (n := 4)); exact rfl; exact rfl; exact rfl; exact rfl; (focus (decide +kernel)); exact rfl; (focus (kernel_rfl)); exact rfl; (focus (first | (simp only [List.nil_append, List.cons_append, List.set_cons_zero, List.set_cons_succ, iv_set, bv_set, iv_rep, bv_rep]; done) | (simp only [List.nil_append, List.cons_append, List.set_cons_zero, List.set_cons_succ, iv_set, bv_set, iv_rep, bv_rep]; rfl) | rfl))) | ((with_reducible apply Step.buildS 1); exact rfl; exact rfl; exact (fun _ _ => bs55); exact rfl; (focus (first | (simp only [List.nil_append, List.cons_append, List.set_cons_zero, List.set_cons_succ, iv_set, bv_set, iv_rep, bv_rep]; done) | (simp only [List.nil_append, List.cons_append, List.set_cons_zero, List.set_cons_succ, iv_set, bv_set, iv_rep, bv_rep]; rfl) | rfl))) | ((with_reducible apply Step.build); exact rfl; exact bl63; exact rfl)) | (with_reducible refine AWo.nil ?_) | ((with_reducible apply AW.seq)) | ((with_reducible apply Then.n)) | ((with_reducible apply AW.regL)) | ((with_reducible apply AW.block)) | ((with_reducible apply AW.skip)) | ((with_reducible apply AW.condT); exact rfl; (focus ((simp only [decide_eq_true_eq, decide_eq_false_iff_not, Bool.not_eq_true', Bool.not_eq_false', Bool.not_true, Bool.not_false]; first | assumption | omega)))) | ((with_reducible apply AW.condF); exact rfl; (focus ((simp only [decide_eq_true_eq, decide_eq_false_iff_not, Bool.not_eq_true', Bool.not_eq_false', Bool.not_true, Bool.not_false]; first | assumption | omega))))))
      ((with_reducible apply Step.appRow2 (n := k) (xl := 1) (b0 := m.length) (new := [.int .i64 xi, .int .i64 xf, .int .i64 xt, .int .i64 xn])); exact rfl; exact rfl; exact (hR.old _); exact (Sl.mk (Nat.le_refl _)); exact (fun _ => RdL.new rfl rfl); exact el55; exact un55; exact rfl; exact rfl; exact rfl; (focus (omega)); exact rfl; (focus (simp only [List.length_append]; omega)))
      intro r' M1 hr1 hml1 hk1 _
      have hM1 := pre_keep (m0 := m) ⟨N ++ _, (List.append_assoc _ _ _)⟩ hml1 fun j hj => hk1 j (by simp only [List.length_append]; omega) (NotOf.row hR hj)
      (repeat (first | (with_reducible refine AWo.cons ?_) | ((with_reducible refine Step.id ?_); first | ((with_reducible apply Step.move); exact rfl; exact rfl) | ((with_reducible apply Step.assign); exact rfl; exact rfl) | ((with_reducible apply Step.add); exact rfl; exact rfl; (focus (omega)); exact rfl)) | (with_reducible refine AWo.nil ?_) | ((with_reducible apply Then.n)) | ((with_reducible apply AW.regL)) | ((with_reducible apply InBlk.n))))
      exact ⟨_, [(3, r'), (6, v), (7, .int .i64 (l.length : Nat)), (8, .int .i64 (k + 1 : Nat))], by omega, (by repeat (first | exact trivial | (refine And.intro rfl ?_))), k + 1, _, rfl, by omega, by omega, by rw [ts, tcs_app]; simpa [tcs, Tr.c] using hr1, hM1, rfl⟩
  · obtain rfl : k = l.length := by omega
    (repeat (first | (with_reducible refine AWo.cons ?_) | ((with_reducible refine Step.id ?_); first | ((with_reducible apply Step.move); exact rfl; exact rfl) | ((with_reducible apply Step.assign); exact rfl; exact rfl) | ((with_reducible apply Step.lss); exact rfl; exact rfl; exact rfl)) | (with_reducible refine AWo.nil ?_) | ((with_reducible apply AW.seq)) | ((with_reducible apply Then.n)) | ((with_reducible apply AW.regL)) | ((with_reducible apply AW.exit)) | ((with_reducible apply InBlk.hit)) | ((with_reducible apply Then.e)) | ((with_reducible apply AW.condF); exact rfl; (focus ((simp only [decide_eq_true_eq, decide_eq_false_iff_not, Bool.not_eq_true', Bool.not_eq_false', Bool.not_true, Bool.not_false]; first | assumption | omega))))))
    (refine AW.ret ?_; (repeat (first | refine Then.r ?_ | refine InBlk.r ?_)))
    refine ⟨_, rfl, N, by rw [List.append_nil], ?_⟩
    rw [List.append_nil, List.take_of_length_le hk18]
    rwa [List.take_length] at hR
end Go.Proofs.Ytabdnepfcohncaa.Abs
namespace Go.Proofs.Ytabdnepfcohncaa.Abs
set_option linter.unusedSimpArgs false
set_option linter.unusedVariables false
open Go.RowKit
open Go.Proofs.Ytabdnepfcohncaa.Sim
open Go.Proofs
section
variable {P : Program}
theorem still_eqI {X : TypeId} (hX : P.underlying X = some (.int .i64)) (n : Nat) (a b : Int) : Sim.still P (Op.equalIn (n + 1) X (.int .i64 a) (.int .i64 b)) = some (a == b) := by
  rw [Op.equalIn]
  show Sim.still P (Sem.bind (underlying X) _) = _
  rw [still_bind, still_und hX]
  rfl
end
theorem part_tr {c : Array Value} {x : Int} {k : Nat} (hk : c[k]? = some (.int .i64 x)) : Sim.still Try.prog (part 3 c k) = some (.int .i64 x) := by
  unfold part
  have ha : Sim.still Try.prog (isAgg 3) = some false := by kernel_rfl
  show Sim.still Try.prog (Sem.bind (isAgg 3) _) = _
  rw [still_bind, ha]
  simp only [hk]
  rfl
section
variable {nt : Nat} {ops : Array Oper} {t : Fm} {m : AM} {K : Fm → AM → Prop} {d T : Nat} {p : String} {af : Array Edge}
end
section
variable {nt : Nat} {ops : Array Oper} {t : Fm} {m : AM} {K : Fm → AM → Prop} {d T : Nat} {p : String} {af : Array Edge}
end
end Go.Proofs.Ytabdnepfcohncaa.Abs
namespace Go.Proofs.Ytabdnepfcohncaa.Abs
set_option linter.unusedSimpArgs false
set_option linter.unusedVariables false
open Go.RowKit
open Go.Proofs.Ytabdnepfcohncaa.Sim
open Go.Proofs
theorem AW.joinQ {P : Program} {nt : Nat} {m m0 : AM} {t : Fm} {c : Code} {Q : AEx → Fm → AM → Prop} (Mid : Fm → AM → Prop) (h : AW P nt m0 c t m (fun e t' m' => e = .normal ∧ Mid t' m')) (h2 : ∀ t' m', Mid t' m' → Q .normal t' m') : AW P nt m0 c t m Q :=
  h.mono fun e t' m' ⟨e1, e2⟩ => by subst e1; exact h2 _ _ e2
end Go.Proofs.Ytabdnepfcohncaa.Abs
namespace Go.Proofs.Ytabdnepfcohncaa.Abs
set_option linter.unusedSimpArgs false
set_option linter.unusedVariables false
open Go.RowKit
open Go.Proofs.Ytabdnepfcohncaa.Sim
open Go.Proofs
/-- A book that posts have made. -/
inductive Built : Bk → Prop
  | new : Built Bk.new
  | post {B : Bk} {l : List Tr} : Built B → (postF B l).2.2 = 0 → Built (postF B l).1
theorem postF_zero {B : Bk} {l : List Tr} (h : (postF B l).2.2 = 0) : postB l = true ∧ (postF B l).1.P = B.P ++ [l] := by
  revert h
  unfold postF
  split
  · intro h; exact absurd h (show ¬ ((2 : Int) = 0) by decide)
  · rename_i hp
    split
    · intro h; exact absurd h (show ¬ ((11 : Int) = 0) by decide)
    · split
      · intro h; exact absurd h (show ¬ ((5 : Int) = 0) by decide)
      · intro _; exact ⟨by simpa using hp, rfl⟩
end Go.Proofs.Ytabdnepfcohncaa.Abs
namespace Go.Proofs.Ytabdnepfcohncaa.Abs
set_option linter.unusedSimpArgs false
set_option linter.unusedVariables false
open Go.RowKit
open Go.Proofs.Ytabdnepfcohncaa.Sim
open Go.ChangeShapes Go.WideShapes Go.Deep
/-- An argument with the cells that it shows. -/
abbrev AR := Value × List Value
def mkP : AR → Option Sim.Place
  | (.slice (some a) n cap, _) => some ⟨a.block, a.off, cap - n⟩
  | _ => none
section
variable {H : Type} {enc : TypeId × Value → H} {P : Program} {w : World} {base : Nat} {spare : Nat → Bool} {held : Bool}
theorem ok_slice {r : Reach} {b0 : Nat} {T e : TypeId} {a : Option Addr} {n c : Nat} (ht : P.underlying T = some (.slice e)) (h : Value.okWide P w r b0 T (.slice a n c)) : (a = none ∧ n = 0 ∧ c = 0) ∨ ∃ b o, a = some ⟨b, o, none⟩ ∧ n ≤ c ∧ b < w.heap.size := by
  simp only [Value.okWide, ht, Cell.okWide, Cell.ok] at h
  cases a with
  | none =>
    cases n <;> cases c <;> simp_all
  | some x =>
    obtain ⟨h1, _, h3⟩ := h
    obtain ⟨_, hs, row, cells, hsh, _⟩ := h3
    obtain ⟨b, o, s⟩ := x
    simp only at hs
    subst hs
    refine .inr ⟨b, o, rfl, h1, ?_⟩
    simp only [World.shape?] at hsh
    rcases Nat.lt_or_ge b w.heap.size with hlt | hge
    · exact hlt
    · rw [Array.getElem?_eq_none hge] at hsh; cases hsh
theorem open_slice_fields {t e : TypeId} {fs : Array Field} {fuel : Nat} {cs : List Value} {x : DataW H × List MemPlace} (ht : P.underlying t = some (.slice e)) (he : P.underlying e = some (.struct fs))
    (hone : oneCellFields P fs = true) (hC : P.cellsOf e = fs.size) (h : DataW.trod enc P w base spare held fuel t cs = some x) :
    (cs = [.slice none 0 0] ∧ x = (.nil, [])) ∨
    ∃ (a : Addr) (len cap m : Nat) (D : Nat → DataW H) (Pl : Nat → List MemPlace), cs = [.slice (some a) len cap] ∧ base ≤ a.block ∧ len ≤ cap ∧ cap ≤ maxLen ∧ m = (if spare a.block then cap else len) ∧
      x = (.slice ((List.range len).map D) ((List.range (m - len)).map fun j => D (len + j)), MemPlace.row a (m * fs.size) ++ (List.range m).flatMap Pl) ∧
      ∀ i, i < m → ∃ (ys : List (DataW H × List MemPlace)) (n : Nat), D i = .agg (ys.map (·.1)) ∧ Pl i = ys.flatMap (·.2) ∧ ys.length = fs.size ∧
        ∀ (j : Nat) (f : Field), fs[j]? = some f → ∃ (v : Value) (y : DataW H × List MemPlace), w.cell? (a.add (i * fs.size + j)) = some v ∧ ys[j]? = some y ∧ DataW.trod enc P w base spare held n f.type [v] = some y := by
  rcases open_slice ht h with h0 | ⟨a, len, cap, m, n, D, Pl, hcs, hb, hl, hm, hmm, hx, hi⟩
  · exact .inl h0
  · refine .inr ⟨a, len, cap, m, D, Pl, hcs, hb, hl, hm, hmm, by rw [hC] at hx; exact hx, fun i him => ?_⟩
    obtain ⟨cs', hc, ht'⟩ := hi i him
    rw [hC] at hc
    obtain ⟨ys, n', hn', hy, hlen, hyl, hf⟩ := DataW.trod_struct he ht'
    obtain ⟨_, hcl, hat⟩ := World.cells?_some hc
    simp only [Prod.mk.injEq] at hy
    refine ⟨ys, n', hy.1, hy.2, hyl, fun j f hj => ?_⟩
    obtain ⟨ho, hk⟩ := hone_of hone j f hj
    have hjl : j < fs.size := (Array.getElem?_eq_some_iff.1 hj).1
    have hcell := hat j hjl
    have hv : cs'[j]? = some (cs'[j]'(by omega)) := List.getElem?_eq_getElem (by omega)
    have h1 := hf j f hj
    rw [ho, hk] at h1
    have hone' : (cs'.drop j).take 1 = [cs'[j]'(by omega)] := by
      rw [List.drop_eq_getElem_cons (by omega)]
      rfl
    rw [hone'] at h1
    have hys : ys[j]? = some (ys[j]'(by omega)) := List.getElem?_eq_getElem (by omega)
    refine ⟨_, _, ?_, hys, h1.trans hys⟩
    rw [← Go.Deep.add_add, hcell, hv]
end
end Go.Proofs.Ytabdnepfcohncaa.Abs
namespace Go.Proofs.Ytabdnepfcohncaa.Abs
set_option linter.unusedSimpArgs false
set_option linter.unusedVariables false
open Go.RowKit
open Go.Proofs.Ytabdnepfcohncaa.Sim
open Go.ChangeShapes Go.WideShapes Go.Deep
def plN (bs : List AR) : Pl := fun i => (bs[i]?).bind mkP
def mkV2 (i : Nat) : Value → Value
  | .slice (some ⟨_, _, some k⟩) _ _ => .slice (some ⟨i, 0, some k⟩) 0 0
  | .slice (some ⟨_, _, none⟩) n _ => .slice (some ⟨i, 0, none⟩) n n
  | v => v
def mkB2 : AR → Option Blk
  | (.slice (some _) _ (_ + 1), c) => some { cells := c, kind := .ro }
  | _ => none
/-- A slice of the input, with its cells as the abstract memory has them; or what is no block. -/
def OkB (W : World) (R : Pl) (a : AR) : Prop := g0 a.1 = true ∨ (∃ x, a.1 = .slice (some x) 0 0) ∨
  ∃ b o n cap, a.1 = .slice (some ⟨b, o, none⟩) n (cap + 1) ∧ n ≤ cap + 1 ∧ b < W.heap.size ∧ ∀ j x, a.2[j]? = some x → ∃ x', W.cell? ⟨b, o + j, none⟩ = some x' ∧ Rel R x x'
theorem relN {W : World} {R : Pl} {bs : List AR} {i : Nat} {a : AR} (hi : bs[i]? = some a) (h : OkB W R a) : Rel (plN bs) (mkV2 i a.1) a.1 := by
  obtain ⟨v, c⟩ := a
  rcases h with h1 | ⟨⟨b, o, sp⟩, h1⟩ | ⟨b, o, n, cap, h1, h2, h3, h4⟩
  · simp only at h1 ⊢
    cases v with
    | slice x n cap => cases x with
      | none => exact g0_rel h1
      | some x => simp [g0] at h1
    | _ => exact g0_rel h1
  · simp only at h1 ⊢
    subst h1
    cases sp with
    | none =>
      have := Rel.slice (R := plN bs) i 0 0 0 ⟨b, o, 0 - 0⟩ (by simp [plN, hi, mkP]) (Nat.le_refl _)
      simpa [mkV2] using this
    | some k =>
      have := Rel.sliceSpot (R := plN bs) i 0 k ⟨b, o, 0 - 0⟩ (by simp [plN, hi, mkP])
      simpa [mkV2] using this
  · simp only at h1 ⊢
    subst h1
    have := Rel.slice (R := plN bs) i 0 n n ⟨b, o, cap + 1 - n⟩ (by simp [plN, hi, mkP]) (Nat.le_refl _)
    rw [show n + (cap + 1 - n) = cap + 1 by omega] at this
    simpa [mkV2] using this
def mkVs2 : Nat → List AR → List Value
  | _, [] => []
  | i, a :: l => mkV2 i a.1 :: mkVs2 (i + 1) l
theorem mkVs2_get : ∀ (l : List AR) (i k : Nat), (mkVs2 i l)[k]? = (l[k]?).map fun a => mkV2 (i + k) a.1
  | [], i, k => by simp [mkVs2]
  | a :: l, i, 0 => by simp [mkVs2]
  | a :: l, i, k + 1 => by simp only [mkVs2, List.getElem?_cons_succ, mkVs2_get l (i + 1) k]; congr 1; funext x; congr 1; omega
theorem mkVs2_len : ∀ (l : List AR) (i : Nat), (mkVs2 i l).length = l.length
  | [], _ => rfl
  | a :: l, i => by simp [mkVs2, mkVs2_len l (i + 1)]
theorem mkB2_none {W : World} {R : Pl} {a : AR} {b : Blk} (h : OkB W R a) (hb : mkB2 a = some b) : ∃ bb o n cap, a.1 = .slice (some ⟨bb, o, none⟩) n (cap + 1) ∧ b = { cells := a.2, kind := .ro } ∧ bb < W.heap.size ∧ ∀ j x, a.2[j]? = some x → ∃ x', W.cell? ⟨bb, o + j, none⟩ = some x' ∧ Rel R x x' := by
  obtain ⟨v, c⟩ := a
  rcases h with h1 | ⟨x, h1⟩ | ⟨bb, o, n, cap, h1, h2, h3, h4⟩
  · simp only at h1
    cases v with
    | slice x n cap => cases x with
      | none => simp [mkB2] at hb
      | some x => simp [g0] at h1
    | _ => simp [mkB2] at hb
  · simp only at h1
    subst h1
    simp [mkB2] at hb
  · simp only at h1
    subst h1
    simp only [mkB2, Option.some.injEq] at hb
    exact ⟨bb, o, n, cap, rfl, hb.symm, h3, h4⟩
theorem top_callN {P : Program} {f : FuncId} {W : World} (bs : List AR) (na : Nat) (h : ∀ a ∈ bs, OkB W (plN bs) a) (hc : ACall P f ((mkVs2 0 bs).take na).toArray (bs.map mkB2) (Ret (.bool true) (bs.map mkB2))) :
    Calls P f ((bs.take na).map (·.1)).toArray W fun e w' => e = .returned (.bool true) ∧ Below W.heap.size W w' := by
  have hm : MRep W.heap.size (plN bs) (bs.map mkB2) W := by
    refine ⟨fun i hi => ?_, fun i b hi => ?_, fun i j b c p q hi hj hb _ _ _ _ => ?_⟩
    · simp only [List.length_map] at hi
      simp [plN, List.getElem?_eq_none hi]
    · rw [List.getElem?_map] at hi
      cases ha : bs[i]? with
      | none => rw [ha] at hi; cases hi
      | some a =>
        rw [ha] at hi
        simp only [Option.map_some, Option.some.injEq] at hi
        obtain ⟨bb, o, n, cap, h1, rfl, h3, h4⟩ := mkB2_none (h _ (List.mem_of_getElem? ha)) hi
        obtain ⟨v, c⟩ := a
        simp only at h1 h4
        subst h1
        refine ⟨⟨bb, o, cap + 1 - n⟩, by simp [plN, ha, mkP], h3, ?_⟩
        exact ⟨fun e => by simp at e, fun j x hj => h4 j x hj⟩
    · rw [List.getElem?_map] at hi
      cases ha : bs[i]? with
      | none => rw [ha] at hi; cases hi
      | some a =>
        rw [ha] at hi
        simp only [Option.map_some, Option.some.injEq] at hi
        obtain ⟨bb, o, n, cap, h1, rfl, _⟩ := mkB2_none (h _ (List.mem_of_getElem? ha)) hi
        cases hb
  have hargs : Rels (plN bs) ((mkVs2 0 bs).take na).toArray ((bs.take na).map (·.1)).toArray := by
    refine ⟨by simp [mkVs2_len], fun i hi => ?_⟩
    simp only [List.size_toArray, List.length_take, mkVs2_len] at hi
    have hib : i < bs.length := by omega
    have ha : bs[i]? = some bs[i] := List.getElem?_eq_getElem hib
    have e1 : ((mkVs2 0 bs).take na).toArray.getD i undef = mkV2 i bs[i].1 := by
      simp [mkVs2_get, ha, List.getElem?_take, show i < na by omega]
    have e2 : ((bs.take na).map (·.1)).toArray.getD i undef = bs[i].1 := by simp [List.getElem?_take, show i < na by omega, ha]
    rw [e1, e2]
    exact relN ha (h _ (List.mem_of_getElem? ha))
  refine (hc W.heap.size (plN bs) W _ (Nat.le_refl _) hm hargs).mono ?_
  rintro e w' ⟨v, v', R', m', rfl, k1, k2, rfl, rfl⟩
  cases k1
  exact ⟨rfl, k2.below hm (Nat.le_refl _)⟩
section
variable {H : Type} {enc : TypeId × Value → H} {P : Program} {w : World} {base : Nat} {held : Bool}
theorem cell_some {a : Addr} {v : Value} (h : w.cell? a = some v) : a.spot = none ∧ a.block < w.heap.size := by
  unfold World.cell? at h
  cases hb : w.heap[a.block]? with
  | none => rw [hb] at h; cases h
  | some o =>
    refine ⟨?_, (Array.getElem?_eq_some_iff.1 hb).1⟩
    rw [hb] at h
    cases o with
    | cells c ty fz =>
      simp only at h
      split at h
      · cases h
      · rename_i hs
        cases hsp : a.spot with
        | none => rfl
        | some k => rw [hsp] at hs; simp at hs
    | _ => cases h
end
end Go.Proofs.Ytabdnepfcohncaa.Abs
namespace Go.Proofs.Ytabdnepfcohncaa.Abs
set_option linter.unusedSimpArgs false
set_option linter.unusedVariables false
open Go.RowKit
open Go.Proofs.Ytabdnepfcohncaa.Sim
open Go.Proofs
open Go.ChangeShapes Go.WideShapes Go.Deep
section
variable {H : Type} {enc : TypeId × Value → H} {P : Program} {w : World} {base : Nat} {held : Bool}
/-- A row of transfers that the input shows, wherever it stands. -/
theorem trs_sl {T e : TypeId} {fs : Array Field} {fuel : Nat} {v : Value} {d : DataW H × List MemPlace} (ht : P.underlying T = some (.slice e)) (he : P.underlying e = some (.struct fs)) (hone : oneCellFields P fs = true) (hC : P.cellsOf e = fs.size) (hsz : fs.size = 4)
    (hI : ∀ j f, j < 4 → fs[j]? = some f → P.underlying f.type = some (.int .i64)) (h : DataW.trod enc P w base (fun _ => true) held fuel T [v] = some d) :
    ∃ l : List Tr, l.length ≤ maxLen ∧ (∀ R, OkB w R (v, tcs l)) ∧ ∀ (bs : List AR) (i : Nat), bs[i]? = some (v, tcs l) → Trs (bs.map mkB2) (mkV2 i v) l := by
  rcases open_slice_fields ht he hone hC h with ⟨hcs, _⟩ | ⟨x, n, c, m, D, Pl, hcs, _, hl, hm, hmm, _, hrow⟩
  · obtain rfl : v = .slice none 0 0 := by simpa using hcs
    exact ⟨[], Nat.zero_le _, fun R => .inl rfl, fun bs i hi => ⟨i, 0, .inl ⟨rfl, rfl⟩, by simp; exact (List.getElem?_eq_some_iff.1 hi).1, fun k hk => by simp at hk⟩⟩
  · obtain rfl : v = .slice (some x) n c := by simpa using hcs
    rw [if_pos rfl] at hmm
    have key : ∀ k : Nat, ∃ q : Tr, k < n → ∀ j : Nat, j < 4 → ∃ z, q.c[j]? = some (.int .i64 z) ∧ w.cell? (x.add (k * 4 + j)) = some (.int .i64 z) := fun k => by
      by_cases hk : k < n
      · obtain ⟨ys, nn, _, _, _, hf⟩ := hrow k (by omega)
        rw [hsz] at hf
        have fi : ∀ j, j < 4 → ∃ z : Int, w.cell? (x.add (k * 4 + j)) = some (.int .i64 z) := fun j hj => by
          have hfj : fs[j]? = some (fs[j]'(by omega)) := Array.getElem?_eq_getElem (by omega)
          obtain ⟨v, y, h1, _, h3⟩ := hf j _ hfj
          obtain ⟨z, hz, _⟩ := DataW.trod_int (hI j _ hj hfj) h3
          simp at hz
          subst hz
          exact ⟨z, h1⟩
        obtain ⟨z0, g0'⟩ := fi 0 (by omega)
        obtain ⟨z1, g1'⟩ := fi 1 (by omega)
        obtain ⟨z2, g2'⟩ := fi 2 (by omega)
        obtain ⟨z3, g3'⟩ := fi 3 (by omega)
        refine ⟨⟨z0, z1, z2, z3⟩, fun _ j hj => ?_⟩
        rcases (show j = 0 ∨ j = 1 ∨ j = 2 ∨ j = 3 by omega) with rfl | rfl | rfl | rfl
        · exact ⟨_, rfl, g0'⟩
        · exact ⟨_, rfl, g1'⟩
        · exact ⟨_, rfl, g2'⟩
        · exact ⟨_, rfl, g3'⟩
      · exact ⟨default, fun h => absurd h hk⟩
    obtain ⟨G, hG⟩ := Classical.axiomOfChoice key
    have hlen : ((List.range n).map G).length = n := by simp
    have hgd : ∀ k, k < n → ((List.range n).map G).getD k default = G k := fun k hk => by simp [hk]
    have hcell : ∀ j v, (tcs ((List.range n).map G))[j]? = some v → j < n * 4 ∧ w.cell? (x.add j) = some v ∧ ∃ z, v = .int .i64 z := fun j v hj => by
      have hj1 := (List.getElem?_eq_some_iff.1 hj).1
      rw [tcs_len, hlen] at hj1
      obtain ⟨z, q1, q2⟩ := hG (j / 4) (by omega) (j % 4) (by omega)
      have := tcs_get ((List.range n).map G) (j / 4) (by rw [hlen]; omega) (j % 4) (.int .i64 z) (by rw [hgd _ (by omega)]; exact q1)
      rw [show j / 4 * 4 + j % 4 = j by omega] at this q2
      rw [this] at hj
      injection hj with hj
      subst hj
      exact ⟨hj1, q2, z, rfl⟩
    cases c with
    | zero =>
      obtain rfl : n = 0 := by omega
      refine ⟨[], Nat.zero_le _, fun R => .inr (.inl ⟨x, rfl⟩), fun bs i hi => ?_⟩
      have hlt : i < (bs.map mkB2).length := by simp; exact (List.getElem?_eq_some_iff.1 hi).1
      obtain ⟨b, o, sp⟩ := x
      cases sp with
      | none => exact ⟨i, 0, Sl.mk (Nat.le_refl _), hlt, fun k hk => by simp at hk⟩
      | some k => exact ⟨i, 0, .inr (.inr ⟨rfl, 0, k, rfl⟩), hlt, fun k hk => by simp at hk⟩
    | succ c =>
      obtain ⟨b, o, sp⟩ := x
      have h0 : sp = none ∧ b < w.heap.size := by
        obtain ⟨ys, nn, _, _, _, hf⟩ := hrow 0 (by omega)
        have hfj : fs[0]? = some (fs[0]'(by omega)) := Array.getElem?_eq_getElem (by omega)
        obtain ⟨v, y, h1, _, h3⟩ := hf 0 _ hfj
        have := cell_some h1
        first | exact this | (simpa [Addr.add] using this) | (cases sp <;> simp_all [Addr.add])
      obtain ⟨rfl, hb⟩ := h0
      refine ⟨(List.range n).map G, by rw [hlen]; omega, fun R => .inr (.inr ⟨b, o, n, c, rfl, hl, hb, fun j x hj => ?_⟩), fun bs i hi => ?_⟩
      · obtain ⟨q1, q2, z, rfl⟩ := hcell j x hj
        rw [Addr.add_lit] at q2
        exact ⟨_, q2, .int _ _⟩
      · have hM : (bs.map mkB2)[i]? = some (some { cells := tcs ((List.range n).map G), kind := .ro }) := by rw [List.getElem?_map, hi]; rfl
        have hlt := (List.getElem?_eq_some_iff.1 hM).1
        refine ⟨i, 0, by rw [hlen]; exact Sl.mk (Nat.le_refl n), hlt, fun k hk => ⟨_, hM, fun j v hj => ?_⟩⟩
        rw [Nat.zero_add]
        exact tcs_get _ k hk j v hj
end
end Go.Proofs.Ytabdnepfcohncaa.Abs
namespace Go.Proofs.Ytabdnepfcohncaa.Abs
set_option linter.unusedSimpArgs false
set_option linter.unusedVariables false
open Go.RowKit
open Go.Proofs.Ytabdnepfcohncaa.Sim
open Go.Proofs
open Go.ChangeShapes Go.WideShapes Go.Deep
structure Deed where
  kd : Int
  who : Int
  n : Int
  m : Int
  l : List Tr
instance : Inhabited Deed := ⟨⟨0, 0, 0, 0, []⟩⟩
def Deed.cells (x : Deed) (w : Value) : List Value := [.int .i64 x.kd, .int .i64 x.who, .int .i64 x.n, .int .i64 x.m, w]
/-- A row of deeds. -/
def Deeds (M : AM) (v : Value) (ds : List Deed) : Prop := ∃ a o, Sl v a o ds.length ∧ a < M.length ∧ ∀ k, k < ds.length → ∃ w, RdL M a (o + k * 5) ((ds.getD k default).cells w) ∧ Trs M w (ds.getD k default).l
/-- The cells of n deeds; the After of job k lies in block e0 + k. -/
def deedCs (F : Nat → Deed) (s : Nat → Value) (e0 n : Nat) : List Value := (List.range n).flatMap fun k => (F k).cells (mkV2 (e0 + k) (s k))
theorem deedCs_succ (F : Nat → Deed) (s : Nat → Value) (e0 n : Nat) : deedCs F s e0 (n + 1) = deedCs F s e0 n ++ (F n).cells (mkV2 (e0 + n) (s n)) := by
  simp [deedCs, List.range_succ, List.flatMap_append]
theorem deedCs_len (F : Nat → Deed) (s : Nat → Value) (e0 : Nat) : ∀ n, (deedCs F s e0 n).length = n * 5
  | 0 => rfl
  | n + 1 => by rw [deedCs_succ, List.length_append, deedCs_len F s e0 n]; simp [Deed.cells]; omega
theorem deedCs_get (F : Nat → Deed) (s : Nat → Value) (e0 : Nat) : ∀ n k, k < n → ∀ q v, ((F k).cells (mkV2 (e0 + k) (s k)))[q]? = some v → (deedCs F s e0 n)[k * 5 + q]? = some v
  | 0, k, h, _, _, _ => by omega
  | n + 1, k, h, q, v, hq => by
    have hq4 : q < 5 := by have := (List.getElem?_eq_some_iff.1 hq).1; simpa [Deed.cells] using this
    rw [deedCs_succ]
    rcases Nat.lt_succ_iff_lt_or_eq.1 h with h' | h'
    · rw [List.getElem?_append_left (by rw [deedCs_len]; omega)]
      exact deedCs_get F s e0 n k h' q v hq
    · subst h'
      rw [List.getElem?_append_right (by rw [deedCs_len]; omega), deedCs_len, Nat.add_sub_cancel_left]
      exact hq
theorem cells5 (x : Deed) (w : Value) (q : Nat) (v : Value) (h : (x.cells w)[q]? = some v) : q = 0 ∧ v = .int .i64 x.kd ∨ q = 1 ∧ v = .int .i64 x.who ∨ q = 2 ∧ v = .int .i64 x.n ∨ q = 3 ∧ v = .int .i64 x.m ∨ q = 4 ∧ v = w := by
  match q, h with
  | 0, h => simp [Deed.cells] at h; exact .inl ⟨rfl, h.symm⟩
  | 1, h => simp [Deed.cells] at h; exact .inr (.inl ⟨rfl, h.symm⟩)
  | 2, h => simp [Deed.cells] at h; exact .inr (.inr (.inl ⟨rfl, h.symm⟩))
  | 3, h => simp [Deed.cells] at h; exact .inr (.inr (.inr (.inl ⟨rfl, h.symm⟩)))
  | 4, h => simp [Deed.cells] at h; exact .inr (.inr (.inr (.inr ⟨rfl, h.symm⟩)))
  | q + 5, h => simp [Deed.cells] at h
section
variable {H : Type} {enc : TypeId × Value → H} {P : Program} {w : World} {base : Nat} {held : Bool}
theorem arg_deeds {r : Reach} {b0 : Nat} {T e tS tI : TypeId} {fs gs : Array Field} {a : Option Addr} {n c : Nat} {d : DataW H} {p : List MemPlace} (ht : P.underlying T = some (.slice e)) (he : P.underlying e = some (.struct fs)) (hone : oneCellFields P fs = true) (hC : P.cellsOf e = fs.size) (hsz : fs.size = 5)
    (hI : ∀ j f, j < 4 → fs[j]? = some f → P.underlying f.type = some (.int .i64)) (hS : ∀ f, fs[4]? = some f → f.type = tS) (hS1 : P.underlying tS = some (.slice tI)) (hS2 : P.underlying tI = some (.struct gs)) (hS3 : oneCellFields P gs = true) (hS4 : P.cellsOf tI = gs.size) (hS5 : gs.size = 4) (hS6 : ∀ j f, j < 4 → gs[j]? = some f → P.underlying f.type = some (.int .i64))
    (hok : Value.okWide P w r b0 T (.slice a n c)) (h : DataW.Trod enc P w base (fun _ => true) held T (.slice a n c) d p) :
    ∃ (F : Nat → Deed) (s : Nat → Value), n ≤ maxLen ∧ (∀ k, (F k).l.length ≤ maxLen) ∧ (∀ R k, OkB w R (s k, tcs (F k).l)) ∧
      (∀ (bs : List AR) (e0 : Nat), (∀ k, k < n → bs[e0 + k]? = some (s k, tcs (F k).l)) → OkB w (plN bs) (.slice a n c, deedCs F s e0 n)) ∧
      (∀ (bs : List AR) (i e0 : Nat), bs[i]? = some (.slice a n c, deedCs F s e0 n) → (∀ k, k < n → bs[e0 + k]? = some (s k, tcs (F k).l)) → Deeds (bs.map mkB2) (mkV2 i (.slice a n c)) ((List.range n).map F)) := by
  obtain ⟨fuel, h⟩ := h
  rcases ok_slice ht hok with ⟨rfl, rfl, rfl⟩ | ⟨b, o, rfl, hle, hlt⟩
  · exact ⟨fun _ => default, fun _ => .slice none 0 0, by unfold maxLen; omega, fun _ => by show ([] : List Tr).length ≤ _; simp, fun R k => .inl rfl, fun bs e0 _ => .inl rfl, fun bs i e0 hi _ =>
      ⟨i, 0, .inl ⟨rfl, rfl⟩, by simp; exact (List.getElem?_eq_some_iff.1 hi).1, fun k hk => by simp at hk⟩⟩
  · rcases open_slice_fields ht he hone hC h with ⟨hcs, _⟩ | ⟨x, l, cap, m, D, Pl, hcs, _, hl, hm, hmm, _, hrow⟩
    · simp [Value.cells] at hcs
    · simp [Value.cells] at hcs
      obtain ⟨rfl, rfl, rfl⟩ := hcs
      rw [if_pos rfl] at hmm
      have key : ∀ k : Nat, ∃ q : Deed × Value, q.1.l.length ≤ maxLen ∧ (∀ R, OkB w R (q.2, tcs q.1.l)) ∧ (∀ (bs : List AR) (i : Nat), bs[i]? = some (q.2, tcs q.1.l) → Trs (bs.map mkB2) (mkV2 i q.2) q.1.l) ∧
          (k < n → w.cell? ⟨b, o + (k * 5 + 0), none⟩ = some (.int .i64 q.1.kd) ∧ w.cell? ⟨b, o + (k * 5 + 1), none⟩ = some (.int .i64 q.1.who) ∧ w.cell? ⟨b, o + (k * 5 + 2), none⟩ = some (.int .i64 q.1.n) ∧ w.cell? ⟨b, o + (k * 5 + 3), none⟩ = some (.int .i64 q.1.m) ∧ w.cell? ⟨b, o + (k * 5 + 4), none⟩ = some q.2) := fun k => by
        by_cases hk : k < n
        · obtain ⟨ys, nn, _, _, _, hf⟩ := hrow k (by omega)
          rw [hsz] at hf
          have fi : ∀ j, j < 4 → ∃ z : Int, w.cell? ⟨b, o + (k * 5 + j), none⟩ = some (.int .i64 z) := fun j hj => by
            have hfj : fs[j]? = some (fs[j]'(by omega)) := Array.getElem?_eq_getElem (by omega)
            obtain ⟨v, y, h1, _, h3⟩ := hf j _ hfj
            obtain ⟨z, hz, _⟩ := DataW.trod_int (hI j _ hj hfj) h3
            simp at hz
            subst hz
            rw [Addr.add_lit] at h1
            exact ⟨z, h1⟩
          obtain ⟨z0, g0'⟩ := fi 0 (by omega)
          obtain ⟨z1, g1'⟩ := fi 1 (by omega)
          obtain ⟨z2, g2'⟩ := fi 2 (by omega)
          obtain ⟨z3, g3'⟩ := fi 3 (by omega)
          have hf3 : fs[4]? = some (fs[4]'(by omega)) := Array.getElem?_eq_getElem (by omega)
          obtain ⟨v, y, h1, _, h3⟩ := hf 4 _ hf3
          rw [hS _ hf3] at h3
          rw [Addr.add_lit] at h1
          obtain ⟨l, l1, l2, l3⟩ := trs_sl hS1 hS2 hS3 hS4 hS5 hS6 h3
          exact ⟨(⟨z0, z1, z2, z3, l⟩, v), l1, l2, l3, fun _ => ⟨g0', g1', g2', g3', h1⟩⟩
        · exact ⟨(default, .slice none 0 0), by show ([] : List Tr).length ≤ _; simp, fun R => .inl rfl, fun bs i hi => ⟨i, 0, .inl ⟨rfl, rfl⟩, by simp; exact (List.getElem?_eq_some_iff.1 hi).1, fun k hk => by simp [default, instInhabitedDeed] at hk⟩, fun h => absurd h hk⟩
      obtain ⟨G, hG⟩ := Classical.axiomOfChoice key
      refine ⟨fun k => (G k).1, fun k => (G k).2, by omega, fun k => (hG k).1, fun R k => (hG k).2.1 R, fun bs e0 hbs => ?_, fun bs i e0 hi hbs => ?_⟩
      · cases c with
        | zero =>
          obtain rfl : n = 0 := by omega
          exact .inr (.inl ⟨⟨b, o, none⟩, rfl⟩)
        | succ c =>
          refine .inr (.inr ⟨b, o, n, c, rfl, hle, hlt, fun j x hj => ?_⟩)
          have hjl := (List.getElem?_eq_some_iff.1 hj).1
          simp only [deedCs_len] at hjl
          have hk : j / 5 < n := by omega
          have hj5 : j % 5 < 5 := Nat.mod_lt _ (by omega)
          have e : j = j / 5 * 5 + j % 5 := by omega
          generalize hkk : j / 5 = k at *
          generalize hqq : j % 5 = q at *
          subst e
          have hcells : ∃ v, ((G k).1.cells (mkV2 (e0 + k) (G k).2))[q]? = some v := ⟨_, List.getElem?_eq_getElem (by simpa [Deed.cells] using hj5)⟩
          obtain ⟨v, hv⟩ := hcells
          have hget := deedCs_get (fun k => (G k).1) (fun k => (G k).2) e0 n k hk q v hv
          simp only at hj
          rw [hget] at hj
          injection hj with hj
          subst hj
          obtain ⟨c0, c1, c2, c3, c4⟩ := (hG k).2.2.2 hk
          rcases cells5 _ _ _ _ hv with ⟨rfl, rfl⟩ | ⟨rfl, rfl⟩ | ⟨rfl, rfl⟩ | ⟨rfl, rfl⟩ | ⟨rfl, rfl⟩
          · exact ⟨_, c0, .int _ _⟩
          · exact ⟨_, c1, .int _ _⟩
          · exact ⟨_, c2, .int _ _⟩
          · exact ⟨_, c3, .int _ _⟩
          · exact ⟨_, c4, relN (hbs k hk) ((hG k).2.1 (fun _ => none))⟩
      · have hlen : i < (bs.map mkB2).length := by simp; exact (List.getElem?_eq_some_iff.1 hi).1
        refine ⟨i, 0, by simpa [mkV2] using Sl.mk (Nat.le_refl n), hlen, fun k hk => ?_⟩
        have hk' : k < n := by simpa using hk
        have eg : ((List.range n).map fun k => (G k).1).getD k default = (G k).1 := by simp [hk']
        rw [eg]
        refine ⟨mkV2 (e0 + k) (G k).2, ?_, (hG k).2.2.1 bs (e0 + k) (hbs k hk')⟩
        cases c with
        | zero => omega
        | succ c =>
          refine ⟨{ cells := deedCs (fun k => (G k).1) (fun k => (G k).2) e0 n, kind := .ro }, by rw [List.getElem?_map, hi]; rfl, fun j v hj => ?_⟩
          rw [Nat.zero_add]
          exact deedCs_get _ _ e0 n k hk' j v hj
end
end Go.Proofs.Ytabdnepfcohncaa.Abs
namespace Go.Proofs.Ytabdnepfcohncaa.Abs
set_option linter.unusedSimpArgs false
set_option linter.unusedVariables false
open Go.RowKit
open Go.Proofs.Ytabdnepfcohncaa.Sim
open Go.Proofs
theorem BytsAt.of {m : AM} {v : Value} {i : Nat} {l : List UInt8} (hs : Sl v i 0 l.length) (hr : 0 < l.length → RdL m i 0 (by8 l)) : BytsAt m v i 0 l := ⟨hs, fun k hk => by
  obtain ⟨b, q1, q2⟩ := hr (by omega)
  refine ⟨b, q1, q2 k _ ?_⟩
  rw [by8_get hk, List.getD_eq_getElem?_getD, List.getElem?_eq_getElem hk]
  rfl⟩
end Go.Proofs.Ytabdnepfcohncaa.Abs
namespace Go.Proofs.Ytabdnepfcohncaa.Abs
set_option linter.unusedSimpArgs false
set_option linter.unusedVariables false
open Go.RowKit
open Go.Proofs.Ytabdnepfcohncaa.Sim
open Go.Proofs
theorem Sl.one {v : Value} {a o n : Nat} (h : Sl v a o n) : v.oneCell' = true ∧ v.cells = #[v] := by
  rcases h with ⟨rfl, _⟩ | ⟨c, _, rfl⟩ | ⟨_, o', k, rfl⟩ <;> exact ⟨rfl, rfl⟩
theorem ze52 : zeroB Try.prog 52 = some #[.int .i64 0, .int .i64 0, .int .i64 0, .int .i64 0, .slice none 0 0] := by kernel_rfl
theorem postF_take (B : Bk) (l : List Tr) : (postF B (l.take 18)).1 = (postF B l).1 ∧ (postF B (l.take 18)).2.2 = (postF B l).2.2 := by
  by_cases h : l.length ≤ 18
  · rw [List.take_of_length_le h]; exact ⟨rfl, rfl⟩
  · have h1 : postB l = false := by
      unfold postB
      rw [show decide (l.length ≤ 16) = false from decide_eq_false (by omega)]
      simp
    have h2 : postB (l.take 18) = false := by
      unfold postB
      rw [List.length_take, show decide (min 18 l.length ≤ 16) = false from decide_eq_false (by omega)]
      simp
    unfold postF
    rw [if_pos h1, if_pos h2]
    exact ⟨rfl, rfl⟩
theorem Built.step {B : Bk} (h : Built B) (l : List Tr) : Built (postF B l).1 := by
  by_cases hz : (postF B l).2.2 = 0
  · exact .post h hz
  · have : (postF B l).1 = B := by
      revert hz
      unfold postF
      split
      · intro _; rfl
      · split
        · intro _; rfl
        · split
          · intro _; rfl
          · intro h; exact absurd rfl h
    rw [this]; exact h
theorem postF_bad {B : Bk} {l : List Tr} (h : (postF B l).2.2 ≠ 0) : (postF B l).1 = B ∧ (postF B l).2.1 = 0 := by
  revert h
  unfold postF
  split
  · intro _; exact ⟨rfl, rfl⟩
  · split
    · intro _; exact ⟨rfl, rfl⟩
    · split
      · intro _; exact ⟨rfl, rfl⟩
      · intro h; exact absurd rfl h
theorem postF_num {B : Bk} {l : List Tr} (h : (postF B l).2.2 = 0) : (postF B l).2.1 = ((B.P.length + 1 : Nat) : Int) := by
  revert h
  unfold postF
  split
  · intro h; exact absurd h (show ¬ ((2 : Int) = 0) by decide)
  · split
    · intro h; exact absurd h (show ¬ ((11 : Int) = 0) by decide)
    · split
      · intro h; exact absurd h (show ¬ ((5 : Int) = 0) by decide)
      · intro _; rfl
/-- Post, whatever comes of it. -/
theorem Post_ok {m : AM} {b0 bk : Nat} {B : Bk} {pv v : Value} {l : List Tr} (h : BookAt m b0 bk B pv) (hl : ∀ M, Fr m M bk pv → Trs M v l) (hb : Bd B.H 1000000000) (hlen : B.P.length ≤ 1000000) (hll : l.length ≤ 1000000) :
    ACall Try.prog 28 #[.pointer (some ⟨bk, 0, none⟩), v] m (fun r M => ∃ u, r = .tuple #[.int .i64 (postF B l).2.1, .int .i64 (postF B l).2.2] ∧ BookAt M b0 bk (postF B l).1 u ∧ Fr m M bk pv ∧ (∀ j, j < m.length → NotOf pv j → NotOf u j) ∧ ((postF B l).1.P.length = 0 → u = pv)) := by
  by_cases hz : (postF B l).2.2 = 0
  · rw [postF_num hz, hz]
    refine (Post_good h hl hb hlen hz).mono ?_
    rintro r M ⟨u, e1, e2, e3, e4⟩
    refine ⟨u, e1, e2, e3, e4, fun h0 => ?_⟩
    rw [(postF_zero hz).2] at h0
    simp at h0
  · obtain ⟨e1, e2⟩ := postF_bad hz
    refine (Post_bad h (hl m (Fr.refl _ _ _)) hb hll hz).mono ?_
    rintro r M ⟨rfl, rfl⟩
    rw [e1, e2]
    exact ⟨pv, rfl, h, Fr.refl _ _ _, fun j _ hn => hn, fun _ => rfl⟩
end Go.Proofs.Ytabdnepfcohncaa.Abs
namespace Go.Proofs.Ytabdnepfcohncaa.Abs
set_option linter.unusedSimpArgs false
set_option linter.unusedVariables false
open Go.RowKit
open Go.Proofs.Ytabdnepfcohncaa.Sim
open Go.Proofs
/-- A book stays what it is while another is written. -/
theorem PostsAt.keep {M M' : AM} {b0 xk : Nat} {pv px : Value} {P : List (List Tr)} (h : PostsAt M b0 pv P) (hF : Fr M M' xk px) (hd : ∀ j, NotOf pv j ∨ NotOf px j) (hx : NotOf pv xk) (hs : ∀ a x, Rd M a 0 (.int .i64 x) → a ≠ xk ∧ NotOf px a) : PostsAt M' b0 pv P := by
  obtain ⟨pc, h5, h6⟩ := h
  refine ⟨pc, h5.keep fun j hj hnj => hF.2 j hj (fun e => hnj (e ▸ hx)) ((hd j).resolve_left hnj), fun k hk => ?_⟩
  obtain ⟨u, q1, q2⟩ := h6 k hk
  exact ⟨u, q1, q2.keep hF.1 fun a ha hr => hF.2 a ha (hs a _ hr).1 (hs a _ hr).2⟩
theorem BookAt.other {M M' : AM} {b0 bk b1 xk : Nat} {B : Bk} {P : List (List Tr)} {pv px : Value} (h : BookAt M b0 bk B pv) (hX : RBook M b1 xk P px) (hz : P.length = 0 → px = .slice none 0 0) (hF : Fr M M' xk px) (hd : ∀ j, NotOf pv j ∨ NotOf px j) (hne : bk ≠ xk) (h1 : NotOf pv xk) (h2 : NotOf px bk) : BookAt M' b0 bk B pv :=
  ⟨h.lo, by rw [hF.2 bk h.lt hne h2]; exact h.cells, h.lH, h.lC, PostsAt.keep h.row hF hd h1 fun a x hr => ⟨(hX.sep hr).1 hX.slv, by
    by_cases h0 : P.length = 0
    · rw [hz h0]; exact NotOf.nil
    · exact (hX.sep hr).2 (by omega)⟩⟩
theorem RBook.other {M M' : AM} {b0 bk b1 xk : Nat} {B : Bk} {P : List (List Tr)} {pv px : Value} (h : BookAt M b0 bk B pv) (hz : B.P.length = 0 → pv = .slice none 0 0) (hX : RBook M b1 xk P px) (hF : Fr M M' bk pv) (hd : ∀ j, NotOf pv j ∨ NotOf px j) (hne : bk ≠ xk) (h1 : NotOf pv xk) (h2 : NotOf px bk) : RBook M' b1 xk P px :=
  ⟨hX.lo, by rw [hF.2 xk hX.lt (Ne.symm hne) h1]; exact hX.cells, PostsAt.keep hX.posts hF (fun j => (hd j).symm) h2 fun a x hr => ⟨(h.sep hr).1, by
    by_cases h0 : B.P.length = 0
    · rw [hz h0]; exact NotOf.nil
    · exact (h.sep hr).2 (by omega)⟩⟩
/-- Two books side by side, apart. -/
structure Two (M : AM) (b0 bk xk : Nat) (B : Bk) (pv px : Value) : Prop where
  b : BookAt M b0 bk B pv
  x : RBook M b0 xk B.P px
  ne : bk ≠ xk
  dis : ∀ j, NotOf pv j ∨ NotOf px j
  n1 : NotOf pv xk
  n2 : NotOf px bk
  z1 : B.P.length = 0 → pv = .slice none 0 0
  z2 : B.P.length = 0 → px = .slice none 0 0
theorem Two.old {M : AM} {b0 bk xk : Nat} {B : Bk} {pv px : Value} (h : Two M b0 bk xk B pv px) (T : AM) : Two (M ++ T) b0 bk xk B pv px := ⟨h.b.old T, h.x.old T, h.ne, h.dis, h.n1, h.n2, h.z1, h.z2⟩
theorem Two.bfar {M : AM} {b0 bk xk : Nat} {B : Bk} {pv px : Value} (h : Two M b0 bk xk B pv px) (j : Nat) : (j < M.length ∨ NotOf pv j) ∧ (j < M.length ∨ NotOf px j) := by
  obtain ⟨pc, q1, _⟩ := h.b.row
  obtain ⟨pd, q2, _⟩ := h.x.posts
  by_cases hj : j < M.length
  · exact ⟨.inl hj, .inl hj⟩
  · exact ⟨.inr (q1.far (by omega)), .inr (q2.far (by omega))⟩
theorem Two.step {M M1 M2 : AM} {b0 bk xk : Nat} {B B' : Bk} {P' : List (List Tr)} {pv px pv' px' : Value} (h : Two M b0 bk xk B pv px) (hb : BookAt M1 b0 bk B' pv') (hF1 : Fr M M1 bk pv) (hn1 : ∀ j, j < M.length → NotOf pv j → NotOf pv' j) (hz1 : B'.P.length = 0 → pv' = pv)
    (hx : RBook M2 b0 xk P' px') (hF2 : Fr M1 M2 xk px) (hn2 : ∀ j, j < M1.length → NotOf px j → NotOf px' j) (hz2 : P'.length = 0 → px' = px) (eP : P' = B'.P) (hP : B'.P.length = 0 → B.P.length = 0) : Two M2 b0 bk xk B' pv' px' := by
  subst eP
  have hx1 := RBook.other h.b h.z1 h.x hF1 h.dis h.ne h.n1 h.n2
  have hl := h.x.lt
  have hl1 := h.b.lt
  have hLL := hF1.1
  have hb2 : BookAt M2 b0 bk B' pv' := BookAt.other hb hx1 h.z2 hF2 (fun j => by
    rcases h.dis j with hj | hj
    · by_cases hlt : j < M.length
      · exact .inl (hn1 j hlt hj)
      · exact .inr ((h.bfar j).2.resolve_left hlt)
    · exact .inr hj) h.ne (hn1 _ hl h.n1) h.n2
  refine ⟨hb2, hx, h.ne, fun j => ?_, hn1 _ hl h.n1, hn2 _ (by omega) h.n2, fun e => by rw [hz1 e]; exact h.z1 (hP e), fun e => by rw [hz2 e]; exact h.z2 (hP e)⟩
  by_cases h1 : j < M.length
  · rcases h.dis j with hj | hj
    · exact .inl (hn1 j h1 hj)
    · exact .inr (hn2 j (by omega) hj)
  · by_cases h2 : j < M1.length
    · exact .inr (hn2 j h2 ((h.bfar j).2.resolve_left h1))
    · obtain ⟨pc, q1, _⟩ := hb.row
      exact .inl (q1.far (by omega))
theorem Two.low {M : AM} {b0 bk xk : Nat} {B : Bk} {pv px : Value} (h : Two M b0 bk xk B pv px) {j : Nat} (hj : j < b0) : j ≠ bk ∧ j ≠ xk ∧ NotOf pv j ∧ NotOf px j := by
  obtain ⟨pc, q1, _⟩ := h.b.row
  obtain ⟨pd, q2, _⟩ := h.x.posts
  have := h.b.lo
  have := h.x.lo
  exact ⟨by omega, by omega, NotOf.row q1 hj, NotOf.row q2 hj⟩
theorem Deed.one {x : Deed} {w : Value} {a o n : Nat} (h : Sl w a o n) : (Value.agg (x.cells w).toArray).cells.all (·.oneCell') = true := by
  rcases h with ⟨rfl, _⟩ | ⟨c, _, rfl⟩ | ⟨_, o', k, rfl⟩ <;> simp [Deed.cells, Value.cells, Value.oneCell']
/-- What holds where a block is left. -/
theorem AW.midX {P : Program} {nt : Nat} {m m0 : AM} {t : Fm} {c : Code} {Q : AEx → Fm → AM → Prop} (id : Nat) (Mid : Fm → AM → Prop) (h : AW P nt m0 c t m (fun e t' m' => e = .exit id ∧ Mid t' m')) (h2 : ∀ t' m', Mid t' m' → Q (.exit id) t' m') : AW P nt m0 c t m Q :=
  h.mono fun e t' m' ⟨e1, e2⟩ => by subst e1; exact h2 _ _ e2
end Go.Proofs.Ytabdnepfcohncaa.Abs
namespace Go.Proofs.Ytabdnepfcohncaa.Abs
set_option linter.unusedSimpArgs false
set_option linter.unusedVariables false
open Go.RowKit
open Go.Proofs.Ytabdnepfcohncaa.Sim
open Go.Proofs
open Go.ChangeShapes Go.WideShapes Go.Deep
section
variable {H : Type} {enc : TypeId × Value → H} {P : Program} {w : World} {base : Nat} {held : Bool}
theorem arg_trs {T e : TypeId} {fs : Array Field} {a : Option Addr} {n c : Nat} {d : DataW H} {p : List MemPlace} (ht : P.underlying T = some (.slice e)) (he : P.underlying e = some (.struct fs)) (hone : oneCellFields P fs = true) (hC : P.cellsOf e = fs.size) (hsz : fs.size = 4)
    (hI : ∀ j f, j < 4 → fs[j]? = some f → P.underlying f.type = some (.int .i64)) (h : DataW.Trod enc P w base (fun _ => true) held T (.slice a n c) d p) :
    ∃ l : List Tr, l.length ≤ maxLen ∧ (∀ R, OkB w R (.slice a n c, tcs l)) ∧ ∀ (bs : List AR) (i : Nat), bs[i]? = some (.slice a n c, tcs l) → Trs (bs.map mkB2) (mkV2 i (.slice a n c)) l := by
  obtain ⟨fuel, h⟩ := h
  exact trs_sl ht he hone hC hsz hI (by simpa [Value.cells] using h)
end
/-- The deeds of an argument are few enough to be counted. -/
structure DShort (ds : List Deed) : Prop where
  n : ds.length ≤ 9223372036854775807
  l : ∀ k, (ds.getD k default).l.length ≤ 9223372036854775807
theorem short_deeds {F : Nat → Deed} {n : Nat} (h : n ≤ maxLen) (hF : ∀ k, (F k).l.length ≤ maxLen) : DShort ((List.range n).map F) := by
  unfold maxLen at *
  refine ⟨by simp; omega, fun k => ?_⟩
  by_cases hk : k < n
  · have e : ((List.range n).map F).getD k default = F k := by simp [hk]
    rw [e]
    have := hF k
    omega
  · have e : ((List.range n).map F).getD k default = default := by simp [hk]
    rw [e]
    show ([] : List Tr).length ≤ _
    simp
end Go.Proofs.Ytabdnepfcohncaa.Abs
namespace Go.Proofs.Ytabdnepfcohncaa.Abs
set_option linter.unusedSimpArgs false
set_option linter.unusedVariables false
open Go.RowKit
open Go.Proofs.Ytabdnepfcohncaa.Sim
open Go.Proofs
open Classical in
/-- Of a memory what S lets see. -/
noncomputable def vw (S : Nat → Prop) (m : AM) : AM := m.mapIdx fun i b => if S i then b else none
theorem vw_len (S : Nat → Prop) (m : AM) : (vw S m).length = m.length := by simp [vw]
theorem vw_in {S : Nat → Prop} {m : AM} {i : Nat} (h : S i) : (vw S m)[i]? = m[i]? := by
  simp only [vw, List.getElem?_mapIdx, if_pos h]
  cases m[i]? <;> rfl
theorem vw_out {S : Nat → Prop} {m : AM} {i : Nat} (h : ¬ S i) (hi : i < m.length) : (vw S m)[i]? = some none := by
  simp only [vw, List.getElem?_mapIdx, if_neg h, List.getElem?_eq_getElem hi]
  rfl
theorem vw_some {S : Nat → Prop} {m : AM} {i : Nat} {b : Blk} : (vw S m)[i]? = some (some b) ↔ S i ∧ m[i]? = some (some b) := by
  by_cases h : S i
  · rw [vw_in h]; exact ⟨fun e => ⟨h, e⟩, fun e => e.2⟩
  · constructor
    · intro e
      have hl := (List.getElem?_eq_some_iff.1 e).1
      rw [vw_len] at hl
      rw [vw_out h hl] at e
      cases e
    · intro e; exact absurd e.1 h
/-- m lies in m'. -/
structure Sub (m m' : AM) : Prop where
  len : m.length ≤ m'.length
  get : ∀ (i : Nat) (b : Blk), m[i]? = some (some b) → m'[i]? = some (some b)
theorem Sub.refl (m : AM) : Sub m m := ⟨Nat.le_refl _, fun _ _ h => h⟩
theorem Sub.trans {a b c : AM} (h : Sub a b) (k : Sub b c) : Sub a c := ⟨Nat.le_trans h.len k.len, fun i x hx => k.get i x (h.get i x hx)⟩
theorem Sub.vw (S : Nat → Prop) (m : AM) : Sub (vw S m) m := ⟨by rw [vw_len]; exact Nat.le_refl _, fun i b h => (vw_some.1 h).2⟩
theorem Sub.vws {S S' : Nat → Prop} (h : ∀ i, S i → S' i) (m : AM) : Sub (Abs.vw S m) (Abs.vw S' m) := ⟨by rw [vw_len, vw_len]; exact Nat.le_refl _, fun i b hb => vw_some.2 ⟨h i (vw_some.1 hb).1, (vw_some.1 hb).2⟩⟩
theorem Sub.app (m N : AM) : Sub m (m ++ N) := ⟨by rw [List.length_append]; omega, fun i b h => get_old N h⟩
theorem MRep.vw {base : Nat} {R : Pl} {m : AM} {w : World} (h : MRep base R m w) (S : Nat → Prop) : MRep base R (Abs.vw S m) w :=
  ⟨fun i hi => h.none_ i (by rwa [vw_len] at hi), fun i b hb => h.rep i b (vw_some.1 hb).2, fun i j b c p q hi hj => h.apart i j b c p q (vw_some.1 hi).2 (vw_some.1 hj).2⟩
open Classical in
/-- What stands behind a call that saw S of m and left M' of it. -/
noncomputable def glue (S : Nat → Prop) (m M' : AM) : AM := (List.range (max m.length M'.length)).map fun i =>
  if i < m.length ∧ ¬ S i then m.getD i none else match M'.getD i none with
    | some b => if b.kind.mine = true ∨ m[i]? = some (some b) then some b else none
    | none => none
theorem glue_len (S : Nat → Prop) (m M' : AM) : (glue S m M').length = max m.length M'.length := by simp [glue]
theorem glue_out {S : Nat → Prop} {m M' : AM} {i : Nat} (hi : i < m.length) (h : ¬ S i) : (glue S m M')[i]? = m[i]? := by
  unfold glue
  rw [List.getElem?_map, List.getElem?_range (by omega), Option.map_some, if_pos ⟨hi, h⟩, List.getElem?_eq_getElem hi, List.getD_eq_getElem?_getD, List.getElem?_eq_getElem hi]
  rfl
open Classical in
theorem glue_some {S : Nat → Prop} {m M' : AM} {i : Nat} {b : Blk} : (glue S m M')[i]? = some (some b) ↔ (i < m.length ∧ ¬ S i ∧ m[i]? = some (some b)) ∨ (¬ (i < m.length ∧ ¬ S i) ∧ M'[i]? = some (some b) ∧ (b.kind.mine = true ∨ m[i]? = some (some b))) := by
  by_cases h : i < m.length ∧ ¬ S i
  · rw [glue_out h.1 h.2]
    exact ⟨fun e => .inl ⟨h.1, h.2, e⟩, fun e => by
      rcases e with e | e
      · exact e.2.2
      · exact absurd h e.1⟩
  · have key : ∀ (hi : i < max m.length M'.length), (glue S m M')[i]? = some (match M'.getD i none with
        | some b => if b.kind.mine = true ∨ m[i]? = some (some b) then some b else none
        | none => none) := fun hi => by
      unfold glue
      rw [List.getElem?_map, List.getElem?_range hi, Option.map_some, if_neg h]
    constructor
    · intro e
      have hl := (List.getElem?_eq_some_iff.1 e).1
      rw [glue_len] at hl
      rw [key hl] at e
      injection e with e
      split at e
      · rename_i c hc
        split at e
        · rename_i hq
          injection e with e
          subst e
          refine .inr ⟨h, ?_, hq⟩
          rw [List.getD_eq_getElem?_getD] at hc
          cases hx : M'[i]? with
          | none => rw [hx] at hc; cases hc
          | some y => rw [hx] at hc; simp only [Option.getD_some] at hc; rw [hc]
        · cases e
      · cases e
    · rintro (e | ⟨_, e1, e2⟩)
      · exact absurd ⟨e.1, e.2.1⟩ h
      · have hl := (List.getElem?_eq_some_iff.1 e1).1
        rw [key (by omega)]
        have : M'.getD i none = some b := by rw [List.getD_eq_getElem?_getD, e1]; rfl
        rw [this]
        simp only
        rw [if_pos e2]
theorem Owned.vw {S : Nat → Prop} {m : AM} {R : Pl} {k : Nat} (h : Owned (Abs.vw S m) R k) : ∃ (i : Nat) (b : Blk) (p : Sim.Place), S i ∧ m[i]? = some (some b) ∧ b.kind.mine = true ∧ R i = some p ∧ p.block = k := by
  obtain ⟨i, b, p, h1, h2, h3, h4⟩ := h
  exact ⟨i, b, p, (vw_some.1 h1).1, (vw_some.1 h1).2, h2, h3, h4⟩
theorem mine_edge {k : Kind} (h : k.mine = true) : k ≠ .edge := by rintro rfl; cases h
theorem Post.glue {base : Nat} {S : Nat → Prop} {m M' : AM} {R R' : Pl} {w w' : World} (hm : MRep base R m w) (h : Post base (vw S m) M' R R' w w') : Post base m (Abs.glue S m M') R R' w w' := by
  have old : ∀ (i : Nat) (b : Blk) (p : Sim.Place), m[i]? = some (some b) → R' i = some p → R i = some p ∧ BRep base R b p w := fun i b p hb hp => by
    obtain ⟨q, q1, q2⟩ := hm.rep i b hb
    have := h.le i q q1
    rw [hp] at this
    injection this with this
    subst this
    exact ⟨q1, q2⟩
  refine ⟨h.le, ⟨fun i hi => h.rep.none_ i (by rw [glue_len] at hi; omega), fun i b hb => ?_, fun i j b c p q hi hj hbm hce hne hRi hRj => ?_⟩, h.os, h.tape, h.output, h.size, fun k hk ho => h.keep k hk fun ho' => ?_, fun k ho => ?_⟩
  · rcases glue_some.1 hb with ⟨h1, h2, h3⟩ | ⟨_, h2, _⟩
    · obtain ⟨p, q1, q2⟩ := hm.rep i b h3
      refine ⟨p, h.le i p q1, ?_⟩
      by_cases hek : b.kind = .edge
      · unfold BRep at q2 ⊢
        rw [hek] at q2 ⊢
        exact ⟨by have := h.size; omega, q2.2⟩
      refine (q2.mono h.le).kept (h.keep p.block q2.lt fun ho => ?_)
      obtain ⟨i', b', p', o1, o2, o3, o4, o5⟩ := Owned.vw ho
      exact hm.apart i' i b' b p' p o2 h3 o3 hek (fun e => h2 (e ▸ o1)) o4 q1 o5
    · exact h.rep.rep i b h2
  · rcases glue_some.1 hi with ⟨a1, a2, a3⟩ | ⟨a1, a2, a3⟩ <;> rcases glue_some.1 hj with ⟨c1, c2, c3⟩ | ⟨c1, c2, c3⟩
    · exact hm.apart i j b c p q a3 c3 hbm hce hne (old i b p a3 hRi).1 (old j c q c3 hRj).1
    · rcases c3 with c3 | c3
      · rcases h.sub q.block ⟨j, c, q, c2, c3, hRj, rfl⟩ with hz | ho
        · have := (old i b p a3 hRi).2.lt; omega
        · obtain ⟨j', c', q', o1, o2, o3, o4, o5⟩ := Owned.vw ho
          rw [← o5]
          exact hm.apart i j' b c' p q' a3 o2 hbm (mine_edge o3) (fun e => a2 (e ▸ o1)) (old i b p a3 hRi).1 o4
      · exact hm.apart i j b c p q a3 c3 hbm hce hne (old i b p a3 hRi).1 (old j c q c3 hRj).1
    · rcases h.sub p.block ⟨i, b, p, a2, hbm, hRi, rfl⟩ with hz | ho
      · have := (old j c q c3 hRj).2.lt; omega
      · obtain ⟨i', b', p', o1, o2, o3, o4, o5⟩ := Owned.vw ho
        rw [← o5]
        exact hm.apart i' j b' c p' q o2 c3 o3 hce (fun e => c2 (e ▸ o1)) o4 (old j c q c3 hRj).1
    · exact h.rep.apart i j b c p q a2 c2 hbm hce hne hRi hRj
  · obtain ⟨i', b', p', o1, o2, o3, o4, o5⟩ := Owned.vw ho'
    exact ho ⟨i', b', p', o2, o3, o4, o5⟩
  · obtain ⟨i, b, p, h1, h2, h3, h4⟩ := ho
    rcases glue_some.1 h1 with ⟨_, _, a3⟩ | ⟨_, a2, _⟩
    · exact .inr ⟨i, b, p, a3, h2, (old i b p a3 h3).1, h4⟩
    · rcases h.sub k ⟨i, b, p, a2, h2, h3, h4⟩ with hz | ho
      · exact .inl hz
      · obtain ⟨i', b', p', o1, o2, o3, o4, o5⟩ := Owned.vw ho
        exact .inr ⟨i', b', p', o2, o3, o4, o5⟩
/-- What a call that saw S of m left behind: M' of what it saw, M of all. -/
structure Fra (S : Nat → Prop) (m M' M : AM) : Prop where
  len : m.length ≤ M.length
  le : M'.length ≤ M.length
  out : ∀ i, i < m.length → ¬ S i → M[i]? = m[i]?
  get : ∀ (i : Nat) (b : Blk), (i < m.length → S i) → M'[i]? = some (some b) → b.kind.mine = true ∨ m[i]? = some (some b) → M[i]? = some (some b)
theorem Fra.of_glue (S : Nat → Prop) (m M' : AM) : Fra S m M' (glue S m M') :=
  ⟨by rw [glue_len]; omega, by rw [glue_len]; omega, fun i hi hs => glue_out hi hs, fun i b h1 h2 h3 => glue_some.2 (.inr ⟨fun e => e.2 (h1 e.1), h2, h3⟩)⟩
/-- THE FRAME. -/
theorem ACall.frame {P : Program} {f : FuncId} {args : Array Value} {m : AM} {Q : Value → AM → Prop} (S : Nat → Prop) (h : ACall P f args (vw S m) Q) :
    ACall P f args m (fun v M => ∃ M', Q v M' ∧ Fra S m M' M) := by
  intro base R w args' hb hm hargs
  refine (h base R w args' hb (MRep.vw hm S) hargs).mono ?_
  rintro e w' ⟨v, v', R', m', h1, h2, h3, h4⟩
  exact ⟨v, v', R', _, h1, h2, Post.glue hm h3, m', h4, Fra.of_glue S m m'⟩
/-- Of the blocks that are one's own. -/
structure MSub (m m' : AM) : Prop where
  len : m.length ≤ m'.length
  get : ∀ (i : Nat) (b : Blk), b.kind.mine = true → m[i]? = some (some b) → m'[i]? = some (some b)
theorem Sub.m {a b : AM} (h : Sub a b) : MSub a b := ⟨h.len, fun i x _ hx => h.get i x hx⟩
theorem MSub.refl (m : AM) : MSub m m := (Sub.refl m).m
theorem MSub.trans {a b c : AM} (h : MSub a b) (k : MSub b c) : MSub a c := ⟨Nat.le_trans h.len k.len, fun i x hm hx => k.get i x hm (h.get i x hm hx)⟩
/-- What a call may see and what it made. -/
def ext (S : Nat → Prop) (m : AM) : Nat → Prop := fun i => S i ∨ m.length ≤ i
theorem Fra.msub {S : Nat → Prop} {m M' M : AM} (h : Fra S m M' M) (hc : ∀ i, i < m.length → ¬ S i → M'[i]? = some none) : MSub M' (vw (ext S m) M) := by
  refine ⟨by rw [vw_len]; exact h.le, fun i b hb hi => ?_⟩
  have hs : i < m.length → S i := fun hl => by
    by_cases e : S i
    · exact e
    · rw [hc i hl e] at hi; cases hi
  refine vw_some.2 ⟨?_, h.get i b hs hi (.inl hb)⟩
  by_cases hl : i < m.length
  · exact .inl (hs hl)
  · exact .inr (by omega)
theorem Fra.other {S T : Nat → Prop} {m M' M : AM} (h : Fra S m M' M) (hd : ∀ i, T i → i < m.length → ¬ S i) : Sub (vw T m) (vw T M) := by
  refine ⟨by rw [vw_len, vw_len]; exact h.len, fun i b hi => ?_⟩
  obtain ⟨h1, h2⟩ := vw_some.1 hi
  have hl := (List.getElem?_eq_some_iff.1 h2).1
  exact vw_some.2 ⟨h1, by rw [h.out i hl (hd i h1 hl)]; exact h2⟩
/-- Only blocks of D are turned. -/
structure Keep (D : Nat → Prop) (m M : AM) : Prop where
  len : m.length ≤ M.length
  get : ∀ j, j < m.length → ¬ D j → M[j]? = m[j]?
theorem Keep.clean {D S : Nat → Prop} {m M : AM} (h : Keep D (vw S m) M) (hd : ∀ i, D i → S i) : ∀ i, i < m.length → ¬ S i → M[i]? = some none := fun i hi hs => by
  rw [h.get i (by rw [vw_len]; exact hi) (fun e => hs (hd i e)), vw_out hs hi]
theorem Keep.refl (D : Nat → Prop) (m : AM) : Keep D m m := ⟨Nat.le_refl _, fun _ _ _ => rfl⟩
theorem Keep.trans {D E : Nat → Prop} {a b c : AM} (h : Keep D a b) (k : Keep E b c) (he : ∀ j, j < a.length → E j → D j) : Keep D a c :=
  ⟨Nat.le_trans h.len k.len, fun j hj hd => by rw [k.get j (by have := h.len; omega) (fun e => hd (he j hj e)), h.get j hj hd]⟩
theorem Keep.mono {D E : Nat → Prop} {a b : AM} (h : Keep D a b) (he : ∀ j, D j → E j) : Keep E a b := ⟨h.len, fun j hj hd => h.get j hj fun e => hd (he j e)⟩
theorem Keep.app (D : Nat → Prop) (m N : AM) : Keep D m (m ++ N) := ⟨by rw [List.length_append]; omega, fun j hj _ => List.getElem?_append_left hj⟩
theorem Row.msub {M M' : AM} {b0 s : Nat} {u : Value} {c : List Value} {n : Nat} (h : Row M b0 s u c n) (hs : MSub M M') : Row M' b0 s u c n := by
  rcases h with h | ⟨a, kd, sz, h1, h2, h3, h4, h5⟩
  · exact .inl h
  · exact .inr ⟨a, kd, sz, h1, h2, hs.get a _ (by rcases h5 with rfl | ⟨rfl, _⟩ <;> rfl) h3, h4, h5⟩
theorem PostAt.msub {M M' : AM} {b0 : Nat} {u : Value} {l : List Tr} (h : PostAt M b0 u l) (hs : MSub M M') : PostAt M' b0 u l := by
  obtain ⟨a, h1, h2, h3, ⟨b, h4, h5, h6⟩, h7⟩ := h
  exact ⟨a, h1, by have := hs.len; omega, h3, ⟨b, hs.get a b h5 h4, h5, h6⟩, h7⟩
theorem BookAt.msub {M M' : AM} {b0 bk : Nat} {B : Bk} {pv : Value} (h : BookAt M b0 bk B pv) (hs : MSub M M') : BookAt M' b0 bk B pv := by
  obtain ⟨h1, h2, h3, h4, pc, h5, h6⟩ := h
  refine ⟨h1, hs.get _ _ rfl h2, h3, h4, pc, h5.msub hs, fun k hk => ?_⟩
  obtain ⟨u, k1, k2⟩ := h6 k hk
  exact ⟨u, k1, k2.msub hs⟩
theorem RBook.msub {M M' : AM} {b0 xk : Nat} {P : List (List Tr)} {pv : Value} (h : RBook M b0 xk P pv) (hs : MSub M M') : RBook M' b0 xk P pv := by
  obtain ⟨h1, h2, pc, h5, h6⟩ := h
  refine ⟨h1, hs.get _ _ rfl h2, pc, h5.msub hs, fun k hk => ?_⟩
  obtain ⟨u, k1, k2⟩ := h6 k hk
  exact ⟨u, k1, k2.msub hs⟩
theorem Trs.sub {M M' : AM} {v : Value} {l : List Tr} (h : Trs M v l) (hs : Sub M M') : Trs M' v l := by
  obtain ⟨a, o, h1, h2, h3⟩ := h
  refine ⟨a, o, h1, by have := hs.len; omega, fun k hk => ?_⟩
  obtain ⟨b, q1, q2⟩ := h3 k hk
  exact ⟨b, hs.get a b q1, q2⟩
/-- Which blocks a book may turn. -/
def bkD (bk : Nat) (pv : Value) : Nat → Prop := fun j => j = bk ∨ ¬ NotOf pv j
theorem Fr.keep {m M : AM} {bk : Nat} {pv : Value} (h : Fr m M bk pv) : Keep (bkD bk pv) m M := ⟨h.1, fun j hj hd => by
  have h1 : j ≠ bk := fun e => hd (.inl e)
  have h2 : NotOf pv j := Classical.byContradiction fun e => hd (.inr e)
  exact h.2 j hj h1 h2⟩
theorem Row.at_ {M : AM} {b0 s : Nat} {u : Value} {c : List Value} {n j : Nat} (h : Row M b0 s u c n) (hj : ¬ NotOf u j) : ∃ b, M[j]? = some (some b) := by
  rcases h with ⟨rfl, _⟩ | ⟨a, kd, sz, _, rfl, h3, _⟩
  · exact absurd NotOf.nil hj
  · by_cases e : j = a
    · subst e; exact ⟨_, h3⟩
    · exact absurd (fun n' c' e' => by simp only [Value.slice.injEq, Option.some.injEq, Addr.mk.injEq] at e'; exact e e'.1.1.symm) hj
theorem BookAt.in_ {S : Nat → Prop} {M : AM} {b0 bk : Nat} {B : Bk} {pv : Value} (h : BookAt (vw S M) b0 bk B pv) : ∀ i, bkD bk pv i → S i := fun i hi => by
  rcases hi with rfl | hi
  · exact (vw_some.1 h.cells).1
  · obtain ⟨pc, h5, _⟩ := h.row
    obtain ⟨b, hb⟩ := h5.at_ hi
    exact (vw_some.1 hb).1
theorem RBook.in_ {S : Nat → Prop} {M : AM} {b0 bk : Nat} {P : List (List Tr)} {pv : Value} (h : RBook (vw S M) b0 bk P pv) : ∀ i, bkD bk pv i → S i := fun i hi => by
  rcases hi with rfl | hi
  · exact (vw_some.1 h.cells).1
  · obtain ⟨pc, h5, _⟩ := h.posts
    obtain ⟨b, hb⟩ := h5.at_ hi
    exact (vw_some.1 hb).1
end Go.Proofs.Ytabdnepfcohncaa.Abs
namespace Go.Proofs.Ytabdnepfcohncaa.Abs
set_option linter.unusedSimpArgs false
set_option linter.unusedVariables false
open Go.RowKit
open Go.Proofs.Ytabdnepfcohncaa.Sim
open Go.Proofs
def slF : Array Field := #[⟨"place", 3, 0, false, "", "trank/stock", 0⟩, ⟨"item", 3, 1, false, "", "trank/stock", 8⟩]
theorem un155 : Try.prog.underlying 155 = some (.struct slF) := by kernel_rfl
theorem un136 : Try.prog.underlying 136 = some (.map 155 4) := by kernel_rfl
def slotV (k : Int × Int) : Value := .agg #[.int .i64 k.1, .int .i64 k.2]
theorem forIn2 {α σ : Type} (x y : α) (s : σ) (f : α → σ → Sem (ForInStep σ)) : (forIn #[x, y] s f : Sem σ) = (do match ← f x s with | .done b => pure b | .yield b => match ← f y b with | .done b => pure b | .yield b => pure b) := by
  simp [List.forIn_cons, List.forIn_nil]
  exact congrArg (fun g => f x s >>= g) (funext fun u' => by
    cases u' with
    | done b => rfl
    | yield b => exact congrArg (fun g => f y b >>= g) (funext fun v => by cases v <;> rfl))
theorem still_chkI (e : Bool) (n : Nat) (x : Int) : Sim.still Try.prog (Instr.checkKey e (n + 1) 3 (.int .i64 x)) = some () := by
  rw [Instr.checkKey]
  show Sim.still Try.prog (Sem.bind (underlying 3) _) = _
  rw [still_bind, still_und un3]
  rfl
theorem still_chk (e : Bool) (n : Nat) (k : Int × Int) : Sim.still Try.prog (Instr.checkKey e (n + 1 + 1) 155 (slotV k)) = some () := by
  obtain ⟨a, b⟩ := k
  have p0 := part_tr (c := #[.int .i64 a, .int .i64 b]) (k := 0) rfl
  have p1 := part_tr (c := #[.int .i64 a, .int .i64 b]) (k := 1) rfl
  have h3 := fun x => still_chkI e n x
  rw [Instr.checkKey]
  show Sim.still Try.prog (Sem.bind (underlying 155) _) = _
  rw [still_bind, still_und un155]
  unfold slF slotV
  simp only [forIn2]
  simp [bind, still_bind, p0, p1, h3, pure, Sim.still]
theorem run_chk (e : Bool) (k : Int × Int) (w : World) : (Instr.checkKey e 10000 155 (slotV k)).run Try.prog w = .ok () w := still_run _ _ _ (still_chk e 9998 k) w
theorem still_eqS (n : Nat) (k k' : Int × Int) : Sim.still Try.prog (Op.equalIn (n + 1 + 1) 155 (slotV k) (slotV k')) = some (k == k') := by
  obtain ⟨a, b⟩ := k
  obtain ⟨a', b'⟩ := k'
  have hs : Try.prog.stoodInHeld 155 = false := by kernel_rfl
  have p0 := part_tr (c := #[.int .i64 a, .int .i64 b]) (k := 0) rfl
  have p1 := part_tr (c := #[.int .i64 a, .int .i64 b]) (k := 1) rfl
  have q0 := part_tr (c := #[.int .i64 a', .int .i64 b']) (k := 0) rfl
  have q1 := part_tr (c := #[.int .i64 a', .int .i64 b']) (k := 1) rfl
  have h3 := fun (x y : Int) => still_eqI (P := Try.prog) un3 n x y
  rw [Op.equalIn]
  show Sim.still Try.prog (Sem.bind (underlying 155) _) = _
  rw [still_bind, still_und un155]
  show Sim.still Try.prog (Sem.bind program _) = _
  have hp : Sim.still Try.prog program = some Try.prog := rfl
  rw [still_bind, hp]
  simp only [hs]
  unfold slF
  simp only [forIn2]
  have e : ((a, b) == (a', b')) = (a == a' && b == b') := rfl
  rw [e]
  cases h1 : (a == a') <;> cases h2 : (b == b') <;> simp [bind, still_bind, p0, p1, q0, q1, h3, h1, h2, pure, Sim.still]
theorem run_eqS (k k' : Int × Int) (w : World) : (Op.equal 155 (slotV k) (slotV k')).run Try.prog w = .ok (k == k') w := still_run _ _ _ (still_eqS 9998 k k') w
abbrev Ents := List ((Int × Int) × Bool)
def entsV (E : Ents) : List (Value × Value) := E.map fun e => (slotV e.1, .bool e.2)
def mapB (E : Ents) : Blk := { cells := [], kind := .map, ents := entsV E }
theorem entsV_get (E : Ents) (j : Nat) : (entsV E)[j]? = (E[j]?).map fun e => (slotV e.1, .bool e.2) := by simp [entsV]
theorem slot_g1 (k : Int × Int) : g1 (slotV k) = true := by simp [slotV, g1, g0]
/-- Where a key stands. -/
def idxE (E : Ents) (k : Int × Int) : Option Nat := E.findIdx? fun e => k == e.1
theorem run_ask (w : World) (k : Int × Int) : ∀ (E : Ents) (es : List MapEntry) (i : Nat), es.length = E.length → (∀ (j : Nat) (e : (Int × Int) × Bool), E[j]? = some e → ∃ x : MapEntry, es[j]? = some x ∧ x.key = slotV e.1) →
    (∃ (j : Nat) (x : MapEntry), idxE E k = some j ∧ es[j]? = some x ∧ (Instr.findAsking 155 (slotV k) es i).run Try.prog w = .ok (some (i + j, x.val)) w) ∨ (idxE E k = none ∧ (Instr.findAsking 155 (slotV k) es i).run Try.prog w = .ok none w)
  | [], [], i, _, _ => .inr ⟨rfl, rfl⟩
  | [], _ :: _, _, h, _ => by simp at h
  | _ :: _, [], _, h, _ => by simp at h
  | e :: E, x :: es, i, h, hj => by
    obtain ⟨x', h1, h2⟩ := hj 0 e rfl
    simp at h1; subst h1
    have hrun := run_eqS k e.1 w
    unfold Instr.findAsking idxE
    rw [List.findIdx?_cons]
    simp only [Sem.run_bind, h2, hrun, Result.andThen]
    cases hk : (k == e.1) with
    | true => exact .inl ⟨0, x, rfl, rfl, rfl⟩
    | false =>
      simp only [Bool.false_eq_true, if_false]
      rcases run_ask w k E es (i + 1) (by simpa using h) (fun j e hE => hj (j + 1) e hE) with ⟨j, y, q1, q2, q3⟩ | ⟨q1, q2⟩
      · refine .inl ⟨j + 1, y, ?_, q2, ?_⟩
        · unfold idxE at q1; rw [q1]; rfl
        · rw [q3, show i + 1 + j = i + (j + 1) by omega]
      · refine .inr ⟨?_, q2⟩
        unfold idxE at q1; rw [q1]; rfl
theorem run_findS (w : World) (k : Int × Int) (E : Ents) (es : List MapEntry) (hl : es.length = E.length) (hj : ∀ (j : Nat) (e : (Int × Int) × Bool), E[j]? = some e → ∃ x : MapEntry, es[j]? = some x ∧ x.key = slotV e.1) :
    (∃ (j : Nat) (x : MapEntry), idxE E k = some j ∧ es[j]? = some x ∧ (Instr.findKey 155 (slotV k) es).run Try.prog w = .ok (some (j, x.val)) w) ∨ (idxE E k = none ∧ (Instr.findKey 155 (slotV k) es).run Try.prog w = .ok none w) := by
  have ha := run_ask w k E es 0 hl hj
  cases es with
  | nil =>
    have : E = [] := List.eq_nil_of_length_eq_zero (by simpa using hl.symm)
    subst this
    refine .inr ⟨rfl, ?_⟩
    simp [Instr.findKey, run_underlying un155, Instr.findNow, Result.andThen]
  | cons x es =>
    have hn : Instr.findNow (.struct slF) (slotV k) (x :: es) 0 = none := by
      unfold Instr.findNow
      rfl
    have e : (Instr.findKey 155 (slotV k) (x :: es)).run Try.prog w = (Instr.findAsking 155 (slotV k) (x :: es) 0).run Try.prog w := by
      simp only [Instr.findKey, Sem.run_bind, run_underlying un155, Result.andThen, hn]
    rw [e]
    simpa only [Nat.zero_add] using ha
theorem same_slot (k : Int × Int) : Instr.sameBits 10000 (slotV k) (slotV k) = true := by
  unfold slotV
  simp [Instr.sameBits]
theorem run_stays (k : Int × Int) (w : World) : (Instr.keyThatStays (slotV k) (slotV k)).run Try.prog w = .ok (slotV k) w := by
  simp [Instr.keyThatStays, same_slot]
/-- The key k has the value b from here on. -/
def setE (E : Ents) (k : Int × Int) (b : Bool) : Ents := match idxE E k with
  | some j => E.set j (k, b)
  | none => E ++ [(k, b)]
theorem idxE_some {E : Ents} {k : Int × Int} {j : Nat} (h : idxE E k = some j) : ∃ b, E[j]? = some (k, b) := by
  unfold idxE at h
  obtain ⟨hj, h1, _⟩ := List.findIdx?_eq_some_iff_getElem.1 h
  refine ⟨E[j].2, ?_⟩
  rw [List.getElem?_eq_getElem hj]
  have : k = E[j].1 := by simpa using h1
  rw [this]
theorem mem_set_fst {E : Ents} {k : Int × Int} {j : Nat} {b b' : Bool} (h : E[j]? = some (k, b)) : (E.set j (k, b')).map Prod.fst = E.map Prod.fst := by
  rw [List.map_set]
  apply List.ext_getElem?
  intro i
  by_cases e : j = i
  · subst e
    have hl := (List.getElem?_eq_some_iff.1 h).1
    rw [List.getElem?_set_self (by simpa using hl), List.getElem?_map, h]
    rfl
  · rw [List.getElem?_set_ne e]
theorem setE_fst (E : Ents) (k : Int × Int) (b : Bool) (x : Int × Int) : x ∈ (setE E k b).map Prod.fst ↔ x ∈ E.map Prod.fst ∨ x = k := by
  unfold setE
  cases h : idxE E k with
  | some j =>
    obtain ⟨b', hb⟩ := idxE_some h
    simp only
    rw [mem_set_fst hb]
    exact ⟨.inl, fun q => q.elim id fun q => by rw [q]; exact List.mem_map.2 ⟨_, List.mem_of_getElem? hb, rfl⟩⟩
  | none => simp
section
variable {base : Nat} {R : Pl} {m : AM} {w : World}
theorem post_map (h : MRep base R m w) {i : Nat} {E : Ents} {p : Sim.Place} (hi : m[i]? = some (some (mapB E))) (hp : R i = some p) : ∃ es : Array MapEntry, w.heap[p.block]? = some (.map es es.size) ∧ RelE R (entsV E) es.toList ∧
    ∀ (E' : Ents) (fs : Array MapEntry), RelE R (entsV E') fs.toList → Post base m (m.set i (some (mapB E'))) R R w { w with heap := w.heap.setIfInBounds p.block (.map fs fs.size) } := by
  have hbr := h.of hi hp
  unfold BRep at hbr
  obtain ⟨hlt, hc, hex, hbs, es, hob, hre⟩ := hbr
  refine ⟨es, hob, hre, fun E' fs hfs => ?_⟩
  have hs := MapKept.heap_set (o' := .map fs fs.size) hob
  have hmine : (mapB E).kind.mine = true := rfl
  refine ⟨.refl R, h.turn hi hmine hp _ rfl ?_ ?_ ?_, rfl, rfl, rfl, by simp, fun k' hk' ho => ?_, fun k' ho => ?_⟩
  · refine ⟨by simpa using hlt, ?_⟩
    exact ⟨hc, hex, hbs, fs, hs.1, hfs⟩
  · intro k' hne; exact hs.2 k' hne
  · simp
  · exact hs.2 k' fun e => ho ⟨i, _, p, hi, hmine, hp, e.symm⟩
  · refine .inr ?_
    obtain ⟨j, c, q, q1, q2, q3, q4⟩ := ho
    by_cases e : j = i
    · subst e; exact ⟨j, _, q, hi, hmine, q3, q4⟩
    · rw [List.getElem?_set_ne (fun x => e x.symm)] at q1
      exact ⟨j, c, q, q1, q2, q3, q4⟩
theorem RelE.len {E : Ents} {es : List MapEntry} (h : RelE R (entsV E) es) : es.length = E.length := by
  rw [← h.1]; simp [entsV]
theorem RelE.at_ {E : Ents} {es : List MapEntry} (h : RelE R (entsV E) es) : ∀ (j : Nat) (e : (Int × Int) × Bool), E[j]? = some e → ∃ x : MapEntry, es[j]? = some x ∧ x.key = slotV e.1 ∧ x.born = j ∧ x.val = .bool e.2 := fun j e hj => by
  obtain ⟨x, h1, h2, h3, h4⟩ := h.2 j (slotV e.1) (.bool e.2) (by rw [entsV_get, hj]; rfl)
  refine ⟨x, h1, h2, h3, ?_⟩
  cases hx : x.val <;> rw [hx] at h4 <;> cases h4
  rfl
theorem RelE.mk {E : Ents} {es : List MapEntry} (hl : es.length = E.length) (h : ∀ (j : Nat) (e : (Int × Int) × Bool), E[j]? = some e → ∃ x : MapEntry, es[j]? = some x ∧ x.key = slotV e.1 ∧ x.born = j ∧ x.val = .bool e.2) : RelE R (entsV E) es := by
  refine ⟨by simp [entsV, hl], fun j k v hj => ?_⟩
  rw [entsV_get] at hj
  cases he : E[j]? with
  | none => rw [he] at hj; cases hj
  | some e =>
    rw [he] at hj
    simp only [Option.map_some, Option.some.injEq, Prod.mk.injEq] at hj
    obtain ⟨rfl, rfl⟩ := hj
    obtain ⟨x, h1, h2, h3, h4⟩ := h j e he
    exact ⟨x, h1, h2, h3, by rw [h4]; exact .bool _⟩
theorem RelE.push {E : Ents} {es : Array MapEntry} (h : RelE R (entsV E) es.toList) (k : Int × Int) (b : Bool) : RelE R (entsV (E ++ [(k, b)])) (es.push { key := slotV k, val := .bool b, born := es.size }).toList := by
  have hl := RelE.len h
  refine RelE.mk (by simpa using hl) fun j e hj => ?_
  rw [Array.toList_push]
  by_cases h1 : j < E.length
  · rw [List.getElem?_append_left h1] at hj
    rw [List.getElem?_append_left (by omega)]
    exact RelE.at_ h j e hj
  · have hj1 := (List.getElem?_eq_some_iff.1 hj).1
    obtain rfl : j = E.length := by simp at hj1; omega
    rw [List.getElem?_append_right (by omega)] at hj
    simp at hj
    subst hj
    rw [List.getElem?_append_right (by omega), hl]
    refine ⟨_, by simp; rfl, rfl, ?_, rfl⟩
    simpa using hl
theorem RelE.setv {E : Ents} {es : Array MapEntry} {k : Int × Int} {b b' : Bool} {j : Nat} (h : RelE R (entsV E) es.toList) (hj : E[j]? = some (k, b')) : RelE R (entsV (E.set j (k, b))) (es.modify j fun e => { e with key := slotV k, val := .bool b }).toList := by
  have hl := RelE.len h
  have hjl := (List.getElem?_eq_some_iff.1 hj).1
  refine RelE.mk (by simpa using hl) fun i e hi => ?_
  by_cases e2 : j = i
  · subst e2
    rw [List.getElem?_set_self hjl] at hi
    injection hi with hi; subst hi
    obtain ⟨x, h1, h2, h3, h4⟩ := RelE.at_ h j _ hj
    refine ⟨{ x with key := slotV k, val := .bool b }, ?_, rfl, h3, rfl⟩
    have : es[j]? = some x := by simpa using h1
    simp [Array.getElem?_modify, this]
  · rw [List.getElem?_set_ne e2] at hi
    obtain ⟨x, h1, h2, h3, h4⟩ := RelE.at_ h i e hi
    refine ⟨x, ?_, h2, h3, h4⟩
    have : es[i]? = some x := by simpa using h1
    simp [Array.getElem?_modify, e2, this]
end
end Go.Proofs.Ytabdnepfcohncaa.Abs
namespace Go.Proofs.Ytabdnepfcohncaa.Abs
set_option linter.unusedSimpArgs false
set_option linter.unusedVariables false
open Go.RowKit
open Go.Proofs.Ytabdnepfcohncaa.Sim
open Go.Proofs
open Go.ChangeMaps (setBlock)
theorem RelE.born {R : Pl} {l : List (Value × Value)} {es : Array MapEntry} (h : RelE R l es.toList) : (∀ x ∈ es.toList, x.born < l.length ∧ ∃ k v, l[x.born]? = some (k, v) ∧ x.key = k ∧ Rel R v x.val) ∧ (es.toList.map (·.born)).Nodup := by
  have hb : es.toList.map (·.born) = List.range es.toList.length := by
    apply List.ext_getElem?
    intro j
    rw [List.getElem?_map]
    by_cases hj : j < es.toList.length
    · rw [List.getElem?_range hj]
      have hl : j < l.length := by rw [h.1]; exact hj
      obtain ⟨e, h1, _, h3, _⟩ := h.2 j l[j].1 l[j].2 (List.getElem?_eq_getElem hl)
      rw [h1, Option.map_some, h3]
    · rw [List.getElem?_eq_none (by omega), List.getElem?_eq_none (by simpa using hj)]; rfl
  refine ⟨fun x hx => ?_, by rw [hb]; exact List.nodup_range⟩
  obtain ⟨j, hj, rfl⟩ := List.getElem_of_mem hx
  have hl : j < l.length := by rw [h.1]; exact hj
  obtain ⟨e, h1, h2, h3, h4⟩ := h.2 j l[j].1 l[j].2 (List.getElem?_eq_getElem hl)
  rw [List.getElem?_eq_getElem hj] at h1
  injection h1 with h1
  rw [h1, h3]
  exact ⟨hl, _, _, List.getElem?_eq_getElem hl, h2, h4⟩
section
variable {P : Program} {nt : Nat} {ops : Array Oper}
end
section
variable {P : Program} {nt : Nat} {m0 m : AM} {t : Fm}
theorem FR.cons {R : Pl} {l : List (Nat × Value)} {u : Array Value} {d : Nat} {v : Value} (h : FR R nt (Abs.put t d v) u) (hl : All (fun i v => t i = some v) l) : FR R nt (fr ((d, v) :: l)) u := by
  refine h.weak fun i x hi => ?_
  by_cases e : i = d
  · subst e
    simp only [fr, put_same] at hi ⊢
    exact hi
  · simp only [fr, put_ne _ _ e] at hi ⊢
    exact fr_all hl i x hi
end
section
variable {P : Program} {nt : Nat} {m0 m : AM}
end
section
variable {P : Program} {nt : Nat} {m0 m : AM} {t : Fm} {Q : AEx → Fm → AM → Prop}
end
end Go.Proofs.Ytabdnepfcohncaa.Abs
namespace Go.Proofs.Ytabdnepfcohncaa.Abs
set_option linter.unusedSimpArgs false
set_option linter.unusedVariables false
open Go.RowKit
open Go.Proofs.Ytabdnepfcohncaa.Sim
open Go.Proofs
section
variable {nt : Nat} {ops : Array Oper} {t : Fm} {m : AM} {K : Fm → AM → Prop} {d T : Nat} {p : String} {af : Array Edge}
theorem rel_slot {R : Pl} {k : Int × Int} {v : Value} (h : Rel R (slotV k) v) : v = slotV k := g1_eq (slot_g1 k) h
set_option maxRecDepth 100000 in
theorem Step.mapSet {x y z : Operand} {q : Nat} {k : Int × Int} {b : Bool} {E : Ents} (hx : evo t x = some (.map (some q))) (hy : evo t y = some (slotV k)) (hz : evo t z = some (.bool b)) (hq : m[q]? = some (some (mapB E))) (hK : K t (m.set q (some (mapB (setE E k b))))) :
    Step Try.prog nt ops ⟨none, .mapUpdate 136 x y z, T, p, af, none⟩ t m K := by
  refine .l0 rfl rfl rfl (by simp [Op.operands, hx, hy, hz]) ?_
  intro base R w a Q next hb hm hev hn
  have h1 := hev x (by simp [Op.operands])
  have h2 := hev y (by simp [Op.operands])
  have h3 := hev z (by simp [Op.operands])
  rw [evD_of hx] at h1
  rw [evD_of hy] at h2
  rw [evD_of hz] at h3
  have e2 := rel_slot h2
  have e3 : a.eval z = .bool b := by generalize a.eval z = u at h3; cases h3; rfl
  obtain ⟨pq, e1, hpq⟩ : ∃ pq, a.eval x = .map (some pq.block) ∧ R q = some pq := by
    generalize a.eval x = u at h1
    cases h1 with
    | mapAt _ p h => exact ⟨p, rfl, h⟩
  obtain ⟨es, hob, hre, post⟩ := post_map hm hq hpq
  have hl := RelE.len hre
  have hfind := run_findS w k E es.toList hl fun j e hj => by obtain ⟨x, q1, q2, _⟩ := RelE.at_ hre j e hj; exact ⟨x, q1, q2⟩
  have hck := run_chk false k w
  rcases hfind with ⟨j, x', i1, i2, i3⟩ | ⟨i1, i3⟩
  · obtain ⟨b', hj⟩ := idxE_some i1
    have hset : setE E k b = E.set j (k, b) := by unfold setE; rw [i1]
    rw [hset] at hK
    obtain ⟨x2, w1, w2, _, _⟩ := RelE.at_ hre j _ hj
    rw [i2] at w1; injection w1 with w1; subst w1
    have hx2 : es[j]? = some x' := by simpa using i2
    have hp := post (E.set j (k, b)) _ (RelE.setv (b := b) hre hj)
    refine wp_of_does rfl (v' := undef) (.inr ⟨?_, rfl⟩) (hn R undef undef _ _ (.undef R) hp hK)
    simp [execOp, e1, e2, e3, Instr.mapUpdate, run_underlying un136, MapKept.run_getObj_map hob, hck, i3, hx2, w2, run_stays, MapKept.run_setObj_map _ hob, Result.andThen]
  · have hset : setE E k b = E ++ [(k, b)] := by unfold setE; rw [i1]
    rw [hset] at hK
    have hp := post (E ++ [(k, b)]) _ (RelE.push hre k b)
    refine wp_of_does rfl (v' := undef) (.inr ⟨?_, rfl⟩) (hn R undef undef _ _ (.undef R) hp hK)
    simp [execOp, e1, e2, e3, Instr.mapUpdate, run_underlying un136, MapKept.run_getObj_map hob, hck, i3, MapKept.run_setObj_map _ hob, Result.andThen]
theorem Step.newMap {M L L' : AM} (k : Nat) (hk : L.length = k) (hlt : Nat.blt d nt = true) (hL : L ++ [some (mapB [])] = L') (hK : K (put t d (.map (some (M.length + k)))) (M ++ L')) : Step Try.prog nt ops ⟨some d, .makeMap 136 none, T, p, af, none⟩ t (M ++ L) K := by
  subst hL
  refine .l rfl rfl hlt rfl (by simp [Op.operands]) (loudN hk rfl (v := .map (some (M.length + k))) ?_ hK)
  simp only [aloud]
  rw [set_new_at M L hk]
  rfl
theorem Step.mapSetP {x y z : Operand} {q : Nat} {u v : Int} {b : Bool} {E : Ents} (hx : evo t x = some (.map (some q))) (hy : evo t y = some (.agg #[.int .i64 u, .int .i64 v])) (hz : evo t z = some (.bool b)) (hq : m[q]? = some (some (mapB E))) (hK : K t (m.set q (some (mapB (setE E (u, v) b))))) :
    Step Try.prog nt ops ⟨none, .mapUpdate 136 x y z, T, p, af, none⟩ t m K := .mapSet hx (k := (u, v)) hy hz hq hK
end
end Go.Proofs.Ytabdnepfcohncaa.Abs
namespace Go.Proofs.Ytabdnepfcohncaa.Abs
set_option linter.unusedSimpArgs false
set_option linter.unusedVariables false
open Go.RowKit
open Go.Proofs.Ytabdnepfcohncaa.Sim
open Go.Proofs
/-- A clerk. -/
structure Ck where
  at_ : Nat
  V : List Int
  seen : List (Int × Int)
  mv : List Tr
  done : Bool
def ckc (bk at_ : Nat) (V : List Int) (q : Nat) (mvv : Value) (done : Bool) : List Value := .pointer (some ⟨bk, 0, none⟩) :: .int .i64 (at_ : Nat) :: (iv V ++ [.map (some q), mvv, .bool done])
theorem ckc_len {bk at_ q : Nat} {V : List Int} {mvv : Value} {done : Bool} (hV : V.length = 256) : (ckc bk at_ V q mvv done).length = 261 := by simp [ckc, iv_len, hV]
theorem ckc_0 {bk at_ q : Nat} {V : List Int} {mvv : Value} {done : Bool} : (ckc bk at_ V q mvv done)[0]? = some (.pointer (some ⟨bk, 0, none⟩)) := rfl
theorem ckc_1 {bk at_ q : Nat} {V : List Int} {mvv : Value} {done : Bool} : (ckc bk at_ V q mvv done)[1]? = some (.int .i64 (at_ : Nat)) := rfl
theorem ckc_V {bk at_ q : Nat} {V : List Int} {mvv : Value} {done : Bool} {k : Nat} (hk : k < V.length) : (ckc bk at_ V q mvv done)[2 + k]? = some (.int .i64 (V.getD k 0)) := by
  unfold ckc
  rw [show 2 + k = k + 1 + 1 by omega, List.getElem?_cons_succ, List.getElem?_cons_succ, List.getElem?_append_left (by rw [iv_len]; exact hk)]
  exact iv_get hk
theorem ckc_r {bk at_ q : Nat} {V : List Int} {mvv : Value} {done : Bool} (hV : V.length = 256) (j : Nat) : (ckc bk at_ V q mvv done)[258 + j]? = [.map (some q), mvv, .bool done][j]? := by
  unfold ckc
  rw [show 258 + j = (256 + j) + 1 + 1 by omega, List.getElem?_cons_succ, List.getElem?_cons_succ, List.getElem?_append_right (by rw [iv_len]; omega), iv_len, hV, show 256 + j - 256 = j by omega]
theorem ckc_q {bk at_ q : Nat} {V : List Int} {mvv : Value} {done : Bool} (hV : V.length = 256) : (ckc bk at_ V q mvv done)[258]? = some (.map (some q)) := ckc_r hV 0
theorem ckc_m {bk at_ q : Nat} {V : List Int} {mvv : Value} {done : Bool} (hV : V.length = 256) : (ckc bk at_ V q mvv done)[259]? = some mvv := ckc_r hV 1
theorem ckc_d {bk at_ q : Nat} {V : List Int} {mvv : Value} {done : Bool} (hV : V.length = 256) : (ckc bk at_ V q mvv done)[260]? = some (.bool done) := ckc_r hV 2
theorem ckc_set {bk at_ q : Nat} {V : List Int} {mvv : Value} {done : Bool} (hV : V.length = 256) (j : Nat) (v : Value) : (ckc bk at_ V q mvv done).set (258 + j) v = .pointer (some ⟨bk, 0, none⟩) :: .int .i64 (at_ : Nat) :: (iv V ++ [.map (some q), mvv, .bool done].set j v) := by
  unfold ckc
  rw [show 258 + j = (256 + j) + 1 + 1 by omega, List.set_cons_succ, List.set_cons_succ, List.set_append_right _ _ (by rw [iv_len]; omega), iv_len, hV, show 256 + j - 256 = j by omega]
theorem ckc_setM {bk at_ q : Nat} {V : List Int} {mvv u : Value} {done : Bool} (hV : V.length = 256) : (ckc bk at_ V q mvv done).set 259 u = ckc bk at_ V q u done := ckc_set hV 1 u
theorem ckc_setV {bk at_ q : Nat} {V V' : List Int} {mvv : Value} {done : Bool} (hV : V.length = 256) (hV' : V'.length = 256) : splice (ckc bk at_ V q mvv done) 2 (iv V') = ckc bk at_ V' q mvv done := by
  unfold ckc splice
  rw [iv_len, hV']
  show [Value.pointer (some ⟨bk, 0, none⟩), Value.int .i64 (at_ : Nat)] ++ iv V' ++ (iv V ++ [.map (some q), mvv, .bool done]).drop 256 = _
  rw [List.drop_append, List.drop_eq_nil_of_le (by rw [iv_len]; omega), iv_len, hV]
  simp
/-- A clerk in memory. -/
structure ClerkAt (M : AM) (ck q : Nat) (mvv : Value) (bk : Nat) (K : Ck) : Prop where
  cells : M[ck]? = some (some { cells := ckc bk K.at_ K.V q mvv K.done })
  lV : K.V.length = 256
  lb : bk < M.length
  map : ∃ E, M[q]? = some (some (mapB E)) ∧ ∀ x, x ∈ E.map Prod.fst ↔ x ∈ K.seen
  row : Row M 0 4 mvv (tcs K.mv) K.mv.length
theorem ClerkAt.lt {M : AM} {ck q bk : Nat} {mvv : Value} {K : Ck} (h : ClerkAt M ck q mvv bk K) : ck < M.length := (List.getElem?_eq_some_iff.1 h.cells).1
theorem ClerkAt.ltq {M : AM} {ck q bk : Nat} {mvv : Value} {K : Ck} (h : ClerkAt M ck q mvv bk K) : q < M.length := by
  obtain ⟨E, h1, _⟩ := h.map
  exact (List.getElem?_eq_some_iff.1 h1).1
theorem ClerkAt.ne {M : AM} {ck q bk : Nat} {mvv : Value} {K : Ck} (h : ClerkAt M ck q mvv bk K) : ck ≠ q := by
  rintro rfl
  obtain ⟨E, h1, _⟩ := h.map
  rw [h.cells] at h1
  simp [mapB, ckc] at h1
theorem ClerkAt.apart {M : AM} {ck q bk : Nat} {mvv : Value} {K : Ck} (h : ClerkAt M ck q mvv bk K) : NotOf mvv ck ∧ NotOf mvv q := by
  constructor
  · intro n c e
    rcases h.row with ⟨e', _⟩ | ⟨a, kd, sz, _, e', h3, h4, _⟩
    · rw [e'] at e; cases e
    · rw [e'] at e
      simp only [Value.slice.injEq, Option.some.injEq, Addr.mk.injEq] at e
      obtain ⟨⟨rfl, _⟩, _⟩ := e
      rw [h.cells] at h3
      simp only [Option.some.injEq, Blk.mk.injEq] at h3
      have h5 := h3.1
      cases hm : K.mv with
      | nil => rw [hm] at h5; simp [ckc, tcs] at h5
      | cons x l => rw [hm] at h5; simp [ckc, tcs, Tr.c] at h5
  · intro n c e
    obtain ⟨E, h1, _⟩ := h.map
    rcases h.row with ⟨e', _⟩ | ⟨a, kd, sz, _, e', h3, h4, h5⟩
    · rw [e'] at e; cases e
    · rw [e'] at e
      simp only [Value.slice.injEq, Option.some.injEq, Addr.mk.injEq] at e
      obtain ⟨⟨rfl, _⟩, _⟩ := e
      rw [h1] at h3
      simp only [Option.some.injEq, mapB, Blk.mk.injEq] at h3
      obtain ⟨_, h6, _⟩ := h3
      rcases h5 with e | ⟨e, _⟩ <;> (rw [e] at h6; cases h6)
theorem ClerkAt.msub {M M' : AM} {ck q bk : Nat} {mvv : Value} {K : Ck} (h : ClerkAt M ck q mvv bk K) (hs : MSub M M') : ClerkAt M' ck q mvv bk K := by
  obtain ⟨h1, h2, h3, ⟨E, h4, h5⟩, h6⟩ := h
  exact ⟨hs.get _ _ rfl h1, h2, by have := hs.len; omega, ⟨E, hs.get _ _ rfl h4, h5⟩, h6.msub hs⟩
theorem ClerkAt.old {M : AM} {ck q bk : Nat} {mvv : Value} {K : Ck} (h : ClerkAt M ck q mvv bk K) (T : AM) : ClerkAt (M ++ T) ck q mvv bk K := h.msub (Sub.app M T).m
/-- Which blocks a clerk may turn. -/
def ckD (ck q : Nat) (mvv : Value) : Nat → Prop := fun j => j = ck ∨ j = q ∨ ¬ NotOf mvv j
theorem ClerkAt.in_ {S : Nat → Prop} {M : AM} {ck q bk : Nat} {mvv : Value} {K : Ck} (h : ClerkAt (vw S M) ck q mvv bk K) : ∀ i, ckD ck q mvv i → S i := fun i hi => by
  rcases hi with rfl | rfl | hi
  · exact (vw_some.1 h.cells).1
  · obtain ⟨E, h1, _⟩ := h.map
    exact (vw_some.1 h1).1
  · obtain ⟨b, hb⟩ := h.row.at_ hi
    exact (vw_some.1 hb).1
theorem un57 : Try.prog.underlying 57 = some (.pointer 138) := by kernel_rfl
set_option maxRecDepth 100000 in
theorem busy_ok {m : AM} {ck bk : Nat} {dn : Bool} (h0 : Rd m ck 0 (.pointer (some ⟨bk, 0, none⟩))) (hd : Rd m ck 260 (.bool dn)) : ACall Try.prog 91 #[.pointer (some ⟨ck, 0, none⟩)] m (Ret (.int .i64 (if dn then 9 else 0)) m) := by
  have hr := fun T => h0.old T
  have hr2 := fun T => hd.old T
  refine ACall.start Try.func91 rfl rfl ?_
  cases dn with
  | true =>
    (repeat (first | (with_reducible refine AWo.cons ?_) | ((with_reducible refine Step.id ?_); first | ((with_reducible apply Step.gdT); exact rfl; exact rfl; (focus (rfl))) | ((with_reducible apply Step.move); exact rfl; exact rfl) | ((with_reducible apply Step.assign); exact rfl; exact rfl) | ((with_reducible apply Step.load); exact rfl; (focus (decide +kernel)); exact rfl; (focus (first | exact hr _ | exact hr2 _))) | ((with_reducible apply Step.field0); exact rfl; (focus (decide +kernel)); exact rfl) | ((with_reducible apply Step.field (k := 260)); exact rfl; (focus (decide +kernel)); exact rfl) | ((with_reducible apply Step.ptrNot); exact rfl; exact rfl; exact un49; exact rfl) | ((with_reducible apply Step.ptrNot); exact rfl; exact rfl; exact un57; exact rfl) | ((with_reducible apply Step.nilp); exact rfl; exact rfl) | ((with_reducible apply Step.pickF); exact rfl; exact rfl; exact rfl; exact rfl; (focus (rfl)))) | (with_reducible refine AWo.nil ?_) | ((with_reducible apply AW.seq)) | ((with_reducible apply Then.n)) | ((with_reducible apply AW.regL)) | ((with_reducible apply AW.block)) | ((with_reducible apply AW.condT); exact rfl; (focus (rfl))) | ((with_reducible apply AW.condF); exact rfl; (focus (rfl)))))
    (refine AW.retD (l := [(2, _)]) (by repeat (first | exact trivial | (refine And.intro ⟨rfl, by (exact .int _ _)⟩ ?_))) ?_; (repeat (first | refine Then.r ?_ | refine InBlk.r ?_)))
    exact ⟨_, rfl, rfl, rfl⟩
  | false =>
    (repeat (first | (with_reducible refine AWo.cons ?_) | ((with_reducible refine Step.id ?_); first | ((with_reducible apply Step.gdT); exact rfl; exact rfl; (focus (rfl))) | ((with_reducible apply Step.move); exact rfl; exact rfl) | ((with_reducible apply Step.assign); exact rfl; exact rfl) | ((with_reducible apply Step.load); exact rfl; (focus (decide +kernel)); exact rfl; (focus (first | exact hr _ | exact hr2 _))) | ((with_reducible apply Step.field0); exact rfl; (focus (decide +kernel)); exact rfl) | ((with_reducible apply Step.field (k := 260)); exact rfl; (focus (decide +kernel)); exact rfl) | ((with_reducible apply Step.ptrNot); exact rfl; exact rfl; exact un49; exact rfl) | ((with_reducible apply Step.ptrNot); exact rfl; exact rfl; exact un57; exact rfl) | ((with_reducible apply Step.nilp); exact rfl; exact rfl) | ((with_reducible apply Step.pickF); exact rfl; exact rfl; exact rfl; exact rfl; (focus (rfl)))) | (with_reducible refine AWo.nil ?_) | ((with_reducible apply AW.seq)) | ((with_reducible apply Then.n)) | ((with_reducible apply AW.regL)) | ((with_reducible apply AW.block)) | ((with_reducible apply InBlk.n)) | ((with_reducible apply AW.skip)) | ((with_reducible apply AW.condF); exact rfl; (focus (rfl)))))
    (refine AW.retD (l := [(2, _)]) (by repeat (first | exact trivial | (refine And.intro ⟨rfl, by (exact .int _ _)⟩ ?_))) ?_; (repeat (first | refine Then.r ?_ | refine InBlk.r ?_)))
    exact ⟨_, rfl, rfl, rfl⟩
end Go.Proofs.Ytabdnepfcohncaa.Abs
namespace Go.Proofs.Ytabdnepfcohncaa.Abs
set_option linter.unusedSimpArgs false
set_option linter.unusedVariables false
open Go.RowKit
open Go.Proofs.Ytabdnepfcohncaa.Sim
open Go.Proofs
theorem ze155 : zeroB Try.prog 155 = some #[.int .i64 0, .int .i64 0] := by kernel_rfl
/-- A clerk's Held: the count, the error, the clerk behind it. -/
def chF (K : Ck) (p i : Int) : Int × Int × Ck := if K.done = true then (0, 9, K) else if inB p i = true then (K.V.getD (p.toNat * 16 + i.toNat) 0, 0, { K with seen := (p, i) :: K.seen }) else (0, 2, K)
set_option maxHeartbeats 4000000 in
set_option maxRecDepth 100000 in
theorem CHeld_ok {m : AM} {ck q bk : Nat} {mvv : Value} {K : Ck} (p i : Int) (h : ClerkAt m ck q mvv bk K) : ACall Try.prog 31 #[.pointer (some ⟨ck, 0, none⟩), .int .i64 p, .int .i64 i] m (fun r M => r = .tuple #[.int .i64 (chF K p i).1, .int .i64 (chF K p i).2.1] ∧ ClerkAt M ck q mvv bk (chF K p i).2.2 ∧ Keep (· = q) m M) := by
  have hbusy := fun T => busy_ok (m := m ++ T) (dn := K.done) (Rd.old T ⟨_, h.cells, ckc_0⟩) (Rd.old T ⟨_, h.cells, ckc_d h.lV⟩)
  have hth := fun T b e => there_ok (m := m ++ T) p i (b := b) e
  have hcl := h.lt
  have hne := h.ne
  obtain ⟨E, hE, hEs⟩ := h.map
  have hql := h.ltq
  unfold chF
  cases hd : K.done with
  | true =>
    rw [hd] at hbusy
    simp only [if_true] at hbusy ⊢
    refine ACall.start Try.func31 rfl rfl ?_
    (repeat (first | (with_reducible refine AWo.cons ?_) | ((with_reducible refine Step.id ?_); first | ((with_reducible apply Step.move); exact rfl; exact rfl) | ((with_reducible apply Step.assign); exact rfl; exact rfl) | ((with_reducible apply Step.neq); exact rfl; exact rfl; exact rfl) | ((with_reducible apply Step.callR fit); exact rfl; exact Try.func91; exact rfl; exact rfl; exact (hbusy _))) | (with_reducible refine AWo.nil ?_) | ((with_reducible apply AW.seq)) | ((with_reducible apply Then.n)) | ((with_reducible apply AW.regL)) | ((with_reducible apply AW.condT); exact rfl; (focus (rfl)))))
    (refine AW.ret ?_; (repeat (first | refine Then.r ?_ | refine InBlk.r ?_)))
    exact ⟨_, rfl, rfl, h.old _, Keep.app _ _ _⟩
  | false =>
    rw [hd] at hbusy
    simp only [Bool.false_eq_true, if_false] at hbusy ⊢
    refine ACall.start Try.func31 rfl rfl ?_
    cases hin : inB p i with
    | false =>
      have hth := fun T => hth T _ hin
      simp only [Bool.false_eq_true, if_false]
      (repeat (first | (with_reducible refine AWo.cons ?_) | ((with_reducible refine Step.id ?_); first | ((with_reducible apply Step.move); exact rfl; exact rfl) | ((with_reducible apply Step.assign); exact rfl; exact rfl) | ((with_reducible apply Step.loadL (n := 2)); exact rfl; (focus (decide +kernel)); (focus (decide +kernel)); exact rfl; (focus (exact RdL.new rfl rfl)); exact rfl; exact rfl) | ((with_reducible apply Step.neq); exact rfl; exact rfl; exact rfl) | ((with_reducible apply Step.not); exact rfl; exact rfl) | ((with_reducible apply Step.callR fit); exact rfl; exact Try.func91; exact rfl; exact rfl; exact (hbusy _)) | ((with_reducible apply Step.callR fit); exact rfl; exact Try.func92; exact rfl; exact rfl; exact (hth _)) | ((with_reducible apply Step.alloc 0); exact rfl; exact ze155; exact rfl; (focus (first | (simp only [List.nil_append, List.cons_append, List.set_cons_zero, List.set_cons_succ, iv_set, bv_set, iv_rep, bv_rep]; done) | (simp only [List.nil_append, List.cons_append, List.set_cons_zero, List.set_cons_succ, iv_set, bv_set, iv_rep, bv_rep]; rfl) | rfl))) | ((with_reducible apply Step.storeA (k := 0) (n := 2)); exact rfl; exact rfl; exact rfl; exact rfl; (focus (decide +kernel)); exact rfl; (focus (kernel_rfl)); exact rfl; (focus (first | (simp only [List.nil_append, List.cons_append, List.set_cons_zero, List.set_cons_succ, iv_set, bv_set, iv_rep, bv_rep]; done) | (simp only [List.nil_append, List.cons_append, List.set_cons_zero, List.set_cons_succ, iv_set, bv_set, iv_rep, bv_rep]; rfl) | rfl))) | ((with_reducible apply Step.build); exact rfl; exact bl155; exact rfl)) | (with_reducible refine AWo.nil ?_) | ((with_reducible apply AW.seq)) | ((with_reducible apply Then.n)) | ((with_reducible apply AW.regL)) | ((with_reducible apply AW.skip)) | ((with_reducible apply AW.condT); exact rfl; (focus (rfl))) | ((with_reducible apply AW.condF); exact rfl; (focus (rfl)))))
      (refine AW.ret ?_; (repeat (first | refine Then.r ?_ | refine InBlk.r ?_)))
      exact ⟨_, rfl, rfl, h.old _, Keep.app _ _ _⟩
    | true =>
      have hth := fun T => hth T _ hin
      simp only [inB, decide_eq_true_eq] at hin
      obtain ⟨x1, x2, x3, x4⟩ := hin
      obtain ⟨p, rfl⟩ := Int.eq_ofNat_of_zero_le x1
      obtain ⟨i, rfl⟩ := Int.eq_ofNat_of_zero_le x3
      have hrq := fun T => Rd.old T (show Rd m ck 258 (.map (some q)) from ⟨_, h.cells, ckc_q h.lV⟩)
      have hlV := h.lV
      have hrv : ∀ (T : AM) (b : Option Blk), Rd ((m ++ T).set q b) ck (0 + 2 + p * 16 + i) (.int .i64 (K.V.getD (p * 16 + i) 0)) := fun T b => by rw [show 0 + 2 + p * 16 + i = 2 + (p * 16 + i) by omega]; exact ⟨_, by rw [List.getElem?_set_ne (Ne.symm hne), List.getElem?_append_left hcl]; exact h.cells, ckc_V (V := K.V) (k := p * 16 + i) (by omega)⟩
      simp only [if_true, Int.toNat_natCast]
      (repeat (first | (with_reducible refine AWo.cons ?_) | ((with_reducible refine Step.id ?_); first | ((with_reducible apply Step.move); exact rfl; exact rfl) | ((with_reducible apply Step.assign); exact rfl; exact rfl) | ((with_reducible apply Step.load); exact rfl; (focus (decide +kernel)); exact rfl; (focus (first | exact hrq _ | exact hrv _ _))) | ((with_reducible apply Step.loadL (n := 2)); exact rfl; (focus (decide +kernel)); (focus (decide +kernel)); exact rfl; (focus (exact RdL.new rfl rfl)); exact rfl; exact rfl) | ((with_reducible apply Step.field (k := 2)); exact rfl; (focus (decide +kernel)); exact rfl) | ((with_reducible apply Step.field (k := 258)); exact rfl; (focus (decide +kernel)); exact rfl) | ((with_reducible apply Step.ixA (s := 16) (n := 16)); exact rfl; exact rfl; exact ar130; exact rfl; (focus (omega))) | ((with_reducible apply Step.ixC (n := 16)); exact rfl; exact rfl; exact ar128; exact rfl; (focus (omega))) | ((with_reducible apply Step.neq); exact rfl; exact rfl; exact rfl) | ((with_reducible apply Step.not); exact rfl; exact rfl) | ((with_reducible apply Step.nilp); exact rfl; exact rfl) | ((with_reducible apply Step.callR fit); exact rfl; exact Try.func91; exact rfl; exact rfl; exact (hbusy _)) | ((with_reducible apply Step.callR fit); exact rfl; exact Try.func92; exact rfl; exact rfl; exact (hth _)) | ((with_reducible apply Step.mapSetP); exact rfl; exact rfl; exact rfl; (focus (repeat (first | assumption | exact get_old _ (by assumption) | apply set_hit)))) | ((with_reducible apply Step.alloc 0); exact rfl; exact ze155; exact rfl; (focus (first | (simp only [List.nil_append, List.cons_append, List.set_cons_zero, List.set_cons_succ, iv_set, bv_set, iv_rep, bv_rep]; done) | (simp only [List.nil_append, List.cons_append, List.set_cons_zero, List.set_cons_succ, iv_set, bv_set, iv_rep, bv_rep]; rfl) | rfl))) | ((with_reducible apply Step.storeA (k := 0) (n := 2)); exact rfl; exact rfl; exact rfl; exact rfl; (focus (decide +kernel)); exact rfl; (focus (kernel_rfl)); exact rfl; (focus (first | (simp only [List.nil_append, List.cons_append, List.set_cons_zero, List.set_cons_succ, iv_set, bv_set, iv_rep, bv_rep]; done) | (simp only [List.nil_append, List.cons_append, List.set_cons_zero, List.set_cons_succ, iv_set, bv_set, iv_rep, bv_rep]; rfl) | rfl))) | ((with_reducible apply Step.build); exact rfl; exact bl155; exact rfl)) | (with_reducible refine AWo.nil ?_) | ((with_reducible apply AW.seq)) | ((with_reducible apply Then.n)) | ((with_reducible apply AW.regL)) | ((with_reducible apply AW.drawL fit); (focus (decide +kernel))) | ((with_reducible apply AW.skip)) | ((with_reducible apply AW.condF); exact rfl; (focus (rfl)))))

      (refine AW.ret ?_; (repeat (first | refine Then.r ?_ | refine InBlk.r ?_)))
      have hk : Keep (· = q) m (List.set (m ++ [some { cells := (Value.agg #[.int .i64 (p : Nat), .int .i64 (i : Nat)]).cells.toList }]) q (some (mapB (setE E (((p : Nat) : Int), ((i : Nat) : Int)) true)))) := ⟨by rw [List.length_set, List.length_append]; omega, fun j hj hd => by rw [List.getElem?_set_ne (Ne.symm hd), List.getElem?_append_left hj]⟩
      refine ⟨_, rfl, rfl, ⟨?_, hlV, by have := h.lb; have := hk.len; omega, ⟨_, set_hit (get_old _ hE), fun x => ?_⟩, ?_⟩, hk⟩
      · rw [hk.get ck hcl hne, h.cells, hd]
      · rw [setE_fst, hEs, List.mem_cons, or_comm]
      · exact h.row.keep fun j hj hn => hk.get j hj fun e => hn (e ▸ h.apart.2)
end Go.Proofs.Ytabdnepfcohncaa.Abs
namespace Go.Proofs.Ytabdnepfcohncaa.Abs
set_option linter.unusedSimpArgs false
set_option linter.unusedVariables false
open Go.RowKit
open Go.Proofs.Ytabdnepfcohncaa.Sim
open Go.Proofs
/-- A clerk's Move: the error, the clerk behind it. -/
def moF (K : Ck) (x : Tr) : Int × Ck := if K.done = true then (9, K) else if okT x = true then if 16 ≤ K.mv.length then (3, K) else (0, { K with mv := K.mv ++ [x], V := wth1 K.V x }) else (2, K)
theorem sz55 : szB Try.prog 55 = some 1 := by kernel_rfl
theorem bs55v {m : AM} {k : Nat} {a b c d : Int} : abuildSlice Try.prog m k 55 1 [(0, .agg #[.int .i64 a, .int .i64 b, .int .i64 c, .int .i64 d])] = some (.slice (some ⟨k, 0, none⟩) 1 1, m.set k (some { cells := [.int .i64 a, .int .i64 b, .int .i64 c, .int .i64 d] })) := by kernel_rfl
theorem ClerkAt.rd {M : AM} {ck q bk : Nat} {mvv : Value} {K : Ck} (h : ClerkAt M ck q mvv bk K) (T : AM) : Rd (M ++ T) ck 0 (.pointer (some ⟨bk, 0, none⟩)) ∧ Rd (M ++ T) ck 1 (.int .i64 (K.at_ : Nat)) ∧ Rd (M ++ T) ck 258 (.map (some q)) ∧ Rd (M ++ T) ck 259 mvv ∧ Rd (M ++ T) ck 260 (.bool K.done) :=
  ⟨Rd.old T ⟨_, h.cells, ckc_0⟩, Rd.old T ⟨_, h.cells, ckc_1⟩, Rd.old T ⟨_, h.cells, ckc_q h.lV⟩, Rd.old T ⟨_, h.cells, ckc_m h.lV⟩, Rd.old T ⟨_, h.cells, ckc_d h.lV⟩⟩
theorem get_two {m : AM} {a b c : Option Blk} {j : Nat} (h : j ≤ m.length) (e : a = c) : (m ++ [a, b])[j]? = (m ++ [c])[j]? := by
  subst e
  rcases Nat.lt_or_ge j m.length with hl | hl
  · rw [List.getElem?_append_left hl, List.getElem?_append_left hl]
  · have e : j = m.length + 0 := by omega
    rw [e, get_app, get_app]; rfl
theorem with1_ok {M : AM} {x : Tr} {H : List Int} {b : Int} (hok : okT x = true) (hH : H.length = 256) (hb : Bd H b) (hb1 : b ≤ 1000000000000) :
    ACall Try.prog 87 #[.agg (iv H).toArray, .slice (some ⟨M.length + 0, 0, none⟩) 1 1] (M ++ [some { cells := x.c }]) (Ret (.agg (iv (wth1 H x)).toArray) (M ++ [some { cells := x.c }])) :=
  with_ok (l := [x]) ⟨M.length + 0, 0, Sl.mk (Nat.le_refl _), by simp, fun k hk => by
    obtain rfl : k = 0 := by simpa using hk
    exact RdL.new rfl rfl⟩ (by simp) (by simp [hok]) hH hb hb1
set_option maxHeartbeats 8000000 in
set_option maxRecDepth 100000 in
theorem Move_ok {m : AM} {ck q bk : Nat} {mvv : Value} {K : Ck} {x : Tr} {b : Int} (h : ClerkAt m ck q mvv bk K) (hb : Bd K.V b) (hb1 : b ≤ 1000000000000) : ACall Try.prog 33 #[.pointer (some ⟨ck, 0, none⟩), x.v] m
    (fun r M => ∃ mvv', r = .int .i64 (moF K x).1 ∧ ClerkAt M ck q mvv' bk (moF K x).2 ∧ Keep (ckD ck q mvv) m M ∧ ∀ j, j < m.length → NotOf mvv j → NotOf mvv' j) := by
  have hbusy := fun T => busy_ok (m := m ++ T) (dn := K.done) (h.rd T).1 (h.rd T).2.2.2.2
  have hri := fun T b e => right_ok (m := m ++ T) x (b := b) e
  have hcl := h.lt
  have hne := h.ne
  have hlV := h.lV
  have hap := h.apart
  have hrm := fun T => (h.rd T).2.2.2.1
  obtain ⟨am, q1, q2, q3⟩ := h.row.sl (by omega)
  obtain ⟨i, f, t, n⟩ := x
  unfold moF
  cases hd : K.done with
  | true =>
    rw [hd] at hbusy
    simp only [if_true] at hbusy ⊢
    refine ACall.start Try.func33 rfl rfl ?_
    (repeat (first | (with_reducible refine AWo.cons ?_) | ((with_reducible refine Step.id ?_); first | ((with_reducible apply Step.move); exact rfl; exact rfl) | ((with_reducible apply Step.assign); exact rfl; exact rfl) | ((with_reducible apply Step.neq); exact rfl; exact rfl; exact rfl) | ((with_reducible apply Step.callR fit); exact rfl; exact Try.func91; exact rfl; exact rfl; exact (hbusy _)) | ((with_reducible apply Step.box 0); exact rfl; exact rfl; (focus (kernel_rfl)); exact rfl; (focus (first | (simp only [List.nil_append, List.cons_append, List.set_cons_zero, List.set_cons_succ, iv_set, bv_set, iv_rep, bv_rep]; done) | (simp only [List.nil_append, List.cons_append, List.set_cons_zero, List.set_cons_succ, iv_set, bv_set, iv_rep, bv_rep]; rfl) | rfl)))) | (with_reducible refine AWo.nil ?_) | ((with_reducible apply AW.seq)) | ((with_reducible apply Then.n)) | ((with_reducible apply AW.regL)) | ((with_reducible apply AW.block)) | ((with_reducible apply AW.condT); exact rfl; (focus (rfl)))))
    (refine AW.ret ?_; (repeat (first | refine Then.r ?_ | refine InBlk.r ?_)))
    exact ⟨_, rfl, mvv, rfl, h.old _, Keep.app _ _ _, fun _ _ h => h⟩
  | false =>
    rw [hd] at hbusy
    simp only [Bool.false_eq_true, if_false] at hbusy ⊢
    cases hok : okT ⟨i, f, t, n⟩ with
    | false =>
      have hri := fun T => hri T _ hok
      simp only [Bool.false_eq_true, if_false]
      refine ACall.start Try.func33 rfl rfl ?_
      (repeat (first | (with_reducible refine AWo.cons ?_) | ((with_reducible refine Step.id ?_); first | ((with_reducible apply Step.move); exact rfl; exact rfl) | ((with_reducible apply Step.assign); exact rfl; exact rfl) | ((with_reducible apply Step.loadL (n := 4)); exact rfl; (focus (decide +kernel)); (focus (decide +kernel)); exact rfl; (focus (exact RdL.new rfl rfl)); exact rfl; exact rfl) | ((with_reducible apply Step.neq); exact rfl; exact rfl; exact rfl) | ((with_reducible apply Step.not); exact rfl; exact rfl) | ((with_reducible apply Step.callR fit); exact rfl; exact Try.func91; exact rfl; exact rfl; exact (hbusy _)) | ((with_reducible apply Step.callR fit); exact rfl; exact Try.func86; exact rfl; exact rfl; exact (hri _)) | ((with_reducible apply Step.box 0); exact rfl; exact rfl; (focus (kernel_rfl)); exact rfl; (focus (first | (simp only [List.nil_append, List.cons_append, List.set_cons_zero, List.set_cons_succ, iv_set, bv_set, iv_rep, bv_rep]; done) | (simp only [List.nil_append, List.cons_append, List.set_cons_zero, List.set_cons_succ, iv_set, bv_set, iv_rep, bv_rep]; rfl) | rfl)))) | (with_reducible refine AWo.nil ?_) | ((with_reducible apply AW.seq)) | ((with_reducible apply Then.n)) | ((with_reducible apply AW.regL)) | ((with_reducible apply AW.block)) | ((with_reducible apply AW.condT); exact rfl; (focus (rfl))) | ((with_reducible apply AW.condF); exact rfl; (focus (rfl)))))
      (refine AW.ret ?_; (repeat (first | refine Then.r ?_ | refine InBlk.r ?_)))
      exact ⟨_, rfl, mvv, rfl, h.old _, Keep.app _ _ _, fun _ _ h => h⟩
    | true =>
      have hri := fun T => hri T _ hok
      simp only [if_true]
      by_cases h16 : 16 ≤ K.mv.length
      · simp only [h16, if_true]
        refine ACall.start Try.func33 rfl rfl ?_
        (repeat (first | (with_reducible refine AWo.cons ?_) | ((with_reducible refine Step.id ?_); first | ((with_reducible apply Step.move); exact rfl; exact rfl) | ((with_reducible apply Step.assign); exact rfl; exact rfl) | ((with_reducible apply Step.load); exact rfl; (focus (decide +kernel)); exact rfl; (focus (exact hrm _))) | ((with_reducible apply Step.loadL (n := 4)); exact rfl; (focus (decide +kernel)); (focus (decide +kernel)); exact rfl; (focus (exact RdL.new rfl rfl)); exact rfl; exact rfl) | ((with_reducible apply Step.field (k := 259)); exact rfl; (focus (decide +kernel)); exact rfl) | ((with_reducible apply Step.geq); exact rfl; exact rfl; exact rfl) | ((with_reducible apply Step.neq); exact rfl; exact rfl; exact rfl) | ((with_reducible apply Step.len); exact rfl; (focus (assumption)); (focus (decide +kernel)); exact rfl) | ((with_reducible apply Step.not); exact rfl; exact rfl) | ((with_reducible apply Step.nilp); exact rfl; exact rfl) | ((with_reducible apply Step.callR fit); exact rfl; exact Try.func91; exact rfl; exact rfl; exact (hbusy _)) | ((with_reducible apply Step.callR fit); exact rfl; exact Try.func86; exact rfl; exact rfl; exact (hri _)) | ((with_reducible apply Step.box 0); exact rfl; exact rfl; (focus (kernel_rfl)); exact rfl; (focus (first | (simp only [List.nil_append, List.cons_append, List.set_cons_zero, List.set_cons_succ, iv_set, bv_set, iv_rep, bv_rep]; done) | (simp only [List.nil_append, List.cons_append, List.set_cons_zero, List.set_cons_succ, iv_set, bv_set, iv_rep, bv_rep]; rfl) | rfl)))) | (with_reducible refine AWo.nil ?_) | ((with_reducible apply AW.seq)) | ((with_reducible apply Then.n)) | ((with_reducible apply AW.regL)) | ((with_reducible apply AW.block)) | ((with_reducible apply AW.condT); exact rfl; (focus ((simp only [decide_eq_true_eq, decide_eq_false_iff_not, Bool.not_eq_true', Bool.not_eq_false', Bool.not_true, Bool.not_false]; first | assumption | omega)))) | ((with_reducible apply AW.condF); exact rfl; (focus (rfl)))))
        (refine AW.ret ?_; (repeat (first | refine Then.r ?_ | refine InBlk.r ?_)))
        exact ⟨_, rfl, mvv, rfl, h.old _, Keep.app _ _ _, fun _ _ h => h⟩
      · simp only [h16, if_false]
        refine ACall.start Try.func33 rfl rfl ?_
        (repeat (first | (with_reducible refine AWo.cons ?_) | ((with_reducible refine Step.id ?_); first | ((with_reducible apply Step.move); exact rfl; exact rfl) | ((with_reducible apply Step.assign); exact rfl; exact rfl) | ((with_reducible apply Step.load); exact rfl; (focus (decide +kernel)); exact rfl; (focus (exact hrm _))) | ((with_reducible apply Step.loadL (n := 4)); exact rfl; (focus (decide +kernel)); (focus (decide +kernel)); exact rfl; (focus (exact RdL.new rfl rfl)); exact rfl; exact rfl) | ((with_reducible apply Step.field (k := 259)); exact rfl; (focus (decide +kernel)); exact rfl) | ((with_reducible apply Step.geq); exact rfl; exact rfl; exact rfl) | ((with_reducible apply Step.neq); exact rfl; exact rfl; exact rfl) | ((with_reducible apply Step.len); exact rfl; (focus (assumption)); (focus (decide +kernel)); exact rfl) | ((with_reducible apply Step.not); exact rfl; exact rfl) | ((with_reducible apply Step.nilp); exact rfl; exact rfl) | ((with_reducible apply Step.callR fit); exact rfl; exact Try.func91; exact rfl; exact rfl; exact (hbusy _)) | ((with_reducible apply Step.callR fit); exact rfl; exact Try.func86; exact rfl; exact rfl; exact (hri _)) | ((with_reducible apply Step.box 0); exact rfl; exact rfl; (focus (kernel_rfl)); exact rfl; (focus (first | (simp only [List.nil_append, List.cons_append, List.set_cons_zero, List.set_cons_succ, iv_set, bv_set, iv_rep, bv_rep]; done) | (simp only [List.nil_append, List.cons_append, List.set_cons_zero, List.set_cons_succ, iv_set, bv_set, iv_rep, bv_rep]; rfl) | rfl)))) | (with_reducible refine AWo.nil ?_) | ((fail_if_success (with_reducible refine AW.atR (id := 8) ?_)); ((with_reducible apply AW.seq))) | ((with_reducible apply Then.n)) | ((with_reducible apply AW.regL)) | ((with_reducible apply AW.block)) | ((with_reducible apply InBlk.n)) | ((with_reducible apply AW.skip)) | ((with_reducible apply AW.condF); exact rfl; (focus (first | rfl | (simp only [decide_eq_true_eq, decide_eq_false_iff_not, Bool.not_eq_true', Bool.not_eq_false', Bool.not_true, Bool.not_false]; first | assumption | omega))))))
        refine AW.seq ?_
        refine AW.joinQ (fun t' M' => ∃ u, (∃ X, M' = X.set ck (some { cells := ckc bk K.at_ K.V q u false }) ∧ X[ck]? = some (some { cells := ckc bk K.at_ K.V q mvv false }) ∧ Row X 0 4 u (tcs K.mv ++ [.int .i64 i, .int .i64 f, .int .i64 t, .int .i64 n]) (K.mv.length + 1) ∧ m.length < X.length ∧ (∀ j, j ≤ m.length → NotOf mvv j → X[j]? = (m ++ [some { cells := [.int .i64 i, .int .i64 f, .int .i64 t, .int .i64 n] }])[j]?) ∧ (∀ j, j ≤ m.length → NotOf mvv j → NotOf u j)) ∧ 
          All (fun i v => t' i = some v) [(0, .pointer (some ⟨ck, 0, none⟩)), (3, .pointer (some ⟨m.length + 0, 0, none⟩))]) ?_ ?_
        · (repeat' (first | ((with_reducible refine Step.id ?_); first | ((with_reducible apply Step.move); exact rfl; exact rfl) | ((with_reducible apply Step.load); exact rfl; (focus (decide +kernel)); exact rfl; (focus (exact hrm _))) | ((with_reducible apply Step.loadL (n := 4)); exact rfl; (focus (decide +kernel)); (focus (decide +kernel)); exact rfl; (focus (exact RdL.new rfl rfl)); exact rfl; exact rfl) | ((with_reducible apply Step.field (k := 259)); exact rfl; (focus (decide +kernel)); exact rfl) | ((with_reducible apply Step.nilp); exact rfl; exact rfl) | ((with_reducible apply Step.buildS 1); exact rfl; exact rfl; exact (fun _ _ => bs55v); exact rfl; (focus (first | (simp only [List.nil_append, List.cons_append, List.set_cons_zero, List.set_cons_succ, iv_set, bv_set, iv_rep, bv_rep]; done) | (simp only [List.nil_append, List.cons_append, List.set_cons_zero, List.set_cons_succ, iv_set, bv_set, iv_rep, bv_rep]; rfl) | rfl)))) | ((with_reducible apply AW.drawT fit (T := (.step 0 (.step 1 (.step 2 (.step 3 (.step 5 (.both (.step 4 (.step 6 (.step 7 (.step 8 (.step 9 (.step 10 .done)))))) (.step 6 (.step 4 (.step 7 (.step 8 (.step 9 (.step 10 .done)))))))))))))); (focus (decide +kernel))) | ((with_reducible apply AWt.step); exact rfl) | refine AWt.both ?_ ?_))
          all_goals ((with_reducible apply Step.appRow2 (n := K.mv.length) (xl := 1) (b0 := 0) (new := [.int .i64 i, .int .i64 f, .int .i64 t, .int .i64 n])); exact rfl; exact rfl; exact (h.row.old _); exact (Sl.mk (Nat.le_refl _)); exact (fun _ => RdL.new rfl rfl); exact el55; exact un55; exact rfl; exact rfl; exact rfl; (focus (omega)); exact rfl; exact (Nat.zero_le _))
          all_goals intro u X hr1 hml1 hk1 hk2
          all_goals have hXc : X[ck]? = some (some { cells := ckc bk K.at_ K.V q mvv false }) := by rw [hk1 ck (by rw [List.length_append]; omega) hap.1, List.getElem?_append_left hcl, h.cells, hd]
          all_goals obtain ⟨a9, kd9, sz9, _, _, rfl, _⟩ := hr1.pos (by omega)
          all_goals (repeat' (first | ((with_reducible refine Step.id ?_); first | ((with_reducible apply Step.field (k := 259)); exact rfl; (focus (decide +kernel)); exact rfl) | ((with_reducible apply Step.nilp); exact rfl; exact rfl)) | ((with_reducible apply AWt.step); exact rfl)))
          all_goals ((with_reducible apply Step.storeAt); exact rfl; exact rfl; exact hXc; exact sz55; exact rfl; (focus (rw [ckc_len hlV]; omega)); exact rfl; exact rfl)
          all_goals (repeat' (((with_reducible apply AWt.done))))
          all_goals refine ⟨rfl, _, ⟨X, by rw [Nat.zero_add, ckc_setM hlV], hXc, hr1, by rw [List.length_append] at hml1; simp at hml1; omega, fun j hj hn => ?_, fun j hj hn => hk2 j (by rw [List.length_append]; simp; omega) hn⟩, (by repeat (first | exact trivial | (refine And.intro rfl ?_)))⟩
          all_goals rw [hk1 j (by rw [List.length_append]; simp; omega) hn]
          all_goals exact get_two hj rfl
        · rintro t' M' ⟨u, ⟨X, hY, hXc, hrow, hXl, hXk, hXn⟩, hsl⟩
          refine Then.n ?_
          refine AW.weak (fr_all hsl) ?_
          clear hsl
          refine AW.rebase ?_
          have hnu : NotOf u ck := hXn ck (by omega) hap.1
          have hYc : M'[ck]? = some (some { cells := ckc bk K.at_ K.V q u false }) := by rw [hY]; exact set_hit hXc
          have hYl : M'.length = X.length := by rw [hY, List.length_set]
          have hYk : ∀ j, j ≠ ck → M'[j]? = X[j]? := fun j hj => by rw [hY, List.getElem?_set_ne (Ne.symm hj)]
          have hYr : Row M' 0 4 u (tcs K.mv ++ [.int .i64 i, .int .i64 f, .int .i64 t, .int .i64 n]) (K.mv.length + 1) := by rw [hY]; exact hrow.set hnu
          have hrd : ∀ T, RdL (M' ++ T) ck (0 + 2) (iv K.V) := fun T => RdL.old T ⟨_, hYc, fun j v hj => by
            have hj1 := (List.getElem?_eq_some_iff.1 hj).1
            rw [iv_len] at hj1
            rw [iv_get hj1] at hj
            rw [show 0 + 2 + j = 2 + j by omega, ckc_V hj1]
            exact hj⟩
          have hrt : ∀ T, RdL (M' ++ T) (m.length + 0) 0 [.int .i64 i, .int .i64 f, .int .i64 t, .int .i64 n] := fun T => RdL.old T ⟨{ cells := [.int .i64 i, .int .i64 f, .int .i64 t, .int .i64 n] }, by rw [hYk _ (by omega), hXk (m.length + 0) (by omega) (h.row.far (by omega)), get_app]; rfl, fun j v hj => by simpa using hj⟩
          have hwith := with1_ok (M := M') (x := ⟨i, f, t, n⟩) hok hlV hb hb1
          have hlw : (wth1 K.V ⟨i, f, t, n⟩).length = 256 := by rw [wth1_len]; exact hlV
          have hckl : ck < M'.length := by omega
          have hfin : ∀ T : AM, ClerkAt (List.set (M' ++ T) ck (some { cells := ckc bk K.at_ (wth1 K.V ⟨i, f, t, n⟩) q u false })) ck q u bk { at_ := K.at_, V := wth1 K.V ⟨i, f, t, n⟩, seen := K.seen, mv := K.mv ++ [⟨i, f, t, n⟩], done := false } ∧
              Keep (ckD ck q mvv) m (List.set (M' ++ T) ck (some { cells := ckc bk K.at_ (wth1 K.V ⟨i, f, t, n⟩) q u false })) ∧ ∀ j, j < m.length → NotOf mvv j → NotOf u j := fun T => by
            have hk : Keep (ckD ck q mvv) m (List.set (M' ++ T) ck (some { cells := ckc bk K.at_ (wth1 K.V ⟨i, f, t, n⟩) q u false })) := ⟨by rw [List.length_set, List.length_append]; omega, fun j hj hd => by
              have h1 : j ≠ ck := fun e => hd (.inl e)
              have h2 : NotOf mvv j := Classical.byContradiction fun e => hd (.inr (.inr e))
              rw [List.getElem?_set_ne (Ne.symm h1), List.getElem?_append_left (by omega), hYk j h1, hXk j (by omega) h2, List.getElem?_append_left hj]⟩
            obtain ⟨E, hE, hEs⟩ := h.map
            have hql := h.ltq
            refine ⟨⟨set_hit (get_old _ hYc), hlw, by have := h.lb; have := hk.len; omega, ⟨E, ?_, hEs⟩, ?_⟩, hk, fun j hj hn => hXn j (by omega) hn⟩
            · rw [List.getElem?_set_ne hne, List.getElem?_append_left (by omega), hYk q (Ne.symm hne), hXk q (by omega) hap.2, List.getElem?_append_left hql]
              exact hE
            · rw [tcs_app, List.length_append]
              exact (hYr.old T).set hnu
          (repeat' (first | ((with_reducible refine Step.id ?_); first | ((with_reducible apply Step.move); exact rfl; exact rfl) | ((with_reducible apply Step.loadL (n := 4)); exact rfl; (focus (decide +kernel)); (focus (decide +kernel)); exact rfl; (focus (exact hrt _)); exact rfl; exact rfl) | ((with_reducible apply Step.field (k := 2)); exact rfl; (focus (decide +kernel)); exact rfl) | ((with_reducible apply Step.nilp); exact rfl; exact rfl) | ((with_reducible apply Step.buildS 0); exact rfl; exact rfl; exact (fun _ _ => bs55v); exact rfl; (focus (first | (simp only [List.nil_append, List.cons_append, List.set_cons_zero, List.set_cons_succ, iv_set, bv_set, iv_rep, bv_rep]; done) | (simp only [List.nil_append, List.cons_append, List.set_cons_zero, List.set_cons_succ, iv_set, bv_set, iv_rep, bv_rep]; rfl) | rfl)))) | ((with_reducible apply AW.seq)) | ((with_reducible apply AW.drawT fit (T := (.step 0 (.step 1 (.step 2 (.step 3 (.step 5 (.both (.step 4 (.step 6 (.step 7 (.step 8 (.step 9 (.step 10 .done)))))) (.step 6 (.step 4 (.step 7 (.step 8 (.step 9 (.step 10 .done)))))))))))))); (focus (decide +kernel))) | ((with_reducible apply AWt.step); exact rfl) | refine AWt.both ?_ ?_))
          all_goals ((with_reducible apply Step.loadL (n := 256)); exact rfl; exact ag130; exact sz130; exact rfl; exact (hrd _); (focus (rw [iv_len, hlV])); exact rfl)
          all_goals (repeat' (first | ((with_reducible refine Step.id ?_); first | ((with_reducible apply Step.field (k := 2)); exact rfl; (focus (decide +kernel)); exact rfl) | ((with_reducible apply Step.nilp); exact rfl; exact rfl) | ((with_reducible apply Step.callR fit); exact rfl; exact Try.func87; exact rfl; exact rfl; exact (hwith)) | ((with_reducible apply Step.buildS 0); exact rfl; exact rfl; exact (fun _ _ => bs55v); exact rfl; (focus (first | (simp only [List.nil_append, List.cons_append, List.set_cons_zero, List.set_cons_succ, iv_set, bv_set, iv_rep, bv_rep]; done) | (simp only [List.nil_append, List.cons_append, List.set_cons_zero, List.set_cons_succ, iv_set, bv_set, iv_rep, bv_rep]; rfl) | rfl)))) | ((with_reducible apply AWt.step); exact rfl)))
          all_goals ((with_reducible apply Step.storeL); exact rfl; exact rfl; exact (get_old _ hYc); exact rfl; exact sz130; (focus (rw [iv_len, hlw])); exact (iv_all1 _); (focus (rw [ckc_len hlV]; omega)))
          all_goals (repeat (first | (with_reducible refine AWo.cons ?_) | ((with_reducible refine Step.id ?_); ((with_reducible apply Step.assign); exact rfl; exact rfl)) | (with_reducible refine AWo.nil ?_) | ((with_reducible apply AW.seq)) | ((with_reducible apply Then.n)) | ((with_reducible apply AW.regL)) | ((with_reducible apply AWt.done))))
          all_goals (refine AW.ret ?_; (repeat (first | refine Then.r ?_ | refine InBlk.r ?_)))
          all_goals refine ⟨_, rfl, u, rfl, ?_⟩
          all_goals rw [Nat.zero_add, ckc_setV hlV hlw]
          all_goals exact hfin _
end Go.Proofs.Ytabdnepfcohncaa.Abs
namespace Go.Proofs.Ytabdnepfcohncaa.Abs
set_option linter.unusedSimpArgs false
set_option linter.unusedVariables false
open Go.RowKit
open Go.Proofs.Ytabdnepfcohncaa.Sim
open Go.Proofs
theorem fill_fold : ∀ (l : List Value) (cs : List Value) (off k : Nat), off + k + l.length ≤ cs.length → (l.zipIdx k).foldl (fun (cs : Array Value) (x : Value × Nat) => cs.setIfInBounds (off + x.2) x.1) cs.toArray = (splice cs (off + k) l).toArray
  | [], cs, off, k, h => by simp [splice]
  | v :: l, cs, off, k, h => by
    rw [List.zipIdx_cons, List.foldl_cons]
    have h1 : (cs.toArray.setIfInBounds (off + k) v) = (cs.set (off + k) v).toArray := by simp
    show List.foldl _ (cs.toArray.setIfInBounds (off + k) v) _ = _
    rw [h1, fill_fold l _ off (k + 1) (by simp at h ⊢; omega)]
    congr 1
    unfold splice
    simp only [List.length_cons] at h ⊢
    apply List.ext_getElem?
    intro j
    have e1 : (List.take (off + (k + 1)) (cs.set (off + k) v)) = List.take (off + k) cs ++ [v] := by
      rw [show off + (k + 1) = off + k + 1 by omega, List.take_succ_eq_append_getElem (by simp; omega), List.take_set_of_le (Nat.le_refl _)]
      simp
    rw [e1]
    rw [List.drop_set_of_lt (by omega)]
    simp [Nat.add_assoc, Nat.add_comm 1]
theorem fill_cons {place : Nat → Option (Nat × Nat)} {cs : List Value} {i : Nat} {v : Value} {rest : List (Nat × Value)} {off size : Nat} (h : place i = some (off, size)) (hs : v.cells.size = size) (hb : off + size ≤ cs.length) :
    Instr.fill place cs.toArray ((i, v) :: rest) = Instr.fill place (splice cs off v.cells.toList).toArray rest := by
  have hf := fill_fold v.cells.toList cs off 0 (by simp; omega)
  rw [Nat.add_zero] at hf
  rw [Instr.fill]
  simp only [h]
  rw [if_neg (by simp; omega)]
  congr 1
  rw [← hf, ← Array.foldl_toList, Array.toList_zipIdx]
def ckz : List Value := .pointer none :: .int .i64 0 :: (iv (List.replicate 256 0) ++ [.map none, .slice none 0 0, .bool false])
theorem built138 (parts : List (Nat × Value)) : Try.prog.built 138 parts = Instr.fill ([(0, 1), (1, 1), (2, 256), (258, 1), (259, 1), (260, 1)].toArray[·]?) ckz.toArray parts := by kernel_rfl
theorem ze138 : (zeroB Try.prog 138).isSome = true := by kernel_rfl
theorem splice_V {a b : Value} {V V' : List Int} {L : List Value} (hV : V.length = 256) (hV' : V'.length = 256) : splice (a :: b :: (iv V ++ L)) 2 (iv V') = a :: b :: (iv V' ++ L) := by
  unfold splice
  rw [iv_len, hV']
  show [a, b] ++ iv V' ++ (iv V ++ L).drop 256 = _
  rw [List.drop_append, List.drop_eq_nil_of_le (by rw [iv_len]; omega), iv_len, hV]
  simp
theorem splice_r {a b x y : Value} {V : List Int} {L : List Value} (hV : V.length = 256) : splice (a :: b :: (iv V ++ x :: L)) 258 [y] = a :: b :: (iv V ++ y :: L) := by
  unfold splice
  rw [show 258 = 256 + 1 + 1 by omega, List.take_succ_cons, List.take_succ_cons, List.take_left' (by rw [iv_len, hV])]
  show a :: b :: iv V ++ [y] ++ (iv V ++ x :: L).drop 257 = _
  rw [List.drop_append, List.drop_eq_nil_of_le (by rw [iv_len]; omega), iv_len, hV]
  simp
set_option maxRecDepth 100000 in
theorem bl138 {bk q : Nat} {a : Nat} {H : List Int} (hH : H.length = 256) : abuild Try.prog 138 [(0, .pointer (some ⟨bk, 0, none⟩)), (1, .int .i64 (a : Nat)), (2, .agg (iv H).toArray), (3, .map (some q))] = some (.agg (ckc bk a H q (.slice none 0 0) false).toArray) := by
  unfold abuild
  have hz := ze138
  cases h : zeroB Try.prog 138 with
  | none => rw [h] at hz; cases hz
  | some z =>
    simp only
    rw [built138]
    have hl : (List.replicate 256 (0 : Int)).length = 256 := List.length_replicate
    have hk : ckz.length = 261 := rfl
    rw [fill_cons (off := 0) (size := 1) rfl rfl (by rw [hk]; omega)]
    have e1 : splice ckz 0 (Value.pointer (some ⟨bk, 0, none⟩)).cells.toList = .pointer (some ⟨bk, 0, none⟩) :: .int .i64 0 :: (iv (List.replicate 256 0) ++ [.map none, .slice none 0 0, .bool false]) := rfl
    rw [e1, fill_cons (off := 1) (size := 1) rfl rfl (by simp [iv_len])]
    have e2 : splice (.pointer (some ⟨bk, 0, none⟩) :: .int .i64 0 :: (iv (List.replicate 256 0) ++ [.map none, .slice none 0 0, .bool false])) 1 (Value.int .i64 (a : Nat)).cells.toList = .pointer (some ⟨bk, 0, none⟩) :: .int .i64 (a : Nat) :: (iv (List.replicate 256 0) ++ [.map none, .slice none 0 0, .bool false]) := rfl
    rw [e2, fill_cons (off := 2) (size := 256) rfl (by show (iv H).toArray.size = 256; rw [List.size_toArray, iv_len, hH]) (by simp [iv_len])]
    rw [show (Value.agg (iv H).toArray).cells.toList = iv H from rfl, splice_V hl hH]
    rw [fill_cons (off := 258) (size := 1) rfl rfl (by simp [iv_len, hH])]
    rw [show (Value.map (some q)).cells.toList = [.map (some q)] from rfl, splice_r hH]
    rfl
theorem ckc_one {bk a q : Nat} {H : List Int} {b : Bool} : (Value.agg (ckc bk a H q (.slice none 0 0) b).toArray).cells.all (·.oneCell') = true := by
  have h := iv_one H
  show (ckc bk a H q (.slice none 0 0) b).toArray.all (·.oneCell') = true
  rw [List.all_toArray]
  unfold ckc
  simp only [List.all_cons, List.all_append, h]
  rfl
set_option maxHeartbeats 8000000 in
set_option maxRecDepth 100000 in
theorem Begin_ok {m : AM} {b0 bk : Nat} {B : Bk} {pv : Value} (h : BookAt m b0 bk B pv) : ACall Try.prog 30 #[.pointer (some ⟨bk, 0, none⟩)] m (fun r M => r = .pointer (some ⟨m.length + 1, 0, none⟩) ∧ ClerkAt M (m.length + 1) (m.length + 0) (.slice none 0 0) bk ⟨B.P.length, B.H, [], [], false⟩ ∧ ∃ N, M = m ++ N) := by
  have hnone := fun T => none_ok (m := m ++ T) (bk := bk) (Rd.old T ⟨_, h.cells, bkc_0⟩)
  have hbk := h.lt
  have rp := fun T => Rd.old T (show Rd m bk 513 pv from ⟨_, h.cells, bkc_P h.lH h.lC⟩)
  obtain ⟨pc, hrow, hps⟩ := h.row
  obtain ⟨ar, r1, r2, r3⟩ := hrow.sl (by omega)
  have hlH := h.lH
  have hrd : ∀ T, RdL (m ++ T) bk 1 (iv B.H) := fun T => RdL.old T ⟨_, h.cells, fun j x hj => by
    have hj1 := (List.getElem?_eq_some_iff.1 hj).1
    rw [iv_len] at hj1
    rw [iv_get hj1] at hj
    rw [bkc_H hj1]
    exact hj⟩
  have hbl := bl138 (bk := bk) (q := m.length + 0) (a := B.P.length) hlH
  have hw1 := ckc_one (bk := bk) (a := B.P.length) (q := m.length + 0) (H := B.H) (b := false)
  have hfin : ClerkAt (m ++ [some (mapB []), some { cells := ckc bk B.P.length B.H (m.length + 0) (.slice none 0 0) false }]) (m.length + 1) (m.length + 0) (.slice none 0 0) bk ⟨B.P.length, B.H, [], [], false⟩ :=
    ⟨by rw [get_app]; rfl, hlH, by rw [List.length_append]; omega, ⟨[], by rw [get_app]; rfl, fun x => by simp⟩, Row.nil⟩
  refine ACall.start Try.func30 rfl rfl ?_
  (repeat' (first | (with_reducible refine AWo.cons ?_) | ((with_reducible refine Step.id ?_); first | ((with_reducible apply Step.move); exact rfl; exact rfl) | ((with_reducible apply Step.assign); exact rfl; exact rfl) | ((with_reducible apply Step.load); exact rfl; (focus (decide +kernel)); exact rfl; (focus (exact rp _))) | ((with_reducible apply Step.field (k := 1)); exact rfl; (focus (decide +kernel)); exact rfl) | ((with_reducible apply Step.field (k := 513)); exact rfl; (focus (decide +kernel)); exact rfl) | ((with_reducible apply Step.len); exact rfl; (focus (assumption)); (focus (decide +kernel)); exact rfl) | ((with_reducible apply Step.nilp); exact rfl; exact rfl) | ((with_reducible apply Step.callR fit); exact rfl; exact Try.func83; exact rfl; exact rfl; exact (hnone _)) | ((with_reducible apply Step.newMap 0); exact rfl; exact rfl; (focus (first | (simp only [List.nil_append, List.cons_append, List.set_cons_zero, List.set_cons_succ, iv_set, bv_set, iv_rep, bv_rep]; done) | (simp only [List.nil_append, List.cons_append, List.set_cons_zero, List.set_cons_succ, iv_set, bv_set, iv_rep, bv_rep]; rfl) | rfl)))) | (with_reducible refine AWo.nil ?_) | ((with_reducible apply AW.seq)) | ((with_reducible apply Then.n)) | ((with_reducible apply AW.regL)) | ((with_reducible apply AW.drawT fit (T := (.step 0 (.step 1 (.step 2 (.step 3 (.step 6 (.step 7 (.step 8 (.both (.step 4 (.step 5 (.both (.step 9 (.step 10 (.step 11 (.step 12 (.step 13 .done))))) (.step 10 (.step 9 (.step 11 (.step 12 (.step 13 .done)))))))) (.both (.step 9 (.both (.step 4 (.step 5 (.step 10 (.step 11 (.step 12 (.step 13 .done)))))) (.step 10 (.step 4 (.step 5 (.step 11 (.step 12 (.step 13 .done)))))))) (.step 10 (.step 4 (.step 5 (.step 9 (.step 11 (.step 12 (.step 13 .done)))))))))))))))))); (focus (decide +kernel))) | ((with_reducible apply AWt.step); exact rfl) | ((with_reducible apply AW.skip)) | ((with_reducible apply AW.condF); exact rfl; (focus (rfl))) | refine AWt.both ?_ ?_))
  all_goals ((with_reducible apply Step.loadL (n := 256)); exact rfl; exact ag130; exact sz130; exact rfl; exact (hrd _); (focus (rw [iv_len, hlH])); exact rfl)
  all_goals (repeat' (first | ((with_reducible refine Step.id ?_); first | ((with_reducible apply Step.assign); exact rfl; exact rfl) | ((with_reducible apply Step.load); exact rfl; (focus (decide +kernel)); exact rfl; (focus (exact rp _))) | ((with_reducible apply Step.len); exact rfl; (focus (assumption)); (focus (decide +kernel)); exact rfl) | ((with_reducible apply Step.newMap 0); exact rfl; exact rfl; (focus (first | (simp only [List.nil_append, List.cons_append, List.set_cons_zero, List.set_cons_succ, iv_set, bv_set, iv_rep, bv_rep]; done) | (simp only [List.nil_append, List.cons_append, List.set_cons_zero, List.set_cons_succ, iv_set, bv_set, iv_rep, bv_rep]; rfl) | rfl))) | ((with_reducible apply Step.box 1); exact rfl; exact rfl; (focus (first | assumption | exact hw1)); exact rfl; (focus (first | (simp only [List.nil_append, List.cons_append, List.set_cons_zero, List.set_cons_succ, iv_set, bv_set, iv_rep, bv_rep]; done) | (simp only [List.nil_append, List.cons_append, List.set_cons_zero, List.set_cons_succ, iv_set, bv_set, iv_rep, bv_rep]; rfl) | rfl))) | ((with_reducible apply Step.build); exact rfl; exact hbl; exact rfl)) | ((with_reducible apply Then.n)) | ((with_reducible apply AWt.step); exact rfl) | ((with_reducible apply AWt.done)) | refine AWt.both ?_ ?_))
  all_goals (refine AW.ret ?_; (repeat (first | refine Then.r ?_ | refine InBlk.r ?_)))
  all_goals exact ⟨_, rfl, rfl, hfin, _, rfl⟩
end Go.Proofs.Ytabdnepfcohncaa.Abs
namespace Go.Proofs.Ytabdnepfcohncaa.Abs
set_option linter.unusedSimpArgs false
set_option linter.unusedVariables false
open Go.RowKit
open Go.Proofs.Ytabdnepfcohncaa.Sim
open Go.Proofs
/-- A clerk that is done. -/
def DoneC (M : AM) (ck bk : Nat) : Prop := ∃ b, M[ck]? = some (some b) ∧ b.kind.mine = true ∧ b.cells[0]? = some (.pointer (some ⟨bk, 0, none⟩)) ∧ b.cells[260]? = some (.bool true) ∧ bk < M.length
end Go.Proofs.Ytabdnepfcohncaa.Abs
namespace Go.Proofs.Ytabdnepfcohncaa.Abs
set_option linter.unusedSimpArgs false
set_option linter.unusedVariables false
open Go.RowKit
open Go.Proofs.Ytabdnepfcohncaa.Sim
open Go.Proofs
theorem getD_setT (l : List Tr) (i k : Nat) (x : Tr) (hk : k < l.length) : (l.set i x).getD k default = if i = k then x else l.getD k default := by
  simp only [List.getD_eq_getElem?_getD]
  by_cases h : i = k
  · subst h; rw [List.getElem?_set_self hk, if_pos rfl]; rfl
  · rw [List.getElem?_set_ne h, if_neg h]
/-- The first k and the last k are exchanged. -/
def RevK (l L : List Tr) (k : Nat) : Prop := L.length = l.length ∧ ∀ p, p < l.length → L.getD p default = if p < k ∨ l.length ≤ p + k then l.getD (l.length - 1 - p) default else l.getD p default
theorem RevK.zero (l : List Tr) : RevK l l 0 := ⟨rfl, fun p hp => by rw [if_neg (by omega)]⟩
theorem RevK.step {l L : List Tr} {k : Nat} (h : RevK l L k) (hk : k < l.length - 1 - k) : RevK l ((L.set k (L.getD (l.length - 1 - k) default)).set (l.length - 1 - k) (L.getD k default)) (k + 1) := by
  obtain ⟨h1, h2⟩ := h
  refine ⟨by simp [h1], fun p hp => ?_⟩
  rw [getD_setT _ _ _ _ (by simp [h1, hp])]
  by_cases e1 : l.length - 1 - k = p
  · rw [if_pos e1, if_pos (by omega), h2 k (by omega), if_neg (by omega)]
    congr 1
    omega
  · rw [if_neg e1, getD_setT _ _ _ _ (by omega)]
    by_cases e2 : k = p
    · rw [if_pos e2, if_pos (by omega), h2 _ (by omega), if_neg (by omega)]
      congr 1
      omega
    · rw [if_neg e2, h2 p hp]
      by_cases e3 : p < k ∨ l.length ≤ p + k
      · rw [if_pos e3, if_pos (by omega)]
      · rw [if_neg e3, if_neg (by omega)]
theorem RevK.done {l L : List Tr} {k : Nat} (h : RevK l L k) (hk : l.length ≤ 2 * k + 1) : L = l.reverse := by
  obtain ⟨h1, h2⟩ := h
  apply List.ext_getElem?
  intro p
  by_cases hp : p < l.length
  · have h3 := h2 p hp
    have h4 : L.getD p default = l.getD (l.length - 1 - p) default := by
      rw [h3]
      by_cases e : p < k ∨ l.length ≤ p + k
      · rw [if_pos e]
      · rw [if_neg e]; congr 1; omega
    rw [List.getD_eq_getElem?_getD, List.getElem?_eq_getElem (by omega), List.getD_eq_getElem?_getD, List.getElem?_eq_getElem (by omega)] at h4
    rw [List.getElem?_eq_getElem (by omega), List.getElem?_reverse hp, List.getElem?_eq_getElem (by omega)]
    exact congrArg some h4
  · rw [List.getElem?_eq_none (by omega), List.getElem?_eq_none (by simpa using Nat.le_of_not_lt hp)]
theorem Tr.one (x : Tr) : x.c.all (·.oneCell') = true := by simp [Tr.c, Value.oneCell']
end Go.Proofs.Ytabdnepfcohncaa.Abs
namespace Go.Proofs.Ytabdnepfcohncaa.Abs
set_option linter.unusedSimpArgs false
set_option linter.unusedVariables false
open Go.RowKit
open Go.Proofs.Ytabdnepfcohncaa.Sim
open Go.Proofs
/-- Blocks from n on belong to i. -/
def asg (ow : Nat → Nat) (n i : Nat) : Nat → Nat := fun j => if j < n then ow j else i
theorem asg_lt {ow : Nat → Nat} {n i j : Nat} (h : j < n) : asg ow n i j = ow j := if_pos h
theorem asg_ge {ow : Nat → Nat} {n i j : Nat} (h : n ≤ j) : asg ow n i j = i := if_neg (by omega)
/-- Objects, each in blocks of its own; the law's own rows are object 1. -/
structure Side (m : AM) (ow : Nat → Nat) (M : AM) (obj : Nat → AM → Prop) : Prop where
  len : m.length ≤ M.length
  base : ∀ j, j < m.length → M[j]? = m[j]? ∧ ow j = 1
  at_ : ∀ k, obj k (vw (fun j => ow j = k) M)
  mono : ∀ k A A', MSub A A' → obj k A → obj k A'
theorem Side.app {m : AM} {ow : Nat → Nat} {M : AM} {obj : Nat → AM → Prop} (h : Side m ow M obj) (N : AM) (i : Nat) : Side m (asg ow M.length i) (M ++ N) obj := by
  refine ⟨by rw [List.length_append]; have := h.len; omega, fun j hj => ?_, fun k => ?_, h.mono⟩
  · have := h.len
    rw [List.getElem?_append_left (by omega), asg_lt (by omega)]
    exact h.base j hj
  · refine h.mono k _ _ ⟨by rw [vw_len, vw_len, List.length_append]; omega, fun j b _ hj => ?_⟩ (h.at_ k)
    obtain ⟨h1, h2⟩ := vw_some.1 hj
    exact vw_some.2 ⟨by show asg ow M.length i j = k; rw [asg_lt (List.getElem?_eq_some_iff.1 h2).1]; exact h1, get_old _ h2⟩
/-- A call on some of the objects. -/
theorem Side.call {m : AM} {ow ow2 : Nat → Nat} {M M' M2 : AM} {obj obj' : Nat → AM → Prop} {I : Nat → Prop} (h : Side m ow M obj) (hF : Fra (fun j => I (ow j)) M M' M2) (hc : ∀ i, i < M.length → ¬ I (ow i) → M'[i]? = some none) (h1 : ¬ I 1) (h2 : ∀ j, j < M.length → ¬ I (ow j) → ow2 j = ow j)
    (h4 : ∀ k, ¬ I k → obj' k = obj k) (h5 : ∀ k, I k → obj' k (vw (fun j => ow2 j = k) M')) (hm : ∀ k A A', MSub A A' → obj' k A → obj' k A') : Side m ow2 M2 obj' := by
  have hmM : ∀ j, j < m.length → j < M.length := fun j hj => by have := h.len; omega
  refine ⟨by have := h.len; have := hF.len; omega, fun j hj => ?_, fun k => ?_, hm⟩
  · have hb := h.base j hj
    have hn : ¬ I (ow j) := by rw [hb.2]; exact h1
    rw [hF.out j (hmM j hj) hn, h2 j (hmM j hj) hn]
    exact hb
  · by_cases e : I k
    · refine hm k _ _ ⟨by rw [vw_len, vw_len]; exact hF.le, fun j b hb hj => ?_⟩ (h5 k e)
      obtain ⟨q1, q2⟩ := vw_some.1 hj
      refine vw_some.2 ⟨q1, hF.get j b (fun hl => ?_) q2 (.inl hb)⟩
      by_cases e2 : I (ow j)
      · exact e2
      · rw [hc j hl e2] at q2; cases q2
    · rw [h4 k e]
      refine h.mono k _ _ ⟨by rw [vw_len, vw_len]; exact hF.len, fun j b _ hj => ?_⟩ (h.at_ k)
      obtain ⟨q1, q2⟩ := vw_some.1 hj
      have hl := (List.getElem?_eq_some_iff.1 q2).1
      have hn : ¬ I (ow j) := by rw [q1]; exact e
      exact vw_some.2 ⟨by rw [h2 j hl hn]; exact q1, by rw [hF.out j hl hn]; exact q2⟩
theorem Row.vw {S : Nat → Prop} {M : AM} {b0 s : Nat} {u : Value} {c : List Value} {n : Nat} (h : Row M b0 s u c n) (hs : ∀ a, b0 ≤ a → S a) : Row (Abs.vw S M) b0 s u c n := by
  rcases h with h | ⟨a, kd, sz, h1, h2, h3, h4, h5⟩
  · exact .inl h
  · exact .inr ⟨a, kd, sz, h1, h2, vw_some.2 ⟨hs a h1, h3⟩, h4, h5⟩
theorem DoneC.msub {M M' : AM} {ck bk : Nat} (h : DoneC M ck bk) (hs : MSub M M') : DoneC M' ck bk := by
  obtain ⟨b, h1, h2, h3, h4, h5⟩ := h
  exact ⟨b, hs.get _ _ h2 h1, h2, h3, h4, by have := hs.len; omega⟩
theorem DoneC.busy {m : AM} {ck bk : Nat} (h : DoneC m ck bk) (T : AM) : ACall Try.prog 91 #[.pointer (some ⟨ck, 0, none⟩)] (m ++ T) (Ret (.int .i64 9) (m ++ T)) := by
  obtain ⟨b, h1, h2, h3, h4, h5⟩ := h
  exact busy_ok (dn := true) (Rd.old T ⟨_, h1, h3⟩) (Rd.old T ⟨_, h1, h4⟩)
set_option maxRecDepth 100000 in
theorem Move_done {m : AM} {ck bk : Nat} (x : Tr) (h : DoneC m ck bk) : ACall Try.prog 33 #[.pointer (some ⟨ck, 0, none⟩), x.v] m (fun r M => r = .int .i64 9 ∧ ∃ N, M = m ++ N) := by
  have hb := h.busy
  refine ACall.start Try.func33 rfl rfl ?_
  (repeat (first | (with_reducible refine AWo.cons ?_) | ((with_reducible refine Step.id ?_); first | ((with_reducible apply Step.move); exact rfl; exact rfl) | ((with_reducible apply Step.assign); exact rfl; exact rfl) | ((with_reducible apply Step.neq); exact rfl; exact rfl; exact rfl) | ((with_reducible apply Step.callR fit); exact rfl; exact Try.func91; exact rfl; exact rfl; exact (hb _)) | ((with_reducible apply Step.box 0); exact rfl; exact rfl; (focus (kernel_rfl)); exact rfl; (focus (first | (simp only [List.nil_append, List.cons_append, List.set_cons_zero, List.set_cons_succ, iv_set, bv_set, iv_rep, bv_rep]; done) | (simp only [List.nil_append, List.cons_append, List.set_cons_zero, List.set_cons_succ, iv_set, bv_set, iv_rep, bv_rep]; rfl) | rfl)))) | (with_reducible refine AWo.nil ?_) | ((with_reducible apply AW.seq)) | ((with_reducible apply Then.n)) | ((with_reducible apply AW.regL)) | ((with_reducible apply AW.block)) | ((with_reducible apply AW.condT); exact rfl; (focus (rfl)))))
  (refine AW.ret ?_; (repeat (first | refine Then.r ?_ | refine InBlk.r ?_)))
  exact ⟨_, rfl, rfl, _, rfl⟩
set_option maxRecDepth 100000 in
theorem Held_done {m : AM} {ck bk : Nat} (p i : Int) (h : DoneC m ck bk) : ACall Try.prog 31 #[.pointer (some ⟨ck, 0, none⟩), .int .i64 p, .int .i64 i] m (Ret (.tuple #[.int .i64 0, .int .i64 9]) m) := by
  have hb := h.busy
  refine ACall.start Try.func31 rfl rfl ?_
  (repeat (first | (with_reducible refine AWo.cons ?_) | ((with_reducible refine Step.id ?_); first | ((with_reducible apply Step.move); exact rfl; exact rfl) | ((with_reducible apply Step.assign); exact rfl; exact rfl) | ((with_reducible apply Step.neq); exact rfl; exact rfl; exact rfl) | ((with_reducible apply Step.callR fit); exact rfl; exact Try.func91; exact rfl; exact rfl; exact (hb _))) | (with_reducible refine AWo.nil ?_) | ((with_reducible apply AW.seq)) | ((with_reducible apply Then.n)) | ((with_reducible apply AW.regL)) | ((with_reducible apply AW.condT); exact rfl; (focus (rfl)))))
  (refine AW.retD (l := [(6, _), (7, _)]) (by repeat (first | exact trivial | (refine And.intro ⟨rfl, by (exact .int _ _)⟩ ?_))) ?_; (repeat (first | refine Then.r ?_ | refine InBlk.r ?_)))
  exact ⟨_, rfl, rfl, rfl⟩
end Go.Proofs.Ytabdnepfcohncaa.Abs
namespace Go.Proofs.Ytabdnepfcohncaa.Abs
set_option linter.unusedSimpArgs false
set_option linter.unusedVariables false
open Go.RowKit
open Go.Proofs.Ytabdnepfcohncaa.Sim
open Go.Proofs
section
variable {P : Program} {nt d : Nat} {ops : Array Oper} {T : TypeId} {p : String} {af : Array Edge} {t : Fm} {m : AM} {K : Fm → AM → Prop}
theorem Step.remU {x y : Operand} {X Y : TypeId} {a b : Int} (hx : evo t x = some (.int .u64 a)) (hy : evo t y = some (.int .u64 b)) (ha : 0 ≤ a) (hb : 1 ≤ b) (hlt : Nat.blt d nt = true) (hK : K (put t d (.int .u64 (a % b))) m) : Step P nt ops ⟨some d, .binOp .rem X x y Y, T, p, af, none⟩ t m K := by
  refine .ground rfl rfl hlt (by simp [Op.operands, hx, hy, g1, g0]) (fun h => by simp only [aquiet, evD_of hx, evD_of hy, aint, anil]; simpa [evD_of hx, evD_of hy] using h) ?_ (by simp [g1, g0]) hK
  simp [execOp, eqGuard, binOp, evD_of hx, evD_of hy, Op.intDiv, show ¬ b = 0 by omega, Int.tmod_eq_emod_of_nonneg ha, bind, Sem.bind, pure, Sim.still]
end
theorem wrapU (a : Int) : 0 ≤ IntKind.u64.wrap a := by
  simp only [IntKind.wrap, IntKind.signed, IntKind.bits]
  simp
  omega
theorem mod_in (a : Int) (c : Nat) (hc : 0 < c) (hc2 : c ≤ 9223372036854775807) : ∃ n : Nat, n < c ∧ IntKind.i64.wrap (IntKind.u64.wrap a % (c : Int)) = (n : Int) := by
  have h := wrapU a
  have h1 := Int.emod_nonneg (IntKind.u64.wrap a) (show (c : Int) ≠ 0 by omega)
  have h2 := Int.emod_lt_of_pos (IntKind.u64.wrap a) (show (0 : Int) < c by omega)
  refine ⟨(IntKind.u64.wrap a % (c : Int)).toNat, by omega, ?_⟩
  rw [IntWalk.i64_in _ (by omega)]
  omega
theorem MSub.all {S : Nat → Prop} {M : AM} (h : ∀ i b, M[i]? = some (some b) → S i) : MSub M (vw S M) := ⟨by rw [vw_len]; exact Nat.le_refl _, fun i b _ hi => vw_some.2 ⟨h i b hi, hi⟩⟩
theorem ClerkAt.vw {S : Nat → Prop} {M : AM} {ck q bk : Nat} {mvv : Value} {K : Ck} (h : ClerkAt M ck q mvv bk K) (hS : ∀ j, ckD ck q mvv j → S j) : ClerkAt (Abs.vw S M) ck q mvv bk K := by
  obtain ⟨h1, h2, h3, ⟨E, h4, h5⟩, h6⟩ := h
  refine ⟨vw_some.2 ⟨hS _ (.inl rfl), h1⟩, h2, by rw [vw_len]; exact h3, ⟨E, vw_some.2 ⟨hS _ (.inr (.inl rfl)), h4⟩, h5⟩, ?_⟩
  rcases h6 with h6 | ⟨a, kd, sz, q1, q2, q3, q4, q5⟩
  · exact .inl h6
  · exact .inr ⟨a, kd, sz, q1, q2, vw_some.2 ⟨hS a (.inr (.inr fun hn => hn _ _ q2)), q3⟩, q4, q5⟩
/-- A clerk, at work or done. -/
def CSt (M : AM) (bk ck : Nat) : Option Ck → Prop
  | none => DoneC M ck bk
  | some K => ∃ q mvv, ClerkAt M ck q mvv bk K
theorem CSt.msub {M M' : AM} {bk ck : Nat} {o : Option Ck} (h : CSt M bk ck o) (hs : MSub M M') : CSt M' bk ck o := by
  cases o with
  | none => exact DoneC.msub h hs
  | some K => obtain ⟨q, v, h⟩ := h; exact ⟨q, v, h.msub hs⟩
/-- The objects: the book, the row of the clerks' names, the clerks. -/
def dobj (n0 bk : Nat) (B : Bk) (av : Value) (ps : List Nat) (cs : List (Nat × Option Ck)) : Nat → AM → Prop
  | 0, A => ∃ pv, BookAt A 0 bk B pv
  | 1, A => Row A n0 1 av (ps.map fun c => .pointer (some ⟨c, 0, none⟩)) ps.length
  | k + 2, A => ∀ c, cs[k]? = some c → CSt A bk c.1 c.2
theorem dobj_mono {n0 bk : Nat} {B : Bk} {av : Value} {ps : List Nat} {cs : List (Nat × Option Ck)} : ∀ k A A', MSub A A' → dobj n0 bk B av ps cs k A → dobj n0 bk B av ps cs k A'
  | 0, A, A', hs, ⟨pv, h⟩ => ⟨pv, h.msub hs⟩
  | 1, A, A', hs, h => Row.msub h hs
  | k + 2, A, A', hs, h => fun c hc => (h c hc).msub hs
/-- What a clerk at work keeps. -/
structure OKK (K : Ck) : Prop where
  dn : K.done = false
  n : K.mv.length ≤ 16
  ok : K.mv.all okT = true
  bd : Bd K.V (1000000000 + 2000000 * (K.mv.length : Int))
  seen : ∀ x ∈ K.seen, inB x.1 x.2 = true
theorem OKK.moF {K : Ck} (h : OKK K) (x : Tr) : OKK (moF K x).2 := by
  unfold Abs.moF
  rw [if_neg (by rw [h.dn]; simp)]
  by_cases ho : okT x = true
  · rw [if_pos ho]
    by_cases h16 : 16 ≤ K.mv.length
    · rw [if_pos h16]; exact h
    · rw [if_neg h16]
      refine ⟨h.dn, by simp; omega, by simp [h.ok, ho], ?_, h.seen⟩
      have := h.bd.wth1 ho
      simp only [List.length_append, List.length_singleton]
      exact this.le (by push_cast; omega)
  · rw [if_neg ho]; exact h
theorem OKK.chF {K : Ck} (h : OKK K) (p i : Int) : OKK (chF K p i).2.2 := by
  unfold Abs.chF
  rw [if_neg (by rw [h.dn]; simp)]
  by_cases hi : inB p i = true
  · rw [if_pos hi]
    refine ⟨h.dn, h.n, h.ok, h.bd, fun x hx => ?_⟩
    rcases List.mem_cons.1 hx with rfl | hx
    · exact hi
    · exact h.seen x hx
  · rw [if_neg hi]; exact h
section
variable {m : AM} {ow : Nat → Nat} {M : AM} {n0 bk : Nat} {B : Bk} {av : Value} {ps : List Nat} {cs : List (Nat × Option Ck)}
/-- What a call says of the book. -/
def BkQ (R : Value → Prop) (B' : Bk) (bk : Nat) (pv : Value) (m : AM) (r : Value) (M' : AM) : Prop := R r ∧ ∃ u, BookAt M' 0 bk B' u ∧ Keep (bkD bk pv) m M'
theorem Side.bookCall {f : FuncId} {args : Array Value} {B' : Bk} {R : Value → Prop} (h : Side m ow M (dobj n0 bk B av ps cs)) (hc : ∀ pv, BookAt (vw (fun j => ow j = 0) M) 0 bk B pv → ACall Try.prog f args (vw (fun j => ow j = 0) M) (BkQ R B' bk pv (vw (fun j => ow j = 0) M))) :
    ACall Try.prog f args M (fun r M2 => R r ∧ M.length ≤ M2.length ∧ (∀ j, j < M.length → ow j ≠ 0 → M2[j]? = M[j]?) ∧ Side m (asg ow M.length 0) M2 (dobj n0 bk B' av ps cs)) := by
  obtain ⟨pv, hB⟩ := h.at_ 0
  refine (ACall.frame (fun j => ow j = 0) (hc pv hB)).mono ?_
  rintro r M2 ⟨M', ⟨hR, u, hB', hk⟩, hF⟩
  refine ⟨hR, hF.len, fun j hj hn => hF.out j hj hn, ?_⟩
  have hcl := hk.clean hB.in_
  refine h.call (I := fun k => k = 0) hF hcl (by decide) (fun j hj hn => asg_lt hj) (fun k hk => ?_) ?_ dobj_mono
  · rcases k with _ | _ | k
    · exact absurd rfl hk
    · rfl
    · rfl
  · rintro k rfl
    refine ⟨u, hB'.msub (MSub.all fun i b hi => ?_)⟩
    by_cases hl : i < M.length
    · show asg ow M.length 0 i = 0
      rw [asg_lt hl]
      by_cases e : ow i = 0
      · exact e
      · rw [hcl i hl e] at hi; cases hi
    · exact asg_ge (by omega)
theorem set_getT {α : Type} {l : List α} {i k : Nat} {x : α} (hi : i < l.length) : (l.set i x)[k]? = if k = i then some x else l[k]? := by
  by_cases e : k = i
  · subst e; rw [if_pos rfl, List.getElem?_set_self hi]
  · rw [if_neg e, List.getElem?_set_ne (Ne.symm e)]
theorem Side.clkCall {f : FuncId} {args : Array Value} {k ck : Nat} {o o' : Option Ck} {R : Value → Prop} (h : Side m ow M (dobj n0 bk B av ps cs)) (hk : cs[k]? = some (ck, o))
    (hc : CSt (vw (fun j => ow j = k + 2) M) bk ck o → ACall Try.prog f args (vw (fun j => ow j = k + 2) M) (fun r M' => R r ∧ CSt M' bk ck o' ∧ ∃ D : Nat → Prop, Keep D (vw (fun j => ow j = k + 2) M) M' ∧ ∀ j, D j → ow j = k + 2)) :
    ACall Try.prog f args M (fun r M2 => R r ∧ M.length ≤ M2.length ∧ (∀ j, j < M.length → ow j ≠ k + 2 → M2[j]? = M[j]?) ∧ Side m (asg ow M.length (k + 2)) M2 (dobj n0 bk B av ps (cs.set k (ck, o')))) := by
  have hkl := (List.getElem?_eq_some_iff.1 hk).1
  refine (ACall.frame (fun j => ow j = k + 2) (hc (h.at_ (k + 2) _ hk))).mono ?_
  rintro r M2 ⟨M', ⟨hR, hC, D, hD, hDo⟩, hF⟩
  refine ⟨hR, hF.len, fun j hj hn => hF.out j hj hn, ?_⟩
  have hcl := hD.clean hDo
  refine h.call (I := fun i => i = k + 2) hF hcl (by omega) (fun j hj hn => asg_lt hj) (fun i hi => ?_) ?_ dobj_mono
  · rcases i with _ | _ | i
    · rfl
    · rfl
    · funext A
      show (∀ c, (cs.set k (ck, o'))[i]? = some c → _) = (∀ c, cs[i]? = some c → _)
      rw [set_getT hkl, if_neg (by omega)]
  · rintro i rfl
    intro c hcc
    rw [set_getT hkl, if_pos rfl] at hcc
    injection hcc with hcc
    subst hcc
    refine hC.msub (MSub.all fun i b hi => ?_)
    by_cases hl : i < M.length
    · show asg ow M.length (k + 2) i = k + 2
      rw [asg_lt hl]
      by_cases e : ow i = k + 2
      · exact e
      · rw [hcl i hl e] at hi; cases hi
    · exact asg_ge (by omega)
theorem Side.begin (h : Side m ow M (dobj n0 bk B av ps cs)) :
    ACall Try.prog 30 #[.pointer (some ⟨bk, 0, none⟩)] M (fun r M2 => ∃ ow', r = .pointer (some ⟨M.length + 1, 0, none⟩) ∧ M.length ≤ M2.length ∧ (∀ j, j < M.length → ow j = 1 → M2[j]? = M[j]? ∧ ow' j = 1) ∧ Side m ow' M2 (dobj n0 bk B av ps (cs ++ [(M.length + 1, some ⟨B.P.length, B.H, [], [], false⟩)]))) := by
  obtain ⟨pv, hB⟩ := h.at_ 0
  have hBv : BookAt (vw (fun j => ow j = 0 ∨ ow j = cs.length + 2) M) 0 bk B pv := hB.msub (Sub.vws (fun i e => .inl e) M).m
  refine (ACall.frame (fun j => ow j = 0 ∨ ow j = cs.length + 2) (Begin_ok hBv)).mono ?_
  rintro r M2 ⟨M', ⟨hr, hC, N, hN⟩, hF⟩
  rw [vw_len] at hr hC
  have hcl : ∀ i, i < M.length → ¬ (ow i = 0 ∨ ow i = cs.length + 2) → M'[i]? = some none := fun i hi hn => by
    rw [hN, List.getElem?_append_left (by rw [vw_len]; exact hi), vw_out hn hi]
  refine ⟨asg ow M.length (cs.length + 2), hr, hF.len, fun j hj hn => ⟨hF.out j hj (by rw [hn]; omega), by rw [asg_lt hj]; exact hn⟩, ?_⟩
  refine h.call (I := fun k => k = 0 ∨ k = cs.length + 2) hF hcl (by omega) (fun j hj hn => asg_lt hj) (fun i hi => ?_) ?_ dobj_mono
  · rcases i with _ | _ | i
    · exact absurd (.inl rfl) hi
    · rfl
    · funext A
      show (∀ c, (cs ++ [_])[i]? = some c → _) = (∀ c, cs[i]? = some c → _)
      have : i ≠ cs.length := fun e => hi (.inr (by rw [e]))
      rcases Nat.lt_or_ge i cs.length with hl | hl
      · rw [List.getElem?_append_left hl]
      · rw [List.getElem?_eq_none (by simp; omega), List.getElem?_eq_none hl]
  · rintro i (rfl | rfl)
    · refine ⟨pv, hB.msub ⟨by rw [vw_len, vw_len, hN, List.length_append, vw_len]; omega, fun i b _ hi => ?_⟩⟩
      obtain ⟨q1, q2⟩ := vw_some.1 hi
      have hl := (List.getElem?_eq_some_iff.1 q2).1
      refine vw_some.2 ⟨by show asg ow M.length _ i = 0; rw [asg_lt hl]; exact q1, ?_⟩
      rw [hN, List.getElem?_append_left (by rw [vw_len]; exact hl)]
      exact vw_some.2 ⟨.inl q1, q2⟩
    · intro c hcc
      rw [List.getElem?_append_right (Nat.le_refl _), Nat.sub_self] at hcc
      simp at hcc
      subst hcc
      refine ⟨_, _, hC.vw fun j hj => ?_⟩
      rcases hj with rfl | rfl | hj
      · exact asg_ge (by omega)
      · exact asg_ge (by omega)
      · exact absurd NotOf.nil hj
end
end Go.Proofs.Ytabdnepfcohncaa.Abs
namespace Go.Proofs.Ytabdnepfcohncaa.Abs
set_option linter.unusedSimpArgs false
set_option linter.unusedVariables false
open Go.RowKit
open Go.Proofs.Ytabdnepfcohncaa.Sim
open Go.Proofs
theorem un31 : Try.prog.underlying 31 = some (.int .u64) := by kernel_rfl
theorem Side.sub {m : AM} {ow : Nat → Nat} {M : AM} {obj : Nat → AM → Prop} (h : Side m ow M obj) : Sub m M := ⟨h.len, fun i b hi => by rw [(h.base i (List.getElem?_eq_some_iff.1 hi).1).1]; exact hi⟩
theorem RdL.sub {M M' : AM} {a o : Nat} {c : List Value} (h : RdL M a o c) (hs : Sub M M') : RdL M' a o c := by
  obtain ⟨b, h1, h2⟩ := h
  exact ⟨b, hs.get a b h1, h2⟩
/-- Post of a row just made, that goes over to the book. -/
theorem Side.post {m : AM} {ow : Nat → Nat} {M : AM} {n0 bk : Nat} {B : Bk} {av : Value} {ps : List Nat} {cs : List (Nat × Option Ck)} {X N : AM} {r : Value} {l : List Tr} (h : Side m ow X (dobj n0 bk B av ps cs)) (hN : M = X ++ N) (hr : Row M X.length 4 r (tcs (l.take 18)) (l.take 18).length) (hg : Good B) (hpl : B.P.length ≤ 1000000) :
    ACall Try.prog 28 #[.pointer (some ⟨bk, 0, none⟩), r] M (fun v M2 => v = .tuple #[.int .i64 (postF B l).2.1, .int .i64 (postF B l).2.2] ∧ M.length ≤ M2.length ∧ (∀ j, j < X.length → ow j ≠ 0 → M2[j]? = X[j]?) ∧ ∃ ow', (∀ j, j < X.length → ow' j = ow j) ∧ Side m ow' M2 (dobj n0 bk (postF B l).1 av ps cs)) := by
  subst hN
  have h1 := h.app N 0
  have hl18 : (l.take 18).length ≤ 18 := by rw [List.length_take]; omega
  refine (h1.bookCall (R := fun v => v = .tuple #[.int .i64 (postF B (l.take 18)).2.1, .int .i64 (postF B (l.take 18)).2.2]) (B' := (postF B (l.take 18)).1) fun pv hB => ?_).mono ?_
  · have hrv : Row (vw (fun j => asg ow X.length 0 j = 0) (X ++ N)) X.length 4 r (tcs (l.take 18)) (l.take 18).length := hr.vw fun a ha => asg_ge ha
    have h0 := hB.lt
    refine (Post_ok hB (l := l.take 18) (fun M' hF => Row.trsKeep hB.row (fun a y hr => (hB.sep hr).1) hrv (by omega) hF) hg.bd hpl (by omega)).mono ?_
    rintro v M' ⟨u, e1, e2, e3, _, _⟩
    exact ⟨e1, u, e2, e3.keep⟩
  · rintro v M2 ⟨e1, e2, e3, e4⟩
    rw [(postF_take B l).1] at e4
    rw [(postF_take B l).2] at e1
    by_cases hz : (postF B l).2.2 = 0
    · have hz' : (postF B (l.take 18)).2.2 = 0 := by rw [(postF_take B l).2]; exact hz
      rw [postF_num hz', ← postF_num hz] at e1
      exact ⟨e1, e2, fun j hj hn => by rw [e3 j (by rw [List.length_append]; omega) (by rw [asg_lt hj]; exact hn), List.getElem?_append_left hj], _, fun j hj => by rw [asg_lt (by rw [List.length_append]; omega), asg_lt hj], e4⟩
    · have hz' : (postF B (l.take 18)).2.2 ≠ 0 := by rw [(postF_take B l).2]; exact hz
      rw [(postF_bad hz').2, ← (postF_bad hz).2] at e1
      exact ⟨e1, e2, fun j hj hn => by rw [e3 j (by rw [List.length_append]; omega) (by rw [asg_lt hj]; exact hn), List.getElem?_append_left hj], _, fun j hj => by rw [asg_lt (by rw [List.length_append]; omega), asg_lt hj], e4⟩
theorem Side.row {m : AM} {ow : Nat → Nat} {M : AM} {n0 bk : Nat} {B : Bk} {av : Value} {ps : List Nat} {cs : List (Nat × Option Ck)} (h : Side m ow M (dobj n0 bk B av ps cs)) : Row M n0 1 av (ps.map fun c => .pointer (some ⟨c, 0, none⟩)) ps.length := Row.msub (h.at_ 1) (Sub.vw _ _).m
theorem Side.book {m : AM} {ow : Nat → Nat} {M : AM} {n0 bk : Nat} {B : Bk} {av : Value} {ps : List Nat} {cs : List (Nat × Option Ck)} (h : Side m ow M (dobj n0 bk B av ps cs)) : ∃ pv, BookAt M 0 bk B pv := by
  obtain ⟨pv, hB⟩ := h.at_ 0
  exact ⟨pv, hB.msub (Sub.vw _ _).m⟩
/-- Move and Commit, of a clerk at work or done. -/
def moO (o : Option Ck) (x : Tr) : Option Ck := o.map fun K => (moF K x).2
def moE (o : Option Ck) (x : Tr) : Int := match o with
  | none => 9
  | some K => (moF K x).1
section
variable {m : AM} {ow : Nat → Nat} {M : AM} {n0 bk : Nat} {B : Bk} {av : Value} {ps : List Nat} {cs : List (Nat × Option Ck)}
theorem Side.move {k ck : Nat} {o : Option Ck} (h : Side m ow M (dobj n0 bk B av ps cs)) (hk : cs[k]? = some (ck, o)) (ho : ∀ K, o = some K → OKK K) (x : Tr) :
    ACall Try.prog 33 #[.pointer (some ⟨ck, 0, none⟩), x.v] M (fun r M2 => r = .int .i64 (moE o x) ∧ M.length ≤ M2.length ∧ (∀ j, j < M.length → ow j ≠ k + 2 → M2[j]? = M[j]?) ∧ Side m (asg ow M.length (k + 2)) M2 (dobj n0 bk B av ps (cs.set k (ck, moO o x)))) := by
  refine h.clkCall hk fun hC => ?_
  cases o with
  | none =>
    refine (Move_done x hC).mono ?_
    rintro r M' ⟨rfl, N, rfl⟩
    exact ⟨rfl, hC.msub (Sub.app _ N).m, fun _ => False, Keep.app _ _ _, fun _ h => h.elim⟩
  | some K =>
    obtain ⟨q, mvv, hC⟩ := hC
    have hK := ho K rfl
    refine (Move_ok hC hK.bd (by have := hK.n; omega)).mono ?_
    rintro r M' ⟨mvv', rfl, hC', hkp, _⟩
    exact ⟨rfl, ⟨q, mvv', hC'⟩, ckD ck q mvv, hkp, fun j hj => hC.in_ j hj⟩
end
end Go.Proofs.Ytabdnepfcohncaa.Abs
namespace Go.Proofs.Ytabdnepfcohncaa.Abs
set_option linter.unusedSimpArgs false
set_option linter.unusedVariables false
open Go.RowKit
open Go.Proofs.Ytabdnepfcohncaa.Sim
open Go.Proofs
/-- The clerks' names are where they were. -/
def Alive (cs : List (Nat × Option Ck)) : Prop := ∀ c ∈ cs, ∀ K, c.2 = some K → OKK K
theorem Alive.set {cs : List (Nat × Option Ck)} (h : Alive cs) (j ck : Nat) (o : Option Ck) (ho : ∀ K, o = some K → OKK K) : Alive (cs.set j (ck, o)) := fun c hc K hK => by
  rcases List.mem_or_eq_of_mem_set hc with hc | rfl
  · exact h c hc K hK
  · exact ho K hK
theorem look_in {B : Bk} {p i : Nat} (hp : p < 16) (hi : i < 16) : lookF B.H (p : Int) (i : Int) = (B.H.getD (p * 16 + i) 0, 0) := by
  unfold lookF
  rw [if_pos (by simp only [inB, decide_eq_true_eq]; omega)]
  rfl
end Go.Proofs.Ytabdnepfcohncaa.Abs
namespace Go.Proofs.Ytabdnepfcohncaa.Abs
set_option linter.unusedSimpArgs false
set_option linter.unusedVariables false
open Go.RowKit
open Go.Proofs.Ytabdnepfcohncaa.Sim
open Go.Proofs
/-- Held, of a clerk at work or done. -/
def heO (o : Option Ck) (p i : Int) : Option Ck := o.map fun K => (chF K p i).2.2
def heR (o : Option Ck) (p i : Int) : Int × Int := match o with
  | none => (0, 9)
  | some K => ((chF K p i).1, (chF K p i).2.1)
theorem Side.held {m : AM} {ow : Nat → Nat} {M : AM} {n0 bk : Nat} {B : Bk} {av : Value} {ps : List Nat} {cs : List (Nat × Option Ck)} {k ck : Nat} {o : Option Ck} (h : Side m ow M (dobj n0 bk B av ps cs)) (hk : cs[k]? = some (ck, o)) (p i : Int) :
    ACall Try.prog 31 #[.pointer (some ⟨ck, 0, none⟩), .int .i64 p, .int .i64 i] M (fun r M2 => r = .tuple #[.int .i64 (heR o p i).1, .int .i64 (heR o p i).2] ∧ M.length ≤ M2.length ∧ (∀ j, j < M.length → ow j ≠ k + 2 → M2[j]? = M[j]?) ∧ Side m (asg ow M.length (k + 2)) M2 (dobj n0 bk B av ps (cs.set k (ck, heO o p i)))) := by
  refine h.clkCall hk fun hC => ?_
  cases o with
  | none =>
    refine (Held_done p i hC).mono ?_
    rintro r M' ⟨rfl, rfl⟩
    exact ⟨rfl, hC, fun _ => False, Keep.refl _ _, fun _ h => h.elim⟩
  | some K =>
    obtain ⟨q, mvv, hC⟩ := hC
    refine (CHeld_ok p i hC).mono ?_
    rintro r M' ⟨rfl, hC', hkp⟩
    exact ⟨rfl, ⟨q, mvv, hC'⟩, (· = q), hkp, fun j hj => hC.in_ j (.inr (.inl hj))⟩
theorem chF_in {K : Ck} (h : OKK K) {p i : Nat} (hp : p < 16) (hi : i < 16) : chF K p i = (K.V.getD (p * 16 + i) 0, 0, { K with seen := ((p : Int), (i : Int)) :: K.seen }) := by
  unfold chF
  rw [if_neg (by rw [h.dn]; simp), if_pos (by simp only [inB, decide_eq_true_eq]; omega)]
  rfl
theorem heO_in {K : Ck} (h : OKK K) {p i : Nat} (hp : p < 16) (hi : i < 16) : heR (some K) p i = (K.V.getD (p * 16 + i) 0, 0) ∧ heO (some K) p i = some { K with seen := ((p : Int), (i : Int)) :: K.seen } := by
  unfold heR heO
  rw [Option.map_some]
  simp only [chF_in h hp hi, and_self]
set_option maxHeartbeats 32000000 in
set_option maxRecDepth 100000 in
theorem StockApart_ok {m : AM} (hw : ∀ M : AM, ACall Try.prog 16 #[] M (Ret (.bool true) M)) {v v2 mvv : Value} {ds es : List Deed} {ms : List Tr} (pl it : Int) (h : Deeds m v ds) (h' : Deeds m v2 es) (hmv : Trs m mvv ms) (hn : ds.length ≤ 9223372036854775807) (hl : ∀ k, (ds.getD k default).l.length ≤ 9223372036854775807) (hn' : es.length ≤ 9223372036854775807) (hl' : ∀ k, (es.getD k default).l.length ≤ 9223372036854775807) (hms : ms.length ≤ 9223372036854775807) :
    ACall Try.prog 6 #[v, v2, mvv, .int .i64 pl, .int .i64 it] m (Ret (.bool true) m) := by
  refine ACall.drop (.bool _) ?_
  obtain ⟨a, o, h1, h2, h3⟩ := h
  obtain ⟨a', o', h1', h2', h3'⟩ := h'
  obtain ⟨a2, o2, h1m, h2m, h3m⟩ := hmv
  obtain ⟨p, hp, ep⟩ := mod_in pl 16 (by omega) (by omega)
  obtain ⟨i, hi, ei⟩ := mod_in it 16 (by omega) (by omega)
  refine ACall.start Try.func6 rfl rfl ?_
  (repeat (first | (with_reducible refine AWo.cons ?_) | ((with_reducible refine Step.id ?_); first | ((with_reducible apply Step.move); exact rfl; exact rfl) | ((with_reducible apply Step.assign); exact rfl; exact rfl) | ((with_reducible apply Step.ptrNot); exact rfl; exact rfl; exact un49; exact rfl) | ((with_reducible apply Step.callL fit (k := 0)); exact rfl; exact rfl; exact Try.func27; exact rfl; exact rfl; exact (NewBook_ok); (focus (first | (simp only [List.nil_append, List.cons_append, List.set_cons_zero, List.set_cons_succ, iv_set, bv_set, iv_rep, bv_rep]; done) | (simp only [List.nil_append, List.cons_append, List.set_cons_zero, List.set_cons_succ, iv_set, bv_set, iv_rep, bv_rep]; rfl) | rfl)))) | (with_reducible refine AWo.nil ?_) | ((with_reducible apply AW.seq)) | ((with_reducible apply Then.n)) | ((with_reducible apply AW.regL)) | ((with_reducible apply AW.skip)) | ((with_reducible apply AW.condF); exact rfl; (focus (rfl)))))
  ((with_reducible apply Step.conv); exact rfl; exact un3; exact un31; exact rfl; exact rfl)
  (repeat ((with_reducible refine AWo.cons ?_)))
  ((with_reducible apply Step.remU); exact rfl; exact rfl; exact (wrapU _); (focus (omega)); exact rfl)
  (repeat ((with_reducible refine AWo.cons ?_)))
  ((with_reducible apply Step.conv); exact rfl; exact un31; exact un3; exact ep; exact rfl)
  (repeat (first | (with_reducible refine AWo.cons ?_) | ((with_reducible refine Step.id ?_); ((with_reducible apply Step.move); exact rfl; exact rfl))))
  ((with_reducible apply Step.conv); exact rfl; exact un3; exact un31; exact rfl; exact rfl)
  (repeat ((with_reducible refine AWo.cons ?_)))
  ((with_reducible apply Step.remU); exact rfl; exact rfl; exact (wrapU _); (focus (omega)); exact rfl)
  (repeat ((with_reducible refine AWo.cons ?_)))
  ((with_reducible apply Step.conv); exact rfl; exact un31; exact un3; exact ei; exact rfl)
  (repeat (first | (with_reducible refine AWo.cons ?_) | ((with_reducible refine Step.id ?_); first | ((with_reducible apply Step.move); exact rfl; exact rfl) | ((with_reducible apply Step.assign); exact rfl; exact rfl) | ((with_reducible apply Step.len); exact rfl; (focus (assumption)); (focus (decide +kernel)); exact rfl)) | (with_reducible refine AWo.nil ?_) | ((with_reducible apply AW.seq)) | ((with_reducible apply Then.n)) | ((with_reducible apply AW.regL)) | ((with_reducible apply AW.block))))
  refine AW.midX 0 (fun t' M => ∃ (ow : Nat → Nat) (bk : Nat) (B : Bk), Side m ow M (dobj m.length bk B (.slice none 0 0) [] []) ∧ Good B ∧ B.P.length ≤ 20 ∧ All (fun i v => t' i = some v) [(1, v2), (2, mvv), (3, .int .i64 (p : Nat)), (4, .int .i64 (i : Nat)), (11, .pointer (some ⟨bk, 0, none⟩))]) ?_ ?_
  · refine AW.loopW (fun q t M => ∃ (k : Nat) (ow : Nat → Nat) (bk : Nat) (B : Bk), q = ds.length - k ∧ k ≤ ds.length ∧ Side m ow M (dobj m.length bk B (.slice none 0 0) [] []) ∧ Good B ∧ B.P.length ≤ k ∧ B.P.length ≤ 20 ∧
      t = fr [(1, v2), (2, mvv), (3, .int .i64 (p : Nat)), (4, .int .i64 (i : Nat)), (11, .pointer (some ⟨bk, 0, none⟩)), (35, v), (36, .int .i64 (ds.length : Nat)), (37, .int .i64 (k : Nat))])
      ⟨_, _, (by repeat (first | exact trivial | (refine And.intro rfl ?_))), 0, fun j => if j < m.length then 1 else 0, m.length + 0, Bk.new, rfl, Nat.zero_le _,
        ⟨by rw [List.length_append]; omega, fun j hj => ⟨List.getElem?_append_left hj, if_pos hj⟩, ?_, dobj_mono⟩, Good.new, Nat.zero_le _, Nat.zero_le _, rfl⟩ ?_
    · rintro (_ | _ | k)
      · exact ⟨.slice none 0 0, by omega, vw_some.2 ⟨if_neg (by omega), by rw [get_app]; rfl⟩, Good.new.lH, Good.new.lC, ⟨[], Row.nil, fun k hk => absurd hk (Nat.not_lt_zero _)⟩⟩
      · exact Row.nil
      · intro c hc; simp at hc
    · rintro q t M ⟨k, ow, bk, B, rfl, hk, hS, hG, hPl, hP20, rfl⟩
      rcases Nat.lt_or_ge k ds.length with hlt | hge
      · obtain ⟨w, g1, g2⟩ := h3 k hlt
        have hM0 := hS.sub
        have g1' := fun T => (g1.sub hM0).old T
        have hle := hl k
        generalize ds.getD k default = x at *
        have hw1 : (Value.agg (x.cells w).toArray).cells.all (·.oneCell') = true := by obtain ⟨aa, oo, hs, _⟩ := g2; exact Deed.one hs
        have hpo := fun M h => post_ok (m := M) (v := w) (l := x.l) h hle
        refine AW.rebase ?_
        by_cases h20 : k < 20
        · obtain ⟨X, hX⟩ : ∃ X : AM, X = M ++ [some { cells := x.cells w }] := ⟨_, rfl⟩
          have hSX : Side m (asg ow M.length 1) X (dobj m.length bk B (.slice none 0 0) [] []) := by rw [hX]; exact hS.app _ 1
          have gw : Trs X w x.l := g2.sub hSX.sub
          (repeat (first | (with_reducible refine AWo.cons ?_) | ((with_reducible refine Step.id ?_); first | ((with_reducible apply Step.move); exact rfl; exact rfl) | ((with_reducible apply Step.assign); exact rfl; exact rfl) | ((with_reducible apply Step.load); exact rfl; (focus (decide +kernel)); exact rfl; (focus (exact Rd.new rfl rfl))) | ((with_reducible apply Step.loadL (n := 5)); exact rfl; (focus (decide +kernel)); (focus (decide +kernel)); exact rfl; (focus (exact g1' _)); exact rfl; exact rfl) | ((with_reducible apply Step.ix (s := 5)); exact rfl; (focus (assumption)); exact rfl; (focus (decide +kernel)); exact rfl; (focus (omega))) | ((with_reducible apply Step.field (k := 4)); exact rfl; (focus (decide +kernel)); exact rfl) | ((with_reducible apply Step.lss); exact rfl; exact rfl; exact rfl) | ((with_reducible apply Step.alloc 0); exact rfl; exact ze52; exact rfl; (focus (first | (simp only [List.nil_append, List.cons_append, List.set_cons_zero, List.set_cons_succ, iv_set, bv_set, iv_rep, bv_rep]; done) | (simp only [List.nil_append, List.cons_append, List.set_cons_zero, List.set_cons_succ, iv_set, bv_set, iv_rep, bv_rep]; rfl) | rfl))) | ((with_reducible apply Step.storeA (k := 0) (n := 5)); exact rfl; exact rfl; exact rfl; exact rfl; (focus (decide +kernel)); exact rfl; (focus (first | assumption | exact hw1)); exact rfl; (focus (first | (simp only [List.nil_append, List.cons_append, List.set_cons_zero, List.set_cons_succ, iv_set, bv_set, iv_rep, bv_rep]; done) | (simp only [List.nil_append, List.cons_append, List.set_cons_zero, List.set_cons_succ, iv_set, bv_set, iv_rep, bv_rep]; rfl) | rfl)))) | (with_reducible refine AWo.nil ?_) | ((with_reducible apply AW.seq)) | ((with_reducible apply Then.n)) | ((with_reducible apply AW.regL)) | ((with_reducible apply AW.block)) | ((with_reducible apply AW.skip)) | ((with_reducible apply AW.condT); exact rfl; (focus ((simp only [decide_eq_true_eq, decide_eq_false_iff_not, Bool.not_eq_true', Bool.not_eq_false', Bool.not_true, Bool.not_false]; first | assumption | omega))))))
          rw [show (M ++ [some { cells := (Value.agg (x.cells w).toArray).cells.toList }] : AM) = X from hX.symm]
          ((with_reducible apply Step.callX fit); exact rfl; exact Try.func29; exact rfl; exact rfl; exact (hpo _ gw))
          rintro r1 M1 ⟨N1, hN1⟩ hr1
          have hP := hSX.post hN1 hr1 hG (by omega)
          (repeat ((with_reducible refine AWo.cons ?_)))
          ((with_reducible apply Step.callF fit); exact rfl; exact Try.func28; exact rfl; exact rfl; (focus (rw [List.append_nil]; exact hP)))
          rintro r2 M2 ⟨rfl, _, _, ow2, _, hS2⟩
          have hpl := postF_len B x.l
          rw [← List.append_nil M2]
          (repeat (first | (with_reducible refine AWo.cons ?_) | ((with_reducible refine Step.id ?_); first | ((with_reducible apply Step.move); exact rfl; exact rfl) | ((with_reducible apply Step.add); exact rfl; exact rfl; (focus (omega)); exact rfl)) | (with_reducible refine AWo.nil ?_) | ((with_reducible apply Then.n)) | ((with_reducible apply AW.regL)) | ((with_reducible apply InBlk.n))))
          exact ⟨_, [(1, v2), (2, mvv), (3, .int .i64 (p : Nat)), (4, .int .i64 (i : Nat)), (11, .pointer (some ⟨bk, 0, none⟩)), (35, v), (36, .int .i64 (ds.length : Nat)), (37, .int .i64 (k + 1 : Nat))], by omega, (by repeat (first | exact trivial | (refine And.intro rfl ?_))), k + 1, ow2, bk, _, rfl, by omega, by rw [List.append_nil]; exact hS2, hG.post _, by omega, by omega, rfl⟩
        · (repeat (first | (with_reducible refine AWo.cons ?_) | ((with_reducible refine Step.id ?_); first | ((with_reducible apply Step.move); exact rfl; exact rfl) | ((with_reducible apply Step.assign); exact rfl; exact rfl) | ((with_reducible apply Step.loadL (n := 5)); exact rfl; (focus (decide +kernel)); (focus (decide +kernel)); exact rfl; (focus (exact g1' _)); exact rfl; exact rfl) | ((with_reducible apply Step.ix (s := 5)); exact rfl; (focus (assumption)); exact rfl; (focus (decide +kernel)); exact rfl; (focus (omega))) | ((with_reducible apply Step.add); exact rfl; exact rfl; (focus (omega)); exact rfl) | ((with_reducible apply Step.lss); exact rfl; exact rfl; exact rfl) | ((with_reducible apply Step.alloc 0); exact rfl; exact ze52; exact rfl; (focus (first | (simp only [List.nil_append, List.cons_append, List.set_cons_zero, List.set_cons_succ, iv_set, bv_set, iv_rep, bv_rep]; done) | (simp only [List.nil_append, List.cons_append, List.set_cons_zero, List.set_cons_succ, iv_set, bv_set, iv_rep, bv_rep]; rfl) | rfl))) | ((with_reducible apply Step.storeA (k := 0) (n := 5)); exact rfl; exact rfl; exact rfl; exact rfl; (focus (decide +kernel)); exact rfl; (focus (first | assumption | exact hw1)); exact rfl; (focus (first | (simp only [List.nil_append, List.cons_append, List.set_cons_zero, List.set_cons_succ, iv_set, bv_set, iv_rep, bv_rep]; done) | (simp only [List.nil_append, List.cons_append, List.set_cons_zero, List.set_cons_succ, iv_set, bv_set, iv_rep, bv_rep]; rfl) | rfl)))) | (with_reducible refine AWo.nil ?_) | ((with_reducible apply AW.seq)) | ((with_reducible apply Then.n)) | ((with_reducible apply AW.regL)) | ((with_reducible apply AW.block)) | ((with_reducible apply InBlk.n)) | ((with_reducible apply AW.skip)) | ((with_reducible apply AW.condT); exact rfl; (focus ((simp only [decide_eq_true_eq, decide_eq_false_iff_not, Bool.not_eq_true', Bool.not_eq_false', Bool.not_true, Bool.not_false]; first | assumption | omega)))) | ((with_reducible apply AW.condF); exact rfl; (focus ((simp only [decide_eq_true_eq, decide_eq_false_iff_not, Bool.not_eq_true', Bool.not_eq_false', Bool.not_true, Bool.not_false]; first | assumption | omega))))))
          exact ⟨_, [(1, v2), (2, mvv), (3, .int .i64 (p : Nat)), (4, .int .i64 (i : Nat)), (11, .pointer (some ⟨bk, 0, none⟩)), (35, v), (36, .int .i64 (ds.length : Nat)), (37, .int .i64 (k + 1 : Nat))], by omega, (by repeat (first | exact trivial | (refine And.intro rfl ?_))), k + 1, _, bk, B, rfl, by omega, hS.app _ 1, hG, by omega, by omega, rfl⟩
      · obtain rfl : k = ds.length := by omega
        (repeat (first | (with_reducible refine AWo.cons ?_) | ((with_reducible refine Step.id ?_); ((with_reducible apply Step.lss); exact rfl; exact rfl; exact rfl)) | (with_reducible refine AWo.nil ?_) | ((with_reducible apply AW.seq)) | ((with_reducible apply Then.n)) | ((with_reducible apply AW.regL)) | ((with_reducible apply AW.exit)) | ((with_reducible apply Then.e)) | ((with_reducible apply AW.condF); exact rfl; (focus ((simp only [decide_eq_true_eq, decide_eq_false_iff_not, Bool.not_eq_true', Bool.not_eq_false', Bool.not_true, Bool.not_false]; first | assumption | omega))))))
        exact ⟨rfl, ow, bk, B, hS, hG, hP20, (by repeat (first | exact trivial | (refine And.intro rfl ?_)))⟩
  · rintro t' M ⟨ow, bk, B, hS, hG, hP20, hsl⟩
    refine InBlk.hit ?_
    refine Then.n ?_
    refine AW.weak (fr_all hsl) ?_
    clear hsl
    refine AW.rebase ?_
    (repeat (first | (with_reducible refine AWo.cons ?_) | ((with_reducible refine Step.id ?_); ((with_reducible apply Step.move); exact rfl; exact rfl)) | ((with_reducible apply AW.seq)) | ((with_reducible apply AW.regL))))
    ((with_reducible apply Step.callF fit); exact rfl; exact Try.func30; exact rfl; exact rfl; (focus (rw [List.append_nil]; exact hS.begin)))
    rintro r2 M2 ⟨ow2, rfl, hl2, _, hS2⟩
    have hK0 : OKK ⟨B.P.length, B.H, [], [], false⟩ := ⟨rfl, Nat.zero_le _, rfl, hG.bd.le (by simp), fun x hx => absurd hx List.not_mem_nil⟩
    rw [List.nil_append] at hS2
    generalize M.length + 1 = ck at *
    have hhe := hS2.held (k := 0) rfl (p : Int) (i : Int)
    rw [(heO_in hK0 hp hi).1, (heO_in hK0 hp hi).2] at hhe
    rw [← List.append_nil M2]
    (repeat (first | (with_reducible refine AWo.cons ?_) | ((with_reducible refine Step.id ?_); first | ((with_reducible apply Step.move); exact rfl; exact rfl) | ((with_reducible apply Step.assign); exact rfl; exact rfl)) | (with_reducible refine AWo.nil ?_) | ((with_reducible apply AW.seq)) | ((with_reducible apply Then.n)) | ((with_reducible apply AW.regL))))
    ((with_reducible apply Step.callF fit); exact rfl; exact Try.func31; exact rfl; exact rfl; (focus (rw [List.append_nil]; exact hhe)))
    rintro r3 M3 ⟨rfl, hl3, _, hS3⟩
    rw [List.set_cons_zero] at hS3
    obtain ⟨pv, hB3⟩ := hS3.book
    have hb3 := hB3.lt
    have hH := fun T => Held_ok (p : Int) (i : Int) (hB3.old T)
    rw [look_in hp hi] at hH
    rw [← List.append_nil M3]
    (repeat (first | (with_reducible refine AWo.cons ?_) | ((with_reducible refine Step.id ?_); first | ((with_reducible apply Step.gdT); exact rfl; exact rfl; (focus (rfl))) | ((with_reducible apply Step.move); exact rfl; exact rfl) | ((with_reducible apply Step.assign); exact rfl; exact rfl) | ((with_reducible apply Step.neq); exact rfl; exact rfl; exact rfl) | ((with_reducible apply Step.len); exact rfl; (focus (assumption)); (focus (decide +kernel)); exact rfl) | ((with_reducible apply Step.extract); exact rfl; exact rfl; exact rfl) | ((with_reducible apply Step.pickF); exact rfl; exact rfl; exact rfl; exact rfl; (focus (rfl))) | ((with_reducible apply Step.callR fit); exact rfl; exact Try.func32; exact rfl; exact rfl; exact (hH _))) | (with_reducible refine AWo.nil ?_) | ((with_reducible apply AW.seq)) | ((with_reducible apply Then.n)) | ((with_reducible apply AW.regL)) | ((with_reducible apply AW.block)) | ((with_reducible apply AW.skip)) | ((with_reducible apply AW.condF); exact rfl; (focus ((simp; done))))))
    refine AW.midX 2 (fun t' M => ∃ N, M = m ++ N) ?_ ?_
    · refine AW.loopW (fun q t M => ∃ (k : Nat) (ow : Nat → Nat) (B : Bk) (K : Ck), q = es.length - k ∧ k ≤ es.length ∧ Side m ow M (dobj m.length bk B (.slice none 0 0) [] [(ck, some K)]) ∧ Good B ∧ B.P.length ≤ 20 + k ∧ k ≤ 20 ∧ OKK K ∧ K.mv.length ≤ k ∧ (16 ≤ k → K.mv.length ≤ 16) ∧
        t = fr [(2, mvv), (3, .int .i64 (p : Nat)), (4, .int .i64 (i : Nat)), (11, .pointer (some ⟨bk, 0, none⟩)), (14, .pointer (some ⟨ck, 0, none⟩)), (15, .int .i64 (K.V.getD (p * 16 + i) 0)), (77, v2), (78, .int .i64 (es.length : Nat)), (79, .int .i64 (k : Nat))])
        ⟨_, _, (by repeat (first | exact trivial | (refine And.intro rfl ?_))), 0, _, B, ⟨B.P.length, B.H, [((p : Int), (i : Int))], [], false⟩, rfl, Nat.zero_le _, by rw [List.append_nil]; exact hS3, hG, by omega, by omega, ⟨rfl, Nat.zero_le _, rfl, hG.bd.le (by simp), fun x hx => by
          simp only [List.mem_singleton] at hx
          subst hx
          simp only [inB, decide_eq_true_eq]
          omega⟩, Nat.zero_le _, fun _ => Nat.zero_le _, rfl⟩ ?_
      clear hS3 hS2 hS hB3 hH hG hhe hK0
      rintro q t M ⟨k, ow, B, K, rfl, hk, hS, hG, hPl, hk20, hK, hKn, hK16, rfl⟩
      have hend : ∃ N, M = m ++ N := pre_keep (M := m) ⟨[], by rw [List.append_nil]⟩ hS.len fun j hj => (hS.base j hj).1
      rcases Nat.lt_or_ge k es.length with hlt | hge
      · obtain ⟨w, g1, g2⟩ := h3' k hlt
        have hM0 := hS.sub
        have g1' := fun T => (g1.sub hM0).old T
        have hle := hl' k
        generalize es.getD k default = x at *
        have hw1 : (Value.agg (x.cells w).toArray).cells.all (·.oneCell') = true := by obtain ⟨aa, oo, hs, _⟩ := g2; exact Deed.one hs
        have hpo := fun M h => post_ok (m := M) (v := w) (l := x.l) h hle
        refine AW.rebase ?_
        by_cases h20 : 20 ≤ k
        · (repeat (first | (with_reducible refine AWo.cons ?_) | ((with_reducible refine Step.id ?_); first | ((with_reducible apply Step.move); exact rfl; exact rfl) | ((with_reducible apply Step.assign); exact rfl; exact rfl) | ((with_reducible apply Step.loadL (n := 5)); exact rfl; (focus (decide +kernel)); (focus (decide +kernel)); exact rfl; (focus (exact g1' _)); exact rfl; exact rfl) | ((with_reducible apply Step.ix (s := 5)); exact rfl; (focus (assumption)); exact rfl; (focus (decide +kernel)); exact rfl; (focus (omega))) | ((with_reducible apply Step.lss); exact rfl; exact rfl; exact rfl) | ((with_reducible apply Step.geq); exact rfl; exact rfl; exact rfl) | ((with_reducible apply Step.alloc 0); exact rfl; exact ze52; exact rfl; (focus (first | (simp only [List.nil_append, List.cons_append, List.set_cons_zero, List.set_cons_succ, iv_set, bv_set, iv_rep, bv_rep]; done) | (simp only [List.nil_append, List.cons_append, List.set_cons_zero, List.set_cons_succ, iv_set, bv_set, iv_rep, bv_rep]; rfl) | rfl))) | ((with_reducible apply Step.storeA (k := 0) (n := 5)); exact rfl; exact rfl; exact rfl; exact rfl; (focus (decide +kernel)); exact rfl; (focus (first | assumption | exact hw1)); exact rfl; (focus (first | (simp only [List.nil_append, List.cons_append, List.set_cons_zero, List.set_cons_succ, iv_set, bv_set, iv_rep, bv_rep]; done) | (simp only [List.nil_append, List.cons_append, List.set_cons_zero, List.set_cons_succ, iv_set, bv_set, iv_rep, bv_rep]; rfl) | rfl)))) | (with_reducible refine AWo.nil ?_) | ((with_reducible apply AW.seq)) | ((with_reducible apply Then.n)) | ((with_reducible apply AW.regL)) | ((with_reducible apply AW.block)) | ((with_reducible apply AW.exit)) | ((with_reducible apply InBlk.miss); exact rfl) | ((with_reducible apply Then.e)) | ((with_reducible apply AW.skip)) | ((with_reducible apply AW.condT); exact rfl; (focus ((simp only [decide_eq_true_eq, decide_eq_false_iff_not, Bool.not_eq_true', Bool.not_eq_false', Bool.not_true, Bool.not_false]; first | assumption | omega))))))
          obtain ⟨N, rfl⟩ := hend
          exact ⟨rfl, _, List.append_assoc _ _ _⟩
        · obtain ⟨X, hX⟩ : ∃ X : AM, X = M ++ [some { cells := x.cells w }] := ⟨_, rfl⟩
          have hSX : Side m (asg ow M.length 1) X (dobj m.length bk B (.slice none 0 0) [] [(ck, some K)]) := by rw [hX]; exact hS.app _ 1
          have gw : Trs X w x.l := g2.sub hSX.sub
          (repeat (first | (with_reducible refine AWo.cons ?_) | ((with_reducible refine Step.id ?_); first | ((with_reducible apply Step.move); exact rfl; exact rfl) | ((with_reducible apply Step.assign); exact rfl; exact rfl) | ((with_reducible apply Step.load); exact rfl; (focus (decide +kernel)); exact rfl; (focus (exact Rd.new rfl rfl))) | ((with_reducible apply Step.loadL (n := 5)); exact rfl; (focus (decide +kernel)); (focus (decide +kernel)); exact rfl; (focus (exact g1' _)); exact rfl; exact rfl) | ((with_reducible apply Step.ix (s := 5)); exact rfl; (focus (assumption)); exact rfl; (focus (decide +kernel)); exact rfl; (focus (omega))) | ((with_reducible apply Step.field (k := 4)); exact rfl; (focus (decide +kernel)); exact rfl) | ((with_reducible apply Step.lss); exact rfl; exact rfl; exact rfl) | ((with_reducible apply Step.geq); exact rfl; exact rfl; exact rfl) | ((with_reducible apply Step.alloc 0); exact rfl; exact ze52; exact rfl; (focus (first | (simp only [List.nil_append, List.cons_append, List.set_cons_zero, List.set_cons_succ, iv_set, bv_set, iv_rep, bv_rep]; done) | (simp only [List.nil_append, List.cons_append, List.set_cons_zero, List.set_cons_succ, iv_set, bv_set, iv_rep, bv_rep]; rfl) | rfl))) | ((with_reducible apply Step.storeA (k := 0) (n := 5)); exact rfl; exact rfl; exact rfl; exact rfl; (focus (decide +kernel)); exact rfl; (focus (first | assumption | exact hw1)); exact rfl; (focus (first | (simp only [List.nil_append, List.cons_append, List.set_cons_zero, List.set_cons_succ, iv_set, bv_set, iv_rep, bv_rep]; done) | (simp only [List.nil_append, List.cons_append, List.set_cons_zero, List.set_cons_succ, iv_set, bv_set, iv_rep, bv_rep]; rfl) | rfl)))) | (with_reducible refine AWo.nil ?_) | ((with_reducible apply AW.seq)) | ((with_reducible apply Then.n)) | ((with_reducible apply AW.regL)) | ((with_reducible apply AW.block)) | ((with_reducible apply AW.skip)) | ((with_reducible apply AW.condT); exact rfl; (focus ((simp only [decide_eq_true_eq, decide_eq_false_iff_not, Bool.not_eq_true', Bool.not_eq_false', Bool.not_true, Bool.not_false]; first | assumption | omega)))) | ((with_reducible apply AW.condF); exact rfl; (focus ((simp only [decide_eq_true_eq, decide_eq_false_iff_not, Bool.not_eq_true', Bool.not_eq_false', Bool.not_true, Bool.not_false]; first | assumption | omega))))))
          rw [show (M ++ [some { cells := (Value.agg (x.cells w).toArray).cells.toList }] : AM) = X from hX.symm]
          ((with_reducible apply Step.callX fit); exact rfl; exact Try.func29; exact rfl; exact rfl; exact (hpo _ gw))
          rintro r1 M1 ⟨N1, hN1⟩ hr1
          have hP := hSX.post hN1 hr1 hG (by omega)
          (repeat ((with_reducible refine AWo.cons ?_)))
          ((with_reducible apply Step.callF fit); exact rfl; exact Try.func28; exact rfl; exact rfl; (focus (rw [List.append_nil]; exact hP)))
          rintro r2 M2 ⟨rfl, _, _, ow2, _, hS2⟩
          have hG2 := hG.post x.l
          have hpl := postF_len B x.l
          generalize (postF B x.l).1 = B2 at *
          obtain ⟨q0, mvv0, hC0⟩ := hS2.at_ 2 (ck, some K) rfl
          have hlV := hC0.lV
          rw [← List.append_nil M2]
          (repeat (first | (with_reducible refine AWo.nil ?_) | ((fail_if_success (with_reducible refine AW.atR (id := 21) ?_)); ((with_reducible apply AW.seq))) | ((with_reducible apply Then.n))))
          refine AW.joinQ (fun t' M' => ∃ (ow : Nat → Nat) (K' : Ck), Side m ow M' (dobj m.length bk B2 (.slice none 0 0) [] [(ck, some K')]) ∧ OKK K' ∧ K'.mv.length ≤ k + 1 ∧
            All (fun i v => t' i = some v) [(2, mvv), (3, .int .i64 (p : Nat)), (4, .int .i64 (i : Nat)), (11, .pointer (some ⟨bk, 0, none⟩)), (14, .pointer (some ⟨ck, 0, none⟩)), (15, .int .i64 (K'.V.getD (p * 16 + i) 0)), (77, v2), (78, .int .i64 (es.length : Nat)), (79, .int .i64 (k : Nat))]) ?_ ?_
          · by_cases c1 : k < ms.length
            · by_cases c2 : k < 16
              · have gm := fun T => ((h3m k c1).sub hS2.sub).old T
                generalize ms.getD k default = y at *
                obtain ⟨yi, yf, yt, yn⟩ := y
                simp only [Tr.c] at gm
                obtain ⟨X2, hX2⟩ : ∃ X2 : AM, X2 = M2 ++ [some { cells := [.int .i64 yi, .int .i64 yf, .int .i64 yt, .int .i64 yn] }] := ⟨_, rfl⟩
                have hX2l : X2.length = M2.length + 1 := by rw [hX2, List.length_append]; rfl
                have hS3 : Side m (asg ow2 M2.length 1) X2 (dobj m.length bk B2 (.slice none 0 0) [] [(ck, some K)]) := by rw [hX2]; exact hS2.app _ 1
                have hmv := hS3.move (k := 0) rfl (fun K0 h0 => by injection h0 with h0; rw [← h0]; exact hK) ⟨yi, yf, yt, yn⟩
                refine AW.rebase ?_
                rw [List.append_nil]
                (repeat (first | (with_reducible refine AWo.cons ?_) | ((with_reducible refine Step.id ?_); first | ((with_reducible apply Step.gdT); exact rfl; exact rfl; (focus ((simp only [decide_eq_true_eq, decide_eq_false_iff_not, Bool.not_eq_true', Bool.not_eq_false', Bool.not_true, Bool.not_false]; first | assumption | omega)))) | ((with_reducible apply Step.move); exact rfl; exact rfl) | ((with_reducible apply Step.load); exact rfl; (focus (decide +kernel)); exact rfl; (focus (exact Rd.new rfl rfl))) | ((with_reducible apply Step.loadL (n := 4)); exact rfl; (focus (decide +kernel)); (focus (decide +kernel)); exact rfl; (focus (exact gm _)); exact rfl; exact rfl) | ((with_reducible apply Step.ix (s := 4)); exact rfl; (focus (assumption)); exact rfl; (focus (decide +kernel)); exact rfl; (focus (omega))) | ((with_reducible apply Step.field0); exact rfl; (focus (decide +kernel)); exact rfl) | ((with_reducible apply Step.field (k := 1)); exact rfl; (focus (decide +kernel)); exact rfl) | ((with_reducible apply Step.field (k := 2)); exact rfl; (focus (decide +kernel)); exact rfl) | ((with_reducible apply Step.field (k := 3)); exact rfl; (focus (decide +kernel)); exact rfl) | ((with_reducible apply Step.lss); exact rfl; exact rfl; exact rfl) | ((with_reducible apply Step.len); exact rfl; (focus (assumption)); (focus (decide +kernel)); exact rfl) | ((with_reducible apply Step.pickT); exact rfl; exact rfl; exact rfl; exact rfl; (focus ((simp only [decide_eq_true_eq, decide_eq_false_iff_not, Bool.not_eq_true', Bool.not_eq_false', Bool.not_true, Bool.not_false]; first | assumption | omega)))) | ((with_reducible apply Step.alloc 0); exact rfl; exact ze61; exact rfl; (focus (first | (simp only [List.nil_append, List.cons_append, List.set_cons_zero, List.set_cons_succ, iv_set, bv_set, iv_rep, bv_rep]; done) | (simp only [List.nil_append, List.cons_append, List.set_cons_zero, List.set_cons_succ, iv_set, bv_set, iv_rep, bv_rep]; rfl) | rfl))) | ((with_reducible apply Step.storeA (k := 0) (n := 4)); exact rfl; exact rfl; exact rfl; exact rfl; (focus (decide +kernel)); exact rfl; (focus (kernel_rfl)); exact rfl; (focus (first | (simp only [List.nil_append, List.cons_append, List.set_cons_zero, List.set_cons_succ, iv_set, bv_set, iv_rep, bv_rep]; done) | (simp only [List.nil_append, List.cons_append, List.set_cons_zero, List.set_cons_succ, iv_set, bv_set, iv_rep, bv_rep]; rfl) | rfl))) | ((with_reducible apply Step.build); exact rfl; exact bl63; exact rfl)) | (with_reducible refine AWo.nil ?_) | ((with_reducible apply AW.seq)) | ((with_reducible apply Then.n)) | ((with_reducible apply AW.regL)) | ((with_reducible apply AW.condT); exact rfl; (focus ((simp only [decide_eq_true_eq, decide_eq_false_iff_not, Bool.not_eq_true', Bool.not_eq_false', Bool.not_true, Bool.not_false]; first | assumption | omega))))))
                rw [show (M2 ++ [some { cells := (Value.agg #[.int .i64 yi, .int .i64 yf, .int .i64 yt, .int .i64 yn]).cells.toList }] : AM) = X2 from hX2.symm]
                ((with_reducible apply Step.callF fit); exact rfl; exact Try.func33; exact rfl; exact rfl; exact hmv)
                rintro r2 M4 ⟨rfl, hl4, hk4, hS4⟩
                rw [List.set_cons_zero] at hS4
                have ry : ∀ (T : AM) (j : Nat) (y : Value), [Value.int .i64 yi, .int .i64 yf, .int .i64 yt, .int .i64 yn][j]? = some y → Rd (M4 ++ T) (M2.length + 0) j y := fun T j y hj => Rd.old T ⟨{ cells := [.int .i64 yi, .int .i64 yf, .int .i64 yt, .int .i64 yn] }, by rw [hk4 _ (by omega) (by rw [asg_ge (by omega)]; omega), hX2, get_app]; rfl, hj⟩
                rw [← List.append_nil M4]
                cases hok : okT ⟨yi, yf, yt, yn⟩ with
                | false =>
                  have e1 : moF K ⟨yi, yf, yt, yn⟩ = (2, K) := by unfold moF; rw [if_neg (by rw [hK.dn]; simp), if_neg (by rw [hok]; simp)]
                  simp only [moE, moO, Option.map_some, e1] at hS4 ⊢
                  (repeat (first | (with_reducible refine AWo.cons ?_) | ((with_reducible refine Step.id ?_); ((with_reducible apply Step.eql); exact rfl; exact rfl; exact rfl)) | (with_reducible refine AWo.nil ?_) | ((with_reducible apply Then.n)) | ((with_reducible apply AW.skip)) | ((with_reducible apply AW.condF); exact rfl; (focus (rfl)))))
                  exact ⟨rfl, _, K, by rw [List.append_nil]; exact hS4, hK, by omega, (by repeat (first | exact trivial | (refine And.intro rfl ?_)))⟩
                | true =>
                  have e1 : moF K ⟨yi, yf, yt, yn⟩ = (0, { K with mv := K.mv ++ [⟨yi, yf, yt, yn⟩], V := wth1 K.V ⟨yi, yf, yt, yn⟩ }) := by unfold moF; rw [if_neg (by rw [hK.dn]; simp), if_pos hok, if_neg (by omega)]
                  have hK2 := hK.moF ⟨yi, yf, yt, yn⟩
                  have hg := wth1_get hlV hok hp hi
                  have hzb := hK.bd (p * 16 + i)
                  simp only [moE, moO, Option.map_some, e1] at hS4 hK2 ⊢
                  have hml : (K.mv ++ [(⟨yi, yf, yt, yn⟩ : Tr)]).length ≤ k + 1 := by rw [List.length_append]; simp; omega
                  simp only [okT, decide_eq_true_eq] at hok
                  obtain ⟨x1, x2, x3, x4, x5, x6, x7, x8, x9⟩ := hok
                  have hKn2 := hK.n
                  simp only [dl] at hg
                  generalize wth1 K.V ⟨yi, yf, yt, yn⟩ = V2 at *
                  generalize K.V.getD (p * 16 + i) 0 = z at *
                  by_cases d1 : yi = (i : Int)
                  · by_cases d2 : yf = (p : Int)
                    · by_cases d3 : yt = (p : Int)
                      · exact absurd (d2.trans d3.symm) x7
                      · rw [if_neg (fun e => d3 e.2), if_pos ⟨d1, d2⟩] at hg
                        have hv : V2.getD (p * 16 + i) 0 = z - yn := by rw [hg]; omega
                        (repeat (first | (with_reducible refine AWo.cons ?_) | ((with_reducible refine Step.id ?_); first | ((with_reducible apply Step.gdT); exact rfl; exact rfl; (focus ((simp only [decide_eq_true_eq, decide_eq_false_iff_not, Bool.not_eq_true', Bool.not_eq_false', Bool.not_true, Bool.not_false]; first | assumption | omega)))) | ((with_reducible apply Step.move); exact rfl; exact rfl) | ((with_reducible apply Step.assign); exact rfl; exact rfl) | ((with_reducible apply Step.load); exact rfl; (focus (decide +kernel)); exact rfl; (focus (exact ry _ _ _ rfl))) | ((with_reducible apply Step.field0); exact rfl; (focus (decide +kernel)); exact rfl) | ((with_reducible apply Step.field (k := 1)); exact rfl; (focus (decide +kernel)); exact rfl) | ((with_reducible apply Step.field (k := 2)); exact rfl; (focus (decide +kernel)); exact rfl) | ((with_reducible apply Step.field (k := 3)); exact rfl; (focus (decide +kernel)); exact rfl) | ((with_reducible apply Step.sub); exact rfl; exact rfl; (focus (omega)); exact rfl) | ((with_reducible apply Step.eql); exact rfl; exact rfl; exact rfl) | ((with_reducible apply Step.pickT); exact rfl; exact rfl; exact rfl; exact rfl; (focus ((simp only [decide_eq_true_eq, decide_eq_false_iff_not, Bool.not_eq_true', Bool.not_eq_false', Bool.not_true, Bool.not_false]; first | assumption | omega))))) | (with_reducible refine AWo.nil ?_) | ((with_reducible apply AW.seq)) | ((with_reducible apply Then.n)) | ((with_reducible apply AW.regL)) | ((with_reducible apply AW.skip)) | ((with_reducible apply AW.condT); exact rfl; (focus (first | rfl | (simp only [decide_eq_true_eq, decide_eq_false_iff_not, Bool.not_eq_true', Bool.not_eq_false', Bool.not_true, Bool.not_false]; first | assumption | omega)))) | ((with_reducible apply AW.condF); exact rfl; (focus ((simp only [decide_eq_true_eq, decide_eq_false_iff_not, Bool.not_eq_true', Bool.not_eq_false', Bool.not_true, Bool.not_false]; first | assumption | omega))))))
                        refine ⟨rfl, _, { K with mv := K.mv ++ [⟨yi, yf, yt, yn⟩], V := V2 }, by rw [List.append_nil]; exact hS4, hK2, hml, ?_⟩
                        show All _ [(2, mvv), (3, .int .i64 (p : Nat)), (4, .int .i64 (i : Nat)), (11, .pointer (some ⟨bk, 0, none⟩)), (14, .pointer (some ⟨ck, 0, none⟩)), (15, .int .i64 (V2.getD (p * 16 + i) 0)), (77, v2), (78, .int .i64 (es.length : Nat)), (79, .int .i64 (k : Nat))]
                        rw [hv]
                        exact (by repeat (first | exact trivial | (refine And.intro rfl ?_)))
                    · by_cases d3 : yt = (p : Int)
                      · rw [if_pos ⟨d1, d3⟩, if_neg (fun e => d2 e.2)] at hg
                        have hv : V2.getD (p * 16 + i) 0 = z + yn := by rw [hg]; omega
                        (repeat (first | (with_reducible refine AWo.cons ?_) | ((with_reducible refine Step.id ?_); first | ((with_reducible apply Step.gdT); exact rfl; exact rfl; (focus ((simp only [decide_eq_true_eq, decide_eq_false_iff_not, Bool.not_eq_true', Bool.not_eq_false', Bool.not_true, Bool.not_false]; first | assumption | omega)))) | ((with_reducible apply Step.move); exact rfl; exact rfl) | ((with_reducible apply Step.assign); exact rfl; exact rfl) | ((with_reducible apply Step.load); exact rfl; (focus (decide +kernel)); exact rfl; (focus (exact ry _ _ _ rfl))) | ((with_reducible apply Step.field0); exact rfl; (focus (decide +kernel)); exact rfl) | ((with_reducible apply Step.field (k := 1)); exact rfl; (focus (decide +kernel)); exact rfl) | ((with_reducible apply Step.field (k := 2)); exact rfl; (focus (decide +kernel)); exact rfl) | ((with_reducible apply Step.field (k := 3)); exact rfl; (focus (decide +kernel)); exact rfl) | ((with_reducible apply Step.add); exact rfl; exact rfl; (focus (omega)); exact rfl) | ((with_reducible apply Step.eql); exact rfl; exact rfl; exact rfl) | ((with_reducible apply Step.pickT); exact rfl; exact rfl; exact rfl; exact rfl; (focus ((simp only [decide_eq_true_eq, decide_eq_false_iff_not, Bool.not_eq_true', Bool.not_eq_false', Bool.not_true, Bool.not_false]; first | assumption | omega))))) | (with_reducible refine AWo.nil ?_) | ((with_reducible apply AW.seq)) | ((with_reducible apply Then.n)) | ((with_reducible apply AW.regL)) | ((with_reducible apply AW.skip)) | ((with_reducible apply AW.condT); exact rfl; (focus (first | rfl | (simp only [decide_eq_true_eq, decide_eq_false_iff_not, Bool.not_eq_true', Bool.not_eq_false', Bool.not_true, Bool.not_false]; first | assumption | omega)))) | ((with_reducible apply AW.condF); exact rfl; (focus ((simp only [decide_eq_true_eq, decide_eq_false_iff_not, Bool.not_eq_true', Bool.not_eq_false', Bool.not_true, Bool.not_false]; first | assumption | omega))))))
                        refine ⟨rfl, _, { K with mv := K.mv ++ [⟨yi, yf, yt, yn⟩], V := V2 }, by rw [List.append_nil]; exact hS4, hK2, hml, ?_⟩
                        show All _ [(2, mvv), (3, .int .i64 (p : Nat)), (4, .int .i64 (i : Nat)), (11, .pointer (some ⟨bk, 0, none⟩)), (14, .pointer (some ⟨ck, 0, none⟩)), (15, .int .i64 (V2.getD (p * 16 + i) 0)), (77, v2), (78, .int .i64 (es.length : Nat)), (79, .int .i64 (k : Nat))]
                        rw [hv]
                        exact (by repeat (first | exact trivial | (refine And.intro rfl ?_)))
                      · rw [if_neg (fun e => d3 e.2), if_neg (fun e => d2 e.2)] at hg
                        have hv : V2.getD (p * 16 + i) 0 = z := by rw [hg]; omega
                        (repeat (first | (with_reducible refine AWo.cons ?_) | ((with_reducible refine Step.id ?_); first | ((with_reducible apply Step.gdT); exact rfl; exact rfl; (focus ((simp only [decide_eq_true_eq, decide_eq_false_iff_not, Bool.not_eq_true', Bool.not_eq_false', Bool.not_true, Bool.not_false]; first | assumption | omega)))) | ((with_reducible apply Step.move); exact rfl; exact rfl) | ((with_reducible apply Step.load); exact rfl; (focus (decide +kernel)); exact rfl; (focus (exact ry _ _ _ rfl))) | ((with_reducible apply Step.field0); exact rfl; (focus (decide +kernel)); exact rfl) | ((with_reducible apply Step.field (k := 1)); exact rfl; (focus (decide +kernel)); exact rfl) | ((with_reducible apply Step.field (k := 2)); exact rfl; (focus (decide +kernel)); exact rfl) | ((with_reducible apply Step.eql); exact rfl; exact rfl; exact rfl) | ((with_reducible apply Step.pickT); exact rfl; exact rfl; exact rfl; exact rfl; (focus ((simp only [decide_eq_true_eq, decide_eq_false_iff_not, Bool.not_eq_true', Bool.not_eq_false', Bool.not_true, Bool.not_false]; first | assumption | omega))))) | (with_reducible refine AWo.nil ?_) | ((with_reducible apply AW.seq)) | ((with_reducible apply Then.n)) | ((with_reducible apply AW.regL)) | ((with_reducible apply AW.skip)) | ((with_reducible apply AW.condT); exact rfl; (focus (rfl))) | ((with_reducible apply AW.condF); exact rfl; (focus ((simp only [decide_eq_true_eq, decide_eq_false_iff_not, Bool.not_eq_true', Bool.not_eq_false', Bool.not_true, Bool.not_false]; first | assumption | omega))))))
                        refine ⟨rfl, _, { K with mv := K.mv ++ [⟨yi, yf, yt, yn⟩], V := V2 }, by rw [List.append_nil]; exact hS4, hK2, hml, ?_⟩
                        show All _ [(2, mvv), (3, .int .i64 (p : Nat)), (4, .int .i64 (i : Nat)), (11, .pointer (some ⟨bk, 0, none⟩)), (14, .pointer (some ⟨ck, 0, none⟩)), (15, .int .i64 (V2.getD (p * 16 + i) 0)), (77, v2), (78, .int .i64 (es.length : Nat)), (79, .int .i64 (k : Nat))]
                        rw [hv]
                        exact (by repeat (first | exact trivial | (refine And.intro rfl ?_)))
                  · rw [if_neg (fun e => d1 e.1), if_neg (fun e => d1 e.1)] at hg
                    have hv : V2.getD (p * 16 + i) 0 = z := by rw [hg]; omega
                    (repeat (first | (with_reducible refine AWo.cons ?_) | ((with_reducible refine Step.id ?_); first | ((with_reducible apply Step.gdF); exact rfl; exact rfl; (focus ((simp only [decide_eq_true_eq, decide_eq_false_iff_not, Bool.not_eq_true', Bool.not_eq_false', Bool.not_true, Bool.not_false]; first | assumption | omega)))) | ((with_reducible apply Step.move); exact rfl; exact rfl) | ((with_reducible apply Step.load); exact rfl; (focus (decide +kernel)); exact rfl; (focus (exact ry _ _ _ rfl))) | ((with_reducible apply Step.field0); exact rfl; (focus (decide +kernel)); exact rfl) | ((with_reducible apply Step.eql); exact rfl; exact rfl; exact rfl) | ((with_reducible apply Step.pickF); exact rfl; exact rfl; exact rfl; exact rfl; (focus ((simp only [decide_eq_true_eq, decide_eq_false_iff_not, Bool.not_eq_true', Bool.not_eq_false', Bool.not_true, Bool.not_false]; first | assumption | omega))))) | (with_reducible refine AWo.nil ?_) | ((with_reducible apply AW.seq)) | ((with_reducible apply Then.n)) | ((with_reducible apply AW.regL)) | ((with_reducible apply AW.skip)) | ((with_reducible apply AW.condT); exact rfl; (focus (rfl))) | ((with_reducible apply AW.condF); exact rfl; (focus (rfl)))))
                    refine ⟨rfl, _, { K with mv := K.mv ++ [⟨yi, yf, yt, yn⟩], V := V2 }, by rw [List.append_nil]; exact hS4, hK2, hml, ?_⟩
                    show All _ [(2, mvv), (3, .int .i64 (p : Nat)), (4, .int .i64 (i : Nat)), (11, .pointer (some ⟨bk, 0, none⟩)), (14, .pointer (some ⟨ck, 0, none⟩)), (15, .int .i64 (V2.getD (p * 16 + i) 0)), (77, v2), (78, .int .i64 (es.length : Nat)), (79, .int .i64 (k : Nat))]
                    rw [hv]
                    exact (by repeat (first | exact trivial | (refine And.intro rfl ?_)))
              · (repeat (first | (with_reducible refine AWo.cons ?_) | ((with_reducible refine Step.id ?_); first | ((with_reducible apply Step.gdT); exact rfl; exact rfl; (focus ((simp only [decide_eq_true_eq, decide_eq_false_iff_not, Bool.not_eq_true', Bool.not_eq_false', Bool.not_true, Bool.not_false]; first | assumption | omega)))) | ((with_reducible apply Step.move); exact rfl; exact rfl) | ((with_reducible apply Step.lss); exact rfl; exact rfl; exact rfl) | ((with_reducible apply Step.len); exact rfl; (focus (assumption)); (focus (decide +kernel)); exact rfl) | ((with_reducible apply Step.pickT); exact rfl; exact rfl; exact rfl; exact rfl; (focus ((simp only [decide_eq_true_eq, decide_eq_false_iff_not, Bool.not_eq_true', Bool.not_eq_false', Bool.not_true, Bool.not_false]; first | assumption | omega))))) | (with_reducible refine AWo.nil ?_) | ((with_reducible apply AW.seq)) | ((with_reducible apply Then.n)) | ((with_reducible apply AW.regL)) | ((with_reducible apply AW.skip)) | ((with_reducible apply AW.condF); exact rfl; (focus ((simp only [decide_eq_true_eq, decide_eq_false_iff_not, Bool.not_eq_true', Bool.not_eq_false', Bool.not_true, Bool.not_false]; first | assumption | omega))))))
                exact ⟨rfl, ow2, K, by rw [List.append_nil]; exact hS2, hK, by omega, (by repeat (first | exact trivial | (refine And.intro rfl ?_)))⟩
            · (repeat (first | (with_reducible refine AWo.cons ?_) | ((with_reducible refine Step.id ?_); first | ((with_reducible apply Step.gdF); exact rfl; exact rfl; (focus ((simp only [decide_eq_true_eq, decide_eq_false_iff_not, Bool.not_eq_true', Bool.not_eq_false', Bool.not_true, Bool.not_false]; first | assumption | omega)))) | ((with_reducible apply Step.move); exact rfl; exact rfl) | ((with_reducible apply Step.lss); exact rfl; exact rfl; exact rfl) | ((with_reducible apply Step.len); exact rfl; (focus (assumption)); (focus (decide +kernel)); exact rfl) | ((with_reducible apply Step.pickF); exact rfl; exact rfl; exact rfl; exact rfl; (focus ((simp only [decide_eq_true_eq, decide_eq_false_iff_not, Bool.not_eq_true', Bool.not_eq_false', Bool.not_true, Bool.not_false]; first | assumption | omega))))) | (with_reducible refine AWo.nil ?_) | ((with_reducible apply AW.seq)) | ((with_reducible apply Then.n)) | ((with_reducible apply AW.regL)) | ((with_reducible apply AW.skip)) | ((with_reducible apply AW.condF); exact rfl; (focus (rfl)))))
              exact ⟨rfl, ow2, K, by rw [List.append_nil]; exact hS2, hK, by omega, (by repeat (first | exact trivial | (refine And.intro rfl ?_)))⟩
          · rintro t' M4 ⟨ow4, K4, hS4, hK4, hn4, hsl4⟩
            refine Then.n ?_
            refine AW.weak (fr_all hsl4) ?_
            clear hsl4
            have hhe := hS4.held (k := 0) rfl (p : Int) (i : Int)
            rw [(heO_in hK4 hp hi).1, (heO_in hK4 hp hi).2] at hhe
            have hK5 := hK4.chF (p : Int) (i : Int)
            rw [chF_in hK4 hp hi] at hK5
            refine AW.rebase ?_
            (repeat (first | (with_reducible refine AWo.cons ?_) | ((with_reducible refine Step.id ?_); ((with_reducible apply Step.move); exact rfl; exact rfl)) | ((with_reducible apply AW.seq)) | ((with_reducible apply AW.regL))))
            ((with_reducible apply Step.callF fit); exact rfl; exact Try.func31; exact rfl; exact rfl; (focus (rw [List.append_nil]; exact hhe)))
            rintro r5 M5 ⟨rfl, hl5, _, hS5⟩
            rw [List.set_cons_zero] at hS5
            rw [← List.append_nil M5]
            (repeat (first | (with_reducible refine AWo.cons ?_) | ((with_reducible refine Step.id ?_); first | ((with_reducible apply Step.gdT); exact rfl; exact rfl; (focus (rfl))) | ((with_reducible apply Step.move); exact rfl; exact rfl) | ((with_reducible apply Step.assign); exact rfl; exact rfl) | ((with_reducible apply Step.add); exact rfl; exact rfl; (focus (omega)); exact rfl) | ((with_reducible apply Step.neq); exact rfl; exact rfl; exact rfl) | ((with_reducible apply Step.extract); exact rfl; exact rfl; exact rfl) | ((with_reducible apply Step.pickF); exact rfl; exact rfl; exact rfl; exact rfl; (focus (rfl)))) | (with_reducible refine AWo.nil ?_) | ((with_reducible apply AW.seq)) | ((with_reducible apply Then.n)) | ((with_reducible apply AW.regL)) | ((with_reducible apply InBlk.n)) | ((with_reducible apply AW.skip)) | ((with_reducible apply AW.condF); exact rfl; (focus ((simp; done))))))
            exact ⟨_, [(2, mvv), (3, .int .i64 (p : Nat)), (4, .int .i64 (i : Nat)), (11, .pointer (some ⟨bk, 0, none⟩)), (14, .pointer (some ⟨ck, 0, none⟩)), (15, .int .i64 (K4.V.getD (p * 16 + i) 0)), (77, v2), (78, .int .i64 (es.length : Nat)), (79, .int .i64 (k + 1 : Nat))], by omega, (by repeat (first | exact trivial | (refine And.intro rfl ?_))), k + 1, _, B2, _, rfl, by omega, by rw [List.append_nil]; exact hS5, hG2, by omega, by omega, hK5, hn4, fun _ => hK4.n, rfl⟩
      · obtain rfl : k = es.length := by omega
        (repeat (first | (with_reducible refine AWo.cons ?_) | ((with_reducible refine Step.id ?_); ((with_reducible apply Step.lss); exact rfl; exact rfl; exact rfl)) | (with_reducible refine AWo.nil ?_) | ((with_reducible apply AW.seq)) | ((with_reducible apply Then.n)) | ((with_reducible apply AW.regL)) | ((with_reducible apply AW.exit)) | ((with_reducible apply Then.e)) | ((with_reducible apply AW.condF); exact rfl; (focus ((simp only [decide_eq_true_eq, decide_eq_false_iff_not, Bool.not_eq_true', Bool.not_eq_false', Bool.not_true, Bool.not_false]; first | assumption | omega))))))
        exact ⟨rfl, hend⟩
    · rintro t' M ⟨N, rfl⟩
      refine InBlk.hit ?_
      refine Then.n ?_
      refine AW.rebase ?_
      (repeat (first | (with_reducible refine AWo.cons ?_) | ((with_reducible refine Step.id ?_); first | ((with_reducible apply Step.assign); exact rfl; exact rfl) | ((with_reducible apply Step.callR fit); exact rfl; exact Try.func16; exact rfl; exact rfl; exact (hw _))) | (with_reducible refine AWo.nil ?_) | ((with_reducible apply AW.seq)) | ((with_reducible apply Then.n)) | ((with_reducible apply AW.regL))))
      (refine AW.ret ?_; (repeat (first | refine Then.r ?_ | refine InBlk.r ?_)))
      exact ⟨_, rfl, rfl, N, by rw [List.append_nil]⟩
end Go.Proofs.Ytabdnepfcohncaa.Abs
