import Derived.Test.YtmomjannlnafcaaSim4
namespace Go.Proofs.Ytmomjannlnafcaa.Sim
set_option linter.unusedSimpArgs false
set_option linter.unusedVariables false
open Go.RowKit
section
variable {P : Program} {base : Nat} {R : Pl} {m : AM} {w : World} {n : Nat}
/-- A block of one's own goes on under a new number. -/
theorem MRep.move {w' : World} (h : MRep base R m w) {i : Nat} {b : Blk} (hi : m[i]? = some (some b)) (hk : b.kind.solid = true) {p : Place} (hp : R i = some p) (hfree : m[n]? = some none) (hR : R n = none) (c : Blk) (q : Place)
    (hc : BRep base R c q w') (hqp : q.block = p.block) (hck : c.kind ≠ .edge) (hw : ∀ k, k ≠ p.block → w'.heap[k]? = w.heap[k]?) (hsz : w'.heap.size = w.heap.size) :
    R.le (R.put n q) ∧ MRep base (R.put n q) ((m.set i none).set n (some c)) w' := by
  have hle := Pl.le_put R n q hR
  have hni : n ≠ i := fun e => by rw [e, hi] at hfree; cases hfree
  have hn : n < m.length := (List.getElem?_eq_some_iff.1 hfree).1
  have hl : i < m.length := (List.getElem?_eq_some_iff.1 hi).1
  have old : ∀ (j : Nat) (d : Blk), ((m.set i none).set n (some c))[j]? = some (some d) → j ≠ n → j ≠ i ∧ m[j]? = some (some d) := by
    intro j d hj hne
    rw [List.getElem?_set_ne (fun e => hne e.symm)] at hj
    by_cases e : j = i
    · subst e
      rw [List.getElem?_set_self hl] at hj
      injection hj with hj; cases hj
    · rw [List.getElem?_set_ne (fun x => e x.symm)] at hj
      exact ⟨e, hj⟩
  have hnew : ∀ (d : Blk), ((m.set i none).set n (some c))[n]? = some (some d) → d = c := by
    intro d hj
    rw [List.getElem?_set_self (by simpa using hn)] at hj
    injection hj with hj; injection hj with hj; exact hj.symm
  refine ⟨hle, fun j hj => ?_, fun j d hj => ?_, fun j k d e r r' hj hk' hdo heo hjk hr hr' => ?_⟩
  · simp at hj
    rw [Pl.put_other _ _ (by omega)]; exact h.none_ j hj
  · by_cases hne : j = n
    · subst hne
      have := hnew d hj
      subst this
      exact ⟨q, Pl.put_same _ _ _, hc.mono hle⟩
    · obtain ⟨e1, e2⟩ := old j d hj hne
      obtain ⟨r, h1, h2⟩ := h.rep j d e2
      refine ⟨r, hle _ _ h1, BRep.mono ?_ hle⟩
      by_cases hr : d.kind = .edge
      · obtain ⟨z1, z2⟩ := h2
        refine ⟨by rw [hsz]; exact z1, ?_⟩
        rw [hr] at z2 ⊢
        exact z2
      · exact h2.kept (hw _ (fun e => h.apart i j b d p r hi e2 hk hr (fun x => e1 x.symm) hp h1 e.symm))
  · by_cases h1 : j = n
    · subst h1
      have h2 : k ≠ j := fun e => hjk e.symm
      obtain ⟨e1, e2⟩ := old k e hk' h2
      rw [Pl.put_same] at hr
      injection hr with hr
      subst hr
      rw [Pl.put_other _ _ h2] at hr'
      rw [hqp]
      exact h.apart i k b e p r' hi e2 hk heo (fun x => e1 x.symm) hp hr'
    · obtain ⟨e1, e2⟩ := old j d hj h1
      rw [Pl.put_other _ _ h1] at hr
      by_cases h2 : k = n
      · subst h2
        rw [Pl.put_same] at hr'
        injection hr' with hr'
        subst hr'
        rw [hqp]
        exact h.apart j i d b r p e2 hi hdo (by intro x; rw [x] at hk; cases hk) e1 hr hp
      · obtain ⟨e3, e4⟩ := old k e hk' h2
        rw [Pl.put_other _ _ h2] at hr'
        exact h.apart j k d e r r' e2 e4 hdo heo hjk hr hr'
theorem Owned.drop {i k : Nat} (h : Owned (m.set i none) R k) : Owned m R k := by
  obtain ⟨j, b, p, h1, h2⟩ := h
  refine ⟨j, b, p, ?_, h2⟩
  by_cases e : i = j
  · subst e
    rw [List.getElem?_set] at h1
    split at h1
    · split at h1 <;> cases h1
    · exact h1
  · rwa [List.getElem?_set_ne e] at h1
theorem Owned.of_put {k : Nat} {c : Blk} {q : Place} (h : Owned (m.set n (some c)) (R.put n q) k) : k = q.block ∨ Owned m R k := by
  obtain ⟨j, b, p, h1, h2, h3, h4⟩ := h
  by_cases e : j = n
  · subst e
    rw [Pl.put_same] at h3
    injection h3 with h3
    subst h3
    exact .inl h4.symm
  · rw [List.getElem?_set_ne (fun x => e x.symm)] at h1
    rw [Pl.put_other _ _ e] at h3
    exact .inr ⟨j, b, p, h1, h2, h3, h4⟩
/-- A new row behind a draw; the elder one may be forgotten. -/
theorem grown_ok (h : MRep base R m w) (hbase : base ≤ w.heap.size) {m0 : AM} (hm0 : m0 = m ∨ ∃ i, i ≠ n ∧ m0 = m.set i none) (hfree : m[n]? = some none) (hR : R n = none) (c : Blk) (hck : c.kind = .grow) (x : Nat) (cur : Array Value) (ty : TypeId)
    (hsz : c.cells.length + x * c.size ≤ cur.size) (hcells : ∀ (j : Nat) (v : Value), c.cells[j]? = some v → ∃ v', cur[j]? = some v' ∧ Rel R v v' ∧ v'.oneCell' = true) :
    Post base m (m0.set n (some c)) R (R.put n ⟨w.heap.size, 0, x⟩) w (w.drew.alloc (.cells cur ty)) := by
  have hb : Below w.heap.size w (w.drew.alloc (.cells cur ty)) := ((Below.refl _ _).drew).alloc (Nat.le_refl _) _
  have hn : n < m.length := (List.getElem?_eq_some_iff.1 hfree).1
  have h0 : MRep base R m0 w := by
    rcases hm0 with rfl | ⟨i, _, rfl⟩
    · exact h
    · exact h.drop i
  have hl0 : m0.length = m.length := by
    rcases hm0 with rfl | ⟨i, _, rfl⟩ <;> simp
  have hf0 : m0[n]? = some none := by
    rcases hm0 with rfl | ⟨i, hi, rfl⟩
    · exact hfree
    · rwa [List.getElem?_set_ne hi]
  obtain ⟨k1, k2⟩ := h0.put (w' := w.drew.alloc (.cells cur ty)) n (by omega) hf0 hR c ⟨w.heap.size, 0, x⟩ hb.block rfl (by
    refine ⟨by simp, ?_⟩
    rw [hck]
    exact ⟨cur, ty, heap_alloc_new w.drew _, hbase, by simpa using hsz, (fun e => nomatch e), fun j v hj => by simpa using hcells j v hj⟩)
  refine ⟨k1, k2, rfl, rfl, rfl, hb.size, fun k hk _ => hb.block k hk, fun k ho => ?_⟩
  rcases ho.of_put with e | e
  · exact .inl (by rw [e]; exact Nat.le_refl _)
  · refine .inr ?_
    rcases hm0 with rfl | ⟨i, _, rfl⟩
    · exact e
    · exact e.drop
def aappend (P : Program) (m : AM) (n : Nat) (t tx : TypeId) (s x : Value) : Option (Value × AM) :=
  match elemB P t, P.underlying tx, aSliceLen x with
  | some (_, size, bytes, _), some (.slice _), some xl =>
    match acells m size xl x with
    | some news =>
      if !(news.all (·.oneCell')) || size == 0 then none else
      match s with
      | .slice none 0 0 =>
        if xl = 0 then some (s, m) else
        if xl * bytes ≤ 1099511627776 ∧ xl ≤ 1099511627776 then some (.slice (some ⟨n, 0, none⟩) xl xl, m.set n (some { cells := news, kind := .grow, size := size })) else none
      | .slice (some ⟨i, o, none⟩) sl sc =>
        if xl = 0 then some (.slice (some ⟨i, o, none⟩) sl sc, m) else
        match m[i]? with
        | some (some b) =>
          if sl + xl ≤ sc then
            if b.kind.solid && decide (o + sl * size + news.length ≤ b.cells.length) then some (.slice (some ⟨i, o, none⟩) (sl + xl) sc, m.set i (some { b with cells := splice b.cells (o + sl * size) news })) else none
          else if (sl + xl) * bytes ≤ 1099511627776 ∧ sl + xl ≤ 1099511627776 ∧ sl ≤ sc then
            match b.kind with
            | .grow => if o + sc * size = b.cells.length ∧ b.size = size then
                some (.slice (some ⟨n, 0, none⟩) (sl + xl) (sl + xl), (m.set i none).set n (some { cells := (b.cells.drop o).take (sl * size) ++ news, kind := .grow, size := size })) else none
            | .own => if o + sl * size ≤ b.cells.length then
                some (.slice (some ⟨n, 0, none⟩) (sl + xl) (sl + xl), m.set n (some { cells := (b.cells.drop o).take (sl * size) ++ news, kind := .grow, size := size })) else none
            | .edge => if sl = 0 then some (.slice (some ⟨n, 0, none⟩) xl xl, m.set n (some { cells := news, kind := .grow, size := size })) else none
            | .ro => none
          else none
        | _ => none
      | _ => none
    | none => none
  | _, _, _ => none
theorem slice_put {l x k c : Nat} (hc : c = l + x) : Rel (R.put n ⟨k, 0, x⟩) (.slice (some ⟨n, 0, none⟩) l l) (.slice (some ⟨k, 0, none⟩) l c) := by
  have := Rel.slice (R := R.put n ⟨k, 0, x⟩) n 0 l l ⟨k, 0, x⟩ (Pl.put_same _ _ _) (Nat.le_refl _)
  subst hc
  simpa using this
/-- The append that makes a new row. -/
theorem append_grows (h : MRep base R m w) (hbase : base ≤ w.heap.size) {m0 : AM} (hm0 : m0 = m ∨ ∃ i, i ≠ n ∧ m0 = m.set i none) (hfree : m[n]? = some none) (hR : R n = none) {t tx ty e : TypeId} {size bytes : Nat} {z : Array Value}
    (hE : elemB P t = some (e, size, bytes, z)) (hs0 : size ≠ 0) {base' : Option Addr} {sl sc' xl : Nat} {olds olds' : List Value} (hold : RelL R olds olds') (holdl : olds.length = sl * size)
    (hrun : ∀ w2 : World, (∀ k : Nat, w2.heap[k]? = w.heap[k]?) → (Builtin.firstCells size sl (.slice base' sl sc')).run P w2 = .ok olds'.toArray w2) (holdone : ∀ v ∈ olds, v.oneCell' = true)
    {x' : Value} {news news' : List Value} (hs : Src P size tx x' xl news' w) (hnews : RelL R news news') (hnewsone : ∀ v ∈ news, v.oneCell' = true)
    (hgt : sc' < sl + xl) (hb1 : (sl + xl) * bytes ≤ 1099511627776) (hb2 : sl + xl ≤ 1099511627776) {s : Sem Next}
    (hsr : ∀ v w', (Builtin.append_ #[t, tx] ty #[.slice base' sl sc', x']).run P w = .ok v w' → s.run P w = .ok (.value v) w') :
    Does P base R m n w s (.slice (some ⟨n, 0, none⟩) (sl + xl) (sl + xl)) (m0.set n (some { cells := olds ++ news, kind := .grow, size := size })) := by
  obtain ⟨hu, i, zz, h1, h2, h3, h4, h5, h6, h7⟩ := elemB_spec hE
  subst h2
  have hcap := Go.Room.nextslicecap_le' (need := sl + xl) (old := sc') hgt
  have hfit : Builtin.nextslicecap (sl + xl) sc' * i.bytes ≤ 281474976710656 := by
    rw [h3]
    have : Builtin.nextslicecap (sl + xl) sc' * bytes ≤ 2 * (sl + xl) * bytes := Nat.mul_le_mul_right _ hcap
    rw [Nat.mul_assoc] at this
    omega
  have hr := run_append_grow_src (P := P) (w := w) t tx ty e i zz hu h1 h4 base' sl sc' olds' (hrun w.drew fun _ => rfl) x' xl news' hs hgt (by omega) hfit
  have hge := grownCap_ge w (sl + xl) sc' e
  have hnl := hs.newsLen
  have ho1 := hold.1
  have hn1 := hnews.1
  refine ⟨_, _, _, .inl (hsr _ _ hr), slice_put (n := n) (x := grownCap w (sl + xl) sc' e - (sl + xl)) (by omega), grown_ok h hbase hm0 hfree hR _ rfl _ _ e ?_ ?_, fun j hj => Pl.put_other _ _ hj⟩
  · simp only [List.length_append, Array.size_append, List.size_toArray, size_zeroCells, h5, h6]
    omega
  · intro j v hj
    obtain ⟨v', q1, q2⟩ := (hold.app hnews).2 j v hj
    have hlt : j < (olds' ++ news').length := (List.getElem?_eq_some_iff.1 q1).1
    refine ⟨v', ?_, q2, ?_⟩
    · rw [Array.getElem?_append_left (by simpa using hlt)]
      simpa using q1
    · rw [q2.one]
      rcases List.mem_append.1 (List.mem_of_getElem? hj) with hm | hm
      · exact holdone v hm
      · exact hnewsone v hm
theorem drew_cells {R : Pl} (h : MRep base R m w) {x x' : Value} {size k : Nat} {l : List Value} (hx : Rel R x x') (hl : acells m size k x = some l) :
    ∃ l', RelL R l l' ∧ (Builtin.firstCells size k x').run P w = .ok l'.toArray w ∧ (Builtin.firstCells size k x').run P w.drew = .ok l'.toArray w.drew := by
  obtain ⟨l1, a1, a2⟩ := acells_ok (P := P) h hx hl
  obtain ⟨l2, b1, b2⟩ := acells_ok (P := P) (Post.drew h).rep hx hl
  have : l1 = l2 := by
    apply List.ext_getElem?
    intro j
    by_cases hj : j < l.length
    · obtain ⟨v1, c1, c2⟩ := a1.2 j l[j] (by simp [hj])
      obtain ⟨v2, d1, d2⟩ := b1.2 j l[j] (by simp [hj])
      rw [c1, d1, c2.fn _ d2]
    · have := a1.1; have := b1.1
      rw [List.getElem?_eq_none (by omega), List.getElem?_eq_none (by omega)]
  subst this
  exact ⟨l1, a1, a2, b2⟩
theorem acells_length {x : Value} {size k : Nat} {l : List Value} (hl : acells m size k x = some l) : l.length = k * size := by
  unfold acells at hl
  split at hl
  · split at hl
    · rename_i hk; subst hk; injection hl with hl; subst hl; simp
    · cases hl
  · split at hl
    · rename_i hk; subst hk; injection hl with hl; subst hl; simp
    · split at hl
      · split at hl
        · injection hl with hl; subst hl; simp; omega
        · cases hl
      · cases hl
  · cases hl
theorem aappend_ok (h : MRep base R m w) (hbase : base ≤ w.heap.size) (hfree : m[n]? = some none) (hR : R n = none) {t tx ty : TypeId} {d d' x x' v : Value} {m' : AM} (hd : Rel R d d') (hx : Rel R x x')
    (he : aappend P m n t tx d x = some (v, m')) {s : Sem Next} (hsr : ∀ v w', (Builtin.append_ #[t, tx] ty #[d', x']).run P w = .ok v w' → s.run P w = .ok (.value v) w') : Does P base R m n w s v m' := by
  unfold aappend at he
  split at he
  · rename_i e size bytes z e' xl hE htx hxl
    obtain ⟨hu, i0, zz, h1, h2, h3, h4, h5, h6, h7⟩ := elemB_spec hE
    split at he
    · rename_i news hnews
      split at he
      · cases he
      · rename_i hc0
        simp only [Bool.or_eq_true, Bool.not_eq_true', beq_iff_eq, not_or, Bool.not_eq_false] at hc0
        obtain ⟨hone0, hs0⟩ := hc0
        have hone : ∀ v ∈ news, v.oneCell' = true := by simpa using hone0
        obtain ⟨news', r1, r2, r3⟩ := drew_cells (P := P) h hx hnews
        have hlen := aSliceLen_ok (P := P) hx hxl
        have hnl := acells_length hnews
        have hsrc : Src P size tx x' xl news' w := ⟨.inl ⟨e', htx⟩, hlen, r2, r3, by rw [← r1.1]; exact hnl, r1.one hone⟩
        split at he
        · -- a nil slice
          have hd' : d' = .slice none 0 0 := by cases hd; rfl
          subst hd'
          split at he
          · rename_i hx0
            subst hx0
            simp only [Option.some.injEq, Prod.mk.injEq] at he
            obtain ⟨rfl, rfl⟩ := he
            refine does_same h (.inl (hsr (.slice none 0 0) w ?_)) .sliceNil
            have hn0 : news' = [] := List.eq_nil_of_length_eq_zero (by rw [← r1.1, hnl]; simp)
            subst hn0
            subst h2
            simp [Builtin.append_, run_underlying hu, run_underlying htx, sizeOf, typeInfo, h1, hlen, r2]
          · split at he
            · rename_i hx0 hb
              simp only [Option.some.injEq, Prod.mk.injEq] at he
              obtain ⟨rfl, rfl⟩ := he
              have := append_grows (base' := none) (sl := 0) (sc' := 0) (olds := []) (olds' := []) h hbase (.inl rfl) hfree hR hE hs0 .nil (by simp) (fun w2 _ => by simp [Builtin.firstCells]) (by simp) hsrc r1 hone (by omega) (by simpa using hb.1) (by simpa using hb.2) hsr
              simpa using this
            · cases he
        · rename_i i o sl sc
          cases hd with
          | slice _ _ _ _ p hp hle =>
          split at he
          · rename_i hx0
            subst hx0
            simp only [Option.some.injEq, Prod.mk.injEq] at he
            obtain ⟨rfl, rfl⟩ := he
            refine does_same h (.inl (hsr _ w ?_)) (.slice i o sl sc p hp hle)
            have hn0 : news' = [] := List.eq_nil_of_length_eq_zero (by rw [← r1.1, hnl]; simp)
            subst hn0
            subst h2
            have hroom : sl ≤ sc + p.extra := by omega
            simp [Builtin.append_, run_underlying hu, run_underlying htx, sizeOf, typeInfo, h1, hlen, r2, hroom, storeCells]
          · rename_i hx0
            split at he
            · rename_i b hb
              have hrep := h.of hb hp
              split at he
              · rename_i hroom
                split at he
                · rename_i hcond
                  simp only [Option.some.injEq, Prod.mk.injEq] at he
                  obtain ⟨rfl, rfl⟩ := he
                  simp only [Bool.and_eq_true, decide_eq_true_eq] at hcond
                  obtain ⟨w', q1, q2⟩ := write_ok (P := P) h hb hcond.1 hp r1 hone hcond.2
                  refine ⟨R, _, w', .inl (hsr (.slice (some ⟨p.block, p.off + o, none⟩) (sl + xl) (sc + p.extra)) w' ?_), .slice i o (sl + xl) sc p hp hroom, q2, fun _ _ => rfl⟩
                  subst h2
                  have hroom' : sl + xl ≤ sc + p.extra := by omega
                  rw [← Nat.add_assoc] at q1
                  simp [Builtin.append_, run_underlying hu, run_underlying htx, sizeOf, typeInfo, h1, hlen, r2, hroom', Addr.add_lit, q1]
                · cases he
              · rename_i hroom
                split at he
                · rename_i hcond
                  obtain ⟨c1, c2, c3⟩ := hcond
                  split at he
                  · -- a row that may have room
                    rename_i hkind
                    split at he
                    · rename_i hend
                      obtain ⟨e1, e2⟩ := hend
                      simp only [Option.some.injEq, Prod.mk.injEq] at he
                      obtain ⟨rfl, rfl⟩ := he
                      have hsl : sl * size ≤ sc * size := Nat.mul_le_mul_right _ c3
                      obtain ⟨olds', o1, o2⟩ := hrep.cells o (sl * size) (by omega)
                      have hni : i ≠ n := fun e => by rw [e, hfree] at hb; cases hb
                      have hol : ((b.cells.drop o).take (sl * size)).length = sl * size := by simp; omega
                      have hrep0 := hrep
                      unfold BRep at hrep
                      rw [hkind] at hrep
                      obtain ⟨z0, cur, cty, z1, z2, z3, _, z5⟩ := hrep
                      have holdone : ∀ v ∈ (b.cells.drop o).take (sl * size), v.oneCell' = true := by
                        intro v hv
                        have hv2 := List.mem_of_mem_drop (List.mem_of_mem_take hv)
                        obtain ⟨j, hj⟩ := List.mem_iff_getElem?.1 hv2
                        obtain ⟨v', y1, y2, y3⟩ := z5 j v hj
                        rw [← y2.one]; exact y3
                      by_cases hcr : sl + xl ≤ sc + p.extra
                      · -- there is room behind it
                        have hxs : sl * size + xl * size ≤ sc * size + p.extra * size := by
                          rw [← Nat.add_mul, ← Nat.add_mul]; exact Nat.mul_le_mul_right _ hcr
                        have hn1 := r1.1
                        have hst := run_storeCells_at P p.block (p.off + o + sl * size) cty news' 0 cur w z1 (by rw [e2] at z3; omega) (r1.one hone)
                        simp only [Nat.add_zero] at hst
                        have hrun : (Builtin.append_ #[t, tx] ty #[.slice (some ⟨p.block, p.off + o, none⟩) sl (sc + p.extra), x']).run P w = .ok (.slice (some ⟨p.block, p.off + o, none⟩) (sl + xl) (sc + p.extra))
                            (w.setRow p.block (cur.toList.take (p.off + o + sl * size) ++ news' ++ cur.toList.drop (p.off + o + sl * size + news'.length)).toArray) := by
                          subst h2
                          simp [Builtin.append_, run_underlying hu, run_underlying htx, sizeOf, typeInfo, h1, hlen, r2, hcr, Addr.add_lit, hst]
                        have hcells : ∀ (j : Nat) (v : Value), ((b.cells.drop o).take (sl * size) ++ news)[j]? = some v → ∃ v', (cur.toList.take (p.off + o + sl * size) ++ news' ++ cur.toList.drop (p.off + o + sl * size + news'.length)).toArray[p.off + o + j]? = some v' ∧ Rel R v v' ∧ v'.oneCell' = true := by
                          intro j v hj
                          simp only [List.getElem?_toArray]
                          have hg := splice_get (l := cur.toList) (o := p.off + o + sl * size) (xs := news') (by simp; rw [e2] at z3; omega) (p.off + o + j)
                          unfold splice at hg
                          rw [hg]
                          by_cases hj1 : j < sl * size
                          · rw [List.getElem?_append_left (by omega), List.getElem?_take, if_pos hj1, List.getElem?_drop] at hj
                            rw [if_pos (by omega)]
                            obtain ⟨v', y1, y2, y3⟩ := z5 _ v hj
                            exact ⟨v', by simpa [Nat.add_assoc] using y1, y2, y3⟩
                          · rw [List.getElem?_append_right (by omega), hol] at hj
                            have hjl := (List.getElem?_eq_some_iff.1 hj).1
                            rw [if_neg (by omega), if_pos (by omega)]
                            obtain ⟨v', y1, y2⟩ := r1.2 _ v hj
                            refine ⟨v', by rw [← y1]; congr 1; omega, y2, ?_⟩
                            rw [y2.one]; exact hone v (List.mem_of_getElem? hj)
                        have hmv := h.move (n := n) (w' := w.setRow p.block (cur.toList.take (p.off + o + sl * size) ++ news' ++ cur.toList.drop (p.off + o + sl * size + news'.length)).toArray) hb (by rw [hkind]; rfl) hp hfree hR { cells := (b.cells.drop o).take (sl * size) ++ news, kind := .grow, size := size } ⟨p.block, p.off + o, sc + p.extra - (sl + xl)⟩
                          (by
                            refine ⟨by simpa [World.setRow] using z0, _, cty, setRow_heap w p.block cur _ cty (0, 0) z1, z2, ?_, (fun e => nomatch e), hcells⟩
                            have hx2 : (sc + p.extra - (sl + xl)) * size = sc * size + p.extra * size - (sl * size + xl * size) := by rw [Nat.sub_mul, Nat.add_mul, Nat.add_mul]
                            simp only [List.length_append, hol, List.size_toArray, List.length_take, List.length_drop, Array.length_toList, hx2]
                            rw [e2] at z3
                            omega)
                          rfl (by simp) (fun k hne => by simp only [World.setRow, Array.getElem?_modify]; rw [if_neg (by omega)]) (by simp [World.setRow])
                        refine ⟨_, _, _, .inl (hsr _ _ hrun), ?_, ⟨hmv.1, hmv.2, rfl, rfl, rfl, by simp [World.setRow], fun k hk ho => ?_, fun k ho => ?_⟩, fun j hj => Pl.put_other _ _ hj⟩
                        · have := Rel.slice (R := R.put n ⟨p.block, p.off + o, sc + p.extra - (sl + xl)⟩) n 0 (sl + xl) (sl + xl) ⟨p.block, p.off + o, sc + p.extra - (sl + xl)⟩ (Pl.put_same _ _ _) (Nat.le_refl _)
                          rw [show sl + xl + (sc + p.extra - (sl + xl)) = sc + p.extra by omega] at this
                          simpa using this
                        · simp only [World.setRow, Array.getElem?_modify]
                          rw [if_neg (fun e => ho ⟨i, b, p, hb, by rw [hkind]; rfl, hp, e⟩)]
                        · rcases ho.of_put with e | e
                          · exact .inr ⟨i, b, p, hb, by rw [hkind]; rfl, hp, e.symm⟩
                          · exact .inr e.drop
                      · refine append_grows h hbase (.inr ⟨i, hni, rfl⟩) hfree hR hE hs0 o1 hol (fun w2 hw2 => ?_) holdone hsrc r1 hone (by omega) c1 c2 hsr
                        have hl' : olds'.length = sl * size := by rw [← o1.1]; exact hol
                        have h3 := run_loadCells_list (P := P) w2 _ olds' (fun j v hj => (World.cell?_of_block (w := w) (by rw [Addr.add_lit]; exact hw2 _)).trans (o2 j v hj))
                        rw [hl'] at h3
                        simpa [Builtin.firstCells] using h3
                    · cases he
                  · rename_i hkind
                    split at he
                    · rename_i hend
                      simp only [Option.some.injEq, Prod.mk.injEq] at he
                      obtain ⟨rfl, rfl⟩ := he
                      obtain ⟨olds', o1, o2⟩ := hrep.cells o (sl * size) (by omega)
                      have hol : ((b.cells.drop o).take (sl * size)).length = sl * size := by simp; omega
                      unfold BRep at hrep
                      rw [hkind] at hrep
                      obtain ⟨z0, cur, cty, z1, z2, z3, z4, z5⟩ := hrep
                      have hx0' := z4 rfl
                      have holdone : ∀ v ∈ (b.cells.drop o).take (sl * size), v.oneCell' = true := by
                        intro v hv
                        have hv2 := List.mem_of_mem_drop (List.mem_of_mem_take hv)
                        obtain ⟨j, hj⟩ := List.mem_iff_getElem?.1 hv2
                        obtain ⟨v', y1, y2, y3⟩ := z5 j v hj
                        rw [← y2.one]; exact y3
                      refine append_grows h hbase (.inl rfl) hfree hR hE hs0 o1 hol (fun w2 hw2 => ?_) holdone hsrc r1 hone (by omega) c1 c2 hsr
                      have hl' : olds'.length = sl * size := by rw [← o1.1]; exact hol
                      have h3 := run_loadCells_list (P := P) w2 _ olds' (fun j v hj => (World.cell?_of_block (w := w) (by rw [Addr.add_lit]; exact hw2 _)).trans (o2 j v hj))
                      rw [hl'] at h3
                      simpa [Builtin.firstCells] using h3
                    · cases he
                  · rename_i hkind
                    split at he
                    · rename_i hsl0
                      subst hsl0
                      simp only [Option.some.injEq, Prod.mk.injEq] at he
                      obtain ⟨rfl, rfl⟩ := he
                      unfold BRep at hrep
                      rw [hkind] at hrep
                      obtain ⟨z0, z1, z2⟩ := hrep
                      have := append_grows (sl := 0) (olds := []) (olds' := []) h hbase (.inl rfl) hfree hR hE hs0 .nil (by simp) (fun w2 _ => run_firstCells_zero _ _ _ _ _) (by simp) hsrc r1 hone (by omega) c1 c2 hsr
                      simpa using this
                    · cases he
                  · cases he
                · cases he
            · cases he
        · cases he
    · cases he
  · cases he
end
end Go.Proofs.Ytmomjannlnafcaa.Sim
