import Derived.Test.YtmomjannlnafcaaSim5
namespace Go.Proofs.Ytmomjannlnafcaa.Sim
set_option linter.unusedSimpArgs false
set_option linter.unusedVariables false
open Go.RowKit
section
variable {P : Program} {base : Nat} {R : Pl} {m : AM} {w : World} {n : Nat}
/-! #### slicing -/
def bnd (d : Nat) : Option Value → Option Nat
  | none => some d
  | some (.int _ k) => if 0 ≤ k then some k.toNat else none
  | _ => none
theorem bnd_some (d d' : Nat) (v : Value) : bnd d (some v) = bnd d' (some v) := by cases v <;> rfl
theorem run_bound {v : Value} {d y k : Nat} {code : BoundsCode} (h : bnd d (some v) = some k) (hk : k ≤ y) (w : World) : (Instr.sliceBound v y code).run P w = .ok k w := by
  unfold bnd at h
  split at h
  · cases ‹some v = none›
  · rename_i kk q e
    injection e with e; subst e
    split at h
    · rename_i h0
      injection h with h; subst h
      have : q ≤ y := by omega
      simp [Instr.sliceBound, asIntOf, h0, this]
    · cases h
  · cases h
theorem run_bounds {isS : Bool} {len cap l h : Nat} {lo hi : Option Value} (hl : bnd 0 lo = some l) (hh : bnd len hi = some h) (h1 : l ≤ h) (h2 : h ≤ cap) (w : World) : (Instr.sliceBounds isS len cap lo hi none).run P w = .ok (l, h, cap) w := by
  cases hi with
  | none =>
    simp [bnd] at hh; subst hh
    cases lo with
    | none => simp [bnd] at hl; subst hl; simp [Instr.sliceBounds]
    | some lv => simp [Instr.sliceBounds, run_bound (P := P) hl h1]
  | some hv =>
    cases lo with
    | none => simp [bnd] at hl; subst hl; simp [Instr.sliceBounds, run_bound (P := P) hh h2]
    | some lv => simp [Instr.sliceBounds, run_bound (P := P) hh h2, run_bound (P := P) hl h1]
theorem run_bounds3 {isS : Bool} {len cap l h k : Nat} {lo : Option Value} {hv mv : Value} (hl : bnd 0 lo = some l) (hh : bnd 0 (some hv) = some h) (hm : bnd 0 (some mv) = some k) (h1 : l ≤ h) (h2 : h ≤ k) (h3 : k ≤ cap) (w : World) :
    (Instr.sliceBounds isS len cap lo (some hv) (some mv)).run P w = .ok (l, h, k) w := by
  cases lo with
  | none => simp [bnd] at hl; subst hl; simp [Instr.sliceBounds, run_bound (P := P) hh h2, run_bound (P := P) hm h3]
  | some lv => simp [Instr.sliceBounds, run_bound (P := P) hh h2, run_bound (P := P) hm h3, run_bound (P := P) hl h1]
/-- Operands of a slicing: numbers. -/
theorem bnd_rel {d k : Nat} {v v' : Option Value} (hv : ∀ x, v = some x → ∃ y, v' = some y ∧ Rel R x y) (hn : v = none → v' = none) (h : bnd d v = some k) : v' = v := by
  cases v with
  | none => exact hn rfl
  | some x =>
    obtain ⟨y, e, hr⟩ := hv x rfl
    unfold bnd at h
    split at h
    · rename_i e0; cases e0
    · rename_i kk q e0
      injection e0 with e0; subst e0
      cases hr
      exact e
    · cases h
def aslice (P : Program) (m : AM) (n : Nat) (t : TypeId) (x : Value) (lo hi mx : Option Value) : Option (Value × AM) :=
  match P.underlying t, x with
  | some (.array len e), .pointer (some ⟨i, o, none⟩) =>
    match mx, szB P e, bnd 0 lo, bnd len hi, m[i]? with
    | none, some size, some l, some h, some (some b) =>
      if l ≤ h ∧ h ≤ len ∧ (b.kind = .own ∨ b.kind = .ro ∧ b.size = 0) then some (.slice (some ⟨i, if len = l then o else o + l * size, none⟩) (h - l) (len - l), m) else none
    | _, _, _, _, _ => none
  | some (.slice e), .slice none 0 0 =>
    match szB P e, mx, bnd 0 lo, bnd 0 hi with
    | some _, none, some 0, some 0 => some (.slice none 0 0, m)
    | some _, some v, some 0, some 0 => if bnd 0 (some v) = some 0 ∧ hi.isSome then some (.slice none 0 0, m) else none
    | _, _, _, _ => none
  | some (.slice e), .slice (some ⟨i, o, none⟩) sl sc =>
    match szB P e, bnd 0 lo, bnd sl hi, m[i]? with
    | some size, some l, some h, some (some b) =>
      match mx with
      | none =>
        if l ≤ h ∧ h ≤ sc then
          if l < sc then some (.slice (some ⟨i, o + l * size, none⟩) (h - l) (sc - l), m)
          else match b.kind with
            | .own => some (.slice (some ⟨i, o, none⟩) 0 0, m)
            | .grow => if o + sc * size = b.cells.length ∧ b.size = size then some (.slice (some ⟨n, 0, none⟩) 0 0, (m.set i none).set n (some { cells := [], kind := .grow, size := size })) else none
            | .ro => if b.size = 0 then some (.slice (some ⟨i, o, none⟩) 0 0, m) else some (.slice (some ⟨n, 0, none⟩) 0 0, m.set n (some { cells := [], kind := .ro }))
            | .edge => none
        else none
      | some v => if hi.isSome ∧ bnd 0 (some v) = some l ∧ h = l ∧ l = 0 then some (.slice (some ⟨n, 0, none⟩) 0 0, m.set n (some { cells := [], kind := .edge })) else none
    | _, _, _, _ => none
  | _, _ => none
/-- An empty view of a block: it owns nothing. -/
theorem view_ok (h : MRep base R m w) (hfree : m[n]? = some none) (hR : R n = none) (c : Blk) (q : Place) (hq : q.block < w.heap.size) (hc : c.cells = [] ∧ (c.kind = .ro ∧ c.size = 1 ∨ c.kind = .edge ∧ q.extra = 0))
    (hap : c.kind = .ro → ∀ (i : Nat) (b : Blk) (p : Place), m[i]? = some (some b) → b.kind.solid = true → R i = some p → p.block ≠ q.block) :
    Post base m (m.set n (some c)) R (R.put n q) w w := by
  have hle := Pl.le_put R n q hR
  have hn : n < m.length := (List.getElem?_eq_some_iff.1 hfree).1
  have old : ∀ (i : Nat) (b : Blk), (m.set n (some c))[i]? = some (some b) → i ≠ n → m[i]? = some (some b) := by
    intro i b hi hne
    rwa [List.getElem?_set_ne (fun e => hne e.symm)] at hi
  have hnew : ∀ (b : Blk), (m.set n (some c))[n]? = some (some b) → b = c := by
    intro b hi
    rw [List.getElem?_set_self hn] at hi
    injection hi with hi; injection hi with hi; exact hi.symm
  have hcs : c.kind.solid = false := by rcases hc.2 with ⟨e, _⟩ | ⟨e, _⟩ <;> rw [e] <;> rfl
  refine ⟨hle, ⟨fun j hj => ?_, fun j d hj => ?_, fun j k d e r r' hj hk' hdo heo hjk hr hr' => ?_⟩, rfl, rfl, rfl, Nat.le_refl _, fun _ _ _ => rfl, fun k ho => .inr ?_⟩
  · simp at hj
    rw [Pl.put_other _ _ (by omega)]; exact h.none_ j hj
  · by_cases hne : j = n
    · subst hne
      have := hnew d hj
      subst this
      refine ⟨q, Pl.put_same _ _ _, hq, ?_⟩
      rcases hc.2 with ⟨e, e3⟩ | ⟨e, e2⟩
      · rw [e]; exact ⟨fun x => by omega, fun j v hj => by rw [hc.1] at hj; simp at hj⟩
      · rw [e]; exact ⟨hc.1, e2⟩
    · obtain ⟨r, h1, h2⟩ := h.rep j d (old j d hj hne)
      exact ⟨r, hle _ _ h1, h2.mono hle⟩
  · by_cases h1 : j = n
    · subst h1
      have := hnew d hj
      subst this
      rw [hcs] at hdo; cases hdo
    · rw [Pl.put_other _ _ h1] at hr
      by_cases h2 : k = n
      · subst h2
        have := hnew e hk'
        subst this
        rw [Pl.put_same] at hr'
        injection hr' with hr'
        subst hr'
        rcases hc.2 with ⟨e1, _⟩ | ⟨e1, _⟩
        · exact hap e1 j d r (old j d hj h1) hdo hr
        · exact absurd e1 heo
      · rw [Pl.put_other _ _ h2] at hr'
        exact h.apart j k d e r r' (old j d hj h1) (old k e hk' h2) hdo heo hjk hr hr'
  · obtain ⟨j, b, p, h1, h2, h3, h4⟩ := ho
    by_cases e : j = n
    · subst e
      have := hnew b h1
      subst this
      rw [hcs] at h2; cases h2
    · rw [Pl.put_other _ _ e] at h3
      exact ⟨j, b, p, old j b h1 e, h2, h3, h4⟩
theorem aslice_ok (h : MRep base R m w) (hfree : m[n]? = some none) (hR : R n = none) {t : TypeId} {x x' v : Value} {lo hi mx lo' hi' mx' : Option Value} {m' : AM} (hx : Rel R x x')
    (hlo : ∀ k d, bnd d lo = some k → lo' = lo) (hhi : ∀ k d, bnd d hi = some k → hi' = hi) (hmx : (mx = none → mx' = none) ∧ ∀ k d, bnd d mx = some k → mx' = mx)
    (he : aslice P m n t x lo hi mx = some (v, m')) {s : Sem Next} (hsr : ∀ v, (Instr.sliceAt t x' lo' hi' mx').run P w = .ok v w → s.run P w = .ok (.value v) w) : Does P base R m n w s v m' := by
  unfold aslice at he
  split at he
  · rename_i len e i o hu
    cases hx with
    | ptr _ _ p hp =>
    split at he
    · rename_i size l hh b hsz hl hhb hb
      obtain rfl := hlo _ _ hl
      obtain rfl := hhi _ _ hhb
      obtain rfl := hmx.1 rfl
      split at he
      · rename_i hc
        obtain ⟨c1, c2, c3⟩ := hc
        simp only [Option.some.injEq, Prod.mk.injEq] at he
        obtain ⟨rfl, rfl⟩ := he
        have hx0 : p.extra = 0 := by
          have hrep := h.of hb hp
          obtain ⟨_, hrep⟩ := hrep
          rcases c3 with c3 | ⟨c3, c4⟩
          · rw [c3] at hrep; obtain ⟨_, _, _, _, _, k4, _⟩ := hrep; exact k4 rfl
          · rw [c3] at hrep; exact hrep.1 c4
        refine does_same h (.inl (hsr (.slice (some (if len = l then ⟨p.block, p.off + o, none⟩ else (⟨p.block, p.off + o, none⟩ : Addr).add (l * size))) (hh - l) (len - l)) ?_)) ?_
        · simp [Instr.sliceAt, run_underlying hu, Instr.sureAddr, run_bounds (P := P) hl hhb c1 c2, run_sizeOf' hsz]
        · have := Rel.slice (R := R) i (if len = l then o else o + l * size) (hh - l) (len - l) p hp (by omega)
          rw [hx0] at this
          by_cases hll : len = l
          · simpa [hll] using this
          · simpa [hll, Addr.add_lit, Nat.add_assoc] using this
      · cases he
    · cases he
  · rename_i e hu
    have hx' : x' = .slice none 0 0 := by cases hx; rfl
    subst hx'
    split at he
    · rename_i q hq hl hhb
      obtain rfl := hlo _ _ hl
      obtain rfl := hhi _ _ hhb
      obtain rfl := hmx.1 rfl
      simp only [Option.some.injEq, Prod.mk.injEq] at he
      obtain ⟨rfl, rfl⟩ := he
      refine does_same h (.inl (hsr (.slice none 0 0) ?_)) .sliceNil
      simp [Instr.sliceAt, Instr.slice, run_underlying hu, run_bounds (P := P) hl hhb (Nat.le_refl _) (Nat.le_refl _), run_sizeOf' hq]
    · rename_i q vv hq hl hhb
      split at he
      · rename_i hc
        obtain ⟨c1, c2⟩ := hc
        obtain rfl := hlo _ _ hl
        obtain rfl := hhi _ _ hhb
        obtain rfl := hmx.2 _ _ c1
        simp only [Option.some.injEq, Prod.mk.injEq] at he
        obtain ⟨rfl, rfl⟩ := he
        refine does_same h (.inl (hsr (.slice none 0 0) ?_)) .sliceNil
        obtain ⟨hv, rfl⟩ := Option.isSome_iff_exists.1 c2
        simp [Instr.sliceAt, Instr.slice, run_underlying hu, run_bounds3 (P := P) hl hhb c1 (Nat.le_refl _) (Nat.le_refl _) (Nat.le_refl _), run_sizeOf' hq]
      · cases he
    · cases he
  · rename_i e i o sl sc hu
    cases hx with
    | slice _ _ _ _ p hp hle =>
    split at he
    · rename_i size l hh b hsz hl hhb hb
      have hrep := h.of hb hp
      obtain rfl := hlo _ _ hl
      obtain rfl := hhi _ _ hhb
      split at he
      · obtain rfl := hmx.1 rfl
        split at he
        · rename_i hc
          obtain ⟨c1, c2⟩ := hc
          have hrun : ∀ k, (k = if sc + p.extra = l then (⟨p.block, p.off + o, none⟩ : Addr) else (⟨p.block, p.off + o, none⟩ : Addr).add (l * size)) → (Instr.sliceAt t (.slice (some ⟨p.block, p.off + o, none⟩) sl (sc + p.extra)) lo' hi' none).run P w = .ok (.slice (some k) (hh - l) (sc + p.extra - l)) w := by
            intro k hk
            subst hk
            simp [Instr.sliceAt, Instr.slice, run_underlying hu, run_bounds (P := P) hl hhb c1 (show hh ≤ sc + p.extra by omega), run_sizeOf' hsz]
            split <;> simp
          split at he
          · rename_i hlt
            simp only [Option.some.injEq, Prod.mk.injEq] at he
            obtain ⟨rfl, rfl⟩ := he
            refine does_same h (.inl (hsr _ (hrun _ rfl))) ?_
            rw [if_neg (by omega), Addr.add_lit]
            have := Rel.slice (R := R) i (o + l * size) (hh - l) (sc - l) p hp (by omega)
            rw [show sc - l + p.extra = sc + p.extra - l by omega] at this
            simpa [Nat.add_assoc] using this
          · rename_i hlt
            have hhl : hh - l = 0 := by omega
            have hll : l = sc := by omega
            split at he
            · rename_i hkind
              simp only [Option.some.injEq, Prod.mk.injEq] at he
              obtain ⟨rfl, rfl⟩ := he
              have hx0 : p.extra = 0 := by
                obtain ⟨_, hrep⟩ := hrep
                rw [hkind] at hrep; obtain ⟨_, _, _, _, _, k4, _⟩ := hrep; exact k4 rfl
              have hr := hrun _ rfl
              rw [if_pos (by omega), hhl, show sc + p.extra - l = 0 by omega] at hr
              refine does_same h (.inl (hsr _ hr)) ?_
              have := Rel.slice (R := R) i o 0 0 p hp (Nat.le_refl _)
              rw [hx0] at this
              exact this
            · rename_i hkind
              split at he
              · rename_i hend
                obtain ⟨e1, e2⟩ := hend
                simp only [Option.some.injEq, Prod.mk.injEq] at he
                obtain ⟨rfl, rfl⟩ := he
                have hr := hrun _ rfl
                rw [hhl, show sc + p.extra - l = p.extra by omega] at hr
                obtain ⟨z0, hrep⟩ := hrep
                rw [hkind] at hrep
                obtain ⟨cur, cty, z1, z2, z3, z4, z5⟩ := hrep
                obtain ⟨q, hq, hqo⟩ : ∃ q : Place, (if sc + p.extra = l then (⟨p.block, p.off + o, none⟩ : Addr) else (⟨p.block, p.off + o, none⟩ : Addr).add (l * size)) = ⟨q.block, q.off, none⟩ ∧ q.block = p.block ∧ q.extra = p.extra ∧ q.off + q.extra * size ≤ cur.size := by
                  by_cases hx0 : sc + p.extra = l
                  · refine ⟨⟨p.block, p.off + o, p.extra⟩, by rw [if_pos hx0], rfl, rfl, ?_⟩
                    have : p.extra = 0 := by omega
                    simp only [this] at z3 ⊢
                    omega
                  · refine ⟨⟨p.block, p.off + o + l * size, p.extra⟩, by rw [if_neg hx0, Addr.add_lit], rfl, rfl, ?_⟩
                    rw [e2] at z3
                    simp only
                    rw [hll]
                    omega
                obtain ⟨q1, q2, q3⟩ := hqo
                have hmv := h.move (n := n) (w' := w) hb (by rw [hkind]; rfl) hp hfree hR { cells := [], kind := .grow, size := size } q
                  ⟨by rw [q1]; exact z0, cur, cty, by rw [q1]; exact z1, by rw [q1]; exact z2, by simpa using q3, (fun e => nomatch e), fun j v hj => by simp at hj⟩ q1 (by simp) (fun _ _ => rfl) rfl
                rw [hq] at hr
                refine ⟨_, _, w, .inl (hsr _ hr), ?_, ⟨hmv.1, hmv.2, rfl, rfl, rfl, Nat.le_refl _, fun _ _ _ => rfl, fun k ho => ?_⟩, fun j hj => Pl.put_other _ _ hj⟩
                · have := Rel.slice (R := R.put n q) n 0 0 0 q (Pl.put_same _ _ _) (Nat.le_refl _)
                  rw [q2] at this
                  simpa using this
                · rcases ho.of_put with e | e
                  · exact .inr ⟨i, b, p, hb, by rw [hkind]; rfl, hp, by rw [← q1]; exact e.symm⟩
                  · exact .inr e.drop
              · cases he
            · rename_i hkind
              split at he
              · rename_i hs0
                simp only [Option.some.injEq, Prod.mk.injEq] at he
                obtain ⟨rfl, rfl⟩ := he
                have hx0 : p.extra = 0 := by
                  obtain ⟨_, hrep⟩ := hrep
                  rw [hkind] at hrep; exact hrep.1 hs0
                have hr := hrun _ rfl
                rw [if_pos (by omega), hhl, show sc + p.extra - l = 0 by omega] at hr
                refine does_same h (.inl (hsr _ hr)) ?_
                have := Rel.slice (R := R) i o 0 0 p hp (Nat.le_refl _)
                rw [hx0] at this
                exact this
              · rename_i hs0
                simp only [Option.some.injEq, Prod.mk.injEq] at he
                obtain ⟨rfl, rfl⟩ := he
                have hr := hrun _ rfl
                rw [hhl, show sc + p.extra - l = p.extra by omega] at hr
                obtain ⟨q, hq, q1, q2⟩ : ∃ q : Place, (if sc + p.extra = l then (⟨p.block, p.off + o, none⟩ : Addr) else (⟨p.block, p.off + o, none⟩ : Addr).add (l * size)) = ⟨q.block, q.off, none⟩ ∧ q.block = p.block ∧ q.extra = p.extra := by
                  by_cases hx0 : sc + p.extra = l
                  · exact ⟨⟨p.block, p.off + o, p.extra⟩, by rw [if_pos hx0], rfl, rfl⟩
                  · exact ⟨⟨p.block, p.off + o + l * size, p.extra⟩, by rw [if_neg hx0, Addr.add_lit], rfl, rfl⟩
                rw [hq] at hr
                refine ⟨_, _, w, .inl (hsr _ hr), ?_, view_ok h hfree hR { cells := [], kind := .ro } q (by rw [q1]; exact hrep.lt) ⟨rfl, .inl ⟨rfl, rfl⟩⟩ (fun _ j d r hj hd hr => ?_), fun j hj => Pl.put_other _ _ hj⟩
                · have := Rel.slice (R := R.put n q) n 0 0 0 q (Pl.put_same _ _ _) (Nat.le_refl _)
                  rw [q2] at this
                  simpa using this
                · rw [q1]
                  refine h.apart j i d b r p hj hb hd (by rw [hkind]; simp) (fun e => ?_) hr hp
                  subst e
                  rw [hb] at hj; injection hj with hj; injection hj with hj; subst hj
                  rw [hkind] at hd; cases hd
            · cases he
        · cases he
      · rename_i vv
        split at he
        · rename_i hc
          obtain ⟨c1, c2, c3, c4⟩ := hc
          obtain rfl := hmx.2 _ _ c2
          simp only [Option.some.injEq, Prod.mk.injEq] at he
          obtain ⟨rfl, rfl⟩ := he
          obtain ⟨hv, rfl⟩ := Option.isSome_iff_exists.1 c1
          subst c4
          subst c3
          have hr : (Instr.sliceAt t (.slice (some ⟨p.block, p.off + o, none⟩) sl (sc + p.extra)) lo' (some hv) (some vv)).run P w = .ok (.slice (some ⟨p.block, p.off + o, none⟩) 0 0) w := by
            have hhb' : bnd 0 (some hv) = some 0 := by rw [bnd_some 0 sl]; exact hhb
            simp [Instr.sliceAt, Instr.slice, run_underlying hu, run_bounds3 (P := P) hl hhb' c2 (Nat.le_refl _) (Nat.le_refl _) (Nat.zero_le _), run_sizeOf' hsz]
          refine ⟨_, _, w, .inl (hsr _ hr), ?_, view_ok h hfree hR { cells := [], kind := .edge } ⟨p.block, p.off + o, 0⟩ hrep.lt ⟨rfl, .inr ⟨rfl, rfl⟩⟩ (fun e => nomatch e), fun j hj => Pl.put_other _ _ hj⟩
          have := Rel.slice (R := R.put n ⟨p.block, p.off + o, 0⟩) n 0 0 0 ⟨p.block, p.off + o, 0⟩ (Pl.put_same _ _ _) (Nat.le_refl _)
          simpa using this
        · cases he
    · cases he
  · cases he
end
end Go.Proofs.Ytmomjannlnafcaa.Sim
