/- Proved here: what the proof of PairSides rests on, part 5 of 5. Conditions: those that each theorem names. -/
import Derived.Test.YtajpngnphbdnnaaPairSidesK4
namespace Go.Proofs
set_option linter.unusedSimpArgs false
set_option linter.unusedVariables false
open Go.Shelf
def sortInt_ren : Go.Shelf.Ren := ⟨fun | 53 => 86 | 64 => 104 | 63 => 103 | 78 => 117 | 79 => 118 | 70 => 108 | 71 => 109 | 72 => 110 | 73 => 111 | 74 => 112 | 75 => 113 | 59 => 114 | 76 => 115 | 77 => 116 | 88 => 122 | 89 => 123 | 90 => 124 | 91 => 125 | 92 => 126 | 68 => 127 | 96 => 128 | n => n, fun | 22 => 27 | 23 => 3 | 3 => 3 | 51 => 52 | 0 => 0 | 67 => 143 | 69 => 145 | 4 => 4 | 61 => 136 | 60 => 135 | 44 => 140 | 5 => 5 | 9 => 9 | 75 => 148 | 79 => 53 | 83 => 153 | 84 => 154 | n => n, fun | n => n⟩
theorem sortInt : Go.Proofs.SlLaysN.n53 Try.prog sortInt_ren := {
  mixed := by kernel_rfl
  f53 := ⟨Try.f86.name, by decide, Try.func86.trans (congrArg some (by kernel_rfl))⟩
  f59 := ⟨Try.f114.name, by decide, Try.func114.trans (congrArg some (by kernel_rfl))⟩
  f63 := ⟨Try.f103.name, by decide, Try.func103.trans (congrArg some (by kernel_rfl))⟩
  f64 := Try.func104.trans (congrArg some (by kernel_rfl))
  f68 := ⟨Try.f127.name, by decide, Try.func127.trans (congrArg some (by kernel_rfl))⟩
  f70 := ⟨Try.f108.name, by decide, Try.func108.trans (congrArg some (by kernel_rfl))⟩
  f71 := ⟨Try.f109.name, by decide, Try.func109.trans (congrArg some (by kernel_rfl))⟩
  f72 := ⟨Try.f110.name, by decide, Try.func110.trans (congrArg some (by kernel_rfl))⟩
  f73 := ⟨Try.f111.name, by decide, Try.func111.trans (congrArg some (by kernel_rfl))⟩
  f74 := ⟨Try.f112.name, by decide, Try.func112.trans (congrArg some (by kernel_rfl))⟩
  f75 := ⟨Try.f113.name, by decide, Try.func113.trans (congrArg some (by kernel_rfl))⟩
  f76 := ⟨Try.f115.name, by decide, Try.func115.trans (congrArg some (by kernel_rfl))⟩
  f77 := ⟨Try.f116.name, by decide, Try.func116.trans (congrArg some (by kernel_rfl))⟩
  f78 := Try.func117.trans (congrArg some (by kernel_rfl))
  f79 := Try.func118.trans (congrArg some (by kernel_rfl))
  f88 := ⟨Try.f122.name, by decide, Try.func122.trans (congrArg some (by kernel_rfl))⟩
  f89 := Try.func123.trans (congrArg some (by kernel_rfl))
  f90 := Try.func124.trans (congrArg some (by kernel_rfl))
  f91 := ⟨Try.f125.name, by decide, Try.func125.trans (congrArg some (by kernel_rfl))⟩
  f92 := ⟨Try.f126.name, by decide, Try.func126.trans (congrArg some (by kernel_rfl))⟩
  f96 := ⟨Try.f128.name, by decide, Try.func128.trans (congrArg some (by kernel_rfl))⟩
  t0 := Try.underlying0
  a0 := Try.isAgg0
  z0 := Try.sizeOf0
  v0 := Try.zeroValue0
  t3 := Try.underlying3
  a3 := Try.isAgg3
  z3 := Try.sizeOf3
  v3 := Try.zeroValue3
  t4 := Try.underlying4
  a4 := Try.isAgg4
  z4 := Try.sizeOf4
  v4 := Try.zeroValue4
  t5 := Try.underlying5
  a5 := Try.isAgg5
  z5 := Try.sizeOf5
  v5 := Try.zeroValue5
  t9 := Try.underlying9
  a9 := Try.isAgg9
  z9 := Try.sizeOf9
  v9 := Try.zeroValue9
  t22 := Try.underlying27
  a22 := Try.isAgg27
  z22 := Try.sizeOf27
  v22 := Try.zeroValue27
  t23 := Try.underlying3
  a23 := Try.isAgg3
  z23 := Try.sizeOf3
  v23 := Try.zeroValue3
  t44 := Try.underlying140
  a44 := Try.isAgg140
  z44 := Try.sizeOf140
  v44 := Try.zeroValue140
  t51 := Try.underlying52
  a51 := Try.isAgg52
  z51 := Try.sizeOf52
  v51 := Try.zeroValue52
  t60 := Try.underlying135
  a60 := Try.isAgg135
  z60 := Try.sizeOf135
  v60 := Try.zeroValue135
  t61 := Try.underlying136
  a61 := Try.isAgg136
  z61 := Try.sizeOf136
  v61 := Try.zeroValue136
  t67 := Try.underlying143
  a67 := Try.isAgg143
  z67 := Try.sizeOf143
  v67 := Try.zeroValue143
  t69 := Try.underlying145
  a69 := Try.isAgg145
  z69 := Try.sizeOf145
  v69 := Try.zeroValue145
  t75 := Try.underlying148
  a75 := Try.isAgg148
  z75 := Try.sizeOf148
  v75 := Try.zeroValue148
  t79 := Try.underlying53
  a79 := Try.isAgg53
  z79 := Try.sizeOf53
  v79 := Try.zeroValue53
  t83 := Try.underlying153
  a83 := Try.isAgg153
  z83 := Try.sizeOf153
  v83 := Try.zeroValue153
  t84 := Try.underlying154
  a84 := Try.isAgg154
  z84 := Try.sizeOf154
  v84 := Try.zeroValue154 }
end Go.Proofs
namespace Go.Proofs.Ytajpngnphbdnnaa.Abs
set_option linter.unusedSimpArgs false
set_option linter.unusedVariables false
open Go.RowKit
open Go.Proofs.Ytajpngnphbdnnaa.Sim
open Go.Sort
variable {base : Nat} {R : Pl} {m : AM} {w : World}
theorem iv_l {l z : List Int} {j : Nat} (h : j < l.length) : (iv (l ++ z))[j]? = some (.int .i64 (l.getD j 0)) := by
  rw [iv_get (by simp; omega)]
  simp [List.getElem?_append_left h]
theorem iv_r {l k z : List Int} (hl : k.length = l.length) {j : Nat} (h : ¬ j < l.length) : (iv (l ++ z))[j]? = (iv (k ++ z))[j]? := by
  simp only [iv, List.map_append]
  rw [List.getElem?_append_right (by simp; omega), List.getElem?_append_right (by simp; omega)]
  simp [hl]
theorem rel_int_cellsZ {l z : List Int} {cur : Array Value} {off : Nat} (h : ∀ (j : Nat) (v : Value), (iv (l ++ z))[j]? = some v → ∃ v', cur[off + j]? = some v' ∧ Rel R v v' ∧ v'.oneCell' = true) (j : Nat) (hj : j < l.length) : cur[off + j]? = some (.int .i64 (l.getD j 0)) := by
  obtain ⟨v', h1, h2, _⟩ := h j _ (iv_l hj)
  rw [h1]
  cases h2; rfl
theorem sorted_postZ {i : Nat} {b : Blk} {p : Sim.Place} {l k z : List Int} {n : Nat} {os : Array Obj} (h : MRep base R m w) (hi : m[i]? = some (some b)) (hs : b.kind.solid = true) (hp : R i = some p) (hb : b.cells = iv (l ++ z)) (hl : k.length = l.length) :
    Post base m (m.set i (some { b with cells := iv (k ++ z) })) R R w (grow (putRow (Value.int .i64) (Sort.ahead w n) p.block p.off k.toArray) os) := by
  have hr := h.of hi hp
  unfold BRep at hr
  obtain ⟨hlt, hr⟩ := hr
  have key : ∃ cur ty, w.heap[p.block]? = some (.cells cur ty (0, 0)) ∧ base ≤ p.block ∧ p.off + b.cells.length + p.extra * b.size ≤ cur.size ∧ (b.kind = .own → p.extra = 0) ∧
      ∀ (j : Nat) (v : Value), b.cells[j]? = some v → ∃ v', cur[p.off + j]? = some v' ∧ Rel R v v' ∧ v'.oneCell' = true := by
    split at hr
    · rename_i e; rw [e] at hs; cases hs
    · rename_i e; rw [e] at hs; cases hs
    · exact hr
  obtain ⟨cur, ty, k1, k2, k3, k4, k5⟩ := key
  have hcl : b.cells.length = l.length + z.length := by rw [hb, iv_len]; simp
  let w1 := putRow (Value.int .i64) (Sort.ahead w n) p.block p.off k.toArray
  have hw1 : w1.heap[p.block]? = some (.cells (putCells (Value.int .i64) p.off k.toArray cur) ty (0, 0)) := by
    simp [w1, putRow, mapBlock, Sort.ahead, Array.getElem?_modify, k1, onCells]
  have hot : ∀ q, q ≠ p.block → w1.heap[q]? = w.heap[q]? := fun q hq => by
    simp only [w1, putRow, mapBlock, Sort.ahead, Array.getElem?_modify]
    rw [if_neg (Ne.symm hq)]
  have hsz : w1.heap.size = w.heap.size := by simp [w1, putRow, mapBlock, Sort.ahead]
  have hm1 : MRep base R (m.set i (some { b with cells := iv (k ++ z) })) w1 := by
    refine h.turn hi hs hp _ hs ?_ hot hsz
    unfold BRep
    refine ⟨by rw [hsz]; exact hlt, ?_⟩
    split
    · rename_i e; rw [e] at hs; cases hs
    · rename_i e; rw [e] at hs; cases hs
    · refine ⟨_, ty, hw1, k2, ?_, fun e => k4 e, fun j v hj => ?_⟩
      · simp only [putCells, Array.size_mapIdx, iv_len, List.length_append]
        rw [hl, ← hcl]; exact k3
      · simp only at hj
        have hjl : j < k.length + z.length := by
          have := (List.getElem?_eq_some_iff.1 hj).1
          simpa [iv_len] using this
        have hcs : p.off + j < cur.size := by omega
        by_cases hjk : j < k.length
        · rw [iv_l hjk] at hj
          injection hj with hj; subst hj
          refine ⟨.int .i64 (k.getD j 0), ?_, .int _ _, rfl⟩
          simp only [putCells, Array.getElem?_mapIdx, Array.getElem?_eq_getElem hcs, Option.map_some, Option.some.injEq]
          rw [if_pos ⟨by omega, by simpa using hjk⟩, Nat.add_sub_cancel_left]
          simp [hjk]
        · rw [iv_r (k := l) hl.symm hjk, ← hb] at hj
          obtain ⟨v', e1, e2, e3⟩ := k5 j v hj
          refine ⟨v', ?_, e2, e3⟩
          rw [Array.getElem?_eq_getElem hcs] at e1
          simp only [putCells, Array.getElem?_mapIdx, Array.getElem?_eq_getElem hcs, Option.map_some, Option.some.injEq]
          rw [if_neg (fun hh => hjk (by have := hh.2; simp only [List.size_toArray] at this; omega))]
          simpa using e1
  refine ⟨.refl R, hm1.kept (fun q hq => ?_), rfl, rfl, rfl, by rw [size_grow]; show w.heap.size ≤ w1.heap.size + _; omega, fun q hq ho => ?_, fun q ho => .inr ?_⟩
  · simp only [grow]
    rw [Array.getElem?_append_left hq]
  · show (grow w1 os).heap[q]? = _
    simp only [grow]
    rw [Array.getElem?_append_left (by omega), hot q (fun e => ho ⟨i, b, p, hi, hs, hp, e.symm⟩)]
  · obtain ⟨j, c, q', q1, q2, q3, q4⟩ := ho
    by_cases e : j = i
    · subst e; exact ⟨j, b, q', hi, hs, q3, q4⟩
    · rw [List.getElem?_set_ne (fun x => e x.symm)] at q1
      exact ⟨j, c, q', q1, q2, q3, q4⟩
theorem holds_ofZ {i : Nat} {b : Blk} {p : Sim.Place} {l z : List Int} (h : MRep base R m w) (hi : m[i]? = some (some b)) (hs : b.kind.solid = true) (hp : R i = some p) (hb : b.cells = iv (l ++ z)) : Holds (Value.int .i64) w p.block p.off l.toArray ∧ p.block < w.heap.size := by
  have hr := h.of hi hp
  unfold BRep at hr
  obtain ⟨hlt, hr⟩ := hr
  refine ⟨fun j hj => ?_, hlt⟩
  have key : ∃ cur ty, w.heap[p.block]? = some (.cells cur ty (0, 0)) ∧
      ∀ (j : Nat) (v : Value), b.cells[j]? = some v → ∃ v', cur[p.off + j]? = some v' ∧ Rel R v v' ∧ v'.oneCell' = true := by
    split at hr
    · rename_i e; rw [e] at hs; cases hs
    · rename_i e; rw [e] at hs; cases hs
    · obtain ⟨cur, ty, a1, _, _, _, a5⟩ := hr; exact ⟨cur, ty, a1, a5⟩
  obtain ⟨cur, ty, k1, k5⟩ := key
  have hj' : j < l.length := by simpa using hj
  refine ⟨?_, ?_⟩
  · simp only [World.cell?, k1]
    rw [rel_int_cellsZ (by rw [hb] at k5; exact k5) j hj']
    simp [hj']
  · simp [World.frozen?, k1]
theorem sort_callZ {P : Program} {f : FuncId} {i n c : Nat} {b : Blk} {l k z : List Int} (hi : m[i]? = some (some b)) (hs : b.kind.solid = true) (hb : b.cells = iv (l ++ z)) (hn : n = l.length) (hl : k.length = l.length)
    (h : ∀ (blk off cap : Nat) (w : World), Holds (Value.int .i64) w blk off l.toArray → blk < w.heap.size → Calls P f #[.slice (some ⟨blk, off, none⟩) l.length cap] w fun e w' => e = .returned (.tuple #[]) ∧ ∃ n os, w' = grow (putRow (Value.int .i64) (Sort.ahead w n) blk off k.toArray) os) :
    ACall P f #[.slice (some ⟨i, 0, none⟩) n c] m (fun v m' => v = .tuple #[] ∧ m' = m.set i (some { b with cells := iv (k ++ z) })) := by
  subst hn
  intro base R w args' hbase hm hargs
  have h1 := hargs.1
  have h2 := hargs.2 0 (by simp)
  obtain ⟨x, rfl⟩ : ∃ x, args' = #[x] := ⟨args'[0]'(by simp at h1; omega), by
    apply Array.ext
    · simp at h1; simp; omega
    · intro j a b; have : j = 0 := by simp at b; omega
      subst this; rfl⟩
  simp at h2
  cases h2 with
  | slice _ _ _ _ p hp hle =>
    obtain ⟨hH, hlt⟩ := holds_ofZ hm hi hs hp hb
    refine (h p.block (p.off + 0) (c + p.extra) w hH hlt).mono ?_
    rintro e w' ⟨rfl, n, os, rfl⟩
    exact ⟨.tuple #[], .tuple #[], R, _, rfl, .tuple _ _ rfl (fun i hi => absurd hi (by simp)), sorted_postZ hm hi hs hp hb hl, rfl, rfl⟩
end Go.Proofs.Ytajpngnphbdnnaa.Abs
namespace Go.Proofs.Ytajpngnphbdnnaa.Abs
set_option linter.unusedSimpArgs false
set_option linter.unusedVariables false
open Go.RowKit
open Go.Proofs.Ytajpngnphbdnnaa.Sim
open Go.Proofs
open Hung
theorem sort_nil' {m : AM} : ACall Try.prog 86 #[.slice none 0 0] m (fun v m' => v = .tuple #[] ∧ m' = m) :=
  ACall.of_calls (by kernel_rfl) (by kernel_rfl) fun w => closed_call fit (n := 300) (by kernel_rfl) (by kernel_rfl) (by kernel_rfl) w
theorem sort_nil {m : AM} : ACall Try.prog 86 #[.slice none 0 0] m (Ret (.tuple #[]) m) := sort_nil'.mono (fun _ _ ⟨a, b⟩ => ⟨a.symm, b.symm⟩)
theorem sort_okZ {m : AM} {p n c : Nat} {l z : List Int} (hb : m[p]? = some (some { cells := iv (l ++ z), kind := .grow, size := 1 })) (hn : n = l.length) (hlen : l.length ≤ 100000) :
    ACall Try.prog 86 #[.slice (some ⟨p, 0, none⟩) n c] m (Ret (.tuple #[]) (m.set p (some { cells := iv (srt l ++ z), kind := .grow, size := 1 }))) :=
  (sort_callZ (b := { cells := iv (l ++ z), kind := .grow, size := 1 }) hb rfl rfl hn (srt_len l) fun blk off cap w hH hlt => AnyG.slices_Sort_int sortInt blk off cap l w hH hlt (by omega)).mono (fun _ _ ⟨a, b⟩ => ⟨a.symm, b.symm⟩)
end Go.Proofs.Ytajpngnphbdnnaa.Abs
namespace Go.Proofs.Ytajpngnphbdnnaa.Hung
set_option linter.unusedSimpArgs false
set_option linter.unusedVariables false
theorem kM_mono {ok ok' : Nat → Nat → Bool} {l r : Nat} (h : ∀ i j, i < l → j < r → ok i j = true → ok' i j = true) : (kM ok r l).2 ≤ (kM ok' r l).2 := by
  have h1 := kM_inv ok r l
  rw [h1.cnt]
  refine (kM_inv ok' r l).max ⟨fun j hj h0 => ?_, h1.mch.2⟩
  obtain ⟨a1, a2⟩ := h1.mch.1 j hj h0
  exact ⟨a1, h _ _ (by omega) hj a2⟩
theorem kM_tr (ok : Nat → Nat → Bool) (l r : Nat) : (kM ok r l).2 ≤ (kM (fun j i => ok i j) l r).2 := by
  have h1 := kM_inv ok r l
  obtain ⟨m1, m2⟩ := h1.mch
  rw [h1.cnt]
  generalize (kM ok r l).1 = m at *
  let μ : Nat → Int := fun i => match (List.range r).find? (fun j => decide (m j = (i : Nat))) with
    | some j => (j : Nat)
    | none => -1
  have hμ : ∀ i, 0 ≤ μ i → ∃ j, j < r ∧ m j = (i : Nat) ∧ μ i = (j : Nat) := fun i h => by
    simp only [μ] at h ⊢
    cases e : (List.range r).find? (fun j => decide (m j = (i : Nat))) with
    | none => rw [e] at h; simp at h
    | some j => exact ⟨j, List.mem_range.1 (List.mem_of_find?_eq_some e), by simpa using List.find?_some e, rfl⟩
  have hμ' : ∀ j, j < r → 0 ≤ m j → 0 ≤ μ (m j).toNat := fun j hj h0 => by
    simp only [μ]
    cases e : (List.range r).find? (fun k => decide (m k = ((m j).toNat : Nat))) with
    | none =>
      have := List.find?_eq_none.1 e j (List.mem_range.2 hj)
      simp only [decide_eq_true_eq] at this
      omega
    | some k => simp only; omega
  have hM : Mch (fun j i => ok i j) r l μ := by
    refine ⟨fun i hi h0 => ?_, fun i i' hi hi' h0 he => ?_⟩
    · obtain ⟨j, j1, j2, j3⟩ := hμ i h0
      obtain ⟨a1, a2⟩ := m1 j j1 (by omega)
      rw [j3]
      refine ⟨by omega, ?_⟩
      simp only [Int.toNat_natCast]
      rw [j2] at a2
      simpa using a2
    · obtain ⟨j, j1, j2, j3⟩ := hμ i h0
      obtain ⟨j', k1, k2, k3⟩ := hμ i' (by omega)
      have : j = j' := by omega
      subst this
      omega
  refine Nat.le_trans ?_ ((kM_inv (fun j i => ok i j) l r).max hM)
  refine cN_inj (fun j => (m j).toNat) (fun j hj hp => ?_) (fun j j' hj hj' hp hp' he => ?_)
  · have h0 : 0 ≤ m j := by simpa using hp
    obtain ⟨a1, _⟩ := m1 j hj h0
    exact ⟨by omega, by simpa using hμ' j hj h0⟩
  · have h0 : 0 ≤ m j := by simpa using hp
    have h0' : 0 ≤ m j' := by simpa using hp'
    exact m2 j j' hj hj' h0 (by omega)
theorem kM_sides (ok : Nat → Nat → Bool) (l r : Nat) : (kM ok r l).2 = (kM (fun j i => ok i j) l r).2 :=
  Nat.le_antisymm (kM_tr ok l r) (kM_tr (fun j i => ok i j) r l)
end Go.Proofs.Ytajpngnphbdnnaa.Hung
namespace Go.Proofs.Ytajpngnphbdnnaa.Abs
set_option linter.unusedSimpArgs false
set_option linter.unusedVariables false
open Go.RowKit
open Go.Proofs.Ytajpngnphbdnnaa.Sim
open Go.Proofs
open Hung
/-- The greatest size with a limit. -/
def mtx (c : Nat → Nat → Int) (l r : Nat) (x : Int) : Nat := (kM (okc c x) r l).2
theorem mtx_mono {c : Nat → Nat → Int} {l r : Nat} {x y : Int} (h : ∀ i j, i < l → j < r → 0 ≤ c i j → c i j ≤ x → c i j ≤ y) : mtx c l r x ≤ mtx c l r y :=
  kM_mono fun i j hi hj he => by
    unfold okc at he ⊢
    simp only [Bool.and_eq_true, decide_eq_true_eq] at he ⊢
    exact ⟨he.1, h i j hi hj he.1 he.2⟩
/-- What Even answers. -/
def EvS (c : Nat → Nat → Int) (l r : Nat) (v : Int) : Prop :=
  (mtx c l r 1000000000 = 0 → v = 0) ∧ (mtx c l r 1000000000 ≠ 0 → (∃ i j, i < l ∧ j < r ∧ c i j = v) ∧ 0 ≤ v ∧ mtx c l r v = mtx c l r 1000000000 ∧ ∀ i j, i < l → j < r → 0 ≤ c i j → mtx c l r (c i j) = mtx c l r 1000000000 → v ≤ c i j)
theorem EvS.uniq {c : Nat → Nat → Int} {l r : Nat} {v v' : Int} (h : EvS c l r v) (h' : EvS c l r v') : v = v' := by
  by_cases e : mtx c l r 1000000000 = 0
  · rw [h.1 e, h'.1 e]
  · obtain ⟨⟨i, j, hi, hj, hv⟩, h0, h1, h2⟩ := h.2 e
    obtain ⟨⟨i', j', hi', hj', hv'⟩, h0', h1', h2'⟩ := h'.2 e
    have a := h2 i' j' hi' hj' (by omega) (by rw [hv']; exact h1')
    have b := h2' i j hi hj (by omega) (by rw [hv]; exact h1)
    omega
open Classical in
noncomputable def evV (c : Nat → Nat → Int) (l r : Nat) : Int := if h : ∃ v, EvS c l r v then h.choose else 0
theorem EvS.evV {c : Nat → Nat → Int} {l r : Nat} {v : Int} (h : EvS c l r v) : Abs.evV c l r = v := by
  have hex : ∃ v, EvS c l r v := ⟨v, h⟩
  unfold Abs.evV
  rw [dif_pos hex]
  exact hex.choose_spec.uniq h
theorem EvS.tr {c : Nat → Nat → Int} {l r : Nat} {v : Int} (h : EvS c l r v) : EvS (fun j i => c i j) r l v := by
  have e : ∀ x, mtx (fun j i => c i j) r l x = mtx c l r x := fun x => (kM_sides (okc c x) l r).symm
  unfold EvS
  simp only [e]
  refine ⟨h.1, fun h0 => ?_⟩
  obtain ⟨⟨i, j, hi, hj, hv⟩, h0, h1, h2⟩ := h.2 h0
  exact ⟨⟨j, i, hj, hi, hv⟩, h0, h1, fun a b ha hb => h2 b a hb ha⟩
theorem pw_getD {S : List Int} (h : S.Pairwise (· ≤ ·)) {i j : Nat} (hij : i ≤ j) (hj : j < S.length) : S.getD i 0 ≤ S.getD j 0 := by
  by_cases e : i = j
  · subst e; exact Int.le_refl _
  · have := List.pairwise_iff_getElem.1 h i j (by omega) hj (by omega)
    simpa [hj, show i < S.length by omega] using this
/-- The search ends at it. -/
theorem ev_end {c : Nat → Nat → Int} {l r : Nat} {S : List Int} {low : Nat} (hmem : ∀ x, x ∈ S ↔ 0 ≤ x ∧ ∃ i j, i < l ∧ j < r ∧ c i j = x) (hpw : S.Pairwise (· ≤ ·)) (hl : low < S.length) (h0 : mtx c l r 1000000000 ≠ 0)
    (h1 : mtx c l r (S.getD low 0) = mtx c l r 1000000000) (h2 : ∀ i, i < low → mtx c l r (S.getD i 0) ≠ mtx c l r 1000000000) : EvS c l r (S.getD low 0) := by
  have hm : S.getD low 0 ∈ S := by rw [List.getD_eq_getElem?_getD, List.getElem?_eq_getElem hl]; exact List.getElem_mem hl
  obtain ⟨g0, g1⟩ := (hmem _).1 hm
  refine ⟨fun h => absurd h h0, fun _ => ⟨g1, g0, h1, fun i j hi hj hc he => ?_⟩⟩
  obtain ⟨k, hk, hke⟩ := List.getElem_of_mem ((hmem (c i j)).2 ⟨hc, i, j, hi, hj, rfl⟩)
  have hkd : S.getD k 0 = c i j := by rw [← hke]; simp [hk]
  rcases Nat.lt_or_ge k low with h | h
  · exact absurd (by rw [hkd]; exact he) (h2 k h)
  · rw [← hkd]; exact pw_getD hpw h hk
theorem ev_last {c : Nat → Nat → Int} {l r : Nat} {S : List Int} (hmem : ∀ x, x ∈ S ↔ 0 ≤ x ∧ ∃ i j, i < l ∧ j < r ∧ c i j = x) (hpw : S.Pairwise (· ≤ ·)) (hc : Cs c) (h0 : mtx c l r 1000000000 ≠ 0) : 0 < S.length ∧ mtx c l r (S.getD (S.length - 1) 0) = mtx c l r 1000000000 := by
  have hpos : 0 < S.length := by
    rcases Nat.eq_zero_or_pos S.length with h | h
    · exfalso
      apply h0
      have hn : ∀ i j, i < l → j < r → c i j < 0 := fun i j hi hj => by
        apply Classical.byContradiction
        intro hc'
        have := (hmem (c i j)).2 ⟨by omega, i, j, hi, hj, rfl⟩
        rw [List.eq_nil_of_length_eq_zero h] at this; cases this
      unfold mtx
      have hinv := kM_inv (okc c 1000000000) r l
      rw [hinv.cnt]
      have : ∀ j, j < r → decide (0 ≤ (kM (okc c 1000000000) r l).1 j) = false := fun j hj => decide_eq_false fun h => by
        rcases hinv.v j with h1 | ⟨i, h1, h2, h3, h4⟩
        · omega
        · rw [okc_no1 (hn i j h2 h3)] at h4; cases h4
      rw [cN_congr (q := fun _ => false) this]
      clear this
      generalize r = n
      induction n with
      | zero => rfl
      | succ n ih => simp only [cN]; rw [ih]; rfl
    · exact h
  refine ⟨hpos, Nat.le_antisymm (mtx_mono fun i j _ _ _ h => by have := hc i j; omega) (mtx_mono fun i j hi hj h _ => ?_)⟩
  obtain ⟨k, hk, hke⟩ := List.getElem_of_mem ((hmem (c i j)).2 ⟨h, i, j, hi, hj, rfl⟩)
  have hkd : S.getD k 0 = c i j := by rw [← hke]; simp [hk]
  rw [← hkd]; exact pw_getD hpw (by omega) (by omega)
set_option maxRecDepth 100000 in
theorem Even_no {m : AM} {lv rv : Value} {u : Ru} {L R : List Gl} (hl : Gls m lv L) (hr : Gls m rv R) (h1 : L.length ≤ 100000) (h2 : R.length ≤ 100000) (hn : (sB L && sB R && uB u) = false) : ACall Try.prog 52 #[lv, rv, u.v] m (Ret (.tuple #[.int .i64 0, .int .i64 2]) m) := by
  have r0 : ∀ T : AM, RdL (m ++ (some { cells := u.cells } :: T)) (m.length + 0) 0 u.cells := fun T => RdL.new rfl rfl
  have hc := fun T => costs_no (hl.old T) (hr.old T) h1 h2 hn
  refine ACall.start Try.func52 rfl rfl ?_
  (repeat (first | (with_reducible refine AWo.cons ?_) | ((with_reducible refine Step.id ?_); first | ((with_reducible apply Step.move); exact rfl; exact rfl) | ((with_reducible apply Step.assign); exact rfl; exact rfl) | ((with_reducible apply Step.loadL (n := 8)); exact rfl; (focus (decide +kernel)); (focus (decide +kernel)); exact rfl; (focus (exact RdL.new rfl rfl)); exact rfl; exact rfl) | ((with_reducible apply Step.ptrNil); exact rfl; exact rfl; exact un77; exact rfl) | ((with_reducible apply Step.callR fit); exact rfl; exact Try.func54; exact rfl; exact rfl; exact (hc _)) | ((with_reducible apply Step.box 0); exact rfl; exact rfl; (focus (kernel_rfl)); exact rfl; (focus (first | (simp only [List.nil_append, List.cons_append, List.set_cons_zero, List.set_cons_succ, iv_set, bv_set, iv_rep, bv_rep]; done) | (simp only [List.nil_append, List.cons_append, List.set_cons_zero, List.set_cons_succ, iv_set, bv_set, iv_rep, bv_rep]; rfl) | rfl)))) | (with_reducible refine AWo.nil ?_) | ((with_reducible apply AW.seq)) | ((with_reducible apply Then.n)) | ((with_reducible apply AW.regL)) | ((with_reducible apply AW.condT); exact rfl; (focus (rfl)))))
  (refine AW.retD (l := [(6, _), (7, _)]) (by repeat (first | exact trivial | (refine And.intro ⟨rfl, by (exact .int _ _)⟩ ?_))) ?_; (repeat (first | refine Then.r ?_ | refine InBlk.r ?_)))
  exact ⟨_, rfl, rfl, rfl⟩
/-- All costs of allowed pairs, sorted. -/
def allS (c : Nat → Nat → Int) (l r : Nat) : List Int := srt ((allR c r l).filter fun x => !decide (x < 0))
theorem allS_mem {c : Nat → Nat → Int} {l r : Nat} (x : Int) : x ∈ allS c l r ↔ 0 ≤ x ∧ ∃ i j, i < l ∧ j < r ∧ c i j = x := by
  unfold allS
  rw [srt_mem, List.mem_filter, allR_mem]
  simp only [Bool.not_eq_true', decide_eq_false_iff_not]
  constructor
  · rintro ⟨h1, h2⟩; exact ⟨by omega, h1⟩
  · rintro ⟨h1, h2⟩; exact ⟨h2, by omega⟩
set_option maxRecDepth 100000 in
theorem delete_nil {m : AM} (h : 0 < m.length) : ACall Try.prog 84 #[.slice none 0 0, .func (.func 85) #[] #[]] m (Ret (.slice none 0 0) m) := by
  have hi : ∀ T : AM, ACall Try.prog 102 #[.slice none 0 0, .func (.func 85) #[] #[]] (m ++ T) (Ret (.int .i64 (idxF (fun _ => false) ([] : List Int).length)) (m ++ T)) := fun T => indexF_ok (l := []) (ints_nil (by simp; omega)) Try.func85 rfl (fun _ => false) (by simp) (fun k hk => by simp at hk)
  rw [show idxF (fun _ => false) ([] : List Int).length = -1 from idxF_miss fun i hi => by simp at hi] at hi
  refine ACall.start Try.func84 rfl rfl ?_
  (repeat (first | (with_reducible refine AWo.cons ?_) | ((with_reducible refine Step.id ?_); first | ((with_reducible apply Step.move); exact rfl; exact rfl) | ((with_reducible apply Step.assign); exact rfl; exact rfl) | ((with_reducible apply Step.eql); exact rfl; exact rfl; exact rfl) | ((with_reducible apply Step.callR fit); exact rfl; exact Try.func102; exact rfl; exact rfl; exact (hi _))) | (with_reducible refine AWo.nil ?_) | ((with_reducible apply AW.seq)) | ((with_reducible apply Then.n)) | ((with_reducible apply AW.regL)) | ((with_reducible apply AW.condT); exact rfl; (focus (rfl)))))
  (refine AW.retD (l := [(4, _)]) (by repeat (first | exact trivial | (refine And.intro ⟨rfl, by (exact Ren.of_g0 rfl)⟩ ?_))) ?_; (repeat (first | refine Then.r ?_ | refine InBlk.r ?_)))
  exact ⟨_, rfl, rfl, rfl⟩
theorem ev_lo {c : Nat → Nat → Int} {l r : Nat} {S : List Int} {mid : Nat} (hpw : S.Pairwise (· ≤ ·)) (hc : Cs c) (hl : mid < S.length) (h : mtx c l r (S.getD mid 0) ≠ mtx c l r 1000000000) : ∀ i, i < mid + 1 → mtx c l r (S.getD i 0) ≠ mtx c l r 1000000000 := fun i hi => by
  have h1 : mtx c l r (S.getD i 0) ≤ mtx c l r (S.getD mid 0) := mtx_mono fun a b _ _ _ h => by have := pw_getD hpw (show i ≤ mid by omega) hl; omega
  have h2 : mtx c l r (S.getD mid 0) ≤ mtx c l r 1000000000 := mtx_mono fun a b _ _ _ _ => by have := hc a b; omega
  omega
end Go.Proofs.Ytajpngnphbdnnaa.Abs
namespace Go.Proofs.Ytajpngnphbdnnaa.Abs
set_option linter.unusedSimpArgs false
set_option linter.unusedVariables false
open Go.RowKit
open Go.Proofs.Ytajpngnphbdnnaa.Sim
open Go.Proofs
open Hung
/-- The best of what was looked at. -/
def EvI (c : Nat → Nat → Int) (l r i j : Nat) (best : Int) : Prop :=
  (best = -1 ∧ ∀ i' j', i' < i ∧ j' < r ∨ i' = i ∧ j' < j → 0 ≤ c i' j' → mtx c l r (c i' j') ≠ mtx c l r 1000000000) ∨
  (0 ≤ best ∧ (∃ i' j', (i' < i ∧ j' < r ∨ i' = i ∧ j' < j) ∧ c i' j' = best) ∧ mtx c l r best = mtx c l r 1000000000 ∧ ∀ i' j', i' < i ∧ j' < r ∨ i' = i ∧ j' < j → 0 ≤ c i' j' → mtx c l r (c i' j') = mtx c l r 1000000000 → best ≤ c i' j')
theorem EvI.skip {c : Nat → Nat → Int} {l r i j : Nat} {best : Int} (h : EvI c l r i j best) (hc : 0 ≤ c i j → mtx c l r (c i j) = mtx c l r 1000000000 → 0 ≤ best ∧ best ≤ c i j) : EvI c l r i (j + 1) best := by
  rcases h with ⟨h1, h2⟩ | ⟨h1, ⟨a, b, h2, h3⟩, h4, h5⟩
  · refine .inl ⟨h1, fun i' j' h h0 he => ?_⟩
    by_cases e : i' = i ∧ j' = j
    · obtain ⟨rfl, rfl⟩ := e
      have := hc h0 he; omega
    · exact h2 i' j' (by omega) h0 he
  · refine .inr ⟨h1, ⟨a, b, by omega, h3⟩, h4, fun i' j' h h0 he => ?_⟩
    by_cases e : i' = i ∧ j' = j
    · obtain ⟨rfl, rfl⟩ := e
      exact (hc h0 he).2
    · exact h5 i' j' (by omega) h0 he
theorem EvI.take {c : Nat → Nat → Int} {l r i j : Nat} {best : Int} (h : EvI c l r i j best) (h0 : 0 ≤ c i j) (hm : mtx c l r (c i j) = mtx c l r 1000000000) (hb : best < 0 ∨ c i j < best) : EvI c l r i (j + 1) (c i j) := by
  refine .inr ⟨h0, ⟨i, j, by omega, rfl⟩, hm, fun i' j' hp h0' he => ?_⟩
  by_cases e : i' = i ∧ j' = j
  · obtain ⟨rfl, rfl⟩ := e; exact Int.le_refl _
  · rcases h with ⟨h1, h2⟩ | ⟨h1, _, h4, h5⟩
    · exact absurd he (h2 i' j' (by omega) h0')
    · have := h5 i' j' (by omega) h0' he
      omega
theorem EvI.next {c : Nat → Nat → Int} {l r i : Nat} {best : Int} (h : EvI c l r i r best) : EvI c l r (i + 1) 0 best := by
  rcases h with ⟨h1, h2⟩ | ⟨h1, ⟨a, b, h2, h3⟩, h4, h5⟩
  · exact .inl ⟨h1, fun i' j' h => h2 i' j' (by omega)⟩
  · exact .inr ⟨h1, ⟨a, b, by omega, h3⟩, h4, fun i' j' h => h5 i' j' (by omega)⟩
theorem EvI.fin {c : Nat → Nat → Int} {l r : Nat} {best : Int} (hc : Cs c) (h : EvI c l r l 0 best) (h0 : mtx c l r 1000000000 ≠ 0) : EvS c l r best := by
  obtain ⟨hpos, hl⟩ := ev_last (S := allS c l r) (fun x => allS_mem x) (srt_pw _) hc h0
  have hm : (allS c l r).getD ((allS c l r).length - 1) 0 ∈ allS c l r := by
    rw [List.getD_eq_getElem?_getD, List.getElem?_eq_getElem (by omega)]; exact List.getElem_mem (by omega)
  obtain ⟨g0, a, b, ha, hb, hab⟩ := (allS_mem _).1 hm
  rcases h with ⟨h1, h2⟩ | ⟨h1, ⟨a', b', h2, h3⟩, h4, h5⟩
  · exfalso
    rw [← hab] at hl
    exact h2 a b (by omega) (by omega) hl
  · exact ⟨fun h => absurd h h0, fun _ => ⟨⟨a', b', by omega, by omega, h3⟩, h1, h4, fun i j hi hj => h5 i j (by omega)⟩⟩
end Go.Proofs.Ytajpngnphbdnnaa.Abs
namespace Go.Proofs.Ytajpngnphbdnnaa.Abs
set_option linter.unusedSimpArgs false
set_option linter.unusedVariables false
open Go.RowKit
open Go.Proofs.Ytajpngnphbdnnaa.Sim
open Go.Proofs
open Hung
set_option maxHeartbeats 8000000 in
set_option maxRecDepth 100000 in
theorem Even_ok {m : AM} {lv rv : Value} {u : Ru} {L R : List Gl} (hl : Gls m lv L) (hr : Gls m rv R) (hL : sB L = true) (hR : sB R = true) (hu : uB u = true) : ACall Try.prog 52 #[lv, rv, u.v] m (Ret (.tuple #[.int .i64 (evV (cT u L R) L.length R.length), .int .i64 0]) m) := by
  have h1 : L.length ≤ 32 ∧ L.all gB = true := by simpa [sB] using hL
  have h2 : R.length ≤ 32 ∧ R.all gB = true := by simpa [sB] using hR
  have r0 : ∀ T : AM, RdL (m ++ (some { cells := u.cells } :: T)) (m.length + 0) 0 u.cells := fun T => RdL.new rfl rfl
  have hcs := cT_cs hu hL hR
  refine ACall.drop (Ren.tupG [.int .i64 _, .int .i64 0] rfl) ?_
  refine ACall.start Try.func52 rfl rfl ?_
  (repeat (first | (with_reducible refine AWo.cons ?_) | ((with_reducible refine Step.id ?_); first | ((with_reducible apply Step.move); exact rfl; exact rfl) | ((with_reducible apply Step.assign); exact rfl; exact rfl) | ((with_reducible apply Step.loadL (n := 8)); exact rfl; (focus (decide +kernel)); (focus (decide +kernel)); exact rfl; (focus (exact RdL.new rfl rfl)); exact rfl; exact rfl) | ((with_reducible apply Step.box 0); exact rfl; exact rfl; (focus (kernel_rfl)); exact rfl; (focus (first | (simp only [List.nil_append, List.cons_append, List.set_cons_zero, List.set_cons_succ, iv_set, bv_set, iv_rep, bv_rep]; done) | (simp only [List.nil_append, List.cons_append, List.set_cons_zero, List.set_cons_succ, iv_set, bv_set, iv_rep, bv_rep]; rfl) | rfl)))) | (with_reducible refine AWo.nil ?_) | ((with_reducible apply AW.seq)) | ((with_reducible apply Then.n)) | ((with_reducible apply AW.regL))))
  ((with_reducible apply Step.callX fit); exact rfl; exact Try.func54; exact rfl; exact rfl; exact (costs_ok (hl.old _) (hr.old _) hL hR hu))
  rintro tv M ⟨N0, hN0⟩ hT
  have hMN : ∃ N, M = m ++ N := ⟨_, by rw [hN0, List.append_assoc]⟩
  clear r0 hN0
  generalize cT u L R = c at *
  obtain ⟨a, cv, b, o, htv, t1, t2, t3, t4, t5, t6, t7⟩ := id hT
  generalize hl' : L.length = l at *
  generalize hr' : R.length = r at *
  subst htv
  have hRT : RT M cv c l r := ⟨b, o, t5, t6, t7⟩
  have hXl := allR_len c r l
  have hlr : l * r ≤ 1024 := Nat.mul_le_mul h1.1 h2.1
  have hmost : ∀ x, mtx c l r x ≤ r := fun x => by unfold mtx; rw [(kM_inv (okc c x) r l).cnt]; exact cN_le _
  have hsize : ∀ (x : Int) {m' : AM} {v : Value}, Ints m' v (tab (kM (okc c x) r l).1 r) → ∀ T : AM, ACall Try.prog 69 #[v] (m' ++ T) (Ret (.int .i64 (mtx c l r x : Nat)) (m' ++ T)) := fun x m' v h T => by
    have := size_ok (h.old T) (by omega)
    rw [← (kM_inv (okc c x) r l).cnt] at this
    exact this
  have hz0 : l * r = 0 → mtx c l r 1000000000 = 0 := fun h => by
    rcases Nat.mul_eq_zero.1 h with h | h
    · subst h; rfl
    · have := hmost 1000000000; omega
  (repeat (first | (with_reducible refine AWo.cons ?_) | ((with_reducible refine Step.id ?_); first | ((with_reducible apply Step.move); exact rfl; exact rfl) | ((with_reducible apply Step.assign); exact rfl; exact rfl) | ((with_reducible apply Step.load); exact rfl; (focus (decide +kernel)); exact rfl; (focus (exact t2.old _))) | ((with_reducible apply Step.field0); exact rfl; (focus (decide +kernel)); exact rfl) | ((with_reducible apply Step.ptrNot); exact rfl; exact rfl; exact un77; exact rfl) | ((with_reducible apply Step.nilp); exact rfl; exact rfl)) | (with_reducible refine AWo.nil ?_) | ((with_reducible apply AW.seq)) | ((with_reducible apply Then.n)) | ((with_reducible apply AW.regL)) | ((with_reducible apply AW.skip)) | ((with_reducible apply AW.condF); exact rfl; (focus (rfl)))))
  ((with_reducible apply Step.callX fit); exact rfl; exact Try.func76; exact rfl; exact rfl; exact (concatN_ok (hRT.old _) (by omega) (by omega)))
  rintro v M1 ⟨N1, hN1⟩ hv
  rw [List.append_nil] at hN1
  rcases hv with ⟨z0, rfl⟩ | ⟨z0, N2, rfl, hM1⟩
  · have hm0 := hz0 z0
    have hsz := fun {m' v} => hsize 1000000000 (m' := m') (v := v)
    rw [hm0] at hsz
    have hT1 : Tab M1 (.pointer (some ⟨a, 0, none⟩)) c l r := by rw [hN1]; exact hT.old N1
    have hp1 : 0 < M1.length := by rw [hN1]; simp only [List.length_append]; omega
    have hdn := fun T => delete_nil (m := M1 ++ T) (by simp only [List.length_append]; omega)
    (repeat (first | (with_reducible refine AWo.cons ?_) | ((with_reducible refine Step.id ?_); first | ((with_reducible apply Step.move); exact rfl; exact rfl) | ((with_reducible apply Step.assign); exact rfl; exact rfl) | ((with_reducible apply Step.callR fit); exact rfl; exact Try.func84; exact rfl; exact rfl; exact (hdn _)) | ((with_reducible apply Step.callR fit); exact rfl; exact Try.func86; exact rfl; exact rfl; exact (sort_nil))) | (with_reducible refine AWo.nil ?_) | ((with_reducible apply AW.seq)) | ((with_reducible apply Then.n)) | ((with_reducible apply AW.regL))))
    ((with_reducible apply Step.callX fit); exact rfl; exact Try.func70; exact rfl; exact rfl; exact (matched_ok (hT1.old _) (by omega) (by omega)))
    rintro v' M4 ⟨N4, hN4⟩ hI
    (repeat (first | (with_reducible refine AWo.cons ?_) | ((with_reducible refine Step.id ?_); first | ((with_reducible apply Step.move); exact rfl; exact rfl) | ((with_reducible apply Step.assign); exact rfl; exact rfl) | ((with_reducible apply Step.eql); exact rfl; exact rfl; exact rfl) | ((with_reducible apply Step.callR fit); exact rfl; exact Try.func69; exact rfl; exact rfl; exact (hsz hI _))) | (with_reducible refine AWo.nil ?_) | ((with_reducible apply AW.seq)) | ((with_reducible apply Then.n)) | ((with_reducible apply AW.regL)) | ((with_reducible apply AW.condT); exact rfl; (focus (rfl)))))
    (refine AW.ret ?_; (repeat (first | refine Then.r ?_ | refine InBlk.r ?_)))
    have hev : EvS c l r 0 := ⟨fun _ => rfl, fun h => absurd hm0 h⟩
    obtain ⟨N, rfl⟩ := hMN
    exact ⟨_, rfl, by rw [hev.evV], _, by rw [hN4, hN1, List.append_nil, List.append_nil, List.append_assoc, List.append_assoc]⟩
  · rw [List.append_nil] at hM1
    obtain ⟨p, hp⟩ : ∃ p, (M ++ []).length + 0 = p := ⟨_, rfl⟩
    have hpM : p = M.length := by rw [← hp, List.append_nil]; rfl
    have hg : M1[p]? = some (some { cells := iv (allR c r l), kind := .grow, size := 1 }) := by rw [hM1, hpM, List.getElem?_append_right (Nat.le_refl _), Nat.sub_self]; rfl
    have hpl := (List.getElem?_eq_some_iff.1 hg).1
    rw [hp]
    have hd := delete_ok (m := M1) (r := p) (s := 1) (kd := .grow) (A := allR c r l) (Z := []) (n := l * r) (c := l * r) (g := 85) (cap := #[]) (fun y => decide (y < 0)) hpl rfl Try.func85 rfl hXl (Nat.le_refl _) (by omega) (fun row x _ => by simpa using neg_ok)
    rw [List.append_nil, List.append_nil, St.self hg] at hd
    obtain ⟨F, hF⟩ : ∃ F, (allR c r l).filter (fun x => !decide (x < 0)) = F := ⟨_, rfl⟩
    have hS : srt F = allS c l r := by rw [← hF]; rfl
    have hFl : F.length ≤ l * r := by rw [← hF, ← hXl]; exact List.length_filter_le _ _
    rw [hF] at hd
    generalize hZ : List.replicate (l * r - F.length) (0 : Int) = Z at *
    have hs := sort_okZ (m := St M1 p .grow 1 (F ++ Z)) (p := p) (c := l * r) (St.get hpl) rfl (by omega)
    obtain ⟨M3, hM3⟩ : ∃ M3, (St M1 p .grow 1 (F ++ Z)).set p (some { cells := iv (srt F ++ Z), kind := .grow, size := 1 }) = M3 := ⟨_, rfl⟩
    rw [hM3] at hs
    have hM3' : M3 = M1.set p (some { cells := iv (srt F ++ Z), kind := .grow, size := 1 }) := by rw [← hM3]; unfold St; rw [List.set_set]
    have h3g : M3[p]? = some (some { cells := iv (srt F ++ Z), kind := .grow, size := 1 }) := by rw [hM3', List.getElem?_set_self hpl]
    have h3p : ∃ N', M3 = M ++ N' := by
      rw [hM3', hN1]
      exact pre_set (by omega)
    have hT3 : Tab M3 (.pointer (some ⟨a, 0, none⟩)) c l r := by
      obtain ⟨N', rfl⟩ := h3p
      exact hT.old N'
    have hk : (srt F).length = F.length := srt_len F
    have hI3 : Ints M3 (.slice (some ⟨p, 0, none⟩) F.length (l * r)) (srt F) := ⟨p, 0, by rw [hk]; exact Sl.mk hFl, (List.getElem?_eq_some_iff.1 h3g).1, fun i hi => ⟨_, h3g, by
      rw [Nat.zero_add]
      have := iv_get (l := srt F ++ Z) (k := i) (by simp only [List.length_append]; omega)
      rw [this, getD_l hi]⟩⟩
    have h3r : ∀ i, i < (srt F).length → Rd M3 p i (.int .i64 ((srt F).getD i 0)) := fun i hi => ⟨_, h3g, by
      have := iv_get (l := srt F ++ Z) (k := i) (by simp only [List.length_append]; omega)
      rw [this, getD_l hi]⟩
    have hM3N : ∃ N, M3 = m ++ N := by
      obtain ⟨N', rfl⟩ := h3p
      obtain ⟨N, rfl⟩ := hMN
      exact ⟨_, by rw [List.append_assoc]⟩
    rw [hS] at hk hI3 h3r
    have hmem := fun x => allS_mem (c := c) (l := l) (r := r) x
    have hpw : (allS c l r).Pairwise (· ≤ ·) := srt_pw _
    (repeat (first | (with_reducible refine AWo.cons ?_) | ((with_reducible refine Step.id ?_); first | ((with_reducible apply Step.move); exact rfl; exact rfl) | ((with_reducible apply Step.assign); exact rfl; exact rfl)) | (with_reducible refine AWo.nil ?_) | ((with_reducible apply AW.seq)) | ((with_reducible apply Then.n)) | ((with_reducible apply AW.regL))))
    rw [List.append_nil]
    (repeat (first | (with_reducible refine AWo.cons ?_) | ((with_reducible refine Step.id ?_); first | ((with_reducible apply Step.move); exact rfl; exact rfl) | ((with_reducible apply Step.assign); exact rfl; exact rfl) | ((with_reducible apply Step.callM fit); exact rfl; exact Try.func84; exact rfl; exact rfl; exact (hd)) | ((with_reducible apply Step.callM fit); exact rfl; exact Try.func86; exact rfl; exact rfl; exact (hs))) | (with_reducible refine AWo.nil ?_) | ((with_reducible apply AW.seq)) | ((with_reducible apply Then.n)) | ((with_reducible apply AW.regL))))
    clear hd hs hM3 hM3' h3g h3p hg hM1 hN1 hS hT hRT t1 t2 t3 t4 t5 t6 t7 hpM hp hpl
    generalize allS c l r = S at *
    rw [← hk] at hI3 hFl ⊢
    obtain ⟨ia, io, i1, i2, i3⟩ := id hI3
    have hlast := ev_last (c := c) (l := l) (r := r) (S := S) hmem hpw hcs
    have hlo := fun mid => ev_lo (c := c) (l := l) (r := r) (S := S) (mid := mid) hpw hcs
    have hend := fun low => ev_end (c := c) (l := l) (r := r) (S := S) (low := low) hmem hpw
    have hm9 := hmost 1000000000
    have hsz9 := fun {m' v} => hsize 1000000000 (m' := m') (v := v)
    have hev0 : mtx c l r 1000000000 = 0 → evV c l r = 0 := fun h => EvS.evV ⟨fun _ => rfl, fun h' => absurd h h'⟩
    obtain ⟨most, hmo⟩ : ∃ most, mtx c l r 1000000000 = most := ⟨_, rfl⟩
    rw [hmo] at hlast hlo hend hm9 hsz9 hev0
    ((with_reducible apply Step.callX fit); exact rfl; exact Try.func70; exact rfl; exact rfl; exact (matched_ok hT3 (by omega) (by omega)))
    rintro v' M4 ⟨N4, hM4⟩ hI
    have hN4 := hM4
    have hT4 : Tab M4 (.pointer (some ⟨a, 0, none⟩)) c l r := by rw [hM4]; exact hT3.old N4
    have hI4 : Ints M4 (.slice (some ⟨p, 0, none⟩) S.length (l * r)) S := by rw [hM4]; exact hI3.old N4
    have hM4N : ∃ N, M4 = m ++ N := by
      obtain ⟨N, hN⟩ := hM3N
      exact ⟨_, by rw [hM4, hN, List.append_assoc]⟩
    (repeat (first | (with_reducible refine AWo.cons ?_) | ((with_reducible refine Step.id ?_); first | ((with_reducible apply Step.move); exact rfl; exact rfl) | ((with_reducible apply Step.assign); exact rfl; exact rfl) | ((with_reducible apply Step.eql); exact rfl; exact rfl; exact rfl) | ((with_reducible apply Step.callR fit); exact rfl; exact Try.func69; exact rfl; exact rfl; exact (hsz9 hI _))) | (with_reducible refine AWo.nil ?_) | ((with_reducible apply AW.seq)) | ((with_reducible apply Then.n)) | ((with_reducible apply AW.regL))))
    have hM4' := hM4
    clear hI hN4 hM4 hI3 i1 i2 i3
    rw [List.append_nil]
    by_cases h0 : most = 0
    · subst h0
      (repeat (first | (with_reducible refine AWo.cons ?_) | ((with_reducible refine Step.id ?_); ((with_reducible apply Step.assign); exact rfl; exact rfl)) | (with_reducible refine AWo.nil ?_) | ((with_reducible apply AW.seq)) | ((with_reducible apply Then.n)) | ((with_reducible apply AW.regL)) | ((with_reducible apply AW.condT); exact rfl; (focus (rfl)))))
      (refine AW.ret ?_; (repeat (first | refine Then.r ?_ | refine InBlk.r ?_)))
      obtain ⟨N, rfl⟩ := hM4N
      exact ⟨_, rfl, by rw [hev0 rfl], N, rfl⟩
    · obtain ⟨hpos, hl2⟩ := hlast h0
      have e1 : ((S.length : Nat) : Int) - 1 = ((S.length - 1 : Nat) : Int) := by omega
      have i3 : ∀ i, i < S.length → Rd M4 p i (.int .i64 (S.getD i 0)) := fun i hi => by rw [hM4']; exact (h3r i hi).old N4
      obtain ⟨_, cv', b', o', e', q1, q2, q3, q4, q5, q6, q7⟩ := id hT4
      injection e' with e'; injection e' with e'; injection e' with e'
      subst e'
      (repeat (first | (with_reducible refine AWo.cons ?_) | ((with_reducible refine Step.id ?_); first | ((with_reducible apply Step.move); exact rfl; exact rfl) | ((with_reducible apply Step.assign); exact rfl; exact rfl) | ((with_reducible apply Step.subE); exact rfl; exact rfl; (focus (assumption)); (focus (omega)); exact rfl) | ((with_reducible apply Step.len); exact rfl; (focus (exact Sl.mk (by omega))); (focus (decide +kernel)); exact rfl)) | (with_reducible refine AWo.nil ?_) | ((with_reducible apply AW.seq)) | ((with_reducible apply Then.n)) | ((with_reducible apply AW.regL)) | ((with_reducible apply AW.block)) | ((with_reducible apply AW.skip)) | ((with_reducible apply AW.condF); exact rfl; (focus ((simp only [decide_eq_true_eq, decide_eq_false_iff_not, Bool.not_eq_true', Bool.not_eq_false', Bool.not_true, Bool.not_false]; first | assumption | omega))))))
      refine AW.loopW (fun rk t M => ∃ (low high : Nat) (N : AM), rk = high - low ∧ low ≤ high ∧ high < S.length ∧ M = M4 ++ N ∧ mtx c l r (S.getD high 0) = most ∧ (∀ i, i < low → mtx c l r (S.getD i 0) ≠ most) ∧ t = fr [(8, .pointer (some ⟨a, 0, none⟩)), (9, .slice (some ⟨p, 0, none⟩) S.length (l * r)), (10, .int .i64 (most : Nat)), (11, .int .i64 (low : Nat)), (12, .int .i64 (high : Nat))])
        ⟨_, [(8, .pointer (some ⟨a, 0, none⟩)), (9, .slice (some ⟨p, 0, none⟩) S.length (l * r)), (10, .int .i64 (most : Nat)), (11, .int .i64 ((0 : Nat) : Int)), (12, .int .i64 ((S.length - 1 : Nat) : Int))], (by repeat (first | exact trivial | (refine And.intro rfl ?_))), 0, S.length - 1, [], rfl, Nat.zero_le _, by omega, by rw [List.append_nil], hl2, fun _ h => absurd h (Nat.not_lt_zero _), rfl⟩ ?_
      rintro rk t M5 ⟨low, high, N, rfl, h1', h2', rfl, h3', h4', rfl⟩
      by_cases hlt : low < high
      · have e2 : ((low : Nat) : Int) + ((high : Nat) : Int) = ((low + high : Nat) : Int) := by omega
        obtain ⟨mid, hmid⟩ : ∃ mid, (low + high) / 2 = mid := ⟨_, rfl⟩
        have e3 : ((low + high : Nat) : Int) / 2 = ((mid : Nat) : Int) := by omega
        have hml : mid < S.length := by omega
        have qs := i3 mid hml
        have hlom := hlo mid hml
        obtain ⟨x, hx⟩ : ∃ x, S.getD mid 0 = x := ⟨_, rfl⟩
        rw [hx] at qs hlom
        (repeat (first | (with_reducible refine AWo.cons ?_) | ((with_reducible refine Step.id ?_); first | ((with_reducible apply Step.move); exact rfl; exact rfl) | ((with_reducible apply Step.assign); exact rfl; exact rfl) | ((with_reducible apply Step.addE); exact rfl; exact rfl; (focus (assumption)); (focus (omega)); exact rfl) | ((with_reducible apply Step.lss); exact rfl; exact rfl; exact rfl) | ((with_reducible apply Step.quo); exact rfl; exact rfl; (focus (omega)); (focus (omega)); exact rfl)) | (with_reducible refine AWo.nil ?_) | ((with_reducible apply AW.seq)) | ((with_reducible apply Then.n)) | ((with_reducible apply AW.regL)) | ((with_reducible apply AW.block)) | ((with_reducible apply AW.skip)) | ((with_reducible apply AW.condT); exact rfl; (focus ((simp only [decide_eq_true_eq, decide_eq_false_iff_not, Bool.not_eq_true', Bool.not_eq_false', Bool.not_true, Bool.not_false]; first | assumption | omega))))))
        rw [e3]
        (repeat (first | (with_reducible refine AWo.cons ?_) | ((with_reducible refine Step.id ?_); first | ((with_reducible apply Step.load); exact rfl; (focus (decide +kernel)); exact rfl; (focus (exact qs.old _))) | ((with_reducible apply Step.ix1z); exact rfl; (focus (exact Sl.mk (by omega))); exact rfl; (focus (decide +kernel)); exact rfl; (focus (omega))))))
        ((with_reducible apply Step.callX fit); exact rfl; exact Try.func70; exact rfl; exact rfl; exact (matched_ok (mo := x) (hT4.old _) (by omega) (by omega)))
        rintro v2 M6 ⟨N6, hN6⟩ hI6
        have hp6 : ∃ N', M6 ++ [] = M4 ++ N' := ⟨_, by rw [List.append_nil, hN6, List.append_assoc]⟩
        obtain ⟨N', hN'⟩ := hp6
        by_cases heq : mtx c l r x = most
        · have hs6 := hsize x hI6
          rw [heq] at hs6
          (repeat (first | (with_reducible refine AWo.cons ?_) | ((with_reducible refine Step.id ?_); first | ((with_reducible apply Step.move); exact rfl; exact rfl) | ((with_reducible apply Step.assign); exact rfl; exact rfl) | ((with_reducible apply Step.eql); exact rfl; exact rfl; exact rfl) | ((with_reducible apply Step.callR fit); exact rfl; exact Try.func69; exact rfl; exact rfl; exact (hs6 _))) | (with_reducible refine AWo.nil ?_) | ((with_reducible apply Then.n)) | ((with_reducible apply AW.regL)) | ((with_reducible apply InBlk.n)) | ((with_reducible apply AW.condT); exact rfl; (focus ((simp; done))))))
          exact ⟨_, [(8, .pointer (some ⟨a, 0, none⟩)), (9, .slice (some ⟨p, 0, none⟩) S.length (l * r)), (10, .int .i64 (most : Nat)), (11, .int .i64 (low : Nat)), (12, .int .i64 (mid : Nat))], by omega, (by repeat (first | exact trivial | (refine And.intro rfl ?_))), low, mid, N', rfl, by omega, hml, hN', by rw [hx]; exact heq, h4', rfl⟩
        · have hs6 := hsize x hI6
          have hbx := hmost x
          generalize mtx c l r x = y at *
          (repeat (first | (with_reducible refine AWo.cons ?_) | ((with_reducible refine Step.id ?_); first | ((with_reducible apply Step.move); exact rfl; exact rfl) | ((with_reducible apply Step.assign); exact rfl; exact rfl) | ((with_reducible apply Step.add); exact rfl; exact rfl; (focus (omega)); exact rfl) | ((with_reducible apply Step.eql); exact rfl; exact rfl; exact rfl) | ((with_reducible apply Step.callR fit); exact rfl; exact Try.func69; exact rfl; exact rfl; exact (hs6 _))) | (with_reducible refine AWo.nil ?_) | ((with_reducible apply Then.n)) | ((with_reducible apply AW.regL)) | ((with_reducible apply InBlk.n)) | ((with_reducible apply AW.condF); exact rfl; (focus ((simp only [decide_eq_true_eq, decide_eq_false_iff_not, Bool.not_eq_true', Bool.not_eq_false', Bool.not_true, Bool.not_false]; first | assumption | omega))))))
          exact ⟨_, [(8, .pointer (some ⟨a, 0, none⟩)), (9, .slice (some ⟨p, 0, none⟩) S.length (l * r)), (10, .int .i64 (most : Nat)), (11, .int .i64 ((mid + 1 : Nat) : Int)), (12, .int .i64 (high : Nat))], by omega, (by repeat (first | exact trivial | (refine And.intro rfl ?_))), mid + 1, high, N', rfl, by omega, h2', hN', h3', hlom heq, rfl⟩
      · obtain rfl : low = high := by omega
        have qs := i3 low h2'
        have hev := (hend low h2' h0 h3' h4').evV
        (repeat (first | (with_reducible refine AWo.cons ?_) | ((with_reducible refine Step.id ?_); first | ((with_reducible apply Step.move); exact rfl; exact rfl) | ((with_reducible apply Step.assign); exact rfl; exact rfl) | ((with_reducible apply Step.load); exact rfl; (focus (decide +kernel)); exact rfl; (focus (exact qs.old _))) | ((with_reducible apply Step.ix1z); exact rfl; (focus (exact Sl.mk (by omega))); exact rfl; (focus (decide +kernel)); exact rfl; (focus (omega))) | ((with_reducible apply Step.lss); exact rfl; exact rfl; exact rfl)) | (with_reducible refine AWo.nil ?_) | ((with_reducible apply AW.seq)) | ((with_reducible apply Then.n)) | ((with_reducible apply AW.regL)) | ((with_reducible apply AW.exit)) | ((with_reducible apply InBlk.hit)) | ((with_reducible apply Then.e)) | ((with_reducible apply AW.condF); exact rfl; (focus ((simp only [decide_eq_true_eq, decide_eq_false_iff_not, Bool.not_eq_true', Bool.not_eq_false', Bool.not_true, Bool.not_false]; first | assumption | omega))))))
        (refine AW.ret ?_; (repeat (first | refine Then.r ?_ | refine InBlk.r ?_)))
        obtain ⟨N0, rfl⟩ := hM4N
        exact ⟨_, rfl, by rw [hev], _, by rw [List.append_assoc]⟩
end Go.Proofs.Ytajpngnphbdnnaa.Abs
namespace Go.Proofs.Ytajpngnphbdnnaa.Abs
set_option linter.unusedSimpArgs false
set_option linter.unusedVariables false
open Go.RowKit
open Go.Proofs.Ytajpngnphbdnnaa.Sim
open Go.Proofs
open Hung
def Prs (m : AM) (v : Value) (X : List (Nat × Nat)) : Prop := ∃ a o, Sl v a o X.length ∧ a < m.length ∧ ∀ k, k < X.length → RdL m a (o + k * 2) [.int .i64 (((X.getD k (0, 0)).1 : Nat) : Int), .int .i64 (((X.getD k (0, 0)).2 : Nat) : Int)]
theorem Prs.old {m : AM} {v : Value} {X : List (Nat × Nat)} (L : AM) (h : Prs m v X) : Prs (m ++ L) v X := by
  obtain ⟨a, o, h1, h2, h3⟩ := h
  exact ⟨a, o, h1, by simp; omega, fun k hk => (h3 k hk).old L⟩
section
variable {P : Program} {nt : Nat} {ops : Array Oper} {t : Fm} {m : AM} {K : Fm → AM → Prop} {d T : Nat} {p : String} {af : Array Edge}
end
end Go.Proofs.Ytajpngnphbdnnaa.Abs
namespace Go.Proofs.Ytajpngnphbdnnaa.Abs
set_option linter.unusedSimpArgs false
set_option linter.unusedVariables false
open Go.RowKit
open Go.Proofs.Ytajpngnphbdnnaa.Sim
open Go.Proofs
open Hung
/-- A row that grew at a place between lo and hi. -/
def Row1 (M : AM) (lo hi : Nat) (v : Value) (X : List Int) : Prop := (X = [] ∧ v = .slice none 0 0) ∨ (0 < X.length ∧ ∃ s, lo ≤ s ∧ s < hi ∧ v = .slice (some ⟨s, 0, none⟩) X.length X.length ∧ M[s]? = some (some { cells := iv X, kind := .grow, size := 1 }))
theorem Row1.keep {M M' : AM} {lo hi hi' : Nat} {v : Value} {X : List Int} (h : Row1 M lo hi v X) (hh : hi ≤ hi') (hk : ∀ s, lo ≤ s → s < hi → M[s]? = some (some { cells := iv X, kind := .grow, size := 1 }) → M'[s]? = M[s]?) : Row1 M' lo hi' v X := by
  rcases h with h | ⟨h1, s, h2, h3, h4, h5⟩
  · exact .inl h
  · exact .inr ⟨h1, s, h2, by omega, h4, by rw [hk s h2 h3 h5]; exact h5⟩
theorem Row1.ints {M : AM} {lo hi : Nat} {v : Value} {X : List Int} (h : Row1 M lo hi v X) (hM : 0 < M.length) : Ints M v X := by
  rcases h with ⟨rfl, rfl⟩ | ⟨h1, s, h2, h3, rfl, h5⟩
  · exact ints_nil hM
  · exact ints_at h5 rfl _ rfl
/-- The graph while it is made: rows before k are done, of row k what lies below j. -/
structure GI (M : AM) (W B n k j : Nat) (adj : Nat → Nat → Bool) (ws : List Value) : Prop where
  len : ws.length = n
  w : M[W]? = some (some { cells := ws })
  lo : W + 2 ≤ B
  hi : B ≤ M.length
  fin : ∀ i, i < k → ∃ v, ws[i]? = some v ∧ Row1 M (W + 2) B v (selL (adj i) n)
  cur : k < n → ∃ v, ws[k]? = some v ∧ Row1 M B M.length v (selL (adj k) j)
  rest : ∀ i, k < i → i < n → ws[i]? = some (.slice none 0 0)
section
variable {M : AM} {W B n k j : Nat} {adj : Nat → Nat → Bool} {ws : List Value}
theorem GI.old (h : GI M W B n k j adj ws) (L : AM) : GI (M ++ L) W B n k j adj ws :=
  ⟨h.len, get_old _ h.w, h.lo, by have := h.hi; simp; omega, fun i hi => by
    obtain ⟨v, h1, h2⟩ := h.fin i hi
    exact ⟨v, h1, h2.keep (Nat.le_refl _) fun s _ hs _ => List.getElem?_append_left (by have := h.hi; omega)⟩, fun hk => by
    obtain ⟨v, h1, h2⟩ := h.cur hk
    exact ⟨v, h1, h2.keep (by simp) fun s _ hs _ => List.getElem?_append_left hs⟩, h.rest⟩
theorem GI.skip (h : GI M W B n k j adj ws) (ha : adj k j = false) : GI M W B n k (j + 1) adj ws :=
  ⟨h.len, h.w, h.lo, h.hi, h.fin, fun hk => by rw [selL_no ha]; exact h.cur hk, h.rest⟩
theorem GI.next (h : GI M W B n k n adj ws) (hk : k < n) : GI M W M.length n (k + 1) 0 adj ws :=
  ⟨h.len, h.w, by have := h.lo; have := h.hi; omega, Nat.le_refl _, fun i hi => by
    by_cases e : i = k
    · subst e
      obtain ⟨v, h1, h2⟩ := h.cur hk
      refine ⟨v, h1, ?_⟩
      rcases h2 with h2 | ⟨q1, s, q2, q3, q4, q5⟩
      · exact .inl h2
      · exact .inr ⟨q1, s, by have := h.lo; omega, q3, q4, q5⟩
    · obtain ⟨v, h1, h2⟩ := h.fin i (by omega)
      exact ⟨v, h1, h2.keep h.hi fun _ _ _ _ => rfl⟩, fun hk' => ⟨_, h.rest (k + 1) (by omega) hk', .inl ⟨rfl, rfl⟩⟩, fun i h1 h2 => h.rest i (by omega) h2⟩
end
section
variable {P : Program} {nt : Nat} {ops : Array Oper} {t : Fm} {m : AM} {K : Fm → AM → Prop} {T : Nat} {pp : String} {af : Array Edge}
end
/-- Which gloves of a heap are allowed with each other. -/
def ag (u : Ru) (H : List Gl) (i j : Nat) : Bool := decide (i ≠ j) && decide (0 ≤ cT u H H i j)
/-- The graph of a heap. -/
def Grf (M : AM) (v : Value) (n : Nat) (adj : Nat → Nat → Bool) : Prop := ∃ a wv b, v = .pointer (some ⟨a, 0, none⟩) ∧ a < M.length ∧ Rd M a 0 (.int .i64 (n : Nat)) ∧ Rd M a 1 wv ∧ Sl wv b 0 n ∧ b < M.length ∧ ∀ i, i < n → ∃ w, Rd M b i w ∧ Ints M w (selL (adj i) n)
theorem Grf.old {M : AM} {v : Value} {n : Nat} {adj : Nat → Nat → Bool} (L : AM) (h : Grf M v n adj) : Grf (M ++ L) v n adj := by
  obtain ⟨a, wv, b, h1, h2, h3, h4, h5, h6, h7⟩ := h
  exact ⟨a, wv, b, h1, by simp; omega, h3.old L, h4.old L, h5, by simp; omega, fun i hi => by
    obtain ⟨w, k1, k2⟩ := h7 i hi
    exact ⟨w, k1.old L, k2.old L⟩⟩
end Go.Proofs.Ytajpngnphbdnnaa.Abs
namespace Go.Proofs.Ytajpngnphbdnnaa.Hung
set_option linter.unusedSimpArgs false
set_option linter.unusedVariables false
abbrev BS := List Nat × (Nat → Bool)
structure BInv (n : Nat) (S : Nat → Bool) (s : BS) : Prop where
  nd : s.1.Nodup
  lt : ∀ x ∈ s.1, x < n
  sn : ∀ y, s.2 y = true ↔ (S y = true ∨ y ∈ s.1)
  ds : ∀ y ∈ s.1, S y = false
theorem BInv.len {n : Nat} {S : Nat → Bool} {s : BS} (h : BInv n S s) : s.1.length ≤ n := by
  have := nodup_le h.nd (k := List.range n) fun x hx => List.mem_range.2 (h.lt x hx)
  simpa using this
/-- The gloves that pay for an odd class. -/
def gd (b : Nat → Bool) (M : Nat → Int) (x : Nat) : Bool := !b x && (decide (M x < 0) || b (M x).toNat)
end Go.Proofs.Ytajpngnphbdnnaa.Hung
namespace Go.Proofs.Ytajpngnphbdnnaa.Abs
set_option linter.unusedSimpArgs false
set_option linter.unusedVariables false
open Go.RowKit
open Go.Proofs.Ytajpngnphbdnnaa.Sim
open Go.Proofs
open Hung
theorem costF_sym (u : Ru) (x y : Gl) : costF u x y = costF u y x := by
  have hd : ∀ k, df x y k = df y x k := fun k => by unfold df; omega
  have hc : ∀ k, cst u x y k = cst u y x k := fun k => by
    induction k with
    | zero => rfl
    | succ k ih => simp only [cst]; rw [ih, hd]
  unfold costF; rw [hc]
theorem cT_sym (u : Ru) (L R : List Gl) (i j : Nat) : cT u L R i j = cT u R L j i := by
  unfold cT
  by_cases h : i < L.length ∧ j < R.length
  · rw [if_pos h, if_pos h.symm, costF_sym]
  · rw [if_neg h, if_neg fun h' => h h'.symm]
end Go.Proofs.Ytajpngnphbdnnaa.Abs
namespace Go.Proofs.Ytajpngnphbdnnaa.Hung
set_option linter.unusedSimpArgs false
set_option linter.unusedVariables false
theorem totL_perm {w : Nat → Nat → Int} {R : List Nat} {p : Nat → Nat} {L L' : List Nat} (h : L.Perm L') : totL w R p L = totL w R p L' := by
  induction h with
  | nil => rfl
  | cons x _ ih => simp only [totL]; rw [ih]
  | swap x y l => simp only [totL]; omega
  | trans _ _ h1 h2 => rw [h1, h2]
theorem mx_take2 (w : Nat → Nat → Int) {L R : List Nat} (hL : L.Nodup) (hR : R.Nodup) {x y : Nat} (hx : x ∈ L) (hy : y ∈ R) : w x y + mx w (L.erase x) (R.erase y) ≤ mx w L R := by
  obtain ⟨p, p1, p2⟩ := mx_at w (L.erase x) (R.erase y) (hL.erase x) (hR.erase y)
  obtain ⟨N, hN⟩ := out_of R
  let q : Nat → Nat := fun z => if z = x then y else if p z ∈ R.erase y then p z else N
  have hq : ∀ z, z ≠ x → q z = if p z ∈ R.erase y then p z else N := fun z hz => if_neg hz
  have hqx : q x = y := if_pos rfl
  have hne : ∀ z, z ≠ x → q z ∈ R → p z ∈ R.erase y ∧ q z = p z := fun z hz h => by
    rw [hq z hz] at h ⊢
    by_cases e : p z ∈ R.erase y
    · rw [if_pos e]; exact ⟨e, rfl⟩
    · rw [if_neg e] at h; exact absurd h hN
  have hP : PrL L R q := fun a ha b hb h1 h2 => by
    by_cases ea : a = x
    · by_cases eb : b = x
      · rw [ea, eb]
      · obtain ⟨e1, e2⟩ := hne b eb (by rw [← h2]; exact h1)
        rw [ea, hqx, e2] at h2
        rw [← h2, hR.mem_erase_iff] at e1
        exact absurd rfl e1.1
    · obtain ⟨e1, e2⟩ := hne a ea h1
      by_cases eb : b = x
      · rw [eb, hqx, e2] at h2
        rw [h2, hR.mem_erase_iff] at e1
        exact absurd rfl e1.1
      · obtain ⟨f1, f2⟩ := hne b eb (by rw [← h2]; exact h1)
        exact p1 a (hL.mem_erase_iff.2 ⟨ea, ha⟩) b (hL.mem_erase_iff.2 ⟨eb, hb⟩) e1 (by rw [← e2, ← f2, h2])
  have hub := mx_ub w L R q hL hP
  rw [totL_perm (List.perm_cons_erase hx)] at hub
  simp only [totL] at hub
  rw [hqx, if_pos hy] at hub
  have e : totL w R q (L.erase x) = totL w (R.erase y) p (L.erase x) := totL_congr fun z hz => by
    have hzx : z ≠ x := (hL.mem_erase_iff.1 hz).1
    rw [hq z hzx]
    by_cases e : p z ∈ R.erase y
    · rw [if_pos e, if_pos (List.mem_of_mem_erase e), if_pos e]
    · rw [if_neg e, if_neg hN]; exact (if_neg e).symm
  rw [e, p2] at hub
  exact hub
theorem mx_tr {w : Nat → Nat → Int} (hw : ∀ x y, 0 ≤ w x y) : ∀ (L R : List Nat), L.Nodup → R.Nodup → mx w L R ≤ mx (fun y x => w x y) R L
  | [], R, _, _ => by simp only [mx]; exact mx_nonneg _ _ _
  | x :: L, R, hL, hR => by
    obtain ⟨n1, n2⟩ := List.nodup_cons.1 hL
    rcases mx_cases w x L R with h | ⟨y, hy, h⟩
    · rw [h]
      have := mx_mono (fun y x => w x y) (fun a b => hw b a) R (x :: L) x
      rw [List.erase_cons_head] at this
      exact Int.le_trans (mx_tr hw L R n2 hR) this
    · rw [h]
      have h1 := mx_take2 (fun y x => w x y) hR hL hy (List.mem_cons_self (a := x) (l := L))
      rw [List.erase_cons_head] at h1
      have h2 := mx_tr hw L (R.erase y) n2 (hR.erase y)
      omega
theorem mx_sides {w : Nat → Nat → Int} (hw : ∀ x y, 0 ≤ w x y) {L R : List Nat} (hL : L.Nodup) (hR : R.Nodup) : mx w L R = mx (fun y x => w x y) R L :=
  Int.le_antisymm (mx_tr hw L R hL hR) (mx_tr (w := fun y x => w x y) (fun a b => hw b a) R L hR hL)
end Go.Proofs.Ytajpngnphbdnnaa.Hung
namespace Go.Proofs.Ytajpngnphbdnnaa.Abs
set_option linter.unusedSimpArgs false
set_option linter.unusedVariables false
open Go.RowKit
open Go.Proofs.Ytajpngnphbdnnaa.Sim
open Go.Proofs
open Hung
theorem cT_tr (u : Ru) (L R : List Gl) : cT u R L = fun j i => cT u L R i j := by funext j i; exact cT_sym u R L j i
theorem okB_sides (L R : List Gl) (u : Ru) : okB R L u = okB L R u := by unfold okB; rw [Bool.and_comm (sB R) (sB L)]
theorem mst_sides (u : Ru) (L R : List Gl) : mst u R L = mst u L R := by
  unfold mst
  rw [kM_sides (okc (cT u L R) 1000000000), cT_tr u L R]; rfl
theorem evV_sides {c : Nat → Nat → Int} {l r : Nat} (hc : Cs c) : evV (fun j i => c i j) r l = evV c l r := by
  have hex : ∃ v, EvS c l r v := by
    by_cases h0 : mtx c l r 1000000000 = 0
    · exact ⟨0, fun _ => rfl, fun h => absurd h0 h⟩
    · obtain ⟨hpos, hl⟩ := ev_last (S := allS c l r) (fun x => allS_mem x) (srt_pw _) hc h0
      have key : ∀ n, (∃ i, i < n ∧ i < (allS c l r).length ∧ mtx c l r ((allS c l r).getD i 0) = mtx c l r 1000000000) → ∃ i, i < (allS c l r).length ∧ mtx c l r ((allS c l r).getD i 0) = mtx c l r 1000000000 ∧ ∀ k, k < i → mtx c l r ((allS c l r).getD k 0) ≠ mtx c l r 1000000000 := fun n => by
        induction n with
        | zero => rintro ⟨i, h, _⟩; omega
        | succ n ih =>
          rintro ⟨i, h1, h2, h3⟩
          by_cases h : ∃ i, i < n ∧ i < (allS c l r).length ∧ mtx c l r ((allS c l r).getD i 0) = mtx c l r 1000000000
          · exact ih h
          · have hin : i = n := by
              apply Classical.byContradiction
              intro e
              exact h ⟨i, by omega, h2, h3⟩
            subst hin
            exact ⟨i, h2, h3, fun k hk he => h ⟨k, hk, by omega, he⟩⟩
      obtain ⟨i, i1, i2, i3⟩ := key (allS c l r).length ⟨(allS c l r).length - 1, by omega, by omega, hl⟩
      exact ⟨_, ev_end (fun x => allS_mem x) (srt_pw _) i1 h0 i2 i3⟩
  obtain ⟨v, hv⟩ := hex
  rw [hv.evV, hv.tr.evV]
theorem wgh_chp {c : Nat → Nat → Int} {l r : Nat} (hc : Cs c) (hl : l ≤ 32) : ∃ s q, wgh c l r (chp c (List.range l) (List.range r)) = (s, q, 0) ∧ 1000000000 * s - q = mx (wo c) (List.range l) (List.range r) ∧ 0 ≤ q ∧ q ≤ 128000000 ∧ 0 ≤ s ∧ s ≤ 32 := by
  have hc9 : ∀ x y, c x y ≤ 1000000000 := fun x y => by have := (hc x y).2; omega
  have hv := vps_chp hc9 (List.range l) (List.range r)
  have hlen := chp_len c (List.range l) (List.range r)
  rw [List.length_range] at hlen
  generalize chp c (List.range l) (List.range r) = M at *
  have ht := wgS_total (c := c) (r := r) (M := M)
  rw [hlen, hv] at ht
  obtain ⟨tk, s, q, h1, h2⟩ := ht
  have hb := wgS_bd hc h1
  simp only at hb
  refine ⟨s, q, ?_, by omega, by omega, by omega, by omega, by omega⟩
  unfold wgh
  rw [if_neg (by omega), h1]
set_option maxHeartbeats 8000000 in
set_option maxRecDepth 100000 in
theorem PairSides_ok {m : AM} {lv rv : Value} {L R : List Gl} {u : Ru} (hl : Gls m lv L) (hr : Gls m rv R) (h1 : L.length ≤ 9223372036854775807) (h2 : R.length ≤ 9223372036854775807) :
    ACall Try.prog 19 #[lv, rv, u.v] m (Ret (.bool true) m) := by
  refine ACall.drop (Ren.of_g0 rfl) ?_
  refine ACall.start Try.func19 rfl rfl ?_
  (repeat (first | (with_reducible refine AWo.cons ?_) | ((with_reducible refine Step.id ?_); first | ((with_reducible apply Step.assign); exact rfl; exact rfl) | ((with_reducible apply Step.box 0); exact rfl; exact rfl; (focus (kernel_rfl)); exact rfl; (focus (first | (simp only [List.nil_append, List.cons_append, List.set_cons_zero, List.set_cons_succ, iv_set, bv_set, iv_rep, bv_rep]; done) | (simp only [List.nil_append, List.cons_append, List.set_cons_zero, List.set_cons_succ, iv_set, bv_set, iv_rep, bv_rep]; rfl) | rfl)))) | (with_reducible refine AWo.nil ?_) | ((fail_if_success (with_reducible refine AW.atR (id := 1) ?_)); ((with_reducible apply AW.seq))) | ((with_reducible apply Then.n)) | ((with_reducible apply AW.regL))))
  have hU0 : RdL (m ++ [some { cells := u.cells }]) (m.length + 0) 0 u.cells := RdL.new rfl rfl
  have hl0 := hl.old [some { cells := u.cells }]
  have hr0 := hr.old [some { cells := u.cells }]
  have hp0 : ∃ N, m ++ [some ({ cells := u.cells } : Blk)] = m ++ N := ⟨_, rfl⟩
  refine AW.rebase ?_
  obtain ⟨M0, hM0⟩ : ∃ M0, m ++ [some ({ cells := u.cells } : Blk)] = M0 := ⟨_, rfl⟩
  have hM0' : m ++ [some ({ cells := u.v.cells.toList } : Blk)] = M0 := hM0
  rw [hM0']
  rw [hM0] at hU0 hl0 hr0 hp0
  clear hM0 hM0'
  cases hok : okB L R u with
  | false =>
    have hn : (sB (L.take 34) && sB (R.take 34) && uB u) = false := by rw [← hok]; exact okB34 L R u
    have hn2 : (sB (R.take 34) && sB (L.take 34) && uB u) = false := by rw [← hok, ← okB_sides L R u]; exact okB34 R L u
    have t1 : (L.take 34).length ≤ 100000 := by simp only [List.length_take]; omega
    have t2 : (R.take 34).length ≤ 100000 := by simp only [List.length_take]; omega
    have cl0 := fun T => lside_ok (hl0.old T) h1
    have cr0 := fun T => lside_ok (hr0.old T) h2
    have cu0 := fun T => rule_ok (m := M0 ++ T) u
    have ga0 : Gls (M0 ++ [gb (glC (L.take 34)) 4, gb (glC (R.take 34)) 4]) (gv (M0.length + 0) (L.take 34).length) (L.take 34) := gls_new (k := 0) (by simp) rfl
    have gb0 : Gls (M0 ++ [gb (glC (L.take 34)) 4, gb (glC (R.take 34)) 4]) (gv (M0.length + 1) (R.take 34).length) (R.take 34) := gls_new (k := 1) (by simp) rfl
    have w0 := Most_no (u := u) ga0 gb0 t1 t2 hn
    refine AW.joinS [(0, lv), (1, rv), (5, .pointer (some ⟨m.length + 0, 0, none⟩)), (7, .int .i64 0), (8, .int .i64 2)] (M0 ++ [gb (glC (L.take 34)) 4, gb (glC (R.take 34)) 4]) ?_ ?_
    · (repeat' (first | ((with_reducible refine Step.id ?_); first | ((with_reducible apply Step.move); exact rfl; exact rfl) | ((with_reducible apply Step.assign); exact rfl; exact rfl) | ((with_reducible apply Step.loadL (n := 8)); exact rfl; (focus (decide +kernel)); (focus (decide +kernel)); exact rfl; (focus (exact RdL.old _ (by assumption))); exact rfl; exact rfl) | ((with_reducible apply Step.extract); exact rfl; exact rfl; exact rfl) | ((with_reducible apply Step.callG fit (k := 0)); exact rfl; exact rfl; exact Try.func21; exact rfl; exact rfl; exact (cl0 _); (focus (first | (simp only [List.nil_append, List.cons_append, List.set_cons_zero, List.set_cons_succ, iv_set, bv_set, iv_rep, bv_rep]; done) | (simp only [List.nil_append, List.cons_append, List.set_cons_zero, List.set_cons_succ, iv_set, bv_set, iv_rep, bv_rep]; rfl) | rfl))) | ((with_reducible apply Step.callG fit (k := 1)); exact rfl; exact rfl; exact Try.func21; exact rfl; exact rfl; exact (cr0 _); (focus (first | (simp only [List.nil_append, List.cons_append, List.set_cons_zero, List.set_cons_succ, iv_set, bv_set, iv_rep, bv_rep]; done) | (simp only [List.nil_append, List.cons_append, List.set_cons_zero, List.set_cons_succ, iv_set, bv_set, iv_rep, bv_rep]; rfl) | rfl))) | ((with_reducible apply Step.callR fit); exact rfl; exact Try.func22; exact rfl; exact rfl; exact (cu0 _)) | ((with_reducible apply Step.callR fit); exact rfl; exact Try.func32; exact rfl; exact rfl; exact (w0))) | ((with_reducible apply Then.n)) | ((with_reducible apply AW.drawT fit (T := (.step 0 (.step 2 (.both (.step 1 (.both (.step 3 (.step 4 (.step 5 (.step 6 (.step 7 (.step 8 (.step 9 (.step 10 (.step 11 .done))))))))) (.step 4 (.step 3 (.step 5 (.step 6 (.step 7 (.step 8 (.step 9 (.step 10 (.step 11 .done))))))))))) (.step 4 (.step 1 (.step 3 (.step 5 (.step 6 (.step 7 (.step 8 (.step 9 (.step 10 (.step 11 .done))))))))))))))); (focus (decide +kernel))) | ((with_reducible apply AWt.step); exact rfl) | ((with_reducible apply AWt.done)) | refine AWt.both ?_ ?_))
      all_goals exact ⟨rfl, (by repeat (first | exact trivial | (refine And.intro rfl ?_)))⟩
    have hU1 := hU0.old [gb (glC (L.take 34)) 4, gb (glC (R.take 34)) 4]
    have hl1 := hl0.old [gb (glC (L.take 34)) 4, gb (glC (R.take 34)) 4]
    have hr1 := hr0.old [gb (glC (L.take 34)) 4, gb (glC (R.take 34)) 4]
    have hp1 : ∃ N, M0 ++ [gb (glC (L.take 34)) 4, gb (glC (R.take 34)) 4] = m ++ N := by
      obtain ⟨N, hN⟩ := hp0
      exact ⟨_, by rw [hN, List.append_assoc]⟩
    clear cl0 cr0 cu0 ga0 gb0 w0
    refine AW.rebase ?_
    generalize M0 ++ [gb (glC (L.take 34)) 4, gb (glC (R.take 34)) 4] = M1 at *
    have cl1 := fun T => lside_ok (hl1.old T) h1
    have cr1 := fun T => lside_ok (hr1.old T) h2
    have cu1 := fun T => rule_ok (m := M1 ++ T) u
    have ga1 : Gls (M1 ++ [gb (glC (R.take 34)) 4, gb (glC (L.take 34)) 4]) (gv (M1.length + 0) (R.take 34).length) (R.take 34) := gls_new (k := 0) (by simp) rfl
    have gb1 : Gls (M1 ++ [gb (glC (R.take 34)) 4, gb (glC (L.take 34)) 4]) (gv (M1.length + 1) (L.take 34).length) (L.take 34) := gls_new (k := 1) (by simp) rfl
    have w1 := Most_no (u := u) ga1 gb1 t2 t1 hn2
    (repeat ((with_reducible refine AWo.cons ?_)))
    refine AW.joinS [(0, lv), (1, rv), (5, .pointer (some ⟨m.length + 0, 0, none⟩)), (7, .int .i64 0), (8, .int .i64 2), (9, .int .i64 0), (10, .int .i64 2)] (M1 ++ [gb (glC (R.take 34)) 4, gb (glC (L.take 34)) 4]) ?_ ?_
    · (repeat' (first | ((with_reducible refine Step.id ?_); first | ((with_reducible apply Step.move); exact rfl; exact rfl) | ((with_reducible apply Step.assign); exact rfl; exact rfl) | ((with_reducible apply Step.loadL (n := 8)); exact rfl; (focus (decide +kernel)); (focus (decide +kernel)); exact rfl; (focus (exact RdL.old _ (by assumption))); exact rfl; exact rfl) | ((with_reducible apply Step.extract); exact rfl; exact rfl; exact rfl) | ((with_reducible apply Step.callG fit (k := 1)); exact rfl; exact rfl; exact Try.func21; exact rfl; exact rfl; exact (cl1 _); (focus (first | (simp only [List.nil_append, List.cons_append, List.set_cons_zero, List.set_cons_succ, iv_set, bv_set, iv_rep, bv_rep]; done) | (simp only [List.nil_append, List.cons_append, List.set_cons_zero, List.set_cons_succ, iv_set, bv_set, iv_rep, bv_rep]; rfl) | rfl))) | ((with_reducible apply Step.callG fit (k := 0)); exact rfl; exact rfl; exact Try.func21; exact rfl; exact rfl; exact (cr1 _); (focus (first | (simp only [List.nil_append, List.cons_append, List.set_cons_zero, List.set_cons_succ, iv_set, bv_set, iv_rep, bv_rep]; done) | (simp only [List.nil_append, List.cons_append, List.set_cons_zero, List.set_cons_succ, iv_set, bv_set, iv_rep, bv_rep]; rfl) | rfl))) | ((with_reducible apply Step.callR fit); exact rfl; exact Try.func22; exact rfl; exact rfl; exact (cu1 _)) | ((with_reducible apply Step.callR fit); exact rfl; exact Try.func32; exact rfl; exact rfl; exact (w1))) | ((with_reducible apply Then.n)) | ((with_reducible apply AW.drawT fit (T := (.step 0 (.step 2 (.both (.step 1 (.both (.step 3 (.step 4 (.step 5 (.step 6 (.step 7 (.step 8 (.step 9 (.step 10 (.step 11 .done))))))))) (.step 4 (.step 3 (.step 5 (.step 6 (.step 7 (.step 8 (.step 9 (.step 10 (.step 11 .done))))))))))) (.step 4 (.step 1 (.step 3 (.step 5 (.step 6 (.step 7 (.step 8 (.step 9 (.step 10 (.step 11 .done))))))))))))))); (focus (decide +kernel))) | ((with_reducible apply AWt.step); exact rfl) | ((with_reducible apply AWt.done)) | refine AWt.both ?_ ?_))
      all_goals exact ⟨rfl, (by repeat (first | exact trivial | (refine And.intro rfl ?_)))⟩
    have hU2 := hU1.old [gb (glC (R.take 34)) 4, gb (glC (L.take 34)) 4]
    have hl2 := hl1.old [gb (glC (R.take 34)) 4, gb (glC (L.take 34)) 4]
    have hr2 := hr1.old [gb (glC (R.take 34)) 4, gb (glC (L.take 34)) 4]
    have hp2 : ∃ N, M1 ++ [gb (glC (R.take 34)) 4, gb (glC (L.take 34)) 4] = m ++ N := by
      obtain ⟨N, hN⟩ := hp1
      exact ⟨_, by rw [hN, List.append_assoc]⟩
    clear cl1 cr1 cu1 ga1 gb1 w1
    refine AW.rebase ?_
    generalize M1 ++ [gb (glC (R.take 34)) 4, gb (glC (L.take 34)) 4] = M2 at *
    have cl2 := fun T => lside_ok (hl2.old T) h1
    have cr2 := fun T => lside_ok (hr2.old T) h2
    have cu2 := fun T => rule_ok (m := M2 ++ T) u
    have ga2 : Gls (M2 ++ [gb (glC (L.take 34)) 4, gb (glC (R.take 34)) 4]) (gv (M2.length + 0) (L.take 34).length) (L.take 34) := gls_new (k := 0) (by simp) rfl
    have gb2 : Gls (M2 ++ [gb (glC (L.take 34)) 4, gb (glC (R.take 34)) 4]) (gv (M2.length + 1) (R.take 34).length) (R.take 34) := gls_new (k := 1) (by simp) rfl
    have w2 := Even_no (u := u) ga2 gb2 t1 t2 hn
    (repeat (first | (with_reducible refine AWo.cons ?_) | ((with_reducible refine Step.id ?_); first | ((with_reducible apply Step.gdT); exact rfl; exact rfl; (focus (rfl))) | ((with_reducible apply Step.move); exact rfl; exact rfl) | ((with_reducible apply Step.neq); exact rfl; exact rfl; exact rfl) | ((with_reducible apply Step.pickF); exact rfl; exact rfl; exact rfl; exact rfl; (focus (rfl)))) | (with_reducible refine AWo.nil ?_) | ((fail_if_success (with_reducible refine AW.atR (id := 5) ?_)); ((with_reducible apply AW.seq))) | ((with_reducible apply Then.n)) | ((with_reducible apply AW.regL)) | ((with_reducible apply AW.skip)) | ((with_reducible apply AW.condF); exact rfl; (focus (rfl)))))
    refine AW.joinS [(0, lv), (1, rv), (5, .pointer (some ⟨m.length + 0, 0, none⟩)), (7, .int .i64 0), (8, .int .i64 2)] (M2 ++ [gb (glC (L.take 34)) 4, gb (glC (R.take 34)) 4]) ?_ ?_
    · (repeat' (first | ((with_reducible refine Step.id ?_); first | ((with_reducible apply Step.move); exact rfl; exact rfl) | ((with_reducible apply Step.assign); exact rfl; exact rfl) | ((with_reducible apply Step.loadL (n := 8)); exact rfl; (focus (decide +kernel)); (focus (decide +kernel)); exact rfl; (focus (exact RdL.old _ (by assumption))); exact rfl; exact rfl) | ((with_reducible apply Step.extract); exact rfl; exact rfl; exact rfl) | ((with_reducible apply Step.callG fit (k := 0)); exact rfl; exact rfl; exact Try.func21; exact rfl; exact rfl; exact (cl2 _); (focus (first | (simp only [List.nil_append, List.cons_append, List.set_cons_zero, List.set_cons_succ, iv_set, bv_set, iv_rep, bv_rep]; done) | (simp only [List.nil_append, List.cons_append, List.set_cons_zero, List.set_cons_succ, iv_set, bv_set, iv_rep, bv_rep]; rfl) | rfl))) | ((with_reducible apply Step.callG fit (k := 1)); exact rfl; exact rfl; exact Try.func21; exact rfl; exact rfl; exact (cr2 _); (focus (first | (simp only [List.nil_append, List.cons_append, List.set_cons_zero, List.set_cons_succ, iv_set, bv_set, iv_rep, bv_rep]; done) | (simp only [List.nil_append, List.cons_append, List.set_cons_zero, List.set_cons_succ, iv_set, bv_set, iv_rep, bv_rep]; rfl) | rfl))) | ((with_reducible apply Step.callR fit); exact rfl; exact Try.func22; exact rfl; exact rfl; exact (cu2 _)) | ((with_reducible apply Step.callR fit); exact rfl; exact Try.func52; exact rfl; exact rfl; exact (w2))) | ((with_reducible apply Then.n)) | ((with_reducible apply AW.drawT fit (T := (.step 0 (.step 2 (.both (.step 1 (.both (.step 3 (.step 4 (.step 5 (.step 6 (.step 7 (.step 8 (.step 9 (.step 10 (.step 11 .done))))))))) (.step 4 (.step 3 (.step 5 (.step 6 (.step 7 (.step 8 (.step 9 (.step 10 (.step 11 .done))))))))))) (.step 4 (.step 1 (.step 3 (.step 5 (.step 6 (.step 7 (.step 8 (.step 9 (.step 10 (.step 11 .done))))))))))))))); (focus (decide +kernel))) | ((with_reducible apply AWt.step); exact rfl) | ((with_reducible apply AWt.done)) | refine AWt.both ?_ ?_))
      all_goals exact ⟨rfl, (by repeat (first | exact trivial | (refine And.intro rfl ?_)))⟩
    have hU3 := hU2.old [gb (glC (L.take 34)) 4, gb (glC (R.take 34)) 4]
    have hl3 := hl2.old [gb (glC (L.take 34)) 4, gb (glC (R.take 34)) 4]
    have hr3 := hr2.old [gb (glC (L.take 34)) 4, gb (glC (R.take 34)) 4]
    have hp3 : ∃ N, M2 ++ [gb (glC (L.take 34)) 4, gb (glC (R.take 34)) 4] = m ++ N := by
      obtain ⟨N, hN⟩ := hp2
      exact ⟨_, by rw [hN, List.append_assoc]⟩
    clear cl2 cr2 cu2 ga2 gb2 w2
    refine AW.rebase ?_
    generalize M2 ++ [gb (glC (L.take 34)) 4, gb (glC (R.take 34)) 4] = M3 at *
    have cl3 := fun T => lside_ok (hl3.old T) h1
    have cr3 := fun T => lside_ok (hr3.old T) h2
    have cu3 := fun T => rule_ok (m := M3 ++ T) u
    have ga3 : Gls (M3 ++ [gb (glC (R.take 34)) 4, gb (glC (L.take 34)) 4]) (gv (M3.length + 0) (R.take 34).length) (R.take 34) := gls_new (k := 0) (by simp) rfl
    have gb3 : Gls (M3 ++ [gb (glC (R.take 34)) 4, gb (glC (L.take 34)) 4]) (gv (M3.length + 1) (L.take 34).length) (L.take 34) := gls_new (k := 1) (by simp) rfl
    have w3 := Even_no (u := u) ga3 gb3 t2 t1 hn2
    (repeat ((with_reducible refine AWo.cons ?_)))
    refine AW.joinS [(0, lv), (1, rv), (5, .pointer (some ⟨m.length + 0, 0, none⟩)), (7, .int .i64 0), (8, .int .i64 2), (9, .int .i64 0), (10, .int .i64 2)] (M3 ++ [gb (glC (R.take 34)) 4, gb (glC (L.take 34)) 4]) ?_ ?_
    · (repeat' (first | ((with_reducible refine Step.id ?_); first | ((with_reducible apply Step.move); exact rfl; exact rfl) | ((with_reducible apply Step.assign); exact rfl; exact rfl) | ((with_reducible apply Step.loadL (n := 8)); exact rfl; (focus (decide +kernel)); (focus (decide +kernel)); exact rfl; (focus (exact RdL.old _ (by assumption))); exact rfl; exact rfl) | ((with_reducible apply Step.extract); exact rfl; exact rfl; exact rfl) | ((with_reducible apply Step.callG fit (k := 1)); exact rfl; exact rfl; exact Try.func21; exact rfl; exact rfl; exact (cl3 _); (focus (first | (simp only [List.nil_append, List.cons_append, List.set_cons_zero, List.set_cons_succ, iv_set, bv_set, iv_rep, bv_rep]; done) | (simp only [List.nil_append, List.cons_append, List.set_cons_zero, List.set_cons_succ, iv_set, bv_set, iv_rep, bv_rep]; rfl) | rfl))) | ((with_reducible apply Step.callG fit (k := 0)); exact rfl; exact rfl; exact Try.func21; exact rfl; exact rfl; exact (cr3 _); (focus (first | (simp only [List.nil_append, List.cons_append, List.set_cons_zero, List.set_cons_succ, iv_set, bv_set, iv_rep, bv_rep]; done) | (simp only [List.nil_append, List.cons_append, List.set_cons_zero, List.set_cons_succ, iv_set, bv_set, iv_rep, bv_rep]; rfl) | rfl))) | ((with_reducible apply Step.callR fit); exact rfl; exact Try.func22; exact rfl; exact rfl; exact (cu3 _)) | ((with_reducible apply Step.callR fit); exact rfl; exact Try.func52; exact rfl; exact rfl; exact (w3))) | ((with_reducible apply Then.n)) | ((with_reducible apply AW.drawT fit (T := (.step 0 (.step 2 (.both (.step 1 (.both (.step 3 (.step 4 (.step 5 (.step 6 (.step 7 (.step 8 (.step 9 (.step 10 (.step 11 .done))))))))) (.step 4 (.step 3 (.step 5 (.step 6 (.step 7 (.step 8 (.step 9 (.step 10 (.step 11 .done))))))))))) (.step 4 (.step 1 (.step 3 (.step 5 (.step 6 (.step 7 (.step 8 (.step 9 (.step 10 (.step 11 .done))))))))))))))); (focus (decide +kernel))) | ((with_reducible apply AWt.step); exact rfl) | ((with_reducible apply AWt.done)) | refine AWt.both ?_ ?_))
      all_goals exact ⟨rfl, (by repeat (first | exact trivial | (refine And.intro rfl ?_)))⟩
    have hU4 := hU3.old [gb (glC (R.take 34)) 4, gb (glC (L.take 34)) 4]
    have hl4 := hl3.old [gb (glC (R.take 34)) 4, gb (glC (L.take 34)) 4]
    have hr4 := hr3.old [gb (glC (R.take 34)) 4, gb (glC (L.take 34)) 4]
    have hp4 : ∃ N, M3 ++ [gb (glC (R.take 34)) 4, gb (glC (L.take 34)) 4] = m ++ N := by
      obtain ⟨N, hN⟩ := hp3
      exact ⟨_, by rw [hN, List.append_assoc]⟩
    clear cl3 cr3 cu3 ga3 gb3 w3
    refine AW.rebase ?_
    generalize M3 ++ [gb (glC (R.take 34)) 4, gb (glC (L.take 34)) 4] = M4 at *
    have cl4 := fun T => lside_ok (hl4.old T) h1
    have cr4 := fun T => lside_ok (hr4.old T) h2
    have cu4 := fun T => rule_ok (m := M4 ++ T) u
    have ga4 : Gls (M4 ++ [gb (glC (L.take 34)) 4, gb (glC (R.take 34)) 4]) (gv (M4.length + 0) (L.take 34).length) (L.take 34) := gls_new (k := 0) (by simp) rfl
    have gb4 : Gls (M4 ++ [gb (glC (L.take 34)) 4, gb (glC (R.take 34)) 4]) (gv (M4.length + 1) (R.take 34).length) (R.take 34) := gls_new (k := 1) (by simp) rfl
    have w4 := Cheapest_no (u := u) ga4 gb4 t1 t2 hn
    (repeat (first | (with_reducible refine AWo.cons ?_) | ((with_reducible refine Step.id ?_); first | ((with_reducible apply Step.gdT); exact rfl; exact rfl; (focus (rfl))) | ((with_reducible apply Step.move); exact rfl; exact rfl) | ((with_reducible apply Step.neq); exact rfl; exact rfl; exact rfl) | ((with_reducible apply Step.pickF); exact rfl; exact rfl; exact rfl; exact rfl; (focus (rfl)))) | (with_reducible refine AWo.nil ?_) | ((fail_if_success (with_reducible refine AW.atR (id := 9) ?_)); ((with_reducible apply AW.seq))) | ((with_reducible apply Then.n)) | ((with_reducible apply AW.regL)) | ((with_reducible apply AW.skip)) | ((with_reducible apply AW.condF); exact rfl; (focus (rfl)))))
    refine AW.joinS [(0, lv), (1, rv), (5, .pointer (some ⟨m.length + 0, 0, none⟩)), (8, .int .i64 2)] (M4 ++ [gb (glC (L.take 34)) 4, gb (glC (R.take 34)) 4]) ?_ ?_
    · (repeat' (first | ((with_reducible refine Step.id ?_); first | ((with_reducible apply Step.move); exact rfl; exact rfl) | ((with_reducible apply Step.assign); exact rfl; exact rfl) | ((with_reducible apply Step.loadL (n := 8)); exact rfl; (focus (decide +kernel)); (focus (decide +kernel)); exact rfl; (focus (exact RdL.old _ (by assumption))); exact rfl; exact rfl) | ((with_reducible apply Step.extract); exact rfl; exact rfl; exact rfl) | ((with_reducible apply Step.callG fit (k := 0)); exact rfl; exact rfl; exact Try.func21; exact rfl; exact rfl; exact (cl4 _); (focus (first | (simp only [List.nil_append, List.cons_append, List.set_cons_zero, List.set_cons_succ, iv_set, bv_set, iv_rep, bv_rep]; done) | (simp only [List.nil_append, List.cons_append, List.set_cons_zero, List.set_cons_succ, iv_set, bv_set, iv_rep, bv_rep]; rfl) | rfl))) | ((with_reducible apply Step.callG fit (k := 1)); exact rfl; exact rfl; exact Try.func21; exact rfl; exact rfl; exact (cr4 _); (focus (first | (simp only [List.nil_append, List.cons_append, List.set_cons_zero, List.set_cons_succ, iv_set, bv_set, iv_rep, bv_rep]; done) | (simp only [List.nil_append, List.cons_append, List.set_cons_zero, List.set_cons_succ, iv_set, bv_set, iv_rep, bv_rep]; rfl) | rfl))) | ((with_reducible apply Step.callR fit); exact rfl; exact Try.func22; exact rfl; exact rfl; exact (cu4 _)) | ((with_reducible apply Step.callR fit); exact rfl; exact Try.func20; exact rfl; exact rfl; exact (w4))) | ((with_reducible apply Then.n)) | ((with_reducible apply AW.drawT fit (T := (.step 0 (.step 2 (.both (.step 1 (.both (.step 3 (.step 4 (.step 5 (.step 6 (.step 7 (.step 8 (.step 9 (.step 10 (.step 11 .done))))))))) (.step 4 (.step 3 (.step 5 (.step 6 (.step 7 (.step 8 (.step 9 (.step 10 (.step 11 .done))))))))))) (.step 4 (.step 1 (.step 3 (.step 5 (.step 6 (.step 7 (.step 8 (.step 9 (.step 10 (.step 11 .done))))))))))))))); (focus (decide +kernel))) | ((with_reducible apply AWt.step); exact rfl) | ((with_reducible apply AWt.done)) | refine AWt.both ?_ ?_))
      all_goals exact ⟨rfl, (by repeat (first | exact trivial | (refine And.intro rfl ?_)))⟩
    have hU5 := hU4.old [gb (glC (L.take 34)) 4, gb (glC (R.take 34)) 4]
    have hl5 := hl4.old [gb (glC (L.take 34)) 4, gb (glC (R.take 34)) 4]
    have hr5 := hr4.old [gb (glC (L.take 34)) 4, gb (glC (R.take 34)) 4]
    have hp5 : ∃ N, M4 ++ [gb (glC (L.take 34)) 4, gb (glC (R.take 34)) 4] = m ++ N := by
      obtain ⟨N, hN⟩ := hp4
      exact ⟨_, by rw [hN, List.append_assoc]⟩
    clear cl4 cr4 cu4 ga4 gb4 w4
    refine AW.rebase ?_
    generalize M4 ++ [gb (glC (L.take 34)) 4, gb (glC (R.take 34)) 4] = M5 at *
    have cl5 := fun T => lside_ok (hl5.old T) h1
    have cr5 := fun T => lside_ok (hr5.old T) h2
    have cu5 := fun T => rule_ok (m := M5 ++ T) u
    have ga5 : Gls (M5 ++ [gb (glC (R.take 34)) 4, gb (glC (L.take 34)) 4]) (gv (M5.length + 0) (R.take 34).length) (R.take 34) := gls_new (k := 0) (by simp) rfl
    have gb5 : Gls (M5 ++ [gb (glC (R.take 34)) 4, gb (glC (L.take 34)) 4]) (gv (M5.length + 1) (L.take 34).length) (L.take 34) := gls_new (k := 1) (by simp) rfl
    have w5 := Cheapest_no (u := u) ga5 gb5 t2 t1 hn2
    (repeat ((with_reducible refine AWo.cons ?_)))
    refine AW.joinS [(0, lv), (1, rv), (5, .pointer (some ⟨m.length + 0, 0, none⟩)), (8, .int .i64 2), (10, .int .i64 2)] (M5 ++ [gb (glC (R.take 34)) 4, gb (glC (L.take 34)) 4]) ?_ ?_
    · (repeat' (first | ((with_reducible refine Step.id ?_); first | ((with_reducible apply Step.move); exact rfl; exact rfl) | ((with_reducible apply Step.assign); exact rfl; exact rfl) | ((with_reducible apply Step.loadL (n := 8)); exact rfl; (focus (decide +kernel)); (focus (decide +kernel)); exact rfl; (focus (exact RdL.old _ (by assumption))); exact rfl; exact rfl) | ((with_reducible apply Step.extract); exact rfl; exact rfl; exact rfl) | ((with_reducible apply Step.callG fit (k := 1)); exact rfl; exact rfl; exact Try.func21; exact rfl; exact rfl; exact (cl5 _); (focus (first | (simp only [List.nil_append, List.cons_append, List.set_cons_zero, List.set_cons_succ, iv_set, bv_set, iv_rep, bv_rep]; done) | (simp only [List.nil_append, List.cons_append, List.set_cons_zero, List.set_cons_succ, iv_set, bv_set, iv_rep, bv_rep]; rfl) | rfl))) | ((with_reducible apply Step.callG fit (k := 0)); exact rfl; exact rfl; exact Try.func21; exact rfl; exact rfl; exact (cr5 _); (focus (first | (simp only [List.nil_append, List.cons_append, List.set_cons_zero, List.set_cons_succ, iv_set, bv_set, iv_rep, bv_rep]; done) | (simp only [List.nil_append, List.cons_append, List.set_cons_zero, List.set_cons_succ, iv_set, bv_set, iv_rep, bv_rep]; rfl) | rfl))) | ((with_reducible apply Step.callR fit); exact rfl; exact Try.func22; exact rfl; exact rfl; exact (cu5 _)) | ((with_reducible apply Step.callR fit); exact rfl; exact Try.func20; exact rfl; exact rfl; exact (w5))) | ((with_reducible apply Then.n)) | ((with_reducible apply AW.drawT fit (T := (.step 0 (.step 2 (.both (.step 1 (.both (.step 3 (.step 4 (.step 5 (.step 6 (.step 7 (.step 8 (.step 9 (.step 10 (.step 11 .done))))))))) (.step 4 (.step 3 (.step 5 (.step 6 (.step 7 (.step 8 (.step 9 (.step 10 (.step 11 .done))))))))))) (.step 4 (.step 1 (.step 3 (.step 5 (.step 6 (.step 7 (.step 8 (.step 9 (.step 10 (.step 11 .done))))))))))))))); (focus (decide +kernel))) | ((with_reducible apply AWt.step); exact rfl) | ((with_reducible apply AWt.done)) | refine AWt.both ?_ ?_))
      all_goals exact ⟨rfl, (by repeat (first | exact trivial | (refine And.intro rfl ?_)))⟩
    have hU6 := hU5.old [gb (glC (R.take 34)) 4, gb (glC (L.take 34)) 4]
    have hl6 := hl5.old [gb (glC (R.take 34)) 4, gb (glC (L.take 34)) 4]
    have hr6 := hr5.old [gb (glC (R.take 34)) 4, gb (glC (L.take 34)) 4]
    have hp6 : ∃ N, M5 ++ [gb (glC (R.take 34)) 4, gb (glC (L.take 34)) 4] = m ++ N := by
      obtain ⟨N, hN⟩ := hp5
      exact ⟨_, by rw [hN, List.append_assoc]⟩
    clear cl5 cr5 cu5 ga5 gb5 w5
    refine AW.rebase ?_
    generalize M5 ++ [gb (glC (R.take 34)) 4, gb (glC (L.take 34)) 4] = M6 at *
    (repeat (first | (with_reducible refine AWo.cons ?_) | ((with_reducible refine Step.id ?_); first | ((with_reducible apply Step.gdT); exact rfl; exact rfl; (focus (rfl))) | ((with_reducible apply Step.gdF); exact rfl; exact rfl; (focus (rfl))) | ((with_reducible apply Step.move); exact rfl; exact rfl) | ((with_reducible apply Step.assign); exact rfl; exact rfl) | ((with_reducible apply Step.eql); exact rfl; exact rfl; exact rfl) | ((with_reducible apply Step.neq); exact rfl; exact rfl; exact rfl) | ((with_reducible apply Step.pickT); exact rfl; exact rfl; exact rfl; exact rfl; (focus (rfl))) | ((with_reducible apply Step.callR fit); exact rfl; exact Try.func25; exact rfl; exact rfl; exact (awake_ok))) | (with_reducible refine AWo.nil ?_) | ((with_reducible apply AW.seq)) | ((with_reducible apply Then.n)) | ((with_reducible apply AW.regL)) | ((with_reducible apply AW.condT); exact rfl; (focus (rfl)))))
    (refine AW.ret ?_; (repeat (first | refine Then.r ?_ | refine InBlk.r ?_)))
    obtain ⟨N, hN⟩ := hp6
    exact ⟨_, by first | rfl | (simp; done) | (simp; rfl), rfl, N, by first | exact hN | (rw [List.append_nil]; exact hN)⟩
  | true =>
    obtain ⟨k1, k2, k3⟩ := okB_iff hok
    obtain ⟨e34, f34⟩ := cT34 hok
    obtain ⟨k4, k5⟩ := okB_len hok
    have hok2 : okB R L u = true := by rw [okB_sides]; exact hok
    have hcs := cT_cs k3 k1 k2
    have hcs2 := cT_cs k3 k2 k1
    obtain ⟨s, q, hw1, hw2, hq0, hq1, hs0, hs1⟩ := wgh_chp (r := R.length) hcs k4
    obtain ⟨s', q', hw1', hw2', hq0', hq1', hs0', hs1'⟩ := wgh_chp (r := L.length) hcs2 k5
    have hmx : mx (wo (cT u L R)) (List.range L.length) (List.range R.length) = mx (wo (cT u R L)) (List.range R.length) (List.range L.length) := by
      rw [mx_sides (wo_nonneg fun x y => by have := (hcs x y).2; omega) List.nodup_range List.nodup_range, cT_tr u L R]; rfl
    have hss : s' = s ∧ q' = q := by rw [hmx] at hw2; omega
    obtain ⟨rfl, rfl⟩ := hss
    have hwR : wghR L R u (chp (cT u L R) (List.range L.length) (List.range R.length)) = (s', q', 0) := by unfold wghR; rw [if_pos hok]; exact hw1
    have hwR2 : wghR R L u (chp (cT u R L) (List.range R.length) (List.range L.length)) = (s', q', 0) := by unfold wghR; rw [if_pos hok2]; exact hw1'
    have hB1 : (chp (cT u L R) (List.range L.length) (List.range R.length)).length ≤ 32 := by rw [chp_len, List.length_range]; exact k4
    have hB2 : (chp (cT u R L) (List.range R.length) (List.range L.length)).length ≤ 32 := by rw [chp_len, List.length_range]; exact k5
    have hev : evV (cT u R L) R.length L.length = evV (cT u L R) L.length R.length := by rw [cT_tr u L R]; exact evV_sides hcs
    have hms := mst_sides u L R
    have hML : mst u L R ≤ 32 := by
      unfold mst; rw [(kM_inv (okc (cT u L R) 1000000000) R.length L.length).cnt]; exact Nat.le_trans (cN_le _) k5
    have cl0 := fun T => lside_ok (hl0.old T) h1
    have cr0 := fun T => lside_ok (hr0.old T) h2
    have cu0 := fun T => rule_ok (m := M0 ++ T) u
    rw [e34] at cl0
    rw [f34] at cr0
    have ga0 : Gls (M0 ++ [gb (glC L) 4, gb (glC R) 4]) (gv (M0.length + 0) L.length) L := gls_new (k := 0) (by simp) rfl
    have gb0 : Gls (M0 ++ [gb (glC L) 4, gb (glC R) 4]) (gv (M0.length + 1) R.length) R := gls_new (k := 1) (by simp) rfl
    have w0 := Most_ok (u := u) ga0 gb0 k1 k2 k3
    refine AW.joinS [(0, lv), (1, rv), (5, .pointer (some ⟨m.length + 0, 0, none⟩)), (7, .int .i64 (mst u L R : Nat)), (8, .int .i64 0)] (M0 ++ [gb (glC L) 4, gb (glC R) 4]) ?_ ?_
    · (repeat' (first | ((with_reducible refine Step.id ?_); first | ((with_reducible apply Step.move); exact rfl; exact rfl) | ((with_reducible apply Step.assign); exact rfl; exact rfl) | ((with_reducible apply Step.loadL (n := 8)); exact rfl; (focus (decide +kernel)); (focus (decide +kernel)); exact rfl; (focus (exact RdL.old _ (by assumption))); exact rfl; exact rfl) | ((with_reducible apply Step.extract); exact rfl; exact rfl; exact rfl) | ((with_reducible apply Step.callG fit (k := 0)); exact rfl; exact rfl; exact Try.func21; exact rfl; exact rfl; exact (cl0 _); (focus (first | (simp only [List.nil_append, List.cons_append, List.set_cons_zero, List.set_cons_succ, iv_set, bv_set, iv_rep, bv_rep]; done) | (simp only [List.nil_append, List.cons_append, List.set_cons_zero, List.set_cons_succ, iv_set, bv_set, iv_rep, bv_rep]; rfl) | rfl))) | ((with_reducible apply Step.callG fit (k := 1)); exact rfl; exact rfl; exact Try.func21; exact rfl; exact rfl; exact (cr0 _); (focus (first | (simp only [List.nil_append, List.cons_append, List.set_cons_zero, List.set_cons_succ, iv_set, bv_set, iv_rep, bv_rep]; done) | (simp only [List.nil_append, List.cons_append, List.set_cons_zero, List.set_cons_succ, iv_set, bv_set, iv_rep, bv_rep]; rfl) | rfl))) | ((with_reducible apply Step.callR fit); exact rfl; exact Try.func22; exact rfl; exact rfl; exact (cu0 _)) | ((with_reducible apply Step.callR fit); exact rfl; exact Try.func32; exact rfl; exact rfl; exact (w0))) | ((with_reducible apply Then.n)) | ((with_reducible apply AW.drawT fit (T := (.step 0 (.step 2 (.both (.step 1 (.both (.step 3 (.step 4 (.step 5 (.step 6 (.step 7 (.step 8 (.step 9 (.step 10 (.step 11 .done))))))))) (.step 4 (.step 3 (.step 5 (.step 6 (.step 7 (.step 8 (.step 9 (.step 10 (.step 11 .done))))))))))) (.step 4 (.step 1 (.step 3 (.step 5 (.step 6 (.step 7 (.step 8 (.step 9 (.step 10 (.step 11 .done))))))))))))))); (focus (decide +kernel))) | ((with_reducible apply AWt.step); exact rfl) | ((with_reducible apply AWt.done)) | refine AWt.both ?_ ?_))
      all_goals exact ⟨rfl, (by repeat (first | exact trivial | (refine And.intro rfl ?_)))⟩
    have hU1 := hU0.old [gb (glC L) 4, gb (glC R) 4]
    have hl1 := hl0.old [gb (glC L) 4, gb (glC R) 4]
    have hr1 := hr0.old [gb (glC L) 4, gb (glC R) 4]
    have hp1 : ∃ N, M0 ++ [gb (glC L) 4, gb (glC R) 4] = m ++ N := by
      obtain ⟨N, hN⟩ := hp0
      exact ⟨_, by rw [hN, List.append_assoc]⟩
    clear cl0 cr0 cu0 ga0 gb0 w0
    refine AW.rebase ?_
    generalize M0 ++ [gb (glC L) 4, gb (glC R) 4] = M1 at *
    have cl1 := fun T => lside_ok (hl1.old T) h1
    have cr1 := fun T => lside_ok (hr1.old T) h2
    have cu1 := fun T => rule_ok (m := M1 ++ T) u
    rw [e34] at cl1
    rw [f34] at cr1
    have ga1 : Gls (M1 ++ [gb (glC R) 4, gb (glC L) 4]) (gv (M1.length + 0) R.length) R := gls_new (k := 0) (by simp) rfl
    have gb1 : Gls (M1 ++ [gb (glC R) 4, gb (glC L) 4]) (gv (M1.length + 1) L.length) L := gls_new (k := 1) (by simp) rfl
    have w1 := Most_ok (u := u) ga1 gb1 k2 k1 k3
    rw [hms] at w1
    (repeat ((with_reducible refine AWo.cons ?_)))
    refine AW.joinS [(0, lv), (1, rv), (5, .pointer (some ⟨m.length + 0, 0, none⟩)), (7, .int .i64 (mst u L R : Nat)), (8, .int .i64 0), (9, .int .i64 (mst u L R : Nat)), (10, .int .i64 0)] (M1 ++ [gb (glC R) 4, gb (glC L) 4]) ?_ ?_
    · (repeat' (first | ((with_reducible refine Step.id ?_); first | ((with_reducible apply Step.move); exact rfl; exact rfl) | ((with_reducible apply Step.assign); exact rfl; exact rfl) | ((with_reducible apply Step.loadL (n := 8)); exact rfl; (focus (decide +kernel)); (focus (decide +kernel)); exact rfl; (focus (exact RdL.old _ (by assumption))); exact rfl; exact rfl) | ((with_reducible apply Step.extract); exact rfl; exact rfl; exact rfl) | ((with_reducible apply Step.callG fit (k := 1)); exact rfl; exact rfl; exact Try.func21; exact rfl; exact rfl; exact (cl1 _); (focus (first | (simp only [List.nil_append, List.cons_append, List.set_cons_zero, List.set_cons_succ, iv_set, bv_set, iv_rep, bv_rep]; done) | (simp only [List.nil_append, List.cons_append, List.set_cons_zero, List.set_cons_succ, iv_set, bv_set, iv_rep, bv_rep]; rfl) | rfl))) | ((with_reducible apply Step.callG fit (k := 0)); exact rfl; exact rfl; exact Try.func21; exact rfl; exact rfl; exact (cr1 _); (focus (first | (simp only [List.nil_append, List.cons_append, List.set_cons_zero, List.set_cons_succ, iv_set, bv_set, iv_rep, bv_rep]; done) | (simp only [List.nil_append, List.cons_append, List.set_cons_zero, List.set_cons_succ, iv_set, bv_set, iv_rep, bv_rep]; rfl) | rfl))) | ((with_reducible apply Step.callR fit); exact rfl; exact Try.func22; exact rfl; exact rfl; exact (cu1 _)) | ((with_reducible apply Step.callR fit); exact rfl; exact Try.func32; exact rfl; exact rfl; exact (w1))) | ((with_reducible apply Then.n)) | ((with_reducible apply AW.drawT fit (T := (.step 0 (.step 2 (.both (.step 1 (.both (.step 3 (.step 4 (.step 5 (.step 6 (.step 7 (.step 8 (.step 9 (.step 10 (.step 11 .done))))))))) (.step 4 (.step 3 (.step 5 (.step 6 (.step 7 (.step 8 (.step 9 (.step 10 (.step 11 .done))))))))))) (.step 4 (.step 1 (.step 3 (.step 5 (.step 6 (.step 7 (.step 8 (.step 9 (.step 10 (.step 11 .done))))))))))))))); (focus (decide +kernel))) | ((with_reducible apply AWt.step); exact rfl) | ((with_reducible apply AWt.done)) | refine AWt.both ?_ ?_))
      all_goals exact ⟨rfl, (by repeat (first | exact trivial | (refine And.intro rfl ?_)))⟩
    have hU2 := hU1.old [gb (glC R) 4, gb (glC L) 4]
    have hl2 := hl1.old [gb (glC R) 4, gb (glC L) 4]
    have hr2 := hr1.old [gb (glC R) 4, gb (glC L) 4]
    have hp2 : ∃ N, M1 ++ [gb (glC R) 4, gb (glC L) 4] = m ++ N := by
      obtain ⟨N, hN⟩ := hp1
      exact ⟨_, by rw [hN, List.append_assoc]⟩
    clear cl1 cr1 cu1 ga1 gb1 w1
    refine AW.rebase ?_
    generalize M1 ++ [gb (glC R) 4, gb (glC L) 4] = M2 at *
    generalize mst u L R = n1 at *
    have cl2 := fun T => lside_ok (hl2.old T) h1
    have cr2 := fun T => lside_ok (hr2.old T) h2
    have cu2 := fun T => rule_ok (m := M2 ++ T) u
    rw [e34] at cl2
    rw [f34] at cr2
    have ga2 : Gls (M2 ++ [gb (glC L) 4, gb (glC R) 4]) (gv (M2.length + 0) L.length) L := gls_new (k := 0) (by simp) rfl
    have gb2 : Gls (M2 ++ [gb (glC L) 4, gb (glC R) 4]) (gv (M2.length + 1) R.length) R := gls_new (k := 1) (by simp) rfl
    have w2 := Even_ok (u := u) ga2 gb2 k1 k2 k3
    (repeat (first | (with_reducible refine AWo.cons ?_) | ((with_reducible refine Step.id ?_); first | ((with_reducible apply Step.gdT); exact rfl; exact rfl; (focus ((simp; done)))) | ((with_reducible apply Step.move); exact rfl; exact rfl) | ((with_reducible apply Step.neq); exact rfl; exact rfl; exact rfl) | ((with_reducible apply Step.pickF); exact rfl; exact rfl; exact rfl; exact rfl; (focus ((simp; done))))) | (with_reducible refine AWo.nil ?_) | ((fail_if_success (with_reducible refine AW.atR (id := 5) ?_)); ((with_reducible apply AW.seq))) | ((with_reducible apply Then.n)) | ((with_reducible apply AW.regL)) | ((with_reducible apply AW.skip)) | ((with_reducible apply AW.condF); exact rfl; (focus (rfl)))))
    refine AW.joinS [(0, lv), (1, rv), (5, .pointer (some ⟨m.length + 0, 0, none⟩)), (7, .int .i64 (evV (cT u L R) L.length R.length)), (8, .int .i64 0)] (M2 ++ [gb (glC L) 4, gb (glC R) 4]) ?_ ?_
    · (repeat' (first | ((with_reducible refine Step.id ?_); first | ((with_reducible apply Step.move); exact rfl; exact rfl) | ((with_reducible apply Step.assign); exact rfl; exact rfl) | ((with_reducible apply Step.loadL (n := 8)); exact rfl; (focus (decide +kernel)); (focus (decide +kernel)); exact rfl; (focus (exact RdL.old _ (by assumption))); exact rfl; exact rfl) | ((with_reducible apply Step.extract); exact rfl; exact rfl; exact rfl) | ((with_reducible apply Step.callG fit (k := 0)); exact rfl; exact rfl; exact Try.func21; exact rfl; exact rfl; exact (cl2 _); (focus (first | (simp only [List.nil_append, List.cons_append, List.set_cons_zero, List.set_cons_succ, iv_set, bv_set, iv_rep, bv_rep]; done) | (simp only [List.nil_append, List.cons_append, List.set_cons_zero, List.set_cons_succ, iv_set, bv_set, iv_rep, bv_rep]; rfl) | rfl))) | ((with_reducible apply Step.callG fit (k := 1)); exact rfl; exact rfl; exact Try.func21; exact rfl; exact rfl; exact (cr2 _); (focus (first | (simp only [List.nil_append, List.cons_append, List.set_cons_zero, List.set_cons_succ, iv_set, bv_set, iv_rep, bv_rep]; done) | (simp only [List.nil_append, List.cons_append, List.set_cons_zero, List.set_cons_succ, iv_set, bv_set, iv_rep, bv_rep]; rfl) | rfl))) | ((with_reducible apply Step.callR fit); exact rfl; exact Try.func22; exact rfl; exact rfl; exact (cu2 _)) | ((with_reducible apply Step.callR fit); exact rfl; exact Try.func52; exact rfl; exact rfl; exact (w2))) | ((with_reducible apply Then.n)) | ((with_reducible apply AW.drawT fit (T := (.step 0 (.step 2 (.both (.step 1 (.both (.step 3 (.step 4 (.step 5 (.step 6 (.step 7 (.step 8 (.step 9 (.step 10 (.step 11 .done))))))))) (.step 4 (.step 3 (.step 5 (.step 6 (.step 7 (.step 8 (.step 9 (.step 10 (.step 11 .done))))))))))) (.step 4 (.step 1 (.step 3 (.step 5 (.step 6 (.step 7 (.step 8 (.step 9 (.step 10 (.step 11 .done))))))))))))))); (focus (decide +kernel))) | ((with_reducible apply AWt.step); exact rfl) | ((with_reducible apply AWt.done)) | refine AWt.both ?_ ?_))
      all_goals exact ⟨rfl, (by repeat (first | exact trivial | (refine And.intro rfl ?_)))⟩
    have hU3 := hU2.old [gb (glC L) 4, gb (glC R) 4]
    have hl3 := hl2.old [gb (glC L) 4, gb (glC R) 4]
    have hr3 := hr2.old [gb (glC L) 4, gb (glC R) 4]
    have hp3 : ∃ N, M2 ++ [gb (glC L) 4, gb (glC R) 4] = m ++ N := by
      obtain ⟨N, hN⟩ := hp2
      exact ⟨_, by rw [hN, List.append_assoc]⟩
    clear cl2 cr2 cu2 ga2 gb2 w2
    refine AW.rebase ?_
    generalize M2 ++ [gb (glC L) 4, gb (glC R) 4] = M3 at *
    have cl3 := fun T => lside_ok (hl3.old T) h1
    have cr3 := fun T => lside_ok (hr3.old T) h2
    have cu3 := fun T => rule_ok (m := M3 ++ T) u
    rw [e34] at cl3
    rw [f34] at cr3
    have ga3 : Gls (M3 ++ [gb (glC R) 4, gb (glC L) 4]) (gv (M3.length + 0) R.length) R := gls_new (k := 0) (by simp) rfl
    have gb3 : Gls (M3 ++ [gb (glC R) 4, gb (glC L) 4]) (gv (M3.length + 1) L.length) L := gls_new (k := 1) (by simp) rfl
    have w3 := Even_ok (u := u) ga3 gb3 k2 k1 k3
    rw [hev] at w3
    (repeat ((with_reducible refine AWo.cons ?_)))
    refine AW.joinS [(0, lv), (1, rv), (5, .pointer (some ⟨m.length + 0, 0, none⟩)), (7, .int .i64 (evV (cT u L R) L.length R.length)), (8, .int .i64 0), (9, .int .i64 (evV (cT u L R) L.length R.length)), (10, .int .i64 0)] (M3 ++ [gb (glC R) 4, gb (glC L) 4]) ?_ ?_
    · (repeat' (first | ((with_reducible refine Step.id ?_); first | ((with_reducible apply Step.move); exact rfl; exact rfl) | ((with_reducible apply Step.assign); exact rfl; exact rfl) | ((with_reducible apply Step.loadL (n := 8)); exact rfl; (focus (decide +kernel)); (focus (decide +kernel)); exact rfl; (focus (exact RdL.old _ (by assumption))); exact rfl; exact rfl) | ((with_reducible apply Step.extract); exact rfl; exact rfl; exact rfl) | ((with_reducible apply Step.callG fit (k := 1)); exact rfl; exact rfl; exact Try.func21; exact rfl; exact rfl; exact (cl3 _); (focus (first | (simp only [List.nil_append, List.cons_append, List.set_cons_zero, List.set_cons_succ, iv_set, bv_set, iv_rep, bv_rep]; done) | (simp only [List.nil_append, List.cons_append, List.set_cons_zero, List.set_cons_succ, iv_set, bv_set, iv_rep, bv_rep]; rfl) | rfl))) | ((with_reducible apply Step.callG fit (k := 0)); exact rfl; exact rfl; exact Try.func21; exact rfl; exact rfl; exact (cr3 _); (focus (first | (simp only [List.nil_append, List.cons_append, List.set_cons_zero, List.set_cons_succ, iv_set, bv_set, iv_rep, bv_rep]; done) | (simp only [List.nil_append, List.cons_append, List.set_cons_zero, List.set_cons_succ, iv_set, bv_set, iv_rep, bv_rep]; rfl) | rfl))) | ((with_reducible apply Step.callR fit); exact rfl; exact Try.func22; exact rfl; exact rfl; exact (cu3 _)) | ((with_reducible apply Step.callR fit); exact rfl; exact Try.func52; exact rfl; exact rfl; exact (w3))) | ((with_reducible apply Then.n)) | ((with_reducible apply AW.drawT fit (T := (.step 0 (.step 2 (.both (.step 1 (.both (.step 3 (.step 4 (.step 5 (.step 6 (.step 7 (.step 8 (.step 9 (.step 10 (.step 11 .done))))))))) (.step 4 (.step 3 (.step 5 (.step 6 (.step 7 (.step 8 (.step 9 (.step 10 (.step 11 .done))))))))))) (.step 4 (.step 1 (.step 3 (.step 5 (.step 6 (.step 7 (.step 8 (.step 9 (.step 10 (.step 11 .done))))))))))))))); (focus (decide +kernel))) | ((with_reducible apply AWt.step); exact rfl) | ((with_reducible apply AWt.done)) | refine AWt.both ?_ ?_))
      all_goals exact ⟨rfl, (by repeat (first | exact trivial | (refine And.intro rfl ?_)))⟩
    have hU4 := hU3.old [gb (glC R) 4, gb (glC L) 4]
    have hl4 := hl3.old [gb (glC R) 4, gb (glC L) 4]
    have hr4 := hr3.old [gb (glC R) 4, gb (glC L) 4]
    have hp4 : ∃ N, M3 ++ [gb (glC R) 4, gb (glC L) 4] = m ++ N := by
      obtain ⟨N, hN⟩ := hp3
      exact ⟨_, by rw [hN, List.append_assoc]⟩
    clear cl3 cr3 cu3 ga3 gb3 w3
    refine AW.rebase ?_
    generalize M3 ++ [gb (glC R) 4, gb (glC L) 4] = M4 at *
    generalize evV (cT u L R) L.length R.length = v1 at *
    have cl4 := fun T => lside_ok (hl4.old T) h1
    have cr4 := fun T => lside_ok (hr4.old T) h2
    have cu4 := fun T => rule_ok (m := M4 ++ T) u
    rw [e34] at cl4
    rw [f34] at cr4
    have ga4 : Gls (M4 ++ [gb (glC L) 4, gb (glC R) 4]) (gv (M4.length + 0) L.length) L := gls_new (k := 0) (by simp) rfl
    have gb4 : Gls (M4 ++ [gb (glC L) 4, gb (glC R) 4]) (gv (M4.length + 1) R.length) R := gls_new (k := 1) (by simp) rfl
    have w4 := Cheapest_ok (u := u) ga4 gb4 k1 k2 k3
    (repeat (first | (with_reducible refine AWo.cons ?_) | ((with_reducible refine Step.id ?_); first | ((with_reducible apply Step.gdT); exact rfl; exact rfl; (focus ((simp; done)))) | ((with_reducible apply Step.move); exact rfl; exact rfl) | ((with_reducible apply Step.neq); exact rfl; exact rfl; exact rfl) | ((with_reducible apply Step.pickF); exact rfl; exact rfl; exact rfl; exact rfl; (focus ((simp; done))))) | (with_reducible refine AWo.nil ?_) | ((fail_if_success (with_reducible refine AW.atR (id := 9) ?_)); ((with_reducible apply AW.seq))) | ((with_reducible apply Then.n)) | ((with_reducible apply AW.regL)) | ((with_reducible apply AW.skip)) | ((with_reducible apply AW.condF); exact rfl; (focus (rfl)))))
    refine AW.seq ?_
    refine AW.join (fun t M1 => ∃ (N : AM) (w : Value), M1 = M4 ++ N ∧ Ints M1 w (chp (cT u L R) (List.range L.length) (List.range R.length)) ∧ All (fun i v => t i = some v) [(0, lv), (1, rv), (5, .pointer (some ⟨m.length + 0, 0, none⟩)), (11, w), (8, .int .i64 0)]) ?_ ?_
    · (repeat' (first | ((with_reducible refine Step.id ?_); first | ((with_reducible apply Step.move); exact rfl; exact rfl) | ((with_reducible apply Step.loadL (n := 8)); exact rfl; (focus (decide +kernel)); (focus (decide +kernel)); exact rfl; (focus (exact RdL.old _ (by assumption))); exact rfl; exact rfl) | ((with_reducible apply Step.callG fit (k := 0)); exact rfl; exact rfl; exact Try.func21; exact rfl; exact rfl; exact (cl4 _); (focus (first | (simp only [List.nil_append, List.cons_append, List.set_cons_zero, List.set_cons_succ, iv_set, bv_set, iv_rep, bv_rep]; done) | (simp only [List.nil_append, List.cons_append, List.set_cons_zero, List.set_cons_succ, iv_set, bv_set, iv_rep, bv_rep]; rfl) | rfl))) | ((with_reducible apply Step.callG fit (k := 1)); exact rfl; exact rfl; exact Try.func21; exact rfl; exact rfl; exact (cr4 _); (focus (first | (simp only [List.nil_append, List.cons_append, List.set_cons_zero, List.set_cons_succ, iv_set, bv_set, iv_rep, bv_rep]; done) | (simp only [List.nil_append, List.cons_append, List.set_cons_zero, List.set_cons_succ, iv_set, bv_set, iv_rep, bv_rep]; rfl) | rfl))) | ((with_reducible apply Step.callR fit); exact rfl; exact Try.func22; exact rfl; exact rfl; exact (cu4 _))) | ((with_reducible apply AW.drawT fit (T := (.step 0 (.step 2 (.both (.step 1 (.both (.step 3 (.step 4 (.step 5 (.step 6 (.step 7 (.step 8 (.step 9 (.step 10 (.step 11 .done))))))))) (.step 4 (.step 3 (.step 5 (.step 6 (.step 7 (.step 8 (.step 9 (.step 10 (.step 11 .done))))))))))) (.step 4 (.step 1 (.step 3 (.step 5 (.step 6 (.step 7 (.step 8 (.step 9 (.step 10 (.step 11 .done))))))))))))))); (focus (decide +kernel))) | ((with_reducible apply AWt.step); exact rfl) | refine AWt.both ?_ ?_))
      all_goals ((with_reducible apply Step.callX fit); exact rfl; exact Try.func20; exact rfl; exact rfl; exact w4)
      all_goals rintro v M1 ⟨N, hN⟩ ⟨w, rfl, hw⟩
      all_goals (repeat' (first | ((with_reducible refine Step.id ?_); first | ((with_reducible apply Step.move); exact rfl; exact rfl) | ((with_reducible apply Step.assign); exact rfl; exact rfl) | ((with_reducible apply Step.extract); exact rfl; exact rfl; exact rfl)) | ((with_reducible apply Then.n)) | ((with_reducible apply AWt.step); exact rfl) | ((with_reducible apply AWt.done))))
      all_goals exact ⟨_, w, by rw [hN, List.append_nil, List.append_assoc], by rw [List.append_nil]; exact hw, (by repeat (first | exact trivial | (refine And.intro rfl ?_)))⟩
    rintro t M1 ⟨N4, A, rfl, hvA5, hall⟩
    refine AW.weak (fr_all hall) ?_
    clear hall
    have hU5 := hU4.old N4
    have hl5 := hl4.old N4
    have hr5 := hr4.old N4
    have hp5 : ∃ N, M4 ++ N4 = m ++ N := by
      obtain ⟨N, hN⟩ := hp4
      exact ⟨_, by rw [hN, List.append_assoc]⟩
    clear cl4 cr4 cu4 ga4 gb4 w4
    refine AW.rebase ?_
    generalize M4 ++ N4 = M5 at *
    have cl5 := fun T => lside_ok (hl5.old T) h1
    have cr5 := fun T => lside_ok (hr5.old T) h2
    have cu5 := fun T => rule_ok (m := M5 ++ T) u
    rw [e34] at cl5
    rw [f34] at cr5
    have ga5 : Gls (M5 ++ [gb (glC R) 4, gb (glC L) 4]) (gv (M5.length + 0) R.length) R := gls_new (k := 0) (by simp) rfl
    have gb5 : Gls (M5 ++ [gb (glC R) 4, gb (glC L) 4]) (gv (M5.length + 1) L.length) L := gls_new (k := 1) (by simp) rfl
    have w5 := Cheapest_ok (u := u) ga5 gb5 k2 k1 k3
    (repeat ((with_reducible refine AWo.cons ?_)))
    refine AW.seq ?_
    refine AW.join (fun t M1 => ∃ (N : AM) (w : Value), M1 = M5 ++ N ∧ Ints M1 w (chp (cT u R L) (List.range R.length) (List.range L.length)) ∧ All (fun i v => t i = some v) [(0, lv), (1, rv), (5, .pointer (some ⟨m.length + 0, 0, none⟩)), (11, A), (8, .int .i64 0), (12, w), (10, .int .i64 0)]) ?_ ?_
    · (repeat' (first | ((with_reducible refine Step.id ?_); first | ((with_reducible apply Step.move); exact rfl; exact rfl) | ((with_reducible apply Step.loadL (n := 8)); exact rfl; (focus (decide +kernel)); (focus (decide +kernel)); exact rfl; (focus (exact RdL.old _ (by assumption))); exact rfl; exact rfl) | ((with_reducible apply Step.callG fit (k := 1)); exact rfl; exact rfl; exact Try.func21; exact rfl; exact rfl; exact (cl5 _); (focus (first | (simp only [List.nil_append, List.cons_append, List.set_cons_zero, List.set_cons_succ, iv_set, bv_set, iv_rep, bv_rep]; done) | (simp only [List.nil_append, List.cons_append, List.set_cons_zero, List.set_cons_succ, iv_set, bv_set, iv_rep, bv_rep]; rfl) | rfl))) | ((with_reducible apply Step.callG fit (k := 0)); exact rfl; exact rfl; exact Try.func21; exact rfl; exact rfl; exact (cr5 _); (focus (first | (simp only [List.nil_append, List.cons_append, List.set_cons_zero, List.set_cons_succ, iv_set, bv_set, iv_rep, bv_rep]; done) | (simp only [List.nil_append, List.cons_append, List.set_cons_zero, List.set_cons_succ, iv_set, bv_set, iv_rep, bv_rep]; rfl) | rfl))) | ((with_reducible apply Step.callR fit); exact rfl; exact Try.func22; exact rfl; exact rfl; exact (cu5 _))) | ((with_reducible apply AW.drawT fit (T := (.step 0 (.step 2 (.both (.step 1 (.both (.step 3 (.step 4 (.step 5 (.step 6 (.step 7 (.step 8 (.step 9 (.step 10 (.step 11 .done))))))))) (.step 4 (.step 3 (.step 5 (.step 6 (.step 7 (.step 8 (.step 9 (.step 10 (.step 11 .done))))))))))) (.step 4 (.step 1 (.step 3 (.step 5 (.step 6 (.step 7 (.step 8 (.step 9 (.step 10 (.step 11 .done))))))))))))))); (focus (decide +kernel))) | ((with_reducible apply AWt.step); exact rfl) | refine AWt.both ?_ ?_))
      all_goals ((with_reducible apply Step.callX fit); exact rfl; exact Try.func20; exact rfl; exact rfl; exact w5)
      all_goals rintro v M1 ⟨N, hN⟩ ⟨w, rfl, hw⟩
      all_goals (repeat' (first | ((with_reducible refine Step.id ?_); first | ((with_reducible apply Step.move); exact rfl; exact rfl) | ((with_reducible apply Step.assign); exact rfl; exact rfl) | ((with_reducible apply Step.extract); exact rfl; exact rfl; exact rfl)) | ((with_reducible apply Then.n)) | ((with_reducible apply AWt.step); exact rfl) | ((with_reducible apply AWt.done))))
      all_goals exact ⟨_, w, by rw [hN, List.append_nil, List.append_assoc], by rw [List.append_nil]; exact hw, (by repeat (first | exact trivial | (refine And.intro rfl ?_)))⟩
    rintro t M1 ⟨N5, B, rfl, hvB6, hall⟩
    refine AW.weak (fr_all hall) ?_
    clear hall
    have hU6 := hU5.old N5
    have hl6 := hl5.old N5
    have hr6 := hr5.old N5
    have hp6 : ∃ N, M5 ++ N5 = m ++ N := by
      obtain ⟨N, hN⟩ := hp5
      exact ⟨_, by rw [hN, List.append_assoc]⟩
    have hvA6 := hvA5.old N5
    clear cl5 cr5 cu5 ga5 gb5 w5
    refine AW.rebase ?_
    generalize M5 ++ N5 = M6 at *
    have cl6 := fun T => lside_ok (hl6.old T) h1
    have cr6 := fun T => lside_ok (hr6.old T) h2
    have cu6 := fun T => rule_ok (m := M6 ++ T) u
    rw [e34] at cl6
    rw [f34] at cr6
    have ga6 : Gls (M6 ++ [gb (glC L) 4, gb (glC R) 4]) (gv (M6.length + 0) L.length) L := gls_new (k := 0) (by simp) rfl
    have gb6 : Gls (M6 ++ [gb (glC L) 4, gb (glC R) 4]) (gv (M6.length + 1) R.length) R := gls_new (k := 1) (by simp) rfl
    have w6 := Weigh_ok (u := u) ga6 gb6 (by omega) (by omega) (hvA6.old [gb (glC L) 4, gb (glC R) 4]) (by omega) hwR
    (repeat (first | (with_reducible refine AWo.cons ?_) | ((with_reducible refine Step.id ?_); first | ((with_reducible apply Step.gdT); exact rfl; exact rfl; (focus (rfl))) | ((with_reducible apply Step.move); exact rfl; exact rfl) | ((with_reducible apply Step.neq); exact rfl; exact rfl; exact rfl) | ((with_reducible apply Step.pickF); exact rfl; exact rfl; exact rfl; exact rfl; (focus (rfl)))) | (with_reducible refine AWo.nil ?_) | ((fail_if_success (with_reducible refine AW.atR (id := 13) ?_)); ((with_reducible apply AW.seq))) | ((with_reducible apply Then.n)) | ((with_reducible apply AW.regL)) | ((with_reducible apply AW.skip)) | ((with_reducible apply AW.condF); exact rfl; (focus (rfl)))))
    refine AW.joinS [(0, lv), (1, rv), (5, .pointer (some ⟨m.length + 0, 0, none⟩)), (11, A), (12, B), (7, .int .i64 s'), (13, .int .i64 q'), (8, .int .i64 0), (10, .int .i64 0)] (M6 ++ [gb (glC L) 4, gb (glC R) 4]) ?_ ?_
    · (repeat' (first | ((with_reducible refine Step.id ?_); first | ((with_reducible apply Step.move); exact rfl; exact rfl) | ((with_reducible apply Step.assign); exact rfl; exact rfl) | ((with_reducible apply Step.loadL (n := 8)); exact rfl; (focus (decide +kernel)); (focus (decide +kernel)); exact rfl; (focus (exact RdL.old _ (by assumption))); exact rfl; exact rfl) | ((with_reducible apply Step.extract); exact rfl; exact rfl; exact rfl) | ((with_reducible apply Step.callG fit (k := 0)); exact rfl; exact rfl; exact Try.func21; exact rfl; exact rfl; exact (cl6 _); (focus (first | (simp only [List.nil_append, List.cons_append, List.set_cons_zero, List.set_cons_succ, iv_set, bv_set, iv_rep, bv_rep]; done) | (simp only [List.nil_append, List.cons_append, List.set_cons_zero, List.set_cons_succ, iv_set, bv_set, iv_rep, bv_rep]; rfl) | rfl))) | ((with_reducible apply Step.callG fit (k := 1)); exact rfl; exact rfl; exact Try.func21; exact rfl; exact rfl; exact (cr6 _); (focus (first | (simp only [List.nil_append, List.cons_append, List.set_cons_zero, List.set_cons_succ, iv_set, bv_set, iv_rep, bv_rep]; done) | (simp only [List.nil_append, List.cons_append, List.set_cons_zero, List.set_cons_succ, iv_set, bv_set, iv_rep, bv_rep]; rfl) | rfl))) | ((with_reducible apply Step.callR fit); exact rfl; exact Try.func22; exact rfl; exact rfl; exact (cu6 _)) | ((with_reducible apply Step.callR fit); exact rfl; exact Try.func31; exact rfl; exact rfl; exact (w6))) | ((with_reducible apply Then.n)) | ((with_reducible apply AW.drawT fit (T := (.step 0 (.step 2 (.step 6 (.both (.step 1 (.both (.step 3 (.step 4 (.step 5 (.step 7 (.step 8 (.step 9 (.step 10 (.step 11 (.step 12 (.step 13 (.step 14 .done))))))))))) (.step 4 (.step 3 (.step 5 (.step 7 (.step 8 (.step 9 (.step 10 (.step 11 (.step 12 (.step 13 (.step 14 .done))))))))))))) (.step 4 (.step 1 (.step 3 (.step 5 (.step 7 (.step 8 (.step 9 (.step 10 (.step 11 (.step 12 (.step 13 (.step 14 .done)))))))))))))))))); (focus (decide +kernel))) | ((with_reducible apply AWt.step); exact rfl) | ((with_reducible apply AWt.done)) | refine AWt.both ?_ ?_))
      all_goals exact ⟨rfl, (by repeat (first | exact trivial | (refine And.intro rfl ?_)))⟩
    have hU7 := hU6.old [gb (glC L) 4, gb (glC R) 4]
    have hl7 := hl6.old [gb (glC L) 4, gb (glC R) 4]
    have hr7 := hr6.old [gb (glC L) 4, gb (glC R) 4]
    have hp7 : ∃ N, M6 ++ [gb (glC L) 4, gb (glC R) 4] = m ++ N := by
      obtain ⟨N, hN⟩ := hp6
      exact ⟨_, by rw [hN, List.append_assoc]⟩
    have hvA7 := hvA6.old [gb (glC L) 4, gb (glC R) 4]
    have hvB7 := hvB6.old [gb (glC L) 4, gb (glC R) 4]
    clear cl6 cr6 cu6 ga6 gb6 w6
    refine AW.rebase ?_
    generalize M6 ++ [gb (glC L) 4, gb (glC R) 4] = M7 at *
    have cl7 := fun T => lside_ok (hl7.old T) h1
    have cr7 := fun T => lside_ok (hr7.old T) h2
    have cu7 := fun T => rule_ok (m := M7 ++ T) u
    rw [e34] at cl7
    rw [f34] at cr7
    have ga7 : Gls (M7 ++ [gb (glC R) 4, gb (glC L) 4]) (gv (M7.length + 0) R.length) R := gls_new (k := 0) (by simp) rfl
    have gb7 : Gls (M7 ++ [gb (glC R) 4, gb (glC L) 4]) (gv (M7.length + 1) L.length) L := gls_new (k := 1) (by simp) rfl
    have w7 := Weigh_ok (u := u) ga7 gb7 (by omega) (by omega) (hvB7.old [gb (glC R) 4, gb (glC L) 4]) (by omega) hwR2
    (repeat ((with_reducible refine AWo.cons ?_)))
    refine AW.joinS [(0, lv), (1, rv), (5, .pointer (some ⟨m.length + 0, 0, none⟩)), (7, .int .i64 s'), (13, .int .i64 q'), (8, .int .i64 0), (9, .int .i64 s'), (14, .int .i64 q'), (10, .int .i64 0)] (M7 ++ [gb (glC R) 4, gb (glC L) 4]) ?_ ?_
    · (repeat' (first | ((with_reducible refine Step.id ?_); first | ((with_reducible apply Step.move); exact rfl; exact rfl) | ((with_reducible apply Step.assign); exact rfl; exact rfl) | ((with_reducible apply Step.loadL (n := 8)); exact rfl; (focus (decide +kernel)); (focus (decide +kernel)); exact rfl; (focus (exact RdL.old _ (by assumption))); exact rfl; exact rfl) | ((with_reducible apply Step.extract); exact rfl; exact rfl; exact rfl) | ((with_reducible apply Step.callG fit (k := 1)); exact rfl; exact rfl; exact Try.func21; exact rfl; exact rfl; exact (cl7 _); (focus (first | (simp only [List.nil_append, List.cons_append, List.set_cons_zero, List.set_cons_succ, iv_set, bv_set, iv_rep, bv_rep]; done) | (simp only [List.nil_append, List.cons_append, List.set_cons_zero, List.set_cons_succ, iv_set, bv_set, iv_rep, bv_rep]; rfl) | rfl))) | ((with_reducible apply Step.callG fit (k := 0)); exact rfl; exact rfl; exact Try.func21; exact rfl; exact rfl; exact (cr7 _); (focus (first | (simp only [List.nil_append, List.cons_append, List.set_cons_zero, List.set_cons_succ, iv_set, bv_set, iv_rep, bv_rep]; done) | (simp only [List.nil_append, List.cons_append, List.set_cons_zero, List.set_cons_succ, iv_set, bv_set, iv_rep, bv_rep]; rfl) | rfl))) | ((with_reducible apply Step.callR fit); exact rfl; exact Try.func22; exact rfl; exact rfl; exact (cu7 _)) | ((with_reducible apply Step.callR fit); exact rfl; exact Try.func31; exact rfl; exact rfl; exact (w7))) | ((with_reducible apply Then.n)) | ((with_reducible apply AW.drawT fit (T := (.step 0 (.step 2 (.step 6 (.both (.step 1 (.both (.step 3 (.step 4 (.step 5 (.step 7 (.step 8 (.step 9 (.step 10 (.step 11 (.step 12 (.step 13 (.step 14 .done))))))))))) (.step 4 (.step 3 (.step 5 (.step 7 (.step 8 (.step 9 (.step 10 (.step 11 (.step 12 (.step 13 (.step 14 .done))))))))))))) (.step 4 (.step 1 (.step 3 (.step 5 (.step 7 (.step 8 (.step 9 (.step 10 (.step 11 (.step 12 (.step 13 (.step 14 .done)))))))))))))))))); (focus (decide +kernel))) | ((with_reducible apply AWt.step); exact rfl) | ((with_reducible apply AWt.done)) | refine AWt.both ?_ ?_))
      all_goals exact ⟨rfl, (by repeat (first | exact trivial | (refine And.intro rfl ?_)))⟩
    have hU8 := hU7.old [gb (glC R) 4, gb (glC L) 4]
    have hl8 := hl7.old [gb (glC R) 4, gb (glC L) 4]
    have hr8 := hr7.old [gb (glC R) 4, gb (glC L) 4]
    have hp8 : ∃ N, M7 ++ [gb (glC R) 4, gb (glC L) 4] = m ++ N := by
      obtain ⟨N, hN⟩ := hp7
      exact ⟨_, by rw [hN, List.append_assoc]⟩
    have hvA8 := hvA7.old [gb (glC R) 4, gb (glC L) 4]
    have hvB8 := hvB7.old [gb (glC R) 4, gb (glC L) 4]
    clear cl7 cr7 cu7 ga7 gb7 w7
    refine AW.rebase ?_
    generalize M7 ++ [gb (glC R) 4, gb (glC L) 4] = M8 at *
    (repeat (first | (with_reducible refine AWo.cons ?_) | ((with_reducible refine Step.id ?_); first | ((with_reducible apply Step.gdT); exact rfl; exact rfl; (focus (first | rfl | (simp; done)))) | ((with_reducible apply Step.move); exact rfl; exact rfl) | ((with_reducible apply Step.assign); exact rfl; exact rfl) | ((with_reducible apply Step.eql); exact rfl; exact rfl; exact rfl) | ((with_reducible apply Step.pickT); exact rfl; exact rfl; exact rfl; exact rfl; (focus (first | rfl | (simp; done)))) | ((with_reducible apply Step.callR fit); exact rfl; exact Try.func25; exact rfl; exact rfl; exact (awake_ok))) | (with_reducible refine AWo.nil ?_) | ((with_reducible apply AW.seq)) | ((with_reducible apply Then.n)) | ((with_reducible apply AW.regL))))
    (refine AW.ret ?_; (repeat (first | refine Then.r ?_ | refine InBlk.r ?_)))
    obtain ⟨N, hN⟩ := hp8
    exact ⟨_, by first | rfl | (simp; done) | (simp; rfl), rfl, N, by first | exact hN | (rw [List.append_nil]; exact hN)⟩
end Go.Proofs.Ytajpngnphbdnnaa.Abs
namespace Go.Proofs.Ytajpngnphbdnnaa.Abs
set_option linter.unusedSimpArgs false
set_option linter.unusedVariables false
open Go.RowKit
open Go.Proofs.Ytajpngnphbdnnaa.Sim
open Go.Proofs
theorem gls_args {F : Nat → List Int} (hF : ∀ k, (F k).length = 4) (n : Nat) : ∃ l : List Gl, l.length = n ∧ ∀ {M : AM} {v : Value} {i : Nat}, (Sl v i 0 n ∧ i < M.length ∧ ∀ k, k < n → RdL M i (0 + k * 4) (iv (F k))) → Gls M v l := by
  obtain ⟨g, hg⟩ := Classical.axiomOfChoice fun k => gl_of (hF k)
  refine ⟨(List.range n).map g, by simp, fun {M v i} h => ⟨i, 0, by simpa using h.1, h.2.1, fun k hk => ?_⟩⟩
  have hk' : k < n := by simpa using hk
  have := h.2.2 k hk'
  rw [hg k] at this
  have e : ((List.range n).map g).getD k default = g k := by simp [hk']
  rw [e]
  exact this
end Go.Proofs.Ytajpngnphbdnnaa.Abs
