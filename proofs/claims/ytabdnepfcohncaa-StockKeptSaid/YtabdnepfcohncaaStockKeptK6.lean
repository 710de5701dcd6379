/- Proved here: what the proof of StockKept rests on, part 6 of 6. Conditions: those that each theorem names. -/
import Derived.Test.YtabdnepfcohncaaStockKeptK5
namespace Go.Proofs.Ytabdnepfcohncaa.Abs
set_option linter.unusedSimpArgs false
set_option linter.unusedVariables false
open Go.RowKit
open Go.Proofs.Ytabdnepfcohncaa.Sim
open Go.Proofs
open Go.ChangeShapes Go.WideShapes Go.Deep
section
variable {H : Type} {enc : TypeId × Value → H} {P : Program} {w : World} {base : Nat} {held : Bool}
/-- Bytes that the input shows, wherever they stand. -/
theorem byts_sl {T e : TypeId} {fuel : Nat} {v : Value} {d : DataW H × List MemPlace} (ht : P.underlying T = some (.slice e)) (he : P.underlying e = some (.int .u8)) (hce : P.cellsOf e = 1) (h : DataW.trod enc P w base (fun _ => true) held fuel T [v] = some d) :
    ∃ l : List UInt8, l.length ≤ maxLen ∧ (∀ R, OkB w R (v, by8 l)) ∧ ∀ (bs : List AR) (i : Nat), bs[i]? = some (v, by8 l) → Byts (bs.map mkB2) (mkV2 i v) l := by
  rcases open_ints ht he hce h with ⟨hcs, _⟩ | ⟨x, n, c, zs, hcs, _, hl, hm, hz, _, hcell, hwz⟩
  · obtain rfl : v = .slice none 0 0 := by simpa using hcs
    exact ⟨[], Nat.zero_le _, fun R => .inl rfl, fun bs i hi => ⟨i, 0, .inl ⟨rfl, rfl⟩, by simp; exact (List.getElem?_eq_some_iff.1 hi).1, fun k hk => by simp at hk⟩⟩
  · obtain rfl : v = .slice (some x) n c := by simpa using hcs
    rw [if_pos rfl] at hz
    have hlen : ((zs.take n).map fun z => UInt8.ofNat z.toNat).length = n := by simp; omega
    cases c with
    | zero =>
      obtain rfl : n = 0 := by omega
      refine ⟨[], Nat.zero_le _, fun R => .inr (.inl ⟨x, rfl⟩), fun bs i hi => ?_⟩
      have hlt : i < (bs.map mkB2).length := by simp; exact (List.getElem?_eq_some_iff.1 hi).1
      obtain ⟨b, o, sp⟩ := x
      cases sp with
      | none => exact ⟨i, 0, Sl.mk (Nat.le_refl _), hlt, fun k hk => by simp at hk⟩
      | some k => exact ⟨i, 0, .inr (.inr ⟨rfl, 0, k, rfl⟩), hlt, fun k hk => by simp at hk⟩
    | succ c =>
      obtain ⟨b, o, sp⟩ := x
      have h0 : sp = none ∧ b < w.heap.size := by
        have h1 := hcell 0 (by omega)
        have := cell_some h1
        first | exact this | (simpa [Addr.add] using this) | (cases sp <;> simp_all [Addr.add])
      obtain ⟨rfl, hb⟩ := h0
      refine ⟨(zs.take n).map fun z => UInt8.ofNat z.toNat, by rw [hlen]; omega, fun R => .inr (.inr ⟨b, o, n, c, rfl, hl, hb, fun j x hj => ?_⟩), fun bs i hi => ?_⟩
      · have hj1 := (List.getElem?_eq_some_iff.1 hj).1
        simp only [by8_len, hlen] at hj1
        have hjz : j < zs.length := by omega
        simp only at hj
        rw [by8_get (by rw [hlen]; exact hj1)] at hj
        injection hj with hj
        have := hcell j hjz
        rw [Addr.add_lit] at this
        have hb' := bounds_u8 (hwz _ (List.getElem_mem hjz))
        have h1 : (UInt8.ofNat zs[j].toNat).toNat = zs[j].toNat := by
          rw [UInt8.toNat_ofNat']; exact Nat.mod_eq_of_lt (by omega)
        refine ⟨x, ?_, by rw [← hj]; exact .int _ _⟩
        rw [this, ← hj]
        simp only [List.getElem_map, List.getElem_take]
        rw [h1, List.getD_eq_getElem?_getD, List.getElem?_eq_getElem hjz, Option.getD_some]
        congr 2
        omega
      · have hM : (bs.map mkB2)[i]? = some (some { cells := by8 ((zs.take n).map fun z => UInt8.ofNat z.toNat), kind := .ro }) := by rw [List.getElem?_map, hi]; rfl
        exact (BytsAt.of (by rw [hlen]; exact Sl.mk (Nat.le_refl n)) fun _ => ⟨_, hM, fun j v hj => by rw [Nat.zero_add]; exact hj⟩).byts (List.getElem?_eq_some_iff.1 hM).1
end
/-- The cells of n acts; the After of job k lies in block e0 + k. -/
def actCs (F : Nat → Act9) (s : Nat → Value) (e0 n : Nat) : List Value := (List.range n).flatMap fun k => (F k).cells (mkV2 (e0 + k) (s k))
theorem actCs_succ (F : Nat → Act9) (s : Nat → Value) (e0 n : Nat) : actCs F s e0 (n + 1) = actCs F s e0 n ++ (F n).cells (mkV2 (e0 + n) (s n)) := by
  simp [actCs, List.range_succ, List.flatMap_append]
theorem actCs_len (F : Nat → Act9) (s : Nat → Value) (e0 : Nat) : ∀ n, (actCs F s e0 n).length = n * 4
  | 0 => rfl
  | n + 1 => by rw [actCs_succ, List.length_append, actCs_len F s e0 n]; simp [Act9.cells]; omega
theorem actCs_get (F : Nat → Act9) (s : Nat → Value) (e0 : Nat) : ∀ n k, k < n → ∀ q v, ((F k).cells (mkV2 (e0 + k) (s k)))[q]? = some v → (actCs F s e0 n)[k * 4 + q]? = some v
  | 0, k, h, _, _, _ => by omega
  | n + 1, k, h, q, v, hq => by
    have hq3 : q < 4 := by have := (List.getElem?_eq_some_iff.1 hq).1; simpa [Act9.cells] using this
    rw [actCs_succ]
    rcases Nat.lt_succ_iff_lt_or_eq.1 h with h' | h'
    · rw [List.getElem?_append_left (by rw [actCs_len]; omega)]
      exact actCs_get F s e0 n k h' q v hq
    · subst h'
      rw [List.getElem?_append_right (by rw [actCs_len]; omega), actCs_len, Nat.add_sub_cancel_left]
      exact hq
theorem cells4 (x : Act9) (w : Value) (q : Nat) (v : Value) (h : (x.cells w)[q]? = some v) : q = 0 ∧ v = .int .i64 x.kd ∨ q = 1 ∧ v = .int .i64 x.n ∨ q = 2 ∧ v = .int .i64 x.m ∨ q = 3 ∧ v = w := by
  match q, h with
  | 0, h => simp [Act9.cells] at h; exact .inl ⟨rfl, h.symm⟩
  | 1, h => simp [Act9.cells] at h; exact .inr (.inl ⟨rfl, h.symm⟩)
  | 2, h => simp [Act9.cells] at h; exact .inr (.inr (.inl ⟨rfl, h.symm⟩))
  | 3, h => simp [Act9.cells] at h; exact .inr (.inr (.inr ⟨rfl, h.symm⟩))
  | q + 4, h => simp [Act9.cells] at h
section
variable {H : Type} {enc : TypeId × Value → H} {P : Program} {w : World} {base : Nat} {held : Bool}
theorem arg_acts9 {r : Reach} {b0 : Nat} {T e tS tI : TypeId} {fs : Array Field} {a : Option Addr} {n c : Nat} {d : DataW H} {p : List MemPlace} (ht : P.underlying T = some (.slice e)) (he : P.underlying e = some (.struct fs)) (hone : oneCellFields P fs = true) (hC : P.cellsOf e = fs.size) (hsz : fs.size = 4)
    (hI : ∀ j f, j < 3 → fs[j]? = some f → P.underlying f.type = some (.int .i64)) (hS : ∀ f, fs[3]? = some f → f.type = tS) (hS1 : P.underlying tS = some (.slice tI)) (hS2 : P.underlying tI = some (.int .u8)) (hS3 : P.cellsOf tI = 1)
    (hok : Value.okWide P w r b0 T (.slice a n c)) (h : DataW.Trod enc P w base (fun _ => true) held T (.slice a n c) d p) :
    ∃ (F : Nat → Act9) (s : Nat → Value), n ≤ maxLen ∧ (∀ k, (F k).l.length ≤ maxLen) ∧ (∀ R k, OkB w R (s k, by8 (F k).l)) ∧
      (∀ (bs : List AR) (e0 : Nat), (∀ k, k < n → bs[e0 + k]? = some (s k, by8 (F k).l)) → OkB w (plN bs) (.slice a n c, actCs F s e0 n)) ∧
      (∀ (bs : List AR) (i e0 : Nat), bs[i]? = some (.slice a n c, actCs F s e0 n) → (∀ k, k < n → bs[e0 + k]? = some (s k, by8 (F k).l)) → Acts9 (bs.map mkB2) (mkV2 i (.slice a n c)) ((List.range n).map F)) := by
  obtain ⟨fuel, h⟩ := h
  rcases ok_slice ht hok with ⟨rfl, rfl, rfl⟩ | ⟨b, o, rfl, hle, hlt⟩
  · exact ⟨fun _ => default, fun _ => .slice none 0 0, by unfold maxLen; omega, fun _ => by show ([] : List UInt8).length ≤ _; simp, fun R k => .inl rfl, fun bs e0 _ => .inl rfl, fun bs i e0 hi _ =>
      ⟨i, 0, .inl ⟨rfl, rfl⟩, by simp; exact (List.getElem?_eq_some_iff.1 hi).1, fun k hk => by simp at hk⟩⟩
  · rcases open_slice_fields ht he hone hC h with ⟨hcs, _⟩ | ⟨x, l, cap, m, D, Pl, hcs, _, hl, hm, hmm, _, hrow⟩
    · simp [Value.cells] at hcs
    · simp [Value.cells] at hcs
      obtain ⟨rfl, rfl, rfl⟩ := hcs
      rw [if_pos rfl] at hmm
      have key : ∀ k : Nat, ∃ q : Act9 × Value, q.1.l.length ≤ maxLen ∧ (∀ R, OkB w R (q.2, by8 q.1.l)) ∧ (∀ (bs : List AR) (i : Nat), bs[i]? = some (q.2, by8 q.1.l) → Byts (bs.map mkB2) (mkV2 i q.2) q.1.l) ∧
          (k < n → w.cell? ⟨b, o + (k * 4 + 0), none⟩ = some (.int .i64 q.1.kd) ∧ w.cell? ⟨b, o + (k * 4 + 1), none⟩ = some (.int .i64 q.1.n) ∧ w.cell? ⟨b, o + (k * 4 + 2), none⟩ = some (.int .i64 q.1.m) ∧ w.cell? ⟨b, o + (k * 4 + 3), none⟩ = some q.2) := fun k => by
        by_cases hk : k < n
        · obtain ⟨ys, nn, _, _, _, hf⟩ := hrow k (by omega)
          rw [hsz] at hf
          have fi : ∀ j, j < 3 → ∃ z : Int, w.cell? ⟨b, o + (k * 4 + j), none⟩ = some (.int .i64 z) := fun j hj => by
            have hfj : fs[j]? = some (fs[j]'(by omega)) := Array.getElem?_eq_getElem (by omega)
            obtain ⟨v, y, h1, _, h3⟩ := hf j _ hfj
            obtain ⟨z, hz, _⟩ := DataW.trod_int (hI j _ hj hfj) h3
            simp at hz
            subst hz
            rw [Addr.add_lit] at h1
            exact ⟨z, h1⟩
          obtain ⟨z0, g0'⟩ := fi 0 (by omega)
          obtain ⟨z1, g1'⟩ := fi 1 (by omega)
          obtain ⟨z2, g2'⟩ := fi 2 (by omega)
          have hf3 : fs[3]? = some (fs[3]'(by omega)) := Array.getElem?_eq_getElem (by omega)
          obtain ⟨v, y, h1, _, h3⟩ := hf 3 _ hf3
          rw [hS _ hf3] at h3
          rw [Addr.add_lit] at h1
          obtain ⟨l, l1, l2, l3⟩ := byts_sl hS1 hS2 hS3 h3
          exact ⟨(⟨z0, z1, z2, l⟩, v), l1, l2, l3, fun _ => ⟨g0', g1', g2', h1⟩⟩
        · exact ⟨(default, .slice none 0 0), by show ([] : List UInt8).length ≤ _; simp, fun R => .inl rfl, fun bs i hi => ⟨i, 0, .inl ⟨rfl, rfl⟩, by simp; exact (List.getElem?_eq_some_iff.1 hi).1, fun k hk => by simp [default, instInhabitedAct9] at hk⟩, fun h => absurd h hk⟩
      obtain ⟨G, hG⟩ := Classical.axiomOfChoice key
      refine ⟨fun k => (G k).1, fun k => (G k).2, by omega, fun k => (hG k).1, fun R k => (hG k).2.1 R, fun bs e0 hbs => ?_, fun bs i e0 hi hbs => ?_⟩
      · cases c with
        | zero =>
          obtain rfl : n = 0 := by omega
          exact .inr (.inl ⟨⟨b, o, none⟩, rfl⟩)
        | succ c =>
          refine .inr (.inr ⟨b, o, n, c, rfl, hle, hlt, fun j x hj => ?_⟩)
          have hjl := (List.getElem?_eq_some_iff.1 hj).1
          simp only [actCs_len] at hjl
          have hk : j / 4 < n := by omega
          have hj5 : j % 4 < 4 := Nat.mod_lt _ (by omega)
          have e : j = j / 4 * 4 + j % 4 := by omega
          generalize hkk : j / 4 = k at *
          generalize hqq : j % 4 = q at *
          subst e
          have hcells : ∃ v, ((G k).1.cells (mkV2 (e0 + k) (G k).2))[q]? = some v := ⟨_, List.getElem?_eq_getElem (by simpa [Act9.cells] using hj5)⟩
          obtain ⟨v, hv⟩ := hcells
          have hget := actCs_get (fun k => (G k).1) (fun k => (G k).2) e0 n k hk q v hv
          simp only at hj
          rw [hget] at hj
          injection hj with hj
          subst hj
          obtain ⟨c0, c1, c2, c4⟩ := (hG k).2.2.2 hk
          rcases cells4 _ _ _ _ hv with ⟨rfl, rfl⟩ | ⟨rfl, rfl⟩ | ⟨rfl, rfl⟩ | ⟨rfl, rfl⟩
          · exact ⟨_, c0, .int _ _⟩
          · exact ⟨_, c1, .int _ _⟩
          · exact ⟨_, c2, .int _ _⟩
          · exact ⟨_, c4, relN (hbs k hk) ((hG k).2.1 (fun _ => none))⟩
      · have hlen : i < (bs.map mkB2).length := by simp; exact (List.getElem?_eq_some_iff.1 hi).1
        refine ⟨i, 0, by simpa [mkV2] using Sl.mk (Nat.le_refl n), hlen, fun k hk => ?_⟩
        have hk' : k < n := by simpa using hk
        have eg : ((List.range n).map fun k => (G k).1).getD k default = (G k).1 := by simp [hk']
        rw [eg]
        refine ⟨mkV2 (e0 + k) (G k).2, ?_, (hG k).2.2.1 bs (e0 + k) (hbs k hk')⟩
        cases c with
        | zero => omega
        | succ c =>
          refine ⟨{ cells := actCs (fun k => (G k).1) (fun k => (G k).2) e0 n, kind := .ro }, by rw [List.getElem?_map, hi]; rfl, fun j v hj => ?_⟩
          rw [Nat.zero_add]
          exact actCs_get _ _ e0 n k hk' j v hj
end
end Go.Proofs.Ytabdnepfcohncaa.Abs
namespace Go.Proofs.Ytabdnepfcohncaa.Abs
set_option linter.unusedSimpArgs false
set_option linter.unusedVariables false
open Go.RowKit
open Go.Proofs.Ytabdnepfcohncaa.Sim
open Go.Proofs
theorem short_acts {F : Nat → Act9} {n : Nat} (hn : n ≤ maxLen) (h : ∀ k, (F k).l.length ≤ maxLen) : ((List.range n).map F).length ≤ 9223372036854775807 ∧ ∀ k, (((List.range n).map F).getD k default).l.length ≤ 9223372036854775807 := by
  unfold maxLen at hn h
  refine ⟨by simp; omega, fun k => ?_⟩
  by_cases hk : k < n
  · have := h k
    rw [show ((List.range n).map F).getD k default = F k by simp [hk]]
    omega
  · rw [show ((List.range n).map F).getD k default = default by simp [hk]]
    exact Nat.zero_le _
end Go.Proofs.Ytabdnepfcohncaa.Abs
