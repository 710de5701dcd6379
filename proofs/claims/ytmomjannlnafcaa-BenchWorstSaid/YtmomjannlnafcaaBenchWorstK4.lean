/- Proved here: what the proof of BenchWorst rests on, part 4 of 4. Conditions: those that each theorem names. -/
import Derived.Test.YtmomjannlnafcaaBenchWorstK3
namespace Go.Proofs.Ytmomjannlnafcaa.Abs
set_option linter.unusedSimpArgs false
set_option linter.unusedVariables false
open Go.RowKit
open Go.Proofs.Ytmomjannlnafcaa.Sim
open Go.Proofs
open Go.ChangeShapes Go.WideShapes Go.Deep
/-- The cells of n jobs; the After of job k lies in block e0 + k. -/
def jobCs (F : Nat → Job) (s : Nat → Value) (e0 n : Nat) : List Value := (List.range n).flatMap fun k => (F k).cells (mkV2 (e0 + k) (s k))
theorem jobCs_succ (F : Nat → Job) (s : Nat → Value) (e0 n : Nat) : jobCs F s e0 (n + 1) = jobCs F s e0 n ++ (F n).cells (mkV2 (e0 + n) (s n)) := by
  simp [jobCs, List.range_succ, List.flatMap_append]
theorem jobCs_len (F : Nat → Job) (s : Nat → Value) (e0 : Nat) : ∀ n, (jobCs F s e0 n).length = n * 4
  | 0 => rfl
  | n + 1 => by rw [jobCs_succ, List.length_append, jobCs_len F s e0 n]; simp [Job.cells]; omega
theorem jobCs_get (F : Nat → Job) (s : Nat → Value) (e0 : Nat) : ∀ n k, k < n → ∀ q v, ((F k).cells (mkV2 (e0 + k) (s k)))[q]? = some v → (jobCs F s e0 n)[k * 4 + q]? = some v
  | 0, k, h, _, _, _ => by omega
  | n + 1, k, h, q, v, hq => by
    have hq4 : q < 4 := by have := (List.getElem?_eq_some_iff.1 hq).1; simpa [Job.cells] using this
    rw [jobCs_succ]
    rcases Nat.lt_succ_iff_lt_or_eq.1 h with h' | h'
    · rw [List.getElem?_append_left (by rw [jobCs_len]; omega)]
      exact jobCs_get F s e0 n k h' q v hq
    · subst h'
      rw [List.getElem?_append_right (by rw [jobCs_len]; omega), jobCs_len, Nat.add_sub_cancel_left]
      exact hq
theorem cells4 (x : Job) (w : Value) (q : Nat) (v : Value) (h : (x.cells w)[q]? = some v) : q = 0 ∧ v = .int .i64 x.time ∨ q = 1 ∧ v = .int .i64 x.due ∨ q = 2 ∧ v = .int .i64 x.weight ∨ q = 3 ∧ v = w := by
  match q, h with
  | 0, h => simp [Job.cells] at h; exact .inl ⟨rfl, h.symm⟩
  | 1, h => simp [Job.cells] at h; exact .inr (.inl ⟨rfl, h.symm⟩)
  | 2, h => simp [Job.cells] at h; exact .inr (.inr (.inl ⟨rfl, h.symm⟩))
  | 3, h => simp [Job.cells] at h; exact .inr (.inr (.inr ⟨rfl, h.symm⟩))
  | q + 4, h => simp [Job.cells] at h
section
variable {H : Type} {enc : TypeId × Value → H} {P : Program} {w : World} {base : Nat} {held : Bool}
theorem arg_jobs {r : Reach} {b0 : Nat} {T e tS tI : TypeId} {fs : Array Field} {a : Option Addr} {n c : Nat} {d : DataW H} {p : List MemPlace} (ht : P.underlying T = some (.slice e)) (he : P.underlying e = some (.struct fs)) (hone : oneCellFields P fs = true) (hC : P.cellsOf e = fs.size) (hsz : fs.size = 4)
    (hI : ∀ j f, j < 3 → fs[j]? = some f → P.underlying f.type = some (.int .i64)) (hS : ∀ f, fs[3]? = some f → f.type = tS) (hS1 : P.underlying tS = some (.slice tI)) (hS2 : P.underlying tI = some (.int .i64)) (hS3 : P.cellsOf tI = 1)
    (hok : Value.okWide P w r b0 T (.slice a n c)) (h : DataW.Trod enc P w base (fun _ => true) held T (.slice a n c) d p) :
    ∃ (F : Nat → Job) (s : Nat → Value), n ≤ maxLen ∧ (∀ k, (F k).after.length ≤ maxLen) ∧ (∀ R k, OkB w R (s k, iv (F k).after)) ∧
      (∀ (bs : List AR) (e0 : Nat), (∀ k, k < n → bs[e0 + k]? = some (s k, iv (F k).after)) → OkB w (plN bs) (.slice a n c, jobCs F s e0 n)) ∧
      (∀ (bs : List AR) (i e0 : Nat), bs[i]? = some (.slice a n c, jobCs F s e0 n) → (∀ k, k < n → bs[e0 + k]? = some (s k, iv (F k).after)) → Jobs (bs.map mkB2) (mkV2 i (.slice a n c)) ((List.range n).map F)) := by
  obtain ⟨fuel, h⟩ := h
  rcases ok_slice ht hok with ⟨rfl, rfl, rfl⟩ | ⟨b, o, rfl, hle, hlt⟩
  · exact ⟨fun _ => default, fun _ => .slice none 0 0, by unfold maxLen; omega, fun _ => by show ([] : List Int).length ≤ _; simp, fun R k => .inl rfl, fun bs e0 _ => .inl rfl, fun bs i e0 hi _ =>
      ⟨i, 0, .inl ⟨rfl, rfl⟩, by simp; exact (List.getElem?_eq_some_iff.1 hi).1, fun k hk => by simp at hk⟩⟩
  · rcases open_slice_fields ht he hone hC h with ⟨hcs, _⟩ | ⟨x, l, cap, m, D, Pl, hcs, _, hl, hm, hmm, _, hrow⟩
    · simp [Value.cells] at hcs
    · simp [Value.cells] at hcs
      obtain ⟨rfl, rfl, rfl⟩ := hcs
      rw [if_pos rfl] at hmm
      have key : ∀ k : Nat, ∃ q : Job × Value, q.1.after.length ≤ maxLen ∧ (∀ R, OkB w R (q.2, iv q.1.after)) ∧ (∀ (bs : List AR) (i : Nat), bs[i]? = some (q.2, iv q.1.after) → Ints (bs.map mkB2) (mkV2 i q.2) q.1.after) ∧
          (k < n → w.cell? ⟨b, o + (k * 4 + 0), none⟩ = some (.int .i64 q.1.time) ∧ w.cell? ⟨b, o + (k * 4 + 1), none⟩ = some (.int .i64 q.1.due) ∧ w.cell? ⟨b, o + (k * 4 + 2), none⟩ = some (.int .i64 q.1.weight) ∧ w.cell? ⟨b, o + (k * 4 + 3), none⟩ = some q.2) := fun k => by
        by_cases hk : k < n
        · obtain ⟨ys, nn, _, _, _, hf⟩ := hrow k (by omega)
          rw [hsz] at hf
          have fi : ∀ j, j < 3 → ∃ z : Int, w.cell? ⟨b, o + (k * 4 + j), none⟩ = some (.int .i64 z) := fun j hj => by
            have hfj : fs[j]? = some (fs[j]'(by omega)) := Array.getElem?_eq_getElem (by omega)
            obtain ⟨v, y, h1, _, h3⟩ := hf j _ hfj
            obtain ⟨z, hz, _⟩ := DataW.trod_int (hI j _ hj hfj) h3
            simp at hz
            subst hz
            rw [Addr.add_lit] at h1
            exact ⟨z, h1⟩
          obtain ⟨z0, g0'⟩ := fi 0 (by omega)
          obtain ⟨z1, g1'⟩ := fi 1 (by omega)
          obtain ⟨z2, g2'⟩ := fi 2 (by omega)
          have hf3 : fs[3]? = some (fs[3]'(by omega)) := Array.getElem?_eq_getElem (by omega)
          obtain ⟨v, y, h1, _, h3⟩ := hf 3 _ hf3
          rw [hS _ hf3] at h3
          rw [Addr.add_lit] at h1
          obtain ⟨l, l1, l2, l3⟩ := ints_sl hS1 hS2 hS3 h3
          exact ⟨(⟨z0, z1, z2, l⟩, v), l1, l2, l3, fun _ => ⟨g0', g1', g2', h1⟩⟩
        · exact ⟨(default, .slice none 0 0), by show ([] : List Int).length ≤ _; simp, fun R => .inl rfl, fun bs i hi => ⟨i, 0, .inl ⟨rfl, rfl⟩, by simp; exact (List.getElem?_eq_some_iff.1 hi).1, fun k hk => by simp [default, instInhabitedJob] at hk⟩, fun h => absurd h hk⟩
      obtain ⟨G, hG⟩ := Classical.axiomOfChoice key
      refine ⟨fun k => (G k).1, fun k => (G k).2, by omega, fun k => (hG k).1, fun R k => (hG k).2.1 R, fun bs e0 hbs => ?_, fun bs i e0 hi hbs => ?_⟩
      · cases c with
        | zero =>
          obtain rfl : n = 0 := by omega
          exact .inr (.inl ⟨⟨b, o, none⟩, rfl⟩)
        | succ c =>
          refine .inr (.inr ⟨b, o, n, c, rfl, hle, hlt, fun j x hj => ?_⟩)
          have hjl := (List.getElem?_eq_some_iff.1 hj).1
          simp only [jobCs_len] at hjl
          have hk : j / 4 < n := by omega
          have hj4 : j % 4 < 4 := Nat.mod_lt _ (by omega)
          have e : j = j / 4 * 4 + j % 4 := by omega
          generalize hkk : j / 4 = k at *
          generalize hqq : j % 4 = q at *
          subst e
          have hcells : ∃ v, ((G k).1.cells (mkV2 (e0 + k) (G k).2))[q]? = some v := ⟨_, List.getElem?_eq_getElem (by simpa [Job.cells] using hj4)⟩
          obtain ⟨v, hv⟩ := hcells
          have hget := jobCs_get (fun k => (G k).1) (fun k => (G k).2) e0 n k hk q v hv
          simp only at hj
          rw [hget] at hj
          injection hj with hj
          subst hj
          obtain ⟨c0, c1, c2, c3⟩ := (hG k).2.2.2 hk
          rcases cells4 _ _ _ _ hv with ⟨rfl, rfl⟩ | ⟨rfl, rfl⟩ | ⟨rfl, rfl⟩ | ⟨rfl, rfl⟩
          · exact ⟨_, c0, .int _ _⟩
          · exact ⟨_, c1, .int _ _⟩
          · exact ⟨_, c2, .int _ _⟩
          · exact ⟨_, c3, relN (hbs k hk) ((hG k).2.1 (fun _ => none))⟩
      · have hlen : i < (bs.map mkB2).length := by simp; exact (List.getElem?_eq_some_iff.1 hi).1
        refine ⟨i, 0, by simpa [mkV2] using Sl.mk (Nat.le_refl n), hlen, fun k hk => ?_⟩
        have hk' : k < n := by simpa using hk
        have eg : ((List.range n).map fun k => (G k).1).getD k default = (G k).1 := by simp [hk']
        rw [eg]
        refine ⟨mkV2 (e0 + k) (G k).2, ?_, (hG k).2.2.1 bs (e0 + k) (hbs k hk')⟩
        cases c with
        | zero => omega
        | succ c =>
          refine ⟨{ cells := jobCs (fun k => (G k).1) (fun k => (G k).2) e0 n, kind := .ro }, by rw [List.getElem?_map, hi]; rfl, fun j v hj => ?_⟩
          rw [Nat.zero_add]
          exact jobCs_get _ _ e0 n k hk' j v hj
end
end Go.Proofs.Ytmomjannlnafcaa.Abs
namespace Go.Proofs.Ytmomjannlnafcaa.Abs
set_option linter.unusedSimpArgs false
set_option linter.unusedVariables false
open Go.RowKit
open Go.Proofs.Ytmomjannlnafcaa.Sim
open Go.Proofs
theorem short_rows {F : Nat → Job} {n : Nat} (h : n ≤ maxLen) (hF : ∀ k, (F k).after.length ≤ maxLen) : Short ((List.range n).map F) := by
  unfold maxLen at *
  refine ⟨by simp; omega, fun k hk => ?_⟩
  have hk' : k < n := by simpa using hk
  have e : ((List.range n).map F).getD k default = F k := by simp [hk']
  rw [e]
  have := hF k
  omega
end Go.Proofs.Ytmomjannlnafcaa.Abs
