import Derived.Test.YtabdnepfcohncaaE4
import Derived.Deep.RegionHeld3
namespace Go.Proofs.Ytabdnepfcohncaa
open Go.RowKit
set_option linter.unusedVariables false
set_option linter.unusedSimpArgs false
theorem DiskP.keeps {w w' : World} {g : Nat} {m : DM} {fp fq : Nat → Prop} (h : DiskP w g m fp) (k : Keeps w w' fq) (hd : ∀ i, fp i → ¬ fq i) : DiskP w' g m fp := by
  obtain ⟨left, A0, c0, A1, c1, hd1, hf, hf0, hf1⟩ := h
  exact ⟨left, A0, c0, A1, c1, ⟨hd1.blk.keeps k (hd g hf), hd1.left_, hd1.o0.keeps' k (fun i hi => hd i (hf0 i hi)), hd1.o1.keeps' k (fun i hi => hd i (hf1 i hi)), hd1.dis, hd1.ok⟩, hf, hf0, hf1⟩
theorem DiskR.keeps {w w' : World} {g : Nat} {m : DM} {fp fq : Nat → Prop} (h : DiskR w g m fp) (k : Keeps w w' fq) (hd : ∀ i, fp i → ¬ fq i) : DiskR w' g m fp := by
  obtain ⟨A0, c0, A1, c1, hd1, hf, hf0, hf1⟩ := h
  exact ⟨A0, c0, A1, c1, ⟨hd1.blk.keeps k (hd g hf), (hd1.r0.keeps k (Nat.le_refl _) (fun _ ad e => hd _ (hf0 ad e))).more k.size, (hd1.r1.keeps k (Nat.le_refl _) (fun _ ad e => hd _ (hf1 ad e))).more k.size, hd1.n0, hd1.n1, hd1.k0, hd1.k1, hd1.z0, hd1.z1, hd1.ok⟩, hf, hf0, hf1⟩
/-- Both disks, apart, with the same contents. -/
def Two (w : World) (g h : Nat) (m : DM) (fp : Nat → Prop) : Prop :=
  ∃ f1 f2, DiskP w g m f1 ∧ DiskR w h m f2 ∧ (∀ k, f1 k → ¬ f2 k) ∧ (∀ k, fp k ↔ f1 k ∨ f2 k) ∧ (∀ k, fp k → k < w.heap.size)
theorem Two.ok {w : World} {g h : Nat} {m : DM} {fp : Nat → Prop} (t : Two w g h m fp) : m.Ok := by
  obtain ⟨f1, f2, ⟨_, _, _, _, _, hp, _⟩, _⟩ := t; exact hp.ok
/-- A step of the first disk, then one of the second. -/
theorem Two.step {w w1 w2 : World} {g h : Nat} {m' : DM} {f1 f1' f2 f2' fp : Nat → Prop} (hf : ∀ k, fp k ↔ f1 k ∨ f2 k) (hfl : ∀ k, fp k → k < w.heap.size) (hdis : ∀ k, f1 k → ¬ f2 k)
    (h1 : DiskP w1 g m' f1') (s1 : Stp w w1 f1 f1') (h2 : DiskR w2 h m' f2') (s2 : Stp w1 w2 f2 f2') : Two w2 g h m' (fun k => f1' k ∨ f2' k) ∧ Stp w w2 fp (fun k => f1' k ∨ f2' k) := by
  have l1 : ∀ k, f1' k → k < w1.heap.size := s1.lt fun k hk => hfl k ((hf k).2 (.inl hk))
  have l2 : ∀ k, f2 k → k < w.heap.size := fun k hk => hfl k ((hf k).2 (.inr hk))
  have z1 := s1.keeps.size
  have z2 := s2.keeps.size
  have l2' : ∀ k, f2' k → k < w2.heap.size := s2.lt fun k hk => by have := l2 k hk; omega
  have d1 : ∀ k, f1' k → ¬ f2 k := s1.apart l2 hdis
  have d2 : ∀ k, f1' k → ¬ f2' k := fun k hk hk2 => by
    rcases s2.sub k hk2 with h3 | h3
    · exact d1 k hk h3
    · have := l1 k hk; omega
  refine ⟨⟨f1', f2', h1.keeps s2.keeps d1, h2, d2, fun k => Iff.rfl, fun k hk => ?_⟩, ?_, ?_⟩
  · rcases hk with hk | hk
    · have := l1 k hk; omega
    · exact l2' k hk
  · exact (s1.keeps.mono (fun k hk => (hf k).2 (.inl hk))).then_ s2.keeps (fun k hk => .inl ((hf k).2 (.inr hk)))
  · intro k hk
    rcases hk with hk | hk
    · rcases s1.sub k hk with h3 | h3
      · exact .inl ((hf k).2 (.inl h3))
      · exact .inr ⟨h3.1, by omega⟩
    · rcases s2.sub k hk with h3 | h3
      · exact .inl ((hf k).2 (.inr h3))
      · exact .inr ⟨by omega, h3.2⟩
theorem OB.low {w : World} {base base' : Nat} {v : Value} {l : List UInt8} (h : OB w base v l) (hb : base' ≤ base) : OB w base' v l := by
  refine ⟨h.1, ?_⟩
  rcases h.2 with h2 | ⟨g, cap, cur, hv, hg, r⟩
  · exact .inl h2
  · exact .inr ⟨g, cap, cur, hv, by omega, r⟩
theorem small_any {w : World} {kind n m : Int} {A : Option Addr} {k c B : Nat} {b : List UInt8} (hr : RB w B A k b) (hB : B ≤ w.heap.size) (hkc : k ≤ c) (hc : c ≤ maxLen) :
    Calls Try.prog 49 #[.agg #[.int .i64 kind, .int .i64 n, .int .i64 m, .slice A k c]] w fun e w' => ∃ A' c', e = .returned (.slice A' (min k 3000) c') ∧ OB w' w.heap.size (.slice A' (min k 3000) c') (b.take 3000) ∧ Below w.heap.size w w' := by
  have hc' : c ≤ 9223372036854775807 := hc
  have e : b.take 3000 = b.take (min k 3000) := by
    by_cases h : k ≤ 3000
    · rw [Nat.min_eq_left h, List.take_of_length_le (by rw [hr.len]; exact h), List.take_of_length_le (by rw [hr.len]; exact Nat.le_refl _)]
    · rw [Nat.min_eq_right (by omega)]
  rw [e]
  clear e
  by_cases h : k ≤ 3000
  · have hm : min k 3000 = k := Nat.min_eq_left h
    have hi : (if (3000 : Int) < (k : Int) then (3000 : Int) else (k : Int)) = (k : Int) := by rw [if_neg (by omega)]
    rw [hm]
    go_enter Try.func49, Try.ntmps49
    go_wp2_with fail
    refine (Clone_sl B _ _ _ (b.take k) _ ((hr.cut0 k (Nat.le_refl _)).alloc hB _) (by simp; omega) (by omega)).mono ?_
    rintro e w1 ⟨A1, c1, rfl, ho, hb⟩
    go_wp2
    go_ret
    have hb' : Below w.heap.size w w1 := ((Below.refl _ _).alloc (Nat.le_refl _) _).trans (hb.mono (by simp))
    exact ⟨A1, c1, rfl, ho.low (by simp), hb'⟩
  · have hm : min k 3000 = 3000 := Nat.min_eq_right (by omega)
    have h3 : (3000 : Int) < (k : Int) := by omega
    rw [hm]
    go_enter Try.func49, Try.ntmps49
    go_wp2_with fail
    refine (Clone_sl B _ _ _ (b.take 3000) _ ((hr.cut0 3000 (by omega)).alloc hB _) (by simp; omega) (by omega)).mono ?_
    rintro e w1 ⟨A1, c1, rfl, ho, hb⟩
    go_wp2
    go_ret
    have hb' : Below w.heap.size w w1 := ((Below.refl _ _).alloc (Nat.le_refl _) _).trans (hb.mono (by simp))
    exact ⟨A1, c1, rfl, ho.low (by simp), hb'⟩
end Go.Proofs.Ytabdnepfcohncaa
