import Derived.Test.YtabdnepfcohncaaF1
namespace Go.Proofs.Ytabdnepfcohncaa
open Go.RowKit
set_option linter.unusedVariables false
set_option linter.unusedSimpArgs false
theorem kind_rem (k : Int) : ∃ q : Nat, wrap64 ((IntKind.u64.wrap k).tmod 6) = (q : Int) ∧ q < 6 := by
  rw [IntKind.wrap_u64, Int.tmod_eq_emod_of_nonneg (by omega)]
  exact ⟨((k % 18446744073709551616) % 6).toNat, by unfold wrap64; omega, by omega⟩
theorem Two.alloc {w : World} {g h : Nat} {m : DM} {fp : Nat → Prop} (t : Two w g h m fp) (o : Obj) : Two (w.alloc o) g h m fp := by
  obtain ⟨f1, f2, h1, h2, hd, hf, hl⟩ := t
  have k1 : Keeps w (w.alloc o) (fun _ => False) := (Keeps.refl _ _).alloc o
  exact ⟨f1, f2, h1.keeps k1 (fun _ _ h => h), h2.keeps k1 (fun _ _ h => h), hd, hf, fun k hk => by have := hl k hk; simp; omega⟩
theorem Two.drewN {w : World} {g h : Nat} {m : DM} {fp : Nat → Prop} (t : Two w g h m fp) (n : Nat) : Two (w.drewN n) g h m fp := by
  obtain ⟨f1, f2, h1, h2, hd, hf, hl⟩ := t
  exact ⟨f1, f2, h1.drewN n, h2.drewN n, hd, hf, hl⟩
theorem Blk.four {w : World} {g : Nat} {t : TypeId} {a b c d : Value} (h : Blk w g t #[a, b, c, d]) : w.cell? ⟨g, 0, none⟩ = some a ∧ w.cell? ⟨g, 1, none⟩ = some b ∧ w.cell? ⟨g, 2, none⟩ = some c ∧ w.cell? ⟨g, 3, none⟩ = some d :=
  ⟨h.cell 0, h.cell 1, h.cell 2, h.cell 3⟩
/-- The act in the slot: what the walk of 'touched' is told. -/
structure Boxed (w W : World) (g h : Nat) (m : DM) (f1 f2 fp : Nat → Prop) (kind n mm : Int) (A : Option Addr) (k c : Nat) : Prop where
  keep : Keeps w W (fun _ => False)
  p1 : DiskP W g m f1
  p2 : DiskR W h m f2
  blk : Blk W w.heap.size 43 #[.int .i64 kind, .int .i64 n, .int .i64 mm, .slice A k c]
  dis : ∀ k, f1 k → ¬ f2 k
  iff : ∀ k, fp k ↔ f1 k ∨ f2 k
  lt : ∀ k, fp k → k < w.heap.size
  size : w.heap.size < W.heap.size
theorem Two.box {w : World} {g h : Nat} {m : DM} {fp : Nat → Prop} (t : Two w g h m fp) (kind n mm : Int) (A : Option Addr) (k c : Nat) :
    ∃ f1 f2, Boxed w (w.alloc (.cells #[.int .i64 kind, .int .i64 n, .int .i64 mm, .slice A k c] 43)) g h m f1 f2 fp kind n mm A k c := by
  obtain ⟨f1, f2, h1, h2, hd, hf, hl⟩ := t
  have k1 : Keeps w (w.alloc (.cells #[.int .i64 kind, .int .i64 n, .int .i64 mm, .slice A k c] 43)) (fun _ => False) := (Keeps.refl _ _).alloc _
  exact ⟨f1, f2, k1, h1.keeps k1 (fun _ _ h => h), h2.keeps k1 (fun _ _ h => h), Blk.new w 43 _, hd, hf, hl, by simp⟩
theorem Boxed.drew {w W : World} {g h : Nat} {m : DM} {f1 f2 fp : Nat → Prop} {kind n mm : Int} {A : Option Addr} {k c : Nat} (b : Boxed w W g h m f1 f2 fp kind n mm A k c) : Boxed w W.drew g h m f1 f2 fp kind n mm A k c :=
  ⟨b.keep.drew, b.p1.drewN 1, b.p2.drewN 1, b.blk, b.dis, b.iff, b.lt, b.size⟩
section
variable {w W w1 w2 : World} {g h : Nat} {m m' : DM} {f1 f2 fp f1' f2' : Nat → Prop} {kind n mm : Int} {A : Option Addr} {k c : Nat}
theorem Boxed.not1 (b : Boxed w W g h m f1 f2 fp kind n mm A k c) : ¬ f1 w.heap.size := fun e => by have := b.lt _ ((b.iff _).2 (.inl e)); omega
theorem Boxed.not2 (b : Boxed w W g h m f1 f2 fp kind n mm A k c) : ¬ f2 w.heap.size := fun e => by have := b.lt _ ((b.iff _).2 (.inr e)); omega
theorem Boxed.blk1 (b : Boxed w W g h m f1 f2 fp kind n mm A k c) (s1 : Keeps W w1 f1) : Blk w1 w.heap.size 43 #[.int .i64 kind, .int .i64 n, .int .i64 mm, .slice A k c] := b.blk.keeps s1 b.not1
theorem Boxed.r1 (b : Boxed w W g h m f1 f2 fp kind n mm A k c) (s1 : Keeps W w1 f1) : DiskR w1 h m f2 := b.p2.keeps s1 (fun i hi hi1 => b.dis i hi1 hi)
theorem Boxed.lt1 (b : Boxed w W g h m f1 f2 fp kind n mm A k c) : ∀ i, f1 i → i < W.heap.size := fun i hi => by have := b.lt i ((b.iff i).2 (.inl hi)); have := b.keep.size; omega
theorem step_small (b : Boxed w W g h m f1 f2 fp kind n mm A k c) (b1 : Below W.heap.size W w1) : Boxed w w1 g h m f1 f2 fp kind n mm A k c :=
  ⟨b.keep.then_ (Keeps.of_below (fp := fun _ => False) b1) (fun _ h => h.elim), b.p1.keeps (Keeps.of_below (fp := fun _ => False) b1) (fun _ _ h => h), b.p2.keeps (Keeps.of_below (fp := fun _ => False) b1) (fun _ _ h => h), b.blk.below b1 b.size, b.dis, b.iff, b.lt, Nat.lt_of_lt_of_le b.size b1.size⟩
theorem step_fresh {A1 : Option Addr} {x z1 : Nat} {l : List UInt8} (b : Boxed w W g h m f1 f2 fp kind n mm A k c) (o1 : OB w1 W.heap.size (.slice A1 x z1) l) : ∀ ad, A1 = some ad → ¬ f1 ad.block := fun ad e e2 => by
  have := (o1.blk_lt ad e).1; have := b.lt1 _ e2; omega
theorem step_fresh2 {A1 : Option Addr} {x z1 : Nat} {w3 : World} {l : List UInt8} (b : Boxed w W g h m f1 f2 fp kind n mm A k c) (s1 : Keeps W w1 f1) (o1 : OB w3 w1.heap.size (.slice A1 x z1) l) : ∀ ad, A1 = some ad → ¬ f2 ad.block := fun ad e e2 => by
  have := (o1.blk_lt ad e).1; have := b.lt _ ((b.iff _).2 (.inr e2)); have := b.size; have := s1.size; omega
/-- Both steps done. -/
theorem Boxed.done (b : Boxed w W g h m f1 f2 fp kind n mm A k c) (h1 : DiskP w1 g m' f1') (s1 : Stp W w1 f1 f1') (h2 : DiskR w2 h m' f2') (s2 : Stp w1 w2 f2 f2') : ∃ m' fp', Two w2 g h m' fp' ∧ Stp w w2 fp fp' := by
  have hsz := b.size
  obtain ⟨t, s⟩ := Two.step (w := W) b.iff (fun k hk => by have := b.lt k hk; omega) b.dis h1 s1 h2 s2
  refine ⟨m', _, t, ?_, ?_⟩
  · exact (b.keep.mono (fun _ e => e.elim)).then_ s.keeps (fun i hi => .inl hi)
  · intro i hi
    rcases s.sub i hi with e | e
    · exact .inl e
    · exact .inr ⟨by omega, e.2⟩
end
set_option maxHeartbeats 1000000 in
set_option maxRecDepth 100000 in
theorem touched_1 {w : World} {g h : Nat} {m : DM} {fp : Nat → Prop} (t : Two w g h m fp) (kind n mm : Int) (A : Option Addr) (k c : Nat) (hn : n ≤ 9223372036854775807) (hq : wrap64 ((IntKind.u64.wrap kind).tmod 6) = 1) :
    Calls Try.prog 25 #[.pointer (some ⟨g, 0, none⟩), .pointer (some ⟨h, 0, none⟩), .agg #[.int .i64 kind, .int .i64 n, .int .i64 mm, .slice A k c]] w fun e w' => e = .returned (.bool true) ∧ ∃ m' fp', Two w' g h m' fp' ∧ Stp w w' fp fp' := by
  obtain ⟨f1, f2, b⟩ := t.box kind n mm A k c
  have b := b.drew
  have hc := b.blk.four
  go_enter Try.func25, Try.ntmps25
  go_wp2_with fail
  go_region_held3 (fun w' => w'.cell? ⟨w.heap.size, 0, none⟩ = some (.int .i64 kind) ∧ w'.cell? ⟨w.heap.size, 1, none⟩ = some (.int .i64 n) ∧ w'.cell? ⟨w.heap.size, 2, none⟩ = some (.int .i64 mm) ∧ w'.cell? ⟨w.heap.size, 3, none⟩ = some (.slice A k c)) (first | exact hc | exact hc1 | exact hc2) (first | (go_at_call 66; refine (Sync_any b.p1 n).mono ?_; rintro e w1 ⟨rfl, q1, s1⟩; have hc1 := (b.blk1 s1.keeps).four; have hr1 := b.r1 s1.keeps; have hb1 := b.blk1 s1.keeps; have hn2 := b.not2) | (go_at_call 78; refine (rSync_any hr1 n).mono ?_; rintro e w2 ⟨rfl, q2, s2⟩; have hc2 := (hb1.keeps s2.keeps hn2).four))
  go_wp2
  go_ret
  exact ⟨ret_bool (by simp), b.done q1 s1 q2 s2⟩
set_option maxHeartbeats 1000000 in
set_option maxRecDepth 100000 in
theorem touched_2 {w : World} {g h : Nat} {m : DM} {fp : Nat → Prop} (t : Two w g h m fp) (kind n mm : Int) (A : Option Addr) (k c : Nat) (hn : n ≤ 9223372036854775807) (hq : wrap64 ((IntKind.u64.wrap kind).tmod 6) = 2) :
    Calls Try.prog 25 #[.pointer (some ⟨g, 0, none⟩), .pointer (some ⟨h, 0, none⟩), .agg #[.int .i64 kind, .int .i64 n, .int .i64 mm, .slice A k c]] w fun e w' => e = .returned (.bool true) ∧ ∃ m' fp', Two w' g h m' fp' ∧ Stp w w' fp fp' := by
  obtain ⟨f1, f2, b⟩ := t.box kind n mm A k c
  have b := b.drew
  have hc := b.blk.four
  go_enter Try.func25, Try.ntmps25
  go_wp2_with fail
  go_region_held3 (fun w' => w'.cell? ⟨w.heap.size, 0, none⟩ = some (.int .i64 kind) ∧ w'.cell? ⟨w.heap.size, 1, none⟩ = some (.int .i64 n) ∧ w'.cell? ⟨w.heap.size, 2, none⟩ = some (.int .i64 mm) ∧ w'.cell? ⟨w.heap.size, 3, none⟩ = some (.slice A k c)) (first | exact hc | exact hc1 | exact hc2) (first | (go_at_call 67; refine (Clear_any b.p1 n).mono ?_; rintro e w1 ⟨rfl, q1, s1⟩; have hc1 := (b.blk1 s1.keeps).four; have hr1 := b.r1 s1.keeps; have hb1 := b.blk1 s1.keeps; have hn2 := b.not2) | (go_at_call 79; refine (rClear_any hr1 n).mono ?_; rintro e w2 ⟨rfl, q2, s2⟩; have hc2 := (hb1.keeps s2.keeps hn2).four))
  go_wp2
  go_ret
  exact ⟨ret_bool (by simp), b.done q1 s1 q2 s2⟩
set_option maxHeartbeats 1000000 in
set_option maxRecDepth 100000 in
theorem touched_3 {w : World} {g h : Nat} {m : DM} {fp : Nat → Prop} (t : Two w g h m fp) (kind n mm : Int) (A : Option Addr) (k c : Nat) (hn : n ≤ 9223372036854775807) (hq : wrap64 ((IntKind.u64.wrap kind).tmod 6) = 3) :
    Calls Try.prog 25 #[.pointer (some ⟨g, 0, none⟩), .pointer (some ⟨h, 0, none⟩), .agg #[.int .i64 kind, .int .i64 n, .int .i64 mm, .slice A k c]] w fun e w' => e = .returned (.bool true) ∧ ∃ m' fp', Two w' g h m' fp' ∧ Stp w w' fp fp' := by
  obtain ⟨f1, f2, b⟩ := t.box kind n mm A k c
  have hc := b.blk.four
  obtain ⟨c0, c1, c2, c3⟩ := hc
  go_enter Try.func25, Try.ntmps25
  go_wp2_with fail
  refine (Read_any b.p1 n).mono ?_
  rintro e w1 ⟨A1, z1, rfl, o1, b1⟩
  have s1 : Keeps _ w1 f1 := Keeps.of_below b1
  have p1 : DiskP w1 g m f1 := b.p1.keeps (Keeps.of_below (fp := fun _ => False) b1) (fun _ _ h => h)
  have hb1 := b.blk1 s1
  have p2 := b.r1 s1
  obtain ⟨d0, d1, d2, d3⟩ := hb1.four
  go_wp2_with fail
  refine (rRead_any p2 n).mono ?_
  rintro e w2 ⟨A2, z2, rfl, o2, b2⟩
  have p2' : DiskR w2 h m f2 := p2.keeps (Keeps.of_below (fp := fun _ => False) b2) (fun _ _ h => h)
  go_wp2_with fail
  refine (Equal_any _ _ _ _ _ _ _ _ _ _ _ (o1.read.1.below b2 (Nat.le_refl _)) o2.read.1).mono ?_
  rintro e w3 ⟨rfl, rfl⟩
  rw [show ((m.read n).1 == (m.read n).1) = true by simp]
  go_wp2
  go_ret
  exact ⟨ret_bool (by simp), b.done p1 (Stp.mk s1 (fun _ h => .inl h)) p2' (Stp.mk (Keeps.of_below b2) (fun _ h => .inl h))⟩
set_option maxHeartbeats 1000000 in
set_option maxRecDepth 100000 in
theorem touched_4 {w : World} {g h : Nat} {m : DM} {fp : Nat → Prop} (t : Two w g h m fp) (kind n mm : Int) (A : Option Addr) (k c : Nat) (hn : n ≤ 9223372036854775807) (hq : wrap64 ((IntKind.u64.wrap kind).tmod 6) = 4) :
    Calls Try.prog 25 #[.pointer (some ⟨g, 0, none⟩), .pointer (some ⟨h, 0, none⟩), .agg #[.int .i64 kind, .int .i64 n, .int .i64 mm, .slice A k c]] w fun e w' => e = .returned (.bool true) ∧ ∃ m' fp', Two w' g h m' fp' ∧ Stp w w' fp fp' := by
  obtain ⟨f1, f2, b⟩ := t.box kind n mm A k c
  obtain ⟨c0, c1, c2, c3⟩ := b.blk.four
  go_enter Try.func25, Try.ntmps25
  go_wp2_with fail
  refine (Fuse_any b.p1 n hn).mono ?_
  rintro e w1 ⟨rfl, p1, s1⟩
  have hb1 := b.blk1 s1.keeps
  have p2 := b.r1 s1.keeps
  obtain ⟨d0, d1, d2, d3⟩ := hb1.four
  go_wp2_with fail
  refine (rFuse_any p2 n hn).mono ?_
  rintro e w2 ⟨rfl, p2', s2⟩
  go_wp2
  go_ret
  exact ⟨ret_bool rfl, b.done p1 s1 p2' s2⟩
set_option maxHeartbeats 1000000 in
set_option maxRecDepth 100000 in
theorem touched_5 {w : World} {g h : Nat} {m : DM} {fp : Nat → Prop} (t : Two w g h m fp) (kind n mm : Int) (A : Option Addr) (k c : Nat) (hn : n ≤ 9223372036854775807) (hq : wrap64 ((IntKind.u64.wrap kind).tmod 6) = 5) :
    Calls Try.prog 25 #[.pointer (some ⟨g, 0, none⟩), .pointer (some ⟨h, 0, none⟩), .agg #[.int .i64 kind, .int .i64 n, .int .i64 mm, .slice A k c]] w fun e w' => e = .returned (.bool true) ∧ ∃ m' fp', Two w' g h m' fp' ∧ Stp w w' fp fp' := by
  obtain ⟨f1, f2, b⟩ := t.box kind n mm A k c
  obtain ⟨c0, c1, c2, c3⟩ := b.blk.four
  go_enter Try.func25, Try.ntmps25
  go_wp2_with fail
  refine (Crash_any b.p1 n mm).mono ?_
  rintro e w1 ⟨rfl, p1, s1⟩
  have hb1 := b.blk1 s1.keeps
  have p2 := b.r1 s1.keeps
  obtain ⟨d0, d1, d2, d3⟩ := hb1.four
  go_wp2_with fail
  refine (rCrash_any p2 n mm).mono ?_
  rintro e w2 ⟨rfl, p2', s2⟩
  go_wp2
  go_ret
  exact ⟨ret_bool rfl, b.done p1 s1 p2' s2⟩
set_option maxHeartbeats 1000000 in
set_option maxRecDepth 100000 in
theorem touched_0 {w : World} {g h : Nat} {m : DM} {fp : Nat → Prop} (t : Two w g h m fp) (kind n mm : Int) (A : Option Addr) (k c : Nat) (hn : n ≤ 9223372036854775807) {B : Nat} {l : List UInt8} (hr : RB w B A k l) (hB : B ≤ w.heap.size) (hkc : k ≤ c) (hz : c ≤ maxLen) (hA : 0 < k → ∀ ad, A = some ad → ¬ fp ad.block) (hq : wrap64 ((IntKind.u64.wrap kind).tmod 6) = 0) :
    Calls Try.prog 25 #[.pointer (some ⟨g, 0, none⟩), .pointer (some ⟨h, 0, none⟩), .agg #[.int .i64 kind, .int .i64 n, .int .i64 mm, .slice A k c]] w fun e w' => e = .returned (.bool true) ∧ ∃ m' fp', Two w' g h m' fp' ∧ Stp w w' fp fp' := by
  obtain ⟨f1, f2, b⟩ := t.box kind n mm A k c
  have b := b.drew
  have hc := b.blk.four
  have hr1 : RB (w.alloc (.cells #[.int .i64 kind, .int .i64 n, .int .i64 mm, .slice A k c] 43)).drew B A k l := Reads.alloc hr hB _
  have hB1 : B ≤ (w.alloc (.cells #[.int .i64 kind, .int .i64 n, .int .i64 mm, .slice A k c] 43)).drew.heap.size := by simp; omega
  have HZ := Lib.hid (And.intro hkc (And.intro hz hA))
  clear hkc hz hA
  go_enter Try.func25, Try.ntmps25
  go_wp2_with fail
  go_region_held3 (fun w' => w'.cell? ⟨w.heap.size, 0, none⟩ = some (.int .i64 kind) ∧ w'.cell? ⟨w.heap.size, 1, none⟩ = some (.int .i64 n) ∧ w'.cell? ⟨w.heap.size, 2, none⟩ = some (.int .i64 mm) ∧ w'.cell? ⟨w.heap.size, 3, none⟩ = some (.slice A k c)) (first | exact hc | exact hc1 | exact hc2 | exact hc3 | exact hc4)
    (first
      | (go_at_call 49; refine (small_any hr1 hB1 HZ.out.1 HZ.out.2.1).mono ?_; rintro e w1 ⟨A1, z1, rfl, o1, b1⟩; have b' := step_small b b1; have hc1 := b'.blk.four; have hr2 := hr1.below b1 hB1; have hB2 := Nat.le_trans hB1 b1.size)
      | (go_at_call 48; refine (Append_any b'.p1 b'.lt1 n o1.read.1 (Nat.le_refl _) (by omega) (step_fresh b o1)).mono ?_; rintro e w2 ⟨rfl, f1', q1, s1⟩; have hc2 := (b'.blk1 s1.keeps).four; have p2 := b'.r1 s1.keeps; have hb2 := b'.blk1 s1.keeps; have hn2 := b'.not2; have hr3 := hr2.keeps s1.keeps hB2 (fun hk ad e e2 => HZ.out.2.2 hk ad e ((b'.iff _).2 (.inl e2))); have hB3 := Nat.le_trans hB2 s1.keeps.size)
      | (go_at_call 49; refine (small_any hr3 hB3 HZ.out.1 HZ.out.2.1).mono ?_; rintro e w3 ⟨A3, z3, rfl, o3, b3⟩; have hc3 := (hb2.below b3 hb2.lt).four; have p3 : DiskR w3 h m f2 := p2.keeps (Keeps.of_below (fp := fun _ => False) b3) (fun _ _ h => h))
      | (go_at_call 77; refine (rAppend_any p3 n o3.read.1 (Nat.le_refl _) (by omega) (step_fresh2 b' s1.keeps o3)).mono ?_; rintro e w4 ⟨rfl, f2', q2, s2⟩; have hc4 := ((hb2.below b3 hb2.lt).keeps s2.keeps hn2).four))
  go_wp2
  go_ret
  have s2' : Stp w2 w4 f2 f2' := ⟨(Keeps.of_below b3).then_ s2.keeps (fun _ h => .inl h), fun i hi => (s2.sub i hi).imp id (fun e => ⟨by have := b3.size; omega, e.2⟩)⟩
  exact ⟨ret_bool (by simp), b'.done q1 s1 q2 s2'⟩
end Go.Proofs.Ytabdnepfcohncaa
