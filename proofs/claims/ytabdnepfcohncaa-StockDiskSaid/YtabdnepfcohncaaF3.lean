import Derived.Test.YtabdnepfcohncaaF2
namespace Go.Proofs.Ytabdnepfcohncaa
open Go.RowKit
set_option linter.unusedVariables false
set_option linter.unusedSimpArgs false
theorem touched_any {w : World} {g h : Nat} {m : DM} {fp : Nat → Prop} (t : Two w g h m fp) (kind n mm : Int) (A : Option Addr) (k c : Nat) (hn : n ≤ 9223372036854775807) {B : Nat} {l : List UInt8} (hr : RB w B A k l) (hB : B ≤ w.heap.size) (hkc : k ≤ c) (hz : c ≤ maxLen) (hA : 0 < k → ∀ ad, A = some ad → ¬ fp ad.block) :
    Calls Try.prog 25 #[.pointer (some ⟨g, 0, none⟩), .pointer (some ⟨h, 0, none⟩), .agg #[.int .i64 kind, .int .i64 n, .int .i64 mm, .slice A k c]] w fun e w' => e = .returned (.bool true) ∧ ∃ m' fp', Two w' g h m' fp' ∧ Stp w w' fp fp' := by
  obtain ⟨q, hq, hlt⟩ := kind_rem kind
  have hc : q = 0 ∨ q = 1 ∨ q = 2 ∨ q = 3 ∨ q = 4 ∨ q = 5 := by omega
  rcases hc with rfl | rfl | rfl | rfl | rfl | rfl
  · exact touched_0 t kind n mm A k c hn hr hB hkc hz hA hq
  · exact touched_1 t kind n mm A k c hn hq
  · exact touched_2 t kind n mm A k c hn hq
  · exact touched_3 t kind n mm A k c hn hq
  · exact touched_4 t kind n mm A k c hn hq
  · exact touched_5 t kind n mm A k c hn hq
theorem Two.below {w w' : World} {g h : Nat} {m : DM} {fp : Nat → Prop} (t : Two w g h m fp) (b : Below w.heap.size w w') : Two w' g h m fp := by
  obtain ⟨f1, f2, h1, h2, hd, hf, hl⟩ := t
  have k1 : Keeps w w' (fun _ => False) := Keeps.of_below b
  exact ⟨f1, f2, h1.keeps k1 (fun _ _ h => h), h2.keeps k1 (fun _ _ h => h), hd, hf, fun k hk => by have := hl k hk; have := b.size; omega⟩
set_option maxHeartbeats 1000000 in
theorem both_any {w : World} {g h : Nat} {m : DM} {fp : Nat → Prop} (t : Two w g h m fp) :
    Calls Try.prog 26 #[.pointer (some ⟨g, 0, none⟩), .pointer (some ⟨h, 0, none⟩)] w fun e w' => e = .returned (.bool true) ∧ Below w.heap.size w w' := by
  obtain ⟨f1, f2, h1, h2, hd, hf, hl⟩ := t
  go_enter Try.func26, Try.ntmps26
  go_wp2
  go_loopw [10] (fun i wr => ∃ k : Nat, k ≤ 2 ∧ i = .int .i64 k ∧ Below w.heap.size w wr) (fun i _ => 2 - (intOf i).toNat)
  case atStart => exact ⟨0, by omega, rfl, Below.refl _ _⟩
  case round =>
    obtain ⟨k, hk, rfl, hb⟩ := hrel
    by_cases hlt : k < 2
    · have q1 : DiskP wr g m f1 := h1.keeps (Keeps.of_below (fp := fun _ => False) hb) (fun _ _ h => h)
      go_wp2_with fail
      refine (Read_any q1 k).mono ?_
      rintro e w1 ⟨A1, z1, rfl, o1, b1⟩
      have hb1 := hb.trans (b1.mono hb.size)
      have q2 : DiskR w1 h m f2 := h2.keeps (Keeps.of_below (fp := fun _ => False) hb1) (fun _ _ h => h)
      go_wp2_with fail
      refine (rRead_any q2 k).mono ?_
      rintro e w2 ⟨A2, z2, rfl, o2, b2⟩
      have hb2 := hb1.trans (b2.mono hb1.size)
      go_wp2_with fail
      refine (Equal_any _ _ _ _ _ _ _ _ _ _ _ (o1.read.1.below b2 (Nat.le_refl _)) o2.read.1).mono ?_
      rintro e w3 ⟨rfl, rfl⟩
      rw [show ((m.read k).1 == (m.read k).1) = true by simp]
      go_wp2
      go_roundw
      case rel => exact ⟨k + 1, by omega, by go_num, hb2⟩
      case measure => simp [intOf]; omega
    · go_wp2
      go_ret
      exact ⟨rfl, hb⟩
/-- An act as it lies in memory. -/
structure ActD where
  kind : Int
  n : Int
  m : Int
  A : Option Addr
  k : Nat
  c : Nat
structure ActOk (w : World) (B : Nat) (a : ActD) : Prop where
  n1 : a.n ≤ 9223372036854775807
  kc : a.k ≤ a.c
  cm : a.c ≤ maxLen
  rb : ∃ l, RB w B a.A a.k l
def ActsIn (w : World) (B : Nat) (A : Option Addr) (acts : List ActD) : Prop :=
  (∀ a ∈ acts, ActOk w B a) ∧ (0 < acts.length → ∃ ad, A = some ad ∧ ad.block < B ∧ ∀ i (h : i < acts.length),
    w.cell? (ad.add (i * 4)) = some (.int .i64 acts[i].kind) ∧ w.cell? (ad.add (i * 4 + 1)) = some (.int .i64 acts[i].n) ∧ w.cell? (ad.add (i * 4 + 2)) = some (.int .i64 acts[i].m) ∧ w.cell? (ad.add (i * 4 + 3)) = some (.slice acts[i].A acts[i].k acts[i].c))
theorem ActOk.below {w w' : World} {B : Nat} {a : ActD} (h : ActOk w B a) (hb : Below B w w') : ActOk w' B a := by
  obtain ⟨l, hl⟩ := h.rb
  exact ⟨h.n1, h.kc, h.cm, ⟨l, hl.below hb (Nat.le_refl _)⟩⟩
theorem ActsIn.below {w w' : World} {B : Nat} {A : Option Addr} {acts : List ActD} (h : ActsIn w B A acts) (hb : Below B w w') : ActsIn w' B A acts := by
  refine ⟨fun a ha => (h.1 a ha).below hb, fun hl => ?_⟩
  obtain ⟨ad, e, hlt, hc⟩ := h.2 hl
  refine ⟨ad, e, hlt, fun i hi => ?_⟩
  obtain ⟨a1, a2, a3, a4⟩ := hc i hi
  have hk : ∀ j, w'.cell? (ad.add j) = w.cell? (ad.add j) := fun j => hb.cell (by rw [block_of_add]; exact hlt)
  exact ⟨(hk _).trans a1, (hk _).trans a2, (hk _).trans a3, (hk _).trans a4⟩
set_option maxHeartbeats 1000000 in
theorem disk_walk (n : Int) (A : Option Addr) (len c : Nat) (acts : List ActD) (w : World) (hlen : acts.length = len) (ha : ActsIn w w.heap.size A acts) (hm : len ≤ maxLen) :
    Calls Try.prog 5 #[.int .i64 n, .slice A len c] w fun e w' => e = .returned (.bool true) ∧ Below w.heap.size w w' := by
  unfold maxLen at hm
  subst hlen
  by_cases hn : n < 64 ∨ 1048576 < n
  · go_enter Try.func5, Try.ntmps5
    go_wp2_with fail
    refine (NewDisk_no n w hn).mono ?_
    rintro e w1 ⟨rfl, rfl⟩
    go_wp2_with fail
    refine (rNewDisk_no n w hn).mono ?_
    rintro e w1 ⟨rfl, rfl⟩
    go_wp2_with fail
    refine (awake_any _).mono ?_
    rintro e w1 ⟨rfl, hb1⟩
    go_wp2
    go_ret
    exact ⟨rfl, hb1⟩
  · obtain ⟨most, rfl⟩ := Int.eq_ofNat_of_zero_le (show 0 ≤ n by omega)
    have hm0 : 64 ≤ most := by omega
    have hm1 : most ≤ 1048576 := by omega
    clear hn
    go_enter Try.func5, Try.ntmps5
    go_wp2_with fail
    refine (NewDisk_yes most w hm0 hm1).mono ?_
    rintro e w1 ⟨g, rfl, hp, hg, hgl, hb1⟩
    go_wp2_with fail
    refine (rNewDisk_yes most w1 hm0 hm1).mono ?_
    rintro e w2 ⟨h, rfl, hr, hh, hhl, hb2⟩
    have ht : Two w2 g h (DM.new most) (fun k => k = g ∨ k = h) := by
      refine ⟨_, _, hp.keeps (Keeps.of_below (fp := fun _ => False) hb2) (fun _ _ h => h), hr, fun k e1 e2 => by omega, fun k => Iff.rfl, fun k hk => ?_⟩
      have := hb2.size
      omega
    have hb12 := hb1.trans (hb2.mono hb1.size)
    have hbase : ∀ k, (fun k => k = g ∨ k = h) k → w.heap.size ≤ k := by
      intro k hk
      have := hb1.size
      rcases hk with rfl | rfl <;> omega
    go_wp2_with fail
    go_loopw [36] (fun i wr => ∃ (k : Nat) (m : DM) (fp : Nat → Prop), k ≤ acts.length ∧ i = .int .i64 k ∧ Two wr g h m fp ∧ (∀ j, fp j → w.heap.size ≤ j) ∧ Below w.heap.size w wr) (fun i _ => acts.length - (intOf i).toNat)
    case atStart => exact ⟨0, _, _, Nat.zero_le _, rfl, ht, hbase, hb12⟩
    case round =>
      clear ht hbase hb12 hp hr hb1 hb2
      obtain ⟨k, m, fp, hk, rfl, t, hbase, hb⟩ := hrel
      by_cases hlt : k < acts.length
      · obtain ⟨ad, rfl, had, hcs⟩ := (ha.below hb).2 (by omega)
        obtain ⟨a1, a2, a3, a4⟩ := hcs k hlt
        clear hcs
        have ok := (ha.below hb).1 _ (List.getElem_mem hlt)
        generalize acts[k] = x at *
        have a2 := cell_at a2 (by omega)
        have a3 := cell_at a3 (by omega)
        have a4 := cell_at a4 (by omega)
        have o1 := ok.n1
        have o2 := ok.kc
        have o3 := ok.cm
        obtain ⟨l, hrl⟩ := ok.rb
        by_cases h60 : 60 < k
        · go_wp2_with fail
          refine (awake_any _).mono ?_
          rintro e w3 ⟨rfl, hb3⟩
          go_wp2
          go_ret
          have hba := hb.alloc hb.size (.cells #[.int .i64 x.kind, .int .i64 x.n, .int .i64 x.m, .slice x.A x.k x.c] 43)
          exact ⟨rfl, hba.trans (hb3.mono hba.size)⟩
        · have hba := hb.alloc hb.size (.cells #[.int .i64 x.kind, .int .i64 x.n, .int .i64 x.m, .slice x.A x.k x.c] 43)
          have ta := t.alloc (.cells #[.int .i64 x.kind, .int .i64 x.n, .int .i64 x.m, .slice x.A x.k x.c] 43)
          have hra : RB (wr.alloc (.cells #[.int .i64 x.kind, .int .i64 x.n, .int .i64 x.m, .slice x.A x.k x.c] 43)) w.heap.size x.A x.k l := Reads.alloc hrl hb.size _
          have hAd : 0 < x.k → ∀ ad, x.A = some ad → ¬ fp ad.block := fun hk ad e e2 => by
            obtain ⟨ad', e', hlt'⟩ := hrl.some_ hk
            rw [e] at e'; injection e' with e'; subst e'
            have := hbase _ e2; omega
          go_wp2_with fail
          refine (touched_any ta x.kind x.n x.m x.A x.k x.c o1 hra hba.size o2 o3 hAd).mono ?_
          rintro e w3 ⟨rfl, m', fp', t', st⟩
          have hb3 := hba.trans (st.keeps.below hba.size hbase)
          have hbase' := st.ge hba.size hbase
          go_wp2_with fail
          refine (both_any t').mono ?_
          rintro e w4 ⟨rfl, hb4⟩
          have hb34 := hb3.trans (hb4.mono hb3.size)
          go_wp2
          go_roundw
          case rel => exact ⟨k + 1, m', fp', by omega, by go_num, t'.below hb4, hbase', hb34⟩
          case measure => simp [intOf]; omega
      · go_wp2_with fail
        refine (awake_any _).mono ?_
        rintro e w3 ⟨rfl, hb3⟩
        go_wp2
        go_ret
        exact ⟨rfl, hb.trans (hb3.mono hb.size)⟩
end Go.Proofs.Ytabdnepfcohncaa
