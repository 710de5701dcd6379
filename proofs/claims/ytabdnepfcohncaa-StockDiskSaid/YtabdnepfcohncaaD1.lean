import Derived.Test.YtabdnepfcohncaaObj
namespace Go.Proofs.Ytabdnepfcohncaa
open Go.RowKit
set_option linter.unusedVariables false
/-- The program's disk at block g. -/
structure DP (w : World) (g : Nat) (m : DM) (left : Int) (A0 : Option Addr) (c0 : Nat) (A1 : Option Addr) (c1 : Nat) : Prop where
  blk : Blk w g 120 #[.bool m.off, .bool m.fuse.isSome, .int .i64 left, .slice A0 m.l0.length c0, .int .i64 m.s0, .slice A1 m.l1.length c1, .int .i64 m.s1, .int .i64 m.most]
  left_ : ∀ k, m.fuse = some k → left = k
  o0 : OB w 0 (.slice A0 m.l0.length c0) m.l0
  o1 : OB w 0 (.slice A1 m.l1.length c1) m.l1
  dis : ∀ i, blkOf A0 = some i → blkOf A1 ≠ some i
  ok : m.Ok
section
variable {w w' : World} {g : Nat} {m : DM} {left : Int} {A0 A1 : Option Addr} {c0 c1 : Nat}
theorem DP.cells (h : DP w g m left A0 c0 A1 c1) : w.cell? ⟨g, 0, none⟩ = some (.bool m.off) ∧ w.cell? ⟨g, 1, none⟩ = some (.bool m.fuse.isSome) ∧ w.cell? ⟨g, 2, none⟩ = some (.int .i64 left) ∧
    w.cell? ⟨g, 3, none⟩ = some (.slice A0 m.l0.length c0) ∧ w.cell? ⟨g, 4, none⟩ = some (.int .i64 m.s0) ∧ w.cell? ⟨g, 5, none⟩ = some (.slice A1 m.l1.length c1) ∧ w.cell? ⟨g, 6, none⟩ = some (.int .i64 m.s1) ∧
    w.cell? ⟨g, 7, none⟩ = some (.int .i64 m.most) :=
  ⟨h.blk.cell 0, h.blk.cell 1, h.blk.cell 2, h.blk.cell 3, h.blk.cell 4, h.blk.cell 5, h.blk.cell 6, h.blk.cell 7⟩
theorem DP.fz (h : DP w g m left A0 c0 A1 c1) (i : Nat) : w.frozen? ⟨g, i, none⟩ = false := h.blk.frozen i
end
theorem at_0 {w : World} {g : Nat} {most : Int} (h : w.cell? ⟨g, 7, none⟩ = some (.int .i64 most)) (hm : 64 ≤ most) :
    Calls Try.prog 115 #[.pointer (some ⟨g, 0, none⟩), .int .i64 0] w fun e w' => e = .returned (.tuple #[.pointer (some ⟨g, 3, none⟩), .int .i64 0]) ∧ w = w' := by
  have h0 : (most == 0) = false := by simp; omega
  go_enter Try.func115, Try.ntmps115
  go_wp2
  go_ret2
  exact ⟨rfl, rfl⟩
theorem at_1 {w : World} {g : Nat} {most : Int} (h : w.cell? ⟨g, 7, none⟩ = some (.int .i64 most)) (hm : 64 ≤ most) :
    Calls Try.prog 115 #[.pointer (some ⟨g, 0, none⟩), .int .i64 1] w fun e w' => e = .returned (.tuple #[.pointer (some ⟨g, 5, none⟩), .int .i64 0]) ∧ w = w' := by
  have h0 : (most == 0) = false := by simp; omega
  go_enter Try.func115, Try.ntmps115
  go_wp2
  go_ret2
  exact ⟨rfl, rfl⟩
theorem at_x {w : World} {g : Nat} {most : Int} (n : Int) (h : w.cell? ⟨g, 7, none⟩ = some (.int .i64 most)) (hm : 64 ≤ most) (hn : n ≠ 0) (hn1 : n ≠ 1) :
    Calls Try.prog 115 #[.pointer (some ⟨g, 0, none⟩), .int .i64 n] w fun e w' => e = .returned (.tuple #[.pointer none, .int .i64 2]) ∧ w = w' := by
  have h0 : (most == 0) = false := by simp; omega
  by_cases hneg : n < 0
  · go_enter Try.func115, Try.ntmps115
    go_wp2
    go_ret2
    exact ⟨rfl, rfl⟩
  · have hp : 1 < n := by omega
    clear hn hn1
    go_enter Try.func115, Try.ntmps115
    go_wp2
    go_ret2
    exact ⟨rfl, rfl⟩
theorem spend_any {w : World} {g : Nat} {m : DM} {left : Int} {A0 A1 : Option Addr} {c0 c1 : Nat} (h : DP w g m left A0 c0 A1 c1) :
    Calls Try.prog 116 #[.pointer (some ⟨g, 0, none⟩)] w fun e w' => e = .returned (.bool m.spend.1) ∧ ∃ left', DP w' g m.spend.2 left' A0 c0 A1 c1 ∧ Keeps w w' (· = g) := by
  obtain ⟨k0, k1, k2, _⟩ := h.cells
  have f0 := h.fz 0
  have f2 := h.fz 2
  by_cases ho : m.off = true
  · have hs : m.spend = (false, m) := by unfold DM.spend; rw [if_pos ho]
    rw [hs]
    rw [ho] at k0
    go_enter Try.func116, Try.ntmps116
    go_wp2
    go_ret
    exact ⟨rfl, left, h, Keeps.refl _ _⟩
  · have ho' : m.off = false := by simpa using ho
    rw [ho'] at k0
    cases hf : m.fuse with
    | none =>
      have hs : m.spend = (true, m) := by unfold DM.spend; rw [if_neg ho, hf]
      rw [hs]
      rw [hf] at k1
      have k1' : w.cell? ⟨g, 1, none⟩ = some (.bool false) := k1
      clear hf k1
      go_enter Try.func116, Try.ntmps116
      go_wp2
      go_ret
      exact ⟨rfl, left, h, Keeps.refl _ _⟩
    | some k =>
      rw [hf] at k1
      have k1' : w.cell? ⟨g, 1, none⟩ = some (.bool true) := k1
      clear k1
      have hl := h.left_ k hf
      rw [hl] at k2
      have hkb := h.ok.f k hf
      cases k with
      | zero =>
        have hs : m.spend = (false, { m with off := true }) := by unfold DM.spend; rw [if_neg ho, hf]
        rw [hs]
        have HF := Lib.hid hf
        have HL := Lib.hid hl
        clear hf hl ho ho'
        go_enter Try.func116, Try.ntmps116
        go_wp2
        go_ret
        refine ⟨rfl, left, ⟨?_, h.left_, ?_, ?_, h.dis, ⟨h.ok.m0, h.ok.m1, h.ok.a0, h.ok.a1, h.ok.b0, h.ok.b1, h.ok.f⟩⟩, keeps_set _ _ _ _⟩
        · exact h.blk.set_ 0 (.bool true)
        · exact h.o0.keeps' (keeps_set w g 0 _) (fun i hi e => h.o0.ne_blk' h.blk (by decide) (by rw [hi, e]))
        · exact h.o1.keeps' (keeps_set w g 0 _) (fun i hi e => h.o1.ne_blk' h.blk (by decide) (by rw [hi, e]))
      | succ k =>
        have hs : m.spend = (true, { m with fuse := some k }) := by unfold DM.spend; rw [if_neg ho, hf]
        rw [hs]
        have HF := Lib.hid hf
        have HL := Lib.hid hl
        clear hf hl ho ho'
        have hk0 : (((k + 1 : Nat) : Int) == 0) = false := by simp; omega
        have k3 : w.cell? ⟨g, 2, none⟩ = some (.int .i64 ((k : Int) + 1)) := by rw [k2]; rfl
        clear k2
        have hk1 : ((k : Int) + 1 == 0) = false := by simp; omega
        go_enter Try.func116, Try.ntmps116
        go_wp2
        go_ret
        refine ⟨rfl, k, ⟨?_, fun j hj => by injection hj with hj; rw [hj], ?_, ?_, h.dis, ⟨h.ok.m0, h.ok.m1, h.ok.a0, h.ok.a1, h.ok.b0, h.ok.b1, fun j hj => by injection hj with hj; omega⟩⟩, keeps_set _ _ _ _⟩
        · have := h.blk.set_ 2 (.int .i64 k)
          rw [HF.out] at this
          exact this
        · exact h.o0.keeps' (keeps_set w g 2 _) (fun i hi e => h.o0.ne_blk' h.blk (by decide) (by rw [hi, e]))
        · exact h.o1.keeps' (keeps_set w g 2 _) (fun i hi e => h.o1.ne_blk' h.blk (by decide) (by rw [hi, e]))
/-- The program's disk, with its footprint. -/
def DiskP (w : World) (g : Nat) (m : DM) (fp : Nat → Prop) : Prop :=
  ∃ left A0 c0 A1 c1, DP w g m left A0 c0 A1 c1 ∧ fp g ∧ (∀ k, blkOf A0 = some k → fp k) ∧ (∀ k, blkOf A1 = some k → fp k)
theorem DP.drewN {w : World} {g : Nat} {m : DM} {left : Int} {A0 A1 : Option Addr} {c0 c1 : Nat} (h : DP w g m left A0 c0 A1 c1) (n : Nat) : DP (w.drewN n) g m left A0 c0 A1 c1 :=
  ⟨h.blk, h.left_, h.o0, h.o1, h.dis, h.ok⟩
theorem DiskP.drewN {w : World} {g : Nat} {m : DM} {fp : Nat → Prop} (h : DiskP w g m fp) (n : Nat) : DiskP (w.drewN n) g m fp := by
  obtain ⟨left, A0, c0, A1, c1, hd, h1⟩ := h
  exact ⟨left, A0, c0, A1, c1, hd.drewN n, h1⟩
/-- Area 0 has taken the row v, the disk's block alone having been written behind it. -/
theorem DP.put0 {w w1 : World} {g : Nat} {m : DM} {left : Int} {A0 A1 A : Option Addr} {c0 c1 c : Nat} {l : List UInt8} {fp : Nat → Prop} (h : DP w g m left A0 c0 A1 c1)
    (hf : fp g) (hf0 : ∀ k, blkOf A0 = some k → fp k) (hf1 : ∀ k, blkOf A1 = some k → fp k) (hfl : ∀ k, fp k → k < w.heap.size)
    (hu : Up w (.slice A0 m.l0.length c0) w1 (.slice A l.length c)) (ho : OB w1 0 (.slice A l.length c) l) (hl : l.length ≤ m.most) (hs : m.s0 ≤ l.length) :
    ∃ fp', DiskP (w1.setCell ⟨g, 3, none⟩ (.slice A l.length c)) g { m with l0 := l } fp' ∧ Stp w (w1.setCell ⟨g, 3, none⟩ (.slice A l.length c)) fp fp' := by
  have hg0 : blkOf A0 ≠ some g := h.o0.ne_blk' h.blk (by decide)
  have hg1 : blkOf A1 ≠ some g := h.o1.ne_blk' h.blk (by decide)
  have hb1 : Blk w1 g 120 _ := h.blk.grown hu.grown (fun e => hg0 (by rw [← own_blkOf]; exact e.symm))
  have hgo : blkOf A ≠ some g := ho.ne_blk' hb1 (by decide)
  have huo := hu.own
  rw [own_blkOf, own_blkOf] at huo
  have ho1 : OB w1 0 (.slice A1 m.l1.length c1) m.l1 := h.o1.kept hu.grown (by
    rw [own_blkOf, own_blkOf]
    cases e : blkOf A1 with
    | none => exact .inl rfl
    | some i => exact .inr fun e2 => h.dis i e2.symm e)
  refine ⟨fun k => k = g ∨ blkOf A = some k ∨ blkOf A1 = some k,
    ⟨left, A, c, A1, c1, ⟨hb1.set_ 3 _, h.left_, ho.keeps' (keeps_set w1 g 3 _) (fun i hi e => hgo (by rw [hi, e])), ho1.keeps' (keeps_set w1 g 3 _) (fun i hi e => hg1 (by rw [hi, e])), ?_,
      ⟨h.ok.m0, h.ok.m1, hl, h.ok.a1, hs, h.ok.b1, h.ok.f⟩⟩, .inl rfl, fun k hk => .inr (.inl hk), fun k hk => .inr (.inr hk)⟩, ?_, ?_⟩
  · intro i hi hi1
    rcases huo with e | ⟨j, e, hj⟩
    · exact h.dis i (by rw [← e]; exact hi) hi1
    · rw [e] at hi
      injection hi with hi
      have := hfl i (hf1 i hi1)
      omega
  · exact ((Keeps.of_up hu (fun k hk => hf0 k (by rw [← own_blkOf]; exact hk))).then_ (keeps_set w1 g 3 _) (fun i hi => .inl (by rw [hi]; exact hf)))
  · rintro k (rfl | hk | hk)
    · exact .inl hf
    · have hlt := ho.lt k (by rw [own_blkOf]; exact hk)
      rcases huo with e | ⟨j, e, hj⟩
      · exact .inl (hf0 k (by rw [← e]; exact hk))
      · rw [e] at hk; injection hk with hk; exact .inr ⟨by omega, by simpa [World.setCell] using hlt.2⟩
    · exact .inl (hf1 k hk)
theorem DP.put1 {w w1 : World} {g : Nat} {m : DM} {left : Int} {A0 A1 A : Option Addr} {c0 c1 c : Nat} {l : List UInt8} {fp : Nat → Prop} (h : DP w g m left A0 c0 A1 c1)
    (hf : fp g) (hf0 : ∀ k, blkOf A0 = some k → fp k) (hf1 : ∀ k, blkOf A1 = some k → fp k) (hfl : ∀ k, fp k → k < w.heap.size)
    (hu : Up w (.slice A1 m.l1.length c1) w1 (.slice A l.length c)) (ho : OB w1 0 (.slice A l.length c) l) (hl : l.length ≤ m.most) (hs : m.s1 ≤ l.length) :
    ∃ fp', DiskP (w1.setCell ⟨g, 5, none⟩ (.slice A l.length c)) g { m with l1 := l } fp' ∧ Stp w (w1.setCell ⟨g, 5, none⟩ (.slice A l.length c)) fp fp' := by
  have hg0 : blkOf A0 ≠ some g := h.o0.ne_blk' h.blk (by decide)
  have hg1 : blkOf A1 ≠ some g := h.o1.ne_blk' h.blk (by decide)
  have hb1 : Blk w1 g 120 _ := h.blk.grown hu.grown (fun e => hg1 (by rw [← own_blkOf]; exact e.symm))
  have hgo : blkOf A ≠ some g := ho.ne_blk' hb1 (by decide)
  have huo := hu.own
  rw [own_blkOf, own_blkOf] at huo
  have ho0 : OB w1 0 (.slice A0 m.l0.length c0) m.l0 := h.o0.kept hu.grown (by
    rw [own_blkOf, own_blkOf]
    cases e : blkOf A0 with
    | none => exact .inl rfl
    | some i => exact .inr fun e2 => h.dis i e e2.symm)
  refine ⟨fun k => k = g ∨ blkOf A0 = some k ∨ blkOf A = some k,
    ⟨left, A0, c0, A, c, ⟨hb1.set_ 5 _, h.left_, ho0.keeps' (keeps_set w1 g 5 _) (fun i hi e => hg0 (by rw [hi, e])), ho.keeps' (keeps_set w1 g 5 _) (fun i hi e => hgo (by rw [hi, e])), ?_,
      ⟨h.ok.m0, h.ok.m1, h.ok.a0, hl, h.ok.b0, hs, h.ok.f⟩⟩, .inl rfl, fun k hk => .inr (.inl hk), fun k hk => .inr (.inr hk)⟩, ?_, ?_⟩
  · intro i hi hi1
    rcases huo with e | ⟨j, e, hj⟩
    · exact h.dis i hi (by rw [← e]; exact hi1)
    · rw [e] at hi1
      injection hi1 with hi1
      have := hfl i (hf0 i hi)
      omega
  · exact ((Keeps.of_up hu (fun k hk => hf1 k (by rw [← own_blkOf]; exact hk))).then_ (keeps_set w1 g 5 _) (fun i hi => .inl (by rw [hi]; exact hf)))
  · rintro k (rfl | hk | hk)
    · exact .inl hf
    · exact .inl (hf0 k hk)
    · have hlt := ho.lt k (by rw [own_blkOf]; exact hk)
      rcases huo with e | ⟨j, e, hj⟩
      · exact .inl (hf1 k (by rw [← e]; exact hk))
      · rw [e] at hk; injection hk with hk; exact .inr ⟨by omega, by simpa [World.setCell] using hlt.2⟩
theorem Append_0 {w : World} {g : Nat} {m : DM} {fp : Nat → Prop} (h : DiskP w g m fp) (hfl : ∀ k, fp k → k < w.heap.size) {B : Nat} {A : Option Addr} {k c : Nat} {b : List UInt8} (hr : RB w B A k b) (hB : B ≤ w.heap.size) (hk : k ≤ 2000000) (hA : ∀ ad, A = some ad → ¬ fp ad.block) :
    Calls Try.prog 48 #[.pointer (some ⟨g, 0, none⟩), .int .i64 0, .slice A k c] w fun e w' => e = .returned (.int .i64 (m.append 0 b).1) ∧ ∃ fp', DiskP w' g (m.append 0 b).2 fp' ∧ Stp w w' fp fp' := by
  have h0 := h
  obtain ⟨left, A0, c0, A1, c1, hd, hf, hf0, hf1⟩ := h
  have hkl := hr.len
  obtain ⟨k0, k1, k2, k3, k4, k5, k6, k7⟩ := hd.cells
  have hok := hd.ok
  have b0 := hok.m0
  have b1 := hok.m1
  have b2 := hok.a0
  have b3 := hok.a1
  by_cases hfull : m.most < m.l0.length + b.length
  · have e : m.append 0 b = (13, m) := by simp [DM.append, hfull]
    rw [e]
    have hd : decide ((m.most : Int) - (m.l0.length : Int) < (k : Int)) = true := by simp; omega
    clear hkl hfull e
    go_enter Try.func48, Try.ntmps48
    go_wp2_with fail
    refine (at_0 k7 (by omega)).mono ?_
    rintro e w1 ⟨rfl, rfl⟩
    go_wp2_with fail
    go_quiet (fail)
    go_wp2
    go_ret
    exact ⟨rfl, fp, h0.drewN nq, stp_draw _ _ _⟩
  · have hdc : decide ((m.most : Int) - (m.l0.length : Int) < (k : Int)) = false := by simp; omega
    have hlb : m.l0.length + b.length ≤ m.most := by omega
    have HK := Lib.hid hkl
    obtain ⟨e1, e2, e3, e4, e5⟩ := m.spend_same
    cases hb : m.spend.1 with
    | false =>
      have hspe : m.append 0 b = (14, m.spend.2) := by simp [DM.append, hfull, hb]
      rw [hspe]
      clear hkl hfull hspe e1 e2 e3 e4 e5
      go_enter Try.func48, Try.ntmps48
      go_wp2_with fail
      refine (at_0 k7 (by omega)).mono ?_
      rintro e w1 ⟨rfl, rfl⟩
      go_wp2_with fail
      go_quiet (fail)
      go_wp2_with fail
      refine (spend_any (hd.drewN nq)).mono ?_
      rintro e w1 ⟨rfl, left1, hd1, hk1⟩
      go_wp2
      go_ret
      exact ⟨rfl, fp, ⟨left1, A0, c0, A1, c1, hd1, hf, hf0, hf1⟩, (stp_draw _ nq _).trans ⟨hk1.mono (fun k hk => by rw [hk]; exact hf), fun _ h => .inl h⟩⟩
    | true =>
      have hspe : m.append 0 b = (0, { m.spend.2 with l0 := m.l0 ++ b }) := by simp [DM.append, hfull, hb]
      rw [hspe]
      have HE := Lib.hid (And.intro e1 (And.intro e2 e3))
      clear hkl hfull hspe e1 e2 e3 e4 e5
      go_enter Try.func48, Try.ntmps48
      go_wp2_with fail
      refine (at_0 k7 (by omega)).mono ?_
      rintro e w1 ⟨rfl, rfl⟩
      go_wp2_with fail
      go_quiet (fail)
      go_wp2_with fail
      refine (spend_any (hd.drewN nq)).mono ?_
      rintro e w1 ⟨rfl, left1, hd1, hk1⟩
      clear k0 k1 k2 k3 k4 k5 k6 k7
      obtain ⟨k0, k1, k2, k3, k4, k5, k6, k7⟩ := hd1.cells
      have fz3 := hd1.fz 3
      have hr1 : RB w1 B A k b := RB.keeps (Reads.drewN hr nq) hk1 hB (fun _ ad ha e => hA ad ha (by rw [e]; exact hf))
      clear hk
      go_wp2_with (at_builtin; refine Hid.out ?_)
      refine wpList_app8 rfl _ _ rfl rfl hd1.o0 rfl hr1 ?_ (Nat.zero_le _) ?_
      · have := HK.out; rw [HE.out.2.1]; omega
      intro v2 w2 ho2 hu2
      obtain ⟨A2, c2, rfl, g1, g2, _⟩ := ho2.form
      have hu2' : Up w1 (.slice A0 m.spend.2.l0.length c0) w2 (.slice A2 (m.spend.2.l0 ++ b).length c2) := hu2
      have hfl1 : ∀ k, fp k → k < w1.heap.size := fun k hk => by have := hfl k hk; have := hk1.size; simp at this; omega
      have hput := hd1.put0 hf hf0 hf1 hfl1 hu2' ho2 (by rw [List.length_append, HE.out.2.1, HE.out.1]; omega) (by rw [List.length_append]; have := hd1.ok.b0; omega)
      have hcell : w2.cell? ⟨g, 3, none⟩ = some (.slice A0 m.spend.2.l0.length c0) := by
        exact (hd1.blk.grown hu2.grown (fun e => hd1.o0.ne_blk hd1.blk (by decide) e.symm)).cell 3
      have hfz : w2.frozen? ⟨g, 3, none⟩ = false := (hd1.blk.grown hu2.grown (fun e => hd1.o0.ne_blk hd1.blk (by decide) e.symm)).frozen 3
      have HP := Lib.hid hput
      clear hu2 k0 k1 k2 k3 k4 k5 k6 k7 fz3 hput hu2'
      go_wp2
      go_ret
      obtain ⟨fp', hp, hst⟩ := HP.out
      rw [HE.out.2.1, List.length_append] at hp hst
      rw [HE.out.2.1]
      refine ⟨rfl, fp', hp, (stp_draw _ nq _).trans ((Stp.mk (hk1.mono (fun k hk => by rw [hk]; exact hf)) (fun _ h => .inl h)).trans hst)⟩
theorem Append_1 {w : World} {g : Nat} {m : DM} {fp : Nat → Prop} (h : DiskP w g m fp) (hfl : ∀ k, fp k → k < w.heap.size) {B : Nat} {A : Option Addr} {k c : Nat} {b : List UInt8} (hr : RB w B A k b) (hB : B ≤ w.heap.size) (hk : k ≤ 2000000) (hA : ∀ ad, A = some ad → ¬ fp ad.block) :
    Calls Try.prog 48 #[.pointer (some ⟨g, 0, none⟩), .int .i64 1, .slice A k c] w fun e w' => e = .returned (.int .i64 (m.append 1 b).1) ∧ ∃ fp', DiskP w' g (m.append 1 b).2 fp' ∧ Stp w w' fp fp' := by
  have h0 := h
  obtain ⟨left, A0, c0, A1, c1, hd, hf, hf0, hf1⟩ := h
  have hkl := hr.len
  obtain ⟨k0, k1, k2, k3, k4, k5, k6, k7⟩ := hd.cells
  have hok := hd.ok
  have b0 := hok.m0
  have b1 := hok.m1
  have b2 := hok.a0
  have b3 := hok.a1
  by_cases hfull : m.most < m.l1.length + b.length
  · have e : m.append 1 b = (13, m) := by simp [DM.append, hfull]
    rw [e]
    have hd : decide ((m.most : Int) - (m.l1.length : Int) < (k : Int)) = true := by simp; omega
    clear hkl hfull e
    go_enter Try.func48, Try.ntmps48
    go_wp2_with fail
    refine (at_1 k7 (by omega)).mono ?_
    rintro e w1 ⟨rfl, rfl⟩
    go_wp2_with fail
    go_quiet (fail)
    go_wp2
    go_ret
    exact ⟨rfl, fp, h0.drewN nq, stp_draw _ _ _⟩
  · have hdc : decide ((m.most : Int) - (m.l1.length : Int) < (k : Int)) = false := by simp; omega
    have hlb : m.l1.length + b.length ≤ m.most := by omega
    have HK := Lib.hid hkl
    obtain ⟨e1, e2, e3, e4, e5⟩ := m.spend_same
    cases hb : m.spend.1 with
    | false =>
      have hspe : m.append 1 b = (14, m.spend.2) := by simp [DM.append, hfull, hb]
      rw [hspe]
      clear hkl hfull hspe e1 e2 e3 e4 e5
      go_enter Try.func48, Try.ntmps48
      go_wp2_with fail
      refine (at_1 k7 (by omega)).mono ?_
      rintro e w1 ⟨rfl, rfl⟩
      go_wp2_with fail
      go_quiet (fail)
      go_wp2_with fail
      refine (spend_any (hd.drewN nq)).mono ?_
      rintro e w1 ⟨rfl, left1, hd1, hk1⟩
      go_wp2
      go_ret
      exact ⟨rfl, fp, ⟨left1, A0, c0, A1, c1, hd1, hf, hf0, hf1⟩, (stp_draw _ nq _).trans ⟨hk1.mono (fun k hk => by rw [hk]; exact hf), fun _ h => .inl h⟩⟩
    | true =>
      have hspe : m.append 1 b = (0, { m.spend.2 with l1 := m.l1 ++ b }) := by simp [DM.append, hfull, hb]
      rw [hspe]
      have HE := Lib.hid (And.intro e1 (And.intro e4 e5))
      clear hkl hfull hspe e1 e2 e3 e4 e5
      go_enter Try.func48, Try.ntmps48
      go_wp2_with fail
      refine (at_1 k7 (by omega)).mono ?_
      rintro e w1 ⟨rfl, rfl⟩
      go_wp2_with fail
      go_quiet (fail)
      go_wp2_with fail
      refine (spend_any (hd.drewN nq)).mono ?_
      rintro e w1 ⟨rfl, left1, hd1, hk1⟩
      clear k0 k1 k2 k3 k4 k5 k6 k7
      obtain ⟨k0, k1, k2, k3, k4, k5, k6, k7⟩ := hd1.cells
      have fz3 := hd1.fz 5
      have hr1 : RB w1 B A k b := RB.keeps (Reads.drewN hr nq) hk1 hB (fun _ ad ha e => hA ad ha (by rw [e]; exact hf))
      clear hk
      go_wp2_with (at_builtin; refine Hid.out ?_)
      refine wpList_app8 rfl _ _ rfl rfl hd1.o1 rfl hr1 ?_ (Nat.zero_le _) ?_
      · have := HK.out; rw [HE.out.2.1]; omega
      intro v2 w2 ho2 hu2
      obtain ⟨A2, c2, rfl, g1, g2, _⟩ := ho2.form
      have hu2' : Up w1 (.slice A1 m.spend.2.l1.length c1) w2 (.slice A2 (m.spend.2.l1 ++ b).length c2) := hu2
      have hfl1 : ∀ k, fp k → k < w1.heap.size := fun k hk => by have := hfl k hk; have := hk1.size; simp at this; omega
      have hput := hd1.put1 hf hf0 hf1 hfl1 hu2' ho2 (by rw [List.length_append, HE.out.2.1, HE.out.1]; omega) (by rw [List.length_append]; have := hd1.ok.b1; omega)
      have hcell : w2.cell? ⟨g, 5, none⟩ = some (.slice A1 m.spend.2.l1.length c1) := by
        exact (hd1.blk.grown hu2.grown (fun e => hd1.o1.ne_blk hd1.blk (by decide) e.symm)).cell 5
      have hfz : w2.frozen? ⟨g, 5, none⟩ = false := (hd1.blk.grown hu2.grown (fun e => hd1.o1.ne_blk hd1.blk (by decide) e.symm)).frozen 5
      have HP := Lib.hid hput
      clear hu2 k0 k1 k2 k3 k4 k5 k6 k7 fz3 hput hu2'
      go_wp2
      go_ret
      obtain ⟨fp', hp, hst⟩ := HP.out
      rw [HE.out.2.1, List.length_append] at hp hst
      rw [HE.out.2.1]
      refine ⟨rfl, fp', hp, (stp_draw _ nq _).trans ((Stp.mk (hk1.mono (fun k hk => by rw [hk]; exact hf)) (fun _ h => .inl h)).trans hst)⟩
theorem Append_any {w : World} {g : Nat} {m : DM} {fp : Nat → Prop} (h : DiskP w g m fp) (hfl : ∀ k, fp k → k < w.heap.size) (n : Int) {B : Nat} {A : Option Addr} {k c : Nat} {b : List UInt8} (hr : RB w B A k b) (hB : B ≤ w.heap.size) (hk : k ≤ 2000000) (hA : ∀ ad, A = some ad → ¬ fp ad.block) :
    Calls Try.prog 48 #[.pointer (some ⟨g, 0, none⟩), .int .i64 n, .slice A k c] w fun e w' => e = .returned (.int .i64 (m.append n b).1) ∧ ∃ fp', DiskP w' g (m.append n b).2 fp' ∧ Stp w w' fp fp' := by
  by_cases hn0 : n = 0
  · subst hn0; exact Append_0 h hfl hr hB hk hA
  · by_cases hn1 : n = 1
    · subst hn1; exact Append_1 h hfl hr hB hk hA
    · have e : m.append n b = (2, m) := by simp [DM.append, hn0, hn1]
      rw [e]
      obtain ⟨left, A0, c0, A1, c1, hd, hf⟩ := id h
      obtain ⟨k0, k1, k2, k3, k4, k5, k6, k7⟩ := hd.cells
      have hm := hd.ok.m0
      clear e
      go_enter Try.func48, Try.ntmps48
      go_wp2_with fail
      refine (at_x n k7 (by omega) hn0 hn1).mono ?_
      rintro e w1 ⟨rfl, rfl⟩
      go_wp2
      go_ret
      exact ⟨rfl, fp, h, Stp.refl _ _⟩
end Go.Proofs.Ytabdnepfcohncaa
