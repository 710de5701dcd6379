import Derived.Test.YtabdnepfcohncaaT3
namespace Go.Proofs.Ytabdnepfcohncaa
open Go.RowKit
theorem OBs.snoc {w w' : World} {base : Nat} {v v' u : Value} {ps : List (List UInt8)} {p : List UInt8} {vs : List Value}
    (ho : w'.ownsRow base 22 1 v' (ps.length + 1) (vs ++ [u])) (h : All2 (BV w w.heap.size base v.ownBlock) vs ps) (hu : BV w w.heap.size base v.ownBlock u p) (hup : Up w v w' v') : OBs w' base v' (ps ++ [p]) := by
  refine ⟨vs ++ [u], by simpa using ho, ?_⟩
  exact All2.snoc (hu.up hup) (All2.mono (fun a b hab => hab.up hup) h)
theorem Frames_any (B : Nat) (A : Option Addr) (n c : Nat) (l : List UInt8) (w : World) (hr : RB w B A n l) (hB : B ≤ w.heap.size) (hn : n ≤ 1000000) (hc : n ≤ c) (hcm : c ≤ maxLen) :
    Calls Try.prog 18 #[.slice A n c] w fun e w' => ∃ v, e = .returned (.tuple #[v, .int .i64 (frames l).2.length]) ∧ OBs w' w.heap.size v (frames l).1 ∧ Below w.heap.size w w' := by
  unfold maxLen at hcm
  go_enter Try.func18, Try.ntmps18
  go_wp2
  go_loopw [0, 2] (fun b s wr => ∃ (A : Option Addr) (n c : Nat) (r : List UInt8) (ps : List (List UInt8)), b = .slice A n c ∧ n ≤ c ∧ c ≤ 9223372036854775807 ∧ n ≤ 1000000 ∧ RB wr B A n r ∧ OBs wr w.heap.size s ps ∧ Below w.heap.size w wr ∧ 24 * ps.length + n * 24 ≤ 24000000 ∧
      frames l = (ps ++ (frames r).1, (frames r).2)) (fun b _ _ => lenOf b)
  case atStart => exact ⟨A, n, c, l, [], rfl, hc, hcm, hn, hr, OBs.nil _ _, Below.refl _ _, by simp; omega, rfl⟩
  case round =>
    clear hr hn hc hcm
    clear A n c
    obtain ⟨A, n, c, r, ps, rfl, hc, hcm, hn, hr, hps, hbel, hsz, hfr⟩ := hrel
    have HFR := Lib.hid hfr
    clear hfr
    have hrl := hr.len
    have HRL := Lib.hid hrl; clear hrl
    by_cases h8 : n < 8
    · go_wp2
      go_ret2
      have e := frames_end HFR.out (fstep_short (by rw [HRL.out]; exact h8))
      refine ⟨u2, ?_, by rw [e]; exact hps, hbel⟩
      rw [e, ← HRL.out]
      rfl
    · obtain ⟨ad, rfl, had⟩ := hr.some_ (by omega)
      go_wp2_with fail
      refine (getNumber_small _ _ _ _ _ _ (hr.cut0 4 (by omega)) (by omega)).mono ?_
      rintro e w1 ⟨rfl, rfl⟩
      have hg4 := gn_lt4 (r.take 4) (by simp; rw [HRL.out]; omega)
      generalize hg : gn (r.take 4) = g at *
      have HG := Lib.hid hg; clear hg
      by_cases hbig : 65536 < g
      · go_wp2
        go_ret2
        have e := frames_end HFR.out (fstep_big HG.out hbig)
        refine ⟨u2, ?_, by rw [e]; exact hps, hbel⟩
        rw [e, ← HRL.out]
        rfl
      · by_cases hfit : n < g + 8
        · have hd : decide ((n : Int) - 8 < (g : Int)) = true := by simp; omega
          have hbg : decide ((65536 : Int) < (g : Int)) = false := by simp; omega
          go_wp2
          go_ret2
          have e := frames_end HFR.out (fstep_fit HG.out (by rw [HRL.out]; exact hfit))
          refine ⟨u2, ?_, by rw [e]; exact hps, hbel⟩
          rw [e, ← HRL.out]
          rfl
        · have hd : decide ((n : Int) - 8 < (g : Int)) = false := by simp; omega
          have hbg : decide ((65536 : Int) < (g : Int)) = false := by simp; omega
          have hc4 : ¬ c = 4 := by omega
          have hcg : ¬ c = 4 + g := by omega
          have hr2 : RB wr B (some (ad.add (4 + g))) (8 + g - (4 + g)) ((r.drop (4 + g)).take 4) := by
            rw [show 8 + g - (4 + g) = 4 by omega]; exact hr.cut (4 + g) 4 (by omega)
          have hr3 : RB wr B (some ⟨ad.block, ad.off + 4, none⟩) g ((r.drop 4).take g) := by
            rw [← add_pos ad 4 (by omega)]; exact hr.cut 4 g (by omega)
          go_wp2_with fail
          refine (getNumber_small _ _ _ _ _ _ hr2 (by omega)).mono ?_
          rintro e w1 ⟨rfl, rfl⟩
          go_wp2_with fail
          refine (checksum_any _ _ _ _ _ _ hr3 (by unfold maxLen; omega)).mono ?_
          rintro e w1 ⟨rfl, rfl⟩
          have hs := fstep_sum (r := r) HG.out
          have ho := fstep_ok (r := r) HG.out (by rw [HRL.out]; omega) (by omega) (by rw [HRL.out]; omega)
          generalize hx : gn ((r.drop (4 + g)).take 4) = x at *
          generalize hy : crc ((r.drop 4).take g) = y at *
          clear hx hy
          by_cases hxy : x = y
          · have HO := Lib.hid (ho hxy)
            clear ho hs
            subst hxy
            have hne : ((x : Int) != (x : Int)) = false := by simp
            go_wp2_with fail
            refine (Clone_sl B _ _ _ _ _ hr3 (Nat.le_trans hB hbel.size) (by omega)).mono ?_
            rintro e w1 ⟨A1, c1, rfl, hv1, hb1⟩
            obtain ⟨vs, hvs, hall⟩ := hps.below hb1
            have hbw : w.heap.size ≤ w1.heap.size := Nat.le_trans hbel.size hb1.size
            have hu1 : BV w1 w1.heap.size w.heap.size u2.ownBlock (.slice A1 g c1) ((r.drop 4).take g) := .of_OB _ hv1 (fun x hx => by
              obtain ⟨vs, hvs, _⟩ := hps
              exact (hvs.lt x hx).2) hbel.size
            by_cases hcl : c = 8 + g
            all_goals
              go_wp2_with (at_builtin; refine Hid.out ?_)
              refine wpList_app TS rfl _ _ rfl rfl (hvs.alloc _) rfl (reads_new w1 _ 22 _ 1 1 _ rfl rfl) (by simp; rfl) ?_ ?_ ?_ ?_
              · omega
              · omega
              · simp; omega
              intro v2 w2 hv2 hup
              have hup1 : Up (w1.alloc (.cells #[.slice A1 g c1] 22)) u2 w2 v2 := hup
              clear hup
              have hb2 : Below w.heap.size wr w2 := ((hb1.mono hbel.size).alloc hbw _).trans (hup1.below_own (by simp; omega) (hvs.alloc _))
              have hbs : Below w1.heap.size w1 (w1.alloc (.cells #[.slice A1 g c1] 22)) := (Below.refl _ _).alloc (Nat.le_refl _) _
              have hsn : OBs w2 w.heap.size v2 (ps ++ [(r.drop 4).take g]) :=
                OBs.snoc hv2 (All2.mono (fun a b hab => (hab.below hbs).more hbs.size) hall) ((hu1.below hbs).more hbs.size) hup1
              have hrw : RB w2 B (some ad) n r := hr.below hb2 hB
              go_wp2
              go_roundw
              case rel =>
                refine ⟨_, _, _, r.drop (8 + g), ps ++ [(r.drop 4).take g], rfl, by omega, by omega, by omega, ?_, hsn, hbel.trans hb2, by simp; omega, frames_go HFR.out HO.out⟩
                first
                  | (have hdr : r.drop (8 + g) = [] := List.drop_eq_nil_of_le (by rw [HRL.out]; omega)
                     rw [hdr, show n - (8 + g) = 0 by omega]
                     exact RB.zero _ _ _)
                  | (have h9 := hrw.cut (8 + g) (n - (8 + g)) (by omega)
                     rwa [List.take_of_length_le (by simp; rw [HRL.out]; omega)] at h9)
              case measure => simp only [lenOf]; omega
          · have HO := Lib.hid (hs hxy)
            clear ho hs
            have hne : ((x : Int) != (y : Int)) = true := by simp; omega
            go_wp2
            go_ret2
            have e := frames_end HFR.out HO.out
            refine ⟨u2, ?_, by rw [e]; exact hps, hbel⟩
            rw [e, ← HRL.out]
            rfl
theorem Frames_sl (B : Nat) (A : Option Addr) (n c : Nat) (l : List UInt8) (w : World) (hr : RB w B A n l) (hB : B ≤ w.heap.size) (hn : n ≤ 1000000) (hc : n ≤ c) (hcm : c ≤ maxLen) :
    Calls Try.prog 18 #[.slice A n c] w fun e w' => ∃ A' c', e = .returned (.tuple #[.slice A' (frames l).1.length c', .int .i64 (frames l).2.length]) ∧ (frames l).1.length ≤ c' ∧ c' ≤ maxLen ∧
      RBs w' w'.heap.size A' (frames l).1.length (frames l).1 ∧ Below w.heap.size w w' := by
  refine (Frames_any B A n c l w hr hB hn hc hcm).mono ?_
  rintro e w1 ⟨v1, rfl, hv, hb⟩
  obtain ⟨A1, c1, rfl, h1, h2, h3⟩ := hv.form
  exact ⟨A1, c1, rfl, h1, h2, h3, hb⟩
end Go.Proofs.Ytabdnepfcohncaa
