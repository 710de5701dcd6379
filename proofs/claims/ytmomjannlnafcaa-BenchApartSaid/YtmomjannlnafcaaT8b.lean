import Derived.Test.YtmomjannlnafcaaT8c
namespace Go.Proofs.Ytmomjannlnafcaa
open Go.RowKit
set_option maxHeartbeats 1000000 in
set_option maxRecDepth 100000 in
theorem apart_two (B : Nat) (A : Option Addr) (n c : Nat) (l : List Int) (m : Int) (w : World) (hr : RI w B A n l) (hB : B ≤ w.heap.size) (hn : n ≤ maxLen) (h : likeB l m = true) (hc : ¬ l.foldl max 0 < (total l + m - 1) / m) :
    Calls Try.prog 5 #[.slice A n c, .int .i64 m] w fun e w' => e = .returned (.bool true) ∧ Below w.heap.size w w' := by
  have HGQ := Lib.hid hc
  clear hc
  have hlen := hr.len
  obtain ⟨h1, h2, h3, h4⟩ := likeB_spec h
  obtain ⟨he0, he1, he2⟩ := end_bd h
  have hb := total_bd h4
  have hn40 : n ≤ 40 := by omega
  obtain ⟨hb1, hb2⟩ := hb
  have hb3 : total l ≤ 400000 := by omega
  have HL := Lib.hid hlen
  have HK := Lib.hid h4
  have HE2 := Lib.hid he2
  have HB := Lib.hid h
  have hq0 : 0 ≤ (total l + m - 1) / m := Int.ediv_nonneg (by omega) (by omega)
  have hq1 : (total l + m - 1) / m ≤ 400007 := by
    have := Int.ediv_le_self m (show 0 ≤ total l + m - 1 by omega)
    omega
  have HEnd := Lib.hid (endOf_max (l := l) (m := m) hq0)
  obtain ⟨i0, hi, hz0, hz1, hz2⟩ := T23.info
  go_enter Try.func5, Try.ntmps5
  go_wp2_with fail
  refine (wrap_yes B A n c l m _ hr hB hn h).mono ?_
  rintro e w1 ⟨v1, rfl, ho1, hbl⟩
  obtain ⟨A1, c1, rfl, hm1, hm2, hR1⟩ := own_RSl2 ho1
  unfold maxLen at hm2
  clear ho1
  have hr1 := hr.below hbl hB
  have hBl := hbl.size
  go_wp2_with fail
  refine (Times_any B A n c l m _ hr1 hn).mono ?_
  rw [HB.out]
  rintro e w1' ⟨rfl, rfl⟩
  generalize hEE : endOf l m = E at *
  have HEE := Lib.hid hEE
  generalize hLL : segAll E 0 0 l = L at *
  have HLL := Lib.hid hLL
  have hN80 : L.length ≤ 80 := by
    by_cases hE : 1 ≤ E
    · have := segAll_len hE l 0 0 HE2.out
      rw [hLL] at this; omega
    · have : l = [] := by
        cases l with
        | nil => rfl
        | cons x l =>
          have h5 := List.all_eq_true.1 h4 x (List.mem_cons_self ..)
          have h6 := he2 x (List.mem_cons_self ..)
          unfold okT at h5; simp at h5; omega
      subst this
      rw [← hLL]; simp [segAll]
  have HIn := Lib.hid (show ∀ s ∈ L, 0 ≤ s.job ∧ s.job < n ∧ 0 ≤ s.bench ∧ 0 ≤ s.fr ∧ s.fr < s.to ∧ s.to ≤ E ∧ s.bench < m by
    intro s hs
    have hE : 1 ≤ E := by
      rw [← hEE]
      refine end_pos HB.out fun h => ?_
      subst h
      rw [← hLL] at hs
      cases hs
    rw [← hLL] at hs
    have h5 := segAll_in hE l 0 0 (Int.le_refl _) (fun x hx => by have := List.all_eq_true.1 h4 x hx; unfold okT at this; simp at this; omega) s hs
    have h6 := total_le (l := l) (m := m) h2
    rw [hEE] at h6
    refine ⟨h5.j0, by have := h5.j1; omega, h5.b0, h5.f0, h5.ft, h5.te, bench_lt (t := s.to) hE h6 (by have := h5.hi; unfold ge at this; omega) (by have := h5.f0; have := h5.ft; omega)⟩)
  generalize hN : L.length = N at *
  have HN := Lib.hid hN
  have HPair := Lib.hid (show ∀ (r k : Nat) (hr : r < L.length) (hk : k < L.length), r < k → Far E L[r] L[k] by
    intro r k hr hk hrk
    have hE : 1 ≤ E := by
      rw [← hEE]
      refine end_pos HB.out fun h => ?_
      subst h
      rw [← hLL] at hk
      simp [segAll] at hk
    have h5 := segAll_far hE l 0 0 (Int.le_refl _) (fun x hx => by have h6 := HE2.out x hx; have := List.all_eq_true.1 h4 x hx; unfold okT at this; simp at this; omega)
    rw [hLL] at h5
    exact List.pairwise_iff_getElem.1 h5 r k hr hk hrk)
  have HLastE := Lib.hid (show lastOf L = E by rw [← hLL, ← hEE]; exact last_end HB.out)
  have HW := Lib.hid (show wholeOf n L = l by rw [← hLL, ← hEE, ← hlen]; exact whole_eq HB.out)
  clear h h4 hlen he2 hb2 h1 hEE hLL hN hr
  have hnM := Lib.hid hn
  clear hn
  go_wp2_with (first
    | (at_make; refine wpList_make_full _ rfl _ _ 23 rfl w.heap.size 3 i0 (.int .i64 0) 1 Try.underlying23 hi hz0 hz1 .i64 .i64 _ _ n rfl rfl rfl rfl (by rw [hz2]; omega) (by unfold maxLen; omega) hBl ?_; intro w0 hown0 hgrow0))
  have hbw : Below w1.heap.size w1 w0 := (Below.refl _ _).grown hgrow0 (Nat.le_refl _) (fun k h => by cases h)
  have hb0 : Below w.heap.size w w0 := hbl.trans (hbw.mono hBl)
  have hr0 := hr1.below hbw (by omega)
  have hR0 := hR1.below hbw (Nat.le_refl _)
  have hsz0 : w1.heap.size < w0.heap.size := own_lt hown0
  have hown1 : w0.ownsRow w.heap.size 3 1 (.slice (some ⟨w1.heap.size, 0, none⟩) n n) n ((wholeOf n []).map I64) := by
    have e : (madeCells (Value.int .i64 0).cells (n * 1)).toList = (wholeOf n []).map I64 := by
      rw [show (Value.int .i64 0).cells = #[.int .i64 0] from rfl, toList_madeCells_one]
      apply List.ext_getElem?
      intro i
      simp [wholeOf, sumJob, List.getElem?_replicate]
      by_cases hin : i < n <;> simp [hin, I64]
    rw [← e]; exact hown0
  clear hown0 hgrow0
  generalize hgg : w1.heap.size = g at *
  clear hR1 hr1 hgg
  go_loop [42, 7, 8] (fun u s e => ∃ k : Nat, k ≤ n ∧ u = .int .i64 k ∧ s = .int .i64 (total (l.take k)) ∧ e = .int .i64 ((l.take k).foldl max 0)) (fun u _ _ => n - (intOf u).toNat)
  case atStart => exact ⟨0, Nat.zero_le _, rfl, rfl, rfl⟩
  case round =>
    obtain ⟨k, hk, rfl, rfl, rfl⟩ := hrel
    by_cases hlt : k < n
    · obtain ⟨ad, rfl, _, hc⟩ := hr0.at_ (k := k) (by rw [HL.out]; exact hlt)
      have HD := Lib.hid (foldl_take (l := l) (k := k) 0 (by rw [HL.out]; exact hlt))
      have HT := Lib.hid (total_take (l := l) (k := k) (by rw [HL.out]; exact hlt))
      have hbt := total_bd (l := l.take k) (List.all_eq_true.2 fun x hx => List.all_eq_true.1 HK.out x (List.mem_of_mem_take hx))
      have hbk : (l.take k).length ≤ k := List.length_take_le _ _
      have hx := List.all_eq_true.1 HK.out (l[k]'(by rw [HL.out]; exact hlt)) (List.getElem_mem _)
      unfold okT at hx
      generalize l[k]'(by rw [HL.out]; exact hlt) = x at *
      generalize (l.take k).foldl max 0 = q at *
      generalize total (l.take k) = s at *
      simp at hx
      obtain ⟨hx1, hx2⟩ := hx
      obtain ⟨hs1, hs2⟩ := hbt
      have hs3 : s ≤ 400000 := by omega
      clear hs2 hbk
      go_wp2
      all_goals
        go_round
        case rel => exact ⟨k + 1, by omega, by go_num, int_eq HT.out.symm, int_eq (by rw [HD.out]; omega)⟩
        case measure => simp [intOf]; omega
    · have hE : (l.take k).foldl max 0 = l.foldl max 0 := by rw [List.take_of_length_le (by rw [HL.out]; omega)]
      have hS : total (l.take k) = total l := by rw [List.take_of_length_le (by rw [HL.out]; omega)]
      rw [hE, hS]
      clear hE hS
      generalize hg : l.foldl max 0 = q0 at *
      clear hg
      generalize hqq : (total l + m - 1) / m = q at *
      have HQ := Lib.hid hqq
      clear hqq
      have hdiv : (total l + m - 1) / m = q := HQ.out
      have hgq := HGQ.out
      have hEq : E = q0 := by have := HEnd.out; omega
      subst hEq
      go_wp2
      clear hdiv HQ HEnd hq0 hq1 hgq
      all_goals
        go_loopw [63, 9] (fun u la wr => ∃ (k : Nat) (last : Int), k ≤ N ∧ u = .int .i64 k ∧ la = .int .i64 last ∧ 0 ≤ last ∧ last ≤ E ∧ Below g w0 wr ∧ wr.ownsRow w.heap.size 3 1 (.slice (some ⟨g, 0, none⟩) n n) n ((wholeOf n (L.take k)).map I64) ∧ RowKit.Hid (last = lastOf (L.take k))) (fun u _ _ => N - (intOf u).toNat)
        case atStart => exact ⟨0, 0, Nat.zero_le _, rfl, rfl, Int.le_refl _, he0, Below.refl _ _, by simpa using hown1, Lib.hid (by simp [lastOf])⟩
        case round =>
          clear hlt hk hown1
          obtain ⟨k, last, hk, rfl, rfl, hl0, hl1, hbg, hown, HLast⟩ := hrel
          have hwr := hbg.size
          by_cases hlt : k < N
          · have hkL : k < L.length := by rw [HN.out]; exact hlt
            obtain ⟨a1, rfl, ha1, p0, p1, p2, p3⟩ := (hR0.below hbg (Nat.le_refl _)).at_ (k := k) hkL
            have hsin := HIn.out _ (List.getElem_mem hkL)
            have HFar := Lib.hid fun (r : Nat) (hr : r < k) => HPair.out r k (by omega) hkL hr
            have HS := Lib.hid (List.take_succ_eq_append_getElem hkL)
            have hsb := sumJob_bd (L[k]).job (L.take k) fun s hs => by
              have := HIn.out s (List.mem_of_mem_take hs)
              exact ⟨this.2.2.2.2.1, this.2.2.2.1, by omega⟩
            have hlk : (L.take k).length ≤ k := List.length_take_le _ _
            generalize L[k] = s at *
            obtain ⟨j, b, f, t⟩ := s
            obtain ⟨jn, rfl⟩ : ∃ jn : Nat, j = jn := Int.eq_ofNat_of_zero_le hsin.1
            dsimp only at p0 p1 p2 p3 hsin hsb
            obtain ⟨_, hj1, hb0', hf0, hft, hte, hbm⟩ := hsin
            go_wp2_with fail
            have HStep := Lib.hid (wholeOf_snoc n (L.take k) ⟨jn, b, f, t⟩ jn (by omega) rfl)
            have hlast2 := Lib.hid (lastOf_snoc (L.take k) ⟨jn, b, f, t⟩)
            have hgw : g < wr.heap.size := by omega
            obtain ⟨wa, hwa⟩ : ∃ wa, wa = wr.alloc (.cells #[.int .i64 jn, .int .i64 b, .int .i64 f, .int .i64 t] 40) := ⟨_, rfl⟩
            have hbk : Blk wa wr.heap.size 40 #[.int .i64 jn, .int .i64 b, .int .i64 f, .int .i64 t] := by rw [hwa]; exact Blk.new _ _ _
            have hba : Below g w0 wa := by rw [hwa]; exact hbg.alloc (by omega) _
            have howa := hown.alloc (.cells #[.int .i64 jn, .int .i64 b, .int .i64 f, .int .i64 t] 40)
            rw [← hwa] at howa ⊢
            have hasz : wr.heap.size < wa.heap.size := by rw [hwa]; simp
            obtain ⟨S, hSS⟩ : ∃ S, S = sumJob (jn : Int) (L.take k) := ⟨_, rfl⟩
            rw [← hSS] at hsb
            have r0 : wa.cell? ⟨wr.heap.size, 0, none⟩ = some (.int .i64 jn) := hbk.cell 0
            have r1 : wa.cell? ⟨wr.heap.size, 1, none⟩ = some (.int .i64 b) := hbk.cell 1
            have r2 : wa.cell? ⟨wr.heap.size, 2, none⟩ = some (.int .i64 f) := hbk.cell 2
            have r3 : wa.cell? ⟨wr.heap.size, 3, none⟩ = some (.int .i64 t) := hbk.cell 3
            have cw : wa.cell? ⟨g, jn, none⟩ = some (.int .i64 S) := by
              rw [howa.cellAt jn (by omega), List.getElem?_map, wholeOf_at n _ (by omega), hSS]; rfl
            have fz : wa.frozen? ⟨g, jn, none⟩ = false := howa.frozenAt jn
            have hS0 : 0 ≤ S := hsb.1
            have hS1 : S ≤ 80 * 400007 := by omega
            have HSS := Lib.hid hSS
            clear hwa p0 p1 p2 p3 hbk hown hsb hSS
            go_region
            obtain ⟨wb, hwb⟩ : ∃ wb, wb = (wa.setCell ⟨g, jn, none⟩ (.int .i64 (S + (t - f)))).drew := ⟨_, rfl⟩
            have hob : wb.ownsRow w.heap.size 3 1 (.slice (some ⟨g, 0, none⟩) n n) n ((wholeOf n (L.take (k + 1))).map I64) := by
              rw [HS.out, ← HStep.out, List.map_set, hwb, ← HSS.out]
              exact (howa.stored jn _).1
            have hbb : Below g w0 wb := by rw [hwb]; exact (hba.setCell (Nat.le_refl _) _).drew
            have hbsz : wr.heap.size < wb.heap.size := by rw [hwb]; simpa using hasz
            have r0 : wb.cell? ⟨wr.heap.size, 0, none⟩ = some (.int .i64 jn) := by rw [hwb]; exact (World.cell?_setCell_other wa _ _ _ (fun e => by injection e with e; omega)).trans r0
            have r1 : wb.cell? ⟨wr.heap.size, 1, none⟩ = some (.int .i64 b) := by rw [hwb]; exact (World.cell?_setCell_other wa _ _ _ (fun e => by injection e with e; omega)).trans r1
            have r2 : wb.cell? ⟨wr.heap.size, 2, none⟩ = some (.int .i64 f) := by rw [hwb]; exact (World.cell?_setCell_other wa _ _ _ (fun e => by injection e with e; omega)).trans r2
            have r3 : wb.cell? ⟨wr.heap.size, 3, none⟩ = some (.int .i64 t) := by rw [hwb]; exact (World.cell?_setCell_other wa _ _ _ (fun e => by injection e with e; omega)).trans r3
            rw [← hwb]
            have hL1 : Hid (max last t = lastOf (L.take (k + 1))) := Lib.hid (by rw [HS.out, hlast2.out, HLast.out])
            clear hwb howa hba cw fz HStep hlast2 HS HLast
            generalize wr.heap.size = hd at *
            by_cases hlt2 : last < t
            all_goals
              go_wp2_with fail
              go_loopw [131] (fun u wr => ∃ r : Nat, r ≤ k ∧ u = .int .i64 r ∧ Below wb.heap.size wb wr) (fun u _ => k - (intOf u).toNat)
              case atStart => exact ⟨0, Nat.zero_le _, rfl, Below.refl _ _⟩
              case round =>
                obtain ⟨r, hr, rfl, hb3⟩ := hrel
                have hgb : g < wb.heap.size := by omega
                have hbg3 : Below g w0 wr := hbb.trans (hb3.mono (show g ≤ wb.heap.size by omega))
                have hsz3 := hb3.size
                by_cases hrk : r < k
                · have hrL : r < L.length := by rw [HN.out]; omega
                  obtain ⟨a1', ea, _, x0, x1, x2, x3⟩ := (hR0.below hbg3 (Nat.le_refl _)).at_ (k := r) hrL
                  injection ea with ea
                  subst ea
                  have hxin := HIn.out _ (List.getElem_mem hrL)
                  have hfar := HFar.out r hrk
                  generalize L[r] = x at *
                  obtain ⟨xj, xb, xf, xt⟩ := x
                  dsimp only at x0 x1 x2 x3 hxin
                  have hF : (xb = b ∨ xj = (jn : Int)) → xf < t → ¬ f < xt := fun h1 h2 => far_off (E := E) hxin.2.2.2.1 hte (by omega) hxin.2.2.2.2.1 hft hfar h1 h2
                  clear hxin hfar
                  have s0 := (hb3.cell (p := ⟨hd, 0, none⟩) hbsz).trans r0
                  have s1 := (hb3.cell (p := ⟨hd, 1, none⟩) hbsz).trans r1
                  have s2 := (hb3.cell (p := ⟨hd, 2, none⟩) hbsz).trans r2
                  have s3 := (hb3.cell (p := ⟨hd, 3, none⟩) hbsz).trans r3
                  obtain ⟨wc, hwc⟩ : ∃ wc, wc = wr.alloc (.cells #[.int .i64 xj, .int .i64 xb, .int .i64 xf, .int .i64 xt] 40) := ⟨_, rfl⟩
                  have hbk : Blk wc wr.heap.size 40 #[.int .i64 xj, .int .i64 xb, .int .i64 xf, .int .i64 xt] := by rw [hwc]; exact Blk.new _ _ _
                  have y0 : wc.cell? ⟨wr.heap.size, 0, none⟩ = some (.int .i64 xj) := hbk.cell 0
                  have y1 : wc.cell? ⟨wr.heap.size, 1, none⟩ = some (.int .i64 xb) := hbk.cell 1
                  have y2 : wc.cell? ⟨wr.heap.size, 2, none⟩ = some (.int .i64 xf) := hbk.cell 2
                  have y3 : wc.cell? ⟨wr.heap.size, 3, none⟩ = some (.int .i64 xt) := hbk.cell 3
                  have hdw : hd < wr.heap.size := by omega
                  have s0 : wc.cell? ⟨hd, 0, none⟩ = some (.int .i64 jn) := by rw [hwc, World.cell?_alloc_lt _ _ _ hdw]; exact s0
                  have s1 : wc.cell? ⟨hd, 1, none⟩ = some (.int .i64 b) := by rw [hwc, World.cell?_alloc_lt _ _ _ hdw]; exact s1
                  have s2 : wc.cell? ⟨hd, 2, none⟩ = some (.int .i64 f) := by rw [hwc, World.cell?_alloc_lt _ _ _ hdw]; exact s2
                  have s3 : wc.cell? ⟨hd, 3, none⟩ = some (.int .i64 t) := by rw [hwc, World.cell?_alloc_lt _ _ _ hdw]; exact s3
                  have hbc : Below wb.heap.size wb wc := by rw [hwc]; exact hb3.alloc hsz3 _
                  by_cases c1 : xb = b
                  · have d1 : (xb == b) = true := by simp [c1]
                    have hF1 := hF (.inl c1)
                    clear c1 hF hbk
                    by_cases c3 : xf < t
                    · have c4 := hF1 c3
                      clear hF1
                      go_wp2_with fail
                      rw [← hwc]
                      clear hwc x0 x1 x2 x3
                      go_wp2
                      go_roundw
                      case rel => exact ⟨r + 1, by omega, by go_num, hbc⟩
                      case measure => simp [intOf]; omega
                    · clear hF1
                      go_wp2_with fail
                      rw [← hwc]
                      clear hwc x0 x1 x2 x3
                      go_wp2
                      go_roundw
                      case rel => exact ⟨r + 1, by omega, by go_num, hbc⟩
                      case measure => simp [intOf]; omega
                  · have d1 : (xb == b) = false := by simp [c1]
                    by_cases c2 : xj = (jn : Int)
                    · have d2 : (xj == (jn : Int)) = true := by simp [c2]
                      have hF1 := hF (.inr c2)
                      clear c1 c2 hF hbk
                      by_cases c3 : xf < t
                      · have c4 := hF1 c3
                        clear hF1
                        go_wp2_with fail
                        rw [← hwc]
                        clear hwc x0 x1 x2 x3
                        go_wp2
                        go_roundw
                        case rel => exact ⟨r + 1, by omega, by go_num, hbc⟩
                        case measure => simp [intOf]; omega
                      · clear hF1
                        go_wp2_with fail
                        rw [← hwc]
                        clear hwc x0 x1 x2 x3
                        go_wp2
                        go_roundw
                        case rel => exact ⟨r + 1, by omega, by go_num, hbc⟩
                        case measure => simp [intOf]; omega
                    · have d2 : (xj == (jn : Int)) = false := by simp [c2]
                      clear c1 c2 hF hbk
                      go_wp2_with fail
                      rw [← hwc]
                      clear hwc x0 x1 x2 x3
                      go_wp2
                      go_roundw
                      case rel => exact ⟨r + 1, by omega, by go_num, hbc⟩
                      case measure => simp [intOf]; omega
                · go_wp2_with fail
                  go_roundw
                  case rel => exact ⟨k + 1, _, by omega, by go_num, rfl, by omega, by omega, hbg3, own_below hob hb3 hgb, Lib.hid (by rw [← hL1.out]; omega)⟩
                  case measure => simp [intOf]; omega
          · have hkN : k = N := by omega
            subst hkN
            have htk : L.take k = L := List.take_of_length_le (by rw [HN.out]; exact Nat.le_refl _)
            have hle : last = E := by rw [HLast.out, htk]; exact HLastE.out
            rw [htk, HW.out] at hown
            have hrow : RI wr wr.heap.size (some ⟨g, 0, none⟩) n l := own_RI hown
            have hri : RI wr wr.heap.size A n l := Reads.more (hr0.below hbg (by omega)) (by omega)
            have hbf : Below w.heap.size w wr := hb0.trans (hbg.mono hBl)
            subst hle
            have hself : (last == last) = true := by simp
            clear HLast htk hown HLastE
            go_wp2_with fail
            refine (Equal_same wr.heap.size _ _ n n c l wr hrow hri hnM.out).mono ?_
            rintro e w4 ⟨rfl, hb4⟩
            have hbf4 := hbf.trans (hb4.mono hbf.size)
            go_wp2_with fail
            refine (awake_any _).mono ?_
            rintro e w5 ⟨rfl, hb5⟩
            go_wp2
            go_ret
            exact ⟨rfl, hbf4.trans (hb5.mono hbf4.size)⟩
end Go.Proofs.Ytmomjannlnafcaa
