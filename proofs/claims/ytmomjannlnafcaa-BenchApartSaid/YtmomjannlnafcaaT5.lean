import Derived.Test.YtmomjannlnafcaaT4
import Derived.Test.YtmomjannlnafcaaT3
namespace Go.Proofs.Ytmomjannlnafcaa
open Go.RowKit
set_option maxHeartbeats 1000000 in
set_option maxRecDepth 100000 in
theorem rwrap_yes (B : Nat) (A : Option Addr) (n c : Nat) (l : List Int) (m : Int) (w : World) (hr : RI w B A n l) (hB : B ≤ w.heap.size) (hn : n ≤ maxLen) (h : likeB l m = true) :
    Calls Try.prog 26 #[.slice A n c, .int .i64 m] w fun e w' => ∃ v x, e = .returned (.tuple #[v, .int .i64 x, .int .i64 0]) ∧ OSr w' w.heap.size v (segAll (endOf l m) 0 0 l) ∧ Below w.heap.size w w' := by
  have hlen := hr.len
  obtain ⟨h1, h2, h3, h4⟩ := likeB_spec h
  obtain ⟨he0, he1, he2⟩ := end_bd h
  have hb := total_bd h4
  have hn40 : n ≤ 40 := by omega
  obtain ⟨hb1, hb2⟩ := hb
  have hb3 : total l ≤ 400000 := by omega
  have HB := Lib.hid h
  have HL := Lib.hid hlen
  have HK := Lib.hid h4
  have HE2 := Lib.hid he2
  have HEnd := Lib.hid (endOf_max (l := l) (m := m) (Int.ediv_nonneg (by omega) (by omega)))
  have hq0 : 0 ≤ (total l + m - 1) / m := Int.ediv_nonneg (by omega) (by omega)
  have hq1 : (total l + m - 1) / m ≤ 400007 := by
    have := Int.ediv_le_self m (show 0 ≤ total l + m - 1 by omega)
    omega
  generalize endOf l m = E at *
  clear h h4 hlen he2 hb2 h1
  go_enter Try.func26, Try.ntmps26
  go_wp2_with fail
  refine (Times_any B A n c l m _ hr hn).mono ?_
  rw [HB.out]
  rintro e w' ⟨rfl, rfl⟩
  have HN := Lib.hid hn
  clear hn
  go_wp2
  go_loop [7, 8, 25] (fun s g u => ∃ k : Nat, k ≤ n ∧ u = .int .i64 k ∧ s = .int .i64 (total (l.take k)) ∧ g = .int .i64 ((l.take k).foldl max 0)) (fun _ _ u => n - (intOf u).toNat)
  case atStart => exact ⟨0, Nat.zero_le _, rfl, rfl, rfl⟩
  case round =>
    obtain ⟨k, hk, rfl, rfl, rfl⟩ := hrel
    by_cases hlt : k < n
    · obtain ⟨ad, rfl, _, hc⟩ := hr.at_ (k := k) (by rw [HL.out]; exact hlt)
      have HD := Lib.hid (foldl_take (l := l) (k := k) 0 (by rw [HL.out]; exact hlt))
      have HT := Lib.hid (total_take (l := l) (k := k) (by rw [HL.out]; exact hlt))
      have hbt := total_bd (l := l.take k) (List.all_eq_true.2 fun x hx => List.all_eq_true.1 HK.out x (List.mem_of_mem_take hx))
      have hbl : (l.take k).length ≤ k := List.length_take_le _ _
      have hx := List.all_eq_true.1 HK.out (l[k]'(by rw [HL.out]; exact hlt)) (List.getElem_mem _)
      unfold okT at hx
      generalize l[k]'(by rw [HL.out]; exact hlt) = x at *
      generalize (l.take k).foldl max 0 = g at *
      generalize total (l.take k) = s at *
      simp at hx
      obtain ⟨hx1, hx2⟩ := hx
      obtain ⟨hs1, hs2⟩ := hbt
      have hs3 : s ≤ 400000 := by omega
      clear hs2 hbl
      go_wp2
      all_goals
        go_round
        case rel => exact ⟨k + 1, by omega, by go_num, int_eq HT.out.symm, int_eq (by rw [HD.out]; omega)⟩
        case measure => simp [intOf]; omega
    · have hE : (l.take k).foldl max 0 = l.foldl max 0 := by rw [List.take_of_length_le (by rw [HL.out]; omega)]
      have hS : total (l.take k) = total l := by rw [List.take_of_length_le (by rw [HL.out]; omega)]
      rw [hE, hS]
      clear hE hS
      generalize hg : l.foldl max 0 = g at *
      clear hg
      generalize hqq : (total l + m - 1) / m = q at *
      have HQ := Lib.hid hqq
      clear hqq
      obtain ⟨T, hT⟩ : ∃ T, T = total l := ⟨_, rfl⟩
      have hTT := Lib.hid hT
      by_cases hgq : g < q
      · have hEq : q = E := by have := HEnd.out; omega
        clear HEnd hT hTT
        subst hEq
        have hdiv : (total l + m - 1) / m = q := HQ.out
        go_wp2
        clear hdiv HQ hgq
        go_loopw [12, 13, 46] (fun v a u wr => ∃ (k : Nat) (aa : Int) (L : List Sl), k ≤ n ∧ u = .int .i64 k ∧ a = .int .i64 aa ∧ 0 ≤ aa ∧ aa ≤ 400000 ∧ OSr wr w.heap.size v L ∧ Below w.heap.size w wr ∧ (L.length : Int) ≤ 400000 ∧
            RowKit.Hid (segAll q 0 0 l = L ++ segAll q k aa (l.drop k)) ∧ RowKit.Hid (aa = total (l.take k)) ∧ RowKit.Hid ((L.length : Int) ≤ aa)) (fun _ _ u _ => n - (intOf u).toNat)
        case atStart => exact ⟨0, 0, [], Nat.zero_le _, rfl, rfl, Int.le_refl _, by omega, OSr.nil _ _, Below.refl _ _, by simp, Lib.hid (by simp), Lib.hid (by simp [total]), Lib.hid (by simp)⟩
        case round =>
          clear hlt hk
          obtain ⟨k, aa, L, hk, rfl, rfl, haa, haa2, hL, hbel, hLl, HF, HT, HLn⟩ := hrel
          by_cases hlt : k < n
          · have hrw : RI wr B A n l := hr.below hbel hB
            obtain ⟨ad, rfl, _, hc⟩ := hrw.at_ (k := k) (by rw [HL.out]; exact hlt)
            have hx := List.all_eq_true.1 HK.out (l[k]'(by rw [HL.out]; exact hlt)) (List.getElem_mem _)
            have hxE := HE2.out (l[k]'(by rw [HL.out]; exact hlt)) (List.getElem_mem _)
            have hdrop : l.drop k = l[k]'(by rw [HL.out]; exact hlt) :: l.drop (k + 1) := List.drop_eq_getElem_cons (by rw [HL.out]; exact hlt)
            have htk : total (l.take (k + 1)) = total (l.take k) + l[k]'(by rw [HL.out]; exact hlt) := total_take (by rw [HL.out]; exact hlt)
            have htb := total_bd (l := l.take (k + 1)) (List.all_eq_true.2 fun x hx => List.all_eq_true.1 HK.out x (List.mem_of_mem_take hx))
            have htl : (l.take (k + 1)).length ≤ k + 1 := List.length_take_le _ _
            unfold okT at hx
            generalize l[k]'(by rw [HL.out]; exact hlt) = x at *
            simp at hx
            obtain ⟨hx1, hx2⟩ := hx
            have hE1 : 1 ≤ q := by omega
            have HF2 := HF.out
            rw [hdrop] at HF2
            obtain ⟨R, hR⟩ : ∃ R, segAll q ((k : Int) + 1) (aa + x) (l.drop (k + 1)) = R := ⟨_, rfl⟩
            have HF3 := Lib.hid (show segAll q 0 0 l = L ++ segs q k aa (aa + x) ++ R by rw [HF2]; simp only [segAll]; rw [hR, List.append_assoc])
            have hu4 : aa + x ≤ 400000 := by have := HT.out; omega
            have HR := Lib.hid hR
            have HT2 := Lib.hid (show aa + x = total (l.take (k + 1)) by have := HT.out; omega)
            clear HF2 hdrop htk htb htl hR HF HT hxE
            go_wp2
            have hu0 : aa ≤ aa + x := by omega
            generalize aa + x = u at *
            go_loopw [12, 16] (fun v a wr2 => ∃ (a1 : Int) (L1 : List Sl), a = .int .i64 a1 ∧ 0 ≤ a1 ∧ a1 ≤ u ∧ OSr wr2 w.heap.size v L1 ∧ Below w.heap.size w wr2 ∧ (L1.length : Int) ≤ 400000 ∧
                RowKit.Hid (segAll q 0 0 l = L1 ++ segs q k a1 u ++ R) ∧ RowKit.Hid ((L1.length : Int) ≤ a1)) (fun _ a _ => (u - intOf a).toNat)
            case atStart => exact ⟨aa, L, rfl, haa, hu0, hL, hbel, hLl, HF3, HLn⟩
            case round =>
              obtain ⟨a1, L1, rfl, ha0, ha1, hL1, hbel1, hLl1, HF1, HLn1⟩ := hrel
              by_cases hau : a1 < u
              · obtain ⟨p1, p2, p3, p4, p5, p6, p7⟩ := prod_bd hE1 he1 ha0 hau hu4
                have hst : segAll q 0 0 l = (L1 ++ [⟨k, a1 / q, a1 - a1 / q * q, min u ((a1 / q + 1) * q) - a1 / q * q⟩]) ++ segs q k (min u ((a1 / q + 1) * q)) u ++ R := by
                  have := HF1.out
                  rw [segs_step hE1 hau] at this
                  simpa using this
                have P7 := Lib.hid p7
                clear p7
                have hll : (L1.length : Int) + 1 ≤ 400000 := by have := HLn1.out; omega
                by_cases hmin : (a1 / q + 1) * q < u
                · skip
                  have e1 : min u ((a1 / q + 1) * q) = (a1 / q + 1) * q := by omega
                  rw [e1] at hst
                  have hto : a1 < (a1 / q + 1) * q ∧ (a1 / q + 1) * q ≤ u := by omega
                  obtain ⟨ht1, ht2⟩ := hto
                  have HST := Lib.hid hst
                  clear hst e1
                  go_wp2_with (at_builtin; refine Hid.out ?_)
                  refine wpList_app T36 rfl _ _ rfl rfl (World.ownsRow.alloc hL1 _) rfl (reads_new wr _ 41 _ 1 4 _ rfl rfl) (by simp [Value.oneCell']) ?_ ?_ ?_ ?_
                  · omega
                  · omega
                  · have := hbel1.size; simp; omega
                  intro v2 w2 hv2 hup
                  have hb2 : Below w.heap.size wr w2 := ((Below.refl _ _).alloc hbel1.size _).trans (hup.below_own (by have := hbel1.size; simp; omega) (World.ownsRow.alloc hL1 _))
                  have hsn := OSr.snoc (s := ⟨k, a1 / q, a1 - a1 / q * q, (a1 / q + 1) * q - a1 / q * q⟩) hv2
                  go_wp2
                  go_roundw
                  case rel => exact ⟨(a1 / q + 1) * q, L1 ++ [⟨k, a1 / q, a1 - a1 / q * q, (a1 / q + 1) * q - a1 / q * q⟩], rfl, by omega, by omega, hsn, hbel1.trans hb2, by simp; omega, Lib.hid HST.out, Lib.hid (by have := HLn1.out; simp; omega)⟩
                  case measure => simp [intOf]; omega
                · skip
                  have e1 : min u ((a1 / q + 1) * q) = u := by omega
                  rw [e1] at hst
                  have hto : a1 < u ∧ u ≤ u := by omega
                  obtain ⟨ht1, ht2⟩ := hto
                  have HST := Lib.hid hst
                  clear hst e1
                  go_wp2_with (at_builtin; refine Hid.out ?_)
                  refine wpList_app T36 rfl _ _ rfl rfl (World.ownsRow.alloc hL1 _) rfl (reads_new wr _ 41 _ 1 4 _ rfl rfl) (by simp [Value.oneCell']) ?_ ?_ ?_ ?_
                  · omega
                  · omega
                  · have := hbel1.size; simp; omega
                  intro v2 w2 hv2 hup
                  have hb2 : Below w.heap.size wr w2 := ((Below.refl _ _).alloc hbel1.size _).trans (hup.below_own (by have := hbel1.size; simp; omega) (World.ownsRow.alloc hL1 _))
                  have hsn := OSr.snoc (s := ⟨k, a1 / q, a1 - a1 / q * q, u - a1 / q * q⟩) hv2
                  go_wp2
                  go_roundw
                  case rel => exact ⟨u, L1 ++ [⟨k, a1 / q, a1 - a1 / q * q, u - a1 / q * q⟩], rfl, by omega, by omega, hsn, hbel1.trans hb2, by simp; omega, Lib.hid HST.out, Lib.hid (by have := HLn1.out; simp; omega)⟩
                  case measure => simp [intOf]; omega
              · have hau2 : a1 = u := by omega
                subst hau2
                go_wp2
                go_roundw
                case rel => exact ⟨k + 1, a1, L1, by omega, by go_num, rfl, ha0, hu4, hL1, hbel1, hLl1, Lib.hid (by
                    have h1 := HF1.out
                    rw [segs_end (by omega), ← HR.out] at h1
                    simpa using h1), HT2, HLn1⟩
                case measure => simp [intOf]; omega
          · go_wp2
            go_ret3
            have hkn : k = n := by omega
            subst hkn
            refine ⟨_, _, rfl, ?_, hbel⟩
            have := HF.out
            rw [List.drop_eq_nil_of_le (by rw [HL.out]; exact Nat.le_refl _)] at this
            simp only [segAll, List.append_nil] at this
            rw [this]; exact hL
      · have hEq : g = E := by have := HEnd.out; omega
        clear HEnd hT hTT
        subst hEq
        have hdiv : (total l + m - 1) / m = q := HQ.out
        go_wp2
        clear hdiv HQ hgq
        go_loopw [12, 13, 46] (fun v a u wr => ∃ (k : Nat) (aa : Int) (L : List Sl), k ≤ n ∧ u = .int .i64 k ∧ a = .int .i64 aa ∧ 0 ≤ aa ∧ aa ≤ 400000 ∧ OSr wr w.heap.size v L ∧ Below w.heap.size w wr ∧ (L.length : Int) ≤ 400000 ∧
            RowKit.Hid (segAll g 0 0 l = L ++ segAll g k aa (l.drop k)) ∧ RowKit.Hid (aa = total (l.take k)) ∧ RowKit.Hid ((L.length : Int) ≤ aa)) (fun _ _ u _ => n - (intOf u).toNat)
        case atStart => exact ⟨0, 0, [], Nat.zero_le _, rfl, rfl, Int.le_refl _, by omega, OSr.nil _ _, Below.refl _ _, by simp, Lib.hid (by simp), Lib.hid (by simp [total]), Lib.hid (by simp)⟩
        case round =>
          clear hlt hk
          obtain ⟨k, aa, L, hk, rfl, rfl, haa, haa2, hL, hbel, hLl, HF, HT, HLn⟩ := hrel
          by_cases hlt : k < n
          · have hrw : RI wr B A n l := hr.below hbel hB
            obtain ⟨ad, rfl, _, hc⟩ := hrw.at_ (k := k) (by rw [HL.out]; exact hlt)
            have hx := List.all_eq_true.1 HK.out (l[k]'(by rw [HL.out]; exact hlt)) (List.getElem_mem _)
            have hxE := HE2.out (l[k]'(by rw [HL.out]; exact hlt)) (List.getElem_mem _)
            have hdrop : l.drop k = l[k]'(by rw [HL.out]; exact hlt) :: l.drop (k + 1) := List.drop_eq_getElem_cons (by rw [HL.out]; exact hlt)
            have htk : total (l.take (k + 1)) = total (l.take k) + l[k]'(by rw [HL.out]; exact hlt) := total_take (by rw [HL.out]; exact hlt)
            have htb := total_bd (l := l.take (k + 1)) (List.all_eq_true.2 fun x hx => List.all_eq_true.1 HK.out x (List.mem_of_mem_take hx))
            have htl : (l.take (k + 1)).length ≤ k + 1 := List.length_take_le _ _
            unfold okT at hx
            generalize l[k]'(by rw [HL.out]; exact hlt) = x at *
            simp at hx
            obtain ⟨hx1, hx2⟩ := hx
            have hE1 : 1 ≤ g := by omega
            have HF2 := HF.out
            rw [hdrop] at HF2
            obtain ⟨R, hR⟩ : ∃ R, segAll g ((k : Int) + 1) (aa + x) (l.drop (k + 1)) = R := ⟨_, rfl⟩
            have HF3 := Lib.hid (show segAll g 0 0 l = L ++ segs g k aa (aa + x) ++ R by rw [HF2]; simp only [segAll]; rw [hR, List.append_assoc])
            have hu4 : aa + x ≤ 400000 := by have := HT.out; omega
            have HR := Lib.hid hR
            have HT2 := Lib.hid (show aa + x = total (l.take (k + 1)) by have := HT.out; omega)
            clear HF2 hdrop htk htb htl hR HF HT hxE
            go_wp2
            have hu0 : aa ≤ aa + x := by omega
            generalize aa + x = u at *
            go_loopw [12, 16] (fun v a wr2 => ∃ (a1 : Int) (L1 : List Sl), a = .int .i64 a1 ∧ 0 ≤ a1 ∧ a1 ≤ u ∧ OSr wr2 w.heap.size v L1 ∧ Below w.heap.size w wr2 ∧ (L1.length : Int) ≤ 400000 ∧
                RowKit.Hid (segAll g 0 0 l = L1 ++ segs g k a1 u ++ R) ∧ RowKit.Hid ((L1.length : Int) ≤ a1)) (fun _ a _ => (u - intOf a).toNat)
            case atStart => exact ⟨aa, L, rfl, haa, hu0, hL, hbel, hLl, HF3, HLn⟩
            case round =>
              obtain ⟨a1, L1, rfl, ha0, ha1, hL1, hbel1, hLl1, HF1, HLn1⟩ := hrel
              by_cases hau : a1 < u
              · obtain ⟨p1, p2, p3, p4, p5, p6, p7⟩ := prod_bd hE1 he1 ha0 hau hu4
                have hst : segAll g 0 0 l = (L1 ++ [⟨k, a1 / g, a1 - a1 / g * g, min u ((a1 / g + 1) * g) - a1 / g * g⟩]) ++ segs g k (min u ((a1 / g + 1) * g)) u ++ R := by
                  have := HF1.out
                  rw [segs_step hE1 hau] at this
                  simpa using this
                have P7 := Lib.hid p7
                clear p7
                have hll : (L1.length : Int) + 1 ≤ 400000 := by have := HLn1.out; omega
                by_cases hmin : (a1 / g + 1) * g < u
                · skip
                  have e1 : min u ((a1 / g + 1) * g) = (a1 / g + 1) * g := by omega
                  rw [e1] at hst
                  have hto : a1 < (a1 / g + 1) * g ∧ (a1 / g + 1) * g ≤ u := by omega
                  obtain ⟨ht1, ht2⟩ := hto
                  have HST := Lib.hid hst
                  clear hst e1
                  go_wp2_with (at_builtin; refine Hid.out ?_)
                  refine wpList_app T36 rfl _ _ rfl rfl (World.ownsRow.alloc hL1 _) rfl (reads_new wr _ 41 _ 1 4 _ rfl rfl) (by simp [Value.oneCell']) ?_ ?_ ?_ ?_
                  · omega
                  · omega
                  · have := hbel1.size; simp; omega
                  intro v2 w2 hv2 hup
                  have hb2 : Below w.heap.size wr w2 := ((Below.refl _ _).alloc hbel1.size _).trans (hup.below_own (by have := hbel1.size; simp; omega) (World.ownsRow.alloc hL1 _))
                  have hsn := OSr.snoc (s := ⟨k, a1 / g, a1 - a1 / g * g, (a1 / g + 1) * g - a1 / g * g⟩) hv2
                  go_wp2
                  go_roundw
                  case rel => exact ⟨(a1 / g + 1) * g, L1 ++ [⟨k, a1 / g, a1 - a1 / g * g, (a1 / g + 1) * g - a1 / g * g⟩], rfl, by omega, by omega, hsn, hbel1.trans hb2, by simp; omega, Lib.hid HST.out, Lib.hid (by have := HLn1.out; simp; omega)⟩
                  case measure => simp [intOf]; omega
                · skip
                  have e1 : min u ((a1 / g + 1) * g) = u := by omega
                  rw [e1] at hst
                  have hto : a1 < u ∧ u ≤ u := by omega
                  obtain ⟨ht1, ht2⟩ := hto
                  have HST := Lib.hid hst
                  clear hst e1
                  go_wp2_with (at_builtin; refine Hid.out ?_)
                  refine wpList_app T36 rfl _ _ rfl rfl (World.ownsRow.alloc hL1 _) rfl (reads_new wr _ 41 _ 1 4 _ rfl rfl) (by simp [Value.oneCell']) ?_ ?_ ?_ ?_
                  · omega
                  · omega
                  · have := hbel1.size; simp; omega
                  intro v2 w2 hv2 hup
                  have hb2 : Below w.heap.size wr w2 := ((Below.refl _ _).alloc hbel1.size _).trans (hup.below_own (by have := hbel1.size; simp; omega) (World.ownsRow.alloc hL1 _))
                  have hsn := OSr.snoc (s := ⟨k, a1 / g, a1 - a1 / g * g, u - a1 / g * g⟩) hv2
                  go_wp2
                  go_roundw
                  case rel => exact ⟨u, L1 ++ [⟨k, a1 / g, a1 - a1 / g * g, u - a1 / g * g⟩], rfl, by omega, by omega, hsn, hbel1.trans hb2, by simp; omega, Lib.hid HST.out, Lib.hid (by have := HLn1.out; simp; omega)⟩
                  case measure => simp [intOf]; omega
              · have hau2 : a1 = u := by omega
                subst hau2
                go_wp2
                go_roundw
                case rel => exact ⟨k + 1, a1, L1, by omega, by go_num, rfl, ha0, hu4, hL1, hbel1, hLl1, Lib.hid (by
                    have h1 := HF1.out
                    rw [segs_end (by omega), ← HR.out] at h1
                    simpa using h1), HT2, HLn1⟩
                case measure => simp [intOf]; omega
          · go_wp2
            go_ret3
            have hkn : k = n := by omega
            subst hkn
            refine ⟨_, _, rfl, ?_, hbel⟩
            have := HF.out
            rw [List.drop_eq_nil_of_le (by rw [HL.out]; exact Nat.le_refl _)] at this
            simp only [segAll, List.append_nil] at this
            rw [this]; exact hL
end Go.Proofs.Ytmomjannlnafcaa
