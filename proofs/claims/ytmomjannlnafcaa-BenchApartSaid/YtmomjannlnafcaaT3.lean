import Derived.Test.YtmomjannlnafcaaT2
namespace Go.Proofs.Ytmomjannlnafcaa
open Go.RowKit
theorem likeB_spec {l : List Int} {m : Int} (h : likeB l m = true) : l.length ≤ 40 ∧ 1 ≤ m ∧ m ≤ 8 ∧ l.all okT = true := by
  unfold likeB at h
  simp only [Bool.and_eq_true, decide_eq_true_eq] at h
  exact ⟨h.1.1.1, h.1.1.2, h.1.2, h.2⟩
theorem end_bd {l : List Int} {m : Int} (h : likeB l m = true) : 0 ≤ endOf l m ∧ endOf l m ≤ 400007 ∧ ∀ x ∈ l, x ≤ endOf l m := by
  obtain ⟨h1, h2, h3, h4⟩ := likeB_spec h
  have hb := total_bd h4
  have hq0 : 0 ≤ (total l + m - 1) / m := Int.ediv_nonneg (by omega) (by omega)
  have hq1 : (total l + m - 1) / m ≤ 400007 := by
    have := Int.ediv_le_self m (show 0 ≤ total l + m - 1 by omega)
    omega
  unfold endOf
  refine ⟨Int.le_trans hq0 (foldl_ge l _).1, foldl_le l _ _ hq1 fun x hx => ?_, (foldl_ge l _).2⟩
  have := List.all_eq_true.1 h4 x hx
  unfold okT at this
  simp at this
  omega
set_option maxHeartbeats 1000000 in
theorem wrap_yes (B : Nat) (A : Option Addr) (n c : Nat) (l : List Int) (m : Int) (w : World) (hr : RI w B A n l) (hB : B ≤ w.heap.size) (hn : n ≤ maxLen) (h : likeB l m = true) :
    Calls Try.prog 25 #[.slice A n c, .int .i64 m] w fun e w' => ∃ v, e = .returned (.tuple #[v, .int .i64 0]) ∧ OSl w' w.heap.size v (segAll (endOf l m) 0 0 l) ∧ Below w.heap.size w w' := by
  have hlen := hr.len
  obtain ⟨h1, h2, h3, h4⟩ := likeB_spec h
  obtain ⟨he0, he1, he2⟩ := end_bd h
  have hb := total_bd h4
  have hn40 : n ≤ 40 := by omega
  obtain ⟨hb1, hb2⟩ := hb
  have hb3 : total l ≤ 400000 := by omega
  have HB := Lib.hid h
  have HL := Lib.hid hlen
  have HK := Lib.hid h4
  have HE2 := Lib.hid he2
  have HS := Lib.hid (show ∀ w, RI w B A n l → Calls Try.prog 71 #[.slice A n c, .func (.func 72) #[] #[]] w fun e w' => e = .returned (.int .i64 (total l)) ∧ w = w' from fun w h => sum_any B A n c l w h hn40 h4)
  have HEnd := Lib.hid (show endOf l m = l.foldl max ((total l + m - 1) / m) from rfl)
  generalize endOf l m = E at *
  clear h h4 hlen he2 hb2 h1
  go_enter Try.func25, Try.ntmps25
  go_wp2_with fail
  refine (like_any B A n c l m _ hr hn).mono ?_
  rw [HB.out]
  rintro e w' ⟨rfl, rfl⟩
  go_wp2_with fail
  refine (HS.out _ hr).mono ?_
  rintro e w' ⟨rfl, rfl⟩
  have HN := Lib.hid hn
  clear hn
  go_wp2
  go_loop [6, 28] (fun s u => ∃ k : Nat, k ≤ n ∧ u = .int .i64 k ∧ s = .int .i64 ((l.take k).foldl max ((total l + m - 1) / m))) (fun _ u => n - (intOf u).toNat)
  case atStart => exact ⟨0, Nat.zero_le _, rfl, rfl⟩
  case round =>
    obtain ⟨k, hk, rfl, rfl⟩ := hrel
    by_cases hlt : k < n
    · obtain ⟨ad, rfl, _, hc⟩ := hr.at_ (k := k) (by rw [HL.out]; exact hlt)
      have HD := Lib.hid (foldl_take (l := l) (k := k) ((total l + m - 1) / m) (by rw [HL.out]; exact hlt))
      generalize l[k]'(by rw [HL.out]; exact hlt) = x at *
      generalize (l.take k).foldl max ((total l + m - 1) / m) = s at *
      go_wp2
      all_goals
        go_round
        case rel => exact ⟨k + 1, by omega, by go_num, int_eq (by rw [HD.out]; omega)⟩
        case measure => simp [intOf]; omega
    · have hE : (l.take k).foldl max ((total l + m - 1) / m) = E := by rw [HEnd.out, List.take_of_length_le (by rw [HL.out]; omega)]
      rw [hE]
      clear hE
      go_wp2
      go_loopw [9, 10, 11, 38] (fun v b a u wr => ∃ (k : Nat) (bb aa : Int) (L : List Sl), k ≤ n ∧ u = .int .i64 k ∧ b = .int .i64 bb ∧ a = .int .i64 aa ∧ 0 ≤ bb ∧ 0 ≤ aa ∧ aa ≤ E ∧ OSl wr w.heap.size v L ∧ Below w.heap.size w wr ∧ (L.length : Int) ≤ 400000 ∧
          Hid (segAll E 0 0 l = L ++ segAll E k (bb * E + aa) (l.drop k)) ∧ Hid (bb * E + aa = total (l.take k)) ∧ Hid ((L.length : Int) ≤ bb * E + aa)) (fun _ _ _ u _ => n - (intOf u).toNat)
      case atStart => exact ⟨0, 0, 0, [], Nat.zero_le _, rfl, rfl, rfl, Int.le_refl _, Int.le_refl _, he0, OSl.nil _ _, Below.refl _ _, by simp, Lib.hid (by simp), Lib.hid (by simp [total]), Lib.hid (by simp)⟩
      case round =>
        clear hlt hk
        obtain ⟨k, bb, aa, L, hk, rfl, rfl, rfl, hbb, haa, haE, hL, hbel, hLl, HF, HT, HLn⟩ := hrel
        by_cases hlt : k < n
        · have hrw : RI wr B A n l := hr.below hbel hB
          obtain ⟨ad, rfl, _, hc⟩ := hrw.at_ (k := k) (by rw [HL.out]; exact hlt)
          have hx := List.all_eq_true.1 HK.out (l[k]'(by rw [HL.out]; exact hlt)) (List.getElem_mem _)
          have hxE := HE2.out (l[k]'(by rw [HL.out]; exact hlt)) (List.getElem_mem _)
          have hdrop : l.drop k = l[k]'(by rw [HL.out]; exact hlt) :: l.drop (k + 1) := List.drop_eq_getElem_cons (by rw [HL.out]; exact hlt)
          have htk : total (l.take (k + 1)) = total (l.take k) + l[k]'(by rw [HL.out]; exact hlt) := total_take (by rw [HL.out]; exact hlt)
          have htb := total_bd (l := l.take (k + 1)) (List.all_eq_true.2 fun x hx => List.all_eq_true.1 HK.out x (List.mem_of_mem_take hx))
          have htl : (l.take (k + 1)).length ≤ k + 1 := List.length_take_le _ _
          unfold okT at hx
          generalize l[k]'(by rw [HL.out]; exact hlt) = x at *
          simp at hx
          obtain ⟨hx1, hx2⟩ := hx
          have HF2 := HF.out
          rw [hdrop] at HF2
          obtain ⟨u, hu⟩ : ∃ u, bb * E + aa + x = u := ⟨_, rfl⟩
          obtain ⟨R, hR⟩ : ∃ R, segAll E ((k : Int) + 1) u (l.drop (k + 1)) = R := ⟨_, rfl⟩
          have HF3 := Lib.hid (show segAll E 0 0 l = L ++ segs E k (bb * E + aa) u ++ R by rw [HF2]; simp only [segAll]; rw [hu, hR, List.append_assoc])
          have hu4 : u ≤ 400000 := by have := HT.out; omega
          have HU := Lib.hid hu
          have HR := Lib.hid hR
          have HT2 := Lib.hid (show u = total (l.take (k + 1)) by have := HT.out; omega)
          clear HF2 hdrop htk htb htl hu hR HF
          have hE1 : 1 ≤ E := by omega
          go_wp2
          go_loopw [9, 10, 11, 13] (fun v b a t wr2 => ∃ (b1 a1 t1 : Int) (L1 : List Sl), b = .int .i64 b1 ∧ a = .int .i64 a1 ∧ t = .int .i64 t1 ∧ 0 ≤ b1 ∧ b1 ≤ 400000 ∧ 0 ≤ a1 ∧ a1 ≤ E ∧ 0 ≤ t1 ∧ t1 ≤ 10000 ∧ OSl wr2 w.heap.size v L1 ∧ Below w.heap.size w wr2 ∧ (L1.length : Int) ≤ 400000 ∧
              Hid (segAll E 0 0 l = L1 ++ segs E k (b1 * E + a1) u ++ R) ∧ Hid (b1 * E + a1 + t1 = u) ∧ Hid ((L1.length : Int) ≤ b1 * E + a1)) (fun _ _ _ t _ => (intOf t).toNat)
          case atStart =>
            exact ⟨bb, aa, x, L, rfl, rfl, rfl, hbb, b_le (a := aa) hE1 hbb haa (by have := HU.out; omega), haa, haE, by omega, hx2, hL, hbel, hLl, HF3, HU, HLn⟩
          case round =>
            obtain ⟨b1, a1, t1, L1, rfl, rfl, rfl, hb10, hb11, ha0, ha1, ht0, ht1, hL1, hbel1, hLl1, HF1, HU1, HLn1⟩ := hrel
            by_cases htp : 0 < t1
            · by_cases haE1 : a1 = E
              · subst haE1
                have e0 : (b1 + 1) * a1 + 0 = b1 * a1 + a1 := by rw [Int.add_mul, Int.one_mul]; omega
                have hst := seg_one (i := (k : Int)) (b := b1 + 1) (a := 0) (t := t1) (u := u) (A := segAll a1 0 0 l) (L := L1) (R := R) hE1 (Int.le_refl _) (by omega) htp (by rw [e0]; exact HU1.out) (by rw [e0]; exact HF1.out)
                have hbn : b1 + 1 ≤ 400000 := b_le (E := a1) (a := 0) hE1 (by omega) (Int.le_refl _) (by rw [e0]; have := HU1.out; omega)
                have hlen1 : (L1.length : Int) + 1 ≤ (b1 + 1) * a1 + (0 + min t1 (a1 - 0)) := by have := HLn1.out; rw [show (b1 + 1) * a1 + (0 + min t1 (a1 - 0)) = (b1 + 1) * a1 + 0 + min t1 (a1 - 0) by omega, e0]; omega
                have hLl2 : (L1.length : Int) + 1 ≤ 400000 := by have := hst.2; omega
                clear e0
                by_cases hmin : a1 < t1
                · have ht0E : 0 ≤ a1 := he0
                  have e1 : 0 + min t1 (a1 - 0) = a1 := by omega
                  have e2 : t1 - min t1 (a1 - 0) = (t1 - a1) := by omega
                  rw [e1, e2] at hst
                  rw [e1] at hlen1
                  have HST := Lib.hid hst
                  have HL2 := Lib.hid hlen1
                  have hT0 : 0 ≤ (t1 - a1) ∧ (t1 - a1) ≤ 10000 ∧ (t1 - a1) < t1 ∧ 0 ≤ a1 ∧ a1 ≤ a1 := by omega
                  have HT0 := Lib.hid hT0
                  clear hst hlen1 e1 e2 hT0
                  go_wp2_with (at_builtin; refine Hid.out ?_)
                  refine wpList_app T33 rfl _ _ rfl rfl (World.ownsRow.alloc hL1 _) rfl (reads_new wr _ 40 _ 1 4 _ rfl rfl) (by simp [Value.oneCell']) ?_ ?_ ?_ ?_
                  · omega
                  · omega
                  · have := hbel1.size; simp; omega
                  intro v2 w2 hv2 hup
                  have hb2 : Below w.heap.size wr w2 := ((Below.refl _ _).alloc hbel1.size _).trans (hup.below_own (by have := hbel1.size; simp; omega) (World.ownsRow.alloc hL1 _))
                  have hsn := OSl.snoc (s := ⟨k, (b1 + 1), 0, a1⟩) hv2
                  go_wp2
                  go_roundw
                  case rel => exact ⟨(b1 + 1), a1, (t1 - a1), L1 ++ [⟨k, (b1 + 1), 0, a1⟩], rfl, by first | rfl | exact int_eq (by omega), by first | rfl | exact int_eq (by omega), by omega, hbn, HT0.out.2.2.2.1, HT0.out.2.2.2.2, HT0.out.1, HT0.out.2.1, hsn, hbel1.trans hb2, by simpa using hLl2, Lib.hid HST.out.1, Lib.hid HST.out.2, Lib.hid (by have := HL2.out; simpa using this)⟩
                  case measure => have := HT0.out; simp [intOf]; omega
                · have ht0E : 0 ≤ a1 := he0
                  have e1 : 0 + min t1 (a1 - 0) = t1 := by omega
                  have e2 : t1 - min t1 (a1 - 0) = (t1 - t1) := by omega
                  rw [e1, e2] at hst
                  rw [e1] at hlen1
                  have HST := Lib.hid hst
                  have HL2 := Lib.hid hlen1
                  have hT0 : 0 ≤ (t1 - t1) ∧ (t1 - t1) ≤ 10000 ∧ (t1 - t1) < t1 ∧ 0 ≤ t1 ∧ t1 ≤ a1 := by omega
                  have HT0 := Lib.hid hT0
                  clear hst hlen1 e1 e2 hT0
                  go_wp2_with (at_builtin; refine Hid.out ?_)
                  refine wpList_app T33 rfl _ _ rfl rfl (World.ownsRow.alloc hL1 _) rfl (reads_new wr _ 40 _ 1 4 _ rfl rfl) (by simp [Value.oneCell']) ?_ ?_ ?_ ?_
                  · omega
                  · omega
                  · have := hbel1.size; simp; omega
                  intro v2 w2 hv2 hup
                  have hb2 : Below w.heap.size wr w2 := ((Below.refl _ _).alloc hbel1.size _).trans (hup.below_own (by have := hbel1.size; simp; omega) (World.ownsRow.alloc hL1 _))
                  have hsn := OSl.snoc (s := ⟨k, (b1 + 1), 0, t1⟩) hv2
                  go_wp2
                  go_roundw
                  case rel => exact ⟨(b1 + 1), t1, (t1 - t1), L1 ++ [⟨k, (b1 + 1), 0, t1⟩], rfl, by first | rfl | exact int_eq (by omega), by first | rfl | exact int_eq (by omega), by omega, hbn, HT0.out.2.2.2.1, HT0.out.2.2.2.2, HT0.out.1, HT0.out.2.1, hsn, hbel1.trans hb2, by simpa using hLl2, Lib.hid HST.out.1, Lib.hid HST.out.2, Lib.hid (by have := HL2.out; simpa using this)⟩
                  case measure => have := HT0.out; simp [intOf]; omega
              · have haE2 : a1 < E := by omega
                have hq : ((a1 : Int) == E) = false := by simp; exact haE1
                clear haE1
                have hst := seg_one (i := (k : Int)) (b := b1) (a := a1) (t := t1) (u := u) (A := segAll E 0 0 l) (L := L1) (R := R) hE1 ha0 haE2 htp HU1.out HF1.out
                have hbn : b1 ≤ 400000 := hb11
                have hlen1 : (L1.length : Int) + 1 ≤ b1 * E + (a1 + min t1 (E - a1)) := by have := HLn1.out; omega
                have hLl2 : (L1.length : Int) + 1 ≤ 400000 := by have := hst.2; omega
                by_cases hmin : E - a1 < t1
                · have ht0E : 0 ≤ E := he0
                  have e1 : a1 + min t1 (E - a1) = (a1 + (E - a1)) := by omega
                  have e2 : t1 - min t1 (E - a1) = (t1 - (E - a1)) := by omega
                  rw [e1, e2] at hst
                  rw [e1] at hlen1
                  have HST := Lib.hid hst
                  have HL2 := Lib.hid hlen1
                  have hT0 : 0 ≤ (t1 - (E - a1)) ∧ (t1 - (E - a1)) ≤ 10000 ∧ (t1 - (E - a1)) < t1 ∧ 0 ≤ (a1 + (E - a1)) ∧ (a1 + (E - a1)) ≤ E := by omega
                  have HT0 := Lib.hid hT0
                  clear hst hlen1 e1 e2 hT0
                  go_wp2_with (at_builtin; refine Hid.out ?_)
                  refine wpList_app T33 rfl _ _ rfl rfl (World.ownsRow.alloc hL1 _) rfl (reads_new wr _ 40 _ 1 4 _ rfl rfl) (by simp [Value.oneCell']) ?_ ?_ ?_ ?_
                  · omega
                  · omega
                  · have := hbel1.size; simp; omega
                  intro v2 w2 hv2 hup
                  have hb2 : Below w.heap.size wr w2 := ((Below.refl _ _).alloc hbel1.size _).trans (hup.below_own (by have := hbel1.size; simp; omega) (World.ownsRow.alloc hL1 _))
                  have hsn := OSl.snoc (s := ⟨k, b1, a1, (a1 + (E - a1))⟩) hv2
                  go_wp2
                  go_roundw
                  case rel => exact ⟨b1, (a1 + (E - a1)), (t1 - (E - a1)), L1 ++ [⟨k, b1, a1, (a1 + (E - a1))⟩], rfl, by first | rfl | exact int_eq (by omega), by first | rfl | exact int_eq (by omega), by omega, hbn, HT0.out.2.2.2.1, HT0.out.2.2.2.2, HT0.out.1, HT0.out.2.1, hsn, hbel1.trans hb2, by simpa using hLl2, Lib.hid HST.out.1, Lib.hid HST.out.2, Lib.hid (by have := HL2.out; simpa using this)⟩
                  case measure => have := HT0.out; simp [intOf]; omega
                · have ht0E : 0 ≤ E := he0
                  have e1 : a1 + min t1 (E - a1) = (a1 + t1) := by omega
                  have e2 : t1 - min t1 (E - a1) = (t1 - t1) := by omega
                  rw [e1, e2] at hst
                  rw [e1] at hlen1
                  have HST := Lib.hid hst
                  have HL2 := Lib.hid hlen1
                  have hT0 : 0 ≤ (t1 - t1) ∧ (t1 - t1) ≤ 10000 ∧ (t1 - t1) < t1 ∧ 0 ≤ (a1 + t1) ∧ (a1 + t1) ≤ E := by omega
                  have HT0 := Lib.hid hT0
                  clear hst hlen1 e1 e2 hT0
                  go_wp2_with (at_builtin; refine Hid.out ?_)
                  refine wpList_app T33 rfl _ _ rfl rfl (World.ownsRow.alloc hL1 _) rfl (reads_new wr _ 40 _ 1 4 _ rfl rfl) (by simp [Value.oneCell']) ?_ ?_ ?_ ?_
                  · omega
                  · omega
                  · have := hbel1.size; simp; omega
                  intro v2 w2 hv2 hup
                  have hb2 : Below w.heap.size wr w2 := ((Below.refl _ _).alloc hbel1.size _).trans (hup.below_own (by have := hbel1.size; simp; omega) (World.ownsRow.alloc hL1 _))
                  have hsn := OSl.snoc (s := ⟨k, b1, a1, (a1 + t1)⟩) hv2
                  go_wp2
                  go_roundw
                  case rel => exact ⟨b1, (a1 + t1), (t1 - t1), L1 ++ [⟨k, b1, a1, (a1 + t1)⟩], rfl, by first | rfl | exact int_eq (by omega), by first | rfl | exact int_eq (by omega), by omega, hbn, HT0.out.2.2.2.1, HT0.out.2.2.2.2, HT0.out.1, HT0.out.2.1, hsn, hbel1.trans hb2, by simpa using hLl2, Lib.hid HST.out.1, Lib.hid HST.out.2, Lib.hid (by have := HL2.out; simpa using this)⟩
                  case measure => have := HT0.out; simp [intOf]; omega
            · have htz : t1 = 0 := by omega
              subst htz
              go_wp2
              go_roundw
              case rel => exact ⟨k + 1, b1, a1, L1, by omega, by go_num, rfl, rfl, hb10, ha0, ha1, hL1, hbel1, hLl1, Lib.hid (by
                  have h1 := HF1.out; have h2 := HU1.out
                  rw [segs_end (by omega), ← HR.out, show u = b1 * E + a1 by omega] at h1
                  simpa using h1), Lib.hid (by have h2 := HU1.out; have h3 := HT2.out; omega), HLn1⟩
              case measure => simp [intOf]; omega
        · go_wp2
          go_ret2
          have hkn : k = n := by omega
          subst hkn
          refine ⟨_, rfl, ?_, hbel⟩
          have := HF.out
          rw [List.drop_eq_nil_of_le (by rw [HL.out]; exact Nat.le_refl _)] at this
          simp only [segAll, List.append_nil] at this
          rw [this]; exact hL
end Go.Proofs.Ytmomjannlnafcaa
