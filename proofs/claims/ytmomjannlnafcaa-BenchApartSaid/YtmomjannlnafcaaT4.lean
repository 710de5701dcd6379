import Derived.Test.YtmomjannlnafcaaT2
namespace Go.Proofs.Ytmomjannlnafcaa
open Go.RowKit
theorem Times_any (B : Nat) (A : Option Addr) (n c : Nat) (l : List Int) (m : Int) (w : World) (hr : RI w B A n l) (hn : n ≤ maxLen) :
    Calls Try.prog 27 #[.slice A n c, .int .i64 m] w fun e w' => e = .returned (.bool (likeB l m)) ∧ w = w' := by
  have hlen := hr.len
  unfold maxLen at hn
  by_cases h1 : n ≤ 40
  · by_cases h2 : 1 ≤ m
    · by_cases h3 : m ≤ 8
      · have e : likeB l m = l.all okT := by unfold likeB; simp [h2, h3, hlen, h1]
        rw [e]; clear e
        have HL := Lib.hid hlen; clear hlen
        go_enter Try.func27, Try.ntmps27
        go_wp2
        go_loop [20] (fun u => ∃ k : Nat, k ≤ n ∧ u = .int .i64 k ∧ RowKit.Hid ((l.take k).all okT = true)) (fun u => n - (intOf u).toNat)
        case atStart => exact ⟨0, Nat.zero_le _, rfl, Lib.hid rfl⟩
        case round =>
          obtain ⟨k, hk, rfl, HF⟩ := hrel
          by_cases hlt : k < n
          · obtain ⟨ad, rfl, _, hc⟩ := hr.at_ (k := k) (by rw [HL.out]; exact hlt)
            have hts : l.take (k + 1) = l.take k ++ [l[k]'(by rw [HL.out]; exact hlt)] := List.take_succ_eq_append_getElem (by rw [HL.out]; exact hlt)
            have HM := Lib.hid (show l[k]'(by rw [HL.out]; exact hlt) ∈ l from List.getElem_mem _)
            have HTS := Lib.hid hts
            clear hts
            generalize l[k]'(by rw [HL.out]; exact hlt) = x at *
            by_cases hx1 : x < 1
            · go_wp2
              go_ret
              refine ⟨ret_bool ?_, rfl⟩
              symm
              rw [Bool.eq_false_iff]
              intro h
              have := List.all_eq_true.1 h x HM.out
              unfold okT at this
              simp at this
              omega
            · by_cases hx2 : 10000 < x
              · go_wp2
                go_ret
                refine ⟨ret_bool ?_, rfl⟩
                symm
                rw [Bool.eq_false_iff]
                intro h
                have := List.all_eq_true.1 h x HM.out
                unfold okT at this
                simp at this
                omega
              · go_wp2
                go_round
                case rel => exact ⟨k + 1, by omega, by go_num, Lib.hid (by rw [HTS.out, List.all_append, HF.out]; simp [okT]; omega)⟩
                case measure => simp [intOf]; omega
          · go_wp2
            go_ret
            refine ⟨ret_bool ?_, rfl⟩
            have := HF.out
            rw [List.take_of_length_le (by rw [HL.out]; omega)] at this
            exact this.symm
      · have e : likeB l m = false := by unfold likeB; simp [h3]
        rw [e]; clear e
        have HL := Lib.hid hlen; clear hlen
        go_enter Try.func27, Try.ntmps27
        go_wp2
        go_ret
        exact ⟨rfl, rfl⟩
    · have e : likeB l m = false := by unfold likeB; simp [h2]
      rw [e]; clear e
      have HL := Lib.hid hlen; clear hlen
      go_enter Try.func27, Try.ntmps27
      go_wp2
      go_ret
      exact ⟨rfl, rfl⟩
  · have e : likeB l m = false := by unfold likeB; simp; omega
    rw [e]; clear e
    have HL := Lib.hid hlen; clear hlen
    go_enter Try.func27, Try.ntmps27
    go_wp2
    go_ret
    exact ⟨rfl, rfl⟩
/-! ### the reference's Wrap -/
def OSr (w : World) (base : Nat) (v : Value) (L : List Sl) : Prop := w.ownsRow base 41 4 v L.length (L.flatMap slc)
theorem info41 : (Try.prog.info? 41).map (fun i => (i.zero, i.size, i.bytes)) = some (some (.agg #[.int .i64 0, .int .i64 0, .int .i64 0, .int .i64 0]), 4, 32) := by kernel_rfl
theorem T36 : SlT 36 41 4 32 (.agg #[.int .i64 0, .int .i64 0, .int .i64 0, .int .i64 0]) := .mk' Try.underlying36 info41 rfl (by omega)
theorem OSr.nil (w : World) (base : Nat) : OSr w base (.slice none 0 0) [] := World.ownsRow_nil _ _ _ _
theorem OSr.snoc {w : World} {base : Nat} {v : Value} {L : List Sl} {s : Sl} (h : w.ownsRow base 41 4 v (L.length + 1) (L.flatMap slc ++ [I64 s.job, I64 s.bench, I64 s.fr, I64 s.to])) : OSr w base v (L ++ [s]) := by
  unfold OSr
  rw [List.length_append, List.flatMap_append]
  simpa [slc] using h
theorem foldl_max : ∀ (l : List Int) (a b : Int), l.foldl max (max a b) = max a (l.foldl max b)
  | [], _, _ => rfl
  | y :: l, a, b => by
    simp only [List.foldl_cons]
    rw [show max (max a b) y = max a (max b y) by omega, foldl_max l a]
theorem endOf_max {l : List Int} {m : Int} (h : 0 ≤ (total l + m - 1) / m) : max (l.foldl max 0) ((total l + m - 1) / m) = endOf l m := by
  unfold endOf
  have := foldl_max l ((total l + m - 1) / m) 0
  rw [show max ((total l + m - 1) / m) 0 = (total l + m - 1) / m by omega] at this
  rw [this]; omega
theorem rwrap_no (B : Nat) (A : Option Addr) (n c : Nat) (l : List Int) (m : Int) (w : World) (hr : RI w B A n l) (hn : n ≤ maxLen) (h : likeB l m = false) :
    Calls Try.prog 26 #[.slice A n c, .int .i64 m] w fun e w' => e = .returned (.tuple #[.slice none 0 0, .int .i64 0, .int .i64 2]) ∧ w = w' := by
  have HB := Lib.hid h; clear h
  go_enter Try.func26, Try.ntmps26
  go_wp2_with fail
  refine (Times_any B A n c l m _ hr hn).mono ?_
  rw [HB.out]
  rintro e w' ⟨rfl, rfl⟩
  go_wp2
  go_ret3
  exact ⟨rfl, rfl⟩
theorem prod_bd {E a u : Int} (hE : 1 ≤ E) (hE2 : E ≤ 400007) (ha : 0 ≤ a) (hau : a < u) (hu : u ≤ 400000) :
    0 ≤ a / E ∧ a / E ≤ a ∧ 0 ≤ a / E * E ∧ a / E * E ≤ a ∧ a < (a / E + 1) * E ∧ (a / E + 1) * E ≤ 900000 ∧ (a / E + 1) * E = a / E * E + E := by
  have h1 := Int.emod_add_mul_ediv a E
  have h2 := Int.emod_lt_of_pos a (show 0 < E by omega)
  have h3 := Int.emod_nonneg a (show E ≠ 0 by omega)
  have h4 : 0 ≤ a / E := Int.ediv_nonneg ha (by omega)
  have h5 : E * (a / E) = a / E * E := Int.mul_comm _ _
  have h6 : (a / E + 1) * E = a / E * E + E := by rw [Int.add_mul, Int.one_mul]
  have h7 : 0 ≤ a / E * E := Int.mul_nonneg h4 (by omega)
  have h8 := Int.ediv_le_self E ha
  refine ⟨h4, h8, h7, ?_, ?_, ?_, h6⟩ <;> omega
end Go.Proofs.Ytmomjannlnafcaa
