import Derived.Test.YtmomjannlnafcaaLib
import Derived.Test.YtmomjannlnafcaaWrap
namespace Go.Proofs.Ytmomjannlnafcaa
open Go.RowKit
def okT (t : Int) : Bool := decide (1 ≤ t) && decide (t ≤ 10000)
theorem like1_any (t : Int) (w : World) : Calls Try.prog 104 #[.int .i64 t] w fun e w' => e = .returned (.bool (!okT t)) ∧ w = w' := by
  by_cases h1 : t < 1
  · have e : (!okT t) = true := by unfold okT; simp; omega
    rw [e]; clear e
    go_enter Try.func104, Try.ntmps104
    go_wp2
    go_ret
    exact ⟨rfl, rfl⟩
  · by_cases h2 : 10000 < t
    · have e : (!okT t) = true := by unfold okT; simp; omega
      rw [e]; clear e
      go_enter Try.func104, Try.ntmps104
      go_wp2
      go_ret
      exact ⟨rfl, rfl⟩
    · have e : (!okT t) = false := by unfold okT; simp; omega
      rw [e]; clear e
      go_enter Try.func104, Try.ntmps104
      go_wp2
      go_ret
      exact ⟨rfl, rfl⟩
theorem id_any (t : Int) (w : World) : Calls Try.prog 72 #[.int .i64 t] w fun e w' => e = .returned (.int .i64 t) ∧ w = w' := by
  go_enter Try.func72, Try.ntmps72
  go_wp2
  go_ret
  exact ⟨rfl, rfl⟩
/-- The first time that is not valid; -1 if there is none. -/
def fb : Int → List Int → Int
  | _, [] => -1
  | i, t :: l => if okT t then fb (i + 1) l else i
theorem fb_drop {l : List Int} {k : Nat} (hk : k < l.length) : fb k (l.drop k) = if okT l[k] then fb ((k : Int) + 1) (l.drop (k + 1)) else k := by
  rw [List.drop_eq_getElem_cons hk]; rfl
theorem IndexFunc_any (B : Nat) (A : Option Addr) (n c : Nat) (l : List Int) (w : World) (hr : RI w B A n l) (hn : n ≤ maxLen) :
    Calls Try.prog 108 #[.slice A n c, .func (.func 104) #[] #[]] w fun e w' => e = .returned (.int .i64 (fb 0 l)) ∧ w = w' := by
  unfold maxLen at hn
  have hlen := hr.len
  have HL := Lib.hid hlen; clear hlen
  go_enter Try.func108, Try.ntmps108
  go_wp2
  go_loop [8] (fun u => ∃ k : Nat, k ≤ n ∧ u = .int .i64 k ∧ RowKit.Hid (fb 0 l = fb k (l.drop k))) (fun u => n - (intOf u).toNat)
  case atStart => exact ⟨0, Nat.zero_le _, rfl, rfl⟩
  case round =>
    obtain ⟨k, hk, rfl, HF⟩ := hrel
    by_cases hlt : k < n
    · obtain ⟨ad, rfl, _, hc⟩ := hr.at_ (k := k) (by rw [HL.out]; exact hlt)
      have HD := Lib.hid (fb_drop (l := l) (k := k) (by rw [HL.out]; exact hlt))
      generalize hx : l[k]'(by rw [HL.out]; exact hlt) = x at *
      clear hx
      cases hok : okT x with
      | true =>
        go_wp2_with (go_at_call 104; refine (like1_any _ _).mono ?_; rintro e w' ⟨rfl, rfl⟩)
        go_round
        case rel => exact ⟨k + 1, by omega, by go_num, by have h1 := HF.out; have h2 := HD.out; rw [hok] at h2; exact Lib.hid (by rw [h1, h2]; simp)⟩
        case measure => simp [intOf]; omega
      | false =>
        go_wp2_with (go_at_call 104; refine (like1_any _ _).mono ?_; rintro e w' ⟨rfl, rfl⟩)
        go_ret
        exact ⟨ret_int (by unfold RowKit.Hid at HF; rw [HF, HD.out, hok]; simp), rfl⟩
    · have hkn : k = n := by omega
      go_wp2
      go_ret
      refine ⟨ret_int ?_, rfl⟩
      unfold RowKit.Hid at HF
      rw [HF, List.drop_eq_nil_of_le (by rw [HL.out]; omega)]
      rfl
theorem fb_ge : ∀ (l : List Int) (i : Int), 0 ≤ i → (decide (0 ≤ fb i l) = !l.all okT)
  | [], i, _ => by simp [fb]
  | t :: l, i, hi => by
    unfold fb
    cases h : okT t with
    | true => simp only [if_true, List.all_cons, h, Bool.true_and]; exact fb_ge l (i + 1) (by omega)
    | false => simp [h, hi]
theorem ContainsFunc_any (B : Nat) (A : Option Addr) (n c : Nat) (l : List Int) (w : World) (hr : RI w B A n l) (hn : n ≤ maxLen) :
    Calls Try.prog 94 #[.slice A n c, .func (.func 104) #[] #[]] w fun e w' => e = .returned (.bool (!l.all okT)) ∧ w = w' := by
  have h := fb_ge l 0 (Int.le_refl _)
  generalize hx : fb 0 l = x at h
  have HX := Lib.hid hx; clear hx
  generalize hy : (!l.all okT) = y at *
  have HY := Lib.hid hy; clear hy
  go_enter Try.func94, Try.ntmps94
  go_wp2_with (go_at_call 108; refine (IndexFunc_any B A n c l _ hr hn).mono ?_; rintro e w' ⟨rfl, rfl⟩)
  go_ret
  exact ⟨ret_bool (by rw [HX.out]; exact h), rfl⟩
def likeB (l : List Int) (m : Int) : Bool := decide (l.length ≤ 40) && decide (1 ≤ m) && decide (m ≤ 8) && l.all okT
theorem like_any (B : Nat) (A : Option Addr) (n c : Nat) (l : List Int) (m : Int) (w : World) (hr : RI w B A n l) (hn : n ≤ maxLen) :
    Calls Try.prog 70 #[.slice A n c, .int .i64 m] w fun e w' => e = .returned (.bool (likeB l m)) ∧ w = w' := by
  have hlen := hr.len
  have hcf := fun w (h : RI w B A n l) => ContainsFunc_any B A n c l w h hn
  unfold maxLen at hn
  by_cases h1 : n ≤ 40
  · by_cases h2 : 1 ≤ m
    · by_cases h3 : m ≤ 8
      · have e : likeB l m = !(!l.all okT) := by unfold likeB; simp [h2, h3, hlen, h1]
        rw [e]; clear e
        generalize (!l.all okT) = y at *
        have HL := Lib.hid hlen; clear hlen
        go_enter Try.func70, Try.ntmps70
        go_wp2_with (go_at_call 94; refine (hcf _ hr).mono ?_; rintro e w' ⟨rfl, rfl⟩)
        go_ret
        exact ⟨rfl, rfl⟩
      · have e : likeB l m = false := by unfold likeB; simp [h3]
        rw [e]; clear e hcf
        have HL := Lib.hid hlen; clear hlen
        go_enter Try.func70, Try.ntmps70
        go_wp2
        go_ret
        exact ⟨rfl, rfl⟩
    · have e : likeB l m = false := by unfold likeB; simp [h2]
      rw [e]; clear e hcf
      have HL := Lib.hid hlen; clear hlen
      go_enter Try.func70, Try.ntmps70
      go_wp2
      go_ret
      exact ⟨rfl, rfl⟩
  · have e : likeB l m = false := by unfold likeB; simp; omega
    rw [e]; clear e hcf
    have HL := Lib.hid hlen; clear hlen
    go_enter Try.func70, Try.ntmps70
    go_wp2
    go_ret
    exact ⟨rfl, rfl⟩
theorem total_take {l : List Int} {k : Nat} (hk : k < l.length) : total (l.take (k + 1)) = total (l.take k) + l[k] := by
  rw [List.take_succ_eq_append_getElem hk]
  unfold total
  generalize l.take k = p
  induction p with
  | nil => simp
  | cons a p ih => simp only [List.cons_append, List.foldr_cons] at ih ⊢; rw [ih]; omega
theorem total_bd {l : List Int} (h : l.all okT = true) : 0 ≤ total l ∧ total l ≤ 10000 * l.length := by
  induction l with
  | nil => simp [total]
  | cons a l ih =>
    simp only [List.all_cons, Bool.and_eq_true] at h
    have := ih h.2
    have h1 := h.1
    unfold okT at h1
    simp at h1
    simp only [total, List.foldr_cons, List.length_cons] at this ⊢
    omega
theorem sum_any (B : Nat) (A : Option Addr) (n c : Nat) (l : List Int) (w : World) (hr : RI w B A n l) (hn : n ≤ 40) (hok : l.all okT = true) :
    Calls Try.prog 71 #[.slice A n c, .func (.func 72) #[] #[]] w fun e w' => e = .returned (.int .i64 (total l)) ∧ w = w' := by
  have hlen := hr.len
  have HL := Lib.hid hlen; clear hlen
  have HK := Lib.hid hok; clear hok
  go_enter Try.func71, Try.ntmps71
  go_wp2
  go_loop [5, 10] (fun s u => ∃ k : Nat, k ≤ n ∧ u = .int .i64 k ∧ s = .int .i64 (total (l.take k))) (fun _ u => n - (intOf u).toNat)
  case atStart => exact ⟨0, Nat.zero_le _, rfl, rfl⟩
  case round =>
    obtain ⟨k, hk, rfl, rfl⟩ := hrel
    by_cases hlt : k < n
    · obtain ⟨ad, rfl, _, hc⟩ := hr.at_ (k := k) (by rw [HL.out]; exact hlt)
      have HD := Lib.hid (total_take (l := l) (k := k) (by rw [HL.out]; exact hlt))
      have hb1 : 0 ≤ total (l.take k) ∧ total (l.take k) ≤ 10000 * ((l.take k).length : Nat) := total_bd (List.all_eq_true.2 fun x hx => List.all_eq_true.1 HK.out x (List.mem_of_mem_take hx))
      have hb2 : (l.take k).length ≤ k := List.length_take_le _ _
      have hx := List.all_eq_true.1 HK.out (l[k]'(by rw [HL.out]; exact hlt)) (List.getElem_mem _)
      unfold okT at hx
      generalize l[k]'(by rw [HL.out]; exact hlt) = x at *
      generalize total (l.take k) = s at *
      simp at hx
      obtain ⟨hx1, hx2⟩ := hx
      obtain ⟨hb3, hb4⟩ := hb1
      have hs : s ≤ 1000000 := by omega
      clear hb4 hb2
      go_wp2_with (go_at_call 72; refine (id_any _ _).mono ?_; rintro e w' ⟨rfl, rfl⟩)
      go_round
      case rel => exact ⟨k + 1, by omega, by go_num, int_eq HD.out.symm⟩
      case measure => simp [intOf]; omega
    · go_wp2
      go_ret
      refine ⟨ret_int ?_, rfl⟩
      rw [List.take_of_length_le (by rw [HL.out]; omega)]
end Go.Proofs.Ytmomjannlnafcaa
