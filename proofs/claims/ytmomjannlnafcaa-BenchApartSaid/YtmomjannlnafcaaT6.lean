import Derived.Test.YtmomjannlnafcaaT5
import Derived.Test.YtmomjannlnafcaaAw
import Derived.BigQuiet
namespace Go.Proofs.Ytmomjannlnafcaa
open Go.RowKit
/-- '.slice A n _' reads as the slices L. -/
def RSl (w : World) (B : Nat) (A : Option Addr) (n : Nat) (L : List Sl) : Prop := Reads w B 4 A n (L.flatMap slc)
theorem slc_len (s : Sl) : (slc s).length = 4 := rfl
theorem slcs_len (L : List Sl) : (L.flatMap slc).length = L.length * 4 := by
  induction L with
  | nil => rfl
  | cons s L ih => rw [List.flatMap_cons, List.length_append, ih, slc_len, List.length_cons]; omega
theorem slcs_at : ∀ (L : List Sl) (k j : Nat) (hk : k < L.length), j < 4 → (L.flatMap slc)[k * 4 + j]? = (slc L[k])[j]?
  | s :: L, 0, j, _, hj => by
    rw [List.flatMap_cons, List.getElem?_append_left (by rw [slc_len]; omega)]
    simp
  | s :: L, k + 1, j, hk, hj => by
    rw [List.flatMap_cons, List.getElem?_append_right (by rw [slc_len]; omega), slc_len, show (k + 1) * 4 + j - 4 = k * 4 + j by omega,
      slcs_at L k j (by simpa using hk) hj]
    simp
theorem RSl.len {w : World} {B n : Nat} {A : Option Addr} {L : List Sl} (h : RSl w B A n L) : L.length = n := by
  have := h.1; rw [slcs_len] at this; omega
theorem RSl.at_ {w : World} {B n : Nat} {A : Option Addr} {L : List Sl} (h : RSl w B A n L) {k : Nat} (hk : k < L.length) :
    ∃ ad, A = some ad ∧ ad.block < B ∧ w.cell? (ad.add (k * 4)) = some (.int .i64 L[k].job) ∧ w.cell? ⟨(ad.add (k * 4)).block, (ad.add (k * 4)).off + 1, none⟩ = some (.int .i64 L[k].bench) ∧
      w.cell? ⟨(ad.add (k * 4)).block, (ad.add (k * 4)).off + 2, none⟩ = some (.int .i64 L[k].fr) ∧ w.cell? ⟨(ad.add (k * 4)).block, (ad.add (k * 4)).off + 3, none⟩ = some (.int .i64 L[k].to) := by
  obtain ⟨ad, e, hb, hc⟩ := h.2 (by have := h.len; omega)
  exact ⟨ad, e, hb, by have := hc (k * 4 + 0) _ (slcs_at L k 0 hk (by omega)); simpa [slc, I64] using this,
    cell_at (hc (k * 4 + 1) _ (slcs_at L k 1 hk (by omega))) (by omega), cell_at (hc (k * 4 + 2) _ (slcs_at L k 2 hk (by omega))) (by omega), cell_at (hc (k * 4 + 3) _ (slcs_at L k 3 hk (by omega))) (by omega)⟩
theorem RSl.below {w w' : World} {B B' n : Nat} {A : Option Addr} {L : List Sl} (h : RSl w B A n L) (hb : Below B' w w') (hB : B ≤ B') : RSl w' B A n L := Reads.below h (hb.mono hB)
theorem own_RSl {w : World} {base e : Nat} {v : Value} {L : List Sl} (h : w.ownsRow base e 4 v L.length (L.flatMap slc)) :
    ∃ A c, v = .slice A L.length c ∧ L.length ≤ maxLen ∧ RSl w w.heap.size A L.length L := by
  have hs : ∃ A c, v = .slice A L.length c ∧ L.length ≤ maxLen := by
    rcases h.2 with ⟨rfl, h0⟩ | ⟨g, cap, cur, rfl, _, _, hn, hm, _⟩
    · exact ⟨none, 0, by rw [h0], by omega⟩
    · exact ⟨_, _, rfl, by omega⟩
  obtain ⟨A, c, rfl, hm⟩ := hs
  exact ⟨A, c, rfl, hm, Reads.of_own h⟩
set_option maxHeartbeats 1000000 in
theorem wrap_law (B : Nat) (A : Option Addr) (n c : Nat) (l : List Int) (m : Int) (w : World) (hr : RI w B A n l) (hB : B ≤ w.heap.size) (hn : n ≤ maxLen) :
    Calls Try.prog 4 #[.slice A n c, .int .i64 m] w fun e w' => e = .returned (.bool true) ∧ Below w.heap.size w w' := by
  cases h : likeB l m with
  | false =>
    go_enter Try.func4, Try.ntmps4
    go_wp2_with fail
    refine (wrap_no B A n c l m _ hr hn h).mono ?_
    rintro e w' ⟨rfl, rfl⟩
    go_wp2_with fail
    refine (rwrap_no B A n c l m _ hr hn h).mono ?_
    rintro e w' ⟨rfl, rfl⟩
    go_wp2_with fail
    go_loopw [37] (fun i wr => ∃ (k : Nat), i = .int .i64 k ∧ k = 0 ∧ Below w.heap.size w wr) (fun i _ => 0)
    case atStart => exact ⟨0, rfl, rfl, Below.refl _ _⟩
    case round =>
      obtain ⟨k, rfl, hk, hb⟩ := hrel
      subst hk
      go_wp2_with fail
      refine (awake_any _).mono ?_
      rintro e w3 ⟨rfl, hb3⟩
      go_wp2
      go_ret
      exact ⟨rfl, hb.trans (hb3.mono hb.size)⟩
  | true =>
    go_enter Try.func4, Try.ntmps4
    go_wp2_with fail
    refine (wrap_yes B A n c l m _ hr hB hn h).mono ?_
    rintro e w1 ⟨v1, rfl, ho1, hb1⟩
    obtain ⟨A1, c1, rfl, hm1, hR1⟩ := own_RSl ho1
    clear ho1
    go_wp2_with fail
    refine (rwrap_yes B A n c l m _ (hr.below hb1 hB) (by have := hb1.size; omega) hn h).mono ?_
    rintro e w2 ⟨v2, x, rfl, ho2, hb2⟩
    obtain ⟨A2, c2, rfl, _, hR2⟩ := own_RSl ho2
    clear ho2
    have hR1 := hR1.below hb2 (Nat.le_refl _)
    have hB1 := hb2.size
    have hb12 := hb1.trans (hb2.mono hb1.size)
    generalize hLL : segAll (endOf l m) 0 0 l = L at *
    have hgl : L.length = L.length := rfl
    generalize hN : L.length = N at *
    unfold maxLen at hm1
    clear hr hB hn h hLL hb1 hb2 hgl
    go_wp2_with fail
    go_loopw [37] (fun i wr => ∃ (k : Nat), k ≤ N ∧ i = .int .i64 k ∧ Below w.heap.size w wr ∧ Below w2.heap.size w2 wr) (fun i _ => N - (intOf i).toNat)
    case atStart => exact ⟨0, Nat.zero_le _, rfl, hb12, Below.refl _ _⟩
    case round =>
      clear hb12
      obtain ⟨k, hk, rfl, hb, hb2⟩ := hrel
      by_cases hlt : k < N
      · obtain ⟨a1, rfl, ha1, p0, p1, p2, p3⟩ := (hR1.below hb2 (by omega)).at_ (k := k) (by omega)
        obtain ⟨a2, rfl, ha2, q0, q1, q2, q3⟩ := (hR2.below hb2 (by omega)).at_ (k := k) (by omega)
        generalize L[k]'(by omega) = s at *
        obtain ⟨j, b, f, t⟩ := s
        dsimp only at p0 p1 p2 p3 q0 q1 q2 q3
        have hlw : a2.block < wr.heap.size := by have := hb2.size; omega
        have hN63 : (k : Int) < (N : Int) := by omega
        obtain ⟨wa, hwa⟩ : ∃ wa, wa = wr.alloc (.cells #[.int .i64 j, .int .i64 b, .int .i64 f, .int .i64 t] 40) := ⟨_, rfl⟩
        have hbk : Blk wa wr.heap.size 40 #[.int .i64 j, .int .i64 b, .int .i64 f, .int .i64 t] := by rw [hwa]; exact Blk.new _ _ _
        have r0 : wa.cell? ⟨wr.heap.size, 0, none⟩ = some (.int .i64 j) := hbk.cell 0
        have r1 : wa.cell? ⟨wr.heap.size, 1, none⟩ = some (.int .i64 b) := hbk.cell 1
        have r2 : wa.cell? ⟨wr.heap.size, 2, none⟩ = some (.int .i64 f) := hbk.cell 2
        have r3 : wa.cell? ⟨wr.heap.size, 3, none⟩ = some (.int .i64 t) := hbk.cell 3
        have s0 : wa.cell? (a2.add (k * 4)) = some (.int .i64 j) := by rw [hwa, World.cell?_alloc_lt _ _ _ (by rw [block_of_add]; exact hlw)]; exact q0
        have s1 : wa.cell? ⟨(a2.add (k * 4)).block, (a2.add (k * 4)).off + 1, none⟩ = some (.int .i64 b) := by rw [hwa, World.cell?_alloc_lt _ _ _ (by rw [block_of_add]; exact hlw)]; exact q1
        have s2 : wa.cell? ⟨(a2.add (k * 4)).block, (a2.add (k * 4)).off + 2, none⟩ = some (.int .i64 f) := by rw [hwa, World.cell?_alloc_lt _ _ _ (by rw [block_of_add]; exact hlw)]; exact q2
        have s3 : wa.cell? ⟨(a2.add (k * 4)).block, (a2.add (k * 4)).off + 3, none⟩ = some (.int .i64 t) := by rw [hwa, World.cell?_alloc_lt _ _ _ (by rw [block_of_add]; exact hlw)]; exact q3
        have hba : Below w.heap.size w wa := by rw [hwa]; exact hb.alloc hb.size _
        have hba2 : Below w2.heap.size w2 wa := by rw [hwa]; exact hb2.alloc hb2.size _
        have e0 : (j != j) = false := by simp
        have e1 : (b != b) = false := by simp
        have e2 : (f != f) = false := by simp
        have e3 : (t != t) = false := by simp
        clear hbk hN q0 q1 q2 q3
        go_wp2_with fail
        rw [← hwa]
        clear hwa p0 p1 p2 p3
        clear hR1 hR2 hb hb2
        go_quiet (fail)
        have hba := Below.trans hba (Below.drawN _ wa nq)
        have hba2 := Below.trans hba2 (Below.drawN _ wa nq)
        go_wp2
        go_roundw
        case rel => exact ⟨k + 1, by omega, by go_num, hba, hba2⟩
        case measure => simp [intOf]; omega
      · go_wp2_with fail
        refine (awake_any _).mono ?_
        rintro e w3 ⟨rfl, hb3⟩
        go_wp2
        go_ret
        exact ⟨rfl, hb.trans (hb3.mono hb.size)⟩
end Go.Proofs.Ytmomjannlnafcaa
