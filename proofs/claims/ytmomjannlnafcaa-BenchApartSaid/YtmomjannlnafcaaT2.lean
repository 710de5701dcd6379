import Derived.Test.YtmomjannlnafcaaT1
namespace Go.Proofs.Ytmomjannlnafcaa
open Go.RowKit
def slc (s : Sl) : List Value := [I64 s.job, I64 s.bench, I64 s.fr, I64 s.to]
def OSl (w : World) (base : Nat) (v : Value) (L : List Sl) : Prop := w.ownsRow base 40 4 v L.length (L.flatMap slc)
theorem info40 : (Try.prog.info? 40).map (fun i => (i.zero, i.size, i.bytes)) = some (some (.agg #[.int .i64 0, .int .i64 0, .int .i64 0, .int .i64 0]), 4, 32) := by kernel_rfl
theorem T33 : SlT 33 40 4 32 (.agg #[.int .i64 0, .int .i64 0, .int .i64 0, .int .i64 0]) := .mk' Try.underlying33 info40 rfl (by omega)
theorem OSl.nil (w : World) (base : Nat) : OSl w base (.slice none 0 0) [] := World.ownsRow_nil _ _ _ _
theorem OSl.snoc {w : World} {base : Nat} {v : Value} {L : List Sl} {s : Sl} (h : w.ownsRow base 40 4 v (L.length + 1) (L.flatMap slc ++ [I64 s.job, I64 s.bench, I64 s.fr, I64 s.to])) : OSl w base v (L ++ [s]) := by
  unfold OSl
  rw [List.length_append, List.flatMap_append]
  simpa [slc] using h
theorem wrap_no (B : Nat) (A : Option Addr) (n c : Nat) (l : List Int) (m : Int) (w : World) (hr : RI w B A n l) (hn : n ≤ maxLen) (h : likeB l m = false) :
    Calls Try.prog 25 #[.slice A n c, .int .i64 m] w fun e w' => e = .returned (.tuple #[.slice none 0 0, .int .i64 2]) ∧ w = w' := by
  have HB := Lib.hid h; clear h
  go_enter Try.func25, Try.ntmps25
  go_wp2_with fail
  refine (like_any B A n c l m _ hr hn).mono ?_
  rw [HB.out]
  rintro e w' ⟨rfl, rfl⟩
  go_wp2
  go_ret2
  exact ⟨rfl, rfl⟩
def endOf (l : List Int) (m : Int) : Int := l.foldl max ((total l + m - 1) / m)
theorem foldl_take {l : List Int} {k : Nat} (a : Int) (hk : k < l.length) : (l.take (k + 1)).foldl max a = max ((l.take k).foldl max a) l[k] := by
  rw [List.take_succ_eq_append_getElem hk, List.foldl_append]; rfl
theorem foldl_ge : ∀ (l : List Int) (a : Int), a ≤ l.foldl max a ∧ ∀ x ∈ l, x ≤ l.foldl max a
  | [], a => ⟨Int.le_refl _, fun _ h => by cases h⟩
  | y :: l, a => by
    have h := foldl_ge l (max a y)
    simp only [List.foldl_cons]
    refine ⟨by omega, fun x hx => ?_⟩
    rcases List.mem_cons.1 hx with rfl | hx
    · omega
    · exact h.2 x hx
theorem foldl_le : ∀ (l : List Int) (a c : Int), a ≤ c → (∀ x ∈ l, x ≤ c) → l.foldl max a ≤ c
  | [], a, c, h, _ => h
  | y :: l, a, c, h, hl => foldl_le l _ c (by have := hl y (List.mem_cons_self ..); omega) fun x hx => hl x (List.mem_cons_of_mem _ hx)
theorem seg_one {E i b a t u : Int} {A L R : List Sl} (he : 1 ≤ E) (h0 : 0 ≤ a) (h1 : a < E) (ht : 0 < t) (hu : b * E + a + t = u) (h : A = L ++ segs E i (b * E + a) u ++ R) :
    A = (L ++ [⟨i, b, a, a + min t (E - a)⟩]) ++ segs E i (b * E + (a + min t (E - a))) u ++ R ∧ b * E + (a + min t (E - a)) + (t - min t (E - a)) = u := by
  have hs := segs_at (i := i) (b := b) he h0 h1 ht
  have e2 : b * E + (a + min t (E - a)) + (t - min t (E - a)) = u := by omega
  rw [e2, hu] at hs
  rw [hs] at h
  exact ⟨by simpa using h, e2⟩
theorem b_le {E b a s : Int} (he : 1 ≤ E) (hb : 0 ≤ b) (h0 : 0 ≤ a) (h : b * E + a ≤ s) : b ≤ s := by
  have : b * 1 ≤ b * E := Int.mul_le_mul_of_nonneg_left he hb
  omega
end Go.Proofs.Ytmomjannlnafcaa
