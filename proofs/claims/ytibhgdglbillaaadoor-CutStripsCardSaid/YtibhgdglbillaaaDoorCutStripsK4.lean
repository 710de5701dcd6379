/- Proved here: what the proof of CutStrips rests on, part 4 of 4. Conditions: those that each theorem names. -/
import Derived.Test.YtibhgdglbillaaaDoorCutStripsK3
namespace Go.Proofs.YtibhgdglbillaaaDoor.Abs
set_option linter.unusedSimpArgs false
set_option linter.unusedVariables false
def upI (n : Nat) : List Int := (List.range n).map (Nat.cast : Nat → Int)
theorem upI_len (n : Nat) : (upI n).length = n := by simp [upI]
theorem upI_nodup (n : Nat) : (upI n).Nodup := by
  unfold upI
  have := List.nodup_range (n := n)
  exact List.Pairwise.map _ (fun a b h e => h (by omega)) this
theorem upI_mem {n : Nat} {x : Int} : x ∈ upI n ↔ 0 ≤ x ∧ x < n := by
  simp only [upI, List.mem_map, List.mem_range]
  constructor
  · rintro ⟨k, hk, rfl⟩; omega
  · rintro ⟨h1, h2⟩; exact ⟨x.toNat, by omega, by omega⟩
theorem lex_to (f h : Int → Int) : TO (fun a b => decide (f a < f b ∨ f a = f b ∧ (h a < h b ∨ h a = h b ∧ a ≤ b))) := by
  refine ⟨fun a b => ?_, fun a b c h1 h2 => ?_, fun a b h1 h2 => ?_⟩
  · simp only [Bool.or_eq_true, decide_eq_true_eq]; omega
  · simp only [decide_eq_true_eq] at *; omega
  · simp only [decide_eq_true_eq] at *; omega
def leL (l : List Int) (a b : Int) : Bool := decide (-(l.getD a.toNat 0) < -(l.getD b.toNat 0) ∨ -(l.getD a.toNat 0) = -(l.getD b.toNat 0) ∧ ((0 : Int) < 0 ∨ (0 : Int) = 0 ∧ a ≤ b))
theorem leL_to (l : List Int) : TO (leL l) := lex_to (fun a => -(l.getD a.toNat 0)) (fun _ => 0)
theorem leL_iff {l : List Int} {a b : Int} : leL l a b = true ↔ l.getD b.toNat 0 < l.getD a.toNat 0 ∨ l.getD b.toNat 0 = l.getD a.toNat 0 ∧ a ≤ b := by
  simp only [leL, decide_eq_true_eq, Int.lt_irrefl, false_or, true_and]; omega
def ordL (l : List Int) : List Int := ms (leL l) (upI l.length)
theorem ordL_len (l : List Int) : (ordL l).length = l.length := by rw [ordL, ms_len, upI_len]
theorem ordL_mem {l : List Int} {x : Int} : x ∈ ordL l ↔ 0 ≤ x ∧ x < l.length := by rw [ordL, ms_mem]; exact upI_mem
theorem ordL_get {l : List Int} {k : Nat} (h : k < l.length) : ∃ i : Nat, (ordL l).getD k 0 = (i : Int) ∧ i < l.length := by
  have : (ordL l).getD k 0 ∈ ordL l := by
    have hk : k < (ordL l).length := by rw [ordL_len]; exact h
    rw [List.getD_eq_getElem?_getD, List.getElem?_eq_getElem hk]; exact List.getElem_mem hk
  obtain ⟨h1, h2⟩ := ordL_mem.1 this
  exact ⟨((ordL l).getD k 0).toNat, by omega, by omega⟩
theorem getD_set (l : List Int) (i j : Nat) (x : Int) (h : i < l.length) : (l.set i x).getD j 0 = if i = j then x else l.getD j 0 := by
  simp only [List.getD_eq_getElem?_getD, List.getElem?_set]
  by_cases e : i = j
  · subst e; simp [h]
  · simp [e]
structure Pick (l : List Int) (mt : List Bool) (i : Nat) (x : Int) : Prop where
  none : x < 0 → x = -1 ∧ ∀ j, j < i → mt.getD j false = true
  some : 0 ≤ x → x < i ∧ mt.getD x.toNat false = false ∧ ∀ j : Nat, j < i → mt.getD j false = false → leL l x j = true
theorem Pick.zero (l : List Int) (mt : List Bool) : Pick l mt 0 (-1) := ⟨fun _ => ⟨rfl, fun j hj => by omega⟩, fun h => by omega⟩
theorem Pick.take {l : List Int} {mt : List Bool} {i : Nat} {x : Int} (h : Pick l mt i x) (hm : mt.getD i false = false) (hx : x < 0 ∨ 0 ≤ x ∧ l.getD x.toNat 0 < l.getD i 0) : Pick l mt (i + 1) i :=
  ⟨fun h' => by omega, fun _ => by
    refine ⟨by omega, by rw [Int.toNat_natCast]; exact hm, fun j hj hjm => ?_⟩
    rcases Nat.lt_succ_iff_lt_or_eq.1 hj with h' | h'
    · rcases hx with hx | ⟨hx, hlt⟩
      · rw [(h.none hx).2 j h'] at hjm; cases hjm
      · have h3 := (h.some hx).2.2 j h' hjm
        rw [leL_iff] at h3 ⊢
        simp only [Int.toNat_natCast] at *
        omega
    · subst h'
      rw [leL_iff]; omega⟩
def oi (l : List Int) (k : Nat) : Nat := ((ordL l).getD k 0).toNat
theorem oi_lt {l : List Int} {k : Nat} (h : k < l.length) : oi l k < l.length ∧ (ordL l).getD k 0 = (oi l k : Nat) := by
  obtain ⟨i, hi, hil⟩ := ordL_get h
  unfold oi
  rw [hi]; exact ⟨by omega, by simp⟩
theorem ordL_nodup (l : List Int) : (ordL l).Nodup := (ms_perm.nodup_iff).2 (upI_nodup l.length)
theorem oi_inj {l : List Int} {i k : Nat} (hi : i < l.length) (hk : k < l.length) (h : oi l i = oi l k) : i = k := by
  have h1 := (oi_lt hi).2
  have h2 := (oi_lt hk).2
  have li : i < (ordL l).length := by rw [ordL_len]; exact hi
  have lk : k < (ordL l).length := by rw [ordL_len]; exact hk
  have : (ordL l)[i] = (ordL l)[k] := by
    have e1 : (ordL l).getD i 0 = (ordL l)[i] := by simp [li]
    have e2 : (ordL l).getD k 0 = (ordL l)[k] := by simp [lk]
    rw [← e1, ← e2, h1, h2, h]
  exact (List.getElem_inj (ordL_nodup l)).1 this
theorem oi_sur {l : List Int} {i : Nat} (h : i < l.length) : ∃ k, k < l.length ∧ oi l k = i := by
  have : (i : Int) ∈ ordL l := ordL_mem.2 (by omega)
  obtain ⟨k, hk, e⟩ := List.getElem_of_mem this
  have hk' : k < l.length := by rw [← ordL_len]; exact hk
  refine ⟨k, hk', ?_⟩
  unfold oi
  simp [hk, e]
theorem perm_sumI {l k : List Int} (h : l.Perm k) : l.sum = k.sum := by
  induction h with
  | nil => rfl
  | cons x _ ih => simp only [List.sum_cons, ih]
  | swap x y l => simp only [List.sum_cons]; omega
  | trans _ _ h1 h2 => exact h1.trans h2
theorem sm_list (f : Nat → Int) : ∀ n, sm f n = ((List.range n).map f).sum
  | 0 => rfl
  | n + 1 => by rw [List.range_succ, List.map_append, List.sum_append, ← sm_list f n]; simp [sm]
theorem sm_perm {f : Nat → Int} {l : List Int} : sm (fun k => f (oi l k)) l.length = sm f l.length := by
  rw [sm_list, sm_list]
  have hp : ((List.range l.length).map (oi l)).Perm (List.range l.length) := by
    have h1 : (List.range l.length).map (oi l) = (ordL l).map Int.toNat := by
      refine List.ext_getElem (by simp [ordL_len]) fun k h1 h2 => ?_
      have hk : k < (ordL l).length := by simpa using h2
      simp [oi, hk]
    have h2 : (List.range l.length) = (upI l.length).map Int.toNat := by
      unfold upI
      rw [List.map_map]
      have : (Int.toNat ∘ (Nat.cast : Nat → Int)) = id := by funext k; simp
      rw [this, List.map_id]
    rw [h1, h2]
    exact List.Perm.map _ ms_perm
  have h3 := perm_sumI (hp.map f)
  rw [List.map_map] at h3
  exact h3
theorem ld_oi {l : List Int} {f : Nat → Nat} {b : Nat} : ld (fun i => l.getD (oi l i) 0) (fun i => f (oi l i)) l.length b = ld (fun i => l.getD i 0) f l.length b :=
  sm_perm (f := fun i => if f i = b then l.getD i 0 else 0)
theorem ld_congr {p : Nat → Int} {f g : Nat → Nat} {n b : Nat} (h : ∀ i, i < n → f i = g i) : ld p f n b = ld p g n b := sm_congr fun i hi => by
  show (if f i = b then p i else 0) = if g i = b then p i else 0
  rw [h i hi]
theorem oi_dec {l : List Int} {i j : Nat} (hij : i ≤ j) (hj : j < l.length) : l.getD (oi l j) 0 ≤ l.getD (oi l i) 0 := by
  have h := srt_getE (leL_to l) (ms_srt (leL_to l) (l := upI l.length)) hij (by rw [ms_len, upI_len]; exact hj)
  have hi := (oi_lt (l := l) (k := i) (by omega)).2
  have hk := (oi_lt (l := l) (k := j) hj).2
  change leL l ((ordL l).getD i 0) ((ordL l).getD j 0) = true at h
  rw [hi, hk, leL_iff] at h
  simp only [Int.toNat_natCast] at h
  omega
/-- The first bar with room for x. -/
def ffB (n : Int) (fs : List Int) (x : Int) : Nat := fs.findIdx fun y => decide (y + x ≤ n)
def ffA (n : Int) (fs : List Int) (x : Int) : List Int := if ffB n fs x < fs.length then fs.set (ffB n fs x) (fs.getD (ffB n fs x) 0 + x) else fs ++ [x]
/-- The bars after the first k strips of the order. -/
def ffL (n : Int) (l : List Int) : Nat → List Int
  | 0 => []
  | k + 1 => ffA n (ffL n l k) (l.getD (oi l k) 0)
/-- The bar of the k-th strip of the order. -/
def ffK (n : Int) (l : List Int) (k : Nat) : Nat := ffB n (ffL n l k) (l.getD (oi l k) 0)
def ffO (n : Int) (l : List Int) (d : Int) : Nat → List Int
  | 0 => List.replicate l.length d
  | k + 1 => (ffO n l d k).set (oi l k) (ffK n l k : Nat)
theorem ffO_len (n : Int) (l : List Int) (d : Int) : ∀ k, (ffO n l d k).length = l.length
  | 0 => by simp [ffO]
  | k + 1 => by simp [ffO, ffO_len n l d k]
theorem ffO_at {n : Int} {l : List Int} {d : Int} : ∀ k, k ≤ l.length → ∀ j, j < k → (ffO n l d k).getD (oi l j) 0 = (ffK n l j : Nat)
  | 0, _, j, hj => by omega
  | k + 1, h, j, hj => by
    have ho := oi_lt (l := l) (k := k) h
    simp only [ffO]
    rw [getD_set _ _ _ _ (by rw [ffO_len]; omega)]
    rcases Nat.lt_succ_iff_lt_or_eq.1 hj with h' | h'
    · rw [if_neg (fun e => by have := oi_inj (l := l) (i := k) (k := j) (by omega) (by omega) e; omega)]
      exact ffO_at k (by omega) j h'
    · subst h'
      rw [if_pos rfl]
theorem ffB_le (n : Int) (fs : List Int) (x : Int) : ffB n fs x ≤ fs.length := List.findIdx_le_length
theorem ffB_room {n : Int} {fs : List Int} {x : Int} (h : ffB n fs x < fs.length) : fs.getD (ffB n fs x) 0 + x ≤ n := by
  have := List.findIdx_getElem (p := fun y => decide (y + x ≤ n)) (xs := fs) (w := h)
  simp only [decide_eq_true_eq] at this
  rw [List.getD_eq_getElem?_getD, List.getElem?_eq_getElem h]
  exact this
theorem ffB_full {n : Int} {fs : List Int} {x : Int} {b : Nat} (h : b < ffB n fs x) : n < fs.getD b 0 + x := by
  have hb : b < fs.length := by have := ffB_le n fs x; omega
  have := List.not_of_lt_findIdx (p := fun y => decide (y + x ≤ n)) (xs := fs) h
  simp only [decide_eq_false_iff_not, Bool.not_eq_true] at this
  rw [List.getD_eq_getElem?_getD, List.getElem?_eq_getElem hb, Option.getD_some]
  omega
theorem ffL_len (n : Int) (l : List Int) (k : Nat) : (ffL n l (k + 1)).length = max (ffL n l k).length (ffK n l k + 1) := by
  simp only [ffL, ffA, ffK]
  have := ffB_le n (ffL n l k) (l.getD (oi l k) 0)
  generalize l.getD (oi l k) 0 = x at *
  split
  · simp; omega
  · simp; omega
theorem ffL_load (n : Int) (l : List Int) : ∀ k b, (ffL n l k).getD b 0 = ld (fun i => l.getD (oi l i) 0) (ffK n l) k b
  | 0, b => by simp [ffL, ld, sm]
  | k + 1, b => by
    have h1 := ffL_load n l k b
    have h2 := ffL_load n l k (ffK n l k)
    rw [ld_succ, ← h1]
    simp only [ffL, ffA]
    have hle := ffB_le n (ffL n l k) (l.getD (oi l k) 0)
    by_cases hb : ffB n (ffL n l k) (l.getD (oi l k) 0) < (ffL n l k).length
    · rw [if_pos hb, getD_set _ _ _ _ hb]
      by_cases e : ffB n (ffL n l k) (l.getD (oi l k) 0) = b
      · rw [if_pos e, if_pos (show ffK n l k = b from e), e]
      · rw [if_neg e, if_neg (show ¬ ffK n l k = b from e)]; omega
    · rw [if_neg hb]
      have e0 : ffB n (ffL n l k) (l.getD (oi l k) 0) = (ffL n l k).length := by omega
      have e1 : ffK n l k = (ffL n l k).length := e0
      rw [e1]
      rcases Nat.lt_trichotomy b (ffL n l k).length with q | q | q
      · rw [if_neg (by omega), List.getD_eq_getElem?_getD, List.getElem?_append_left q, ← List.getD_eq_getElem?_getD]; omega
      · rw [if_pos q.symm, q, List.getD_eq_getElem?_getD, List.getElem?_append_right (Nat.le_refl _)]; simp
      · rw [if_neg (by omega), List.getD_eq_getElem?_getD, List.getElem?_eq_none (by simp; omega), List.getD_eq_getElem?_getD, List.getElem?_eq_none (by omega)]; simp
theorem ffL_ffd {n : Int} {l : List Int} (hp : ∀ i, i < l.length → 1 ≤ l.getD i 0 ∧ l.getD i 0 ≤ n) : FFD (fun i => l.getD (oi l i) 0) (ffK n l) l.length n where
  pos := fun i hi => hp _ (oi_lt hi).1
  dec := fun i j hij hj => oi_dec hij hj
  full := fun i hi b hb => by
    rw [← ffL_load]; exact ffB_full hb
  room := fun i hi => by
    rw [← ffL_load]
    by_cases h : ffB n (ffL n l i) (l.getD (oi l i) 0) < (ffL n l i).length
    · exact ffB_room h
    · have e : (ffL n l i).getD (ffK n l i) 0 = 0 := by
        rw [List.getD_eq_getElem?_getD, List.getElem?_eq_none (by unfold ffK; omega)]; rfl
      rw [e]
      have := hp _ (oi_lt hi).1
      omega
/-- The bar of each strip. -/
def ffF (n : Int) (l : List Int) (i : Nat) : Nat := ((ffO n l 0 l.length).getD i 0).toNat
theorem ffF_oi {n : Int} {l : List Int} {k : Nat} (h : k < l.length) : ffF n l (oi l k) = ffK n l k := by
  unfold ffF
  rw [ffO_at l.length (Nat.le_refl _) k h]; simp
theorem ffF_spec {n : Int} {l : List Int} {i : Nat} (h : i < l.length) : (ffO n l 0 l.length).getD i 0 = (ffF n l i : Nat) := by
  obtain ⟨k, hk, rfl⟩ := oi_sur h
  rw [ffF_oi hk, ffO_at l.length (Nat.le_refl _) k hk]
theorem ff_load {n : Int} {l : List Int} (hn0 : 0 ≤ n) (hp : ∀ i, i < l.length → 1 ≤ l.getD i 0 ∧ l.getD i 0 ≤ n) (b : Nat) : ld (fun i => l.getD i 0) (ffF n l) l.length b ≤ n := by
  rw [← ld_oi (f := ffF n l), ld_congr (g := ffK n l) fun i hi => ffF_oi hi]
  have h := ffL_ffd hp
  have hn : ∀ k, k ≤ l.length → ld (fun i => l.getD (oi l i) 0) (ffK n l) k b ≤ n ∨ (ld (fun i => l.getD (oi l i) 0) (ffK n l) k b = 0) := fun k => by
    induction k with
    | zero => intro _; exact .inr rfl
    | succ k ih =>
      intro hk
      have h1 := ih (by omega)
      rw [ld_succ]
      by_cases e : ffK n l k = b
      · rw [if_pos e]
        have := h.room k hk
        rw [e] at this
        exact .inl this
      · rw [if_neg e]
        simpa using h1
  rcases hn l.length (Nat.le_refl _) with h1 | h1
  · exact h1
  · omega
/-- The three bounds of CutStrips. -/
theorem strips_law {n : Int} {l : List Int} (hn : 1 ≤ n) (hp : ∀ i, i < l.length → 1 ≤ l.getD i 0 ∧ l.getD i 0 ≤ n) (hl : l.length ≤ 14) {N : Nat} (hN : ∀ i, i < l.length → ffF n l i < N) (hN1 : N = 0 ∨ ∃ i, i < l.length ∧ ffF n l i + 1 = N) :
    fewest n (fun i => l.getD i 0) l.length ≤ N ∧ 9 * N ≤ 11 * fewest n (fun i => l.getD i 0) l.length + 6 := by
  have hP := fewest_ok (n := n) hp (by omega)
  have h1 : Pack (fun i => l.getD i 0) (ffF n l) l.length N n := ⟨hN, ff_load (by omega) hp⟩
  refine ⟨fewest_least hp (by omega) h1, ?_⟩
  have hG : Pack (fun i => l.getD (oi l i) 0) (fun i => binOf n (fun i => l.getD i 0) l.length (oi l i)) l.length (fewest n (fun i => l.getD i 0) l.length) n :=
    ⟨fun i hi => hP.bar _ (oi_lt hi).1, fun b => by rw [ld_oi]; exact hP.load b⟩
  have hF := ffL_ffd hp
  by_cases h0 : l.length = 0
  · rcases hN1 with h | ⟨i, hi, _⟩
    · omega
    · omega
  · refine hF.law hG ?_ hl (fun i hi => by rw [← ffF_oi hi]; exact hN _ (oi_lt hi).1) ?_
    · have := hP.bar 0 (by omega)
      omega
    · rcases hN1 with h | ⟨i, hi, h⟩
      · exact .inl h
      · obtain ⟨k, hk, rfl⟩ := oi_sur hi
        exact .inr ⟨k, hk, by rw [← ffF_oi hk]; exact h⟩
end Go.Proofs.YtibhgdglbillaaaDoor.Abs
namespace Go.Proofs.YtibhgdglbillaaaDoor.Abs
set_option linter.unusedSimpArgs false
set_option linter.unusedVariables false
open Go.RowKit
open Go.Proofs.YtibhgdglbillaaaDoor.Sim
open Go.Proofs
def stripB (n x : Int) : Bool := decide (1 ≤ x ∧ x ≤ n)
def stripsB (n : Int) (l : List Int) : Bool := decide (1 ≤ n) && decide (n ≤ 2000) && decide (l.length ≤ 14) && l.all (stripB n)
structure SpOk (n : Int) (l : List Int) : Prop where
  n1 : 1 ≤ n
  n2 : n ≤ 2000
  len : l.length ≤ 14
  at_ : ∀ i, i < l.length → 1 ≤ l.getD i 0 ∧ l.getD i 0 ≤ n
theorem SpOk.of {n : Int} {l : List Int} (h : stripsB n l = true) : SpOk n l := by
  simp only [stripsB, Bool.and_eq_true, decide_eq_true_eq, List.all_eq_true] at h
  obtain ⟨⟨⟨h1, h2⟩, h3⟩, h4⟩ := h
  refine ⟨h1, h2, h3, fun i hi => ?_⟩
  have := h4 (l.getD i 0) (by simp [hi])
  simpa [stripB] using this
set_option maxRecDepth 100000 in
theorem valid_ok {m : AM} {v : Value} {l : List Int} {n : Int} (hl : Ints m v l) (hlen : l.length ≤ 9223372036854775807) {b : Bool} (hb : stripsB n l = b) : ACall Tryd.prog 88 #[.int .i64 n, v] m (Ret (.bool b) m) := by
  subst hb
  obtain ⟨a, o, h1, h2, h3⟩ := id hl
  refine ACall.start Tryd.func88 rfl rfl ?_
  by_cases c1 : n < 1
  · (repeat (first | (with_reducible refine AWo.cons ?_) | ((with_reducible refine Step.id ?_); first | ((with_reducible apply Step.gdF); exact rfl; exact rfl; (focus (first | rfl | (simp only [decide_eq_true_eq, decide_eq_false_iff_not, Bool.not_eq_true', Bool.not_eq_false', Bool.not_true, Bool.not_false]; first | assumption | omega)))) | ((with_reducible apply Step.move); exact rfl; exact rfl) | ((with_reducible apply Step.assign); exact rfl; exact rfl) | ((with_reducible apply Step.lss); exact rfl; exact rfl; exact rfl) | ((with_reducible apply Step.pickT); exact rfl; exact rfl; exact rfl; exact rfl; (focus (first | rfl | (simp only [decide_eq_true_eq, decide_eq_false_iff_not, Bool.not_eq_true', Bool.not_eq_false', Bool.not_true, Bool.not_false]; first | assumption | omega))))) | (with_reducible refine AWo.nil ?_) | ((with_reducible apply AW.seq)) | ((with_reducible apply Then.n)) | ((with_reducible apply AW.regL)) | ((with_reducible apply AW.condT); exact rfl; (focus (rfl)))))
    (refine AW.retD (l := [(4, _)]) (by repeat (first | exact trivial | (refine And.intro ⟨rfl, by (exact .bool _)⟩ ?_))) ?_; (repeat (first | refine Then.r ?_ | refine InBlk.r ?_)))
    exact ⟨_, rfl, by simp [stripsB, show ¬ 1 ≤ n by omega], rfl⟩
  · by_cases c2 : 2000 < n
    · (repeat (first | (with_reducible refine AWo.cons ?_) | ((with_reducible refine Step.id ?_); first | ((with_reducible apply Step.gdT); exact rfl; exact rfl; (focus ((simp only [decide_eq_true_eq, decide_eq_false_iff_not, Bool.not_eq_true', Bool.not_eq_false', Bool.not_true, Bool.not_false]; first | assumption | omega)))) | ((with_reducible apply Step.gdF); exact rfl; exact rfl; (focus ((simp only [decide_eq_true_eq, decide_eq_false_iff_not, Bool.not_eq_true', Bool.not_eq_false', Bool.not_true, Bool.not_false]; first | assumption | omega)))) | ((with_reducible apply Step.move); exact rfl; exact rfl) | ((with_reducible apply Step.assign); exact rfl; exact rfl) | ((with_reducible apply Step.lss); exact rfl; exact rfl; exact rfl) | ((with_reducible apply Step.gtr); exact rfl; exact rfl; exact rfl) | ((with_reducible apply Step.pickT); exact rfl; exact rfl; exact rfl; exact rfl; (focus ((simp only [decide_eq_true_eq, decide_eq_false_iff_not, Bool.not_eq_true', Bool.not_eq_false', Bool.not_true, Bool.not_false]; first | assumption | omega)))) | ((with_reducible apply Step.pickF); exact rfl; exact rfl; exact rfl; exact rfl; (focus ((simp only [decide_eq_true_eq, decide_eq_false_iff_not, Bool.not_eq_true', Bool.not_eq_false', Bool.not_true, Bool.not_false]; first | assumption | omega))))) | (with_reducible refine AWo.nil ?_) | ((with_reducible apply AW.seq)) | ((with_reducible apply Then.n)) | ((with_reducible apply AW.regL)) | ((with_reducible apply AW.condT); exact rfl; (focus (rfl)))))
      (refine AW.retD (l := [(4, _)]) (by repeat (first | exact trivial | (refine And.intro ⟨rfl, by (exact .bool _)⟩ ?_))) ?_; (repeat (first | refine Then.r ?_ | refine InBlk.r ?_)))
      exact ⟨_, rfl, by simp [stripsB, show ¬ n ≤ 2000 by omega], rfl⟩
    · by_cases c3 : 14 < l.length
      · (repeat (first | (with_reducible refine AWo.cons ?_) | ((with_reducible refine Step.id ?_); first | ((with_reducible apply Step.gdT); exact rfl; exact rfl; (focus ((simp only [decide_eq_true_eq, decide_eq_false_iff_not, Bool.not_eq_true', Bool.not_eq_false', Bool.not_true, Bool.not_false]; first | assumption | omega)))) | ((with_reducible apply Step.move); exact rfl; exact rfl) | ((with_reducible apply Step.assign); exact rfl; exact rfl) | ((with_reducible apply Step.lss); exact rfl; exact rfl; exact rfl) | ((with_reducible apply Step.gtr); exact rfl; exact rfl; exact rfl) | ((with_reducible apply Step.len); exact rfl; (focus (assumption)); (focus (decide +kernel)); exact rfl) | ((with_reducible apply Step.pickF); exact rfl; exact rfl; exact rfl; exact rfl; (focus ((simp only [decide_eq_true_eq, decide_eq_false_iff_not, Bool.not_eq_true', Bool.not_eq_false', Bool.not_true, Bool.not_false]; first | assumption | omega))))) | (with_reducible refine AWo.nil ?_) | ((with_reducible apply AW.seq)) | ((with_reducible apply Then.n)) | ((with_reducible apply AW.regL)) | ((with_reducible apply AW.condT); exact rfl; (focus ((simp only [decide_eq_true_eq, decide_eq_false_iff_not, Bool.not_eq_true', Bool.not_eq_false', Bool.not_true, Bool.not_false]; first | assumption | omega))))))
        (refine AW.retD (l := [(4, _)]) (by repeat (first | exact trivial | (refine And.intro ⟨rfl, by (exact .bool _)⟩ ?_))) ?_; (repeat (first | refine Then.r ?_ | refine InBlk.r ?_)))
        exact ⟨_, rfl, by simp [stripsB, show ¬ l.length ≤ 14 by omega], rfl⟩
      · (repeat (first | (with_reducible refine AWo.cons ?_) | ((with_reducible refine Step.id ?_); first | ((with_reducible apply Step.gdT); exact rfl; exact rfl; (focus ((simp only [decide_eq_true_eq, decide_eq_false_iff_not, Bool.not_eq_true', Bool.not_eq_false', Bool.not_true, Bool.not_false]; first | assumption | omega)))) | ((with_reducible apply Step.move); exact rfl; exact rfl) | ((with_reducible apply Step.assign); exact rfl; exact rfl) | ((with_reducible apply Step.lss); exact rfl; exact rfl; exact rfl) | ((with_reducible apply Step.gtr); exact rfl; exact rfl; exact rfl) | ((with_reducible apply Step.len); exact rfl; (focus (assumption)); (focus (decide +kernel)); exact rfl) | ((with_reducible apply Step.pickF); exact rfl; exact rfl; exact rfl; exact rfl; (focus ((simp only [decide_eq_true_eq, decide_eq_false_iff_not, Bool.not_eq_true', Bool.not_eq_false', Bool.not_true, Bool.not_false]; first | assumption | omega))))) | (with_reducible refine AWo.nil ?_) | ((with_reducible apply AW.seq)) | ((with_reducible apply Then.n)) | ((with_reducible apply AW.regL)) | ((with_reducible apply AW.block)) | ((with_reducible apply AW.skip)) | ((with_reducible apply AW.condF); exact rfl; (focus ((simp only [decide_eq_true_eq, decide_eq_false_iff_not, Bool.not_eq_true', Bool.not_eq_false', Bool.not_true, Bool.not_false]; first | assumption | omega))))))
        refine AW.loopT (fun q t L => ∃ k : Nat, q = l.length - k ∧ k ≤ l.length ∧ (l.take k).all (stripB n) = true ∧ L = [] ∧
          t = [(0, .int .i64 n), (18, v), (19, .int .i64 (l.length : Nat)), (20, .int .i64 (k : Nat))]) ⟨_, _, _, (Or.inl ⟨rfl, (by repeat (first | exact trivial | (refine And.intro rfl ?_)))⟩), 0, rfl, Nat.zero_le _, by simp, rfl, rfl⟩ ?_
        rintro q t L ⟨k, rfl, hk, hall, rfl, rfl⟩
        rcases Nat.lt_or_ge k l.length with hlt | hge
        · have ts := take_snoc l k 0 hlt
          have hr := h3 k hlt
          have bad : stripB n (l.getD k 0) = false → stripsB n l = false := fun e => by
            have : l.all (stripB n) = false := by
              rw [List.all_eq_false]
              exact ⟨l.getD k 0, by simp [hlt], by rw [e]; exact Bool.false_ne_true⟩
            simp [stripsB, this]
          cases hx : stripB n (l.getD k 0) with
          | true =>
            have hx' := hx
            simp only [stripB, decide_eq_true_eq] at hx'
            obtain ⟨x1, x2⟩ := hx'
            (repeat (first | (with_reducible refine AWo.cons ?_) | ((with_reducible refine Step.id ?_); first | ((with_reducible apply Step.gdT); exact rfl; exact rfl; (focus ((simp only [decide_eq_true_eq, decide_eq_false_iff_not, Bool.not_eq_true', Bool.not_eq_false', Bool.not_true, Bool.not_false]; first | assumption | omega)))) | ((with_reducible apply Step.move); exact rfl; exact rfl) | ((with_reducible apply Step.assign); exact rfl; exact rfl) | ((with_reducible apply Step.load); exact rfl; (focus (decide +kernel)); exact rfl; (focus (exact Rd.old _ (by assumption)))) | ((with_reducible apply Step.ix1); exact rfl; (focus (assumption)); exact rfl; (focus (decide +kernel)); exact rfl; (focus (omega))) | ((with_reducible apply Step.add); exact rfl; exact rfl; (focus (omega)); exact rfl) | ((with_reducible apply Step.lss); exact rfl; exact rfl; exact rfl) | ((with_reducible apply Step.gtr); exact rfl; exact rfl; exact rfl) | ((with_reducible apply Step.pickF); exact rfl; exact rfl; exact rfl; exact rfl; (focus ((simp only [decide_eq_true_eq, decide_eq_false_iff_not, Bool.not_eq_true', Bool.not_eq_false', Bool.not_true, Bool.not_false]; first | assumption | omega))))) | (with_reducible refine AWo.nil ?_) | ((with_reducible apply AW.seq)) | ((with_reducible apply Then.n)) | ((with_reducible apply AW.regL)) | ((with_reducible apply AW.block)) | ((with_reducible apply InBlk.n)) | ((with_reducible apply AW.skip)) | ((with_reducible apply AW.condT); exact rfl; (focus ((simp only [decide_eq_true_eq, decide_eq_false_iff_not, Bool.not_eq_true', Bool.not_eq_false', Bool.not_true, Bool.not_false]; first | assumption | omega)))) | ((with_reducible apply AW.condF); exact rfl; (focus ((simp only [decide_eq_true_eq, decide_eq_false_iff_not, Bool.not_eq_true', Bool.not_eq_false', Bool.not_true, Bool.not_false]; first | assumption | omega))))))
            exact ⟨_, _, _, by omega, (Or.inl ⟨rfl, (by repeat (first | exact trivial | (refine And.intro rfl ?_)))⟩), k + 1, rfl, by omega, by rw [ts, List.all_append, hall]; simp only [List.all_cons, List.all_nil, hx]; rfl, rfl, rfl⟩
          | false =>
            have hx' := hx
            simp only [stripB, decide_eq_false_iff_not] at hx'
            rw [bad hx]
            by_cases d1 : l.getD k 0 < 1
            · (repeat (first | (with_reducible refine AWo.cons ?_) | ((with_reducible refine Step.id ?_); first | ((with_reducible apply Step.gdF); exact rfl; exact rfl; (focus ((simp only [decide_eq_true_eq, decide_eq_false_iff_not, Bool.not_eq_true', Bool.not_eq_false', Bool.not_true, Bool.not_false]; first | assumption | omega)))) | ((with_reducible apply Step.move); exact rfl; exact rfl) | ((with_reducible apply Step.assign); exact rfl; exact rfl) | ((with_reducible apply Step.load); exact rfl; (focus (decide +kernel)); exact rfl; (focus (exact Rd.old _ (by assumption)))) | ((with_reducible apply Step.ix1); exact rfl; (focus (assumption)); exact rfl; (focus (decide +kernel)); exact rfl; (focus (omega))) | ((with_reducible apply Step.lss); exact rfl; exact rfl; exact rfl) | ((with_reducible apply Step.pickT); exact rfl; exact rfl; exact rfl; exact rfl; (focus ((simp only [decide_eq_true_eq, decide_eq_false_iff_not, Bool.not_eq_true', Bool.not_eq_false', Bool.not_true, Bool.not_false]; first | assumption | omega))))) | (with_reducible refine AWo.nil ?_) | ((with_reducible apply AW.seq)) | ((with_reducible apply Then.n)) | ((with_reducible apply AW.regL)) | ((with_reducible apply AW.block)) | ((with_reducible apply AW.skip)) | ((with_reducible apply AW.condT); exact rfl; (focus (first | rfl | (simp only [decide_eq_true_eq, decide_eq_false_iff_not, Bool.not_eq_true', Bool.not_eq_false', Bool.not_true, Bool.not_false]; first | assumption | omega))))))
              (refine AW.retD (l := [(4, _)]) (by repeat (first | exact trivial | (refine And.intro ⟨rfl, by (exact .bool _)⟩ ?_))) ?_; (repeat (first | refine Then.r ?_ | refine InBlk.r ?_)))
              exact ⟨_, rfl, rfl, rfl⟩
            · have d2 : n < l.getD k 0 := by omega
              (repeat (first | (with_reducible refine AWo.cons ?_) | ((with_reducible refine Step.id ?_); first | ((with_reducible apply Step.gdT); exact rfl; exact rfl; (focus ((simp only [decide_eq_true_eq, decide_eq_false_iff_not, Bool.not_eq_true', Bool.not_eq_false', Bool.not_true, Bool.not_false]; first | assumption | omega)))) | ((with_reducible apply Step.move); exact rfl; exact rfl) | ((with_reducible apply Step.assign); exact rfl; exact rfl) | ((with_reducible apply Step.load); exact rfl; (focus (decide +kernel)); exact rfl; (focus (exact Rd.old _ (by assumption)))) | ((with_reducible apply Step.ix1); exact rfl; (focus (assumption)); exact rfl; (focus (decide +kernel)); exact rfl; (focus (omega))) | ((with_reducible apply Step.lss); exact rfl; exact rfl; exact rfl) | ((with_reducible apply Step.gtr); exact rfl; exact rfl; exact rfl) | ((with_reducible apply Step.pickF); exact rfl; exact rfl; exact rfl; exact rfl; (focus ((simp only [decide_eq_true_eq, decide_eq_false_iff_not, Bool.not_eq_true', Bool.not_eq_false', Bool.not_true, Bool.not_false]; first | assumption | omega))))) | (with_reducible refine AWo.nil ?_) | ((with_reducible apply AW.seq)) | ((with_reducible apply Then.n)) | ((with_reducible apply AW.regL)) | ((with_reducible apply AW.block)) | ((with_reducible apply AW.skip)) | ((with_reducible apply AW.condT); exact rfl; (focus ((simp only [decide_eq_true_eq, decide_eq_false_iff_not, Bool.not_eq_true', Bool.not_eq_false', Bool.not_true, Bool.not_false]; first | assumption | omega))))))
              (refine AW.retD (l := [(4, _)]) (by repeat (first | exact trivial | (refine And.intro ⟨rfl, by (exact .bool _)⟩ ?_))) ?_; (repeat (first | refine Then.r ?_ | refine InBlk.r ?_)))
              exact ⟨_, rfl, rfl, rfl⟩
        · (repeat (first | (with_reducible refine AWo.cons ?_) | ((with_reducible refine Step.id ?_); first | ((with_reducible apply Step.assign); exact rfl; exact rfl) | ((with_reducible apply Step.lss); exact rfl; exact rfl; exact rfl)) | (with_reducible refine AWo.nil ?_) | ((with_reducible apply AW.seq)) | ((with_reducible apply Then.n)) | ((with_reducible apply AW.regL)) | ((with_reducible apply AW.exit)) | ((with_reducible apply InBlk.hit)) | ((with_reducible apply Then.e)) | ((with_reducible apply AW.condF); exact rfl; (focus ((simp only [decide_eq_true_eq, decide_eq_false_iff_not, Bool.not_eq_true', Bool.not_eq_false', Bool.not_true, Bool.not_false]; first | assumption | omega))))))
          (refine AW.retD (l := [(4, _)]) (by repeat (first | exact trivial | (refine And.intro ⟨rfl, by (exact .bool _)⟩ ?_))) ?_; (repeat (first | refine Then.r ?_ | refine InBlk.r ?_)))
          rw [List.take_of_length_le hge] at hall
          exact ⟨_, rfl, by simp [stripsB, hall]; omega, rfl⟩
set_option maxRecDepth 100000 in
theorem RStrips_ok {m : AM} {v : Value} {l : List Int} {n : Int} (hl : Ints m v l) (hlen : l.length ≤ 9223372036854775807) {b : Bool} (hb : stripsB n l = b) : ACall Tryd.prog 61 #[.int .i64 n, v] m (Ret (.bool b) m) := by
  subst hb
  obtain ⟨a, o, h1, h2, h3⟩ := id hl
  refine ACall.start Tryd.func61 rfl rfl ?_
  by_cases c1 : n < 1
  · (repeat (first | (with_reducible refine AWo.cons ?_) | ((with_reducible refine Step.id ?_); first | ((with_reducible apply Step.gdF); exact rfl; exact rfl; (focus (first | rfl | (simp only [decide_eq_true_eq, decide_eq_false_iff_not, Bool.not_eq_true', Bool.not_eq_false', Bool.not_true, Bool.not_false]; first | assumption | omega)))) | ((with_reducible apply Step.move); exact rfl; exact rfl) | ((with_reducible apply Step.assign); exact rfl; exact rfl) | ((with_reducible apply Step.lss); exact rfl; exact rfl; exact rfl) | ((with_reducible apply Step.pickT); exact rfl; exact rfl; exact rfl; exact rfl; (focus (first | rfl | (simp only [decide_eq_true_eq, decide_eq_false_iff_not, Bool.not_eq_true', Bool.not_eq_false', Bool.not_true, Bool.not_false]; first | assumption | omega))))) | (with_reducible refine AWo.nil ?_) | ((with_reducible apply AW.seq)) | ((with_reducible apply Then.n)) | ((with_reducible apply AW.regL)) | ((with_reducible apply AW.condT); exact rfl; (focus (rfl)))))
    (refine AW.retD (l := [(4, _)]) (by repeat (first | exact trivial | (refine And.intro ⟨rfl, by (exact .bool _)⟩ ?_))) ?_; (repeat (first | refine Then.r ?_ | refine InBlk.r ?_)))
    exact ⟨_, rfl, by simp [stripsB, show ¬ 1 ≤ n by omega], rfl⟩
  · by_cases c2 : 2000 < n
    · (repeat (first | (with_reducible refine AWo.cons ?_) | ((with_reducible refine Step.id ?_); first | ((with_reducible apply Step.gdT); exact rfl; exact rfl; (focus ((simp only [decide_eq_true_eq, decide_eq_false_iff_not, Bool.not_eq_true', Bool.not_eq_false', Bool.not_true, Bool.not_false]; first | assumption | omega)))) | ((with_reducible apply Step.gdF); exact rfl; exact rfl; (focus ((simp only [decide_eq_true_eq, decide_eq_false_iff_not, Bool.not_eq_true', Bool.not_eq_false', Bool.not_true, Bool.not_false]; first | assumption | omega)))) | ((with_reducible apply Step.move); exact rfl; exact rfl) | ((with_reducible apply Step.assign); exact rfl; exact rfl) | ((with_reducible apply Step.lss); exact rfl; exact rfl; exact rfl) | ((with_reducible apply Step.gtr); exact rfl; exact rfl; exact rfl) | ((with_reducible apply Step.pickT); exact rfl; exact rfl; exact rfl; exact rfl; (focus ((simp only [decide_eq_true_eq, decide_eq_false_iff_not, Bool.not_eq_true', Bool.not_eq_false', Bool.not_true, Bool.not_false]; first | assumption | omega)))) | ((with_reducible apply Step.pickF); exact rfl; exact rfl; exact rfl; exact rfl; (focus ((simp only [decide_eq_true_eq, decide_eq_false_iff_not, Bool.not_eq_true', Bool.not_eq_false', Bool.not_true, Bool.not_false]; first | assumption | omega))))) | (with_reducible refine AWo.nil ?_) | ((with_reducible apply AW.seq)) | ((with_reducible apply Then.n)) | ((with_reducible apply AW.regL)) | ((with_reducible apply AW.condT); exact rfl; (focus (rfl)))))
      (refine AW.retD (l := [(4, _)]) (by repeat (first | exact trivial | (refine And.intro ⟨rfl, by (exact .bool _)⟩ ?_))) ?_; (repeat (first | refine Then.r ?_ | refine InBlk.r ?_)))
      exact ⟨_, rfl, by simp [stripsB, show ¬ n ≤ 2000 by omega], rfl⟩
    · by_cases c3 : 14 < l.length
      · (repeat (first | (with_reducible refine AWo.cons ?_) | ((with_reducible refine Step.id ?_); first | ((with_reducible apply Step.gdT); exact rfl; exact rfl; (focus ((simp only [decide_eq_true_eq, decide_eq_false_iff_not, Bool.not_eq_true', Bool.not_eq_false', Bool.not_true, Bool.not_false]; first | assumption | omega)))) | ((with_reducible apply Step.move); exact rfl; exact rfl) | ((with_reducible apply Step.assign); exact rfl; exact rfl) | ((with_reducible apply Step.lss); exact rfl; exact rfl; exact rfl) | ((with_reducible apply Step.gtr); exact rfl; exact rfl; exact rfl) | ((with_reducible apply Step.len); exact rfl; (focus (assumption)); (focus (decide +kernel)); exact rfl) | ((with_reducible apply Step.pickF); exact rfl; exact rfl; exact rfl; exact rfl; (focus ((simp only [decide_eq_true_eq, decide_eq_false_iff_not, Bool.not_eq_true', Bool.not_eq_false', Bool.not_true, Bool.not_false]; first | assumption | omega))))) | (with_reducible refine AWo.nil ?_) | ((with_reducible apply AW.seq)) | ((with_reducible apply Then.n)) | ((with_reducible apply AW.regL)) | ((with_reducible apply AW.condT); exact rfl; (focus ((simp only [decide_eq_true_eq, decide_eq_false_iff_not, Bool.not_eq_true', Bool.not_eq_false', Bool.not_true, Bool.not_false]; first | assumption | omega))))))
        (refine AW.retD (l := [(4, _)]) (by repeat (first | exact trivial | (refine And.intro ⟨rfl, by (exact .bool _)⟩ ?_))) ?_; (repeat (first | refine Then.r ?_ | refine InBlk.r ?_)))
        exact ⟨_, rfl, by simp [stripsB, show ¬ l.length ≤ 14 by omega], rfl⟩
      · (repeat (first | (with_reducible refine AWo.cons ?_) | ((with_reducible refine Step.id ?_); first | ((with_reducible apply Step.gdT); exact rfl; exact rfl; (focus ((simp only [decide_eq_true_eq, decide_eq_false_iff_not, Bool.not_eq_true', Bool.not_eq_false', Bool.not_true, Bool.not_false]; first | assumption | omega)))) | ((with_reducible apply Step.move); exact rfl; exact rfl) | ((with_reducible apply Step.assign); exact rfl; exact rfl) | ((with_reducible apply Step.lss); exact rfl; exact rfl; exact rfl) | ((with_reducible apply Step.gtr); exact rfl; exact rfl; exact rfl) | ((with_reducible apply Step.len); exact rfl; (focus (assumption)); (focus (decide +kernel)); exact rfl) | ((with_reducible apply Step.pickF); exact rfl; exact rfl; exact rfl; exact rfl; (focus ((simp only [decide_eq_true_eq, decide_eq_false_iff_not, Bool.not_eq_true', Bool.not_eq_false', Bool.not_true, Bool.not_false]; first | assumption | omega))))) | (with_reducible refine AWo.nil ?_) | ((with_reducible apply AW.seq)) | ((with_reducible apply Then.n)) | ((with_reducible apply AW.regL)) | ((with_reducible apply AW.block)) | ((with_reducible apply AW.skip)) | ((with_reducible apply AW.condF); exact rfl; (focus ((simp only [decide_eq_true_eq, decide_eq_false_iff_not, Bool.not_eq_true', Bool.not_eq_false', Bool.not_true, Bool.not_false]; first | assumption | omega))))))
        refine AW.loopT (fun q t L => ∃ k : Nat, q = l.length - k ∧ k ≤ l.length ∧ (l.take k).all (stripB n) = true ∧ L = [] ∧
          t = [(0, .int .i64 n), (18, v), (19, .int .i64 (l.length : Nat)), (20, .int .i64 (k : Nat))]) ⟨_, _, _, (Or.inl ⟨rfl, (by repeat (first | exact trivial | (refine And.intro rfl ?_)))⟩), 0, rfl, Nat.zero_le _, by simp, rfl, rfl⟩ ?_
        rintro q t L ⟨k, rfl, hk, hall, rfl, rfl⟩
        rcases Nat.lt_or_ge k l.length with hlt | hge
        · have ts := take_snoc l k 0 hlt
          have hr := h3 k hlt
          have bad : stripB n (l.getD k 0) = false → stripsB n l = false := fun e => by
            have : l.all (stripB n) = false := by
              rw [List.all_eq_false]
              exact ⟨l.getD k 0, by simp [hlt], by rw [e]; exact Bool.false_ne_true⟩
            simp [stripsB, this]
          cases hx : stripB n (l.getD k 0) with
          | true =>
            have hx' := hx
            simp only [stripB, decide_eq_true_eq] at hx'
            obtain ⟨x1, x2⟩ := hx'
            (repeat (first | (with_reducible refine AWo.cons ?_) | ((with_reducible refine Step.id ?_); first | ((with_reducible apply Step.gdT); exact rfl; exact rfl; (focus ((simp only [decide_eq_true_eq, decide_eq_false_iff_not, Bool.not_eq_true', Bool.not_eq_false', Bool.not_true, Bool.not_false]; first | assumption | omega)))) | ((with_reducible apply Step.move); exact rfl; exact rfl) | ((with_reducible apply Step.assign); exact rfl; exact rfl) | ((with_reducible apply Step.load); exact rfl; (focus (decide +kernel)); exact rfl; (focus (exact Rd.old _ (by assumption)))) | ((with_reducible apply Step.ix1); exact rfl; (focus (assumption)); exact rfl; (focus (decide +kernel)); exact rfl; (focus (omega))) | ((with_reducible apply Step.add); exact rfl; exact rfl; (focus (omega)); exact rfl) | ((with_reducible apply Step.lss); exact rfl; exact rfl; exact rfl) | ((with_reducible apply Step.gtr); exact rfl; exact rfl; exact rfl) | ((with_reducible apply Step.pickF); exact rfl; exact rfl; exact rfl; exact rfl; (focus ((simp only [decide_eq_true_eq, decide_eq_false_iff_not, Bool.not_eq_true', Bool.not_eq_false', Bool.not_true, Bool.not_false]; first | assumption | omega))))) | (with_reducible refine AWo.nil ?_) | ((with_reducible apply AW.seq)) | ((with_reducible apply Then.n)) | ((with_reducible apply AW.regL)) | ((with_reducible apply AW.block)) | ((with_reducible apply InBlk.n)) | ((with_reducible apply AW.skip)) | ((with_reducible apply AW.condT); exact rfl; (focus ((simp only [decide_eq_true_eq, decide_eq_false_iff_not, Bool.not_eq_true', Bool.not_eq_false', Bool.not_true, Bool.not_false]; first | assumption | omega)))) | ((with_reducible apply AW.condF); exact rfl; (focus ((simp only [decide_eq_true_eq, decide_eq_false_iff_not, Bool.not_eq_true', Bool.not_eq_false', Bool.not_true, Bool.not_false]; first | assumption | omega))))))
            exact ⟨_, _, _, by omega, (Or.inl ⟨rfl, (by repeat (first | exact trivial | (refine And.intro rfl ?_)))⟩), k + 1, rfl, by omega, by rw [ts, List.all_append, hall]; simp only [List.all_cons, List.all_nil, hx]; rfl, rfl, rfl⟩
          | false =>
            have hx' := hx
            simp only [stripB, decide_eq_false_iff_not] at hx'
            rw [bad hx]
            by_cases d1 : l.getD k 0 < 1
            · (repeat (first | (with_reducible refine AWo.cons ?_) | ((with_reducible refine Step.id ?_); first | ((with_reducible apply Step.gdF); exact rfl; exact rfl; (focus ((simp only [decide_eq_true_eq, decide_eq_false_iff_not, Bool.not_eq_true', Bool.not_eq_false', Bool.not_true, Bool.not_false]; first | assumption | omega)))) | ((with_reducible apply Step.move); exact rfl; exact rfl) | ((with_reducible apply Step.assign); exact rfl; exact rfl) | ((with_reducible apply Step.load); exact rfl; (focus (decide +kernel)); exact rfl; (focus (exact Rd.old _ (by assumption)))) | ((with_reducible apply Step.ix1); exact rfl; (focus (assumption)); exact rfl; (focus (decide +kernel)); exact rfl; (focus (omega))) | ((with_reducible apply Step.lss); exact rfl; exact rfl; exact rfl) | ((with_reducible apply Step.pickT); exact rfl; exact rfl; exact rfl; exact rfl; (focus ((simp only [decide_eq_true_eq, decide_eq_false_iff_not, Bool.not_eq_true', Bool.not_eq_false', Bool.not_true, Bool.not_false]; first | assumption | omega))))) | (with_reducible refine AWo.nil ?_) | ((with_reducible apply AW.seq)) | ((with_reducible apply Then.n)) | ((with_reducible apply AW.regL)) | ((with_reducible apply AW.block)) | ((with_reducible apply AW.skip)) | ((with_reducible apply AW.condT); exact rfl; (focus (first | rfl | (simp only [decide_eq_true_eq, decide_eq_false_iff_not, Bool.not_eq_true', Bool.not_eq_false', Bool.not_true, Bool.not_false]; first | assumption | omega))))))
              (refine AW.retD (l := [(4, _)]) (by repeat (first | exact trivial | (refine And.intro ⟨rfl, by (exact .bool _)⟩ ?_))) ?_; (repeat (first | refine Then.r ?_ | refine InBlk.r ?_)))
              exact ⟨_, rfl, rfl, rfl⟩
            · have d2 : n < l.getD k 0 := by omega
              (repeat (first | (with_reducible refine AWo.cons ?_) | ((with_reducible refine Step.id ?_); first | ((with_reducible apply Step.gdT); exact rfl; exact rfl; (focus ((simp only [decide_eq_true_eq, decide_eq_false_iff_not, Bool.not_eq_true', Bool.not_eq_false', Bool.not_true, Bool.not_false]; first | assumption | omega)))) | ((with_reducible apply Step.move); exact rfl; exact rfl) | ((with_reducible apply Step.assign); exact rfl; exact rfl) | ((with_reducible apply Step.load); exact rfl; (focus (decide +kernel)); exact rfl; (focus (exact Rd.old _ (by assumption)))) | ((with_reducible apply Step.ix1); exact rfl; (focus (assumption)); exact rfl; (focus (decide +kernel)); exact rfl; (focus (omega))) | ((with_reducible apply Step.lss); exact rfl; exact rfl; exact rfl) | ((with_reducible apply Step.gtr); exact rfl; exact rfl; exact rfl) | ((with_reducible apply Step.pickF); exact rfl; exact rfl; exact rfl; exact rfl; (focus ((simp only [decide_eq_true_eq, decide_eq_false_iff_not, Bool.not_eq_true', Bool.not_eq_false', Bool.not_true, Bool.not_false]; first | assumption | omega))))) | (with_reducible refine AWo.nil ?_) | ((with_reducible apply AW.seq)) | ((with_reducible apply Then.n)) | ((with_reducible apply AW.regL)) | ((with_reducible apply AW.block)) | ((with_reducible apply AW.skip)) | ((with_reducible apply AW.condT); exact rfl; (focus ((simp only [decide_eq_true_eq, decide_eq_false_iff_not, Bool.not_eq_true', Bool.not_eq_false', Bool.not_true, Bool.not_false]; first | assumption | omega))))))
              (refine AW.retD (l := [(4, _)]) (by repeat (first | exact trivial | (refine And.intro ⟨rfl, by (exact .bool _)⟩ ?_))) ?_; (repeat (first | refine Then.r ?_ | refine InBlk.r ?_)))
              exact ⟨_, rfl, rfl, rfl⟩
        · (repeat (first | (with_reducible refine AWo.cons ?_) | ((with_reducible refine Step.id ?_); first | ((with_reducible apply Step.assign); exact rfl; exact rfl) | ((with_reducible apply Step.lss); exact rfl; exact rfl; exact rfl)) | (with_reducible refine AWo.nil ?_) | ((with_reducible apply AW.seq)) | ((with_reducible apply Then.n)) | ((with_reducible apply AW.regL)) | ((with_reducible apply AW.exit)) | ((with_reducible apply InBlk.hit)) | ((with_reducible apply Then.e)) | ((with_reducible apply AW.condF); exact rfl; (focus ((simp only [decide_eq_true_eq, decide_eq_false_iff_not, Bool.not_eq_true', Bool.not_eq_false', Bool.not_true, Bool.not_false]; first | assumption | omega))))))
          (refine AW.retD (l := [(4, _)]) (by repeat (first | exact trivial | (refine And.intro ⟨rfl, by (exact .bool _)⟩ ?_))) ?_; (repeat (first | refine Then.r ?_ | refine InBlk.r ?_)))
          rw [List.take_of_length_le hge] at hall
          exact ⟨_, rfl, by simp [stripsB, hall]; omega, rfl⟩
def flT (n : Int) (l : List Int) (t : Nat) : Int := sm (flA (fun i => l.getD i 0) n t) l.length + sm (flB (fun i => l.getD i 0) n t) l.length + flC (fun i => l.getD i 0) n t l.length
def flX (n : Int) (l : List Int) : Nat → Int
  | 0 => 0
  | t + 1 => Max.max (flX n l t) (flT n l t)
theorem fl_bd {n t : Int} {p : Nat → Int} {k : Nat} (hn : 1 ≤ n ∧ n ≤ 2000) (hp : ∀ i, i < k → 1 ≤ p i ∧ p i ≤ n) : ∀ i, i ≤ k → 0 ≤ sm (flA p n t) i ∧ sm (flA p n t) i ≤ i ∧ 0 ≤ sm (flB p n t) i ∧ sm (flB p n t) i ≤ i ∧ 0 ≤ sm (flM p n t) i ∧ sm (flM p n t) i ≤ 2000 * i ∧ 0 ≤ sm (flF p n t) i ∧ sm (flF p n t) i ≤ 2000 * i
  | 0, _ => by simp [sm]
  | i + 1, h => by
    have ih := fl_bd (t := t) hn hp i (by omega)
    have hi := hp i (by omega)
    have a1 : 0 ≤ flA p n t i ∧ flA p n t i ≤ 1 := by unfold flA; split <;> omega
    have a2 : 0 ≤ flB p n t i ∧ flB p n t i ≤ 1 := by unfold flB; split <;> (try split) <;> omega
    have a3 : 0 ≤ flM p n t i ∧ flM p n t i ≤ 2000 := by unfold flM; split <;> (try split) <;> (try split) <;> omega
    have a4 : 0 ≤ flF p n t i ∧ flF p n t i ≤ 2000 := by unfold flF; split <;> (try split) <;> omega
    simp only [sm]
    omega
theorem flX_bd {n : Int} {l : List Int} (h : SpOk n l) : ∀ t, 0 ≤ flX n l t ∧ flX n l t ≤ 60000
  | 0 => by simp [flX]
  | t + 1 => by
    have ih := flX_bd h t
    have hb := fl_bd (t := t) ⟨h.n1, h.n2⟩ h.at_ l.length (Nat.le_refl _)
    have hl := h.len
    have hn := h.n1
    have c : 0 ≤ flC (fun i => l.getD i 0) n t l.length ∧ flC (fun i => l.getD i 0) n t l.length ≤ 40000 := by
      unfold flC
      split
      · generalize sm (flM (fun i => l.getD i 0) n t) l.length = M at *
        generalize sm (flF (fun i => l.getD i 0) n t) l.length = F at *
        have h2 := h.n2
        have h1 : 0 ≤ (M - F + n - 1) / n := Int.ediv_nonneg (by omega) (by omega)
        have h3 := Int.ediv_le_self (a := M - F + n - 1) n (by omega)
        omega
      · omega
    simp only [flX, flT]
    rw [Int.max_def]
    split <;> omega
/-- Floor never exceeds the number of bars of a packing. -/
theorem flX_le {n : Int} {l : List Int} {m : Nat} {G : Nat → Nat} (h : SpOk n l) (hG : Pack (fun i => l.getD i 0) G l.length m n) : ∀ t : Nat, 2 * ((t : Int) - 1) ≤ n → flX n l t ≤ m
  | 0, _ => by simp [flX]
  | t + 1, ht => by
    have ih := flX_le h hG t (by omega)
    have := floor_le (t := (t : Nat)) h.at_ hG h.n1 (by omega) (by omega)
    simp only [flX, flT]
    rw [Int.max_def]
    split <;> omega
set_option maxHeartbeats 4000000 in
set_option maxRecDepth 100000 in
theorem Floor_ok {m : AM} {v : Value} {l : List Int} {n : Int} (hl : Ints m v l) (hok : stripsB n l = true) : ACall Tryd.prog 59 #[.int .i64 n, v] m (Ret (.tuple #[.int .i64 (flX n l (n / 2 + 1).toNat), .int .i64 0]) m) := by
  have h := SpOk.of hok
  have hn1 := h.n1
  have hn2 := h.n2
  have hl14 := h.len
  obtain ⟨a, o, h1, h2, h3⟩ := id hl
  refine ACall.start Tryd.func59 rfl rfl ?_
  (repeat (first | (with_reducible refine AWo.cons ?_) | ((with_reducible refine Step.id ?_); first | ((with_reducible apply Step.move); exact rfl; exact rfl) | ((with_reducible apply Step.assign); exact rfl; exact rfl) | ((with_reducible apply Step.add); exact rfl; exact rfl; (focus (omega)); exact rfl) | ((with_reducible apply Step.quo); exact rfl; exact rfl; (focus (omega)); (focus (omega)); exact rfl) | ((with_reducible apply Step.not); exact rfl; exact rfl) | ((with_reducible apply Step.callR fit); exact rfl; exact Tryd.func88; exact rfl; exact rfl; exact (valid_ok (hl.old []) (by omega) hok))) | (with_reducible refine AWo.nil ?_) | ((with_reducible apply AW.seq)) | ((with_reducible apply Then.n)) | ((with_reducible apply AW.regL)) | ((with_reducible apply AW.block)) | ((with_reducible apply AW.skip)) | ((with_reducible apply AW.condF); exact rfl; (focus (rfl)))))
  refine AW.loopT (fun q t' L => ∃ t : Nat, q = (n / 2 + 1).toNat - t ∧ t ≤ (n / 2 + 1).toNat ∧ L = [] ∧ t' = [(0, .int .i64 n), (1, v), (6, .int .i64 (flX n l t)), (21, .int .i64 (n / 2 + 1)), (22, .int .i64 (t : Nat))]) ⟨_, _, _, (Or.inl ⟨rfl, (by repeat (first | exact trivial | (refine And.intro rfl ?_)))⟩), 0, rfl, Nat.zero_le _, rfl, rfl⟩ ?_
  rintro q t' L ⟨t, rfl, ht, rfl, rfl⟩
  have hXb := flX_bd h t
  rcases Nat.lt_or_ge t (n / 2 + 1).toNat with hlt | hge
  · have hX2 : flX n l (t + 1) = Max.max (flX n l t) (flT n l t) := rfl
    generalize flX n l t = X at *
    (repeat (first | (with_reducible refine AWo.cons ?_) | ((with_reducible refine Step.id ?_); first | ((with_reducible apply Step.move); exact rfl; exact rfl) | ((with_reducible apply Step.assign); exact rfl; exact rfl) | ((with_reducible apply Step.lss); exact rfl; exact rfl; exact rfl) | ((with_reducible apply Step.len); exact rfl; (focus (assumption)); (focus (decide +kernel)); exact rfl)) | (with_reducible refine AWo.nil ?_) | ((with_reducible apply AW.seq)) | ((with_reducible apply Then.n)) | ((with_reducible apply AW.regL)) | ((with_reducible apply AW.block)) | ((with_reducible apply AW.skip)) | ((with_reducible apply AW.condT); exact rfl; (focus ((simp only [decide_eq_true_eq, decide_eq_false_iff_not, Bool.not_eq_true', Bool.not_eq_false', Bool.not_true, Bool.not_false]; first | assumption | omega))))))
    refine AW.loopT (fun q t' L => ∃ i : Nat, q = l.length - i ∧ i ≤ l.length ∧ L = [] ∧ t' = [(0, .int .i64 n), (1, v), (6, .int .i64 X), (21, .int .i64 (n / 2 + 1)), (22, .int .i64 (t : Nat)), (7, .int .i64 (t : Nat)), (8, .int .i64 (sm (flA (fun i => l.getD i 0) n t) i)), (9, .int .i64 (sm (flB (fun i => l.getD i 0) n t) i)), (10, .int .i64 (sm (flM (fun i => l.getD i 0) n t) i)), (11, .int .i64 (sm (flF (fun i => l.getD i 0) n t) i)), (25, v), (26, .int .i64 (l.length : Nat)), (27, .int .i64 (i : Nat))]) ⟨_, _, _, (Or.inl ⟨rfl, (by repeat (first | exact trivial | (refine And.intro rfl ?_)))⟩), 0, rfl, Nat.zero_le _, rfl, rfl⟩ ?_
    rintro q t' L ⟨i, rfl, hi, rfl, rfl⟩
    have hb := fl_bd (t := (t : Nat)) ⟨hn1, hn2⟩ h.at_ i hi
    rcases Nat.lt_or_ge i l.length with hil | hil
    · have hr := h3 i hil
      have hx := h.at_ i hil
      have eA : sm (flA (fun i => l.getD i 0) n t) (i + 1) = sm (flA (fun i => l.getD i 0) n t) i + flA (fun i => l.getD i 0) n t i := rfl
      have eB : sm (flB (fun i => l.getD i 0) n t) (i + 1) = sm (flB (fun i => l.getD i 0) n t) i + flB (fun i => l.getD i 0) n t i := rfl
      have eM : sm (flM (fun i => l.getD i 0) n t) (i + 1) = sm (flM (fun i => l.getD i 0) n t) i + flM (fun i => l.getD i 0) n t i := rfl
      have eF : sm (flF (fun i => l.getD i 0) n t) (i + 1) = sm (flF (fun i => l.getD i 0) n t) i + flF (fun i => l.getD i 0) n t i := rfl
      by_cases d1 : l.getD i 0 > n - t
      · have gA : flA (fun i => l.getD i 0) n t i = 1 := by simp only [flA, if_pos d1]
        have gB : flB (fun i => l.getD i 0) n t i = 0 := by simp only [flB, if_pos d1]
        have gM : flM (fun i => l.getD i 0) n t i = 0 := by simp only [flM, if_pos d1]
        have gF : flF (fun i => l.getD i 0) n t i = 0 := by simp only [flF, if_pos d1]
        rw [gA] at eA
        rw [gB, Int.add_zero] at eB
        rw [gM, Int.add_zero] at eM
        rw [gF, Int.add_zero] at eF
        generalize l.getD i 0 = x at *
        generalize sm (flA (fun i => l.getD i 0) n t) i = A at *
        generalize sm (flB (fun i => l.getD i 0) n t) i = B at *
        generalize sm (flM (fun i => l.getD i 0) n t) i = M at *
        generalize sm (flF (fun i => l.getD i 0) n t) i = F at *
        (repeat (first | (with_reducible refine AWo.cons ?_) | ((with_reducible refine Step.id ?_); first | ((with_reducible apply Step.move); exact rfl; exact rfl) | ((with_reducible apply Step.assign); exact rfl; exact rfl) | ((with_reducible apply Step.load); exact rfl; (focus (decide +kernel)); exact rfl; (focus (exact Rd.old _ (by assumption)))) | ((with_reducible apply Step.ix1); exact rfl; (focus (assumption)); exact rfl; (focus (decide +kernel)); exact rfl; (focus (omega))) | ((with_reducible apply Step.add); exact rfl; exact rfl; (focus (omega)); exact rfl) | ((with_reducible apply Step.sub); exact rfl; exact rfl; (focus (omega)); exact rfl) | ((with_reducible apply Step.lss); exact rfl; exact rfl; exact rfl) | ((with_reducible apply Step.gtr); exact rfl; exact rfl; exact rfl)) | (with_reducible refine AWo.nil ?_) | ((with_reducible apply AW.seq)) | ((with_reducible apply Then.n)) | ((with_reducible apply AW.regL)) | ((with_reducible apply AW.block)) | ((with_reducible apply InBlk.n)) | ((with_reducible apply AW.skip)) | ((with_reducible apply AW.condT); exact rfl; (focus ((simp only [decide_eq_true_eq, decide_eq_false_iff_not, Bool.not_eq_true', Bool.not_eq_false', Bool.not_true, Bool.not_false]; first | assumption | omega))))))
        exact ⟨_, [(0, .int .i64 n), (1, v), (6, .int .i64 X), (21, .int .i64 (n / 2 + 1)), (22, .int .i64 (t : Nat)), (7, .int .i64 (t : Nat)), (8, .int .i64 (A + 1)), (9, .int .i64 B), (10, .int .i64 M), (11, .int .i64 F), (25, v), (26, .int .i64 (l.length : Nat)), (27, .int .i64 (i + 1 : Nat))], [], by omega, (Or.inl ⟨rfl, (by repeat (first | exact trivial | (refine And.intro rfl ?_)))⟩), i + 1, rfl, by omega, rfl, by rw [eA, eB, eM, eF]⟩
      · by_cases d2 : 2 * l.getD i 0 > n
        · have gA : flA (fun i => l.getD i 0) n t i = 0 := by simp only [flA, if_neg d1]
          have gB : flB (fun i => l.getD i 0) n t i = 1 := by simp only [flB, if_neg d1, if_pos d2]
          have gM : flM (fun i => l.getD i 0) n t i = 0 := by simp only [flM, if_neg d1, if_pos d2]
          have gF : flF (fun i => l.getD i 0) n t i = n - l.getD i 0 := by simp only [flF, if_neg d1, if_pos d2]
          rw [gA, Int.add_zero] at eA
          rw [gB] at eB
          rw [gM, Int.add_zero] at eM
          rw [gF] at eF
          generalize l.getD i 0 = x at *
          generalize sm (flA (fun i => l.getD i 0) n t) i = A at *
          generalize sm (flB (fun i => l.getD i 0) n t) i = B at *
          generalize sm (flM (fun i => l.getD i 0) n t) i = M at *
          generalize sm (flF (fun i => l.getD i 0) n t) i = F at *
          (repeat (first | (with_reducible refine AWo.cons ?_) | ((with_reducible refine Step.id ?_); first | ((with_reducible apply Step.move); exact rfl; exact rfl) | ((with_reducible apply Step.assign); exact rfl; exact rfl) | ((with_reducible apply Step.load); exact rfl; (focus (decide +kernel)); exact rfl; (focus (exact Rd.old _ (by assumption)))) | ((with_reducible apply Step.ix1); exact rfl; (focus (assumption)); exact rfl; (focus (decide +kernel)); exact rfl; (focus (omega))) | ((with_reducible apply Step.add); exact rfl; exact rfl; (focus (omega)); exact rfl) | ((with_reducible apply Step.sub); exact rfl; exact rfl; (focus (omega)); exact rfl) | ((with_reducible apply Step.mul); exact rfl; exact rfl; (focus (omega)); exact rfl) | ((with_reducible apply Step.lss); exact rfl; exact rfl; exact rfl) | ((with_reducible apply Step.gtr); exact rfl; exact rfl; exact rfl)) | (with_reducible refine AWo.nil ?_) | ((with_reducible apply AW.seq)) | ((with_reducible apply Then.n)) | ((with_reducible apply AW.regL)) | ((with_reducible apply AW.block)) | ((with_reducible apply InBlk.n)) | ((with_reducible apply AW.skip)) | ((with_reducible apply AW.condT); exact rfl; (focus ((simp only [decide_eq_true_eq, decide_eq_false_iff_not, Bool.not_eq_true', Bool.not_eq_false', Bool.not_true, Bool.not_false]; first | assumption | omega)))) | ((with_reducible apply AW.condF); exact rfl; (focus ((simp only [decide_eq_true_eq, decide_eq_false_iff_not, Bool.not_eq_true', Bool.not_eq_false', Bool.not_true, Bool.not_false]; first | assumption | omega))))))
          exact ⟨_, [(0, .int .i64 n), (1, v), (6, .int .i64 X), (21, .int .i64 (n / 2 + 1)), (22, .int .i64 (t : Nat)), (7, .int .i64 (t : Nat)), (8, .int .i64 A), (9, .int .i64 (B + 1)), (10, .int .i64 M), (11, .int .i64 (F + (n - x))), (25, v), (26, .int .i64 (l.length : Nat)), (27, .int .i64 (i + 1 : Nat))], [], by omega, (Or.inl ⟨rfl, (by repeat (first | exact trivial | (refine And.intro rfl ?_)))⟩), i + 1, rfl, by omega, rfl, by rw [eA, eB, eM, eF]⟩
        · by_cases d3 : l.getD i 0 ≥ t
          · have gA : flA (fun i => l.getD i 0) n t i = 0 := by simp only [flA, if_neg d1]
            have gB : flB (fun i => l.getD i 0) n t i = 0 := by simp only [flB, if_neg d1, if_neg d2]
            have gM : flM (fun i => l.getD i 0) n t i = l.getD i 0 := by simp only [flM, if_neg d1, if_neg d2, if_pos d3]
            have gF : flF (fun i => l.getD i 0) n t i = 0 := by simp only [flF, if_neg d1, if_neg d2]
            rw [gA, Int.add_zero] at eA
            rw [gB, Int.add_zero] at eB
            rw [gM] at eM
            rw [gF, Int.add_zero] at eF
            generalize l.getD i 0 = x at *
            generalize sm (flA (fun i => l.getD i 0) n t) i = A at *
            generalize sm (flB (fun i => l.getD i 0) n t) i = B at *
            generalize sm (flM (fun i => l.getD i 0) n t) i = M at *
            generalize sm (flF (fun i => l.getD i 0) n t) i = F at *
            (repeat (first | (with_reducible refine AWo.cons ?_) | ((with_reducible refine Step.id ?_); first | ((with_reducible apply Step.move); exact rfl; exact rfl) | ((with_reducible apply Step.assign); exact rfl; exact rfl) | ((with_reducible apply Step.load); exact rfl; (focus (decide +kernel)); exact rfl; (focus (exact Rd.old _ (by assumption)))) | ((with_reducible apply Step.ix1); exact rfl; (focus (assumption)); exact rfl; (focus (decide +kernel)); exact rfl; (focus (omega))) | ((with_reducible apply Step.add); exact rfl; exact rfl; (focus (omega)); exact rfl) | ((with_reducible apply Step.sub); exact rfl; exact rfl; (focus (omega)); exact rfl) | ((with_reducible apply Step.mul); exact rfl; exact rfl; (focus (omega)); exact rfl) | ((with_reducible apply Step.lss); exact rfl; exact rfl; exact rfl) | ((with_reducible apply Step.gtr); exact rfl; exact rfl; exact rfl) | ((with_reducible apply Step.geq); exact rfl; exact rfl; exact rfl)) | (with_reducible refine AWo.nil ?_) | ((with_reducible apply AW.seq)) | ((with_reducible apply Then.n)) | ((with_reducible apply AW.regL)) | ((with_reducible apply AW.block)) | ((with_reducible apply InBlk.n)) | ((with_reducible apply AW.skip)) | ((with_reducible apply AW.condT); exact rfl; (focus ((simp only [decide_eq_true_eq, decide_eq_false_iff_not, Bool.not_eq_true', Bool.not_eq_false', Bool.not_true, Bool.not_false]; first | assumption | omega)))) | ((with_reducible apply AW.condF); exact rfl; (focus ((simp only [decide_eq_true_eq, decide_eq_false_iff_not, Bool.not_eq_true', Bool.not_eq_false', Bool.not_true, Bool.not_false]; first | assumption | omega))))))
            exact ⟨_, [(0, .int .i64 n), (1, v), (6, .int .i64 X), (21, .int .i64 (n / 2 + 1)), (22, .int .i64 (t : Nat)), (7, .int .i64 (t : Nat)), (8, .int .i64 A), (9, .int .i64 B), (10, .int .i64 (M + x)), (11, .int .i64 F), (25, v), (26, .int .i64 (l.length : Nat)), (27, .int .i64 (i + 1 : Nat))], [], by omega, (Or.inl ⟨rfl, (by repeat (first | exact trivial | (refine And.intro rfl ?_)))⟩), i + 1, rfl, by omega, rfl, by rw [eA, eB, eM, eF]⟩
          · have gA : flA (fun i => l.getD i 0) n t i = 0 := by simp only [flA, if_neg d1]
            have gB : flB (fun i => l.getD i 0) n t i = 0 := by simp only [flB, if_neg d1, if_neg d2]
            have gM : flM (fun i => l.getD i 0) n t i = 0 := by simp only [flM, if_neg d1, if_neg d2, if_neg d3]
            have gF : flF (fun i => l.getD i 0) n t i = 0 := by simp only [flF, if_neg d1, if_neg d2]
            rw [gA, Int.add_zero] at eA
            rw [gB, Int.add_zero] at eB
            rw [gM, Int.add_zero] at eM
            rw [gF, Int.add_zero] at eF
            generalize l.getD i 0 = x at *
            generalize sm (flA (fun i => l.getD i 0) n t) i = A at *
            generalize sm (flB (fun i => l.getD i 0) n t) i = B at *
            generalize sm (flM (fun i => l.getD i 0) n t) i = M at *
            generalize sm (flF (fun i => l.getD i 0) n t) i = F at *
            (repeat (first | (with_reducible refine AWo.cons ?_) | ((with_reducible refine Step.id ?_); first | ((with_reducible apply Step.move); exact rfl; exact rfl) | ((with_reducible apply Step.assign); exact rfl; exact rfl) | ((with_reducible apply Step.load); exact rfl; (focus (decide +kernel)); exact rfl; (focus (exact Rd.old _ (by assumption)))) | ((with_reducible apply Step.ix1); exact rfl; (focus (assumption)); exact rfl; (focus (decide +kernel)); exact rfl; (focus (omega))) | ((with_reducible apply Step.add); exact rfl; exact rfl; (focus (omega)); exact rfl) | ((with_reducible apply Step.sub); exact rfl; exact rfl; (focus (omega)); exact rfl) | ((with_reducible apply Step.mul); exact rfl; exact rfl; (focus (omega)); exact rfl) | ((with_reducible apply Step.lss); exact rfl; exact rfl; exact rfl) | ((with_reducible apply Step.gtr); exact rfl; exact rfl; exact rfl) | ((with_reducible apply Step.geq); exact rfl; exact rfl; exact rfl)) | (with_reducible refine AWo.nil ?_) | ((with_reducible apply AW.seq)) | ((with_reducible apply Then.n)) | ((with_reducible apply AW.regL)) | ((with_reducible apply AW.block)) | ((with_reducible apply InBlk.n)) | ((with_reducible apply AW.skip)) | ((with_reducible apply AW.condT); exact rfl; (focus ((simp only [decide_eq_true_eq, decide_eq_false_iff_not, Bool.not_eq_true', Bool.not_eq_false', Bool.not_true, Bool.not_false]; first | assumption | omega)))) | ((with_reducible apply AW.condF); exact rfl; (focus ((simp only [decide_eq_true_eq, decide_eq_false_iff_not, Bool.not_eq_true', Bool.not_eq_false', Bool.not_true, Bool.not_false]; first | assumption | omega))))))
            exact ⟨_, [(0, .int .i64 n), (1, v), (6, .int .i64 X), (21, .int .i64 (n / 2 + 1)), (22, .int .i64 (t : Nat)), (7, .int .i64 (t : Nat)), (8, .int .i64 A), (9, .int .i64 B), (10, .int .i64 M), (11, .int .i64 F), (25, v), (26, .int .i64 (l.length : Nat)), (27, .int .i64 (i + 1 : Nat))], [], by omega, (Or.inl ⟨rfl, (by repeat (first | exact trivial | (refine And.intro rfl ?_)))⟩), i + 1, rfl, by omega, rfl, by rw [eA, eB, eM, eF]⟩
    · obtain rfl : i = l.length := by omega
      have eT : flT n l t = sm (flA (fun i => l.getD i 0) n t) l.length + sm (flB (fun i => l.getD i 0) n t) l.length + flC (fun i => l.getD i 0) n t l.length := rfl
      by_cases d : sm (flM (fun i => l.getD i 0) n t) l.length > sm (flF (fun i => l.getD i 0) n t) l.length
      · have eC : flC (fun i => l.getD i 0) n t l.length = (sm (flM (fun i => l.getD i 0) n t) l.length - sm (flF (fun i => l.getD i 0) n t) l.length + n - 1) / n := by simp only [flC, if_pos d]
        rw [eC] at eT
        have hC0 : 0 ≤ (sm (flM (fun i => l.getD i 0) n t) l.length - sm (flF (fun i => l.getD i 0) n t) l.length + n - 1) / n := Int.ediv_nonneg (by omega) (by omega)
        have hC1 := Int.ediv_le_self (a := sm (flM (fun i => l.getD i 0) n t) l.length - sm (flF (fun i => l.getD i 0) n t) l.length + n - 1) n (by omega)
        generalize sm (flA (fun i => l.getD i 0) n t) l.length = A at *
        generalize sm (flB (fun i => l.getD i 0) n t) l.length = B at *
        generalize sm (flM (fun i => l.getD i 0) n t) l.length = M at *
        generalize sm (flF (fun i => l.getD i 0) n t) l.length = F at *
        (repeat (first | (with_reducible refine AWo.cons ?_) | ((with_reducible refine Step.id ?_); first | ((with_reducible apply Step.move); exact rfl; exact rfl) | ((with_reducible apply Step.assign); exact rfl; exact rfl) | ((with_reducible apply Step.add); exact rfl; exact rfl; (focus (omega)); exact rfl) | ((with_reducible apply Step.sub); exact rfl; exact rfl; (focus (omega)); exact rfl) | ((with_reducible apply Step.lss); exact rfl; exact rfl; exact rfl) | ((with_reducible apply Step.gtr); exact rfl; exact rfl; exact rfl) | ((with_reducible apply Step.quo); exact rfl; exact rfl; (focus (omega)); (focus (omega)); exact rfl) | ((with_reducible apply Step.max); exact rfl; exact rfl; exact rfl)) | (with_reducible refine AWo.nil ?_) | ((with_reducible apply AW.seq)) | ((with_reducible apply Then.n)) | ((with_reducible apply AW.regL)) | ((with_reducible apply AW.exit)) | ((with_reducible apply InBlk.n)) | ((with_reducible apply InBlk.hit)) | ((with_reducible apply Then.e)) | ((with_reducible apply AW.condT); exact rfl; (focus ((simp only [decide_eq_true_eq, decide_eq_false_iff_not, Bool.not_eq_true', Bool.not_eq_false', Bool.not_true, Bool.not_false]; first | assumption | omega)))) | ((with_reducible apply AW.condF); exact rfl; (focus ((simp only [decide_eq_true_eq, decide_eq_false_iff_not, Bool.not_eq_true', Bool.not_eq_false', Bool.not_true, Bool.not_false]; first | assumption | omega))))))
        exact ⟨_, [(0, .int .i64 n), (1, v), (6, .int .i64 (Max.max X (A + B + (M - F + n - 1) / n))), (21, .int .i64 (n / 2 + 1)), (22, .int .i64 (t + 1 : Nat))], [], by omega, (Or.inl ⟨rfl, (by repeat (first | exact trivial | (refine And.intro rfl ?_)))⟩), t + 1, rfl, by omega, rfl, by rw [hX2, eT]⟩
      · have eC : flC (fun i => l.getD i 0) n t l.length = 0 := by simp only [flC, if_neg d]
        rw [eC] at eT
        generalize sm (flA (fun i => l.getD i 0) n t) l.length = A at *
        generalize sm (flB (fun i => l.getD i 0) n t) l.length = B at *
        generalize sm (flM (fun i => l.getD i 0) n t) l.length = M at *
        generalize sm (flF (fun i => l.getD i 0) n t) l.length = F at *
        (repeat (first | (with_reducible refine AWo.cons ?_) | ((with_reducible refine Step.id ?_); first | ((with_reducible apply Step.move); exact rfl; exact rfl) | ((with_reducible apply Step.assign); exact rfl; exact rfl) | ((with_reducible apply Step.add); exact rfl; exact rfl; (focus (omega)); exact rfl) | ((with_reducible apply Step.lss); exact rfl; exact rfl; exact rfl) | ((with_reducible apply Step.gtr); exact rfl; exact rfl; exact rfl) | ((with_reducible apply Step.max); exact rfl; exact rfl; exact rfl)) | (with_reducible refine AWo.nil ?_) | ((with_reducible apply AW.seq)) | ((with_reducible apply Then.n)) | ((with_reducible apply AW.regL)) | ((with_reducible apply AW.exit)) | ((with_reducible apply InBlk.n)) | ((with_reducible apply InBlk.hit)) | ((with_reducible apply Then.e)) | ((with_reducible apply AW.skip)) | ((with_reducible apply AW.condF); exact rfl; (focus ((simp only [decide_eq_true_eq, decide_eq_false_iff_not, Bool.not_eq_true', Bool.not_eq_false', Bool.not_true, Bool.not_false]; first | assumption | omega))))))
        exact ⟨_, [(0, .int .i64 n), (1, v), (6, .int .i64 (Max.max X (A + B + 0))), (21, .int .i64 (n / 2 + 1)), (22, .int .i64 (t + 1 : Nat))], [], by omega, (Or.inl ⟨rfl, (by repeat (first | exact trivial | (refine And.intro rfl ?_)))⟩), t + 1, rfl, by omega, rfl, by rw [hX2, eT]⟩
  · obtain rfl : t = (n / 2 + 1).toNat := by omega
    (repeat (first | (with_reducible refine AWo.cons ?_) | ((with_reducible refine Step.id ?_); first | ((with_reducible apply Step.move); exact rfl; exact rfl) | ((with_reducible apply Step.assign); exact rfl; exact rfl) | ((with_reducible apply Step.lss); exact rfl; exact rfl; exact rfl)) | (with_reducible refine AWo.nil ?_) | ((with_reducible apply AW.seq)) | ((with_reducible apply Then.n)) | ((with_reducible apply AW.regL)) | ((with_reducible apply AW.exit)) | ((with_reducible apply InBlk.hit)) | ((with_reducible apply Then.e)) | ((with_reducible apply AW.condF); exact rfl; (focus ((simp only [decide_eq_true_eq, decide_eq_false_iff_not, Bool.not_eq_true', Bool.not_eq_false', Bool.not_true, Bool.not_false]; first | assumption | omega))))))
    (refine AW.retD (l := [(4, _), (5, _)]) (by repeat (first | exact trivial | (refine And.intro ⟨rfl, by (exact .int _ _)⟩ ?_))) ?_; (repeat (first | refine Then.r ?_ | refine InBlk.r ?_)))
    exact ⟨_, rfl, rfl, rfl⟩
end Go.Proofs.YtibhgdglbillaaaDoor.Abs
namespace Go.Proofs.YtibhgdglbillaaaDoor.Abs
set_option linter.unusedSimpArgs false
set_option linter.unusedVariables false
open Go.RowKit
open Go.Proofs.YtibhgdglbillaaaDoor.Sim
open Go.Proofs
/-- A comparison that reads the row's memory, whatever the row is. -/
structure CmpOk (m : AM) (r s : Nat) (kd : Kind) (c : Int → Int → Int) (p : Int → Prop) (g : FuncId) (cap : Array Value) : Prop where
  hr : r < m.length
  hkd : kd.solid = true
  call : ∀ l x y, p x → p y → ACall Tryd.prog g (#[] ++ #[.int .i64 x, .int .i64 y] ++ cap) (St m r kd s l) (Ret (.int .i64 (c x y)) (St m r kd s l))
section
variable {m : AM} {r s : Nat} {kd : Kind} {le : Int → Int → Bool} {c : Int → Int → Int} {p : Int → Prop} {g : FuncId} {cap : Array Value} {fn : Func} {bd : Code}
/-- Of two places the comparison answers as the order does. -/
def Cross (le : Int → Int → Bool) (c : Int → Int → Int) (x y : Int) : Prop := c y x < 0 ↔ le x y = false
set_option maxRecDepth 100000 in
theorem f123_ok (hC : CmpOk m r s kd c p g cap) (hT : TO le) (hf : Tryd.prog.funcs[g]? = some fn) (hb : fn.body = some bd) (a b n : Nat) (pre A post : List Int) (ha : pre.length = a) (hab : a + A.length = b) (hn : (pre ++ A ++ post).length = n) (hlim : n ≤ 1000000)
    (hp : ∀ x ∈ A, p x) (hX : A.Pairwise (Cross le c)) :
    ACall Tryd.prog 123 #[.slice (some ⟨r, 0, none⟩) n n, .int .i64 (a : Nat), .int .i64 (b : Nat), .func (.func g) #[] cap] (St m r kd s (pre ++ A ++ post)) (Ret (.tuple #[]) (St m r kd s (pre ++ ms le A ++ post))) := by
  have hr := hC.hr; have hkd := hC.hkd
  have hlen : pre.length + A.length + post.length = n := by rw [← hn]; simp; omega
  refine ACall.intro Tryd.func123 rfl (Nat.le_of_ble_eq_true rfl) ?_
  (repeat (first | (with_reducible refine AWo.cons ?_) | ((with_reducible refine Step.id ?_); first | ((with_reducible apply Step.move); exact rfl; exact rfl) | ((with_reducible apply Step.assign); exact rfl; exact rfl) | ((with_reducible apply Step.add); exact rfl; exact rfl; (focus (omega)); exact rfl)) | (with_reducible refine AWo.nil ?_) | ((with_reducible apply AW.seq)) | ((with_reducible apply Then.n)) | ((with_reducible apply AW.regL)) | ((with_reducible apply AW.block))))
  refine AW.loopW (fun k t M => ∃ q, k = A.length - q ∧ 1 ≤ q ∧ q ≤ max 1 A.length ∧ t = fr [(0, .slice (some ⟨r, 0, none⟩) n n), (1, .int .i64 (a : Nat)), (2, .int .i64 (b : Nat)), (3, .func (.func g) #[] cap), (8, .int .i64 ((a + q : Nat) : Int))] ∧
    M = St m r kd s (pre ++ ms le (A.take q) ++ (A.drop q ++ post))) ⟨_, _, (by repeat (first | exact trivial | (refine And.intro rfl ?_))), 1, rfl, Nat.le_refl _, by omega, rfl, ?_⟩ ?_
  · cases A with
    | nil => simp [ms]
    | cons x l => simp [ms]
  rintro k t M ⟨q, rfl, hq1, hq, rfl, rfl⟩
  rcases Nat.lt_or_ge q A.length with hlt | hge
  · obtain ⟨x, hx⟩ : ∃ x, x = A.getD q 0 := ⟨_, rfl⟩
    have hdrop : A.drop q = x :: A.drop (q + 1) := by
      rw [List.drop_eq_getElem_cons hlt, hx]; simp [hlt]
    have htake : A.take (q + 1) = A.take q ++ [x] := by
      rw [List.take_succ_eq_append_getElem hlt, hx]; simp [hlt]
    have hxA : x ∈ A := by rw [hx]; simp [hlt]
    have hcr : ∀ z ∈ A.take q, c x z < 0 ↔ le z x = false := fun z hz => by
      rw [← List.take_append_drop q A, hdrop] at hX
      exact (List.pairwise_append.1 hX).2.2 z hz x (by simp)
    have hmem : ∀ z ∈ A.take q, z ∈ A := fun z hz => List.mem_of_mem_take hz
    have hsl : (ms le (A.take q)).length = q := by rw [ms_len]; simp; omega
    rw [hdrop]
    generalize hR : A.drop (q + 1) = R
    have hRl : R.length = A.length - (q + 1) := by rw [← hR]; simp
    have hgoal : ms le (A.take q ++ [x]) = ms le (A.take (q + 1)) := by rw [htake]
    generalize hS : A.take q = S at *
    have hSl : S.length = q := by rw [← hS]; simp; omega
    (repeat (first | (with_reducible refine AWo.cons ?_) | ((with_reducible refine Step.id ?_); first | ((with_reducible apply Step.move); exact rfl; exact rfl) | ((with_reducible apply Step.assign); exact rfl; exact rfl) | ((with_reducible apply Step.lss); exact rfl; exact rfl; exact rfl)) | (with_reducible refine AWo.nil ?_) | ((with_reducible apply AW.seq)) | ((with_reducible apply Then.n)) | ((with_reducible apply AW.regL)) | ((with_reducible apply AW.block)) | ((with_reducible apply AW.skip)) | ((with_reducible apply AW.condT); exact rfl; (focus ((simp only [decide_eq_true_eq, decide_eq_false_iff_not, Bool.not_eq_true', Bool.not_eq_false', Bool.not_true, Bool.not_false]; first | assumption | omega))))))
    refine AW.loopW (fun k t M => ∃ (S1 S2 : List Int) (j : Nat), k = S1.length ∧ j = a + S1.length ∧ ms le S = S1 ++ S2 ∧ (∀ z ∈ S2, le x z = true) ∧ t = fr [(0, .slice (some ⟨r, 0, none⟩) n n), (1, .int .i64 (a : Nat)), (2, .int .i64 (b : Nat)), (3, .func (.func g) #[] cap), (8, .int .i64 ((a + q : Nat) : Int)), (9, .int .i64 ((j : Nat) : Int))] ∧
      M = St m r kd s (pre ++ S1 ++ x :: S2 ++ (R ++ post))) ⟨_, _, (by repeat (first | exact trivial | (refine And.intro rfl ?_))), ms le S, [], a + q, rfl, by rw [hsl], by simp, by simp, rfl, ?_⟩ ?_
    · have hq0 : ms le S ++ x :: R ++ post = ms le S ++ [] ++ x :: R ++ post := by simp
      simp
    rintro k t M ⟨S1, S2, j, rfl, rfl, hms, hS2, rfl, rfl⟩
    have hl2 : S1.length + S2.length = q := by rw [← List.length_append, ← hms, hsl]
    rcases List.eq_nil_or_concat S1 with rfl | ⟨S1', z, rfl⟩
    · (repeat (first | (with_reducible refine AWo.cons ?_) | ((with_reducible refine Step.id ?_); first | ((with_reducible apply Step.gdF); exact rfl; exact rfl; (focus ((simp; done)))) | ((with_reducible apply Step.move); exact rfl; exact rfl) | ((with_reducible apply Step.assign); exact rfl; exact rfl) | ((with_reducible apply Step.add); exact rfl; exact rfl; (focus (omega)); exact rfl) | ((with_reducible apply Step.gtr); exact rfl; exact rfl; exact rfl) | ((with_reducible apply Step.pickF); exact rfl; exact rfl; exact rfl; exact rfl; (focus ((simp; done))))) | (with_reducible refine AWo.nil ?_) | ((with_reducible apply AW.seq)) | ((with_reducible apply Then.n)) | ((with_reducible apply AW.regL)) | ((with_reducible apply AW.drawL fit); (focus (decide +kernel))) | ((with_reducible apply AW.exit)) | ((with_reducible apply InBlk.n)) | ((with_reducible apply InBlk.hit)) | ((with_reducible apply Then.e)) | ((with_reducible apply AW.condF); exact rfl; (focus (rfl)))))
      refine ⟨_, _, ?_, (by repeat (first | exact trivial | (refine And.intro rfl ?_))), q + 1, rfl, by omega, by omega, rfl, ?_⟩
      · omega
      · have := ms_one (l := S) hT (S1 := []) (S2 := S2) (by rw [← hms]; exact ms_srt hT) (by simp) hS2 (by rw [← hms]; exact ms_perm)
        rw [← hgoal, this, hR]
        simp
    · have hz : z ∈ S := by rw [← ms_mem (le := le), hms]; simp
      have hcz := hcr z hz
      simp only [List.concat_eq_append] at hms hl2 ⊢
      have e1 : pre ++ (S1' ++ [z]) ++ x :: S2 ++ (R ++ post) = (pre ++ S1') ++ z :: x :: (S2 ++ (R ++ post)) := by simp
      rw [e1]
      have hl3 : S1'.length + 1 + S2.length = q := by simpa using hl2
      have hsw := swp_adj (p := pre ++ S1') (q := S2 ++ (R ++ post)) (x := z) (y := x) (i := a + S1'.length) (by simp [ha])
      have hg1 : ((pre ++ S1') ++ z :: x :: (S2 ++ (R ++ post))).getD (a + S1'.length) 0 = z := by rw [getD_r (j := 0) (by simp [ha])]; simp
      have hg2 : ((pre ++ S1') ++ z :: x :: (S2 ++ (R ++ post))).getD (a + S1'.length + 1) 0 = x := by rw [getD_r (j := 1) (by simp only [List.length_append]; omega)]; simp
      have hll : ((pre ++ S1') ++ z :: x :: (S2 ++ (R ++ post))).length = n := by simp only [List.length_append, List.length_cons]; omega
      have hlen1 : (S1' ++ [z]).length = S1'.length + 1 := by simp
      generalize hrow : ((pre ++ S1') ++ z :: x :: (S2 ++ (R ++ post))) = row at *
      rw [hlen1]
      have r1 : Rd (St m r kd s row) r (a + S1'.length) (.int .i64 z) := by rw [← hg1]; exact St.rd hr (by omega)
      have r2 : Rd (St m r kd s row) r (a + S1'.length + 1) (.int .i64 x) := by rw [← hg2]; exact St.rd hr (by omega)
      have e2 : ((a + (S1'.length + 1) : Nat) : Int) - 1 = ((a + S1'.length : Nat) : Int) := by omega
      have hc := hC.call row x z (hp x hxA) (hp z (hmem z hz))
      by_cases hlt2 : c x z < 0
      · (repeat (first | (with_reducible refine AWo.cons ?_) | ((with_reducible refine Step.id ?_); first | ((with_reducible apply Step.gdT); exact rfl; exact rfl; (focus ((simp only [decide_eq_true_eq, decide_eq_false_iff_not, Bool.not_eq_true', Bool.not_eq_false', Bool.not_true, Bool.not_false]; first | assumption | omega)))) | ((with_reducible apply Step.move); exact rfl; exact rfl) | ((with_reducible apply Step.assign); exact rfl; exact rfl) | ((with_reducible apply Step.load); exact rfl; (focus (decide +kernel)); exact rfl; (focus (assumption))) | ((with_reducible apply Step.ix1z); exact rfl; (focus (exact Sl.mk (by omega))); exact rfl; (focus (decide +kernel)); exact rfl; (focus (omega))) | ((with_reducible apply Step.subE); exact rfl; exact rfl; (focus (assumption)); (focus (omega)); exact rfl) | ((with_reducible apply Step.lss); exact rfl; exact rfl; exact rfl) | ((with_reducible apply Step.gtr); exact rfl; exact rfl; exact rfl) | ((with_reducible apply Step.pickT); exact rfl; exact rfl; exact rfl; exact rfl; (focus ((simp only [decide_eq_true_eq, decide_eq_false_iff_not, Bool.not_eq_true', Bool.not_eq_false', Bool.not_true, Bool.not_false]; first | assumption | omega)))) | ((with_reducible apply Step.callV fit); exact rfl; exact rfl; exact hf; exact hb; exact rfl; exact (hc)) | ((with_reducible apply Step.storeR); exact rfl; exact rfl; (focus (decide +kernel)); exact hr; exact hkd; (focus (first | omega | (simp [swp, ms_len]; omega))); exact rfl)) | (with_reducible refine AWo.nil ?_) | ((with_reducible apply AW.seq)) | ((with_reducible apply Then.n)) | ((with_reducible apply AW.regL)) | ((with_reducible apply AW.block)) | ((with_reducible apply AW.drawL fit); (focus (decide +kernel))) | ((with_reducible apply InBlk.n)) | ((with_reducible apply AW.skip)) | ((with_reducible apply AW.condT); exact rfl; (focus ((simp only [decide_eq_true_eq, decide_eq_false_iff_not, Bool.not_eq_true', Bool.not_eq_false', Bool.not_true, Bool.not_false]; first | assumption | omega))))))
        have hxz : le x z = true := hT.of_not ((hcr z hz).1 hlt2)
        refine ⟨_, _, ?_, (by repeat (first | exact trivial | (refine And.intro rfl ?_))), S1', z :: S2, a + S1'.length, rfl, rfl, by rw [hms]; simp, fun y hy => ?_, rfl, ?_⟩
        · omega
        · rcases List.mem_cons.1 hy with rfl | hy
          · exact hxz
          · exact hS2 y hy
        · have : (row.set (a + (S1'.length + 1)) z).set (a + S1'.length) x = swp row (a + S1'.length) (a + S1'.length + 1) := by
            rw [swp_comm _ _ _ (by omega), swp, hg1, hg2]; rfl
          rw [this, hsw]
          simp
      · (repeat (first | (with_reducible refine AWo.cons ?_) | ((with_reducible refine Step.id ?_); first | ((with_reducible apply Step.gdT); exact rfl; exact rfl; (focus ((simp only [decide_eq_true_eq, decide_eq_false_iff_not, Bool.not_eq_true', Bool.not_eq_false', Bool.not_true, Bool.not_false]; first | assumption | omega)))) | ((with_reducible apply Step.move); exact rfl; exact rfl) | ((with_reducible apply Step.assign); exact rfl; exact rfl) | ((with_reducible apply Step.load); exact rfl; (focus (decide +kernel)); exact rfl; (focus (assumption))) | ((with_reducible apply Step.ix1z); exact rfl; (focus (exact Sl.mk (by omega))); exact rfl; (focus (decide +kernel)); exact rfl; (focus (omega))) | ((with_reducible apply Step.subE); exact rfl; exact rfl; (focus (assumption)); (focus (omega)); exact rfl) | ((with_reducible apply Step.add); exact rfl; exact rfl; (focus (omega)); exact rfl) | ((with_reducible apply Step.lss); exact rfl; exact rfl; exact rfl) | ((with_reducible apply Step.gtr); exact rfl; exact rfl; exact rfl) | ((with_reducible apply Step.pickT); exact rfl; exact rfl; exact rfl; exact rfl; (focus ((simp only [decide_eq_true_eq, decide_eq_false_iff_not, Bool.not_eq_true', Bool.not_eq_false', Bool.not_true, Bool.not_false]; first | assumption | omega)))) | ((with_reducible apply Step.callV fit); exact rfl; exact rfl; exact hf; exact hb; exact rfl; exact (hc))) | (with_reducible refine AWo.nil ?_) | ((with_reducible apply AW.seq)) | ((with_reducible apply Then.n)) | ((with_reducible apply AW.regL)) | ((with_reducible apply AW.drawL fit); (focus (decide +kernel))) | ((with_reducible apply AW.exit)) | ((with_reducible apply InBlk.n)) | ((with_reducible apply InBlk.hit)) | ((with_reducible apply Then.e)) | ((with_reducible apply AW.condF); exact rfl; (focus ((simp only [decide_eq_true_eq, decide_eq_false_iff_not, Bool.not_eq_true', Bool.not_eq_false', Bool.not_true, Bool.not_false]; first | assumption | omega))))))
        have hzx : le z x = true := by
          cases hq : le z x with
          | true => rfl
          | false => exact absurd ((hcr z hz).2 hq) hlt2
        refine ⟨_, _, ?_, (by repeat (first | exact trivial | (refine And.intro rfl ?_))), q + 1, rfl, by omega, by omega, rfl, ?_⟩
        · omega
        · have hs := ms_srt (l := S) hT
          rw [hms] at hs
          have := ms_one (l := S) hT hs (fun y hy => by
            rcases List.mem_append.1 hy with hy | hy
            · exact hT.tr _ _ _ ((List.pairwise_append.1 (List.pairwise_append.1 hs).1).2.2 y hy z (by simp)) hzx
            · simp at hy; subst hy; exact hzx) hS2 (by rw [← hms]; exact ms_perm)
          rw [← hgoal, this, hR, ← hrow]
          simp
  · (repeat (first | (with_reducible refine AWo.cons ?_) | ((with_reducible refine Step.id ?_); first | ((with_reducible apply Step.move); exact rfl; exact rfl) | ((with_reducible apply Step.lss); exact rfl; exact rfl; exact rfl)) | (with_reducible refine AWo.nil ?_) | ((with_reducible apply AW.seq)) | ((with_reducible apply Then.n)) | ((with_reducible apply AW.regL)) | ((with_reducible apply AW.exit)) | ((with_reducible apply InBlk.hit)) | ((with_reducible apply Then.e)) | ((with_reducible apply AW.condF); exact rfl; (focus ((simp only [decide_eq_true_eq, decide_eq_false_iff_not, Bool.not_eq_true', Bool.not_eq_false', Bool.not_true, Bool.not_false]; first | assumption | omega))))))
    refine ⟨_, rfl, rfl, ?_⟩
    rw [List.take_of_length_le (by omega), List.drop_eq_nil_of_le (by omega)]
    simp
set_option maxRecDepth 100000 in
theorem f115_ok (hC : CmpOk m r s kd c p g cap) (hT : TO le) (hf : Tryd.prog.funcs[g]? = some fn) (hb : fn.body = some bd) (n : Nat) (l : List Int) (hl : l.length = n) (hn : n ≤ 19) (hp : ∀ x ∈ l, p x) (hX : l.Pairwise (Cross le c)) :
    ACall Tryd.prog 115 #[.slice (some ⟨r, 0, none⟩) n n, .int .i64 (n : Nat), .func (.func g) #[] cap] (St m r kd s l) (Ret (.tuple #[]) (St m r kd s (ms le l))) := by
  have hr := hC.hr; have hkd := hC.hkd
  have i2 : ACall Tryd.prog 123 #[.slice (some ⟨r, 0, none⟩) n n, .int .i64 ((0 : Nat) : Int), .int .i64 (n : Nat), .func (.func g) #[] cap] (St m r kd s l) (Ret (.tuple #[]) (St m r kd s (ms le l))) := by
    have := f123_ok hC hT hf hb 0 n n [] l [] rfl (by omega) (by simp; omega) (by omega) hp hX
    simpa only [List.nil_append, List.append_nil] using this
  refine ACall.intro Tryd.func115 rfl (Nat.le_of_ble_eq_true rfl) ?_
  (repeat (first | (with_reducible refine AWo.cons ?_) | ((with_reducible refine Step.id ?_); first | ((with_reducible apply Step.move); exact rfl; exact rfl) | ((with_reducible apply Step.assign); exact rfl; exact rfl)) | (with_reducible refine AWo.nil ?_) | ((with_reducible apply AW.seq)) | ((with_reducible apply Then.n)) | ((with_reducible apply AW.regL)) | ((with_reducible apply AW.block))))
  refine AW.loopW (fun u t M => u = 0 ∧ t = fr [(0, .slice (some ⟨r, 0, none⟩) n n), (1, .int .i64 (n : Nat)), (2, .func (.func g) #[] cap), (6, .int .i64 20), (7, .int .i64 0), (8, .int .i64 20)] ∧ M = St m r kd s l) ⟨_, _, (by repeat (first | exact trivial | (refine And.intro rfl ?_))), rfl, rfl, rfl⟩ ?_
  rintro u t M ⟨rfl, rfl, rfl⟩
  (repeat (first | (with_reducible refine AWo.cons ?_) | ((with_reducible refine Step.id ?_); first | ((with_reducible apply Step.move); exact rfl; exact rfl) | ((with_reducible apply Step.leq); exact rfl; exact rfl; exact rfl) | ((with_reducible apply Step.callM fit); exact rfl; exact Tryd.func123; exact rfl; exact rfl; exact (i2))) | (with_reducible refine AWo.nil ?_) | ((with_reducible apply AW.seq)) | ((with_reducible apply Then.n)) | ((with_reducible apply AW.regL)) | ((with_reducible apply AW.block)) | ((with_reducible apply AW.exit)) | ((with_reducible apply InBlk.hit)) | ((with_reducible apply Then.e)) | ((with_reducible apply AW.condF); exact rfl; (focus ((simp only [decide_eq_true_eq, decide_eq_false_iff_not, Bool.not_eq_true', Bool.not_eq_false', Bool.not_true, Bool.not_false]; first | assumption | omega))))))
  refine AW.loopW (fun u t M => u = 0 ∧ t = fr [(0, .slice (some ⟨r, 0, none⟩) n n), (1, .int .i64 (n : Nat)), (2, .func (.func g) #[] cap), (6, .int .i64 20)] ∧ M = St m r kd s (ms le l)) ⟨_, _, (by repeat (first | exact trivial | (refine And.intro rfl ?_))), rfl, rfl, rfl⟩ ?_
  rintro u t M ⟨rfl, rfl, rfl⟩
  (repeat (first | (with_reducible refine AWo.cons ?_) | ((with_reducible refine Step.id ?_); first | ((with_reducible apply Step.move); exact rfl; exact rfl) | ((with_reducible apply Step.lss); exact rfl; exact rfl; exact rfl)) | (with_reducible refine AWo.nil ?_) | ((with_reducible apply AW.seq)) | ((with_reducible apply Then.n)) | ((with_reducible apply AW.regL)) | ((with_reducible apply AW.exit)) | ((with_reducible apply InBlk.hit)) | ((with_reducible apply Then.e)) | ((with_reducible apply AW.condF); exact rfl; (focus ((simp only [decide_eq_true_eq, decide_eq_false_iff_not, Bool.not_eq_true', Bool.not_eq_false', Bool.not_true, Bool.not_false]; first | assumption | omega))))))
  exact ⟨_, rfl, rfl, rfl⟩
set_option maxRecDepth 100000 in
theorem stable_ok (hC : CmpOk m r s kd c p g cap) (hT : TO le) (hf : Tryd.prog.funcs[g]? = some fn) (hb : fn.body = some bd) (n : Nat) (l : List Int) (hl : l.length = n) (hn : n ≤ 19) (hp : ∀ x ∈ l, p x) (hX : l.Pairwise (Cross le c)) :
    ACall Tryd.prog 94 #[.slice (some ⟨r, 0, none⟩) n n, .func (.func g) #[] cap] (St m r kd s l) (Ret (.tuple #[]) (St m r kd s (ms le l))) := by
  refine ACall.intro Tryd.func94 rfl (Nat.le_of_ble_eq_true rfl) ?_
  (repeat (first | (with_reducible refine AWo.cons ?_) | ((with_reducible refine Step.id ?_); first | ((with_reducible apply Step.move); exact rfl; exact rfl) | ((with_reducible apply Step.len); exact rfl; (focus (exact Sl.mk (by omega))); (focus (decide +kernel)); exact rfl) | ((with_reducible apply Step.callM fit); exact rfl; exact Tryd.func115; exact rfl; exact rfl; exact ((f115_ok hC hT hf hb n l hl hn hp hX)))) | (with_reducible refine AWo.nil ?_) | ((with_reducible apply AW.regL))))
  exact ⟨_, rfl, rfl, rfl⟩
end
end Go.Proofs.YtibhgdglbillaaaDoor.Abs
namespace Go.Proofs.YtibhgdglbillaaaDoor.Abs
set_option linter.unusedSimpArgs false
set_option linter.unusedVariables false
open Go.RowKit
open Go.Proofs.YtibhgdglbillaaaDoor.Sim
open Go.Proofs
def ldc (l : Ld) : List Value := [.int .i64 (l.1 : Nat), .int .i64 l.2.1, .int .i64 (l.2.2 : Nat)]
def lvc (l : List Ld) : List Value := l.flatMap ldc
theorem lvc_len (l : List Ld) : (lvc l).length = l.length * 3 := by
  induction l with
  | nil => rfl
  | cons k l ih =>
    have : lvc (k :: l) = ldc k ++ lvc l := rfl
    rw [this, List.length_append, ih]
    simp [ldc]
    omega
theorem lvc_get : ∀ (l : List Ld) (i : Nat), i < l.length → ∀ (j : Nat) (v : Value), (ldc (l.getD i (0, 0, 0)))[j]? = some v → (lvc l)[i * 3 + j]? = some v
  | [], i, hi, _, _, _ => by simp at hi
  | k :: l, 0, _, j, v, hj => by
    have e : lvc (k :: l) = ldc k ++ lvc l := rfl
    have hj' : (ldc k)[j]? = some v := by simpa using hj
    have hlt := (List.getElem?_eq_some_iff.1 hj').1
    rw [e, Nat.zero_mul, Nat.zero_add, List.getElem?_append_left hlt]
    exact hj'
  | k :: l, i + 1, hi, j, v, hj => by
    have e : lvc (k :: l) = ldc k ++ lvc l := rfl
    have e3 : (ldc k).length = 3 := rfl
    rw [e, List.getElem?_append_right (by rw [e3]; omega), e3, show (i + 1) * 3 + j - 3 = i * 3 + j by omega]
    exact lvc_get l i (by simpa using hi) j v (by simpa using hj)
theorem lvc_app (a b : List Ld) : lvc (a ++ b) = lvc a ++ lvc b := by simp [lvc]
theorem lvc_set (l : List Ld) (i : Nat) (x : Ld) (h : i < l.length) : splice (lvc l) (i * 3) (ldc x) = lvc (l.set i x) := by
  have e1 : l = l.take i ++ l[i] :: l.drop (i + 1) := by rw [← List.drop_eq_getElem_cons h, List.take_append_drop]
  have e2 : l.set i x = l.take i ++ x :: l.drop (i + 1) := by rw [List.set_eq_take_append_cons_drop, if_pos h]
  have lt : (l.take i).length = i := by simp; omega
  rw [e2]
  conv => lhs; rw [e1]
  have c : ∀ (y : Ld), lvc (l.take i ++ y :: l.drop (i + 1)) = lvc (l.take i) ++ (ldc y ++ lvc (l.drop (i + 1))) := fun y => by rw [lvc_app]; rfl
  rw [c, c]
  have l1 : (lvc (l.take i)).length = i * 3 := by rw [lvc_len, lt]
  unfold splice
  rw [List.take_append_of_le_length (by omega), List.take_of_length_le (by omega), List.drop_append, List.drop_eq_nil_of_le (by omega), List.append_assoc, List.nil_append, l1]
  congr 2
  have l3 : (ldc x).length = 3 := rfl
  have l4 : (ldc l[i]).length = 3 := rfl
  rw [l3, show i * 3 + 3 - i * 3 = 3 by omega, List.drop_append, List.drop_eq_nil_of_le (by omega), l4]
  simp
theorem lvc_rep (n : Nat) : List.replicate (n * 3) (Value.int .i64 0) = lvc (List.replicate n (0, 0, 0)) := by
  induction n with
  | zero => rfl
  | succ n ih =>
    have e : lvc (List.replicate (n + 1) ((0, 0, 0) : Ld)) = ldc (0, 0, 0) ++ lvc (List.replicate n (0, 0, 0)) := by rw [List.replicate_succ]; rfl
    rw [e, ← ih, show (n + 1) * 3 = 3 + n * 3 by omega, ← List.replicate_append_replicate]
    rfl
theorem made3 (n : Nat) : (madeCells #[.int .i64 0, .int .i64 0, .int .i64 0] (n * 3)).toList = lvc (List.replicate n (0, 0, 0)) := by
  rw [← lvc_rep]
  apply List.ext_getElem?
  intro i
  simp only [madeCells, Array.toList_map, List.getElem?_map, List.getElem?_replicate, Array.getElem?_toList]
  by_cases h : i < n * 3
  · simp [h]
    rcases (show i % 3 = 0 ∨ i % 3 = 1 ∨ i % 3 = 2 by omega) with e | e | e <;> rw [e] <;> rfl
  · simp [h]
theorem g0_ldc (l : Ld) : ∀ v ∈ ldc l, g0 v = true := fun v hv => by
  simp only [ldc, List.mem_cons, List.not_mem_nil, or_false] at hv
  rcases hv with rfl | rfl | rfl <;> rfl
theorem g0_lvc (l : List Ld) : ∀ v ∈ lvc l, g0 v = true := fun v hv => by
  obtain ⟨x, _, hx⟩ := List.mem_flatMap.1 hv
  exact g0_ldc x v hx
section
variable {P : Program} {nt : Nat} {ops : Array Oper} {t : Fm} {K : Fm → AM → Prop} {d T : Nat} {p : String} {af : Array Edge}
theorem Step.make3 {x y : Operand} {X : TypeId} {n : Nat} {kx ky : IntKind} {e : TypeId} {by_ : Nat} {M L L' : AM} (k : Nat) (hk : L.length = k) (hx : evo t x = some (.int kx ((n : Nat) : Int))) (hy : evo t y = some (.int ky ((n : Nat) : Int))) (he : elemB P X = some (e, 3, by_, #[.int .i64 0, .int .i64 0, .int .i64 0])) (hb : by_ * n ≤ 281474976710656 ∧ n ≤ 9223372036854775807)
    (hlt : Nat.blt d nt = true) (hL : L ++ [some { cells := lvc (List.replicate n (0, 0, 0)) }] = L') (hK : K (put t d (.slice (some ⟨M.length + k, 0, none⟩) n n)) (M ++ L')) : Step P nt ops ⟨some d, .makeSlice X x y, T, p, af, none⟩ t (M ++ L) K :=
  Step.make k hk hx hy he ⟨hb.1, hb.2, by omega⟩ hlt (by rw [made3]; exact hL) hK
end
theorem rdl_ld {M L : AM} {k i : Nat} {l : List Ld} (h : L[k]? = some (some { cells := lvc l })) (hi : i < l.length) : RdL (M ++ L) (M.length + k) (i * 3) (ldc (l.getD i (0, 0, 0))) :=
  ⟨_, by rw [get_app]; exact h, fun j v hj => lvc_get l i hi j v hj⟩
end Go.Proofs.YtibhgdglbillaaaDoor.Abs
namespace Go.Proofs.YtibhgdglbillaaaDoor.Abs
set_option linter.unusedSimpArgs false
set_option linter.unusedVariables false
open Go.RowKit
open Go.Proofs.YtibhgdglbillaaaDoor.Sim
open Go.Proofs
def cmpI (x y : Int) : Int := if x < y then -1 else if y < x then 1 else 0
set_option maxRecDepth 100000 in
theorem isNaN_ok {m : AM} (x : Int) : ACall Tryd.prog 116 #[.int .i64 x] m (Ret (.bool false) m) := by
  refine ACall.start Tryd.func116 rfl rfl ?_
  (repeat (first | (with_reducible refine AWo.cons ?_) | ((with_reducible refine Step.id ?_); first | ((with_reducible apply Step.move); exact rfl; exact rfl) | ((with_reducible apply Step.assign); exact rfl; exact rfl) | ((with_reducible apply Step.neq); exact rfl; exact rfl; exact rfl)) | (with_reducible refine AWo.nil ?_) | ((with_reducible apply AW.seq)) | ((with_reducible apply Then.n)) | ((with_reducible apply AW.regL))))
  (refine AW.retD (l := [(2, _)]) (by repeat (first | exact trivial | (refine And.intro ⟨rfl, by (exact .bool _)⟩ ?_))) ?_; (repeat (first | refine Then.r ?_ | refine InBlk.r ?_)))
  exact ⟨_, rfl, by simp, rfl⟩
set_option maxRecDepth 100000 in
theorem compare_ok {m : AM} (x y : Int) {r : Int} (hr : cmpI x y = r) : ACall Tryd.prog 96 #[.int .i64 x, .int .i64 y] m (Ret (.int .i64 r) m) := by
  subst hr
  refine ACall.start Tryd.func96 rfl rfl ?_
  by_cases h1 : x < y
  · (repeat (first | (with_reducible refine AWo.cons ?_) | ((with_reducible refine Step.id ?_); first | ((with_reducible apply Step.move); exact rfl; exact rfl) | ((with_reducible apply Step.assign); exact rfl; exact rfl) | ((with_reducible apply Step.lss); exact rfl; exact rfl; exact rfl) | ((with_reducible apply Step.callR fit); exact rfl; exact Tryd.func116; exact rfl; exact rfl; exact (isNaN_ok _))) | (with_reducible refine AWo.nil ?_) | ((with_reducible apply AW.seq)) | ((with_reducible apply Then.n)) | ((with_reducible apply AW.regL)) | ((with_reducible apply AW.skip)) | ((with_reducible apply AW.condT); exact rfl; (focus ((simp only [decide_eq_true_eq, decide_eq_false_iff_not, Bool.not_eq_true', Bool.not_eq_false', Bool.not_true, Bool.not_false]; first | assumption | omega)))) | ((with_reducible apply AW.condF); exact rfl; (focus (rfl)))))
    (refine AW.retD (l := [(4, _)]) (by repeat (first | exact trivial | (refine And.intro ⟨rfl, by (exact .int _ _)⟩ ?_))) ?_; (repeat (first | refine Then.r ?_ | refine InBlk.r ?_)))
    exact ⟨_, rfl, by simp [cmpI, h1], rfl⟩
  · by_cases h2 : y < x
    · (repeat (first | (with_reducible refine AWo.cons ?_) | ((with_reducible refine Step.id ?_); first | ((with_reducible apply Step.move); exact rfl; exact rfl) | ((with_reducible apply Step.assign); exact rfl; exact rfl) | ((with_reducible apply Step.lss); exact rfl; exact rfl; exact rfl) | ((with_reducible apply Step.gtr); exact rfl; exact rfl; exact rfl) | ((with_reducible apply Step.callR fit); exact rfl; exact Tryd.func116; exact rfl; exact rfl; exact (isNaN_ok _))) | (with_reducible refine AWo.nil ?_) | ((with_reducible apply AW.seq)) | ((with_reducible apply Then.n)) | ((with_reducible apply AW.regL)) | ((with_reducible apply AW.skip)) | ((with_reducible apply AW.condT); exact rfl; (focus ((simp only [decide_eq_true_eq, decide_eq_false_iff_not, Bool.not_eq_true', Bool.not_eq_false', Bool.not_true, Bool.not_false]; first | assumption | omega)))) | ((with_reducible apply AW.condF); exact rfl; (focus (first | rfl | (simp only [decide_eq_true_eq, decide_eq_false_iff_not, Bool.not_eq_true', Bool.not_eq_false', Bool.not_true, Bool.not_false]; first | assumption | omega))))))
      (refine AW.retD (l := [(4, _)]) (by repeat (first | exact trivial | (refine And.intro ⟨rfl, by (exact .int _ _)⟩ ?_))) ?_; (repeat (first | refine Then.r ?_ | refine InBlk.r ?_)))
      exact ⟨_, rfl, by simp [cmpI, h1, h2], rfl⟩
    · (repeat (first | (with_reducible refine AWo.cons ?_) | ((with_reducible refine Step.id ?_); first | ((with_reducible apply Step.move); exact rfl; exact rfl) | ((with_reducible apply Step.assign); exact rfl; exact rfl) | ((with_reducible apply Step.lss); exact rfl; exact rfl; exact rfl) | ((with_reducible apply Step.gtr); exact rfl; exact rfl; exact rfl) | ((with_reducible apply Step.callR fit); exact rfl; exact Tryd.func116; exact rfl; exact rfl; exact (isNaN_ok _))) | (with_reducible refine AWo.nil ?_) | ((with_reducible apply AW.seq)) | ((with_reducible apply Then.n)) | ((with_reducible apply AW.regL)) | ((with_reducible apply AW.skip)) | ((with_reducible apply AW.condF); exact rfl; (focus (first | rfl | (simp only [decide_eq_true_eq, decide_eq_false_iff_not, Bool.not_eq_true', Bool.not_eq_false', Bool.not_true, Bool.not_false]; first | assumption | omega))))))
      (refine AW.retD (l := [(4, _)]) (by repeat (first | exact trivial | (refine And.intro ⟨rfl, by (exact .int _ _)⟩ ?_))) ?_; (repeat (first | refine Then.r ?_ | refine InBlk.r ?_)))
      exact ⟨_, rfl, by simp [cmpI, h1, h2], rfl⟩
def orL : List Int → Int
  | [] => 0
  | x :: l => if x = 0 then orL l else x
set_option maxRecDepth 100000 in
theorem or_ok {m : AM} {v : Value} {l : List Int} (hl : Ints m v l) (hlen : l.length ≤ 1000) {r : Int} (hr : orL l = r) : ACall Tryd.prog 108 #[v] m (Ret (.int .i64 r) m) := by
  subst hr
  obtain ⟨a, o, h1, h2, h3⟩ := hl
  refine ACall.start Tryd.func108 rfl rfl ?_
  (repeat (first | (with_reducible refine AWo.cons ?_) | ((with_reducible refine Step.id ?_); first | ((with_reducible apply Step.move); exact rfl; exact rfl) | ((with_reducible apply Step.assign); exact rfl; exact rfl) | ((with_reducible apply Step.len); exact rfl; (focus (assumption)); (focus (decide +kernel)); exact rfl)) | (with_reducible refine AWo.nil ?_) | ((with_reducible apply AW.seq)) | ((with_reducible apply Then.n)) | ((with_reducible apply AW.regL)) | ((with_reducible apply AW.block))))
  refine AW.loopT (fun n t L => ∃ k : Nat, n = l.length - k ∧ k ≤ l.length ∧ orL l = orL (l.drop k) ∧ L = [] ∧
    t = [(3, .int .i64 0), (6, v), (7, .int .i64 (l.length : Nat)), (8, .int .i64 (k : Nat))]) ⟨_, _, _, (Or.inl ⟨rfl, (by repeat (first | exact trivial | (refine And.intro rfl ?_)))⟩), 0, rfl, Nat.zero_le _, rfl, rfl, rfl⟩ ?_
  rintro n t L ⟨k, rfl, hk, ho, rfl, rfl⟩
  rcases Nat.lt_or_ge k l.length with hlt | hge
  · have hr := h3 k hlt
    have hd : l.drop k = l.getD k 0 :: l.drop (k + 1) := by rw [List.drop_eq_getElem_cons hlt]; simp [hlt]
    rw [hd, orL] at ho
    generalize l.getD k 0 = x at *
    by_cases hx : x = 0
    · rw [if_pos hx] at ho
      (repeat (first | (with_reducible refine AWo.cons ?_) | ((with_reducible refine Step.id ?_); first | ((with_reducible apply Step.move); exact rfl; exact rfl) | ((with_reducible apply Step.assign); exact rfl; exact rfl) | ((with_reducible apply Step.load); exact rfl; (focus (decide +kernel)); exact rfl; (focus (exact Rd.old _ (by assumption)))) | ((with_reducible apply Step.ix1); exact rfl; (focus (assumption)); exact rfl; (focus (decide +kernel)); exact rfl; (focus (omega))) | ((with_reducible apply Step.add); exact rfl; exact rfl; (focus (omega)); exact rfl) | ((with_reducible apply Step.lss); exact rfl; exact rfl; exact rfl) | ((with_reducible apply Step.neq); exact rfl; exact rfl; exact rfl)) | (with_reducible refine AWo.nil ?_) | ((with_reducible apply AW.seq)) | ((with_reducible apply Then.n)) | ((with_reducible apply AW.regL)) | ((with_reducible apply AW.block)) | ((with_reducible apply InBlk.n)) | ((with_reducible apply AW.skip)) | ((with_reducible apply AW.condT); exact rfl; (focus ((simp only [decide_eq_true_eq, decide_eq_false_iff_not, Bool.not_eq_true', Bool.not_eq_false', Bool.not_true, Bool.not_false]; first | assumption | omega)))) | ((with_reducible apply AW.condF); exact rfl; (focus ((simp only [decide_eq_true_eq, decide_eq_false_iff_not, Bool.not_eq_true', Bool.not_eq_false', Bool.not_true, Bool.not_false]; first | assumption | omega))))))
      exact ⟨_, _, _, by omega, (Or.inl ⟨rfl, (by repeat (first | exact trivial | (refine And.intro rfl ?_)))⟩), k + 1, rfl, by omega, ho, rfl, rfl⟩
    · rw [if_neg hx] at ho
      (repeat (first | (with_reducible refine AWo.cons ?_) | ((with_reducible refine Step.id ?_); first | ((with_reducible apply Step.move); exact rfl; exact rfl) | ((with_reducible apply Step.assign); exact rfl; exact rfl) | ((with_reducible apply Step.load); exact rfl; (focus (decide +kernel)); exact rfl; (focus (exact Rd.old _ (by assumption)))) | ((with_reducible apply Step.ix1); exact rfl; (focus (assumption)); exact rfl; (focus (decide +kernel)); exact rfl; (focus (omega))) | ((with_reducible apply Step.lss); exact rfl; exact rfl; exact rfl) | ((with_reducible apply Step.neq); exact rfl; exact rfl; exact rfl)) | (with_reducible refine AWo.nil ?_) | ((with_reducible apply AW.seq)) | ((with_reducible apply Then.n)) | ((with_reducible apply AW.regL)) | ((with_reducible apply AW.block)) | ((with_reducible apply AW.skip)) | ((with_reducible apply AW.condT); exact rfl; (focus ((simp only [decide_eq_true_eq, decide_eq_false_iff_not, Bool.not_eq_true', Bool.not_eq_false', Bool.not_true, Bool.not_false]; first | assumption | omega))))))
      (refine AW.retD (l := [(2, _)]) (by repeat (first | exact trivial | (refine And.intro ⟨rfl, by (exact .int _ _)⟩ ?_))) ?_; (repeat (first | refine Then.r ?_ | refine InBlk.r ?_)))
      exact ⟨_, rfl, by rw [ho], rfl⟩
  · obtain rfl : k = l.length := by omega
    (repeat (first | (with_reducible refine AWo.cons ?_) | ((with_reducible refine Step.id ?_); first | ((with_reducible apply Step.move); exact rfl; exact rfl) | ((with_reducible apply Step.assign); exact rfl; exact rfl) | ((with_reducible apply Step.lss); exact rfl; exact rfl; exact rfl)) | (with_reducible refine AWo.nil ?_) | ((with_reducible apply AW.seq)) | ((with_reducible apply Then.n)) | ((with_reducible apply AW.regL)) | ((with_reducible apply AW.exit)) | ((with_reducible apply InBlk.hit)) | ((with_reducible apply Then.e)) | ((with_reducible apply AW.condF); exact rfl; (focus ((simp only [decide_eq_true_eq, decide_eq_false_iff_not, Bool.not_eq_true', Bool.not_eq_false', Bool.not_true, Bool.not_false]; first | assumption | omega))))))
    (refine AW.retD (l := [(2, _)]) (by repeat (first | exact trivial | (refine And.intro ⟨rfl, by (exact .int _ _)⟩ ?_))) ?_; (repeat (first | refine Then.r ?_ | refine InBlk.r ?_)))
    exact ⟨_, rfl, by rw [ho, List.drop_length]; rfl, rfl⟩
theorem orL_lls (a b : Ld) : decide (orL [cmpI (a.1 : Nat) (b.1 : Nat), cmpI a.2.1 b.2.1] < 0) = lls a b := by
  unfold orL cmpI lls
  simp only [orL]
  rcases Nat.lt_trichotomy a.1 b.1 with h | h | h
  · simp [h, show (a.1 : Int) < (b.1 : Int) by omega]
  · rcases Int.lt_trichotomy a.2.1 b.2.1 with q | q | q
    · simp [h, q]
    · simp [h, q]
    · simp [h, q, show ¬ a.2.1 < b.2.1 by omega]
  · simp [show ¬ (a.1 : Int) < (b.1 : Int) by omega, show (b.1 : Int) < (a.1 : Int) by omega, show ¬ a.1 < b.1 by omega, show ¬ a.1 = b.1 by omega]
theorem ze129 : zeroB Tryd.prog 129 = some #[.int .i64 0, .int .i64 0, .int .i64 0] := by kernel_rfl
theorem bl129 {a b c : Int} : abuild Tryd.prog 129 [(0, .int .i64 a), (1, .int .i64 b), (2, .int .i64 c)] = some (.agg #[.int .i64 a, .int .i64 b, .int .i64 c]) := by kernel_rfl
theorem bl129u {b : Int} : abuild Tryd.prog 129 [(1, .int .i64 b)] = some (.agg #[.int .i64 0, .int .i64 b, .int .i64 0]) := by kernel_rfl
theorem el126 : elemB Tryd.prog 126 = some (129, 3, 24, #[.int .i64 0, .int .i64 0, .int .i64 0]) := by kernel_rfl
set_option maxHeartbeats 4000000 in
set_option maxRecDepth 100000 in
theorem with_ok {m : AM} (l : Ld) (n s : Int) (i : Nat) (hb : l.1 ≤ 100) (hu : 0 ≤ l.2.1 ∧ l.2.1 ≤ 2000) (hs : 0 ≤ s ∧ s ≤ 2000) : ACall Tryd.prog 107 #[.agg (ldc l).toArray, .int .i64 n, .int .i64 s, .int .i64 (i : Nat)] m (Ret (.agg (ldc (wth n l s i)).toArray) m) := by
  refine ACall.drop (Ren.aggI [_, _, _]) ?_
  obtain ⟨b, u, k⟩ := l
  simp only at hb hu
  have e : ((b + 1 : Nat) : Int) = (b : Int) + 1 := rfl
  change ACall Tryd.prog 107 #[.agg #[.int .i64 (b : Nat), .int .i64 u, .int .i64 (k : Nat)], _, _, _] m _
  refine ACall.start Tryd.func107 rfl rfl ?_
  by_cases hgt : u + s > n
  · have ew : wth n (b, u, k) s i = (b + 1, s, i) := by unfold wth; rw [if_pos hgt]
    rw [ew]
    (repeat (first | (with_reducible refine AWo.cons ?_) | ((with_reducible refine Step.id ?_); first | ((with_reducible apply Step.move); exact rfl; exact rfl) | ((with_reducible apply Step.load); exact rfl; (focus (decide +kernel)); exact rfl; (focus (exact Rd.new rfl rfl))) | ((with_reducible apply Step.field0); exact rfl; (focus (decide +kernel)); exact rfl) | ((with_reducible apply Step.field (k := 1)); exact rfl; (focus (decide +kernel)); exact rfl) | ((with_reducible apply Step.add); exact rfl; exact rfl; (focus (omega)); exact rfl) | ((with_reducible apply Step.gtr); exact rfl; exact rfl; exact rfl) | ((with_reducible apply Step.box 0); exact rfl; exact rfl; (focus (kernel_rfl)); exact rfl; (focus (first | (simp only [List.nil_append, List.cons_append, List.set_cons_zero, List.set_cons_succ, iv_set, bv_set, iv_rep, bv_rep]; done) | (simp only [List.nil_append, List.cons_append, List.set_cons_zero, List.set_cons_succ, iv_set, bv_set, iv_rep, bv_rep]; rfl) | rfl))) | ((with_reducible apply Step.alloc 1); exact rfl; exact ze129; exact rfl; (focus (first | (simp only [List.nil_append, List.cons_append, List.set_cons_zero, List.set_cons_succ, iv_set, bv_set, iv_rep, bv_rep]; done) | (simp only [List.nil_append, List.cons_append, List.set_cons_zero, List.set_cons_succ, iv_set, bv_set, iv_rep, bv_rep]; rfl) | rfl))) | ((with_reducible apply Step.storeA (k := 1) (n := 3)); exact rfl; exact rfl; exact rfl; exact rfl; (focus (decide +kernel)); exact rfl; (focus (kernel_rfl)); exact rfl; (focus (first | (simp only [List.nil_append, List.cons_append, List.set_cons_zero, List.set_cons_succ, iv_set, bv_set, iv_rep, bv_rep]; done) | (simp only [List.nil_append, List.cons_append, List.set_cons_zero, List.set_cons_succ, iv_set, bv_set, iv_rep, bv_rep]; rfl) | rfl))) | ((with_reducible apply Step.build); exact rfl; exact bl129; exact rfl)) | (with_reducible refine AWo.nil ?_) | ((with_reducible apply AW.seq)) | ((with_reducible apply Then.n)) | ((with_reducible apply AW.regL)) | ((with_reducible apply AW.condT); exact rfl; (focus ((simp only [decide_eq_true_eq, decide_eq_false_iff_not, Bool.not_eq_true', Bool.not_eq_false', Bool.not_true, Bool.not_false]; first | assumption | omega))))))
    (refine AW.ret ?_; (repeat (first | refine Then.r ?_ | refine InBlk.r ?_)))
    exact ⟨_, ares_cell rfl rfl (by decide +kernel) (n := 3) (by decide +kernel) (RdL.new rfl rfl) rfl rfl, rfl, _, rfl⟩
  · have ew : wth n (b, u, k) s i = (b, u + s, i) := by unfold wth; rw [if_neg hgt]
    rw [ew]
    (repeat (first | (with_reducible refine AWo.cons ?_) | ((with_reducible refine Step.id ?_); first | ((with_reducible apply Step.move); exact rfl; exact rfl) | ((with_reducible apply Step.load); exact rfl; (focus (decide +kernel)); exact rfl; (focus (exact Rd.new rfl rfl))) | ((with_reducible apply Step.field0); exact rfl; (focus (decide +kernel)); exact rfl) | ((with_reducible apply Step.field (k := 1)); exact rfl; (focus (decide +kernel)); exact rfl) | ((with_reducible apply Step.add); exact rfl; exact rfl; (focus (omega)); exact rfl) | ((with_reducible apply Step.gtr); exact rfl; exact rfl; exact rfl) | ((with_reducible apply Step.box 0); exact rfl; exact rfl; (focus (kernel_rfl)); exact rfl; (focus (first | (simp only [List.nil_append, List.cons_append, List.set_cons_zero, List.set_cons_succ, iv_set, bv_set, iv_rep, bv_rep]; done) | (simp only [List.nil_append, List.cons_append, List.set_cons_zero, List.set_cons_succ, iv_set, bv_set, iv_rep, bv_rep]; rfl) | rfl))) | ((with_reducible apply Step.alloc 1); exact rfl; exact ze129; exact rfl; (focus (first | (simp only [List.nil_append, List.cons_append, List.set_cons_zero, List.set_cons_succ, iv_set, bv_set, iv_rep, bv_rep]; done) | (simp only [List.nil_append, List.cons_append, List.set_cons_zero, List.set_cons_succ, iv_set, bv_set, iv_rep, bv_rep]; rfl) | rfl))) | ((with_reducible apply Step.storeA (k := 1) (n := 3)); exact rfl; exact rfl; exact rfl; exact rfl; (focus (decide +kernel)); exact rfl; (focus (kernel_rfl)); exact rfl; (focus (first | (simp only [List.nil_append, List.cons_append, List.set_cons_zero, List.set_cons_succ, iv_set, bv_set, iv_rep, bv_rep]; done) | (simp only [List.nil_append, List.cons_append, List.set_cons_zero, List.set_cons_succ, iv_set, bv_set, iv_rep, bv_rep]; rfl) | rfl))) | ((with_reducible apply Step.build); exact rfl; exact bl129; exact rfl)) | (with_reducible refine AWo.nil ?_) | ((with_reducible apply AW.seq)) | ((with_reducible apply Then.n)) | ((with_reducible apply AW.regL)) | ((with_reducible apply AW.skip)) | ((with_reducible apply AW.condF); exact rfl; (focus ((simp only [decide_eq_true_eq, decide_eq_false_iff_not, Bool.not_eq_true', Bool.not_eq_false', Bool.not_true, Bool.not_false]; first | assumption | omega))))))
    (refine AW.ret ?_; (repeat (first | refine Then.r ?_ | refine InBlk.r ?_)))
    exact ⟨_, ares_cell rfl rfl (by decide +kernel) (n := 3) (by decide +kernel) (RdL.new rfl rfl) rfl rfl, rfl, _, rfl⟩
end Go.Proofs.YtibhgdglbillaaaDoor.Abs
namespace Go.Proofs.YtibhgdglbillaaaDoor.Abs
set_option linter.unusedSimpArgs false
set_option linter.unusedVariables false
open Go.RowKit
open Go.Proofs.YtibhgdglbillaaaDoor.Sim
open Go.Proofs
theorem upI_cross {le : Int → Int → Bool} {c : Int → Int → Int} {n : Nat} (h : ∀ x y : Int, 0 ≤ x → x < y → y < n → Cross le c x y) : (upI n).Pairwise (Cross le c) := by
  unfold upI
  rw [List.pairwise_map]
  refine List.Pairwise.imp_of_mem (fun {a b} ha hb hab => h a b (by omega) (by omega) ?_) (List.pairwise_lt_range)
  have := List.mem_range.1 hb
  omega
def ixI (l : List Int) (c : Int → Int → Int) (a b : Int) : Int := c (l.getD a.toNat 0) (l.getD b.toNat 0)
theorem leL_cross (l : List Int) (x y : Int) (hxy : x < y) : Cross (leL l) (ixI l fun x y => cmpI y x) x y := by
  unfold Cross ixI
  simp only [leL, decide_eq_false_iff_not, cmpI, Int.lt_irrefl, false_or, true_and]
  generalize l.getD x.toNat 0 = X
  generalize l.getD y.toNat 0 = Y
  split
  · omega
  · split <;> omega
set_option maxRecDepth 100000 in
theorem f95_ok {m : AM} {v : Value} {l : List Int} {a1 : Nat} (hl : Ints m v l) (h1 : Rd m a1 0 v) (x y : Int) (hx : 0 ≤ x ∧ x < l.length) (hy : 0 ≤ y ∧ y < l.length) :
    ACall Tryd.prog 95 #[.int .i64 x, .int .i64 y, .pointer (some ⟨a1, 0, none⟩)] m (Ret (.int .i64 (ixI l (fun x y => cmpI y x) x y)) m) := by
  obtain ⟨a, o, k1, k2, k3⟩ := id hl
  obtain ⟨x, rfl⟩ := Int.eq_ofNat_of_zero_le hx.1
  obtain ⟨y, rfl⟩ := Int.eq_ofNat_of_zero_le hy.1
  have r1 := k3 x (by omega)
  have r2 := k3 y (by omega)
  rw [← List.append_nil m] at h1 r1 r2
  refine ACall.start Tryd.func95 rfl rfl ?_
  (repeat (first | (with_reducible refine AWo.cons ?_) | ((with_reducible refine Step.id ?_); first | ((with_reducible apply Step.move); exact rfl; exact rfl) | ((with_reducible apply Step.assign); exact rfl; exact rfl) | ((with_reducible apply Step.load); exact rfl; (focus (decide +kernel)); exact rfl; (focus (assumption))) | ((with_reducible apply Step.ix1); exact rfl; (focus (assumption)); exact rfl; (focus (decide +kernel)); exact rfl; (focus (omega))) | ((with_reducible apply Step.callR fit); exact rfl; exact Tryd.func96; exact rfl; exact rfl; exact (compare_ok _ _ rfl))) | (with_reducible refine AWo.nil ?_) | ((with_reducible apply AW.seq)) | ((with_reducible apply Then.n)) | ((with_reducible apply AW.regL)) | ((with_reducible apply AW.drawL fit); (focus (decide +kernel)))))
  (refine AW.retD (l := [(5, _)]) (by repeat (first | exact trivial | (refine And.intro ⟨rfl, by (exact .int _ _)⟩ ?_))) ?_; (repeat (first | refine Then.r ?_ | refine InBlk.r ?_)))
  exact ⟨_, rfl, by simp [ixI], rfl⟩
set_option maxRecDepth 100000 in
theorem f98_ok {m : AM} {v : Value} {l : List Int} {a1 a2 i : Nat} (hl : Ints m v l) (h1 : Rd m a1 0 v) (h2 : Rd m a2 0 (.int .i64 (i : Nat))) (hi : i < l.length) (x : Int) :
    ACall Tryd.prog 98 #[.int .i64 x, .pointer (some ⟨a1, 0, none⟩), .pointer (some ⟨a2, 0, none⟩)] m (Ret (.bool (decide (x ≥ l.getD i 0))) m) := by
  obtain ⟨a, o, k1, k2, k3⟩ := id hl
  have r1 := k3 i hi
  rw [← List.append_nil m] at h1 h2 r1
  refine ACall.start Tryd.func98 rfl rfl ?_
  (repeat (first | (with_reducible refine AWo.cons ?_) | ((with_reducible refine Step.id ?_); first | ((with_reducible apply Step.move); exact rfl; exact rfl) | ((with_reducible apply Step.assign); exact rfl; exact rfl) | ((with_reducible apply Step.load); exact rfl; (focus (decide +kernel)); exact rfl; (focus (assumption))) | ((with_reducible apply Step.ix1); exact rfl; (focus (assumption)); exact rfl; (focus (decide +kernel)); exact rfl; (focus (omega))) | ((with_reducible apply Step.geq); exact rfl; exact rfl; exact rfl)) | (with_reducible refine AWo.nil ?_) | ((with_reducible apply AW.seq)) | ((with_reducible apply Then.n)) | ((with_reducible apply AW.regL))))
  (refine AW.retD (l := [(4, _)]) (by repeat (first | exact trivial | (refine And.intro ⟨rfl, by (exact .bool _)⟩ ?_))) ?_; (repeat (first | refine Then.r ?_ | refine InBlk.r ?_)))
  exact ⟨_, rfl, rfl, rfl⟩
/-- What slices.IndexFunc returns. -/
def fiI (q : Int → Bool) (l : List Int) : Int := if l.findIdx q < l.length then (l.findIdx q : Nat) else -1
set_option maxRecDepth 100000 in
theorem f97_ok {m : AM} {v : Value} {l : List Int} {g : FuncId} {cap : Array Value} {fn : Func} {bd : Code} (hl : Ints m v l) (hf : Tryd.prog.funcs[g]? = some fn) (hb : fn.body = some bd) (q : Int → Bool)
    (hlen : l.length ≤ 9223372036854775807) (hg : ∀ k, k < l.length → ACall Tryd.prog g (#[] ++ #[.int .i64 (l.getD k 0)] ++ cap) m (Ret (.bool (q (l.getD k 0))) m)) : ACall Tryd.prog 97 #[v, .func (.func g) #[] cap] m (Ret (.int .i64 (fiI q l)) m) := by
  obtain ⟨a, o, h1, h2, h3⟩ := hl
  refine ACall.start Tryd.func97 rfl rfl ?_
  (repeat (first | (with_reducible refine AWo.cons ?_) | ((with_reducible refine Step.id ?_); first | ((with_reducible apply Step.move); exact rfl; exact rfl) | ((with_reducible apply Step.assign); exact rfl; exact rfl) | ((with_reducible apply Step.len); exact rfl; (focus (assumption)); (focus (decide +kernel)); exact rfl)) | (with_reducible refine AWo.nil ?_) | ((with_reducible apply AW.seq)) | ((with_reducible apply Then.n)) | ((with_reducible apply AW.regL)) | ((with_reducible apply AW.block))))
  refine AW.loopT (fun n t L => ∃ k : Nat, n = l.length - k ∧ k ≤ l.length ∧ k ≤ l.findIdx q ∧ L = [] ∧
    t = [(0, v), (1, .func (.func g) #[] cap), (6, v), (7, .int .i64 (l.length : Nat)), (8, .int .i64 (k : Nat))]) ⟨_, _, _, (Or.inl ⟨rfl, (by repeat (first | exact trivial | (refine And.intro rfl ?_)))⟩), 0, rfl, Nat.zero_le _, Nat.zero_le _, rfl, rfl⟩ ?_
  rintro n t L ⟨k, rfl, hk, hz, rfl, rfl⟩
  rcases Nat.lt_or_ge k l.length with hlt | hge
  · have hr := h3 k hlt
    have hgk := hg k hlt
    have hgk : ACall Tryd.prog g (#[] ++ #[.int .i64 (l.getD k 0)] ++ cap) (m ++ []) (Ret (.bool (q (l.getD k 0))) (m ++ [])) := by rw [List.append_nil]; exact hgk
    have eg : l.getD k 0 = l[k] := by rw [List.getD_eq_getElem?_getD, List.getElem?_eq_getElem hlt]; rfl
    cases hq : q (l.getD k 0) with
    | true =>
      have e : l.findIdx q = k := by
        rcases Nat.lt_or_eq_of_le hz with h' | h'
        · have := List.not_of_lt_findIdx h'
          rw [← eg, hq] at this
          simp at this
        · exact h'.symm
      rw [hq] at hgk
      (repeat (first | (with_reducible refine AWo.cons ?_) | ((with_reducible refine Step.id ?_); first | ((with_reducible apply Step.move); exact rfl; exact rfl) | ((with_reducible apply Step.assign); exact rfl; exact rfl) | ((with_reducible apply Step.load); exact rfl; (focus (decide +kernel)); exact rfl; (focus (exact Rd.old _ (by assumption)))) | ((with_reducible apply Step.ix1); exact rfl; (focus (assumption)); exact rfl; (focus (decide +kernel)); exact rfl; (focus (omega))) | ((with_reducible apply Step.lss); exact rfl; exact rfl; exact rfl) | ((with_reducible apply Step.callV fit); exact rfl; exact rfl; exact hf; exact hb; exact rfl; exact (hgk))) | (with_reducible refine AWo.nil ?_) | ((with_reducible apply AW.seq)) | ((with_reducible apply Then.n)) | ((with_reducible apply AW.regL)) | ((with_reducible apply AW.block)) | ((with_reducible apply AW.skip)) | ((with_reducible apply AW.condT); exact rfl; (focus (first | rfl | (simp only [decide_eq_true_eq, decide_eq_false_iff_not, Bool.not_eq_true', Bool.not_eq_false', Bool.not_true, Bool.not_false]; first | assumption | omega))))))
      (refine AW.retD (l := [(4, _)]) (by repeat (first | exact trivial | (refine And.intro ⟨rfl, by (exact .int _ _)⟩ ?_))) ?_; (repeat (first | refine Then.r ?_ | refine InBlk.r ?_)))
      refine ⟨_, rfl, ?_, rfl⟩
      unfold fiI
      rw [e, if_pos hlt]
    | false =>
      rw [hq] at hgk
      (repeat (first | (with_reducible refine AWo.cons ?_) | ((with_reducible refine Step.id ?_); first | ((with_reducible apply Step.move); exact rfl; exact rfl) | ((with_reducible apply Step.assign); exact rfl; exact rfl) | ((with_reducible apply Step.load); exact rfl; (focus (decide +kernel)); exact rfl; (focus (exact Rd.old _ (by assumption)))) | ((with_reducible apply Step.ix1); exact rfl; (focus (assumption)); exact rfl; (focus (decide +kernel)); exact rfl; (focus (omega))) | ((with_reducible apply Step.add); exact rfl; exact rfl; (focus (omega)); exact rfl) | ((with_reducible apply Step.lss); exact rfl; exact rfl; exact rfl) | ((with_reducible apply Step.callV fit); exact rfl; exact rfl; exact hf; exact hb; exact rfl; exact (hgk))) | (with_reducible refine AWo.nil ?_) | ((with_reducible apply AW.seq)) | ((with_reducible apply Then.n)) | ((with_reducible apply AW.regL)) | ((with_reducible apply AW.block)) | ((with_reducible apply InBlk.n)) | ((with_reducible apply AW.skip)) | ((with_reducible apply AW.condT); exact rfl; (focus ((simp only [decide_eq_true_eq, decide_eq_false_iff_not, Bool.not_eq_true', Bool.not_eq_false', Bool.not_true, Bool.not_false]; first | assumption | omega)))) | ((with_reducible apply AW.condF); exact rfl; (focus (rfl)))))
      refine ⟨_, _, _, by omega, (Or.inl ⟨rfl, (by repeat (first | exact trivial | (refine And.intro rfl ?_)))⟩), k + 1, rfl, by omega, ?_, rfl, rfl⟩
      rcases Nat.lt_or_eq_of_le hz with h' | h'
      · omega
      · exfalso
        have h3 : l.findIdx q < l.length := by omega
        have := List.findIdx_getElem (p := q) (w := h3)
        have e2 : l[l.findIdx q] = l.getD k 0 := by rw [eg]; congr 1; exact h'.symm
        rw [e2, hq] at this
        cases this
  · obtain rfl : k = l.length := by omega
    (repeat (first | (with_reducible refine AWo.cons ?_) | ((with_reducible refine Step.id ?_); first | ((with_reducible apply Step.assign); exact rfl; exact rfl) | ((with_reducible apply Step.lss); exact rfl; exact rfl; exact rfl)) | (with_reducible refine AWo.nil ?_) | ((with_reducible apply AW.seq)) | ((with_reducible apply Then.n)) | ((with_reducible apply AW.regL)) | ((with_reducible apply AW.exit)) | ((with_reducible apply InBlk.hit)) | ((with_reducible apply Then.e)) | ((with_reducible apply AW.condF); exact rfl; (focus ((simp only [decide_eq_true_eq, decide_eq_false_iff_not, Bool.not_eq_true', Bool.not_eq_false', Bool.not_true, Bool.not_false]; first | assumption | omega))))))
    (refine AW.retD (l := [(4, _)]) (by repeat (first | exact trivial | (refine And.intro ⟨rfl, by (exact .int _ _)⟩ ?_))) ?_; (repeat (first | refine Then.r ?_ | refine InBlk.r ?_)))
    refine ⟨_, rfl, ?_, rfl⟩
    unfold fiI
    rw [if_neg (by omega)]
end Go.Proofs.YtibhgdglbillaaaDoor.Abs
namespace Go.Proofs.YtibhgdglbillaaaDoor.Abs
set_option linter.unusedSimpArgs false
set_option linter.unusedVariables false
open Go.RowKit
open Go.Proofs.YtibhgdglbillaaaDoor.Sim
open Go.Proofs
theorem and_pow2 (s i : Nat) : s &&& 2 ^ i = if s.testBit i then 2 ^ i else 0 := by
  apply Nat.eq_of_testBit_eq
  intro k
  rw [Nat.testBit_and, Nat.testBit_two_pow]
  by_cases e : i = k
  · subst e; cases h : s.testBit i <;> simp
  · cases h : s.testBit i <;> simp [e, Nat.testBit_two_pow]
section
variable {P : Program} {nt : Nat} {ops : Array Oper} {t : Fm} {K : Fm → AM → Prop} {T : Nat} {p : String} {af : Array Edge}
theorem Step.storeLd {x y : Operand} {ty : TypeId} {k i : Nat} {Q : List Ld} {l : Ld} {M L L' : AM} (hx : evo t x = some (.pointer (some ⟨M.length + k, i * 3, none⟩))) (hy : evo t y = some (.agg (ldc l).toArray)) (hb : L[k]? = some (some { cells := lvc Q })) (hz : szB P ty = some 3) (hi : i < Q.length)
    (hL : L.set k (some { cells := lvc (Q.set i l) }) = L') (hK : K t (M ++ L')) : Step P nt ops ⟨none, .store ty x y, T, p, af, none⟩ t (M ++ L) K := by
  refine Step.stores (n := 3) (o := i * 3) hx hy hb rfl hz rfl (by kernel_rfl) ?_ ?_ hK
  · show i * 3 + 3 ≤ (lvc Q).length
    rw [lvc_len]; omega
  · rw [← hL]
    show L.set k (some { cells := splice (lvc Q) (i * 3) (ldc l) }) = _
    rw [lvc_set _ _ _ hi]
end
/-- The table where set s is under way and has c. -/
def tbl (n : Int) (p : Nat → Int) (k N s : Nat) (c : Ld) : List Ld := pkT n p k s ++ c :: List.replicate (N - s - 1) (0, 0, 0)
section
variable {n : Int} {p : Nat → Int} {k N s : Nat} {c : Ld}
theorem tbl_len (h : s < N) : (tbl n p k N s c).length = N := by simp [tbl, pkT_len]; omega
theorem tbl_at : (tbl n p k N s c).getD s (0, 0, 0) = c := by
  unfold tbl
  rw [List.getD_eq_getElem?_getD, List.getElem?_append_right (by rw [pkT_len]; exact Nat.le_refl _), pkT_len]; simp
theorem tbl_old {j : Nat} (h : j < s) : (tbl n p k N s c).getD j (0, 0, 0) = pkD n p k j := by
  rw [← pkT_get h]
  unfold tbl
  rw [List.getD_eq_getElem?_getD, List.getElem?_append_left (by rw [pkT_len]; exact h), ← List.getD_eq_getElem?_getD]
theorem tbl_set {c' : Ld} : (tbl n p k N s c).set s c' = tbl n p k N s c' := by
  unfold tbl
  rw [List.set_append_right _ _ (by rw [pkT_len]; exact Nat.le_refl _), pkT_len]; simp
theorem tbl_next (h : s + 1 < N) (hc : c = pkD n p k s) : tbl n p k N s c = tbl n p k N (s + 1) (0, 0, 0) := by
  unfold tbl
  have e : pkT n p k (s + 1) = pkT n p k s ++ [c] := by rw [hc, pkD_row]; rfl
  rw [e, List.append_assoc, show N - s - 1 = (N - (s + 1) - 1) + 1 by omega, List.replicate_succ]
  rfl
theorem tbl_last (h : s + 1 = N) (hc : c = pkD n p k s) : tbl n p k N s c = pkT n p k N := by
  subst h
  have e : pkT n p k (s + 1) = pkT n p k s ++ [c] := by rw [hc, pkD_row]; rfl
  unfold tbl
  rw [e]; simp
theorem tbl_zero (h : 0 < N) : (List.replicate N ((0, 0, 0) : Ld)).set 0 (0, n, 0) = tbl n p k N 0 (0, n, 0) := by
  obtain ⟨q, rfl⟩ : ∃ q, N = q + 1 := ⟨N - 1, by omega⟩
  simp [tbl, pkT, List.replicate_succ]
/-- What the table is at the head of the loop over the sets. -/
def tbs (n : Int) (p : Nat → Int) (k N s : Nat) : List Ld := if s < N then tbl n p k N s (0, 0, 0) else pkT n p k N
theorem tbs_next (h : s < N) : tbl n p k N s (pkD n p k s) = tbs n p k N (s + 1) := by
  unfold tbs
  split
  · exact tbl_next (by assumption) rfl
  · exact tbl_last (by omega) rfl
end
theorem pkD_use {n : Int} {p : Nat → Int} {k : Nat} (hp : ∀ i, i < k → 1 ≤ p i ∧ p i ≤ n) (hn : 0 ≤ n) (s : Nat) (hs : s < 2 ^ k) : 0 ≤ (pkD n p k s).2.1 ∧ (pkD n p k s).2.1 ≤ n := by
  by_cases h0 : s = 0
  · subst h0; rw [pkD_zero]; exact ⟨hn, Int.le_refl _⟩
  · obtain ⟨i, hi, hb, e⟩ := pkD_ex (n := n) (p := p) hs h0
    have hpi := hp i hi
    have h1 := andn_lt hb
    have ih := pkD_use hp hn (andn s (2 ^ i)) (by omega)
    rw [e]
    unfold wth
    split <;> simp only <;> omega
termination_by s
decreasing_by exact andn_lt hb
theorem pkR_lt {n : Int} {p : Nat → Int} {f : Nat → Ld} {s i : Nat} : pkR n p f s (i + 1) = if s.testBit i then (if (pkR n p f s i).2 || lls (wth n (f (andn s (2 ^ i))) (p i) i) (pkR n p f s i).1 then (wth n (f (andn s (2 ^ i))) (p i) i, false) else pkR n p f s i) else pkR n p f s i := rfl
theorem bs47 {m : AM} {n : Nat} {x y : Int} : abuildSlice Tryd.prog m n 47 2 [(0, .int .i64 x), (1, .int .i64 y)] = some (.slice (some ⟨n, 0, none⟩) 2 2, m.set n (some { cells := [.int .i64 x, .int .i64 y] })) := by kernel_rfl
set_option maxHeartbeats 8000000 in
set_option maxRecDepth 100000 in
theorem packed_ok {m : AM} {v : Value} {l : List Int} {n : Int} (hl : Ints m v l) (hok : stripsB n l = true) :
    ACall Tryd.prog 89 #[.int .i64 n, v] m (New (some { cells := lvc (pkT n (fun i => l.getD i 0) l.length (2 ^ l.length)) }) (2 ^ l.length) m) := by
  have h := SpOk.of hok
  have hn1 := h.n1
  have hn2 := h.n2
  have hl14 := h.len
  obtain ⟨a, o, h1, h2, h3⟩ := id hl
  obtain ⟨p, hp⟩ : ∃ p : Nat → Int, p = fun i => l.getD i 0 := ⟨_, rfl⟩
  have hpb : ∀ i, i < l.length → 1 ≤ p i ∧ p i ≤ n := by rw [hp]; exact h.at_
  have hN : 2 ^ l.length ≤ 16384 := by
    have : 2 ^ l.length ≤ 2 ^ 14 := Nat.pow_le_pow_right (by omega) hl14
    omega
  have hN1 : 1 ≤ 2 ^ l.length := Nat.one_le_two_pow
  have pw : ∀ i, i ≤ l.length → 2 ^ i ≤ 16384 := fun i hi => Nat.le_trans (Nat.pow_le_pow_right (by omega) hi) hN
  have hD := fun s (hs : s < 2 ^ l.length) => pkD_use hpb (by omega) s hs
  have hC := fun s (hs : s < 2 ^ l.length) => pkD_cnt (n := n) (p := p) s hs
  have hC2 := fun s => cntS_le (k := l.length) s
  rw [← hp]
  refine ACall.start Tryd.func89 rfl rfl ?_
  (repeat (first | (with_reducible refine AWo.cons ?_) | ((with_reducible refine Step.id ?_); first | ((with_reducible apply Step.move); exact rfl; exact rfl) | ((with_reducible apply Step.assign); exact rfl; exact rfl) | ((with_reducible apply Step.shl1); exact rfl; exact rfl; (focus (omega)); exact rfl) | ((with_reducible apply Step.len); exact rfl; (focus (assumption)); (focus (decide +kernel)); exact rfl)) | (with_reducible refine AWo.nil ?_) | ((with_reducible apply AW.seq)) | ((with_reducible apply Then.n)) | ((with_reducible apply AW.regL))))
  ((with_reducible apply Step.make3 0); exact rfl; exact rfl; exact rfl; exact el126; exact ⟨by omega, by omega⟩; exact rfl; (focus (first | (simp only [List.nil_append, List.cons_append, List.set_cons_zero, List.set_cons_succ, iv_set, bv_set, iv_rep, bv_rep]; done) | (simp only [List.nil_append, List.cons_append, List.set_cons_zero, List.set_cons_succ, iv_set, bv_set, iv_rep, bv_rep]; rfl) | rfl)))
  generalize hN2 : 2 ^ l.length = N at *
  have l0 : (List.replicate N ((0, 0, 0) : Ld)).length = N := by simp
  (repeat (first | (with_reducible refine AWo.cons ?_) | ((with_reducible refine Step.id ?_); first | ((with_reducible apply Step.move); exact rfl; exact rfl) | ((with_reducible apply Step.assign); exact rfl; exact rfl) | ((with_reducible apply Step.ix (s := 3) (k := 0)); exact rfl; (focus (exact Sl.mk (by omega))); exact rfl; (focus (decide +kernel)); exact rfl; (focus (omega))) | ((with_reducible apply Step.build); exact rfl; exact bl129u; exact rfl)) | (with_reducible refine AWo.nil ?_) | ((with_reducible apply AW.seq)) | ((with_reducible apply Then.n)) | ((with_reducible apply AW.regL))))
  ((with_reducible apply Step.storeLd (k := 0) (i := 0) (l := (0, n, 0))); exact rfl; exact rfl; exact rfl; (focus (decide +kernel)); (focus (rw [l0]; omega)); (focus (first | (simp only [List.nil_append, List.cons_append, List.set_cons_zero, List.set_cons_succ, iv_set, bv_set, iv_rep, bv_rep]; done) | (simp only [List.nil_append, List.cons_append, List.set_cons_zero, List.set_cons_succ, iv_set, bv_set, iv_rep, bv_rep]; rfl) | rfl)))
  rw [tbl_zero (p := p) (k := l.length) (by omega)]
  have hz : tbl n p l.length N 0 (0, n, 0) = tbs n p l.length N 1 := tbs_next (s := 0) (by omega)
  rw [hz]
  (repeat (first | (with_reducible refine AWo.cons ?_) | ((with_reducible refine Step.id ?_); ((with_reducible apply Step.assign); exact rfl; exact rfl)) | (with_reducible refine AWo.nil ?_) | ((with_reducible apply AW.seq)) | ((with_reducible apply Then.n)) | ((with_reducible apply AW.regL)) | ((with_reducible apply AW.block))))
  refine AW.loopT (fun q t L => ∃ s : Nat, q = N - s ∧ 1 ≤ s ∧ s ≤ N ∧ L = [some { cells := lvc (tbs n p l.length N s) }] ∧
    t = [(0, .int .i64 n), (1, v), (5, .slice (some ⟨m.length + 0, 0, none⟩) N N), (6, .int .i64 (s : Nat))]) ⟨_, [(0, .int .i64 n), (1, v), (5, .slice (some ⟨m.length + 0, 0, none⟩) N N), (6, .int .i64 1)], _, (Or.inl ⟨rfl, (by repeat (first | exact trivial | (refine And.intro rfl ?_)))⟩), 1, rfl, Nat.le_refl _, by omega, rfl, rfl⟩ ?_
  rintro q t L ⟨s, rfl, hs1, hs, rfl, rfl⟩
  rcases Nat.lt_or_ge s N with hlt | hge
  · have e0 : tbs n p l.length N s = tbl n p l.length N s (0, 0, 0) := by unfold tbs; rw [if_pos hlt]
    rw [e0]
    (repeat (first | (with_reducible refine AWo.cons ?_) | ((with_reducible refine Step.id ?_); first | ((with_reducible apply Step.move); exact rfl; exact rfl) | ((with_reducible apply Step.assign); exact rfl; exact rfl) | ((with_reducible apply Step.lss); exact rfl; exact rfl; exact rfl) | ((with_reducible apply Step.len); exact rfl; (focus (first | assumption | exact Sl.mk (by omega))); (focus (decide +kernel)); exact rfl)) | (with_reducible refine AWo.nil ?_) | ((with_reducible apply AW.seq)) | ((with_reducible apply Then.n)) | ((with_reducible apply AW.regL)) | ((with_reducible apply AW.block)) | ((with_reducible apply AW.skip)) | ((with_reducible apply AW.condT); exact rfl; (focus ((simp only [decide_eq_true_eq, decide_eq_false_iff_not, Bool.not_eq_true', Bool.not_eq_false', Bool.not_true, Bool.not_false]; first | assumption | omega))))))
    refine AW.loopT (fun q t L => ∃ i : Nat, q = l.length - i ∧ i ≤ l.length ∧ L = [some { cells := lvc (tbl n p l.length N s (pkR n p (pkD n p l.length) s i).1) }] ∧
      t = [(0, .int .i64 n), (1, v), (5, .slice (some ⟨m.length + 0, 0, none⟩) N N), (6, .int .i64 (s : Nat)), (7, .bool (pkR n p (pkD n p l.length) s i).2), (25, v), (26, .int .i64 (l.length : Nat)), (27, .int .i64 (i : Nat))]) ⟨_, _, _, (Or.inl ⟨rfl, (by repeat (first | exact trivial | (refine And.intro rfl ?_)))⟩), 0, rfl, Nat.zero_le _, rfl, rfl⟩ ?_
    rintro q t L ⟨i, rfl, hi, rfl, rfl⟩
    rcases Nat.lt_or_ge i l.length with hil | hil
    · have hr := h3 i hil
      have hpi := hpb i hil
      have ep : l.getD i 0 = p i := by rw [hp]
      rw [ep] at hr
      have hi62 : i ≤ 62 := by omega
      have hpw := pw i hi
      have and2 := and_pow2 s i
      have hR := pkR_lt (n := n) (p := p) (f := pkD n p l.length) (s := s) (i := i)
      cases hb : s.testBit i with
      | false =>
        rw [hb] at and2 hR
        have and3 : s &&& 2 ^ i = 0 := by rw [and2]; rfl
        rw [if_neg (by decide)] at hR
        (repeat (first | (with_reducible refine AWo.cons ?_) | ((with_reducible refine Step.id ?_); first | ((with_reducible apply Step.move); exact rfl; exact rfl) | ((with_reducible apply Step.assign); exact rfl; exact rfl) | ((with_reducible apply Step.load); exact rfl; (focus (decide +kernel)); exact rfl; (focus (exact Rd.old _ (by assumption)))) | ((with_reducible apply Step.ix1); exact rfl; (focus (assumption)); exact rfl; (focus (decide +kernel)); exact rfl; (focus (omega))) | ((with_reducible apply Step.shl1); exact rfl; exact rfl; (focus (omega)); exact rfl) | ((with_reducible apply Step.andN); exact rfl; exact rfl; (focus (omega)); (focus (omega)); exact rfl) | ((with_reducible apply Step.add); exact rfl; exact rfl; (focus (omega)); exact rfl) | ((with_reducible apply Step.lss); exact rfl; exact rfl; exact rfl) | ((with_reducible apply Step.eql); exact rfl; exact rfl; exact rfl)) | (with_reducible refine AWo.nil ?_) | ((with_reducible apply AW.seq)) | ((with_reducible apply Then.n)) | ((with_reducible apply AW.regL)) | ((with_reducible apply AW.block)) | ((with_reducible apply AW.exit)) | ((with_reducible apply InBlk.hit)) | ((with_reducible apply Then.e)) | ((with_reducible apply AW.skip)) | ((with_reducible apply AW.condT); exact rfl; (focus ((simp only [decide_eq_true_eq, decide_eq_false_iff_not, Bool.not_eq_true', Bool.not_eq_false', Bool.not_true, Bool.not_false]; first | assumption | omega))))))
        exact ⟨_, [(0, .int .i64 n), (1, v), (5, .slice (some ⟨m.length + 0, 0, none⟩) N N), (6, .int .i64 (s : Nat)), (7, .bool (pkR n p (pkD n p l.length) s i).2), (25, v), (26, .int .i64 (l.length : Nat)), (27, .int .i64 (i + 1 : Nat))], _, by omega, (Or.inl ⟨rfl, (by repeat (first | exact trivial | (refine And.intro rfl ?_)))⟩), i + 1, rfl, by omega, by rw [hR], by rw [hR]⟩
      | true =>
        rw [hb] at and2 hR
        have and3 : s &&& 2 ^ i = 2 ^ i := by rw [and2]; rfl
        have hp1 : 1 ≤ 2 ^ i := Nat.one_le_two_pow
        rw [if_pos rfl] at hR
        have hj := andn_lt hb
        have hjD := hD (andn s (2 ^ i)) (by omega)
        have hjC := hC (andn s (2 ^ i)) (by omega)
        have hjC2 := hC2 (andn s (2 ^ i))
        have hW := fun (M : AM) => with_ok (m := M) (pkD n p l.length (andn s (2 ^ i))) n (p i) i (by omega) (by omega) (by omega)
        have r1 : RdL (m ++ [some { cells := lvc (tbl n p l.length N s (pkR n p (pkD n p l.length) s i).1) }]) (m.length + 0) (andn s (2 ^ i) * 3) (ldc (pkD n p l.length (andn s (2 ^ i)))) := by
          rw [← tbl_old (n := n) (p := p) (k := l.length) (N := N) (c := (pkR n p (pkD n p l.length) s i).1) hj]
          exact rdl_ld rfl (by rw [tbl_len hlt]; omega)
        generalize wth n (pkD n p l.length (andn s (2 ^ i))) (p i) i = w at *
        have hTl := tbl_len (n := n) (p := p) (k := l.length) (c := (pkR n p (pkD n p l.length) s i).1) hlt
        have hTg := tbl_at (n := n) (p := p) (k := l.length) (N := N) (s := s) (c := (pkR n p (pkD n p l.length) s i).1)
        have hTs := tbl_set (n := n) (p := p) (k := l.length) (N := N) (s := s) (c := (pkR n p (pkD n p l.length) s i).1) (c' := w)
        cases hf : (pkR n p (pkD n p l.length) s i).2 with
        | true =>
          rw [hf, Bool.true_or, if_pos rfl] at hR
          generalize (pkR n p (pkD n p l.length) s i).1 = c at *
          generalize tbl n p l.length N s c = Tb at *
          have gT := g0_lvc Tb
          have gw := g0_ldc w
          have gT2 := g0_lvc (Tb.set s w)
          (repeat' (first | (with_reducible refine AWo.cons ?_) | ((with_reducible refine Step.id ?_); first | ((with_reducible apply Step.gdF); exact rfl; exact rfl; (focus (rfl))) | ((with_reducible apply Step.move); exact rfl; exact rfl) | ((with_reducible apply Step.assign); exact rfl; exact rfl) | ((with_reducible apply Step.load); exact rfl; (focus (decide +kernel)); exact rfl; (focus (exact Rd.old _ (by assumption)))) | ((with_reducible apply Step.loadL (n := 3)); exact rfl; (focus (decide +kernel)); (focus (decide +kernel)); exact rfl; (focus (first | assumption | exact RdL.new rfl rfl)); exact rfl; exact rfl) | ((with_reducible apply Step.ix1); exact rfl; (focus (first | assumption | exact Sl.mk (by omega))); exact rfl; (focus (decide +kernel)); exact rfl; (focus (omega))) | ((with_reducible apply Step.ixz (s := 3)); exact rfl; (focus (exact Sl.mk (by omega))); exact rfl; (focus (decide +kernel)); exact rfl; (focus (omega))) | ((with_reducible apply Step.shl1); exact rfl; exact rfl; (focus (omega)); exact rfl) | ((with_reducible apply Step.andN); exact rfl; exact rfl; (focus (omega)); (focus (omega)); exact rfl) | ((with_reducible apply Step.andnN); exact rfl; exact rfl; (focus (omega)); (focus (omega)); exact rfl) | ((with_reducible apply Step.lss); exact rfl; exact rfl; exact rfl) | ((with_reducible apply Step.eql); exact rfl; exact rfl; exact rfl) | ((with_reducible apply Step.pickT); exact rfl; exact rfl; exact rfl; exact rfl; (focus (rfl))) | ((with_reducible apply Step.callR fit); exact rfl; exact Tryd.func107; exact rfl; exact rfl; exact (hW _)) | ((with_reducible apply Step.alloc 1); exact rfl; exact ze129; exact rfl; (focus (first | (simp only [List.nil_append, List.cons_append, List.set_cons_zero, List.set_cons_succ, iv_set, bv_set, iv_rep, bv_rep]; done) | (simp only [List.nil_append, List.cons_append, List.set_cons_zero, List.set_cons_succ, iv_set, bv_set, iv_rep, bv_rep]; rfl) | rfl))) | ((with_reducible apply Step.storeA (k := 1) (n := 3)); exact rfl; exact rfl; exact rfl; exact rfl; (focus (decide +kernel)); exact rfl; (focus (kernel_rfl)); exact rfl; (focus (first | (simp only [List.nil_append, List.cons_append, List.set_cons_zero, List.set_cons_succ, iv_set, bv_set, iv_rep, bv_rep]; done) | (simp only [List.nil_append, List.cons_append, List.set_cons_zero, List.set_cons_succ, iv_set, bv_set, iv_rep, bv_rep]; rfl) | rfl)))) | (with_reducible refine AWo.nil ?_) | ((with_reducible apply AW.seq)) | ((with_reducible apply Then.n)) | ((with_reducible apply AW.regL)) | ((with_reducible apply AW.block)) | ((with_reducible apply AW.drawT fit (T := (.step 0 (.step 1 (.step 2 (.step 3 (.step 4 (.step 5 (.step 6 (.step 7 (.step 8 (.step 10 (.step 12 (.step 13 (.step 14 (.step 15 (.both (.step 9 (.step 11 (.step 16 (.step 17 (.step 18 (.step 19 (.step 20 (.step 21 .done)))))))) (.both (.step 11 (.both (.step 9 (.step 16 (.step 17 (.step 18 (.step 19 (.step 20 (.step 21 .done))))))) (.step 16 (.step 9 (.step 17 (.step 18 (.step 19 (.step 20 (.step 21 .done))))))))) (.step 16 (.both (.step 9 (.step 11 (.step 17 (.step 18 (.step 19 (.step 20 (.step 21 .done))))))) (.step 11 (.step 9 (.step 17 (.step 18 (.step 19 (.step 20 (.step 21 .done))))))))))))))))))))))))))); (focus (decide +kernel))) | ((with_reducible apply AWt.step); exact rfl) | ((with_reducible apply AWt.done)) | ((with_reducible apply AW.skip)) | ((with_reducible apply AW.condT); exact rfl; (focus (first | rfl | (simp only [decide_eq_true_eq, decide_eq_false_iff_not, Bool.not_eq_true', Bool.not_eq_false', Bool.not_true, Bool.not_false]; first | assumption | omega)))) | ((with_reducible apply AW.condF); exact rfl; (focus ((simp only [decide_eq_true_eq, decide_eq_false_iff_not, Bool.not_eq_true', Bool.not_eq_false', Bool.not_true, Bool.not_false]; first | assumption | omega)))) | refine AWt.both ?_ ?_))
          all_goals
            ((with_reducible apply Step.storeLd (k := 0) (i := s) (l := w)); exact rfl; exact rfl; exact rfl; (focus (decide +kernel)); (focus (omega)); (focus (first | (simp only [List.nil_append, List.cons_append, List.set_cons_zero, List.set_cons_succ, iv_set, bv_set, iv_rep, bv_rep]; done) | (simp only [List.nil_append, List.cons_append, List.set_cons_zero, List.set_cons_succ, iv_set, bv_set, iv_rep, bv_rep]; rfl) | rfl)))
            (repeat (first | (with_reducible refine AWo.cons ?_) | ((with_reducible refine Step.id ?_); first | ((with_reducible apply Step.move); exact rfl; exact rfl) | ((with_reducible apply Step.assign); exact rfl; exact rfl) | ((with_reducible apply Step.add); exact rfl; exact rfl; (focus (omega)); exact rfl)) | (with_reducible refine AWo.nil ?_) | ((with_reducible apply Then.n)) | ((with_reducible apply AW.regL)) | ((with_reducible apply InBlk.n))))
            exact ⟨_, [(0, .int .i64 n), (1, v), (5, .slice (some ⟨m.length + 0, 0, none⟩) N N), (6, .int .i64 (s : Nat)), (7, .bool false), (25, v), (26, .int .i64 (l.length : Nat)), (27, .int .i64 (i + 1 : Nat))], [some { cells := lvc (Tb.set s w) }], by omega, (Back.trim rfl rfl (by repeat (first | exact CellsOk.nil | refine CellsOk.cons (by assumption) ?_)) (by repeat (first | exact trivial | (refine And.intro ⟨rfl, by (first | exact .int _ _ | exact .bool _ | exact .slice _ _ _ _ (by first | (simp; done) | omega | (simp; omega)) | exact Ren.of_sl (by assumption) (by first | omega | (simp; omega)))⟩ ?_)))), i + 1, rfl, by omega, by rw [hR, hTs], by rw [hR]⟩
        | false =>
          rw [hf, Bool.false_or] at hR
          have hlt2 := orL_lls w (pkR n p (pkD n p l.length) s i).1
          generalize hc : (pkR n p (pkD n p l.length) s i).1 = c at *
          generalize hTb : tbl n p l.length N s c = Tb at *
          have gT := g0_lvc Tb
          have gw := g0_ldc w
          have gT2 := g0_lvc (Tb.set s w)
          have r2 : ∀ L, RdL (m ++ (some { cells := lvc Tb } :: L)) (m.length + 0) (s * 3) (ldc c) := fun L => by
            rw [← hTg]
            exact rdl_ld rfl (by omega)
          have r3 : ∀ L, RdL (m ++ (some { cells := lvc Tb } :: some { cells := ldc w } :: L)) (m.length + 1) 0 (ldc w) := fun L => RdL.new rfl rfl
          have hi : ∀ (x y : Int), Ints (m ++ [some { cells := lvc Tb }, some { cells := ldc w }, some { cells := iv [x, y] }]) (.slice (some ⟨m.length + 2, 0, none⟩) 2 2) [x, y] := fun x y => ints_new (k := 2) rfl rfl _ rfl
          cases hl : lls w c with
          | true =>
            rw [hl] at hlt2 hR
            rw [if_pos rfl] at hR
            rw [decide_eq_true_eq] at hlt2
            (repeat' (first | (with_reducible refine AWo.cons ?_) | ((with_reducible refine Step.id ?_); first | ((with_reducible apply Step.gdT); exact rfl; exact rfl; (focus (rfl))) | ((with_reducible apply Step.move); exact rfl; exact rfl) | ((with_reducible apply Step.assign); exact rfl; exact rfl) | ((with_reducible apply Step.load); exact rfl; (focus (decide +kernel)); exact rfl; (focus (first | exact (r2 _).at_ 0 rfl | exact (r2 _).at_ 1 rfl | exact (r3 _).at_ 0 rfl | exact (r3 _).at_ 1 rfl | exact Rd.old _ (by assumption)))) | ((with_reducible apply Step.loadL (n := 3)); exact rfl; (focus (decide +kernel)); (focus (decide +kernel)); exact rfl; (focus (first | assumption | exact RdL.new rfl rfl)); exact rfl; exact rfl) | ((with_reducible apply Step.ix1); exact rfl; (focus (first | assumption | exact Sl.mk (by omega))); exact rfl; (focus (decide +kernel)); exact rfl; (focus (omega))) | ((with_reducible apply Step.ixz (s := 3)); exact rfl; (focus (exact Sl.mk (by omega))); exact rfl; (focus (decide +kernel)); exact rfl; (focus (omega))) | ((with_reducible apply Step.field0); exact rfl; (focus (decide +kernel)); exact rfl) | ((with_reducible apply Step.field (k := 1)); exact rfl; (focus (decide +kernel)); exact rfl) | ((with_reducible apply Step.shl1); exact rfl; exact rfl; (focus (omega)); exact rfl) | ((with_reducible apply Step.andN); exact rfl; exact rfl; (focus (omega)); (focus (omega)); exact rfl) | ((with_reducible apply Step.andnN); exact rfl; exact rfl; (focus (omega)); (focus (omega)); exact rfl) | ((with_reducible apply Step.lss); exact rfl; exact rfl; exact rfl) | ((with_reducible apply Step.eql); exact rfl; exact rfl; exact rfl) | ((with_reducible apply Step.pickF); exact rfl; exact rfl; exact rfl; exact rfl; (focus (rfl))) | ((with_reducible apply Step.callR fit); exact rfl; exact Tryd.func107; exact rfl; exact rfl; exact (hW _)) | ((with_reducible apply Step.callR fit); exact rfl; exact Tryd.func96; exact rfl; exact rfl; exact (compare_ok _ _ rfl)) | ((with_reducible apply Step.callR fit); exact rfl; exact Tryd.func108; exact rfl; exact rfl; exact (or_ok (hi _ _) (by simp) rfl)) | ((with_reducible apply Step.alloc 1); exact rfl; exact ze129; exact rfl; (focus (first | (simp only [List.nil_append, List.cons_append, List.set_cons_zero, List.set_cons_succ, iv_set, bv_set, iv_rep, bv_rep]; done) | (simp only [List.nil_append, List.cons_append, List.set_cons_zero, List.set_cons_succ, iv_set, bv_set, iv_rep, bv_rep]; rfl) | rfl))) | ((with_reducible apply Step.storeA (k := 1) (n := 3)); exact rfl; exact rfl; exact rfl; exact rfl; (focus (decide +kernel)); exact rfl; (focus (kernel_rfl)); exact rfl; (focus (first | (simp only [List.nil_append, List.cons_append, List.set_cons_zero, List.set_cons_succ, iv_set, bv_set, iv_rep, bv_rep]; done) | (simp only [List.nil_append, List.cons_append, List.set_cons_zero, List.set_cons_succ, iv_set, bv_set, iv_rep, bv_rep]; rfl) | rfl))) | ((with_reducible apply Step.buildS 2); exact rfl; exact rfl; exact (fun _ _ => bs47); exact rfl; (focus (first | (simp only [List.nil_append, List.cons_append, List.set_cons_zero, List.set_cons_succ, iv_set, bv_set, iv_rep, bv_rep]; done) | (simp only [List.nil_append, List.cons_append, List.set_cons_zero, List.set_cons_succ, iv_set, bv_set, iv_rep, bv_rep]; rfl) | rfl)))) | (with_reducible refine AWo.nil ?_) | ((with_reducible apply AW.seq)) | ((with_reducible apply Then.n)) | ((with_reducible apply AW.regL)) | ((with_reducible apply AW.block)) | ((with_reducible apply AW.drawT fit (T := (.step 0 (.step 1 (.step 2 (.step 3 (.step 4 (.step 5 (.step 6 (.step 7 (.step 8 (.step 10 (.step 12 (.step 13 (.step 14 (.step 15 (.both (.step 9 (.step 11 (.step 16 (.step 17 (.step 18 (.step 19 (.step 20 (.step 21 .done)))))))) (.both (.step 11 (.both (.step 9 (.step 16 (.step 17 (.step 18 (.step 19 (.step 20 (.step 21 .done))))))) (.step 16 (.step 9 (.step 17 (.step 18 (.step 19 (.step 20 (.step 21 .done))))))))) (.step 16 (.both (.step 9 (.step 11 (.step 17 (.step 18 (.step 19 (.step 20 (.step 21 .done))))))) (.step 11 (.step 9 (.step 17 (.step 18 (.step 19 (.step 20 (.step 21 .done))))))))))))))))))))))))))); (focus (decide +kernel))) | ((with_reducible apply AWt.step); exact rfl) | ((with_reducible apply AWt.done)) | ((with_reducible apply AW.skip)) | ((with_reducible apply AW.condT); exact rfl; (focus ((simp only [decide_eq_true_eq, decide_eq_false_iff_not, Bool.not_eq_true', Bool.not_eq_false', Bool.not_true, Bool.not_false]; first | assumption | omega)))) | ((with_reducible apply AW.condF); exact rfl; (focus ((simp only [decide_eq_true_eq, decide_eq_false_iff_not, Bool.not_eq_true', Bool.not_eq_false', Bool.not_true, Bool.not_false]; first | assumption | omega)))) | refine AWt.both ?_ ?_))
            all_goals
              ((with_reducible apply Step.storeLd (k := 0) (i := s) (l := w)); exact rfl; exact rfl; exact rfl; (focus (decide +kernel)); (focus (omega)); (focus (first | (simp only [List.nil_append, List.cons_append, List.set_cons_zero, List.set_cons_succ, iv_set, bv_set, iv_rep, bv_rep]; done) | (simp only [List.nil_append, List.cons_append, List.set_cons_zero, List.set_cons_succ, iv_set, bv_set, iv_rep, bv_rep]; rfl) | rfl)))
              (repeat (first | (with_reducible refine AWo.cons ?_) | ((with_reducible refine Step.id ?_); first | ((with_reducible apply Step.move); exact rfl; exact rfl) | ((with_reducible apply Step.assign); exact rfl; exact rfl) | ((with_reducible apply Step.add); exact rfl; exact rfl; (focus (omega)); exact rfl)) | (with_reducible refine AWo.nil ?_) | ((with_reducible apply Then.n)) | ((with_reducible apply AW.regL)) | ((with_reducible apply InBlk.n))))
              exact ⟨_, [(0, .int .i64 n), (1, v), (5, .slice (some ⟨m.length + 0, 0, none⟩) N N), (6, .int .i64 (s : Nat)), (7, .bool false), (25, v), (26, .int .i64 (l.length : Nat)), (27, .int .i64 (i + 1 : Nat))], [some { cells := lvc (Tb.set s w) }], by omega, (Back.trim rfl rfl (by repeat (first | exact CellsOk.nil | refine CellsOk.cons (by assumption) ?_)) (by repeat (first | exact trivial | (refine And.intro ⟨rfl, by (first | exact .int _ _ | exact .bool _ | exact .slice _ _ _ _ (by first | (simp; done) | omega | (simp; omega)) | exact Ren.of_sl (by assumption) (by first | omega | (simp; omega)))⟩ ?_)))), i + 1, rfl, by omega, by rw [hR, hTs], by rw [hR]⟩
          | false =>
            rw [hl] at hlt2 hR
            rw [if_neg (by decide)] at hR
            rw [decide_eq_false_iff_not] at hlt2
            (repeat' (first | (with_reducible refine AWo.cons ?_) | ((with_reducible refine Step.id ?_); first | ((with_reducible apply Step.gdT); exact rfl; exact rfl; (focus (rfl))) | ((with_reducible apply Step.move); exact rfl; exact rfl) | ((with_reducible apply Step.assign); exact rfl; exact rfl) | ((with_reducible apply Step.load); exact rfl; (focus (decide +kernel)); exact rfl; (focus (first | exact (r2 _).at_ 0 rfl | exact (r2 _).at_ 1 rfl | exact (r3 _).at_ 0 rfl | exact (r3 _).at_ 1 rfl | exact Rd.old _ (by assumption)))) | ((with_reducible apply Step.loadL (n := 3)); exact rfl; (focus (decide +kernel)); (focus (decide +kernel)); exact rfl; (focus (assumption)); exact rfl; exact rfl) | ((with_reducible apply Step.ix1); exact rfl; (focus (first | assumption | exact Sl.mk (by omega))); exact rfl; (focus (decide +kernel)); exact rfl; (focus (omega))) | ((with_reducible apply Step.ixz (s := 3)); exact rfl; (focus (exact Sl.mk (by omega))); exact rfl; (focus (decide +kernel)); exact rfl; (focus (omega))) | ((with_reducible apply Step.field0); exact rfl; (focus (decide +kernel)); exact rfl) | ((with_reducible apply Step.field (k := 1)); exact rfl; (focus (decide +kernel)); exact rfl) | ((with_reducible apply Step.shl1); exact rfl; exact rfl; (focus (omega)); exact rfl) | ((with_reducible apply Step.andN); exact rfl; exact rfl; (focus (omega)); (focus (omega)); exact rfl) | ((with_reducible apply Step.andnN); exact rfl; exact rfl; (focus (omega)); (focus (omega)); exact rfl) | ((with_reducible apply Step.add); exact rfl; exact rfl; (focus (omega)); exact rfl) | ((with_reducible apply Step.lss); exact rfl; exact rfl; exact rfl) | ((with_reducible apply Step.eql); exact rfl; exact rfl; exact rfl) | ((with_reducible apply Step.pickF); exact rfl; exact rfl; exact rfl; exact rfl; (focus (rfl))) | ((with_reducible apply Step.callR fit); exact rfl; exact Tryd.func107; exact rfl; exact rfl; exact (hW _)) | ((with_reducible apply Step.callR fit); exact rfl; exact Tryd.func96; exact rfl; exact rfl; exact (compare_ok _ _ rfl)) | ((with_reducible apply Step.callR fit); exact rfl; exact Tryd.func108; exact rfl; exact rfl; exact (or_ok (hi _ _) (by simp) rfl)) | ((with_reducible apply Step.alloc 1); exact rfl; exact ze129; exact rfl; (focus (first | (simp only [List.nil_append, List.cons_append, List.set_cons_zero, List.set_cons_succ, iv_set, bv_set, iv_rep, bv_rep]; done) | (simp only [List.nil_append, List.cons_append, List.set_cons_zero, List.set_cons_succ, iv_set, bv_set, iv_rep, bv_rep]; rfl) | rfl))) | ((with_reducible apply Step.storeA (k := 1) (n := 3)); exact rfl; exact rfl; exact rfl; exact rfl; (focus (decide +kernel)); exact rfl; (focus (kernel_rfl)); exact rfl; (focus (first | (simp only [List.nil_append, List.cons_append, List.set_cons_zero, List.set_cons_succ, iv_set, bv_set, iv_rep, bv_rep]; done) | (simp only [List.nil_append, List.cons_append, List.set_cons_zero, List.set_cons_succ, iv_set, bv_set, iv_rep, bv_rep]; rfl) | rfl))) | ((with_reducible apply Step.buildS 2); exact rfl; exact rfl; exact (fun _ _ => bs47); exact rfl; (focus (first | (simp only [List.nil_append, List.cons_append, List.set_cons_zero, List.set_cons_succ, iv_set, bv_set, iv_rep, bv_rep]; done) | (simp only [List.nil_append, List.cons_append, List.set_cons_zero, List.set_cons_succ, iv_set, bv_set, iv_rep, bv_rep]; rfl) | rfl)))) | (with_reducible refine AWo.nil ?_) | ((with_reducible apply AW.seq)) | ((with_reducible apply Then.n)) | ((with_reducible apply AW.regL)) | ((with_reducible apply AW.block)) | ((with_reducible apply AW.drawT fit (T := (.step 0 (.step 1 (.step 2 (.step 3 (.step 4 (.step 5 (.step 6 (.step 7 (.step 8 (.step 10 (.step 12 (.step 13 (.step 14 (.step 15 (.both (.step 9 (.step 11 (.step 16 (.step 17 (.step 18 (.step 19 (.step 20 (.step 21 .done)))))))) (.both (.step 11 (.both (.step 9 (.step 16 (.step 17 (.step 18 (.step 19 (.step 20 (.step 21 .done))))))) (.step 16 (.step 9 (.step 17 (.step 18 (.step 19 (.step 20 (.step 21 .done))))))))) (.step 16 (.both (.step 9 (.step 11 (.step 17 (.step 18 (.step 19 (.step 20 (.step 21 .done))))))) (.step 11 (.step 9 (.step 17 (.step 18 (.step 19 (.step 20 (.step 21 .done))))))))))))))))))))))))))); (focus (decide +kernel))) | ((with_reducible apply AWt.step); exact rfl) | ((with_reducible apply AWt.done)) | ((with_reducible apply InBlk.n)) | ((with_reducible apply AW.skip)) | ((with_reducible apply AW.condT); exact rfl; (focus ((simp only [decide_eq_true_eq, decide_eq_false_iff_not, Bool.not_eq_true', Bool.not_eq_false', Bool.not_true, Bool.not_false]; first | assumption | omega)))) | ((with_reducible apply AW.condF); exact rfl; (focus ((simp only [decide_eq_true_eq, decide_eq_false_iff_not, Bool.not_eq_true', Bool.not_eq_false', Bool.not_true, Bool.not_false]; first | assumption | omega)))) | refine AWt.both ?_ ?_))
            all_goals exact ⟨_, [(0, .int .i64 n), (1, v), (5, .slice (some ⟨m.length + 0, 0, none⟩) N N), (6, .int .i64 (s : Nat)), (7, .bool false), (25, v), (26, .int .i64 (l.length : Nat)), (27, .int .i64 (i + 1 : Nat))], [some { cells := lvc Tb }], by omega, (Back.trim rfl rfl (by repeat (first | exact CellsOk.nil | refine CellsOk.cons (by assumption) ?_)) (by repeat (first | exact trivial | (refine And.intro ⟨rfl, by (first | exact .int _ _ | exact .bool _ | exact .slice _ _ _ _ (by first | (simp; done) | omega | (simp; omega)) | exact Ren.of_sl (by assumption) (by first | omega | (simp; omega)))⟩ ?_)))), i + 1, rfl, by omega, by rw [hR, hc, hTb], by rw [hR, hf]⟩
    · obtain rfl : i = l.length := by omega
      have e1 : (pkR n p (pkD n p l.length) s l.length).1 = pkD n p l.length s := (pkD_pos (by omega)).symm
      rw [e1, tbs_next hlt]
      (repeat (first | (with_reducible refine AWo.cons ?_) | ((with_reducible refine Step.id ?_); first | ((with_reducible apply Step.move); exact rfl; exact rfl) | ((with_reducible apply Step.assign); exact rfl; exact rfl) | ((with_reducible apply Step.add); exact rfl; exact rfl; (focus (omega)); exact rfl) | ((with_reducible apply Step.lss); exact rfl; exact rfl; exact rfl)) | (with_reducible refine AWo.nil ?_) | ((with_reducible apply AW.seq)) | ((with_reducible apply Then.n)) | ((with_reducible apply AW.regL)) | ((with_reducible apply AW.exit)) | ((with_reducible apply InBlk.n)) | ((with_reducible apply InBlk.hit)) | ((with_reducible apply Then.e)) | ((with_reducible apply AW.condF); exact rfl; (focus ((simp only [decide_eq_true_eq, decide_eq_false_iff_not, Bool.not_eq_true', Bool.not_eq_false', Bool.not_true, Bool.not_false]; first | assumption | omega))))))
      exact ⟨_, _, _, by omega, (Or.inl ⟨rfl, (by repeat (first | exact trivial | (refine And.intro rfl ?_)))⟩), s + 1, rfl, by omega, by omega, rfl, rfl⟩
  · obtain rfl : s = N := by omega
    have e0 : tbs n p l.length s s = pkT n p l.length s := by unfold tbs; rw [if_neg (by omega)]
    rw [e0]
    (repeat (first | (with_reducible refine AWo.cons ?_) | ((with_reducible refine Step.id ?_); first | ((with_reducible apply Step.move); exact rfl; exact rfl) | ((with_reducible apply Step.assign); exact rfl; exact rfl) | ((with_reducible apply Step.lss); exact rfl; exact rfl; exact rfl) | ((with_reducible apply Step.len); exact rfl; (focus (exact Sl.mk (by omega))); (focus (decide +kernel)); exact rfl)) | (with_reducible refine AWo.nil ?_) | ((with_reducible apply AW.seq)) | ((with_reducible apply Then.n)) | ((with_reducible apply AW.regL)) | ((with_reducible apply AW.exit)) | ((with_reducible apply InBlk.hit)) | ((with_reducible apply Then.e)) | ((with_reducible apply AW.condF); exact rfl; (focus ((simp only [decide_eq_true_eq, decide_eq_false_iff_not, Bool.not_eq_true', Bool.not_eq_false', Bool.not_true, Bool.not_false]; first | assumption | omega))))))
    have gT := g0_lvc (pkT n p l.length s)
    refine AW.retB (l := [(4, .slice (some ⟨m.length + 0, 0, none⟩) s s)]) (L1 := [some { cells := lvc (pkT n p l.length s) }]) (Back.trim rfl rfl (by repeat (first | exact CellsOk.nil | refine CellsOk.cons (by assumption) ?_)) (by repeat (first | exact trivial | (refine And.intro ⟨rfl, by (exact .slice _ _ _ _ (by first | (simp; done) | omega | (simp; omega)))⟩ ?_)))) ?_
    exact ⟨_, rfl, rfl, rfl⟩
end Go.Proofs.YtibhgdglbillaaaDoor.Abs
namespace Go.Proofs.YtibhgdglbillaaaDoor.Abs
set_option linter.unusedSimpArgs false
set_option linter.unusedVariables false
open Go.RowKit
open Go.Proofs.YtibhgdglbillaaaDoor.Sim
open Go.Proofs
set_option maxRecDepth 100000 in
theorem Fewest_no {m : AM} {v : Value} {l : List Int} {n : Int} (hl : Ints m v l) (hlen : l.length ≤ 9223372036854775807) (hok : stripsB n l = false) : ACall Tryd.prog 43 #[.int .i64 n, v] m (Ret (.tuple #[.int .i64 0, .int .i64 2]) m) := by
  refine ACall.start Tryd.func43 rfl rfl ?_
  (repeat (first | (with_reducible refine AWo.cons ?_) | ((with_reducible refine Step.id ?_); first | ((with_reducible apply Step.move); exact rfl; exact rfl) | ((with_reducible apply Step.assign); exact rfl; exact rfl) | ((with_reducible apply Step.not); exact rfl; exact rfl) | ((with_reducible apply Step.callR fit); exact rfl; exact Tryd.func88; exact rfl; exact rfl; exact (valid_ok (hl.old []) hlen hok))) | (with_reducible refine AWo.nil ?_) | ((with_reducible apply AW.seq)) | ((with_reducible apply Then.n)) | ((with_reducible apply AW.regL)) | ((with_reducible apply AW.condT); exact rfl; (focus (rfl)))))
  (refine AW.retD (l := [(4, _), (5, _)]) (by repeat (first | exact trivial | (refine And.intro ⟨rfl, by (exact .int _ _)⟩ ?_))) ?_; (repeat (first | refine Then.r ?_ | refine InBlk.r ?_)))
  exact ⟨_, rfl, rfl, rfl⟩
set_option maxRecDepth 100000 in
theorem Fewest_ok {m : AM} {v : Value} {l : List Int} {n : Int} (hl : Ints m v l) (hok : stripsB n l = true) : ACall Tryd.prog 43 #[.int .i64 n, v] m (Ret (.tuple #[.int .i64 (fewest n (fun i => l.getD i 0) l.length : Nat), .int .i64 0]) m) := by
  have h := SpOk.of hok
  have hl14 := h.len
  have hN : 2 ^ l.length ≤ 16384 := by
    have : 2 ^ l.length ≤ 2 ^ 14 := Nat.pow_le_pow_right (by omega) hl14
    omega
  have hN1 : 1 ≤ 2 ^ l.length := Nat.one_le_two_pow
  have hg : ((pkT n (fun i => l.getD i 0) l.length (2 ^ l.length)).getD (2 ^ l.length - 1) (0, 0, 0)) = pkD n (fun i => l.getD i 0) l.length (2 ^ l.length - 1) := pkT_get (by omega)
  have hT := pkT_len (n := n) (p := fun i => l.getD i 0) (k := l.length) (2 ^ l.length)
  refine ACall.start Tryd.func43 rfl rfl ?_
  (repeat (first | (with_reducible refine AWo.cons ?_) | ((with_reducible refine Step.id ?_); first | ((with_reducible apply Step.move); exact rfl; exact rfl) | ((with_reducible apply Step.assign); exact rfl; exact rfl) | ((with_reducible apply Step.not); exact rfl; exact rfl) | ((with_reducible apply Step.callR fit); exact rfl; exact Tryd.func88; exact rfl; exact rfl; exact (valid_ok (hl.old []) (by omega) hok)) | ((with_reducible apply Step.callN fit (k := 0)); exact rfl; exact rfl; exact Tryd.func89; exact rfl; exact rfl; exact (packed_ok (hl.old []) hok); (focus (first | (simp only [List.nil_append, List.cons_append, List.set_cons_zero, List.set_cons_succ, iv_set, bv_set, iv_rep, bv_rep]; done) | (simp only [List.nil_append, List.cons_append, List.set_cons_zero, List.set_cons_succ, iv_set, bv_set, iv_rep, bv_rep]; rfl) | rfl)))) | (with_reducible refine AWo.nil ?_) | ((fail_if_success (with_reducible refine AW.atR (id := 4) ?_)); ((with_reducible apply AW.seq))) | ((with_reducible apply Then.n)) | ((with_reducible apply AW.regL)) | ((with_reducible apply AW.skip)) | ((with_reducible apply AW.condF); exact rfl; (focus (rfl)))))
  have ef : fewest n (fun i => l.getD i 0) l.length = (pkD n (fun i => l.getD i 0) l.length (2 ^ l.length - 1)).1 := rfl
  rw [ef]
  have gT := g0_lvc (pkT n (fun i => l.getD i 0) l.length (2 ^ l.length))
  generalize pkT n (fun i => l.getD i 0) l.length (2 ^ l.length) = Q at *
  generalize pkD n (fun i => l.getD i 0) l.length (2 ^ l.length - 1) = d at *
  generalize hN2 : 2 ^ l.length = N at *
  have e1 : ((N : Nat) : Int) - 1 = ((N - 1 : Nat) : Int) := by omega
  have r1 : RdL (m ++ [some { cells := lvc Q }]) (m.length + 0) ((N - 1) * 3) (ldc d) := by
    rw [← hg]
    exact rdl_ld rfl (by omega)
  (repeat (first | (with_reducible refine AWo.cons ?_) | ((with_reducible refine Step.id ?_); first | ((with_reducible apply Step.move); exact rfl; exact rfl) | ((with_reducible apply Step.assign); exact rfl; exact rfl) | ((with_reducible apply Step.load); exact rfl; (focus (decide +kernel)); exact rfl; (focus (exact r1.at_ 0 rfl))) | ((with_reducible apply Step.ixz (s := 3)); exact rfl; (focus (exact Sl.mk (by omega))); exact rfl; (focus (decide +kernel)); exact rfl; (focus (omega))) | ((with_reducible apply Step.field0); exact rfl; (focus (decide +kernel)); exact rfl) | ((with_reducible apply Step.subE); exact rfl; exact rfl; (focus (assumption)); (focus (omega)); exact rfl) | ((with_reducible apply Step.len); exact rfl; (focus (exact Sl.mk (by omega))); (focus (decide +kernel)); exact rfl)) | (with_reducible refine AWo.nil ?_) | ((with_reducible apply AW.seq)) | ((with_reducible apply Then.n)) | ((with_reducible apply AW.regL))))
  (refine AW.retD (l := [(4, _), (5, _)]) (by repeat (first | exact trivial | (refine And.intro ⟨rfl, by (exact .int _ _)⟩ ?_))) ?_; (repeat (first | refine Then.r ?_ | refine InBlk.r ?_)))
  exact ⟨_, rfl, rfl, rfl⟩
section
variable {P : Program} {nt : Nat} {ops : Array Oper} {t : Fm} {K : Fm → AM → Prop} {d T : Nat} {p : String} {af : Array Edge}
end
section
variable {n : Int} {p : Nat → Int} {k N s : Nat}
end
end Go.Proofs.YtibhgdglbillaaaDoor.Abs
namespace Go.Proofs.YtibhgdglbillaaaDoor.Abs
set_option linter.unusedSimpArgs false
set_option linter.unusedVariables false
open Go.RowKit
open Go.Proofs.YtibhgdglbillaaaDoor.Sim
open Go.Proofs
/-- The row whose cells below i hold their own numbers. -/
def iniL (n i : Nat) : List Int := (List.range n).map fun j => if j < i then (j : Int) else 0
theorem iniL_len (n i : Nat) : (iniL n i).length = n := by simp [iniL]
theorem iniL_zero (n : Nat) : List.replicate n (0 : Int) = iniL n 0 := by
  apply List.ext_getElem?
  intro j
  by_cases h : j < n
  · simp [iniL, h]
  · rw [List.getElem?_eq_none (by simp; omega), List.getElem?_eq_none (by rw [iniL_len]; omega)]
theorem iniL_set {n i : Nat} : (iniL n i).set i (i : Nat) = iniL n (i + 1) := by
  apply List.ext_getElem?
  intro j
  rw [List.getElem?_set]
  by_cases h : j < n
  · by_cases e : i = j
    · subst e
      rw [if_pos rfl, if_pos (by rw [iniL_len]; exact h)]
      simp [iniL, h]
    · rw [if_neg e]
      simp only [iniL, List.getElem?_map, List.getElem?_range h, Option.map_some]
      congr 1
      by_cases q : j < i
      · rw [if_pos q, if_pos (by omega)]
      · rw [if_neg q, if_neg (by omega)]
  · have h1 : (iniL n i)[j]? = none := List.getElem?_eq_none (by rw [iniL_len]; omega)
    have h2 : (iniL n (i + 1))[j]? = none := List.getElem?_eq_none (by rw [iniL_len]; omega)
    rw [h1, h2]
    split
    · rw [if_neg (by rw [iniL_len]; omega)]
    · rfl
theorem iniL_full (n : Nat) : iniL n n = upI n := by
  unfold iniL upI
  exact List.map_congr_left fun j hj => by rw [if_pos (List.mem_range.1 hj)]
/-- What room is left in the bars. -/
def lfL (n : Int) (l : List Int) (k : Nat) : List Int := (ffL n l k).map fun y => n - y
theorem lfL_len (n : Int) (l : List Int) (k : Nat) : (lfL n l k).length = (ffL n l k).length := by simp [lfL]
theorem lfL_get {n : Int} {l : List Int} {k b : Nat} (h : b < (ffL n l k).length) : (lfL n l k).getD b 0 = n - (ffL n l k).getD b 0 := by simp [lfL, h]
theorem lfL_find (n : Int) (l : List Int) (k : Nat) (x : Int) : (lfL n l k).findIdx (fun r => decide (r ≥ x)) = ffB n (ffL n l k) x := by
  unfold lfL ffB
  rw [List.findIdx_map]
  congr 1
  funext y
  simp only [Function.comp]
  by_cases h : y + x ≤ n
  · rw [decide_eq_true h, decide_eq_true (by omega)]
  · rw [decide_eq_false h, decide_eq_false (by omega)]
theorem lfL_hit {n : Int} {l : List Int} {k : Nat} (h : ffK n l k < (ffL n l k).length) : lfL n l (k + 1) = (lfL n l k).set (ffK n l k) ((lfL n l k).getD (ffK n l k) 0 - l.getD (oi l k) 0) := by
  have h' : ffB n (ffL n l k) (l.getD (oi l k) 0) < (ffL n l k).length := h
  rw [lfL_get h]
  unfold lfL
  simp only [ffL, ffA, if_pos h']
  rw [List.map_set]
  congr 1
  unfold ffK
  omega
theorem lfL_miss {n : Int} {l : List Int} {k : Nat} (h : ¬ ffK n l k < (ffL n l k).length) : lfL n l (k + 1) = (lfL n l k ++ [n]).set (ffK n l k) (n - l.getD (oi l k) 0) ∧ ffK n l k = (lfL n l k).length := by
  have h' : ¬ ffB n (ffL n l k) (l.getD (oi l k) 0) < (ffL n l k).length := h
  have e : ffK n l k = (lfL n l k).length := by
    rw [lfL_len]
    have := ffB_le n (ffL n l k) (l.getD (oi l k) 0)
    unfold ffK at h ⊢
    omega
  refine ⟨?_, e⟩
  rw [e, List.set_append_right _ _ (Nat.le_refl _), Nat.sub_self]
  unfold lfL
  simp only [ffL, ffA, if_neg h']
  rw [List.map_append]
  rfl
theorem ffL_bars (n : Int) (l : List Int) : ∀ k, (ffL n l k).length ≤ k
  | 0 => Nat.le_refl _
  | k + 1 => by
    have h1 := ffL_bars n l k
    have h2 := ffL_len n l k
    have h3 := ffB_le n (ffL n l k) (l.getD (oi l k) 0)
    unfold ffK at h2
    omega
theorem lf_bd {n : Int} {l : List Int} (h : SpOk n l) {k : Nat} (hk : k ≤ l.length) (b : Nat) : 0 ≤ (ffL n l k).getD b 0 ∧ (ffL n l k).getD b 0 ≤ 28000 := by
  rw [ffL_load]
  have hp : ∀ i, i < k → 1 ≤ l.getD (oi l i) 0 ∧ l.getD (oi l i) 0 ≤ n := fun i hi => h.at_ _ (oi_lt (by omega)).1
  have hn := h.n2
  have hl := h.len
  refine ⟨ld_nn (fun i hi => by have := hp i hi; omega) b, ?_⟩
  have : ld (fun i => l.getD (oi l i) 0) (ffK n l) k b ≤ sm (fun _ => 2000) k := sm_le fun i hi => by
    show (if ffK n l i = b then l.getD (oi l i) 0 else 0) ≤ 2000
    have := hp i hi
    split <;> omega
  rw [sm_const] at this
  omega
theorem ints_gv {m L : AM} {k : Nat} {l : List Int} (h : L[k]? = some (gb (iv l) 1)) : Ints (m ++ L) (gv (m.length + k) l.length) l := by
  have hlt : m.length + k < (m ++ L).length := by
    rw [List.length_append]
    have := (List.getElem?_eq_some_iff.1 h).1
    omega
  refine ⟨m.length + k, 0, gv_sl _ _, hlt, fun i hi => ?_⟩
  have hp : 0 < (iv l).length := by simpa [iv] using (show 0 < l.length by omega)
  rw [gb_pos hp] at h
  exact ⟨_, by rw [get_app]; exact h, by rw [Nat.zero_add]; exact iv_get hi⟩
theorem bs47a {m : AM} {k : Nat} {x : Int} : abuildSlice Tryd.prog m k 47 1 [(0, .int .i64 x)] = some (.slice (some ⟨k, 0, none⟩) 1 1, m.set k (some { cells := [.int .i64 x] })) := by kernel_rfl
theorem un47s : Tryd.prog.underlying 47 = some (.slice 3) := by kernel_rfl
theorem ze3i : zeroB Tryd.prog 3 = some #[.int .i64 0] := by kernel_rfl
set_option maxRecDepth 100000 in
theorem FirstFit_no {m : AM} {v : Value} {l : List Int} {n : Int} (hl : Ints m v l) (hlen : l.length ≤ 9223372036854775807) (hok : stripsB n l = false) : ACall Tryd.prog 57 #[.int .i64 n, v] m (Ret (.tuple #[.slice none 0 0, .int .i64 2]) m) := by
  obtain ⟨a, o, h1, h2, h3⟩ := id hl
  have hv := h1.cells
  refine ACall.start Tryd.func57 rfl rfl ?_
  (repeat (first | (with_reducible refine AWo.cons ?_) | ((with_reducible refine Step.id ?_); first | ((with_reducible apply Step.move); exact rfl; exact rfl) | ((with_reducible apply Step.assign); exact rfl; exact rfl) | ((with_reducible apply Step.load); exact rfl; (focus (decide +kernel)); exact rfl; (focus (exact Rd.new rfl rfl))) | ((with_reducible apply Step.not); exact rfl; exact rfl) | ((with_reducible apply Step.callR fit); exact rfl; exact Tryd.func88; exact rfl; exact rfl; exact (valid_ok (hl.old _) hlen hok)) | ((with_reducible apply Step.boxV 0); exact rfl; exact rfl; (focus (assumption)); exact rfl; (focus (first | (simp only [List.nil_append, List.cons_append, List.set_cons_zero, List.set_cons_succ, iv_set, bv_set, iv_rep, bv_rep]; done) | (simp only [List.nil_append, List.cons_append, List.set_cons_zero, List.set_cons_succ, iv_set, bv_set, iv_rep, bv_rep]; rfl) | rfl)))) | (with_reducible refine AWo.nil ?_) | ((with_reducible apply AW.seq)) | ((with_reducible apply Then.n)) | ((with_reducible apply AW.regL)) | ((with_reducible apply AW.condT); exact rfl; (focus (rfl)))))
  (refine AW.retD (l := [(4, _), (5, _)]) (by repeat (first | exact trivial | (refine And.intro ⟨rfl, by (first | exact .int _ _ | exact Ren.of_g0 rfl)⟩ ?_))) ?_; (repeat (first | refine Then.r ?_ | refine InBlk.r ?_)))
  exact ⟨_, rfl, rfl, rfl⟩
set_option maxHeartbeats 8000000 in
set_option maxRecDepth 100000 in
theorem FirstFit_ok {m : AM} {v : Value} {l : List Int} {n : Int} (hl : Ints m v l) (hok : stripsB n l = true) :
    ACall Tryd.prog 57 #[.int .i64 n, v] m (NewT (fun N => .tuple #[.slice (some ⟨N, 0, none⟩) l.length l.length, .int .i64 0]) (some { cells := iv (ffO n l 0 l.length) }) m) := by
  have h := SpOk.of hok
  have hn1 := h.n1
  have hn2 := h.n2
  have hl14 := h.len
  have hat := h.at_
  obtain ⟨a, o, h1, h2, h3⟩ := id hl
  have hv := h1.cells
  have hst : ACall Tryd.prog 94 #[.slice (some ⟨m.length + 1, 0, none⟩) l.length l.length, .func (.func 95) #[] #[.pointer (some ⟨m.length + 0, 0, none⟩)]] (m ++ [some { cells := [v] }, some { cells := iv (upI l.length) }, some { cells := iv (List.replicate l.length 0) }])
      (Ret (.tuple #[]) (m ++ [some { cells := [v] }, some { cells := iv (ordL l) }, some { cells := iv (List.replicate l.length 0) }])) := by
    have hC : CmpOk (m ++ [some { cells := [v] }, some { cells := iv (upI l.length) }, some { cells := iv (List.replicate l.length 0) }]) (m.length + 1) 1 .own (ixI l fun x y => cmpI y x) (fun x => 0 ≤ x ∧ x < l.length) 95 #[.pointer (some ⟨m.length + 0, 0, none⟩)] := by
      refine ⟨by simp, rfl, fun r x y hx hy => ?_⟩
      have hl' : Ints (St (m ++ [some { cells := [v] }, some { cells := iv (upI l.length) }, some { cells := iv (List.replicate l.length 0) }]) (m.length + 1) .own 1 r) v l :=
        ⟨a, o, h1, by rw [St.len]; simp; omega, fun k hk => St.rd_ne ((h3 k hk).old _) (by omega)⟩
      exact f95_ok hl' (St.rd_ne (Rd.new (L := [some { cells := [v] }, some { cells := iv (upI l.length) }, some { cells := iv (List.replicate l.length 0) }]) (k := 0) rfl rfl) (by omega)) x y hx hy
    have hst := stable_ok hC (leL_to l) Tryd.func95 rfl l.length (upI l.length) (upI_len _) (by omega) (fun x hx => upI_mem.1 hx) (upI_cross fun x y _ hxy _ => leL_cross l x y hxy)
    rw [St.self (by rw [get_app]; rfl)] at hst
    have hset : St (m ++ [some { cells := [v] }, some { cells := iv (upI l.length) }, some { cells := iv (List.replicate l.length 0) }]) (m.length + 1) .own 1 (ms (leL l) (upI l.length)) = m ++ [some { cells := [v] }, some { cells := iv (ordL l) }, some { cells := iv (List.replicate l.length 0) }] := by
      unfold St ordL; rw [set_app]; rfl
    rw [hset] at hst
    exact hst
  refine ACall.start Tryd.func57 rfl rfl ?_
  (repeat (first | (with_reducible refine AWo.cons ?_) | ((with_reducible refine Step.id ?_); first | ((with_reducible apply Step.move); exact rfl; exact rfl) | ((with_reducible apply Step.assign); exact rfl; exact rfl) | ((with_reducible apply Step.load); exact rfl; (focus (decide +kernel)); exact rfl; (focus (exact Rd.new rfl rfl))) | ((with_reducible apply Step.not); exact rfl; exact rfl) | ((with_reducible apply Step.callR fit); exact rfl; exact Tryd.func88; exact rfl; exact rfl; exact (valid_ok (hl.old _) (by omega) hok)) | ((with_reducible apply Step.boxV 0); exact rfl; exact rfl; (focus (assumption)); exact rfl; (focus (first | (simp only [List.nil_append, List.cons_append, List.set_cons_zero, List.set_cons_succ, iv_set, bv_set, iv_rep, bv_rep]; done) | (simp only [List.nil_append, List.cons_append, List.set_cons_zero, List.set_cons_succ, iv_set, bv_set, iv_rep, bv_rep]; rfl) | rfl)))) | (with_reducible refine AWo.nil ?_) | ((fail_if_success (with_reducible refine AW.atR (id := 3) ?_)); ((with_reducible apply AW.seq))) | ((with_reducible apply Then.n)) | ((with_reducible apply AW.regL)) | ((with_reducible apply AW.skip)) | ((with_reducible apply AW.condF); exact rfl; (focus (rfl)))))
  refine AW.joinG (fr [(0, .int .i64 n), (3, .pointer (some ⟨m.length + 0, 0, none⟩)), (6, .slice (some ⟨m.length + 1, 0, none⟩) l.length l.length), (7, .slice (some ⟨m.length + 2, 0, none⟩) l.length l.length)]) (m ++ [some { cells := [v] }, some { cells := iv (List.replicate l.length 0) }, some { cells := iv (List.replicate l.length 0) }]) ?_ ?_
  · have hc3 : ∀ (σ : List Nat) (b : Blk), some b ∈ [some { cells := [v] }, some { cells := iv (List.replicate l.length 0) }, some { cells := iv (List.replicate l.length 0) }] → isMapK b.kind = false ∧ ∀ x ∈ b.cells, Ren (sg m.length σ) (m.length + 3) x x := fun σ b hb => by
      simp only [List.mem_cons, List.not_mem_nil, or_false, Option.some.injEq] at hb
      rcases hb with rfl | rfl | rfl
      · exact ⟨rfl, fun x hx => by simp at hx; subst hx; exact Ren.of_sl_sg h1 h2 (by omega)⟩
      · exact ⟨rfl, fun x hx => Ren.of_g0 (g0_iv _ x hx)⟩
      · exact ⟨rfl, fun x hx => Ren.of_g0 (g0_iv _ x hx)⟩
    (repeat' (first | ((with_reducible refine Step.id ?_); first | ((with_reducible apply Step.assign); exact rfl; exact rfl) | ((with_reducible apply Step.load); exact rfl; (focus (decide +kernel)); exact rfl; (focus (exact Rd.new rfl rfl))) | ((with_reducible apply Step.len); exact rfl; (focus (assumption)); (focus (decide +kernel)); exact rfl) | ((with_reducible apply Step.make1 1); exact rfl; exact rfl; exact rfl; exact el47; (focus (omega)); exact rfl; (focus (first | (simp only [List.nil_append, List.cons_append, List.set_cons_zero, List.set_cons_succ, iv_set, bv_set, iv_rep, bv_rep]; done) | (simp only [List.nil_append, List.cons_append, List.set_cons_zero, List.set_cons_succ, iv_set, bv_set, iv_rep, bv_rep]; rfl) | rfl))) | ((with_reducible apply Step.make1 2); exact rfl; exact rfl; exact rfl; exact el47; (focus (omega)); exact rfl; (focus (first | (simp only [List.nil_append, List.cons_append, List.set_cons_zero, List.set_cons_succ, iv_set, bv_set, iv_rep, bv_rep]; done) | (simp only [List.nil_append, List.cons_append, List.set_cons_zero, List.set_cons_succ, iv_set, bv_set, iv_rep, bv_rep]; rfl) | rfl)))) | ((with_reducible apply Then.n)) | ((with_reducible apply AW.drawT fit (T := (.both (.step 0 (.step 1 (.both (.step 2 (.step 3 (.step 4 (.step 6 (.step 5 (.step 7 .done)))))) (.step 3 (.step 4 (.both (.step 2 (.step 6 (.step 5 (.step 7 .done)))) (.step 5 (.step 2 (.step 6 (.step 7 .done)))))))))) (.step 3 (.step 4 (.both (.step 0 (.step 1 (.both (.step 2 (.step 6 (.step 5 (.step 7 .done)))) (.step 5 (.step 2 (.step 6 (.step 7 .done))))))) (.step 5 (.step 0 (.step 1 (.step 2 (.step 6 (.step 7 .done)))))))))))); (focus (decide +kernel))) | ((with_reducible apply AWt.step); exact rfl) | ((with_reducible apply AWt.done)) | refine AWt.both ?_ ?_))
    all_goals first
      | exact Gc.perm [0, 1, 2] rfl (by decide) (fun p hp => by rcases p with _ | _ | _ | p <;> first | rfl | exact absurd hp (by simp)) (hc3 _) ⟨⟨_, rfl, .int _ _⟩, ⟨_, rfl, Ren.ptr_sg (by simp)⟩, ⟨_, rfl, Ren.slice_sg (by simp)⟩, ⟨_, rfl, Ren.slice_sg (by simp)⟩, trivial⟩
      | exact Gc.perm [0, 2, 1] rfl (by decide) (fun p hp => by rcases p with _ | _ | _ | p <;> first | rfl | exact absurd hp (by simp)) (hc3 _) ⟨⟨_, rfl, .int _ _⟩, ⟨_, rfl, Ren.ptr_sg (by simp)⟩, ⟨_, rfl, Ren.slice_sg (by simp)⟩, ⟨_, rfl, Ren.slice_sg (by simp)⟩, trivial⟩
  rw [show m ++ [some { cells := [v] }, some { cells := iv (List.replicate l.length 0) }, some { cells := iv (List.replicate l.length 0) }] = m ++ [some { cells := [v] }, some { cells := iv (iniL l.length 0) }, some { cells := iv (List.replicate l.length 0) }] from by rw [← iniL_zero]]
  (repeat (first | (with_reducible refine AWo.cons ?_) | ((with_reducible refine Step.id ?_); first | ((with_reducible apply Step.move); exact rfl; exact rfl) | ((with_reducible apply Step.len); exact rfl; (focus (exact Sl.mk (by omega))); (focus (decide +kernel)); exact rfl)) | (with_reducible refine AWo.nil ?_) | ((with_reducible apply AW.seq)) | ((with_reducible apply Then.n)) | ((with_reducible apply AW.regL)) | ((with_reducible apply AW.block))))
  refine AW.loopT (fun q t L => ∃ i : Nat, q = l.length - i ∧ i ≤ l.length ∧ L = [some { cells := [v] }, some { cells := iv (iniL l.length i) }, some { cells := iv (List.replicate l.length 0) }] ∧
    t = [(0, .int .i64 n), (3, .pointer (some ⟨m.length + 0, 0, none⟩)), (6, .slice (some ⟨m.length + 1, 0, none⟩) l.length l.length), (7, .slice (some ⟨m.length + 2, 0, none⟩) l.length l.length), (23, .slice (some ⟨m.length + 1, 0, none⟩) l.length l.length), (24, .int .i64 (l.length : Nat)), (25, .int .i64 (i : Nat))]) ⟨_, _, _, (Or.inl ⟨rfl, (by repeat (first | exact trivial | (refine And.intro rfl ?_)))⟩), 0, rfl, Nat.zero_le _, rfl, rfl⟩ ?_
  rintro q t L ⟨i, rfl, hi, rfl, rfl⟩
  rcases Nat.lt_or_ge i l.length with hil | hil
  · have hset := iniL_set (n := l.length) (i := i)
    have hln := iniL_len l.length i
    (repeat (first | (with_reducible refine AWo.cons ?_) | ((with_reducible refine Step.id ?_); first | ((with_reducible apply Step.move); exact rfl; exact rfl) | ((with_reducible apply Step.assign); exact rfl; exact rfl) | ((with_reducible apply Step.ix1z); exact rfl; (focus (exact Sl.mk (by omega))); exact rfl; (focus (decide +kernel)); exact rfl; (focus (omega))) | ((with_reducible apply Step.add); exact rfl; exact rfl; (focus (omega)); exact rfl) | ((with_reducible apply Step.lss); exact rfl; exact rfl; exact rfl) | ((with_reducible apply Step.store (k := 1)); exact rfl; exact rfl; exact rfl; exact rfl; (focus (decide +kernel)); exact rfl; exact rfl; (focus (first | omega | (simp [iv, bv]; done) | (simp [iv, bv]; omega))); (focus (first | (simp only [List.nil_append, List.cons_append, List.set_cons_zero, List.set_cons_succ, iv_set, bv_set, iv_rep, bv_rep]; done) | (simp only [List.nil_append, List.cons_append, List.set_cons_zero, List.set_cons_succ, iv_set, bv_set, iv_rep, bv_rep]; rfl) | rfl)))) | (with_reducible refine AWo.nil ?_) | ((with_reducible apply AW.seq)) | ((with_reducible apply Then.n)) | ((with_reducible apply AW.regL)) | ((with_reducible apply AW.block)) | ((with_reducible apply InBlk.n)) | ((with_reducible apply AW.skip)) | ((with_reducible apply AW.condT); exact rfl; (focus ((simp only [decide_eq_true_eq, decide_eq_false_iff_not, Bool.not_eq_true', Bool.not_eq_false', Bool.not_true, Bool.not_false]; first | assumption | omega))))))
    exact ⟨_, _, _, by omega, (Or.inl ⟨rfl, (by repeat (first | exact trivial | (refine And.intro rfl ?_)))⟩), i + 1, rfl, by omega, by rw [hset], rfl⟩
  · obtain rfl : i = l.length := by omega
    rw [iniL_full]
    (repeat (first | (with_reducible refine AWo.cons ?_) | ((with_reducible refine Step.id ?_); first | ((with_reducible apply Step.move); exact rfl; exact rfl) | ((with_reducible apply Step.assign); exact rfl; exact rfl) | ((with_reducible apply Step.lss); exact rfl; exact rfl; exact rfl) | ((with_reducible apply Step.len); exact rfl; (focus (exact Sl.mk (by omega))); (focus (decide +kernel)); exact rfl) | ((with_reducible apply Step.fn); exact rfl; exact rfl; exact rfl) | ((with_reducible apply Step.callM fit); exact rfl; exact Tryd.func94; exact rfl; exact rfl; exact (hst))) | (with_reducible refine AWo.nil ?_) | ((with_reducible apply AW.seq)) | ((with_reducible apply Then.n)) | ((with_reducible apply AW.regL)) | ((with_reducible apply AW.block)) | ((with_reducible apply AW.exit)) | ((with_reducible apply InBlk.hit)) | ((with_reducible apply Then.e)) | ((with_reducible apply AW.condF); exact rfl; (focus ((simp only [decide_eq_true_eq, decide_eq_false_iff_not, Bool.not_eq_true', Bool.not_eq_false', Bool.not_true, Bool.not_false]; first | assumption | omega))))))
    clear hst
    refine AW.loopT (fun q t L => ∃ k : Nat, q = l.length - k ∧ k ≤ l.length ∧ L = [some { cells := [v] }, some { cells := iv (ordL l) }, some { cells := iv (ffO n l 0 k) }, gb (iv (lfL n l k)) 1] ∧
      t = [(0, .int .i64 n), (3, .pointer (some ⟨m.length + 0, 0, none⟩)), (7, .slice (some ⟨m.length + 2, 0, none⟩) l.length l.length), (9, gv (m.length + 3) (lfL n l k).length), (36, .slice (some ⟨m.length + 1, 0, none⟩) l.length l.length), (37, .int .i64 (l.length : Nat)), (38, .int .i64 (k : Nat))])
      ⟨_, _, [some { cells := [v] }, some { cells := iv (ordL l) }, some { cells := iv (List.replicate l.length 0) }, none], (Back.padC rfl (by repeat (first | exact trivial | (refine And.intro ⟨rfl, by (first | exact .int _ _ | exact Ren.of_gv (by first | (simp; done) | omega | (simp; omega)) | exact .slice _ _ _ _ (by first | (simp; done) | omega | (simp; omega)) | exact .ptr _ _ (by first | (simp; done) | omega | (simp; omega)))⟩ ?_))) (by repeat (first | exact CellsP.nil | (refine CellsP.cons ?_ ?_; (focus (first | exact cells_iv _ | ((repeat (first | exact cells_nil | (refine cells_cons ?_ ?_; (focus (exact Ren.of_sl (by assumption) (by first | omega | (simp; omega))))))); done))))))), 0, rfl, Nat.zero_le _, rfl, rfl⟩ ?_
    rintro q t L ⟨k, rfl, hk, rfl, rfl⟩
    rcases Nat.lt_or_ge k l.length with hkl | hkl
    · obtain ⟨ho1, ho2⟩ := oi_lt hkl
      have hr := h3 (oi l k) ho1
      have hx := hat (oi l k) ho1
      have lO := ffO_len n l 0 k
      have lord := ordL_len l
      have hO : ffO n l 0 (k + 1) = (ffO n l 0 k).set (oi l k) (ffK n l k : Nat) := rfl
      have hfind := lfL_find n l k (l.getD (oi l k) 0)
      have hbd := lf_bd h hk (ffK n l k)
      have hfs : (ffL n l k).length ≤ k := ffL_bars n l k
      have hle := ffB_le n (ffL n l k) (l.getD (oi l k) 0)
      have hll := lfL_len n l k
      have hget := fun hb => lfL_get (n := n) (l := l) (k := k) (b := ffK n l k) hb
      change _ = ffK n l k at hfind
      have hF : ACall Tryd.prog 97 #[gv (m.length + 3) (lfL n l k).length, .func (.func 98) #[] #[.pointer (some ⟨m.length + 0, 0, none⟩), .pointer (some ⟨m.length + 4, 0, none⟩)]] (m ++ [some { cells := [v] }, some { cells := iv (ordL l) }, some { cells := iv (ffO n l 0 k) }, gb (iv (lfL n l k)) 1, some { cells := [.int .i64 (oi l k : Nat)] }])
          (Ret (.int .i64 (fiI (fun r => decide (r ≥ l.getD (oi l k) 0)) (lfL n l k))) (m ++ [some { cells := [v] }, some { cells := iv (ordL l) }, some { cells := iv (ffO n l 0 k) }, gb (iv (lfL n l k)) 1, some { cells := [.int .i64 (oi l k : Nat)] }])) :=
        f97_ok (ints_gv (k := 3) rfl) Tryd.func98 rfl _ (by omega) fun j _ => f98_ok (hl.old _) (Rd.new (k := 0) rfl rfl) (Rd.new (k := 4) rfl rfl) ho1 _
      unfold fiI at hF
      rw [hfind] at hF
      have r0 : ∀ T, Rd (m ++ (some { cells := [v] } :: some { cells := iv (ordL l) } :: T)) (m.length + 1) k (.int .i64 (oi l k : Nat)) := fun T => by rw [← ho2]; exact Rd.new rfl (iv_get (by omega))
      by_cases hh : ffK n l k < (ffL n l k).length
      · have hlf := lfL_hit hh
        rw [if_pos (by omega)] at hF
        have hgt := hget hh
        rw [gb_pos (by simp [iv]; omega), gv_pos (by omega)] at hF ⊢
        generalize hle' : lfL n l (k + 1) = left' at *
        generalize hoe' : ffO n l 0 (k + 1) = out' at *
        generalize ffO n l 0 k = out at *
        generalize lfL n l k = left at *
        generalize ffK n l k = K at *
        generalize l.getD (oi l k) 0 = x at *
        generalize oi l k = i at *
        have r3 : Rd (m ++ [some { cells := [v] }, some { cells := iv (ordL l) }, some { cells := iv out }, some { cells := iv left, kind := .grow, size := 1 }, some { cells := [.int .i64 (i : Nat)] }]) (m.length + 3) K (.int .i64 (left.getD K 0)) := Rd.new rfl (iv_get (by omega))
        generalize left.getD K 0 = y at *
        (repeat (first | (with_reducible refine AWo.cons ?_) | ((with_reducible refine Step.id ?_); first | ((with_reducible apply Step.move); exact rfl; exact rfl) | ((with_reducible apply Step.assign); exact rfl; exact rfl) | ((with_reducible apply Step.load); exact rfl; (focus (decide +kernel)); exact rfl; (focus (first | assumption | exact r0 _ | exact Rd.new rfl rfl | exact Rd.old _ (by assumption)))) | ((with_reducible apply Step.ix1z); exact rfl; (focus (exact Sl.mk (by omega))); exact rfl; (focus (decide +kernel)); exact rfl; (focus (omega))) | ((with_reducible apply Step.ix1); exact rfl; (focus (assumption)); exact rfl; (focus (decide +kernel)); exact rfl; (focus (omega))) | ((with_reducible apply Step.add); exact rfl; exact rfl; (focus (omega)); exact rfl) | ((with_reducible apply Step.sub); exact rfl; exact rfl; (focus (omega)); exact rfl) | ((with_reducible apply Step.lss); exact rfl; exact rfl; exact rfl) | ((with_reducible apply Step.fn); exact rfl; exact rfl; exact rfl) | ((with_reducible apply Step.callR fit); exact rfl; exact Tryd.func97; exact rfl; exact rfl; exact (hF)) | ((with_reducible apply Step.store (k := 2)); exact rfl; exact rfl; exact rfl; exact rfl; (focus (decide +kernel)); exact rfl; exact rfl; (focus (first | omega | (simp [iv, bv]; done) | (simp [iv, bv]; omega))); (focus (first | (simp only [List.nil_append, List.cons_append, List.set_cons_zero, List.set_cons_succ, iv_set, bv_set, iv_rep, bv_rep]; done) | (simp only [List.nil_append, List.cons_append, List.set_cons_zero, List.set_cons_succ, iv_set, bv_set, iv_rep, bv_rep]; rfl) | rfl))) | ((with_reducible apply Step.store (k := 3)); exact rfl; exact rfl; exact rfl; exact rfl; (focus (decide +kernel)); exact rfl; exact rfl; (focus (first | omega | (simp [iv, bv]; done) | (simp [iv, bv]; omega))); (focus (first | (simp only [List.nil_append, List.cons_append, List.set_cons_zero, List.set_cons_succ, iv_set, bv_set, iv_rep, bv_rep]; done) | (simp only [List.nil_append, List.cons_append, List.set_cons_zero, List.set_cons_succ, iv_set, bv_set, iv_rep, bv_rep]; rfl) | rfl))) | ((with_reducible apply Step.alloc 4); exact rfl; exact ze3i; exact rfl; (focus (first | (simp only [List.nil_append, List.cons_append, List.set_cons_zero, List.set_cons_succ, iv_set, bv_set, iv_rep, bv_rep]; done) | (simp only [List.nil_append, List.cons_append, List.set_cons_zero, List.set_cons_succ, iv_set, bv_set, iv_rep, bv_rep]; rfl) | rfl))) | ((with_reducible apply Step.store (k := 4)); exact rfl; exact rfl; exact rfl; exact rfl; (focus (decide +kernel)); exact rfl; exact rfl; (focus (first | omega | (simp [iv, bv]; done) | (simp [iv, bv]; omega))); (focus (first | (simp only [List.nil_append, List.cons_append, List.set_cons_zero, List.set_cons_succ, iv_set, bv_set, iv_rep, bv_rep]; done) | (simp only [List.nil_append, List.cons_append, List.set_cons_zero, List.set_cons_succ, iv_set, bv_set, iv_rep, bv_rep]; rfl) | rfl)))) | (with_reducible refine AWo.nil ?_) | ((with_reducible apply AW.seq)) | ((with_reducible apply Then.n)) | ((with_reducible apply AW.regL)) | ((with_reducible apply AW.block)) | ((with_reducible apply AW.drawL fit); (focus (decide +kernel))) | ((with_reducible apply InBlk.n)) | ((with_reducible apply AW.skip)) | ((with_reducible apply AW.condT); exact rfl; (focus ((simp only [decide_eq_true_eq, decide_eq_false_iff_not, Bool.not_eq_true', Bool.not_eq_false', Bool.not_true, Bool.not_false]; first | assumption | omega)))) | ((with_reducible apply AW.condF); exact rfl; (focus (rfl)))))
        exact ⟨_, [(0, .int .i64 n), (3, .pointer (some ⟨m.length + 0, 0, none⟩)), (7, .slice (some ⟨m.length + 2, 0, none⟩) l.length l.length), (9, .slice (some ⟨m.length + 3, 0, none⟩) left.length left.length), (36, .slice (some ⟨m.length + 1, 0, none⟩) l.length l.length), (37, .int .i64 (l.length : Nat)), (38, .int .i64 (k + 1 : Nat))], [some { cells := [v] }, some { cells := iv (ordL l) }, some { cells := iv (out.set i K) }, some { cells := iv (left.set K (y - x)), kind := .grow, size := 1 }], by omega, (Back.trimC rfl rfl (by repeat (first | exact CellsP.nil | (refine CellsP.cons ?_ ?_; (focus (first | exact cells_iv _ | ((repeat (first | exact cells_nil | (refine cells_cons ?_ ?_; (focus (exact Ren.of_sl (by assumption) (by first | omega | (simp; omega))))))); done)))))) (by repeat (first | exact trivial | (refine And.intro ⟨rfl, by (first | exact .int _ _ | exact .slice _ _ _ _ (by first | (simp; done) | omega | (simp; omega)) | exact .ptr _ _ (by first | (simp; done) | omega | (simp; omega)))⟩ ?_)))), k + 1, rfl, by omega,
          by rw [hoe', hle', hO, hlf, gb_pos (by simp [iv]; omega)], by rw [hle', hlf, gv_pos (by simp; omega), List.length_set]⟩
      · obtain ⟨hlf, hKe⟩ := lfL_miss hh
        rw [if_neg (by omega)] at hF
        generalize hle' : lfL n l (k + 1) = left' at *
        generalize hoe' : ffO n l 0 (k + 1) = out' at *
        generalize ffO n l 0 k = out at *
        generalize lfL n l k = left at *
        generalize ffK n l k = K at *
        generalize l.getD (oi l k) 0 = x at *
        generalize oi l k = i at *
        subst hKe
        have r4 : Rd (m ++ [some { cells := [v] }, some { cells := iv (ordL l) }, some { cells := iv out }, none, some { cells := [.int .i64 (i : Nat)] }, some { cells := [.int .i64 n] }, some { cells := iv (left ++ [n]), kind := .grow, size := 1 }]) (m.length + 6) left.length (.int .i64 n) := by
          have e : (left ++ [n]).getD left.length 0 = n := by simp
          have := iv_get (l := left ++ [n]) (k := left.length) (by simp)
          rw [e] at this
          exact Rd.new (k := 6) rfl this
        have liv : (iv left).length = left.length * 1 := by simp [iv]
        have hl1 : (left ++ [n]).length = left.length + 1 := by simp
        (repeat (first | (with_reducible refine AWo.cons ?_) | ((with_reducible refine Step.id ?_); first | ((with_reducible apply Step.move); exact rfl; exact rfl) | ((with_reducible apply Step.assign); exact rfl; exact rfl) | ((with_reducible apply Step.load); exact rfl; (focus (decide +kernel)); exact rfl; (focus (exact r0 _))) | ((with_reducible apply Step.ix1z); exact rfl; (focus (exact Sl.mk (by omega))); exact rfl; (focus (decide +kernel)); exact rfl; (focus (omega))) | ((with_reducible apply Step.lss); exact rfl; exact rfl; exact rfl) | ((with_reducible apply Step.len); exact rfl; (focus (exact gv_sl _ _)); (focus (decide +kernel)); exact rfl) | ((with_reducible apply Step.fn); exact rfl; exact rfl; exact rfl) | ((with_reducible apply Step.callR fit); exact rfl; exact Tryd.func97; exact rfl; exact rfl; exact (hF)) | ((with_reducible apply Step.alloc 4); exact rfl; exact ze3i; exact rfl; (focus (first | (simp only [List.nil_append, List.cons_append, List.set_cons_zero, List.set_cons_succ, iv_set, bv_set, iv_rep, bv_rep]; done) | (simp only [List.nil_append, List.cons_append, List.set_cons_zero, List.set_cons_succ, iv_set, bv_set, iv_rep, bv_rep]; rfl) | rfl))) | ((with_reducible apply Step.store (k := 4)); exact rfl; exact rfl; exact rfl; exact rfl; (focus (decide +kernel)); exact rfl; exact rfl; (focus (first | omega | (simp [iv, bv]; done) | (simp [iv, bv]; omega))); (focus (first | (simp only [List.nil_append, List.cons_append, List.set_cons_zero, List.set_cons_succ, iv_set, bv_set, iv_rep, bv_rep]; done) | (simp only [List.nil_append, List.cons_append, List.set_cons_zero, List.set_cons_succ, iv_set, bv_set, iv_rep, bv_rep]; rfl) | rfl))) | ((with_reducible apply Step.buildS 5); exact rfl; exact rfl; exact (fun _ _ => bs47a); exact rfl; (focus (first | (simp only [List.nil_append, List.cons_append, List.set_cons_zero, List.set_cons_succ, iv_set, bv_set, iv_rep, bv_rep]; done) | (simp only [List.nil_append, List.cons_append, List.set_cons_zero, List.set_cons_succ, iv_set, bv_set, iv_rep, bv_rep]; rfl) | rfl)))) | (with_reducible refine AWo.nil ?_) | ((with_reducible apply AW.seq)) | ((with_reducible apply Then.n)) | ((with_reducible apply AW.regL)) | ((with_reducible apply AW.block)) | ((with_reducible apply AW.skip)) | ((with_reducible apply AW.condT); exact rfl; (focus (first | rfl | (simp only [decide_eq_true_eq, decide_eq_false_iff_not, Bool.not_eq_true', Bool.not_eq_false', Bool.not_true, Bool.not_false]; first | assumption | omega))))))
        ((with_reducible apply Step.appG (k := 6) (q := 3) (r := 5) (n := left.length) (xl := 1)); exact rfl; exact rfl; exact rfl; exact el47; exact un47s; exact rfl; exact rfl; exact rfl; exact liv; exact rfl; exact rfl; (focus (kernel_rfl)); (focus (omega)); exact rfl; (focus (first | (simp only [List.nil_append, List.cons_append, List.set_cons_zero, List.set_cons_succ, iv_set, bv_set, iv_rep, bv_rep]; done) | (simp only [List.nil_append, List.cons_append, List.set_cons_zero, List.set_cons_succ, iv_set, bv_set, iv_rep, bv_rep]; rfl) | rfl)))
        rw [show iv left ++ [Value.int .i64 n] = iv (left ++ [n]) from by simp [iv]]
        (repeat (first | (with_reducible refine AWo.cons ?_) | ((with_reducible refine Step.id ?_); first | ((with_reducible apply Step.move); exact rfl; exact rfl) | ((with_reducible apply Step.assign); exact rfl; exact rfl) | ((with_reducible apply Step.load); exact rfl; (focus (decide +kernel)); exact rfl; (focus (first | assumption | exact Rd.new rfl rfl | exact Rd.old _ (by assumption)))) | ((with_reducible apply Step.ix1z); exact rfl; (focus (exact Sl.mk (by omega))); exact rfl; (focus (decide +kernel)); exact rfl; (focus (omega))) | ((with_reducible apply Step.ix1); exact rfl; (focus (assumption)); exact rfl; (focus (decide +kernel)); exact rfl; (focus (omega))) | ((with_reducible apply Step.add); exact rfl; exact rfl; (focus (omega)); exact rfl) | ((with_reducible apply Step.sub); exact rfl; exact rfl; (focus (omega)); exact rfl) | ((with_reducible apply Step.store (k := 2)); exact rfl; exact rfl; exact rfl; exact rfl; (focus (decide +kernel)); exact rfl; exact rfl; (focus (first | omega | (simp [iv, bv]; done) | (simp [iv, bv]; omega))); (focus (first | (simp only [List.nil_append, List.cons_append, List.set_cons_zero, List.set_cons_succ, iv_set, bv_set, iv_rep, bv_rep]; done) | (simp only [List.nil_append, List.cons_append, List.set_cons_zero, List.set_cons_succ, iv_set, bv_set, iv_rep, bv_rep]; rfl) | rfl))) | ((with_reducible apply Step.store (k := 6)); exact rfl; exact rfl; exact rfl; exact rfl; (focus (decide +kernel)); exact rfl; exact rfl; (focus (first | omega | (simp [iv, bv]; done) | (simp [iv, bv]; omega))); (focus (first | (simp only [List.nil_append, List.cons_append, List.set_cons_zero, List.set_cons_succ, iv_set, bv_set, iv_rep, bv_rep]; done) | (simp only [List.nil_append, List.cons_append, List.set_cons_zero, List.set_cons_succ, iv_set, bv_set, iv_rep, bv_rep]; rfl) | rfl)))) | (with_reducible refine AWo.nil ?_) | ((with_reducible apply AW.seq)) | ((with_reducible apply Then.n)) | ((with_reducible apply AW.regL)) | ((with_reducible apply AW.drawL fit); (focus (decide +kernel))) | ((with_reducible apply InBlk.n))))
        exact ⟨_, [(0, .int .i64 n), (3, .pointer (some ⟨m.length + 0, 0, none⟩)), (7, .slice (some ⟨m.length + 2, 0, none⟩) l.length l.length), (9, .slice (some ⟨m.length + 3, 0, none⟩) (left.length + 1) (left.length + 1)), (36, .slice (some ⟨m.length + 1, 0, none⟩) l.length l.length), (37, .int .i64 (l.length : Nat)), (38, .int .i64 (k + 1 : Nat))], [some { cells := [v] }, some { cells := iv (ordL l) }, some { cells := iv (out.set i (left.length : Nat)) }, some { cells := iv ((left ++ [n]).set left.length (n - x)), kind := .grow, size := 1 }], by omega, (Back.mvC 3 6 rfl rfl rfl rfl (by intro j b hj h; rcases j with _ | _ | _ | _ | _ | _ | _ | _ | j <;> first | exact absurd rfl hj | exact h | (simp at h; done)) (by repeat (first | exact CellsP.nil | (refine CellsP.cons ?_ ?_; (focus (first | exact cells_iv _ | ((repeat (first | exact cells_nil | (refine cells_cons ?_ ?_; (focus (exact Ren.of_sl_ne (by assumption) (by first | omega | (simp; omega)) (by first | omega | (simp; omega))))))); done)))))) (by repeat (first | exact trivial | (refine And.intro ⟨_, rfl, by (first | exact .int _ _ | exact Ren.slice_mv (by first | (simp; done) | omega | (simp; omega)) | exact Ren.slice_ne (by first | (simp; done) | omega | (simp; omega)) (by omega) | exact Ren.ptr_ne (by first | (simp; done) | omega | (simp; omega)) (by omega))⟩ ?_)))), k + 1, rfl, by omega,
          by rw [hoe', hle', hO, hlf, gb_pos (by simp [iv])], by rw [hle', hlf, gv_pos (by simp), List.length_set, hl1]⟩
    · obtain rfl : k = l.length := by omega
      (repeat (first | (with_reducible refine AWo.cons ?_) | ((with_reducible refine Step.id ?_); first | ((with_reducible apply Step.move); exact rfl; exact rfl) | ((with_reducible apply Step.assign); exact rfl; exact rfl) | ((with_reducible apply Step.lss); exact rfl; exact rfl; exact rfl)) | (with_reducible refine AWo.nil ?_) | ((with_reducible apply AW.seq)) | ((with_reducible apply Then.n)) | ((with_reducible apply AW.regL)) | ((with_reducible apply AW.exit)) | ((with_reducible apply InBlk.hit)) | ((with_reducible apply Then.e)) | ((with_reducible apply AW.condF); exact rfl; (focus ((simp only [decide_eq_true_eq, decide_eq_false_iff_not, Bool.not_eq_true', Bool.not_eq_false', Bool.not_true, Bool.not_false]; first | assumption | omega))))))
      refine AW.retB (l := [(4, .slice (some ⟨m.length + 0, 0, none⟩) l.length l.length), (5, .int .i64 0)]) (L1 := [some { cells := iv (ffO n l 0 l.length) }]) (Back.mv 0 2 rfl rfl rfl rfl (by intro j b hj h; rcases j with _ | _ | _ | _ | _ | _ | j <;> simp_all) (by repeat (first | exact CellsOk.nil | refine CellsOk.cons (by exact g0_iv _) ?_)) (by repeat (first | exact trivial | (refine And.intro ⟨_, rfl, by (first | exact .int _ _ | exact Ren.slice_mv (by first | (simp; done) | omega | (simp; omega)))⟩ ?_)))) ?_
      exact ⟨_, rfl, rfl, rfl⟩
end Go.Proofs.YtibhgdglbillaaaDoor.Abs
namespace Go.Proofs.YtibhgdglbillaaaDoor.Abs
set_option linter.unusedSimpArgs false
set_option linter.unusedVariables false
open Go.RowKit
open Go.Proofs.YtibhgdglbillaaaDoor.Sim
open Go.Proofs
set_option maxRecDepth 100000 in
theorem Floor_no {m : AM} {v : Value} {l : List Int} {n : Int} (hl : Ints m v l) (hlen : l.length ≤ 9223372036854775807) (hok : stripsB n l = false) : ACall Tryd.prog 59 #[.int .i64 n, v] m (Ret (.tuple #[.int .i64 0, .int .i64 2]) m) := by
  refine ACall.start Tryd.func59 rfl rfl ?_
  (repeat (first | (with_reducible refine AWo.cons ?_) | ((with_reducible refine Step.id ?_); first | ((with_reducible apply Step.move); exact rfl; exact rfl) | ((with_reducible apply Step.assign); exact rfl; exact rfl) | ((with_reducible apply Step.not); exact rfl; exact rfl) | ((with_reducible apply Step.callR fit); exact rfl; exact Tryd.func88; exact rfl; exact rfl; exact (valid_ok (hl.old _) hlen hok))) | (with_reducible refine AWo.nil ?_) | ((with_reducible apply AW.seq)) | ((with_reducible apply Then.n)) | ((with_reducible apply AW.regL)) | ((with_reducible apply AW.condT); exact rfl; (focus (rfl)))))
  (refine AW.retD (l := [(4, _), (5, _)]) (by repeat (first | exact trivial | (refine And.intro ⟨rfl, by (exact .int _ _)⟩ ?_))) ?_; (repeat (first | refine Then.r ?_ | refine InBlk.r ?_)))
  exact ⟨_, rfl, rfl, rfl⟩
/-- The number of bars that the law counts. -/
def brX (out : List Int) : Nat → Int
  | 0 => 0
  | i + 1 => Max.max (brX out i) (out.getD i 0 + 1)
theorem brX_ge (out : List Int) : ∀ k i, i < k → out.getD i 0 + 1 ≤ brX out k
  | 0, i, h => by omega
  | k + 1, i, h => by
    simp only [brX]
    rcases Nat.lt_succ_iff_lt_or_eq.1 h with h' | h'
    · have := brX_ge out k i h'
      omega
    · subst h'; omega
theorem brX_ex (out : List Int) : ∀ k, brX out k = 0 ∨ ∃ i, i < k ∧ out.getD i 0 + 1 = brX out k
  | 0 => .inl rfl
  | k + 1 => by
    simp only [brX]
    rcases Int.le_total (brX out k) (out.getD k 0 + 1) with h | h
    · exact .inr ⟨k, by omega, by omega⟩
    · rw [Int.max_eq_left h]
      rcases brX_ex out k with h' | ⟨i, hi, e⟩
      · exact .inl h'
      · exact .inr ⟨i, by omega, e⟩
theorem brX_nn (out : List Int) : ∀ k, 0 ≤ brX out k
  | 0 => Int.le_refl _
  | k + 1 => by
    have := brX_nn out k
    simp only [brX]; omega
theorem strips_true {n : Int} {l : List Int} (h : SpOk n l) : flX n l (n / 2 + 1).toNat ≤ (fewest n (fun i => l.getD i 0) l.length : Nat) ∧ (fewest n (fun i => l.getD i 0) l.length : Int) ≤ brX (ffO n l 0 l.length) l.length ∧ 9 * brX (ffO n l 0 l.length) l.length ≤ 11 * (fewest n (fun i => l.getD i 0) l.length : Nat) + 6 := by
  have hn := h.n1
  have h0 := brX_nn (ffO n l 0 l.length) l.length
  obtain ⟨N, hN⟩ := Int.eq_ofNat_of_zero_le h0
  have hge := brX_ge (ffO n l 0 l.length) l.length
  have hex := brX_ex (ffO n l 0 l.length) l.length
  rw [hN] at hge hex ⊢
  have := strips_law (n := n) (l := l) hn h.at_ h.len (N := N) (fun i hi => by
    have e := ffF_spec (n := n) hi
    have := hge i hi
    omega) (by
    rcases hex with e | ⟨i, hi, e⟩
    · left; omega
    · right
      refine ⟨i, hi, ?_⟩
      have e2 := ffF_spec (n := n) hi
      omega)
  have hP := fewest_ok (n := n) h.at_ (by omega)
  have hF := flX_le h hP (n / 2 + 1).toNat (by omega)
  exact ⟨hF, by omega, by omega⟩
theorem brX_bd {n : Int} {l : List Int} (h : SpOk n l) (k : Nat) (hk : k ≤ l.length) : brX (ffO n l 0 l.length) k ≤ 14 := by
  rcases brX_ex (ffO n l 0 l.length) k with e | ⟨i, hi, e⟩
  · omega
  · rw [← e]
    obtain ⟨j, hj, rfl⟩ := oi_sur (l := l) (i := i) (by omega)
    rw [ffO_at l.length (Nat.le_refl _) j hj]
    have h1 := ffL_bars n l (j + 1)
    have h2 := ffL_len n l j
    have := h.len
    omega
set_option maxHeartbeats 4000000 in
set_option maxRecDepth 100000 in
theorem CutStrips_ok {m : AM} {v : Value} {l : List Int} {n : Int} (hl : Ints m v l) (hlen : l.length ≤ 9223372036854775807) : ACall Tryd.prog 16 #[.int .i64 n, v] m (Ret (.bool true) m) := by
  obtain ⟨a, o, h1, h2, h3⟩ := id hl
  cases hok : stripsB n l with
  | false =>
    refine ACall.start Tryd.func16 rfl rfl ?_
    (repeat (first | (with_reducible refine AWo.cons ?_) | ((with_reducible refine Step.id ?_); first | ((with_reducible apply Step.gdT); exact rfl; exact rfl; (focus (rfl))) | ((with_reducible apply Step.move); exact rfl; exact rfl) | ((with_reducible apply Step.assign); exact rfl; exact rfl) | ((with_reducible apply Step.eql); exact rfl; exact rfl; exact rfl) | ((with_reducible apply Step.not); exact rfl; exact rfl) | ((with_reducible apply Step.extract); exact rfl; exact rfl; exact rfl) | ((with_reducible apply Step.pickT); exact rfl; exact rfl; exact rfl; exact rfl; (focus (rfl))) | ((with_reducible apply Step.callR fit); exact rfl; exact Tryd.func57; exact rfl; exact rfl; exact (FirstFit_no (hl.old _) hlen hok)) | ((with_reducible apply Step.callR fit); exact rfl; exact Tryd.func43; exact rfl; exact rfl; exact (Fewest_no (hl.old _) hlen hok)) | ((with_reducible apply Step.callR fit); exact rfl; exact Tryd.func59; exact rfl; exact rfl; exact (Floor_no (hl.old _) hlen hok)) | ((with_reducible apply Step.callR fit); exact rfl; exact Tryd.func61; exact rfl; exact rfl; exact (RStrips_ok (hl.old _) hlen hok)) | ((with_reducible apply Step.callR fit); exact rfl; exact Tryd.func21; exact rfl; exact rfl; exact (awake_ok))) | (with_reducible refine AWo.nil ?_) | ((with_reducible apply AW.seq)) | ((with_reducible apply Then.n)) | ((with_reducible apply AW.regL)) | ((with_reducible apply AW.condT); exact rfl; (focus (rfl)))))
    (refine AW.retD (l := [(4, _)]) (by repeat (first | exact trivial | (refine And.intro ⟨rfl, by (exact .bool _)⟩ ?_))) ?_; (repeat (first | refine Then.r ?_ | refine InBlk.r ?_)))
    exact ⟨_, rfl, rfl, rfl⟩
  | true =>
    have h := SpOk.of hok
    have hl14 := h.len
    have lO := ffO_len n l 0 l.length
    have hA := fun T => FirstFit_ok (hl.old T) hok
    have hF := fun T => Fewest_ok (hl.old T) hok
    have hL := fun T => Floor_ok (hl.old T) hok
    obtain ⟨t1, t2, t3⟩ := strips_true h
    have hb := fun k hk => brX_bd h k hk
    have ho0 : ∀ i, i < l.length → 0 ≤ (ffO n l 0 l.length).getD i 0 := fun i hi => by rw [ffF_spec hi]; omega
    generalize flX n l (n / 2 + 1).toNat = F at *
    generalize fewest n (fun i => l.getD i 0) l.length = w at *
    generalize ffO n l 0 l.length = out at *
    have hn := fun k => brX_nn out k
    refine ACall.start Tryd.func16 rfl rfl ?_
    (repeat (first | (with_reducible refine AWo.cons ?_) | ((with_reducible refine Step.id ?_); first | ((with_reducible apply Step.move); exact rfl; exact rfl) | ((with_reducible apply Step.assign); exact rfl; exact rfl) | ((with_reducible apply Step.len); exact rfl; (focus (exact Sl.mk (by omega))); (focus (decide +kernel)); exact rfl) | ((with_reducible apply Step.not); exact rfl; exact rfl) | ((with_reducible apply Step.extract); exact rfl; exact rfl; exact rfl) | ((with_reducible apply Step.callT fit (k := 0)); exact rfl; exact rfl; exact Tryd.func57; exact rfl; exact rfl; exact (hA _); (focus (first | (simp only [List.nil_append, List.cons_append, List.set_cons_zero, List.set_cons_succ, iv_set, bv_set, iv_rep, bv_rep]; done) | (simp only [List.nil_append, List.cons_append, List.set_cons_zero, List.set_cons_succ, iv_set, bv_set, iv_rep, bv_rep]; rfl) | rfl))) | ((with_reducible apply Step.callR fit); exact rfl; exact Tryd.func43; exact rfl; exact rfl; exact (hF _)) | ((with_reducible apply Step.callR fit); exact rfl; exact Tryd.func59; exact rfl; exact rfl; exact (hL _)) | ((with_reducible apply Step.callR fit); exact rfl; exact Tryd.func61; exact rfl; exact rfl; exact (RStrips_ok (hl.old _) hlen hok))) | (with_reducible refine AWo.nil ?_) | ((with_reducible apply AW.seq)) | ((with_reducible apply Then.n)) | ((with_reducible apply AW.regL)) | ((with_reducible apply AW.block)) | ((with_reducible apply AW.skip)) | ((with_reducible apply AW.condF); exact rfl; (focus (rfl)))))
    refine AW.loopT (fun q t L => ∃ i : Nat, q = l.length - i ∧ i ≤ l.length ∧ L = [some { cells := iv out }] ∧
      t = [(5, .int .i64 F), (6, .int .i64 0), (7, .int .i64 (w : Nat)), (8, .int .i64 0), (10, .int .i64 0), (11, .int .i64 (brX out i)), (49, .slice (some ⟨m.length + 0, 0, none⟩) l.length l.length), (50, .int .i64 (l.length : Nat)), (51, .int .i64 (i : Nat))]) ⟨_, _, _, (Or.inl ⟨rfl, (by repeat (first | exact trivial | (refine And.intro rfl ?_)))⟩), 0, rfl, Nat.zero_le _, rfl, rfl⟩ ?_
    rintro q t L ⟨i, rfl, hi, rfl, rfl⟩
    rcases Nat.lt_or_ge i l.length with hil | hil
    · have r1 : Rd (m ++ [some { cells := iv out }]) (m.length + 0) i (.int .i64 (out.getD i 0)) := Rd.new rfl (iv_get (by omega))
      have e1 : brX out (i + 1) = Max.max (brX out i) (out.getD i 0 + 1) := rfl
      have b1 := hb (i + 1) (by omega)
      have hg := brX_ge out (i + 1) i (by omega)
      have hnn := ho0 i hil
      generalize out.getD i 0 = y at *
      generalize brX out i = z at *
      generalize hz' : brX out (i + 1) = z' at *
      (repeat (first | (with_reducible refine AWo.cons ?_) | ((with_reducible refine Step.id ?_); first | ((with_reducible apply Step.move); exact rfl; exact rfl) | ((with_reducible apply Step.assign); exact rfl; exact rfl) | ((with_reducible apply Step.load); exact rfl; (focus (decide +kernel)); exact rfl; (focus (assumption))) | ((with_reducible apply Step.ix1z); exact rfl; (focus (exact Sl.mk (by omega))); exact rfl; (focus (decide +kernel)); exact rfl; (focus (omega))) | ((with_reducible apply Step.add); exact rfl; exact rfl; (focus (omega)); exact rfl) | ((with_reducible apply Step.lss); exact rfl; exact rfl; exact rfl) | ((with_reducible apply Step.max); exact rfl; exact rfl; exact rfl)) | (with_reducible refine AWo.nil ?_) | ((with_reducible apply AW.seq)) | ((with_reducible apply Then.n)) | ((with_reducible apply AW.regL)) | ((with_reducible apply AW.block)) | ((with_reducible apply InBlk.n)) | ((with_reducible apply AW.skip)) | ((with_reducible apply AW.condT); exact rfl; (focus ((simp only [decide_eq_true_eq, decide_eq_false_iff_not, Bool.not_eq_true', Bool.not_eq_false', Bool.not_true, Bool.not_false]; first | assumption | omega))))))
      exact ⟨_, [(5, .int .i64 F), (6, .int .i64 0), (7, .int .i64 (w : Nat)), (8, .int .i64 0), (10, .int .i64 0), (11, .int .i64 (Max.max z (y + 1))), (49, .slice (some ⟨m.length + 0, 0, none⟩) l.length l.length), (50, .int .i64 (l.length : Nat)), (51, .int .i64 (i + 1 : Nat))], _, by omega, (Or.inl ⟨rfl, (by repeat (first | exact trivial | (refine And.intro rfl ?_)))⟩), i + 1, rfl, by omega, rfl, by rw [hz', e1]⟩
    · obtain rfl : i = l.length := by omega
      have bl := hb l.length (Nat.le_refl _)
      have bn := hn l.length
      generalize brX out l.length = z at *
      (repeat (first | (with_reducible refine AWo.cons ?_) | ((with_reducible refine Step.id ?_); first | ((with_reducible apply Step.gdT); exact rfl; exact rfl; (focus (first | rfl | (simp only [decide_eq_true_eq, decide_eq_false_iff_not, Bool.not_eq_true', Bool.not_eq_false', Bool.not_true, Bool.not_false]; first | assumption | omega)))) | ((with_reducible apply Step.move); exact rfl; exact rfl) | ((with_reducible apply Step.assign); exact rfl; exact rfl) | ((with_reducible apply Step.add); exact rfl; exact rfl; (focus (omega)); exact rfl) | ((with_reducible apply Step.mul); exact rfl; exact rfl; (focus (omega)); exact rfl) | ((with_reducible apply Step.lss); exact rfl; exact rfl; exact rfl) | ((with_reducible apply Step.leq); exact rfl; exact rfl; exact rfl) | ((with_reducible apply Step.eql); exact rfl; exact rfl; exact rfl) | ((with_reducible apply Step.pickT); exact rfl; exact rfl; exact rfl; exact rfl; (focus (first | rfl | (simp only [decide_eq_true_eq, decide_eq_false_iff_not, Bool.not_eq_true', Bool.not_eq_false', Bool.not_true, Bool.not_false]; first | assumption | omega)))) | ((with_reducible apply Step.callR fit); exact rfl; exact Tryd.func21; exact rfl; exact rfl; exact (awake_ok))) | (with_reducible refine AWo.nil ?_) | ((with_reducible apply AW.seq)) | ((with_reducible apply Then.n)) | ((with_reducible apply AW.regL)) | ((with_reducible apply AW.exit)) | ((with_reducible apply InBlk.hit)) | ((with_reducible apply Then.e)) | ((with_reducible apply AW.condF); exact rfl; (focus ((simp only [decide_eq_true_eq, decide_eq_false_iff_not, Bool.not_eq_true', Bool.not_eq_false', Bool.not_true, Bool.not_false]; first | assumption | omega))))))
      (refine AW.retD (l := [(4, _)]) (by repeat (first | exact trivial | (refine And.intro ⟨rfl, by (exact .bool _)⟩ ?_))) ?_; (repeat (first | refine Then.r ?_ | refine InBlk.r ?_)))
      exact ⟨_, rfl, rfl, rfl⟩
end Go.Proofs.YtibhgdglbillaaaDoor.Abs
namespace Go.Proofs.YtibhgdglbillaaaDoor.Abs
set_option linter.unusedSimpArgs false
set_option linter.unusedVariables false
open Go.RowKit
open Go.Proofs.YtibhgdglbillaaaDoor.Sim
open Go.ChangeShapes Go.WideShapes Go.Deep
def RelSelf (v : Value) : Prop := ∃ c, v = .agg c ∧ ∀ R, Rel R (.agg c) (.agg c)
def Okarg3 (W : World) (a : AR) : Prop := Okarg W a ∨ RelSelf a.1
theorem top_call3 {P : Program} {f : FuncId} {W : World} (ars : List AR) (h : ∀ a ∈ ars, Okarg3 W a) (hc : ACall P f (mkVs 0 ars).toArray (ars.map mkB) (Ret (.bool true) (ars.map mkB))) :
    Calls P f (ars.map (·.1)).toArray W fun e w' => e = .returned (.bool true) ∧ Below W.heap.size W w' := by
  let R : Pl := fun i => (ars[i]?).bind mkP
  have hm : MRep W.heap.size R (ars.map mkB) W := by
    refine ⟨fun i hi => ?_, fun i b hi => ?_, fun i j b c p q hi hj hb _ _ _ _ => ?_⟩
    · simp only [List.length_map] at hi
      simp [R, List.getElem?_eq_none hi]
    · rw [List.getElem?_map] at hi
      cases ha : ars[i]? with
      | none => rw [ha] at hi; cases hi
      | some a =>
        rw [ha] at hi
        simp only [Option.map_some, Option.some.injEq] at hi
        obtain ⟨v, c⟩ := a
        rcases h _ (List.mem_of_getElem? ha) with (h1 | ⟨bb, o, n, cap, h1, h2, h3, h4, h5⟩) | ⟨l, h1, hl⟩
        · simp only at h1
          cases v with
          | slice x n cap => cases x with
            | none => simp [mkB] at hi
            | some x => simp [g0] at h1
          | _ => simp [mkB] at hi
        · simp only at h1
          subst h1
          simp only [mkB, Option.some.injEq] at hi
          subst hi
          refine ⟨⟨bb, o, cap - n⟩, by simp [R, ha, mkP], h3, ?_⟩
          refine ⟨fun e => by simp at e, fun j x hj => ⟨x, h4 j x hj, g0_rel (h5 x (List.mem_of_getElem? hj))⟩⟩
        · simp only at h1
          subst h1
          simp [mkB] at hi
    · rw [List.getElem?_map] at hi
      cases ha : ars[i]? with
      | none => rw [ha] at hi; cases hi
      | some a =>
        rw [ha] at hi
        simp only [Option.map_some, Option.some.injEq] at hi
        obtain ⟨v, c'⟩ := a
        cases v with
        | slice x n cap => cases x with
          | none => simp [mkB] at hi
          | some x => simp only [mkB, Option.some.injEq] at hi; subst hi; cases hb
        | _ => simp [mkB] at hi
  have hargs : Rels R (mkVs 0 ars).toArray (ars.map (·.1)).toArray := by
    refine ⟨by simp [mkVs_len], fun i hi => ?_⟩
    simp only [List.size_toArray, mkVs_len] at hi
    have ha : ars[i]? = some ars[i] := List.getElem?_eq_getElem hi
    have e1 : (mkVs 0 ars).toArray.getD i undef = mkV i ars[i].1 := by
      simp [mkVs_get, ha]
    have e2 : (ars.map (·.1)).toArray.getD i undef = ars[i].1 := by simp [hi]
    rw [e1, e2]
    generalize ars[i] = a at ha
    obtain ⟨v, c⟩ := a
    rcases h _ (List.mem_of_getElem? ha) with (h1 | ⟨bb, o, n, cap, h1, h2, h3, h4, h5⟩) | ⟨l, h1, hl⟩
    · simp only at h1 ⊢
      cases v with
      | slice x n cap => cases x with
        | none => exact g0_rel h1
        | some x => simp [g0] at h1
      | _ => exact g0_rel h1
    · simp only at h1 ⊢
      subst h1
      have := Rel.slice (R := R) i 0 n n ⟨bb, o, cap - n⟩ (by simp [R, ha, mkP]) (Nat.le_refl _)
      rw [show n + (cap - n) = cap by omega] at this
      simpa [mkV] using this
    · simp only at h1 ⊢
      subst h1
      exact hl R
  refine (hc W.heap.size R W _ (Nat.le_refl _) hm hargs).mono ?_
  rintro e w' ⟨v, v', R', m', rfl, k1, k2, rfl, rfl⟩
  cases k1
  exact ⟨rfl, k2.below hm (Nat.le_refl _)⟩
theorem RelSelf.rect (r : Rc) : RelSelf r.v := ⟨_, rfl, fun R => rel_aggI R [r.x, r.y, r.w, r.h]⟩
theorem RelSelf.kind (k : Kd) : RelSelf k.v := ⟨_, rfl, fun R => .agg _ _ rfl fun i hi => by
  simp at hi
  rcases (show i = 0 ∨ i = 1 ∨ i = 2 ∨ i = 3 ∨ i = 4 by omega) with rfl | rfl | rfl | rfl | rfl
  · exact .int _ _
  · exact .int _ _
  · exact .int _ _
  · exact .int _ _
  · exact .bool _⟩
def sv (l : List ByteArray) : List Value := l.map .string
section
variable {H : Type} {enc : TypeId × Value → H} {P : Program} {w : World} {base : Nat} {spare : Nat → Bool} {held : Bool}
def kv (l : List Kd) : List Value := l.flatMap Kd.cells
end
end Go.Proofs.YtibhgdglbillaaaDoor.Abs
namespace Go.Proofs.YtibhgdglbillaaaDoor.Abs
set_option linter.unusedSimpArgs false
set_option linter.unusedVariables false
open Go.RowKit
open Go.Proofs.YtibhgdglbillaaaDoor.Sim
open Go.Proofs
section
variable (leaf : R4 → Int) (w h : Nat) (t : List Int)
end
section
variable {leaf : R4 → Int} {w h : Nat} {t : List Int}
end
/-- The memory in which block q holds some cells. -/
def MC (m : AM) (q : Nat) (c : List Value) : AM := m.set q (some { cells := c })
section
variable {m : AM} {q : Nat} {c c' : List Value}
theorem MC.len : (MC m q c).length = m.length := by simp [MC]
theorem MC.at (hq : q < m.length) : (MC m q c)[q]? = some (some { cells := c }) := by unfold MC; exact List.getElem?_set_self hq
theorem MC.ne {a : Nat} (h : a ≠ q) : (MC m q c)[a]? = m[a]? := by unfold MC; exact List.getElem?_set_ne (fun e => h e.symm)
theorem MC.set (hq : q < m.length) (T : AM) : (MC m q c ++ T).set q (some { cells := c' }) = MC m q c' ++ T := by
  unfold MC
  rw [List.set_append_left _ _ (by simpa using hq), List.set_set]
theorem MC.rd {a o : Nat} {x : Value} (h : a ≠ q) (hr : Rd m a o x) : Rd (MC m q c) a o x := by
  obtain ⟨b, h1, h2⟩ := hr
  exact ⟨b, by rw [MC.ne h]; exact h1, h2⟩
theorem MC.ints {v : Value} {l : List Int} {m1 N : AM} (hm : m = m1 ++ N) (hq1 : m1.length ≤ q) (h : Ints m1 v l) : Ints (MC m q c) v l := by
  subst hm
  obtain ⟨N', hN'⟩ := set_high (N := N) hq1 (some { cells := c })
  unfold MC
  rw [hN']
  exact h.old _
/-- A turned block of flat cells: what may be let go behind it. -/
theorem MC.cut (hq : q < m.length) (hg : ∀ x ∈ c', g0 x = true) (T X : AM) (hX : ∀ b, some b ∈ X → isMapK b.kind = false ∧ ∀ x ∈ b.cells, g0 x = true) (n j : Nat) (b : Blk) (h : (MC m q c' ++ (T ++ X))[j]? = some (some b)) :
    (j < (MC m q c ++ T).length ∧ (MC m q c ++ T)[j]? = some (some b)) ∨ (isMapK b.kind = false ∧ ∀ x ∈ b.cells, Ren rid n x x) := by
  have e : (MC m q c').length = (MC m q c).length := by rw [MC.len, MC.len]
  rcases Nat.lt_or_ge j (MC m q c').length with hj | hj
  · rw [List.getElem?_append_left hj] at h
    by_cases ej : j = q
    · subst ej
      rw [MC.at hq] at h
      simp only [Option.some.injEq] at h
      subst h
      exact .inr ⟨rfl, fun x hx => Ren.of_g0 (hg x hx)⟩
    · rw [MC.ne ej] at h
      refine .inl ⟨by rw [List.length_append]; omega, ?_⟩
      rw [List.getElem?_append_left (by omega), MC.ne ej]
      exact h
  · rw [List.getElem?_append_right hj] at h
    rcases Nat.lt_or_ge (j - (MC m q c').length) T.length with hj2 | hj2
    · rw [List.getElem?_append_left hj2] at h
      refine .inl ⟨by rw [List.length_append]; omega, ?_⟩
      rw [List.getElem?_append_right (by omega), ← e]
      exact h
    · rw [List.getElem?_append_right hj2] at h
      obtain ⟨h1, h2⟩ := hX b (List.mem_of_getElem? h)
      exact .inr ⟨h1, fun x hx => Ren.of_g0 (h2 x hx)⟩
end
end Go.Proofs.YtibhgdglbillaaaDoor.Abs
namespace Go.Proofs.YtibhgdglbillaaaDoor.Abs
set_option linter.unusedSimpArgs false
set_option linter.unusedVariables false
open Go.RowKit
open Go.Proofs.YtibhgdglbillaaaDoor.Sim
open Go.Proofs
def I64s (t : List Int) : Prop := ∀ i, -9223372036854775808 ≤ t.getD i 0 ∧ t.getD i 0 ≤ 9223372036854775807
end Go.Proofs.YtibhgdglbillaaaDoor.Abs
namespace Go.Proofs.YtibhgdglbillaaaDoor.Abs
set_option linter.unusedSimpArgs false
set_option linter.unusedVariables false
open Go.RowKit
open Go.Proofs.YtibhgdglbillaaaDoor.Sim
open Go.ChangeShapes Go.WideShapes Go.Deep
section
variable {H : Type} {enc : TypeId × Value → H} {P : Program} {w : World} {base : Nat} {spare : Nat → Bool} {held : Bool}
theorem arg_ints64 {r : Reach} {b0 : Nat} {T e : TypeId} {a : Option Addr} {n c : Nat} {d : DataW H} {p : List MemPlace} (ht : P.underlying T = some (.slice e)) (he : P.underlying e = some (.int .i64)) (hce : P.cellsOf e = 1) (hok : Value.okWide P w r b0 T (.slice a n c)) (h : DataW.Trod enc P w base spare held T (.slice a n c) d p) :
    ∃ l : List Int, l.length = n ∧ n ≤ maxLen ∧ Okarg w (.slice a n c, iv l) ∧ (∀ M : AM, ∀ i, M[i]? = some (mkB (.slice a n c, iv l)) → Ints M (mkV i (.slice a n c)) l) ∧ I64s l := by
  obtain ⟨fuel, h⟩ := h
  rcases ok_slice ht hok with ⟨rfl, rfl, rfl⟩ | ⟨b, o, rfl, hle, hlt⟩
  · exact ⟨[], rfl, by unfold maxLen; omega, .inl rfl, fun M i hi => ⟨i, 0, .inl ⟨rfl, rfl⟩, (List.getElem?_eq_some_iff.1 hi).1, fun k hk => by simp at hk⟩, fun i => by simp⟩
  · rcases open_ints ht he hce h with ⟨hcs, _⟩ | ⟨x, l, c', zs, hcs, _, hl, hm, hz, _, hcell, hwf⟩
    · simp [Value.cells] at hcs
    · simp [Value.cells] at hcs
      obtain ⟨rfl, rfl, rfl⟩ := hcs
      have hzl : n ≤ zs.length := by rw [hz]; split <;> omega
      have hlen : (zs.take n).length = n := by simp; omega
      refine ⟨zs.take n, hlen, by omega, .inr ⟨b, o, n, c, rfl, hle, hlt, fun j x hj => ?_, g0_iv _⟩, fun M i hi => ?_, fun i => ?_⟩
      · simp only [iv, List.getElem?_map] at hj
        by_cases hjn : j < n
        · rw [List.getElem?_take, if_pos hjn, List.getElem?_eq_getElem (by omega)] at hj
          simp only [Option.map_some, Option.some.injEq] at hj
          have := hcell j (by omega)
          rw [Addr.add_lit] at this
          rw [this, ← hj]
          simp [show j < zs.length by omega]
        · rw [List.getElem?_take, if_neg hjn] at hj
          cases hj
      · simp only [mkB] at hi
        exact ints_at hi rfl n hlen.symm
      · by_cases hi : i < (zs.take n).length
        · rw [getD_in _ _ hi]
          have := hwf _ (List.mem_of_mem_take (List.getElem_mem hi))
          simp only [Lit.wf, Bool.and_eq_true, decide_eq_true_eq, IntKind.min, IntKind.max, IntKind.signed, IntKind.bits] at this
          simpa using this
        · rw [List.getD_eq_getElem?_getD, List.getElem?_eq_none (by omega)]
          simp
end
end Go.Proofs.YtibhgdglbillaaaDoor.Abs
