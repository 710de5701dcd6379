/- Proved here: what the proof of BenchPunctual rests on, part 4 of 4. Conditions: those that each theorem names. -/
import Derived.Test.YtmomjannlnafcaaBenchPunctualK3
namespace Go.Proofs.Ytmomjannlnafcaa.Abs
set_option linter.unusedSimpArgs false
set_option linter.unusedVariables false
open Go.RowKit
open Go.Proofs.Ytmomjannlnafcaa.Sim
open Go.Proofs
theorem sort_okZ {M L L' : AM} {k n c : Nat} {kd : Kind} {l z : List Int} (hb : L[k]? = some (some { cells := iv (l ++ z), kind := kd, size := 1 })) (hs : kd.solid = true) (hn : n = l.length) (hlen : l.length ≤ 100000) (hL : L.set k (some { cells := iv (srt l ++ z), kind := kd, size := 1 }) = L') :
    ACall Try.prog 114 #[.slice (some ⟨M.length + k, 0, none⟩) n c] (M ++ L) (Ret (.tuple #[]) (M ++ L')) := by
  subst hL
  rw [← set_app]
  exact (sort_callZ (b := { cells := iv (l ++ z), kind := kd, size := 1 }) (by rw [get_app]; exact hb) hs rfl hn (srt_len l) fun blk off cap w hH hlt => AnyG.slices_Sort_int sortInt blk off cap l w hH hlt (by omega)).mono (fun _ _ ⟨a, b⟩ => ⟨a.symm, b.symm⟩)
/-- The longest of the chosen. -/
def lgJ (j : List Job) (on : List Int) : Int := mxI (cM j) on (on.length - 1)
structure MS where
  on : List Int
  sum : Int
def mStep (j : List Job) (s : MS) (x : Int) : MS :=
  if s.sum + (jb j x).time ≤ (jb j x).due then ⟨s.on ++ [x], s.sum + (jb j x).time⟩
  else ⟨(s.on ++ [x]).filter (fun y => !decide (y = lgJ j (s.on ++ [x]))), s.sum + (jb j x).time - (jb j (lgJ j (s.on ++ [x]))).time⟩
def mooN (j : List Job) : Nat → MS
  | 0 => ⟨[], 0⟩
  | k + 1 => mStep j (mooN j k) ((eddL j).getD k 0)
theorem eddL_mem {j : List Job} {x : Int} : x ∈ eddL j ↔ 0 ≤ x ∧ x < j.length := by rw [eddL, ms_mem]; exact upI_mem
theorem eddL_in {j : List Job} {k : Nat} (h : k < j.length) : 0 ≤ (eddL j).getD k 0 ∧ (eddL j).getD k 0 < j.length :=
  eddL_mem.1 (mem_getD' (by rw [eddL_len]; exact h))
theorem eddL_nodup (j : List Job) : (eddL j).Nodup := (ms_perm.nodup_iff).2 (upI_nodup j.length)
theorem nodup_snoc {l : List Int} {x : Int} (h : l.Nodup) (hx : x ∉ l) : (l ++ [x]).Nodup := by
  rw [List.nodup_append]
  refine ⟨h, by simp, fun a ha b hb e => hx ?_⟩
  obtain rfl : b = x := by simpa using hb
  exact e ▸ ha
structure MInv (j : List Job) (k : Nat) (s : MS) : Prop where
  len : s.on.length ≤ k
  mem : ∀ x ∈ s.on, x ∈ (eddL j).take k
  nd : s.on.Nodup
  sum : s.sum = sumJ j s.on
theorem take_new {j : List Job} {k : Nat} (hk : k < j.length) {s : List Int} (h : ∀ x ∈ s, x ∈ (eddL j).take k) : (eddL j).getD k 0 ∉ s := fun hm => by
  have h1 := h _ hm
  obtain ⟨i, hi, e⟩ := List.getElem_of_mem h1
  simp only [List.length_take] at hi
  rw [List.getElem_take] at e
  have hk' : k < (eddL j).length := by rw [eddL_len]; omega
  rw [List.getD_eq_getElem?_getD, List.getElem?_eq_getElem hk', Option.getD_some] at e
  have := (List.getElem_inj (eddL_nodup j)).1 e
  omega
theorem mooN_inv (j : List Job) : ∀ k, k ≤ j.length → MInv j k (mooN j k)
  | 0, _ => ⟨by simp [mooN], by simp [mooN], by simp [mooN], by simp [mooN, sumJ, sm]⟩
  | k + 1, hk => by
    have h := mooN_inv j k (by omega)
    have ts := take_snoc (eddL j) k 0 (by rw [eddL_len]; omega)
    have hx : (eddL j).getD k 0 ∉ (mooN j k).on := take_new (by omega) h.mem
    have m2 : ∀ x ∈ (mooN j k).on ++ [(eddL j).getD k 0], x ∈ (eddL j).take (k + 1) := fun x hx => by
      rw [ts]
      rcases List.mem_append.1 hx with h' | h'
      · exact List.mem_append.2 (.inl (h.mem x h'))
      · exact List.mem_append.2 (.inr h')
    have n2 : ((mooN j k).on ++ [(eddL j).getD k 0]).Nodup := nodup_snoc h.nd hx
    have s2 : (mooN j k).sum + (jb j ((eddL j).getD k 0)).time = sumJ j ((mooN j k).on ++ [(eddL j).getD k 0]) := by
      rw [h.sum, sumJ_list, sumJ_list, List.map_append, List.sum_append]; simp
    have l2 : ((mooN j k).on ++ [(eddL j).getD k 0]).length ≤ k + 1 := by have := h.len; simp; omega
    have l3 : 0 < ((mooN j k).on ++ [(eddL j).getD k 0]).length := by simp
    simp only [mooN, mStep]
    split
    · exact ⟨l2, m2, n2, s2⟩
    · rw [s2]
      generalize (mooN j k).on ++ [(eddL j).getD k 0] = on2 at *
      refine ⟨?_, fun x hx => m2 x (List.mem_filter.1 hx).1, n2.filter _, ?_⟩
      · have := filter_one n2 (mxI_mem (cM j) (on2.length - 1) (by omega))
        show (List.filter _ on2).length ≤ k + 1
        unfold lgJ
        omega
      · exact (sum_filter n2 (mxI_mem (cM j) (on2.length - 1) (by omega))).symm
/-- A slice with room behind it. -/
def sv (a : Nat) (O Z : List Int) : Value := if (O ++ Z).length = 0 then .slice none 0 0 else .slice (some ⟨a, 0, none⟩) O.length (O ++ Z).length
theorem sv_pos {a : Nat} {O Z : List Int} (h : 0 < (O ++ Z).length) : sv a O Z = .slice (some ⟨a, 0, none⟩) O.length (O ++ Z).length := if_neg (by omega)
theorem sv_nil (a : Nat) (O : List Int) : sv a O [] = gv a O.length := by unfold sv gv; simp
theorem del_two {M L : AM} {k p n c : Nat} {A Z : List Int} (i : Int) (h0 : L[k]? = some (some { cells := iv (A ++ Z), kind := .grow, size := 1 })) (hp : L[p]? = some (some { cells := [.int .i64 i] })) (hp0 : p ≠ k) (hn : A.length = n) (hnc : n ≤ c) (hc : c ≤ 1000000) :
    ACall Try.prog 82 #[.slice (some ⟨M.length + k, 0, none⟩) n c, .func (.func 120) #[] #[.pointer (some ⟨M.length + p, 0, none⟩)]] (M ++ L) (Ret (.slice (some ⟨M.length + k, 0, none⟩) (A.filter fun x => !decide (x = i)).length c) (M ++ L.set k (some { cells := iv ((A.filter fun x => !decide (x = i)) ++ (List.replicate (n - (A.filter fun x => !decide (x = i)).length) 0 ++ Z)), kind := .grow, size := 1 }))) := by
  subst hn
  have hlt : M.length + k < (M ++ L).length := by have := (List.getElem?_eq_some_iff.1 h0).1; simp; omega
  have hd := delete_ok (m := M ++ L) (r := M.length + k) (s := 1) (kd := .grow) (A := A) (Z := Z) (c := c) (g := 120) (cap := #[.pointer (some ⟨M.length + p, 0, none⟩)]) (fun x => decide (x = i)) hlt rfl Try.func120 rfl rfl hnc hc
    (fun row x _ => f120_ok x i (St.rd_ne (Rd.new hp rfl) (by omega)))
  rw [St.self (by rw [get_app]; exact h0)] at hd
  have hset : St (M ++ L) (M.length + k) .grow 1 ((A.filter fun x => !decide (x = i)) ++ List.replicate (A.length - (A.filter fun x => !decide (x = i)).length) 0 ++ Z) = M ++ L.set k (some { cells := iv ((A.filter fun x => !decide (x = i)) ++ (List.replicate (A.length - (A.filter fun x => !decide (x = i)).length) 0 ++ Z)), kind := .grow, size := 1 }) := by
    unfold St; rw [set_app, List.append_assoc]
  rw [hset] at hd
  exact hd
/-- The jobs that Moore's rule leaves, by number. -/
def mooL (j : List Job) : List Int := srt (mooN j j.length).on
set_option maxHeartbeats 4000000 in
set_option maxRecDepth 100000 in
theorem moore_ok {m : AM} {v : Value} {j : List Job} (hj : Jobs m v j) (hJ : JOk j) : ACall Try.prog 97 #[v] m (More (fun M u => Ints M u (mooL j) ∧ ∃ q c, u = .slice q (mooL j).length c) m) := by
  obtain ⟨a, o, h1, h2, h3⟩ := id hj
  have h40 := hJ.len
  have hv := h1.cells
  have el := eddL_len j
  refine ACall.start Try.func97 rfl rfl ?_
  (repeat (first | (with_reducible refine AWo.cons ?_) | ((with_reducible refine Step.id ?_); first | ((with_reducible apply Step.move); exact rfl; exact rfl) | ((with_reducible apply Step.assign); exact rfl; exact rfl) | ((with_reducible apply Step.load); exact rfl; (focus (decide +kernel)); exact rfl; (focus (exact Rd.new rfl rfl))) | ((with_reducible apply Step.len); exact rfl; (focus (exact Sl.mk (by omega))); (focus (decide +kernel)); exact rfl) | ((with_reducible apply Step.callN fit (k := 1)); exact rfl; exact rfl; exact Try.func115; exact rfl; exact rfl; exact (sortedJ_ok (hj.old _) h40); (focus (first | (simp only [List.nil_append, List.cons_append, List.set_cons_zero, List.set_cons_succ, iv_set, bv_set, iv_rep, bv_rep]; done) | (simp only [List.nil_append, List.cons_append, List.set_cons_zero, List.set_cons_succ, iv_set, bv_set, iv_rep, bv_rep]; rfl) | rfl))) | ((with_reducible apply Step.boxV 0); exact rfl; exact rfl; (focus (assumption)); exact rfl; (focus (first | (simp only [List.nil_append, List.cons_append, List.set_cons_zero, List.set_cons_succ, iv_set, bv_set, iv_rep, bv_rep]; done) | (simp only [List.nil_append, List.cons_append, List.set_cons_zero, List.set_cons_succ, iv_set, bv_set, iv_rep, bv_rep]; rfl) | rfl)))) | (with_reducible refine AWo.nil ?_) | ((with_reducible apply AW.seq)) | ((with_reducible apply Then.n)) | ((with_reducible apply AW.regL)) | ((with_reducible apply AW.block))))
  refine AW.loopT (fun n' t L => ∃ (k : Nat) (Z : List Int), n' = j.length - k ∧ k ≤ j.length ∧ ((mooN j k).on ++ Z).length ≤ k ∧ L = [some { cells := [v] }, some { cells := iv (eddL j) }, gb (iv ((mooN j k).on ++ Z)) 1] ∧
    t = [(1, .pointer (some ⟨m.length + 0, 0, none⟩)), (3, sv (m.length + 2) (mooN j k).on Z), (4, .int .i64 (mooN j k).sum), (9, .slice (some ⟨m.length + 1, 0, none⟩) j.length j.length), (10, .int .i64 (j.length : Nat)), (11, .int .i64 (k : Nat))])
    ⟨_, [(1, .pointer (some ⟨m.length + 0, 0, none⟩)), (3, .slice none 0 0), (4, .int .i64 0), (9, .slice (some ⟨m.length + 1, 0, none⟩) j.length j.length), (10, .int .i64 (j.length : Nat)), (11, .int .i64 ((0 : Nat) : Int))], [some { cells := [v] }, some { cells := iv (eddL j) }] ++ [none], (Back.padC rfl (by repeat (first | exact trivial | (refine And.intro ⟨rfl, by (first | exact .int _ _ | exact Ren.of_g0 rfl | exact .slice _ _ _ _ (by first | (simp; done) | omega | (simp; omega)) | exact .ptr _ _ (by first | (simp; done) | omega | (simp; omega)))⟩ ?_))) (by repeat (first | exact CellsP.nil | (refine CellsP.cons ?_ ?_; (focus (first | exact cells_iv _ | ((repeat (first | exact cells_nil | (refine cells_cons ?_ ?_; (focus (exact Ren.of_sl (by assumption) (by first | omega | (simp; omega))))))); done))))))), 0, [], rfl, Nat.zero_le _, by simp [mooN], rfl, rfl⟩ ?_
  rintro n' t L ⟨k, Z, rfl, hk, hZ, rfl, rfl⟩
  have el' := eddL_len j
  have inv := mooN_inv j k hk
  rcases Nat.lt_or_ge k j.length with hlt | hge
  · have hx := eddL_in hlt
    have inv2 := mooN_inv j (k + 1) hlt
    have stp : mooN j (k + 1) = mStep j (mooN j k) ((eddL j).getD k 0) := rfl
    have hre : ∀ b L, Rd (m ++ (b :: some { cells := iv (eddL j) } :: L)) (m.length + 1) k (.int .i64 ((eddL j).getD k 0)) := fun b L => Rd.new rfl (iv_get (by omega))
    have hin : InJ j ((mooN j k).on ++ [(eddL j).getD k 0]) := fun y hy => by
      rcases List.mem_append.1 hy with h | h
      · exact eddL_mem.1 (List.mem_of_mem_take (inv.mem y h))
      · obtain rfl : y = (eddL j).getD k 0 := by simpa using h
        exact hx
    have sb := sumJ_bd hJ hin _ (Nat.le_refl _)
    have sb' : 0 ≤ sumJ j ((mooN j k).on ++ [(eddL j).getD k 0]) ∧ sumJ j ((mooN j k).on ++ [(eddL j).getD k 0]) ≤ 400000 := by
      have := inv.len
      unfold sumJ
      simp only [List.length_append, List.length_singleton] at sb ⊢
      omega
    have s2 : sumJ j ((mooN j k).on ++ [(eddL j).getD k 0]) = (mooN j k).sum + (jb j ((eddL j).getD k 0)).time := by
      rw [inv.sum, sumJ_list, sumJ_list, List.map_append, List.sum_append]; simp
    have lgm : lgJ j ((mooN j k).on ++ [(eddL j).getD k 0]) ∈ (mooN j k).on ++ [(eddL j).getD k 0] := mxI_mem _ _ (by simp)
    have hlg := hin _ lgm
    have ilen := inv.len
    have fone := filter_one (nodup_snoc inv.nd (x := (eddL j).getD k 0) (take_new hlt inv.mem)) lgm
    clear sb inv inv2
    rw [s2] at sb'
    generalize (eddL j).getD k 0 = x at *
    obtain ⟨S2, hS2⟩ : ∃ S2, mooN j (k + 1) = S2 := ⟨_, rfl⟩
    rw [hS2] at stp
    generalize mooN j k = S at *
    obtain ⟨on, sum⟩ := S
    simp only at *
    obtain ⟨x, rfl⟩ := Int.eq_ofNat_of_zero_le hx.1
    have hxn : x < j.length := by omega
    obtain ⟨w, hr, hw⟩ := h3 x hxn
    have hnum := hJ.num x hxn
    have hbr : ∀ L, Rd (m ++ (some { cells := [v] } :: L)) (m.length + 0) 0 v := fun L => Rd.new rfl rfl
    simp only [mStep, jb, Int.toNat_natCast] at stp s2 sb'
    obtain ⟨g, hg⟩ := Int.eq_ofNat_of_zero_le hlg.1
    have hgn : g < j.length := by omega
    obtain ⟨wg, hrg, hwg⟩ := h3 g hgn
    have hnumg := hJ.num g hgn
    have hmx : ∀ (L : AM) (q c : Nat), Ints (m ++ (some { cells := [v] } :: L)) (.slice (some ⟨m.length + q, 0, none⟩) (on.length + 1) c) (on ++ [(x : Int)]) → ACall Try.prog 117 #[.slice (some ⟨m.length + q, 0, none⟩) (on.length + 1) c, .func (.func 118) #[] #[.pointer (some ⟨m.length + 0, 0, none⟩)]] (m ++ (some { cells := [v] } :: L)) (Ret (.int .i64 (g : Nat)) (m ++ (some { cells := [v] } :: L))) := fun L q c hi => by
      rw [← hg]
      exact max_ok hi (by simp) (by simp; omega) Try.func118 rfl (cM j) fun p q hp hq => f118_ok (hj.old _) (hbr L) p q (hin p hp) (hin q hq)
    rw [hg] at stp fone
    simp only [Int.toNat_natCast] at stp
    clear lgm hlg hg hin s2
    have hol : (iv on).length = on.length * 1 := by rw [iv_len]; omega
    have on2l : (on ++ [(x : Int)]).length = on.length + 1 := by simp
    have fx0 : ∀ L : AM, Rd (m ++ L) a (o + x * 4 + 0) (.int .i64 (j.getD x default).time) := fun L => (hr.old L).at_ 0 rfl
    have fx1 : ∀ L : AM, Rd (m ++ L) a (o + x * 4 + 1) (.int .i64 (j.getD x default).due) := fun L => (hr.old L).at_ 1 rfl
    have fg0 : ∀ L : AM, Rd (m ++ L) a (o + g * 4 + 0) (.int .i64 (j.getD g default).time) := fun L => (hrg.old L).at_ 0 rfl
    clear hr hrg hw hwg
    generalize (j.getD x default).time = x1 at *
    generalize (j.getD x default).due = x2 at *
    generalize (j.getD g default).time = g1 at *
    cases Z with
    | nil =>
      rw [sv_nil, List.append_nil]
      have ea : iv on ++ [Value.int .i64 (x : Int)] = iv (on ++ [(x : Int)]) := by simp [iv]
      have hg0 : ∀ v ∈ iv on ++ [Value.int .i64 (x : Int)], g0 v = true := by rw [ea]; exact g0_iv _
      by_cases hle : sum + x1 ≤ x2
      · rw [if_pos hle] at stp
        subst stp
        (repeat (first | (with_reducible refine AWo.cons ?_) | ((with_reducible refine Step.id ?_); first | ((with_reducible apply Step.move); exact rfl; exact rfl) | ((with_reducible apply Step.assign); exact rfl; exact rfl) | ((with_reducible apply Step.load); exact rfl; (focus (decide +kernel)); exact rfl; (focus (exact hre _ _))) | ((with_reducible apply Step.ix1z); exact rfl; (focus (exact Sl.mk (by omega))); exact rfl; (focus (decide +kernel)); exact rfl; (focus (omega))) | ((with_reducible apply Step.lss); exact rfl; exact rfl; exact rfl) | ((with_reducible apply Step.buildS 3); exact rfl; exact rfl; exact (fun _ _ => bs23x); exact rfl; (focus (first | (simp only [List.nil_append, List.cons_append, List.set_cons_zero, List.set_cons_succ, iv_set, bv_set, iv_rep, bv_rep]; done) | (simp only [List.nil_append, List.cons_append, List.set_cons_zero, List.set_cons_succ, iv_set, bv_set, iv_rep, bv_rep]; rfl) | rfl)))) | (with_reducible refine AWo.nil ?_) | ((with_reducible apply AW.seq)) | ((with_reducible apply Then.n)) | ((with_reducible apply AW.regL)) | ((with_reducible apply AW.block)) | ((with_reducible apply AW.skip)) | ((with_reducible apply AW.condT); exact rfl; (focus ((simp only [decide_eq_true_eq, decide_eq_false_iff_not, Bool.not_eq_true', Bool.not_eq_false', Bool.not_true, Bool.not_false]; first | assumption | omega))))))
        ((with_reducible apply Step.appG (k := 4)); exact rfl; exact rfl; exact rfl; exact el23; exact un23; exact rfl; exact rfl; exact rfl; exact hol; exact rfl; exact rfl; exact rfl; (focus (omega)); exact rfl; (focus (first | (simp only [List.nil_append, List.cons_append, List.set_cons_zero, List.set_cons_succ, iv_set, bv_set, iv_rep, bv_rep]; done) | (simp only [List.nil_append, List.cons_append, List.set_cons_zero, List.set_cons_succ, iv_set, bv_set, iv_rep, bv_rep]; rfl) | rfl)))
        (repeat (first | (with_reducible refine AWo.cons ?_) | ((with_reducible refine Step.id ?_); first | ((with_reducible apply Step.move); exact rfl; exact rfl) | ((with_reducible apply Step.assign); exact rfl; exact rfl) | ((with_reducible apply Step.load); exact rfl; (focus (decide +kernel)); exact rfl; (focus (first | exact hbr _ | exact fx0 _ | exact fx1 _))) | ((with_reducible apply Step.ix (s := 4)); exact rfl; (focus (assumption)); exact rfl; (focus (decide +kernel)); exact rfl; (focus (omega))) | ((with_reducible apply Step.field0); exact rfl; (focus (decide +kernel)); exact rfl) | ((with_reducible apply Step.field (k := 1)); exact rfl; (focus (decide +kernel)); exact rfl) | ((with_reducible apply Step.add); exact rfl; exact rfl; (focus (omega)); exact rfl) | ((with_reducible apply Step.leq); exact rfl; exact rfl; exact rfl)) | (with_reducible refine AWo.nil ?_) | ((with_reducible apply AW.seq)) | ((with_reducible apply Then.n)) | ((with_reducible apply AW.regL)) | ((with_reducible apply AW.exit)) | ((with_reducible apply InBlk.hit)) | ((with_reducible apply Then.e)) | ((with_reducible apply AW.condT); exact rfl; (focus ((simp only [decide_eq_true_eq, decide_eq_false_iff_not, Bool.not_eq_true', Bool.not_eq_false', Bool.not_true, Bool.not_false]; first | assumption | omega))))))
        refine ⟨_, [(1, .pointer (some ⟨m.length + 0, 0, none⟩)), (3, .slice (some ⟨m.length + 2, 0, none⟩) (on.length + 1) (on.length + 1)), (4, .int .i64 (sum + x1)), (9, .slice (some ⟨m.length + 1, 0, none⟩) j.length j.length), (10, .int .i64 (j.length : Nat)), (11, .int .i64 ((k + 1 : Nat) : Int))], [some { cells := [v] }, some { cells := iv (eddL j) }, some { cells := iv on ++ [.int .i64 (x : Int)], kind := .grow, size := 1 }], ?_, (Back.mvC 2 4 rfl rfl rfl rfl (by intro j b hj h; rcases j with _ | _ | _ | _ | _ | _ | _ | _ | j <;> first | exact absurd rfl hj | exact h | (simp at h; done)) (by repeat (first | exact CellsP.nil | (refine CellsP.cons ?_ ?_; (focus (first | exact cells_iv _ | exact cells_g0 (by assumption) | ((repeat (first | exact cells_nil | (refine cells_cons ?_ ?_; (focus (exact Ren.of_sl_ne (by assumption) (by first | omega | (simp; omega)) (by first | omega | (simp; omega))))))); done)))))) (by repeat (first | exact trivial | (refine And.intro ⟨_, rfl, by (first | exact .int _ _ | exact Ren.slice_mv (by first | (simp; done) | omega | (simp; omega)) | exact Ren.slice_ne (by first | (simp; done) | omega | (simp; omega)) (by omega) | exact Ren.ptr_ne (by first | (simp; done) | omega | (simp; omega)) (by omega))⟩ ?_)))), k + 1, [], rfl, hlt, ?_, ?_, ?_⟩
        · omega
        · rw [hS2]; simp; simp at hZ; omega
        · rw [hS2, ea]; show _ = [_, _, gb (iv (_ ++ _)) 1]; rw [gb_pos (by rw [iv_len]; simp)]; simp
        · rw [hS2]; show _ = [_, (3, sv _ (on ++ [(x : Int)]) _), _, _, _, _]; rw [sv_pos (by simp)]; simp
      · rw [if_neg hle] at stp
        subst stp
        have dl := del_two (M := m) (L := [some { cells := [v] }, some { cells := iv (eddL j) }, none, some { cells := [.int .i64 (x : Nat)] }, some { cells := iv on ++ [.int .i64 (x : Int)], kind := .grow, size := 1 }, some { cells := [.int .i64 (g : Nat)] }]) (k := 4) (p := 5) (n := on.length + 1) (c := on.length + 1) (A := on ++ [(x : Int)]) (Z := []) (g : Nat) (by show some (some _) = _; rw [ea, List.append_nil]) rfl (by omega) on2l (by omega) (by simp at hZ; omega)
        generalize hfl : (on ++ [(x : Int)]).filter (fun y => !decide (y = ((g : Nat) : Int))) = on3 at *
        have hin2 : ∀ L : AM, L[4]? = some (some { cells := iv on ++ [.int .i64 (x : Int)], kind := .grow, size := 1 }) → Ints (m ++ L) (.slice (some ⟨m.length + 4, 0, none⟩) (on.length + 1) (on.length + 1)) (on ++ [(x : Int)]) := fun L h => ints_pre (Z := []) h (by show iv on ++ [.int .i64 (x : Int)] = _; rw [ea, List.append_nil]) on2l.symm (by omega)
        (repeat (first | (with_reducible refine AWo.cons ?_) | ((with_reducible refine Step.id ?_); first | ((with_reducible apply Step.move); exact rfl; exact rfl) | ((with_reducible apply Step.assign); exact rfl; exact rfl) | ((with_reducible apply Step.load); exact rfl; (focus (decide +kernel)); exact rfl; (focus (exact hre _ _))) | ((with_reducible apply Step.ix1z); exact rfl; (focus (exact Sl.mk (by omega))); exact rfl; (focus (decide +kernel)); exact rfl; (focus (omega))) | ((with_reducible apply Step.lss); exact rfl; exact rfl; exact rfl) | ((with_reducible apply Step.buildS 3); exact rfl; exact rfl; exact (fun _ _ => bs23x); exact rfl; (focus (first | (simp only [List.nil_append, List.cons_append, List.set_cons_zero, List.set_cons_succ, iv_set, bv_set, iv_rep, bv_rep]; done) | (simp only [List.nil_append, List.cons_append, List.set_cons_zero, List.set_cons_succ, iv_set, bv_set, iv_rep, bv_rep]; rfl) | rfl)))) | (with_reducible refine AWo.nil ?_) | ((with_reducible apply AW.seq)) | ((with_reducible apply Then.n)) | ((with_reducible apply AW.regL)) | ((with_reducible apply AW.block)) | ((with_reducible apply AW.skip)) | ((with_reducible apply AW.condT); exact rfl; (focus ((simp only [decide_eq_true_eq, decide_eq_false_iff_not, Bool.not_eq_true', Bool.not_eq_false', Bool.not_true, Bool.not_false]; first | assumption | omega))))))
        ((with_reducible apply Step.appG (k := 4)); exact rfl; exact rfl; exact rfl; exact el23; exact un23; exact rfl; exact rfl; exact rfl; exact hol; exact rfl; exact rfl; exact rfl; (focus (omega)); exact rfl; (focus (first | (simp only [List.nil_append, List.cons_append, List.set_cons_zero, List.set_cons_succ, iv_set, bv_set, iv_rep, bv_rep]; done) | (simp only [List.nil_append, List.cons_append, List.set_cons_zero, List.set_cons_succ, iv_set, bv_set, iv_rep, bv_rep]; rfl) | rfl)))
        (repeat (first | (with_reducible refine AWo.cons ?_) | ((with_reducible refine Step.id ?_); first | ((with_reducible apply Step.move); exact rfl; exact rfl) | ((with_reducible apply Step.assign); exact rfl; exact rfl) | ((with_reducible apply Step.load); exact rfl; (focus (decide +kernel)); exact rfl; (focus (first | exact hbr _ | exact fx0 _ | exact fx1 _ | exact fg0 _ | exact Rd.new rfl rfl))) | ((with_reducible apply Step.ix (s := 4)); exact rfl; (focus (assumption)); exact rfl; (focus (decide +kernel)); exact rfl; (focus (omega))) | ((with_reducible apply Step.field0); exact rfl; (focus (decide +kernel)); exact rfl) | ((with_reducible apply Step.field (k := 1)); exact rfl; (focus (decide +kernel)); exact rfl) | ((with_reducible apply Step.add); exact rfl; exact rfl; (focus (omega)); exact rfl) | ((with_reducible apply Step.sub); exact rfl; exact rfl; (focus (omega)); exact rfl) | ((with_reducible apply Step.leq); exact rfl; exact rfl; exact rfl) | ((with_reducible apply Step.fn); exact rfl; exact rfl; exact rfl) | ((with_reducible apply Step.callR fit); exact rfl; exact Try.func117; exact rfl; exact rfl; exact (hmx _ 4 _ (hin2 _ rfl))) | ((with_reducible apply Step.callM fit); exact rfl; exact Try.func82; exact rfl; exact rfl; exact (dl)) | ((with_reducible apply Step.alloc 5); exact rfl; exact ze3; exact rfl; (focus (first | (simp only [List.nil_append, List.cons_append, List.set_cons_zero, List.set_cons_succ, iv_set, bv_set, iv_rep, bv_rep]; done) | (simp only [List.nil_append, List.cons_append, List.set_cons_zero, List.set_cons_succ, iv_set, bv_set, iv_rep, bv_rep]; rfl) | rfl))) | ((with_reducible apply Step.store (k := 5)); exact rfl; exact rfl; exact rfl; exact rfl; (focus (decide +kernel)); exact rfl; exact rfl; (focus (first | omega | (simp [iv, bv]; done) | (simp [iv, bv]; omega))); (focus (first | (simp only [List.nil_append, List.cons_append, List.set_cons_zero, List.set_cons_succ, iv_set, bv_set, iv_rep, bv_rep]; done) | (simp only [List.nil_append, List.cons_append, List.set_cons_zero, List.set_cons_succ, iv_set, bv_set, iv_rep, bv_rep]; rfl) | rfl)))) | (with_reducible refine AWo.nil ?_) | ((with_reducible apply AW.seq)) | ((with_reducible apply Then.n)) | ((with_reducible apply AW.regL)) | ((with_reducible apply InBlk.n)) | ((with_reducible apply AW.skip)) | ((with_reducible apply AW.condF); exact rfl; (focus ((simp only [decide_eq_true_eq, decide_eq_false_iff_not, Bool.not_eq_true', Bool.not_eq_false', Bool.not_true, Bool.not_false]; first | assumption | omega))))))
        refine ⟨_, [(1, .pointer (some ⟨m.length + 0, 0, none⟩)), (3, .slice (some ⟨m.length + 2, 0, none⟩) on3.length (on.length + 1)), (4, .int .i64 (sum + x1 - g1)), (9, .slice (some ⟨m.length + 1, 0, none⟩) j.length j.length), (10, .int .i64 (j.length : Nat)), (11, .int .i64 ((k + 1 : Nat) : Int))], [some { cells := [v] }, some { cells := iv (eddL j) }, some { cells := iv (on3 ++ (List.replicate (on.length + 1 - on3.length) 0 ++ [])), kind := .grow, size := 1 }], ?_, (Back.mvC 2 4 rfl rfl rfl rfl (by intro j b hj h; rcases j with _ | _ | _ | _ | _ | _ | _ | _ | j <;> first | exact absurd rfl hj | exact h | (simp at h; done)) (by repeat (first | exact CellsP.nil | (refine CellsP.cons ?_ ?_; (focus (first | exact cells_iv _ | ((repeat (first | exact cells_nil | (refine cells_cons ?_ ?_; (focus (exact Ren.of_sl_ne (by assumption) (by first | omega | (simp; omega)) (by first | omega | (simp; omega))))))); done)))))) (by repeat (first | exact trivial | (refine And.intro ⟨_, rfl, by (first | exact .int _ _ | exact Ren.slice_mv (by first | (simp; done) | omega | (simp; omega)) | exact Ren.slice_ne (by first | (simp; done) | omega | (simp; omega)) (by omega) | exact Ren.ptr_ne (by first | (simp; done) | omega | (simp; omega)) (by omega))⟩ ?_)))), k + 1, List.replicate (on.length + 1 - on3.length) 0 ++ [], rfl, hlt, ?_, ?_, ?_⟩
        · omega
        · rw [hS2]; simp; simp at hZ; omega
        · rw [hS2]; show _ = [_, _, gb (iv (on3 ++ _)) 1]; rw [gb_pos (by rw [iv_len]; simp; omega)]
        · rw [hS2]; show _ = [_, (3, sv _ on3 _), _, _, _, _]; rw [sv_pos (by simp; omega)]; simp; omega
    | cons z Z =>
      have hzl : (on ++ z :: Z).length = on.length + 1 + Z.length := by simp; omega
      rw [sv_pos (by omega), gb_pos (c := iv (on ++ z :: Z)) (by rw [iv_len]; omega), hzl]
      have hcp : on.length + 1 ≤ on.length + 1 + Z.length := by omega
      have hbc : iv (on ++ z :: Z) = iv on ++ ([.int .i64 z] ++ iv Z) := by simp [iv]
      have ea : iv on ++ (Value.int .i64 (x : Int) :: iv Z) = iv ((on ++ [(x : Int)]) ++ Z) := by simp [iv]
      have hg0 : ∀ v ∈ iv on ++ (Value.int .i64 (x : Int) :: iv Z), g0 v = true := by rw [ea]; exact g0_iv _
      by_cases hle : sum + x1 ≤ x2
      · rw [if_pos hle] at stp
        subst stp
        (repeat (first | (with_reducible refine AWo.cons ?_) | ((with_reducible refine Step.id ?_); first | ((with_reducible apply Step.move); exact rfl; exact rfl) | ((with_reducible apply Step.assign); exact rfl; exact rfl) | ((with_reducible apply Step.load); exact rfl; (focus (decide +kernel)); exact rfl; (focus (exact hre _ _))) | ((with_reducible apply Step.ix1z); exact rfl; (focus (exact Sl.mk (by omega))); exact rfl; (focus (decide +kernel)); exact rfl; (focus (omega))) | ((with_reducible apply Step.lss); exact rfl; exact rfl; exact rfl) | ((with_reducible apply Step.buildS 3); exact rfl; exact rfl; exact (fun _ _ => bs23x); exact rfl; (focus (first | (simp only [List.nil_append, List.cons_append, List.set_cons_zero, List.set_cons_succ, iv_set, bv_set, iv_rep, bv_rep]; done) | (simp only [List.nil_append, List.cons_append, List.set_cons_zero, List.set_cons_succ, iv_set, bv_set, iv_rep, bv_rep]; rfl) | rfl)))) | (with_reducible refine AWo.nil ?_) | ((with_reducible apply AW.seq)) | ((with_reducible apply Then.n)) | ((with_reducible apply AW.regL)) | ((with_reducible apply AW.block)) | ((with_reducible apply AW.skip)) | ((with_reducible apply AW.condT); exact rfl; (focus ((simp only [decide_eq_true_eq, decide_eq_false_iff_not, Bool.not_eq_true', Bool.not_eq_false', Bool.not_true, Bool.not_false]; first | assumption | omega))))))
        ((with_reducible apply Step.appIn (k := 4) (q := 2) (r := 3) (old := [.int .i64 z])); exact rfl; exact rfl; exact rfl; exact el23; exact un23; exact rfl; exact rfl; exact hbc; exact (iv_len on); exact rfl; exact rfl; exact rfl; exact hcp; exact rfl; (focus (first | (simp only [List.nil_append, List.cons_append, List.set_cons_zero, List.set_cons_succ, iv_set, bv_set, iv_rep, bv_rep]; done) | (simp only [List.nil_append, List.cons_append, List.set_cons_zero, List.set_cons_succ, iv_set, bv_set, iv_rep, bv_rep]; rfl) | rfl)))
        (repeat (first | (with_reducible refine AWo.cons ?_) | ((with_reducible refine Step.id ?_); first | ((with_reducible apply Step.move); exact rfl; exact rfl) | ((with_reducible apply Step.assign); exact rfl; exact rfl) | ((with_reducible apply Step.load); exact rfl; (focus (decide +kernel)); exact rfl; (focus (first | exact hbr _ | exact fx0 _ | exact fx1 _))) | ((with_reducible apply Step.ix (s := 4)); exact rfl; (focus (assumption)); exact rfl; (focus (decide +kernel)); exact rfl; (focus (omega))) | ((with_reducible apply Step.field0); exact rfl; (focus (decide +kernel)); exact rfl) | ((with_reducible apply Step.field (k := 1)); exact rfl; (focus (decide +kernel)); exact rfl) | ((with_reducible apply Step.add); exact rfl; exact rfl; (focus (omega)); exact rfl) | ((with_reducible apply Step.leq); exact rfl; exact rfl; exact rfl)) | (with_reducible refine AWo.nil ?_) | ((with_reducible apply AW.seq)) | ((with_reducible apply Then.n)) | ((with_reducible apply AW.regL)) | ((with_reducible apply AW.exit)) | ((with_reducible apply InBlk.hit)) | ((with_reducible apply Then.e)) | ((with_reducible apply AW.condT); exact rfl; (focus ((simp only [decide_eq_true_eq, decide_eq_false_iff_not, Bool.not_eq_true', Bool.not_eq_false', Bool.not_true, Bool.not_false]; first | assumption | omega))))))
        refine ⟨_, [(1, .pointer (some ⟨m.length + 0, 0, none⟩)), (3, .slice (some ⟨m.length + 2, 0, none⟩) (on.length + 1) (on.length + 1 + Z.length)), (4, .int .i64 (sum + x1)), (9, .slice (some ⟨m.length + 1, 0, none⟩) j.length j.length), (10, .int .i64 (j.length : Nat)), (11, .int .i64 ((k + 1 : Nat) : Int))], [some { cells := [v] }, some { cells := iv (eddL j) }, some { cells := iv on ++ (.int .i64 (x : Int) :: iv Z), kind := .grow, size := 1 }], ?_, (Back.trimC rfl rfl (by repeat (first | exact CellsP.nil | (refine CellsP.cons ?_ ?_; (focus (first | exact cells_iv _ | exact cells_g0 (by assumption) | ((repeat (first | exact cells_nil | (refine cells_cons ?_ ?_; (focus (exact Ren.of_sl (by assumption) (by first | omega | (simp; omega))))))); done)))))) (by repeat (first | exact trivial | (refine And.intro ⟨rfl, by (first | exact .int _ _ | exact .slice _ _ _ _ (by first | (simp; done) | omega | (simp; omega)) | exact .ptr _ _ (by first | (simp; done) | omega | (simp; omega)))⟩ ?_)))), k + 1, Z, rfl, hlt, ?_, ?_, ?_⟩
        · omega
        · rw [hS2]; simp; simp at hZ; omega
        · rw [hS2, ea]; show _ = [_, _, gb (iv (_ ++ _)) 1]; rw [gb_pos (by rw [iv_len]; simp; omega)]
        · rw [hS2]; show _ = [_, (3, sv _ (on ++ [(x : Int)]) _), _, _, _, _]; rw [sv_pos (by simp; omega)]; simp; omega
      · rw [if_neg hle] at stp
        subst stp
        have dl := del_two (M := m) (L := [some { cells := [v] }, some { cells := iv (eddL j) }, some { cells := iv on ++ (.int .i64 (x : Int) :: iv Z), kind := .grow, size := 1 }, some { cells := [.int .i64 (x : Nat)] }, none, some { cells := [.int .i64 (g : Nat)] }]) (k := 2) (p := 5) (n := on.length + 1) (c := on.length + 1 + Z.length) (A := on ++ [(x : Int)]) (Z := Z) (g : Nat) (by show some (some _) = _; rw [ea]) rfl (by omega) on2l (by omega) (by simp at hZ; omega)
        generalize hfl : (on ++ [(x : Int)]).filter (fun y => !decide (y = ((g : Nat) : Int))) = on3 at *
        have hin2 : ∀ L : AM, L[2]? = some (some { cells := iv on ++ (.int .i64 (x : Int) :: iv Z), kind := .grow, size := 1 }) → Ints (m ++ L) (.slice (some ⟨m.length + 2, 0, none⟩) (on.length + 1) (on.length + 1 + Z.length)) (on ++ [(x : Int)]) := fun L h => ints_pre (Z := Z) h (by show iv on ++ (.int .i64 (x : Int) :: iv Z) = _; rw [ea]) on2l.symm (by omega)
        (repeat (first | (with_reducible refine AWo.cons ?_) | ((with_reducible refine Step.id ?_); first | ((with_reducible apply Step.move); exact rfl; exact rfl) | ((with_reducible apply Step.assign); exact rfl; exact rfl) | ((with_reducible apply Step.load); exact rfl; (focus (decide +kernel)); exact rfl; (focus (exact hre _ _))) | ((with_reducible apply Step.ix1z); exact rfl; (focus (exact Sl.mk (by omega))); exact rfl; (focus (decide +kernel)); exact rfl; (focus (omega))) | ((with_reducible apply Step.lss); exact rfl; exact rfl; exact rfl) | ((with_reducible apply Step.buildS 3); exact rfl; exact rfl; exact (fun _ _ => bs23x); exact rfl; (focus (first | (simp only [List.nil_append, List.cons_append, List.set_cons_zero, List.set_cons_succ, iv_set, bv_set, iv_rep, bv_rep]; done) | (simp only [List.nil_append, List.cons_append, List.set_cons_zero, List.set_cons_succ, iv_set, bv_set, iv_rep, bv_rep]; rfl) | rfl)))) | (with_reducible refine AWo.nil ?_) | ((with_reducible apply AW.seq)) | ((with_reducible apply Then.n)) | ((with_reducible apply AW.regL)) | ((with_reducible apply AW.block)) | ((with_reducible apply AW.skip)) | ((with_reducible apply AW.condT); exact rfl; (focus ((simp only [decide_eq_true_eq, decide_eq_false_iff_not, Bool.not_eq_true', Bool.not_eq_false', Bool.not_true, Bool.not_false]; first | assumption | omega))))))
        ((with_reducible apply Step.appIn (k := 4) (q := 2) (r := 3) (old := [.int .i64 z])); exact rfl; exact rfl; exact rfl; exact el23; exact un23; exact rfl; exact rfl; exact hbc; exact (iv_len on); exact rfl; exact rfl; exact rfl; exact hcp; exact rfl; (focus (first | (simp only [List.nil_append, List.cons_append, List.set_cons_zero, List.set_cons_succ, iv_set, bv_set, iv_rep, bv_rep]; done) | (simp only [List.nil_append, List.cons_append, List.set_cons_zero, List.set_cons_succ, iv_set, bv_set, iv_rep, bv_rep]; rfl) | rfl)))
        (repeat (first | (with_reducible refine AWo.cons ?_) | ((with_reducible refine Step.id ?_); first | ((with_reducible apply Step.move); exact rfl; exact rfl) | ((with_reducible apply Step.assign); exact rfl; exact rfl) | ((with_reducible apply Step.load); exact rfl; (focus (decide +kernel)); exact rfl; (focus (first | exact hbr _ | exact fx0 _ | exact fx1 _ | exact fg0 _ | exact Rd.new rfl rfl))) | ((with_reducible apply Step.ix (s := 4)); exact rfl; (focus (assumption)); exact rfl; (focus (decide +kernel)); exact rfl; (focus (omega))) | ((with_reducible apply Step.field0); exact rfl; (focus (decide +kernel)); exact rfl) | ((with_reducible apply Step.field (k := 1)); exact rfl; (focus (decide +kernel)); exact rfl) | ((with_reducible apply Step.add); exact rfl; exact rfl; (focus (omega)); exact rfl) | ((with_reducible apply Step.sub); exact rfl; exact rfl; (focus (omega)); exact rfl) | ((with_reducible apply Step.leq); exact rfl; exact rfl; exact rfl) | ((with_reducible apply Step.fn); exact rfl; exact rfl; exact rfl) | ((with_reducible apply Step.callR fit); exact rfl; exact Try.func117; exact rfl; exact rfl; exact (hmx _ 2 _ (hin2 _ rfl))) | ((with_reducible apply Step.callM fit); exact rfl; exact Try.func82; exact rfl; exact rfl; exact (dl)) | ((with_reducible apply Step.alloc 5); exact rfl; exact ze3; exact rfl; (focus (first | (simp only [List.nil_append, List.cons_append, List.set_cons_zero, List.set_cons_succ, iv_set, bv_set, iv_rep, bv_rep]; done) | (simp only [List.nil_append, List.cons_append, List.set_cons_zero, List.set_cons_succ, iv_set, bv_set, iv_rep, bv_rep]; rfl) | rfl))) | ((with_reducible apply Step.store (k := 5)); exact rfl; exact rfl; exact rfl; exact rfl; (focus (decide +kernel)); exact rfl; exact rfl; (focus (first | omega | (simp [iv, bv]; done) | (simp [iv, bv]; omega))); (focus (first | (simp only [List.nil_append, List.cons_append, List.set_cons_zero, List.set_cons_succ, iv_set, bv_set, iv_rep, bv_rep]; done) | (simp only [List.nil_append, List.cons_append, List.set_cons_zero, List.set_cons_succ, iv_set, bv_set, iv_rep, bv_rep]; rfl) | rfl)))) | (with_reducible refine AWo.nil ?_) | ((with_reducible apply AW.seq)) | ((with_reducible apply Then.n)) | ((with_reducible apply AW.regL)) | ((with_reducible apply InBlk.n)) | ((with_reducible apply AW.skip)) | ((with_reducible apply AW.condF); exact rfl; (focus ((simp only [decide_eq_true_eq, decide_eq_false_iff_not, Bool.not_eq_true', Bool.not_eq_false', Bool.not_true, Bool.not_false]; first | assumption | omega))))))
        refine ⟨_, [(1, .pointer (some ⟨m.length + 0, 0, none⟩)), (3, .slice (some ⟨m.length + 2, 0, none⟩) on3.length (on.length + 1 + Z.length)), (4, .int .i64 (sum + x1 - g1)), (9, .slice (some ⟨m.length + 1, 0, none⟩) j.length j.length), (10, .int .i64 (j.length : Nat)), (11, .int .i64 ((k + 1 : Nat) : Int))], [some { cells := [v] }, some { cells := iv (eddL j) }, some { cells := iv (on3 ++ (List.replicate (on.length + 1 - on3.length) 0 ++ Z)), kind := .grow, size := 1 }], ?_, (Back.trimC rfl rfl (by repeat (first | exact CellsP.nil | (refine CellsP.cons ?_ ?_; (focus (first | exact cells_iv _ | ((repeat (first | exact cells_nil | (refine cells_cons ?_ ?_; (focus (exact Ren.of_sl (by assumption) (by first | omega | (simp; omega))))))); done)))))) (by repeat (first | exact trivial | (refine And.intro ⟨rfl, by (first | exact .int _ _ | exact .slice _ _ _ _ (by first | (simp; done) | omega | (simp; omega)) | exact .ptr _ _ (by first | (simp; done) | omega | (simp; omega)))⟩ ?_)))), k + 1, List.replicate (on.length + 1 - on3.length) 0 ++ Z, rfl, hlt, ?_, ?_, ?_⟩
        · omega
        · rw [hS2]; simp; simp at hZ; omega
        · rw [hS2]; show _ = [_, _, gb (iv (on3 ++ _)) 1]; rw [gb_pos (by rw [iv_len]; simp; omega)]
        · rw [hS2]; show _ = [_, (3, sv _ on3 _), _, _, _, _]; rw [sv_pos (by simp; omega)]; simp; omega
  · obtain rfl : k = j.length := by omega
    have hm : mooL j = srt (mooN j j.length).on := rfl
    have hin : InJ j (mooN j j.length).on := fun y hy => eddL_mem.1 (List.mem_of_mem_take (inv.mem y hy))
    have ilen := inv.len
    generalize (mooN j j.length).on = on at *
    have hsl := srt_len on
    by_cases hz : (on ++ Z).length = 0
    · have e1 : on = [] := by have h' := hz; simp at h'; exact h'.1
      subst e1
      have e2 : sv (m.length + 2) [] Z = .slice none 0 0 := by unfold sv; rw [if_pos hz]
      rw [e2]
      (repeat (first | (with_reducible refine AWo.cons ?_) | ((with_reducible refine Step.id ?_); first | ((with_reducible apply Step.move); exact rfl; exact rfl) | ((with_reducible apply Step.assign); exact rfl; exact rfl) | ((with_reducible apply Step.lss); exact rfl; exact rfl; exact rfl) | ((with_reducible apply Step.callE fit); exact rfl; exact Try.func114; exact rfl; exact rfl; exact (sort_nil))) | (with_reducible refine AWo.nil ?_) | ((with_reducible apply AW.seq)) | ((with_reducible apply Then.n)) | ((with_reducible apply AW.regL)) | ((with_reducible apply AW.exit)) | ((with_reducible apply InBlk.hit)) | ((with_reducible apply Then.e)) | ((with_reducible apply AW.condF); exact rfl; (focus ((simp only [decide_eq_true_eq, decide_eq_false_iff_not, Bool.not_eq_true', Bool.not_eq_false', Bool.not_true, Bool.not_false]; first | assumption | omega))))))
      (refine AW.ret ?_; (repeat (first | refine Then.r ?_ | refine InBlk.r ?_)))
      refine ⟨_, rfl, _, rfl, ?_⟩
      have e3 : srt ([] : List Int) = [] := by simp [srt]
      rw [hm, e3]
      exact ⟨ints_nil (by rw [List.length_append]; omega), none, 0, rfl⟩
    · rw [sv_pos (by omega), gb_pos (by rw [iv_len]; omega)]
      have so := sort_okZ (M := m) (L := [some { cells := [v] }, some { cells := iv (eddL j) }, some { cells := iv (on ++ Z), kind := .grow, size := 1 }]) (k := 2) (n := on.length) (c := (on ++ Z).length) (kd := .grow) (l := on) (z := Z) rfl rfl rfl (by omega) rfl
      (repeat (first | (with_reducible refine AWo.cons ?_) | ((with_reducible refine Step.id ?_); first | ((with_reducible apply Step.move); exact rfl; exact rfl) | ((with_reducible apply Step.assign); exact rfl; exact rfl) | ((with_reducible apply Step.lss); exact rfl; exact rfl; exact rfl) | ((with_reducible apply Step.callM fit); exact rfl; exact Try.func114; exact rfl; exact rfl; exact (so))) | (with_reducible refine AWo.nil ?_) | ((with_reducible apply AW.seq)) | ((with_reducible apply Then.n)) | ((with_reducible apply AW.regL)) | ((with_reducible apply AW.exit)) | ((with_reducible apply InBlk.hit)) | ((with_reducible apply Then.e)) | ((with_reducible apply AW.condF); exact rfl; (focus ((simp only [decide_eq_true_eq, decide_eq_false_iff_not, Bool.not_eq_true', Bool.not_eq_false', Bool.not_true, Bool.not_false]; first | assumption | omega))))))
      (refine AW.ret ?_; (repeat (first | refine Then.r ?_ | refine InBlk.r ?_)))
      refine ⟨_, rfl, _, rfl, ?_⟩
      rw [hm, hsl]
      exact ⟨ints_pre (k := 2) (A := srt on) (Z := Z) rfl rfl hsl.symm (by simp), _, _, rfl⟩
end Go.Proofs.Ytmomjannlnafcaa.Abs
namespace Go.Proofs.Ytmomjannlnafcaa.Abs
set_option linter.unusedSimpArgs false
set_option linter.unusedVariables false
open Go.RowKit
open Go.Proofs.Ytmomjannlnafcaa.Sim
open Go.Proofs
theorem mxI_top (j : List Job) (l : List Int) : ∀ i, i < l.length → ∀ p, p ≤ i → ¬ ((jb j (mxI (cM j) l i)).time < (jb j (l.getD p 0)).time ∨ (jb j (mxI (cM j) l i)).time = (jb j (l.getD p 0)).time ∧ mxI (cM j) l i < l.getD p 0)
  | 0, h, p, hp => by
    obtain rfl : p = 0 := by omega
    simp only [mxI]; omega
  | i + 1, h, p, hp => by
    have hc := cM_pos j (l.getD (i + 1) 0) (mxI (cM j) l i)
    have ih := mxI_top j l i (by omega)
    unfold mxI
    simp only [jb] at *
    split
    · rename_i h1
      have h2 := hc.1 h1
      rcases Nat.lt_or_ge p (i + 1) with hp' | hp'
      · have := ih p (by omega)
        omega
      · obtain rfl : p = i + 1 := by omega
        omega
    · rename_i h1
      rcases Nat.lt_or_ge p (i + 1) with hp' | hp'
      · exact ih p (by omega)
      · obtain rfl : p = i + 1 := by omega
        exact fun h2 => h1 (hc.2 h2)
end Go.Proofs.Ytmomjannlnafcaa.Abs
namespace Go.Proofs.Ytmomjannlnafcaa.Abs
set_option linter.unusedSimpArgs false
set_option linter.unusedVariables false
/-- The sum of the n least. -/
def leI (a b : Int) : Bool := decide (a ≤ b)
theorem leI_to : TO leI := ⟨fun a b => by simp [leI]; omega, fun a b c h1 h2 => by simp [leI] at *; omega, fun a b h1 h2 => by simp [leI] at *; omega⟩
def sN (l : List Int) : List Int := ms leI l
def gN (l : List Int) (n : Nat) : Int := ((sN l).take n).sum
theorem sN_len (l : List Int) : (sN l).length = l.length := ms_len
theorem gN_zero (l : List Int) : gN l 0 = 0 := by simp [gN]
theorem gN_succ {l : List Int} {n : Nat} (h : n < l.length) : gN l (n + 1) = gN l n + (sN l).getD n 0 := by
  unfold gN
  rw [take_snoc (sN l) n 0 (by rw [sN_len]; exact h), List.sum_append]
  simp
theorem gN_all (l : List Int) : gN l l.length = l.sum := by
  unfold gN
  rw [List.take_of_length_le (by rw [sN_len]; exact Nat.le_refl _)]
  exact perm_sum ms_perm
theorem sorted_split {l : List Int} (hs : Srt leI l) (p : Int) : ∃ S1 S2, l = S1 ++ S2 ∧ (∀ y ∈ S1, leI y p = true) ∧ ∀ y ∈ S2, leI p y = true := by
  induction l with
  | nil => exact ⟨[], [], rfl, by simp, by simp⟩
  | cons x l ih =>
    obtain ⟨h1, h2⟩ := List.pairwise_cons.1 hs
    by_cases hx : x ≤ p
    · obtain ⟨S1, S2, e, a1, a2⟩ := ih h2
      refine ⟨x :: S1, S2, by rw [e]; rfl, fun y hy => ?_, a2⟩
      rcases List.mem_cons.1 hy with rfl | hy
      · simp [leI, hx]
      · exact a1 y hy
    · refine ⟨[], x :: l, rfl, by simp, fun y hy => ?_⟩
      rcases List.mem_cons.1 hy with rfl | hy
      · simp [leI]; omega
      · have := h1 y hy
        simp [leI] at *; omega
theorem gN_snoc {l : List Int} {p : Int} {n : Nat} (h : n < l.length) : gN (l ++ [p]) (n + 1) = min (gN l (n + 1)) (gN l n + p) := by
  have hsucc := gN_succ h
  have hS : Srt leI (sN l) := ms_srt leI_to
  obtain ⟨S1, S2, e, a1, a2⟩ := sorted_split hS p
  have hone : sN (l ++ [p]) = S1 ++ p :: S2 := ms_one leI_to (by rw [← e]; exact hS) a1 a2 (by rw [← e]; exact ms_perm)
  have hl : S1.length + S2.length = l.length := by rw [← sN_len l, e]; simp
  have hg : (sN l).getD n 0 = (S1 ++ S2).getD n 0 := by rw [e]
  have hg2 : gN l n = ((S1 ++ S2).take n).sum := by unfold gN; rw [e]
  have hmem : n < S1.length → (S1 ++ S2).getD n 0 ∈ S1 := fun h1 => by rw [getD_l h1]; exact mem_getD' h1
  have hmem2 : ¬ n < S1.length → (S1 ++ S2).getD n 0 ∈ S2 := fun h1 => by
    rw [getD_r (j := n - S1.length) (by omega)]; exact mem_getD' (by omega)
  unfold gN at hsucc ⊢
  rw [hone]
  by_cases h1 : n < S1.length
  · have := a1 _ (hmem h1)
    simp only [leI, decide_eq_true_eq] at this
    have e3 : (S1 ++ p :: S2).take (n + 1) = (S1 ++ S2).take (n + 1) := by
      rw [List.take_append_of_le_length (by omega), List.take_append_of_le_length (by omega)]
    rw [e3, ← e]
    omega
  · have := a2 _ (hmem2 h1)
    simp only [leI, decide_eq_true_eq] at this
    have e3 : ((S1 ++ p :: S2).take (n + 1)).sum = ((S1 ++ S2).take n).sum + p := by
      rw [List.take_append, List.take_append, List.take_of_length_le (show S1.length ≤ n + 1 by omega), List.take_of_length_le (show S1.length ≤ n by omega), show n + 1 - S1.length = (n - S1.length) + 1 by omega, List.take_succ_cons]
      simp only [List.sum_append, List.sum_cons]
      omega
    rw [e3, ← e]
    omega
theorem gN_snoc_all (l : List Int) (p : Int) : gN (l ++ [p]) (l.length + 1) = gN l l.length + p := by
  have := gN_all (l ++ [p])
  simp only [List.length_append, List.length_singleton] at this
  rw [this, gN_all]; simp
theorem gN_drop {l k : List Int} {b : Int} (hp : (k ++ [b]).Perm l) (hb : ∀ y ∈ k, y ≤ b) {n : Nat} (hn : n ≤ k.length) : gN l n = gN k n := by
  have e : sN l = sN k ++ [b] := by
    refine ms_of leI_to ?_ ?_
    · exact ((List.Perm.append_right [b] ms_perm).trans hp)
    · unfold Srt
      rw [List.pairwise_append]
      exact ⟨ms_srt leI_to, by simp, fun x hx y hy => by
        obtain rfl : y = b := by simpa using hy
        simp [leI, hb x (ms_mem.1 hx)]⟩
  unfold gN
  rw [e, List.take_append_of_le_length (by rw [sN_len]; exact hn)]
theorem gN_mono {l : List Int} (h : ∀ x ∈ l, 0 ≤ x) : ∀ n, n ≤ l.length → 0 ≤ gN l n ∧ gN l n ≤ l.sum := by
  have step : ∀ n, n < l.length → gN l n ≤ gN l (n + 1) := fun n hn => by
    have := h _ (ms_mem.1 (mem_getD' (l := sN l) (k := n) (by rw [sN_len]; exact hn)))
    rw [gN_succ hn]; omega
  have up : ∀ d n, n + d ≤ l.length → gN l n ≤ gN l (n + d) := fun d => by
    induction d with
    | zero => intro n _; exact Int.le_refl _
    | succ d ih => intro n hn; have := ih n (by omega); have := step (n + d) (by omega); rw [← Nat.add_assoc]; omega
  intro n hn
  have h1 := up n 0 (by omega)
  have h2 := up (l.length - n) n (by omega)
  rw [Nat.zero_add, gN_zero] at h1
  rw [show n + (l.length - n) = l.length by omega, gN_all] at h2
  exact ⟨h1, h2⟩
end Go.Proofs.Ytmomjannlnafcaa.Abs
namespace Go.Proofs.Ytmomjannlnafcaa.Abs
set_option linter.unusedSimpArgs false
set_option linter.unusedVariables false
def tms (j : List Job) (on : List Int) : List Int := on.map fun x => (jb j x).time
theorem tms_len (j : List Job) (on : List Int) : (tms j on).length = on.length := by simp [tms]
theorem filter_perm {l : List Int} {b : Int} (hn : l.Nodup) (hb : b ∈ l) : ((l.filter fun y => !decide (y = b)) ++ [b]).Perm l := by
  induction l with
  | nil => simp at hb
  | cons x l ih =>
    obtain ⟨n1, n2⟩ := List.nodup_cons.1 hn
    by_cases e : x = b
    · subst e
      have : (l.filter fun y => !decide (y = x)) = l := by
        rw [List.filter_eq_self]
        intro y hy
        have : y ≠ x := fun h => n1 (h ▸ hy)
        simp [this]
      rw [List.filter_cons_of_neg (by simp), this]
      exact List.perm_append_singleton x l
    · have hb' : b ∈ l := by
        rcases List.mem_cons.1 hb with h | h
        · exact absurd h.symm e
        · exact h
      rw [List.filter_cons_of_pos (by simp [e])]
      exact List.Perm.cons x (ih n2 hb')
theorem lg_top {j : List Job} {on : List Int} {y : Int} (hy : y ∈ on) : (jb j y).time ≤ (jb j (lgJ j on)).time := by
  obtain ⟨p, hp, e⟩ := List.getElem_of_mem hy
  have top := mxI_top j on (on.length - 1) (by omega) p (by omega)
  have e' : on.getD p 0 = y := by simp only [List.getD_eq_getElem?_getD, List.getElem?_eq_getElem hp, Option.getD_some]; exact e
  rw [e'] at top
  unfold lgJ
  omega
theorem sumJ_tms (j : List Job) (on : List Int) : sumJ j on = (tms j on).sum := sumJ_list j on
structure MStp (j : List Job) (on on' : List Int) (p d : Int) : Prop where
  upd : ∀ n, n < on.length → gN (tms j on') (n + 1) = if gN (tms j on) n + p ≤ d then min (gN (tms j on) (n + 1)) (gN (tms j on) n + p) else gN (tms j on) (n + 1)
  more : gN (tms j on) on.length + p ≤ d → on'.length = on.length + 1 ∧ gN (tms j on') (on.length + 1) = gN (tms j on) on.length + p
  same : ¬ gN (tms j on) on.length + p ≤ d → on'.length = on.length
theorem moo_step {j : List Job} (hJ : JOk j) {k : Nat} (hk : k < j.length) {d : Int} (hd : d = (jb j ((eddL j).getD k 0)).due) (hsum : (mooN j k).sum ≤ d) :
    MStp j (mooN j k).on (mooN j (k + 1)).on (jb j ((eddL j).getD k 0)).time d ∧ (mooN j (k + 1)).sum ≤ d := by
  have inv := mooN_inv j k (by omega)
  have inv2 := mooN_inv j (k + 1) hk
  have hx := eddL_in hk
  have hin : InJ j ((mooN j k).on ++ [(eddL j).getD k 0]) := fun y hy => by
    rcases List.mem_append.1 hy with h | h
    · exact eddL_mem.1 (List.mem_of_mem_take (inv.mem y h))
    · obtain rfl : y = (eddL j).getD k 0 := by simpa using h
      exact hx
  have hnd := nodup_snoc inv.nd (take_new hk inv.mem)
  have hpos : ∀ y ∈ tms j (mooN j k).on, 0 ≤ y := fun y hy => by
    obtain ⟨z, hz, rfl⟩ := List.mem_map.1 hy
    have hz' := hin z (List.mem_append.2 (.inl hz))
    have := hJ.num z.toNat (by omega)
    simp only [jb]; omega
  have mono := gN_mono hpos
  have hs1 : (tms j (mooN j k).on).sum = (mooN j k).sum := by rw [inv.sum, sumJ_tms]
  have hs2 : (tms j (mooN j (k + 1)).on).sum = (mooN j (k + 1)).sum := by rw [inv2.sum, sumJ_tms]
  have stp : mooN j (k + 1) = mStep j (mooN j k) ((eddL j).getD k 0) := rfl
  have tl : tms j ((mooN j k).on ++ [(eddL j).getD k 0]) = tms j (mooN j k).on ++ [(jb j ((eddL j).getD k 0)).time] := by simp [tms]
  have ll := tms_len j (mooN j k).on
  rw [hs1] at mono
  have all := gN_all (tms j (mooN j k).on)
  have all2 := gN_all (tms j (mooN j (k + 1)).on)
  rw [hs1, ll] at all
  rw [hs2, tms_len] at all2
  have lgm : lgJ j ((mooN j k).on ++ [(eddL j).getD k 0]) ∈ (mooN j k).on ++ [(eddL j).getD k 0] := mxI_mem _ _ (by simp)
  have lgt := fun y (hy : y ∈ (mooN j k).on ++ [(eddL j).getD k 0]) => lg_top (j := j) hy
  have fone := filter_one hnd lgm
  have fp := filter_perm hnd lgm
  generalize (eddL j).getD k 0 = x at *
  clear inv inv2 hs1 hs2
  generalize mooN j (k + 1) = S2 at *
  generalize mooN j k = S at *
  obtain ⟨on, sum⟩ := S
  simp only [mStep] at *
  rw [← hd] at stp
  by_cases hle : sum + (jb j x).time ≤ d
  · rw [if_pos hle] at stp
    subst stp
    refine ⟨⟨fun n hn => ?_, fun _ => ⟨by simp, ?_⟩, fun h => absurd (by rw [all]; exact hle) h⟩, hle⟩
    · rw [tl, gN_snoc (by omega), if_pos (by have := mono n (by omega); omega)]
    · rw [tl]
      have := gN_snoc_all (tms j on) (jb j x).time
      rw [ll] at this
      exact this
  · rw [if_neg hle] at stp
    generalize lgJ j (on ++ [x]) = b at *
    generalize hfl : (on ++ [x]).filter (fun y => !decide (y = b)) = on2 at *
    subst stp
    simp only [List.length_append, List.length_singleton] at fone all2
    have dr : ∀ n, n ≤ on.length → gN (tms j on ++ [(jb j x).time]) n = gN (tms j on2) n := fun n hn => by
      rw [← tl]
      refine gN_drop (b := (jb j b).time) ?_ ?_ (by rw [tms_len]; omega)
      · have := fp.map (fun x => (jb j x).time)
        rw [List.map_append] at this
        exact this
      · intro y hy
        obtain ⟨z, hz, rfl⟩ := List.mem_map.1 hy
        rw [← hfl] at hz
        exact lgt z (List.mem_filter.1 hz).1
    have upd : ∀ n, n < on.length → gN (tms j on2) (n + 1) = min (gN (tms j on) (n + 1)) (gN (tms j on) n + (jb j x).time) := fun n hn => by
      rw [← dr (n + 1) (by omega), gN_snoc (by omega)]
    refine ⟨⟨fun n hn => ?_, fun h => absurd (by rw [all] at h; exact h) hle, fun _ => by simp only; omega⟩, ?_⟩
    · rw [upd n hn]
      have := mono (n + 1) (by omega)
      split
      · rfl
      · omega
    · show sum + (jb j x).time - (jb j b).time ≤ d
      have e2 : on2.length = on.length := by omega
      rw [← all2, e2]
      by_cases hz : on.length = 0
      · have := (mono 0 (by omega)).1
        rw [hz, gN_zero]
        rw [gN_zero] at this
        have hm := mono on.length (by omega)
        omega
      · have := upd (on.length - 1) (by omega)
        rw [show on.length - 1 + 1 = on.length by omega] at this
        rw [this, all]
        omega
theorem edd_due {j : List Job} {i k : Nat} (hik : i ≤ k) (hk : k < j.length) : (jb j ((eddL j).getD i 0)).due ≤ (jb j ((eddL j).getD k 0)).due := by
  have := srt_getE (leD_to j) (ms_srt (leD_to j) (l := upI j.length)) hik (by rw [ms_len, upI_len]; exact hk)
  simp only [leD, decide_eq_true_eq] at this
  simp only [jb, eddL]
  omega
theorem moo_due {j : List Job} (hJ : JOk j) : ∀ k, k < j.length → (mooN j k).sum ≤ (jb j ((eddL j).getD k 0)).due
  | 0, hk => by
    have hx := eddL_in hk
    have := hJ.num ((eddL j).getD 0 0).toNat (by omega)
    show (0 : Int) ≤ _
    simp only [jb]; omega
  | k + 1, hk => by
    have ih := moo_due hJ k (by omega)
    have := (moo_step hJ (by omega) rfl ih).2
    have := edd_due (j := j) (i := k) (k := k + 1) (by omega) hk
    omega
end Go.Proofs.Ytmomjannlnafcaa.Abs
namespace Go.Proofs.Ytmomjannlnafcaa.Abs
set_option linter.unusedSimpArgs false
set_option linter.unusedVariables false
open Go.RowKit
open Go.Proofs.Ytmomjannlnafcaa.Sim
open Go.Proofs
set_option maxRecDepth 100000 in
theorem Moore_ok {m : AM} {v : Value} {j : List Job} (hj : Jobs m v j) (hok : jobsB j = true) : ACall Try.prog 60 #[v] m (More (fun M r => ∃ q c, r = .tuple #[.slice q (mooL j).length c, .int .i64 0] ∧ Ints M (.slice q (mooL j).length c) (mooL j)) m) := by
  have hJ := JOk.of hok
  have h40 := hJ.len
  refine ACall.start Try.func60 rfl rfl ?_
  (repeat (first | (with_reducible refine AWo.cons ?_) | ((with_reducible refine Step.id ?_); first | ((with_reducible apply Step.move); exact rfl; exact rfl) | ((with_reducible apply Step.assign); exact rfl; exact rfl) | ((with_reducible apply Step.not); exact rfl; exact rfl) | ((with_reducible apply Step.callR fit); exact rfl; exact Try.func88; exact rfl; exact rfl; exact (jobs_ok (hj.old []) (after_len hJ) (by omega) hok))) | (with_reducible refine AWo.nil ?_) | ((with_reducible apply AW.seq)) | ((with_reducible apply Then.n)) | ((with_reducible apply AW.regL)) | ((with_reducible apply AW.block)) | ((with_reducible apply AW.exit)) | ((with_reducible apply InBlk.n)) | ((with_reducible apply InBlk.hit)) | ((with_reducible apply InBlk.miss); exact rfl) | ((with_reducible apply Then.e)) | ((with_reducible apply AW.skip)) | ((with_reducible apply AW.condT); exact rfl; (focus (first | rfl | (simp only [decide_eq_true_eq, decide_eq_false_iff_not, Bool.not_eq_true', Bool.not_eq_false', Bool.not_true, Bool.not_false]; first | assumption | omega) | (simp; done) | (simp; omega)))) | ((with_reducible apply AW.condF); exact rfl; (focus (first | rfl | (simp only [decide_eq_true_eq, decide_eq_false_iff_not, Bool.not_eq_true', Bool.not_eq_false', Bool.not_true, Bool.not_false]; first | assumption | omega) | (simp; done) | (simp; omega))))))
  ((with_reducible apply Step.callX fit); exact rfl; exact Try.func97; exact rfl; exact rfl; exact (moore_ok (hj.old _) hJ))
  rintro u M hM ⟨hI, q, c, hu⟩
  subst hu
  obtain ⟨N, hN⟩ : ∃ N, M = m ++ N := by obtain ⟨N, rfl⟩ := hM; exact ⟨N, by simp⟩
  subst hN
  (repeat (first | (with_reducible refine AWo.cons ?_) | ((with_reducible refine Step.id ?_); first | ((with_reducible apply Step.move); exact rfl; exact rfl) | ((with_reducible apply Step.assign); exact rfl; exact rfl) | ((with_reducible apply Step.not); exact rfl; exact rfl)) | (with_reducible refine AWo.nil ?_) | ((with_reducible apply AW.seq)) | ((with_reducible apply Then.n)) | ((with_reducible apply AW.regL)) | ((with_reducible apply AW.block)) | ((with_reducible apply AW.exit)) | ((with_reducible apply InBlk.n)) | ((with_reducible apply InBlk.hit)) | ((with_reducible apply InBlk.miss); exact rfl) | ((with_reducible apply Then.e)) | ((with_reducible apply AW.skip)) | ((with_reducible apply AW.condT); exact rfl; (focus (first | rfl | (simp only [decide_eq_true_eq, decide_eq_false_iff_not, Bool.not_eq_true', Bool.not_eq_false', Bool.not_true, Bool.not_false]; first | assumption | omega) | (simp; done) | (simp; omega)))) | ((with_reducible apply AW.condF); exact rfl; (focus (first | rfl | (simp only [decide_eq_true_eq, decide_eq_false_iff_not, Bool.not_eq_true', Bool.not_eq_false', Bool.not_true, Bool.not_false]; first | assumption | omega) | (simp; done) | (simp; omega))))))
  (refine AW.ret ?_; (repeat (first | refine Then.r ?_ | refine InBlk.r ?_)))
  exact ⟨_, rfl, N ++ [], by simp, q, c, rfl, hI.old []⟩
set_option maxRecDepth 100000 in
theorem Moore_no {m : AM} {v : Value} {j : List Job} (hj : Jobs m v j) (hs : Short j) (hok : jobsB j = false) : ACall Try.prog 60 #[v] m (Ret (.tuple #[.slice none 0 0, .int .i64 2]) m) := by
  refine ACall.start Try.func60 rfl rfl ?_
  (repeat (first | (with_reducible refine AWo.cons ?_) | ((with_reducible refine Step.id ?_); first | ((with_reducible apply Step.move); exact rfl; exact rfl) | ((with_reducible apply Step.assign); exact rfl; exact rfl) | ((with_reducible apply Step.not); exact rfl; exact rfl) | ((with_reducible apply Step.callR fit); exact rfl; exact Try.func88; exact rfl; exact rfl; exact (jobs_ok (hj.old []) hs.2 hs.1 hok))) | (with_reducible refine AWo.nil ?_) | ((with_reducible apply AW.seq)) | ((with_reducible apply Then.n)) | ((with_reducible apply AW.regL)) | ((with_reducible apply AW.block)) | ((with_reducible apply AW.exit)) | ((with_reducible apply InBlk.n)) | ((with_reducible apply InBlk.hit)) | ((with_reducible apply InBlk.miss); exact rfl) | ((with_reducible apply Then.e)) | ((with_reducible apply AW.skip)) | ((with_reducible apply AW.condT); exact rfl; (focus (first | rfl | (simp only [decide_eq_true_eq, decide_eq_false_iff_not, Bool.not_eq_true', Bool.not_eq_false', Bool.not_true, Bool.not_false]; first | assumption | omega) | (simp; done) | (simp; omega)))) | ((with_reducible apply AW.condF); exact rfl; (focus (first | rfl | (simp only [decide_eq_true_eq, decide_eq_false_iff_not, Bool.not_eq_true', Bool.not_eq_false', Bool.not_true, Bool.not_false]; first | assumption | omega) | (simp; done) | (simp; omega))))))
  (refine AW.retD (l := [(2, _), (3, _)]) (by repeat (first | exact trivial | (refine And.intro ⟨rfl, by (first | exact .int _ _ | exact Ren.of_gv (by first | (simp; done) | omega | (simp; omega)) | exact .bool _ | exact Ren.of_g0 rfl | exact .slice _ _ _ _ (by first | (simp; done) | omega | (simp; omega)) | exact .ptr _ _ (by first | (simp; done) | omega | (simp; omega)) | exact Ren.of_sl (by assumption) (by first | omega | (simp; omega)))⟩ ?_))) ?_; (repeat (first | refine Then.r ?_ | refine InBlk.r ?_)))
  exact ⟨_, rfl, rfl, rfl⟩
set_option maxRecDepth 100000 in
theorem Punctual_ok {m : AM} {v : Value} {j : List Job} (hj : Jobs m v j) (hok : jobsB j = true) : ACall Try.prog 62 #[v] m (Ret (.tuple #[.int .i64 ((mooL j).length : Nat), .int .i64 0]) m) := by
  have hJ := JOk.of hok
  have h40 := hJ.len
  refine ACall.start Try.func62 rfl rfl ?_
  (repeat (first | (with_reducible refine AWo.cons ?_) | ((with_reducible refine Step.id ?_); first | ((with_reducible apply Step.move); exact rfl; exact rfl) | ((with_reducible apply Step.assign); exact rfl; exact rfl) | ((with_reducible apply Step.len); exact rfl; (focus (first | assumption | exact Sl.mk (by omega) | exact gv_sl _ _ | exact Sl.nil _ _ | exact Sl.nil 0 0)); (focus (decide +kernel)); exact rfl) | ((with_reducible apply Step.not); exact rfl; exact rfl) | ((with_reducible apply Step.callR fit); exact rfl; exact Try.func88; exact rfl; exact rfl; exact (jobs_ok (hj.old []) (after_len hJ) (by omega) hok))) | (with_reducible refine AWo.nil ?_) | ((with_reducible apply AW.seq)) | ((with_reducible apply Then.n)) | ((with_reducible apply AW.regL)) | ((with_reducible apply AW.block)) | ((with_reducible apply AW.exit)) | ((with_reducible apply InBlk.n)) | ((with_reducible apply InBlk.hit)) | ((with_reducible apply InBlk.miss); exact rfl) | ((with_reducible apply Then.e)) | ((with_reducible apply AW.skip)) | ((with_reducible apply AW.condT); exact rfl; (focus (first | rfl | (simp only [decide_eq_true_eq, decide_eq_false_iff_not, Bool.not_eq_true', Bool.not_eq_false', Bool.not_true, Bool.not_false]; first | assumption | omega) | (simp; done) | (simp; omega)))) | ((with_reducible apply AW.condF); exact rfl; (focus (first | rfl | (simp only [decide_eq_true_eq, decide_eq_false_iff_not, Bool.not_eq_true', Bool.not_eq_false', Bool.not_true, Bool.not_false]; first | assumption | omega) | (simp; done) | (simp; omega))))))
  ((with_reducible apply Step.callX fit); exact rfl; exact Try.func97; exact rfl; exact rfl; exact (moore_ok (hj.old _) hJ))
  rintro u M hM ⟨hI, q, c, hu⟩
  obtain ⟨wa, wo, w1, w2, w3⟩ := id hI
  obtain ⟨N, hN⟩ : ∃ N, M = m ++ N := by obtain ⟨N, rfl⟩ := hM; exact ⟨N, by simp⟩
  subst hN
  (repeat (first | (with_reducible refine AWo.cons ?_) | ((with_reducible refine Step.id ?_); first | ((with_reducible apply Step.move); exact rfl; exact rfl) | ((with_reducible apply Step.assign); exact rfl; exact rfl) | ((with_reducible apply Step.len); exact rfl; (focus (first | assumption | exact Sl.mk (by omega) | exact gv_sl _ _ | exact Sl.nil _ _ | exact Sl.nil 0 0)); (focus (decide +kernel)); exact rfl) | ((with_reducible apply Step.not); exact rfl; exact rfl)) | (with_reducible refine AWo.nil ?_) | ((with_reducible apply AW.seq)) | ((with_reducible apply Then.n)) | ((with_reducible apply AW.regL)) | ((with_reducible apply AW.block)) | ((with_reducible apply AW.exit)) | ((with_reducible apply InBlk.n)) | ((with_reducible apply InBlk.hit)) | ((with_reducible apply InBlk.miss); exact rfl) | ((with_reducible apply Then.e)) | ((with_reducible apply AW.skip)) | ((with_reducible apply AW.condT); exact rfl; (focus (first | rfl | (simp only [decide_eq_true_eq, decide_eq_false_iff_not, Bool.not_eq_true', Bool.not_eq_false', Bool.not_true, Bool.not_false]; first | assumption | omega) | (simp; done) | (simp; omega)))) | ((with_reducible apply AW.condF); exact rfl; (focus (first | rfl | (simp only [decide_eq_true_eq, decide_eq_false_iff_not, Bool.not_eq_true', Bool.not_eq_false', Bool.not_true, Bool.not_false]; first | assumption | omega) | (simp; done) | (simp; omega))))))
  (refine AW.retX (l := [(2, _), (3, _)]) rfl (by repeat (first | exact trivial | (refine And.intro ⟨rfl, by (first | exact .int _ _ | exact Ren.of_gv (by first | (simp; done) | omega | (simp; omega)) | exact .bool _ | exact Ren.of_g0 rfl | exact .slice _ _ _ _ (by first | (simp; done) | omega | (simp; omega)) | exact .ptr _ _ (by first | (simp; done) | omega | (simp; omega)) | exact Ren.of_sl (by assumption) (by first | omega | (simp; omega)))⟩ ?_))) ?_; (repeat (first | refine Then.r ?_ | refine InBlk.r ?_)))
  exact ⟨_, rfl, rfl, rfl⟩
set_option maxRecDepth 100000 in
theorem Punctual_no {m : AM} {v : Value} {j : List Job} (hj : Jobs m v j) (hs : Short j) (hok : jobsB j = false) : ACall Try.prog 62 #[v] m (Ret (.tuple #[.int .i64 0, .int .i64 2]) m) := by
  refine ACall.start Try.func62 rfl rfl ?_
  (repeat (first | (with_reducible refine AWo.cons ?_) | ((with_reducible refine Step.id ?_); first | ((with_reducible apply Step.move); exact rfl; exact rfl) | ((with_reducible apply Step.assign); exact rfl; exact rfl) | ((with_reducible apply Step.len); exact rfl; (focus (first | assumption | exact Sl.mk (by omega) | exact gv_sl _ _ | exact Sl.nil _ _ | exact Sl.nil 0 0)); (focus (decide +kernel)); exact rfl) | ((with_reducible apply Step.not); exact rfl; exact rfl) | ((with_reducible apply Step.callR fit); exact rfl; exact Try.func88; exact rfl; exact rfl; exact (jobs_ok (hj.old []) hs.2 hs.1 hok))) | (with_reducible refine AWo.nil ?_) | ((with_reducible apply AW.seq)) | ((with_reducible apply Then.n)) | ((with_reducible apply AW.regL)) | ((with_reducible apply AW.block)) | ((with_reducible apply AW.exit)) | ((with_reducible apply InBlk.n)) | ((with_reducible apply InBlk.hit)) | ((with_reducible apply InBlk.miss); exact rfl) | ((with_reducible apply Then.e)) | ((with_reducible apply AW.skip)) | ((with_reducible apply AW.condT); exact rfl; (focus (first | rfl | (simp only [decide_eq_true_eq, decide_eq_false_iff_not, Bool.not_eq_true', Bool.not_eq_false', Bool.not_true, Bool.not_false]; first | assumption | omega) | (simp; done) | (simp; omega)))) | ((with_reducible apply AW.condF); exact rfl; (focus (first | rfl | (simp only [decide_eq_true_eq, decide_eq_false_iff_not, Bool.not_eq_true', Bool.not_eq_false', Bool.not_true, Bool.not_false]; first | assumption | omega) | (simp; done) | (simp; omega))))))
  (refine AW.retD (l := [(2, _), (3, _)]) (by repeat (first | exact trivial | (refine And.intro ⟨rfl, by (first | exact .int _ _ | exact Ren.of_gv (by first | (simp; done) | omega | (simp; omega)) | exact .bool _ | exact Ren.of_g0 rfl | exact .slice _ _ _ _ (by first | (simp; done) | omega | (simp; omega)) | exact .ptr _ _ (by first | (simp; done) | omega | (simp; omega)) | exact Ren.of_sl (by assumption) (by first | omega | (simp; omega)))⟩ ?_))) ?_; (repeat (first | refine Then.r ?_ | refine InBlk.r ?_)))
  exact ⟨_, rfl, rfl, rfl⟩
end Go.Proofs.Ytmomjannlnafcaa.Abs
namespace Go.Proofs.Ytmomjannlnafcaa.Abs
set_option linter.unusedSimpArgs false
set_option linter.unusedVariables false
open Go.RowKit
open Go.Proofs.Ytmomjannlnafcaa.Sim
open Go.Proofs
section
variable (j : List Two)
def aI (x : Int) : Int := (j.getD x.toNat default).cut
def bI (x : Int) : Int := (j.getD x.toNat default).sew
def sB (l : List Int) : Int := sumI (l.map (bI j))
/-- The span of a row of jobs. -/
def tS : List Int → Int
  | [] => 0
  | x :: l => max (aI j x + bI j x + sB j l) (aI j x + tS l)
end
section
variable {j : List Two}
/-- Insertion into a sorted row. -/
def ins (j : List Two) (x : Int) : List Int → List Int
  | [] => [x]
  | y :: l => if leJ j x y then x :: y :: l else y :: ins j x l
theorem order_perm {l : List Int} {n : Nat} (h : orderB l n = true) : l.Perm (upI n) := by
  simp only [orderB, Bool.and_eq_true, decide_eq_true_eq] at h
  have := (List.mergeSort_perm l (fun x y => decide (x ≤ y))).symm
  have e := h.2
  unfold srt at e
  rwa [e] at this
end
end Go.Proofs.Ytmomjannlnafcaa.Abs
namespace Go.Proofs.Ytmomjannlnafcaa.Abs
set_option linter.unusedSimpArgs false
set_option linter.unusedVariables false
/-- Each of a list, by due, ends in time. -/
def feas (j : List Job) (T : List Int) : Prop := ∀ x ∈ T, (tms j (T.filter fun y => leD j y x)).sum ≤ (jb j x).due
def NN (j : List Job) (T : List Int) : Prop := ∀ x ∈ T, 0 ≤ (jb j x).time
theorem NN.of {j : List Job} (hJ : JOk j) {T : List Int} (h : ∀ x ∈ T, 0 ≤ x ∧ x < j.length) : NN j T := fun x hx => by
  have := h x hx
  have := hJ.num x.toNat (by omega)
  simp only [jb]; omega
theorem NN.sum {j : List Job} : ∀ {T : List Int}, NN j T → 0 ≤ (tms j T).sum
  | [], _ => by simp [tms]
  | x :: T, h => by
    have := NN.sum (T := T) fun y hy => h y (List.mem_cons_of_mem _ hy)
    have := h x (List.mem_cons_self ..)
    simp only [tms, List.map_cons, List.sum_cons] at *; omega
theorem NN.filter {j : List Job} (q : Int → Bool) : ∀ {T : List Int}, NN j T → (tms j (T.filter q)).sum ≤ (tms j T).sum
  | [], _ => by simp [tms]
  | x :: T, h => by
    have ih := NN.filter (T := T) q fun y hy => h y (List.mem_cons_of_mem _ hy)
    have := h x (List.mem_cons_self ..)
    rw [List.filter_cons]
    split <;> (simp only [tms, List.map_cons, List.sum_cons] at *; omega)
theorem NN.sub {j : List Job} {T : List Int} (h : NN j T) (q : Int → Bool) : NN j (T.filter q) := fun x hx => h x (List.mem_filter.1 hx).1
theorem feas_filter {j : List Job} {T : List Int} (hn : NN j T) (h : feas j T) (q : Int → Bool) : feas j (T.filter q) := fun x hx => by
  have h1 := h x (List.mem_filter.1 hx).1
  have h2 := (hn.sub (fun y => leD j y x)).filter q
  rw [List.filter_filter] at h2 ⊢
  have : (fun a => leD j a x && q a) = fun a => q a && leD j a x := by funext a; exact Bool.and_comm _ _
  rw [this]; omega
theorem feas_perm {j : List Job} {T U : List Int} (hp : T.Perm U) (h : feas j T) : feas j U := fun x hx => by
  have h1 := h x (hp.mem_iff.2 hx)
  have h2 := perm_sum ((hp.filter fun y => leD j y x).map fun y => (jb j y).time)
  simp only [tms] at *; omega
theorem leD_refl (j : List Job) (x : Int) : leD j x x = true := by simp [leD]
theorem leD_due {j : List Job} {x y : Int} (h : leD j x y = true) : (jb j x).due ≤ (jb j y).due := by
  simp only [leD, decide_eq_true_eq] at h
  simp only [jb]; omega
theorem edd_le {j : List Job} {k : Nat} (hk : k < j.length) {y : Int} (hy : y ∈ (eddL j).take (k + 1)) : leD j y ((eddL j).getD k 0) = true := by
  obtain ⟨i, hi, rfl⟩ := List.getElem_of_mem hy
  simp only [List.length_take] at hi
  rw [List.getElem_take]
  have := srt_getE (leD_to j) (ms_srt (leD_to j) (l := upI j.length)) (i := i) (j := k) (by omega) (by rw [ms_len, upI_len]; exact hk)
  rw [List.getD_eq_getElem?_getD, List.getElem?_eq_getElem (by rw [ms_len, upI_len]; omega), Option.getD_some] at this
  exact this
theorem edd_take {j : List Job} {k : Nat} (hk : k < j.length) : (eddL j).take (k + 1) = (eddL j).take k ++ [(eddL j).getD k 0] := take_snoc (eddL j) k 0 (by rw [eddL_len]; omega)
theorem take_in {j : List Job} {k : Nat} {x : Int} (h : x ∈ (eddL j).take k) : 0 ≤ x ∧ x < j.length := eddL_mem.1 (List.mem_of_mem_take h)
/-- No feasible set of the first ones is greater, nor as short. -/
theorem moo_best {j : List Job} (hJ : JOk j) : ∀ k, k ≤ j.length → ∀ T : List Int, T.Nodup → (∀ x ∈ T, x ∈ (eddL j).take k) → feas j T →
    T.length ≤ (mooN j k).on.length ∧ gN (tms j (mooN j k).on) T.length ≤ (tms j T).sum
  | 0, _, T, _, hT, _ => by
    cases T with
    | nil => simp [gN_zero, tms]
    | cons x T => have := hT x (List.mem_cons_self ..); simp at this
  | k + 1, hk, T, hnd, hT, hf => by
    have ih := moo_best hJ k (by omega)
    obtain ⟨st, _⟩ := moo_step hJ (k := k) hk rfl (moo_due hJ k hk)
    have ts := edd_take (j := j) hk
    have hnn : NN j T := .of hJ fun x hx => take_in (hT x hx)
    have hle := fun y hy => edd_le hk (hT y hy)
    have lens : (mooN j k).on.length ≤ (mooN j (k + 1)).on.length := by
      by_cases h : gN (tms j (mooN j k).on) (mooN j k).on.length + (jb j ((eddL j).getD k 0)).time ≤ (jb j ((eddL j).getD k 0)).due
      · have := (st.more h).1; omega
      · have := st.same h; omega
    generalize (eddL j).getD k 0 = x at *
    by_cases hx : x ∈ T
    · have hp := filter_perm hnd hx
      have hlen := hp.length_eq
      simp only [List.length_append, List.length_singleton] at hlen
      have hsum := perm_sum (hp.map fun y => (jb j y).time)
      rw [List.map_append, List.sum_append] at hsum
      simp only [List.map_cons, List.map_nil, List.sum_cons, List.sum_nil] at hsum
      have hd := hf x hx
      rw [List.filter_eq_self.2 (fun y hy => hle y hy)] at hd
      obtain ⟨i1, i2⟩ := ih (T.filter fun y => !decide (y = x)) (hnd.filter _) (fun y hy => by
        obtain ⟨h1, h2⟩ := List.mem_filter.1 hy
        have := hT y h1
        rw [ts] at this
        rcases List.mem_append.1 this with h | h
        · exact h
        · simp at h h2; exact absurd h h2) (feas_filter hnn hf _)
      have e1 : (tms j (T.filter fun y => !decide (y = x))).sum + (jb j x).time = (tms j T).sum := by simp only [tms]; omega
      generalize (T.filter fun y => !decide (y = x)) = T0 at *
      rw [← hlen]
      by_cases hc : T0.length < (mooN j k).on.length
      · have := st.upd _ hc
        refine ⟨by omega, ?_⟩
        rw [this, if_pos (by omega)]
        omega
      · have e : T0.length = (mooN j k).on.length := by omega
        rw [e] at i2 ⊢
        obtain ⟨m1, m2⟩ := st.more (by omega)
        exact ⟨by omega, by rw [m2]; omega⟩
    · obtain ⟨i1, i2⟩ := ih T hnd (fun y hy => by
        have := hT y hy
        rw [ts] at this
        rcases List.mem_append.1 this with h | h
        · exact h
        · simp at h; exact absurd (h ▸ hy) hx) hf
      refine ⟨by omega, ?_⟩
      cases hn : T.length with
      | zero => rw [hn] at i2; simpa [gN_zero] using i2
      | succ n =>
        rw [hn] at i1 i2
        have := st.upd n (by omega)
        rw [this]
        split <;> omega
/-- What Moore's rule leaves is feasible. -/
theorem moo_feas {j : List Job} (hJ : JOk j) : ∀ k, k ≤ j.length → feas j (mooN j k).on
  | 0, _ => fun x hx => by simp [mooN] at hx
  | k + 1, hk => by
    have ih := moo_feas hJ k (by omega)
    have hd := (moo_step hJ (k := k) hk rfl (moo_due hJ k hk)).2
    have inv := mooN_inv j k (by omega)
    have inv2 := mooN_inv j (k + 1) hk
    have hnew := take_new (k := k) hk inv.mem
    have hle := fun y hy => edd_le (j := j) hk (y := y) hy
    have ts := edd_take (j := j) hk
    have hnn : NN j ((mooN j k).on ++ [(eddL j).getD k 0]) := .of hJ fun y hy => by
      rcases List.mem_append.1 hy with h | h
      · exact take_in (inv.mem y h)
      · simp at h; exact h ▸ eddL_in hk
    have stp : mooN j (k + 1) = mStep j (mooN j k) ((eddL j).getD k 0) := rfl
    obtain ⟨q, hq⟩ : ∃ q : Int → Bool, (mooN j (k + 1)).on = ((mooN j k).on ++ [(eddL j).getD k 0]).filter q := by
      rw [stp, mStep]
      split
      · exact ⟨fun _ => true, (List.filter_eq_self.2 fun _ _ => rfl).symm⟩
      · exact ⟨_, rfl⟩
    have s2 := inv2.sum
    rw [sumJ_tms] at s2
    have hnn2 : NN j (mooN j (k + 1)).on := .of hJ fun y hy => take_in (inv2.mem y hy)
    have hm := inv.mem
    intro y hy
    generalize (eddL j).getD k 0 = x at *
    generalize (mooN j (k + 1)) = S2 at *
    by_cases hyx : y = x
    · subst hyx
      have := hnn2.filter (fun z => leD j z y)
      omega
    · rw [hq] at hy ⊢
      have hy1 := (List.mem_filter.1 hy).1
      have hyo : y ∈ (mooN j k).on := by
        rcases List.mem_append.1 hy1 with h | h
        · exact h
        · simp at h; exact absurd h hyx
      have h1 := ih y hyo
      have hyx' := hle y (by rw [ts]; exact List.mem_append.2 (.inl (hm y hyo)))
      have hxy : leD j x y = false := by
        cases h : leD j x y with
        | false => rfl
        | true => exact absurd ((leD_to j).an _ _ hyx' h) hyx
      have h2 := (hnn.sub (fun z => leD j z y)).filter q
      rw [List.filter_append, show [x].filter (fun z => leD j z y) = [] by simp [hxy], List.append_nil] at h2
      have e : (((mooN j k).on ++ [x]).filter q).filter (fun z => leD j z y) = ((mooN j k).on.filter (fun z => leD j z y)).filter q := by
        have : (((mooN j k).on ++ [x]).filter q).filter (fun z => leD j z y) = (((mooN j k).on ++ [x]).filter (fun z => leD j z y)).filter q := by
          rw [List.filter_filter, List.filter_filter]; congr 1; funext a; exact Bool.and_comm _ _
        rw [this, List.filter_append, show [x].filter (fun z => leD j z y) = [] by simp [hxy], List.append_nil]
      rw [e]; omega
/-- The punctual ones of a list that begins at t. -/
def punL (j : List Job) : List Int → Int → List Int
  | [], _ => []
  | x :: r, t => if t + (jb j x).time ≤ (jb j x).due then x :: punL j r (t + (jb j x).time) else punL j r (t + (jb j x).time)
theorem punL_snoc {j : List Job} (x : Int) : ∀ (l : List Int) (t : Int), punL j (l ++ [x]) t = punL j l t ++ if t + (tms j l).sum + (jb j x).time ≤ (jb j x).due then [x] else []
  | [], t => by simp [punL, tms]
  | y :: l, t => by
    have e : t + (jb j y).time + (tms j l).sum = t + (tms j (y :: l)).sum := by simp [tms]; omega
    simp only [List.cons_append, punL]
    rw [punL_snoc x l, e]
    split <;> simp
theorem punL_sub {j : List Job} : ∀ (l : List Int) (t : Int), (punL j l t).Sublist l
  | [], _ => by simp [punL]
  | x :: r, t => by
    simp only [punL]
    split
    · exact (punL_sub r _).cons_cons x
    · exact (punL_sub r _).cons x
theorem punL_q {j : List Job} (q : Int → Bool) (D : Int) : ∀ (l : List Int) (t : Int), NN j l → (∀ y ∈ punL j l t, q y = true → (jb j y).due ≤ D) → (∃ y ∈ punL j l t, q y = true) → t + (tms j ((punL j l t).filter q)).sum ≤ D
  | [], _, _, _, ⟨y, hy, _⟩ => by simp [punL] at hy
  | x :: r, t, hn, hd, he => by
    have ih := punL_q q D r (t + (jb j x).time) fun y hy => hn y (List.mem_cons_of_mem _ hy)
    have hx := hn x (List.mem_cons_self ..)
    simp only [punL] at hd he ⊢
    split at hd
    · rename_i hp
      rw [if_pos hp] at he ⊢
      have hd' := fun y hy => hd y (List.mem_cons_of_mem _ hy)
      have ih := ih hd'
      cases hq : q x with
      | true =>
        rw [List.filter_cons_of_pos hq]
        by_cases hz : ∃ y ∈ punL j r (t + (jb j x).time), q y = true
        · have := ih hz
          simp only [tms, List.map_cons, List.sum_cons] at *; omega
        · have e : (punL j r (t + (jb j x).time)).filter q = [] := by
            rw [List.filter_eq_nil_iff]
            exact fun y hy h => hz ⟨y, hy, h⟩
          rw [e]
          have := hd x (List.mem_cons_self ..) hq
          simp only [tms, List.map_cons, List.sum_cons, List.map_nil, List.sum_nil]; omega
      | false =>
        rw [List.filter_cons_of_neg (by simp [hq])]
        have := ih (by
          obtain ⟨y, h1, h2⟩ := he
          rcases List.mem_cons.1 h1 with rfl | h1
          · rw [hq] at h2; cases h2
          · exact ⟨y, h1, h2⟩)
        omega
    · rename_i hp
      rw [if_neg hp] at he ⊢
      have := ih hd he
      omega
theorem punL_feas {j : List Job} {l : List Int} (hn : NN j l) : feas j (punL j l 0) := fun x hx => by
  have := punL_q (fun y => leD j y x) (jb j x).due l 0 hn (fun y _ h => leD_due h) ⟨x, hx, leD_refl j x⟩
  omega
/-- No order has more punctual jobs. -/
theorem pun_le {j : List Job} (hJ : JOk j) {l : List Int} (ho : orderB l j.length = true) : (punL j l 0).length ≤ (mooL j).length := by
  have hp := order_perm ho
  have hin : ∀ x ∈ l, 0 ≤ x ∧ x < j.length := fun x hx => mem_upI.1 (hp.mem_iff.1 hx)
  have hnd : l.Nodup := hp.nodup_iff.2 (upI_nodup _)
  have := (moo_best hJ j.length (Nat.le_refl _) (punL j l 0) (hnd.sublist (punL_sub l 0)) (fun x hx => by
    rw [List.take_of_length_le (by rw [eddL_len]; exact Nat.le_refl _)]
    exact eddL_mem.2 (hin x ((punL_sub l 0).subset hx))) (punL_feas (.of hJ hin))).1
  rw [mooL, srt_len]; exact this
/-- What is left is punctual by due. -/
theorem moo_end {j : List Job} (hJ : JOk j) : feas j (mooL j) := feas_perm (List.mergeSort_perm _ _).symm (moo_feas hJ j.length (Nat.le_refl _))
end Go.Proofs.Ytmomjannlnafcaa.Abs
namespace Go.Proofs.Ytmomjannlnafcaa.Abs
set_option linter.unusedSimpArgs false
set_option linter.unusedVariables false
open Go.RowKit
open Go.Proofs.Ytmomjannlnafcaa.Sim
open Go.Proofs
theorem tms_bd {j : List Job} (hJ : JOk j) : ∀ {T : List Int}, (∀ x ∈ T, 0 ≤ x ∧ x < j.length) → 0 ≤ (tms j T).sum ∧ (tms j T).sum ≤ 10000 * T.length
  | [], _ => by simp [tms]
  | x :: T, h => by
    have ih := tms_bd hJ (T := T) fun y hy => h y (List.mem_cons_of_mem _ hy)
    have hx := h x (List.mem_cons_self ..)
    have := hJ.num x.toNat (by omega)
    simp only [tms, List.map_cons, List.sum_cons, List.length_cons, jb] at *; omega
theorem tms_flt {j : List Job} {S : List Int} {i : Nat} (x : Int) (h : i < S.length) : (tms j ((S.take (i + 1)).filter fun y => leD j y x)).sum = (tms j ((S.take i).filter fun y => leD j y x)).sum + if leD j (S.getD i 0) x = true then (jb j (S.getD i 0)).time else 0 := by
  rw [take_snoc S i 0 h, List.filter_append]
  generalize S.getD i 0 = y
  by_cases h : leD j y x = true
  · rw [if_pos h, show [y].filter (fun y => leD j y x) = [y] by simp [h]]; simp [tms]
  · rw [if_neg h, show [y].filter (fun y => leD j y x) = [] by simp [h]]; simp [tms]
set_option maxHeartbeats 4000000 in
set_option maxRecDepth 100000 in
theorem BenchPunctual_ok {m : AM} {v lv : Value} {j : List Job} {l : List Int} (hj : Jobs m v j) (hs : Short j) (hl : Ints m lv l) (hll : l.length ≤ 9223372036854775807) : ACall Try.prog 18 #[v, lv] m (Ret (.bool true) m) := by
  obtain ⟨a, o, h1, h2, h3⟩ := id hj
  refine ACall.start Try.func18 rfl rfl ?_
  (repeat (first | (with_reducible refine AWo.cons ?_) | ((with_reducible refine Step.id ?_); first | ((with_reducible apply Step.move); exact rfl; exact rfl) | ((with_reducible apply Step.assign); exact rfl; exact rfl)) | (with_reducible refine AWo.nil ?_) | ((with_reducible apply AW.seq)) | ((with_reducible apply Then.n)) | ((with_reducible apply AW.regL))))
  ((with_reducible apply Step.callX fit); exact rfl; exact Try.func34; exact rfl; exact rfl; exact (f34_ok (hj.old []) hs))
  intro v1 M1 hM1 hJ1
  obtain ⟨N1, hN1⟩ : ∃ N, M1 = m ++ N := by obtain ⟨N, rfl⟩ := hM1; exact ⟨N, by simp⟩
  have hj1 : Jobs M1 v j := by rw [hN1]; exact hj.old N1
  cases hok : jobsB j with
  | true =>
    have hJ := JOk.of hok
    have h40 := hJ.len
    rw [conv_self hok] at hJ1
    have hml : (mooL j).length = (mooN j j.length).on.length := srt_len _
    have hlm : (mooL j).length ≤ 40 := by have := (mooN_inv j j.length (Nat.le_refl _)).len; omega
    (repeat (first | (with_reducible refine AWo.cons ?_) | ((with_reducible refine Step.id ?_); first | ((with_reducible apply Step.move); exact rfl; exact rfl) | ((with_reducible apply Step.assign); exact rfl; exact rfl) | ((with_reducible apply Step.extract); exact rfl; exact rfl; exact rfl) | ((with_reducible apply Step.callR fit); exact rfl; exact Try.func62; exact rfl; exact rfl; exact (Punctual_ok (hJ1.old _) hok))) | (with_reducible refine AWo.nil ?_) | ((with_reducible apply AW.seq)) | ((with_reducible apply Then.n)) | ((with_reducible apply AW.regL))))
    ((with_reducible apply Step.callX fit); exact rfl; exact Try.func34; exact rfl; exact rfl; exact (f34_ok (hj1.old _) hs))
    intro v2 M2 hM2 hJ2
    rw [conv_self hok] at hJ2
    obtain ⟨N2, hN2⟩ : ∃ N, M2 = m ++ N := by obtain ⟨N, rfl⟩ := hM2; exact ⟨N1 ++ N, by rw [hN1]; simp⟩
    (repeat ((with_reducible refine AWo.cons ?_)))
    ((with_reducible apply Step.callX fit); exact rfl; exact Try.func60; exact rfl; exact rfl; exact (Moore_ok (hJ2.old _) hok))
    rintro u M3 hM3 ⟨q, c, rfl, hI⟩
    obtain ⟨N3, hN3⟩ : ∃ N, M3 = m ++ N := by obtain ⟨N, rfl⟩ := hM3; exact ⟨N2 ++ N, by rw [hN2]; simp⟩
    have hj3 : Jobs M3 v j := by rw [hN3]; exact hj.old N3
    have hl3 : Ints M3 lv l := by rw [hN3]; exact hl.old N3
    clear hN1 hN2 hJ1 hJ2 hM1 hM2 hM3 hj1
    have hend := moo_end hJ
    have hSin : ∀ x ∈ mooL j, 0 ≤ x ∧ x < j.length := fun x hx => by
      have := (mooN_inv j j.length (Nat.le_refl _)).mem x ((List.mergeSort_perm _ _).mem_iff.1 hx)
      exact take_in this
    have hpun := fun h => pun_le hJ (l := l) h
    generalize mooL j = S at *
    clear hml
    obtain ⟨a3, o3, p1, p2, p3⟩ := id hj3
    obtain ⟨la, lo, l1, l2, l3⟩ := id hl3
    obtain ⟨sa, so, s1, s2, s3⟩ := id hI
    obtain ⟨ob, ho⟩ : ∃ b, orderB l j.length = b := ⟨_, rfl⟩
    (repeat (first | (with_reducible refine AWo.cons ?_) | ((with_reducible refine Step.id ?_); first | ((with_reducible apply Step.gdT); exact rfl; exact rfl; (focus (rfl))) | ((with_reducible apply Step.move); exact rfl; exact rfl) | ((with_reducible apply Step.assign); exact rfl; exact rfl) | ((with_reducible apply Step.neq); exact rfl; exact rfl; exact rfl) | ((with_reducible apply Step.len); exact rfl; (focus (assumption)); (focus (decide +kernel)); exact rfl) | ((with_reducible apply Step.not); exact rfl; exact rfl) | ((with_reducible apply Step.extract); exact rfl; exact rfl; exact rfl) | ((with_reducible apply Step.pickF); exact rfl; exact rfl; exact rfl; exact rfl; (focus (rfl))) | ((with_reducible apply Step.callR fit); exact rfl; exact Try.func44; exact rfl; exact rfl; exact (RJobs_ok (hj3.old _) hs.2 hs.1 hok)) | ((with_reducible apply Step.callR fit); exact rfl; exact Try.func55; exact rfl; exact rfl; exact (ROrder_ok j.length (hl3.old _) (by omega) hll ho))) | (with_reducible refine AWo.nil ?_) | ((with_reducible apply AW.seq)) | ((with_reducible apply Then.n)) | ((with_reducible apply AW.regL)) | ((with_reducible apply AW.skip)) | ((with_reducible apply AW.condF); exact rfl; (focus (first | rfl | (simp; done))))))
    refine AW.join (fun t M => ∃ p : Nat, p ≤ S.length ∧ All (fun i v => t i = some v) [(0, v), (5, .int .i64 (S.length : Nat)), (7, .slice q S.length c), (10, .int .i64 (p : Nat))] ∧ M = M3 ++ []) ?_ ?_
    · cases ob with
      | false =>
        (repeat (first | ((with_reducible apply Then.n)) | ((with_reducible apply AW.skip)) | ((with_reducible apply AW.condF); exact rfl; (focus (rfl)))))
        exact ⟨0, Nat.zero_le _, (by repeat (first | exact trivial | (refine And.intro rfl ?_))), rfl⟩
      | true =>
        have hp := order_perm ho
        have hin : ∀ x ∈ l, 0 ≤ x ∧ x < j.length := fun x hx => mem_upI.1 (hp.mem_iff.1 hx)
        have hlen : l.length = j.length := (orderB_iff.1 ho).1
        have hple := hpun ho
        (repeat (first | (with_reducible refine AWo.cons ?_) | ((with_reducible refine Step.id ?_); first | ((with_reducible apply Step.move); exact rfl; exact rfl) | ((with_reducible apply Step.len); exact rfl; (focus (assumption)); (focus (decide +kernel)); exact rfl)) | (with_reducible refine AWo.nil ?_) | ((with_reducible apply AW.seq)) | ((with_reducible apply Then.n)) | ((with_reducible apply AW.regL)) | ((with_reducible apply AW.block)) | ((with_reducible apply AW.condT); exact rfl; (focus (rfl)))))
        refine AW.loopW (fun n' t M' => ∃ k : Nat, n' = l.length - k ∧ k ≤ l.length ∧ M' = M3 ++ [] ∧
          t = fr [(0, v), (5, .int .i64 (S.length : Nat)), (7, .slice q S.length c), (9, .int .i64 (tms j (l.take k)).sum), (10, .int .i64 ((punL j (l.take k) 0).length : Nat)), (58, lv), (59, .int .i64 (l.length : Nat)), (60, .int .i64 (k : Nat))]) ⟨_, [(0, v), (5, .int .i64 (S.length : Nat)), (7, .slice q S.length c), (9, .int .i64 0), (10, .int .i64 0), (58, lv), (59, .int .i64 (l.length : Nat)), (60, .int .i64 ((0 : Nat) : Int))], (by repeat (first | exact trivial | (refine And.intro rfl ?_))), 0, rfl, Nat.zero_le _, rfl, rfl⟩ ?_
        rintro n' t M' ⟨k, rfl, hk, rfl, rfl⟩
        rcases Nat.lt_or_ge k l.length with hlt | hge
        · have hx := hin _ (mem_getD' hlt)
          have hrl := fun L => (l3 k hlt).old L
          have ts := take_snoc l k 0 hlt
          have e1 : (tms j (l.take (k + 1))).sum = (tms j (l.take k)).sum + (jb j (l.getD k 0)).time := by rw [ts]; simp [tms]
          have e2 := punL_snoc (j := j) (l.getD k 0) (l.take k) 0
          rw [← ts, Int.zero_add] at e2
          have e3 : (tms j (l.take k)).sum + (jb j (l.getD k 0)).time ≤ (jb j (l.getD k 0)).due → (punL j (l.take (k + 1)) 0).length = (punL j (l.take k) 0).length + 1 := fun h => by rw [e2, if_pos h]; simp
          have e4 : ¬ (tms j (l.take k)).sum + (jb j (l.getD k 0)).time ≤ (jb j (l.getD k 0)).due → (punL j (l.take (k + 1)) 0).length = (punL j (l.take k) 0).length := fun h => by rw [e2, if_neg h]; simp
          clear e2
          have b1 := tms_bd hJ (T := l.take k) fun x hx => hin x (List.mem_of_mem_take hx)
          have b2 : (l.take k).length ≤ 40 := by rw [List.length_take]; omega
          generalize l.getD k 0 = x at *
          obtain ⟨x, rfl⟩ := Int.eq_ofNat_of_zero_le hx.1
          have hxn : x < j.length := by omega
          obtain ⟨w, hr, hw⟩ := p3 x hxn
          have hnum := hJ.num x hxn
          have fx0 : ∀ L : AM, Rd (M3 ++ L) a3 (o3 + x * 4 + 0) (.int .i64 (j.getD x default).time) := fun L => (hr.old L).at_ 0 rfl
          have fx1 : ∀ L : AM, Rd (M3 ++ L) a3 (o3 + x * 4 + 1) (.int .i64 (j.getD x default).due) := fun L => (hr.old L).at_ 1 rfl
          clear hr hw
          simp only [jb, Int.toNat_natCast] at e1 e3 e4
          generalize (j.getD x default).time = tx at *
          generalize (j.getD x default).due = dx at *
          generalize (tms j (l.take k)).sum = s at *
          have b3 : (punL j (l.take k) 0).length ≤ 40 := Nat.le_trans (punL_sub _ _).length_le b2
          generalize (punL j (l.take k) 0).length = c1 at *
          clear ts
          by_cases hle : s + tx ≤ dx
          · replace e3 := e3 hle
            (repeat (first | (with_reducible refine AWo.cons ?_) | ((with_reducible refine Step.id ?_); first | ((with_reducible apply Step.move); exact rfl; exact rfl) | ((with_reducible apply Step.assign); exact rfl; exact rfl) | ((with_reducible apply Step.load); exact rfl; (focus (decide +kernel)); exact rfl; (focus (first | exact hrl _ | exact fx0 _ | exact fx1 _))) | ((with_reducible apply Step.ix1); exact rfl; (focus (assumption)); exact rfl; (focus (decide +kernel)); exact rfl; (focus (omega))) | ((with_reducible apply Step.ix (s := 4)); exact rfl; (focus (assumption)); exact rfl; (focus (decide +kernel)); exact rfl; (focus (omega))) | ((with_reducible apply Step.field0); exact rfl; (focus (decide +kernel)); exact rfl) | ((with_reducible apply Step.field (k := 1)); exact rfl; (focus (decide +kernel)); exact rfl) | ((with_reducible apply Step.add); exact rfl; exact rfl; (focus (omega)); exact rfl) | ((with_reducible apply Step.lss); exact rfl; exact rfl; exact rfl) | ((with_reducible apply Step.leq); exact rfl; exact rfl; exact rfl)) | (with_reducible refine AWo.nil ?_) | ((with_reducible apply AW.seq)) | ((with_reducible apply Then.n)) | ((with_reducible apply AW.regL)) | ((with_reducible apply AW.block)) | ((with_reducible apply InBlk.n)) | ((with_reducible apply AW.skip)) | ((with_reducible apply AW.condT); exact rfl; (focus ((simp only [decide_eq_true_eq, decide_eq_false_iff_not, Bool.not_eq_true', Bool.not_eq_false', Bool.not_true, Bool.not_false]; first | assumption | omega))))))
            exact ⟨_, [(0, v), (5, .int .i64 (S.length : Nat)), (7, .slice q S.length c), (9, .int .i64 (s + tx)), (10, .int .i64 ((c1 + 1 : Nat) : Int)), (58, lv), (59, .int .i64 (l.length : Nat)), (60, .int .i64 ((k + 1 : Nat) : Int))], by omega, (by repeat (first | exact trivial | (refine And.intro rfl ?_))), k + 1, rfl, by omega, rfl, by rw [e1, e3]⟩
          · replace e4 := e4 hle
            (repeat (first | (with_reducible refine AWo.cons ?_) | ((with_reducible refine Step.id ?_); first | ((with_reducible apply Step.move); exact rfl; exact rfl) | ((with_reducible apply Step.assign); exact rfl; exact rfl) | ((with_reducible apply Step.load); exact rfl; (focus (decide +kernel)); exact rfl; (focus (first | exact hrl _ | exact fx0 _ | exact fx1 _))) | ((with_reducible apply Step.ix1); exact rfl; (focus (assumption)); exact rfl; (focus (decide +kernel)); exact rfl; (focus (omega))) | ((with_reducible apply Step.ix (s := 4)); exact rfl; (focus (assumption)); exact rfl; (focus (decide +kernel)); exact rfl; (focus (omega))) | ((with_reducible apply Step.field0); exact rfl; (focus (decide +kernel)); exact rfl) | ((with_reducible apply Step.field (k := 1)); exact rfl; (focus (decide +kernel)); exact rfl) | ((with_reducible apply Step.add); exact rfl; exact rfl; (focus (omega)); exact rfl) | ((with_reducible apply Step.lss); exact rfl; exact rfl; exact rfl) | ((with_reducible apply Step.leq); exact rfl; exact rfl; exact rfl)) | (with_reducible refine AWo.nil ?_) | ((with_reducible apply AW.seq)) | ((with_reducible apply Then.n)) | ((with_reducible apply AW.regL)) | ((with_reducible apply AW.block)) | ((with_reducible apply InBlk.n)) | ((with_reducible apply AW.skip)) | ((with_reducible apply AW.condT); exact rfl; (focus ((simp only [decide_eq_true_eq, decide_eq_false_iff_not, Bool.not_eq_true', Bool.not_eq_false', Bool.not_true, Bool.not_false]; first | assumption | omega)))) | ((with_reducible apply AW.condF); exact rfl; (focus ((simp only [decide_eq_true_eq, decide_eq_false_iff_not, Bool.not_eq_true', Bool.not_eq_false', Bool.not_true, Bool.not_false]; first | assumption | omega))))))
            exact ⟨_, [(0, v), (5, .int .i64 (S.length : Nat)), (7, .slice q S.length c), (9, .int .i64 (s + tx)), (10, .int .i64 (c1 : Nat)), (58, lv), (59, .int .i64 (l.length : Nat)), (60, .int .i64 ((k + 1 : Nat) : Int))], by omega, (by repeat (first | exact trivial | (refine And.intro rfl ?_))), k + 1, rfl, by omega, rfl, by rw [e1, e4]⟩
        · obtain rfl : k = l.length := by omega
          rw [List.take_of_length_le (Nat.le_refl _)]
          (repeat (first | (with_reducible refine AWo.cons ?_) | ((with_reducible refine Step.id ?_); ((with_reducible apply Step.lss); exact rfl; exact rfl; exact rfl)) | (with_reducible refine AWo.nil ?_) | ((with_reducible apply AW.seq)) | ((with_reducible apply Then.n)) | ((with_reducible apply AW.regL)) | ((with_reducible apply AW.exit)) | ((with_reducible apply InBlk.hit)) | ((with_reducible apply Then.e)) | ((with_reducible apply AW.condF); exact rfl; (focus ((simp only [decide_eq_true_eq, decide_eq_false_iff_not, Bool.not_eq_true', Bool.not_eq_false', Bool.not_true, Bool.not_false]; first | assumption | omega))))))
          exact ⟨_, hple, (by repeat (first | exact trivial | (refine And.intro rfl ?_))), rfl⟩
    rintro t M ⟨p, hp, hall, rfl⟩
    refine AW.weak (fr_all hall) ?_
    clear hall hpun
    (repeat (first | (with_reducible refine AWo.cons ?_) | ((with_reducible refine Step.id ?_); first | ((with_reducible apply Step.move); exact rfl; exact rfl) | ((with_reducible apply Step.len); exact rfl; (focus (assumption)); (focus (decide +kernel)); exact rfl)) | (with_reducible refine AWo.nil ?_) | ((with_reducible apply AW.seq)) | ((with_reducible apply Then.n)) | ((with_reducible apply AW.regL)) | ((with_reducible apply AW.block))))
    refine AW.loopW (fun n' t M' => ∃ k : Nat, n' = S.length - k ∧ k ≤ S.length ∧ M' = M3 ++ [] ∧
      t = fr [(0, v), (5, .int .i64 (S.length : Nat)), (7, .slice q S.length c), (10, .int .i64 (p : Nat)), (81, .slice q S.length c), (82, .int .i64 (S.length : Nat)), (83, .int .i64 (k : Nat))]) ⟨_, _, (by repeat (first | exact trivial | (refine And.intro rfl ?_))), 0, rfl, Nat.zero_le _, rfl, rfl⟩ ?_
    rintro n' t M' ⟨k, rfl, hk, rfl, rfl⟩
    rcases Nat.lt_or_ge k S.length with hlt | hge
    · have hxm := mem_getD' hlt
      have hx := hSin _ hxm
      have hen := hend _ hxm
      have hrl := fun L => (s3 k hlt).old L
      generalize S.getD k 0 = x at *
      obtain ⟨x, rfl⟩ := Int.eq_ofNat_of_zero_le hx.1
      have hxn : x < j.length := by omega
      obtain ⟨w, hr, hw⟩ := p3 x hxn
      have hnum := hJ.num x hxn
      have fx1 : ∀ L : AM, Rd (M3 ++ L) a3 (o3 + x * 4 + 1) (.int .i64 (j.getD x default).due) := fun L => (hr.old L).at_ 1 rfl
      clear hr hw
      (repeat (first | (with_reducible refine AWo.cons ?_) | ((with_reducible refine Step.id ?_); first | ((with_reducible apply Step.gdT); exact rfl; exact rfl; (focus (rfl))) | ((with_reducible apply Step.move); exact rfl; exact rfl) | ((with_reducible apply Step.assign); exact rfl; exact rfl) | ((with_reducible apply Step.load); exact rfl; (focus (decide +kernel)); exact rfl; (focus (exact hrl _))) | ((with_reducible apply Step.ix1); exact rfl; (focus (assumption)); exact rfl; (focus (decide +kernel)); exact rfl; (focus (omega))) | ((with_reducible apply Step.lss); exact rfl; exact rfl; exact rfl) | ((with_reducible apply Step.geq); exact rfl; exact rfl; exact rfl) | ((with_reducible apply Step.len); exact rfl; (focus (assumption)); (focus (decide +kernel)); exact rfl) | ((with_reducible apply Step.pickF); exact rfl; exact rfl; exact rfl; exact rfl; (focus (rfl)))) | (with_reducible refine AWo.nil ?_) | ((with_reducible apply AW.seq)) | ((with_reducible apply Then.n)) | ((with_reducible apply AW.regL)) | ((with_reducible apply AW.block)) | ((with_reducible apply AW.skip)) | ((with_reducible apply AW.condT); exact rfl; (focus ((simp only [decide_eq_true_eq, decide_eq_false_iff_not, Bool.not_eq_true', Bool.not_eq_false', Bool.not_true, Bool.not_false]; first | assumption | omega)))) | ((with_reducible apply AW.condF); exact rfl; (focus ((simp only [decide_eq_true_eq, decide_eq_false_iff_not, Bool.not_eq_true', Bool.not_eq_false', Bool.not_true, Bool.not_false]; first | assumption | omega))))))
      refine AW.loopW (fun n' t M' => ∃ i : Nat, n' = S.length - i ∧ i ≤ S.length ∧ M' = M3 ++ [] ∧
        t = fr [(0, v), (5, .int .i64 (S.length : Nat)), (7, .slice q S.length c), (10, .int .i64 (p : Nat)), (81, .slice q S.length c), (82, .int .i64 (S.length : Nat)), (83, .int .i64 (k : Nat)), (14, .int .i64 (x : Nat)),
          (15, .int .i64 (tms j ((S.take i).filter fun y => leD j y x)).sum), (95, .slice q S.length c), (96, .int .i64 (S.length : Nat)), (97, .int .i64 (i : Nat))]) ⟨_, _, (by repeat (first | exact trivial | (refine And.intro rfl ?_))), 0, rfl, Nat.zero_le _, rfl, rfl⟩ ?_
      rintro n' t M' ⟨i, rfl, hi, rfl, rfl⟩
      rcases Nat.lt_or_ge i S.length with hil | hige
      · have hy := hSin _ (mem_getD' hil)
        have hrl2 := fun L => (s3 i hil).old L
        have e1 := tms_flt (j := j) (x : Int) hil
        have b1 := tms_bd hJ (T := (S.take i).filter fun y => leD j y x) fun x hx => hSin x (List.mem_of_mem_take (List.mem_filter.1 hx).1)
        have b2 : ((S.take i).filter fun y => leD j y x).length ≤ 40 := by
          have := List.length_filter_le (fun y => leD j y x) (S.take i)
          rw [List.length_take] at this; omega
        generalize S.getD i 0 = y at *
        obtain ⟨y, rfl⟩ := Int.eq_ofNat_of_zero_le hy.1
        have hyn : y < j.length := by omega
        obtain ⟨w, hr, hw⟩ := p3 y hyn
        have hnumy := hJ.num y hyn
        have fy0 : ∀ L : AM, Rd (M3 ++ L) a3 (o3 + y * 4 + 0) (.int .i64 (j.getD y default).time) := fun L => (hr.old L).at_ 0 rfl
        have fy1 : ∀ L : AM, Rd (M3 ++ L) a3 (o3 + y * 4 + 1) (.int .i64 (j.getD y default).due) := fun L => (hr.old L).at_ 1 rfl
        clear hr hw
        generalize (tms j ((S.take i).filter fun z => leD j z x)).sum = s at *
        generalize hs' : (tms j ((S.take (i + 1)).filter fun z => leD j z x)).sum = s' at e1
        clear hen
        simp only [jb, leD, Int.toNat_natCast, decide_eq_true_eq, Int.lt_irrefl, false_or, true_and] at e1
        generalize (j.getD x default).due = dx at *
        generalize (j.getD y default).time = ty at *
        generalize (j.getD y default).due = dy at *
        by_cases c1 : dy < dx
        · rw [if_pos (by omega)] at e1
          (repeat (first | (with_reducible refine AWo.cons ?_) | ((with_reducible refine Step.id ?_); first | ((with_reducible apply Step.gdU); exact rfl; exact rfl) | ((with_reducible apply Step.gdT); exact rfl; exact rfl; (focus (first | rfl | (simp only [decide_eq_true_eq, decide_eq_false_iff_not, Bool.not_eq_true', Bool.not_eq_false', Bool.not_true, Bool.not_false]; first | assumption | omega)))) | ((with_reducible apply Step.gdF); exact rfl; exact rfl; (focus ((simp only [decide_eq_true_eq, decide_eq_false_iff_not, Bool.not_eq_true', Bool.not_eq_false', Bool.not_true, Bool.not_false]; first | assumption | omega)))) | ((with_reducible apply Step.move); exact rfl; exact rfl) | ((with_reducible apply Step.assign); exact rfl; exact rfl) | ((with_reducible apply Step.load); exact rfl; (focus (decide +kernel)); exact rfl; (focus (first | exact hrl2 _ | exact fx1 _ | exact fy0 _ | exact fy1 _))) | ((with_reducible apply Step.ix1); exact rfl; (focus (assumption)); exact rfl; (focus (decide +kernel)); exact rfl; (focus (omega))) | ((with_reducible apply Step.ix (s := 4)); exact rfl; (focus (assumption)); exact rfl; (focus (decide +kernel)); exact rfl; (focus (omega))) | ((with_reducible apply Step.field0); exact rfl; (focus (decide +kernel)); exact rfl) | ((with_reducible apply Step.field (k := 1)); exact rfl; (focus (decide +kernel)); exact rfl) | ((with_reducible apply Step.add); exact rfl; exact rfl; (focus (omega)); exact rfl) | ((with_reducible apply Step.lss); exact rfl; exact rfl; exact rfl) | ((with_reducible apply Step.geq); exact rfl; exact rfl; exact rfl) | ((with_reducible apply Step.len); exact rfl; (focus (assumption)); (focus (decide +kernel)); exact rfl) | ((with_reducible apply Step.pickT); exact rfl; exact rfl; exact rfl; exact rfl; (focus (first | rfl | (simp only [decide_eq_true_eq, decide_eq_false_iff_not, Bool.not_eq_true', Bool.not_eq_false', Bool.not_true, Bool.not_false]; first | assumption | omega))))) | (with_reducible refine AWo.nil ?_) | ((with_reducible apply AW.seq)) | ((with_reducible apply Then.n)) | ((with_reducible apply AW.regL)) | ((with_reducible apply AW.block)) | ((with_reducible apply AW.drawL fit); (focus (decide +kernel))) | ((with_reducible apply InBlk.n)) | ((with_reducible apply AW.skip)) | ((with_reducible apply AW.condT); exact rfl; (focus (first | rfl | (simp only [decide_eq_true_eq, decide_eq_false_iff_not, Bool.not_eq_true', Bool.not_eq_false', Bool.not_true, Bool.not_false]; first | assumption | omega))))))
          exact ⟨_, [(0, v), (5, .int .i64 (S.length : Nat)), (7, .slice q S.length c), (10, .int .i64 (p : Nat)), (81, .slice q S.length c), (82, .int .i64 (S.length : Nat)), (83, .int .i64 (k : Nat)), (14, .int .i64 (x : Nat)), (15, .int .i64 (s + ty)), (95, .slice q S.length c), (96, .int .i64 (S.length : Nat)), (97, .int .i64 ((i + 1 : Nat) : Int))], by omega, (by repeat (first | exact trivial | (refine And.intro rfl ?_))), i + 1, rfl, by omega, rfl, by rw [hs', e1]⟩
        · by_cases c2 : dy = dx
          · by_cases c3 : (y : Int) ≤ (x : Int)
            · rw [if_pos (by omega)] at e1
              (repeat (first | (with_reducible refine AWo.cons ?_) | ((with_reducible refine Step.id ?_); first | ((with_reducible apply Step.gdT); exact rfl; exact rfl; (focus (first | rfl | (simp only [decide_eq_true_eq, decide_eq_false_iff_not, Bool.not_eq_true', Bool.not_eq_false', Bool.not_true, Bool.not_false]; first | assumption | omega)))) | ((with_reducible apply Step.move); exact rfl; exact rfl) | ((with_reducible apply Step.assign); exact rfl; exact rfl) | ((with_reducible apply Step.load); exact rfl; (focus (decide +kernel)); exact rfl; (focus (first | exact hrl2 _ | exact fx1 _ | exact fy0 _ | exact fy1 _))) | ((with_reducible apply Step.ix1); exact rfl; (focus (assumption)); exact rfl; (focus (decide +kernel)); exact rfl; (focus (omega))) | ((with_reducible apply Step.ix (s := 4)); exact rfl; (focus (assumption)); exact rfl; (focus (decide +kernel)); exact rfl; (focus (omega))) | ((with_reducible apply Step.field0); exact rfl; (focus (decide +kernel)); exact rfl) | ((with_reducible apply Step.field (k := 1)); exact rfl; (focus (decide +kernel)); exact rfl) | ((with_reducible apply Step.add); exact rfl; exact rfl; (focus (omega)); exact rfl) | ((with_reducible apply Step.lss); exact rfl; exact rfl; exact rfl) | ((with_reducible apply Step.leq); exact rfl; exact rfl; exact rfl) | ((with_reducible apply Step.geq); exact rfl; exact rfl; exact rfl) | ((with_reducible apply Step.eql); exact rfl; exact rfl; exact rfl) | ((with_reducible apply Step.len); exact rfl; (focus (assumption)); (focus (decide +kernel)); exact rfl) | ((with_reducible apply Step.pickT); exact rfl; exact rfl; exact rfl; exact rfl; (focus (first | rfl | (simp only [decide_eq_true_eq, decide_eq_false_iff_not, Bool.not_eq_true', Bool.not_eq_false', Bool.not_true, Bool.not_false]; first | assumption | omega)))) | ((with_reducible apply Step.pickF); exact rfl; exact rfl; exact rfl; exact rfl; (focus ((simp only [decide_eq_true_eq, decide_eq_false_iff_not, Bool.not_eq_true', Bool.not_eq_false', Bool.not_true, Bool.not_false]; first | assumption | omega))))) | (with_reducible refine AWo.nil ?_) | ((with_reducible apply AW.seq)) | ((with_reducible apply Then.n)) | ((with_reducible apply AW.regL)) | ((with_reducible apply AW.block)) | ((with_reducible apply AW.drawL fit); (focus (decide +kernel))) | ((with_reducible apply InBlk.n)) | ((with_reducible apply AW.skip)) | ((with_reducible apply AW.condT); exact rfl; (focus ((simp only [decide_eq_true_eq, decide_eq_false_iff_not, Bool.not_eq_true', Bool.not_eq_false', Bool.not_true, Bool.not_false]; first | assumption | omega))))))
              exact ⟨_, [(0, v), (5, .int .i64 (S.length : Nat)), (7, .slice q S.length c), (10, .int .i64 (p : Nat)), (81, .slice q S.length c), (82, .int .i64 (S.length : Nat)), (83, .int .i64 (k : Nat)), (14, .int .i64 (x : Nat)), (15, .int .i64 (s + ty)), (95, .slice q S.length c), (96, .int .i64 (S.length : Nat)), (97, .int .i64 ((i + 1 : Nat) : Int))], by omega, (by repeat (first | exact trivial | (refine And.intro rfl ?_))), i + 1, rfl, by omega, rfl, by rw [hs', e1]⟩
            · rw [if_neg (by omega), Int.add_zero] at e1
              (repeat (first | (with_reducible refine AWo.cons ?_) | ((with_reducible refine Step.id ?_); first | ((with_reducible apply Step.gdT); exact rfl; exact rfl; (focus (first | rfl | (simp only [decide_eq_true_eq, decide_eq_false_iff_not, Bool.not_eq_true', Bool.not_eq_false', Bool.not_true, Bool.not_false]; first | assumption | omega)))) | ((with_reducible apply Step.move); exact rfl; exact rfl) | ((with_reducible apply Step.assign); exact rfl; exact rfl) | ((with_reducible apply Step.load); exact rfl; (focus (decide +kernel)); exact rfl; (focus (first | exact hrl2 _ | exact fx1 _ | exact fy1 _))) | ((with_reducible apply Step.ix1); exact rfl; (focus (assumption)); exact rfl; (focus (decide +kernel)); exact rfl; (focus (omega))) | ((with_reducible apply Step.ix (s := 4)); exact rfl; (focus (assumption)); exact rfl; (focus (decide +kernel)); exact rfl; (focus (omega))) | ((with_reducible apply Step.field (k := 1)); exact rfl; (focus (decide +kernel)); exact rfl) | ((with_reducible apply Step.add); exact rfl; exact rfl; (focus (omega)); exact rfl) | ((with_reducible apply Step.lss); exact rfl; exact rfl; exact rfl) | ((with_reducible apply Step.leq); exact rfl; exact rfl; exact rfl) | ((with_reducible apply Step.geq); exact rfl; exact rfl; exact rfl) | ((with_reducible apply Step.eql); exact rfl; exact rfl; exact rfl) | ((with_reducible apply Step.len); exact rfl; (focus (assumption)); (focus (decide +kernel)); exact rfl) | ((with_reducible apply Step.pickT); exact rfl; exact rfl; exact rfl; exact rfl; (focus (first | rfl | (simp only [decide_eq_true_eq, decide_eq_false_iff_not, Bool.not_eq_true', Bool.not_eq_false', Bool.not_true, Bool.not_false]; first | assumption | omega)))) | ((with_reducible apply Step.pickF); exact rfl; exact rfl; exact rfl; exact rfl; (focus ((simp only [decide_eq_true_eq, decide_eq_false_iff_not, Bool.not_eq_true', Bool.not_eq_false', Bool.not_true, Bool.not_false]; first | assumption | omega))))) | (with_reducible refine AWo.nil ?_) | ((with_reducible apply AW.seq)) | ((with_reducible apply Then.n)) | ((with_reducible apply AW.regL)) | ((with_reducible apply AW.block)) | ((with_reducible apply AW.drawL fit); (focus (decide +kernel))) | ((with_reducible apply InBlk.n)) | ((with_reducible apply AW.skip)) | ((with_reducible apply AW.condT); exact rfl; (focus ((simp only [decide_eq_true_eq, decide_eq_false_iff_not, Bool.not_eq_true', Bool.not_eq_false', Bool.not_true, Bool.not_false]; first | assumption | omega)))) | ((with_reducible apply AW.condF); exact rfl; (focus ((simp only [decide_eq_true_eq, decide_eq_false_iff_not, Bool.not_eq_true', Bool.not_eq_false', Bool.not_true, Bool.not_false]; first | assumption | omega))))))
              exact ⟨_, [(0, v), (5, .int .i64 (S.length : Nat)), (7, .slice q S.length c), (10, .int .i64 (p : Nat)), (81, .slice q S.length c), (82, .int .i64 (S.length : Nat)), (83, .int .i64 (k : Nat)), (14, .int .i64 (x : Nat)), (15, .int .i64 s), (95, .slice q S.length c), (96, .int .i64 (S.length : Nat)), (97, .int .i64 ((i + 1 : Nat) : Int))], by omega, (by repeat (first | exact trivial | (refine And.intro rfl ?_))), i + 1, rfl, by omega, rfl, by rw [hs', e1]⟩
          · rw [if_neg (by omega), Int.add_zero] at e1
            (repeat (first | (with_reducible refine AWo.cons ?_) | ((with_reducible refine Step.id ?_); first | ((with_reducible apply Step.gdT); exact rfl; exact rfl; (focus (first | rfl | (simp only [decide_eq_true_eq, decide_eq_false_iff_not, Bool.not_eq_true', Bool.not_eq_false', Bool.not_true, Bool.not_false]; first | assumption | omega)))) | ((with_reducible apply Step.gdF); exact rfl; exact rfl; (focus ((simp only [decide_eq_true_eq, decide_eq_false_iff_not, Bool.not_eq_true', Bool.not_eq_false', Bool.not_true, Bool.not_false]; first | assumption | omega)))) | ((with_reducible apply Step.move); exact rfl; exact rfl) | ((with_reducible apply Step.assign); exact rfl; exact rfl) | ((with_reducible apply Step.load); exact rfl; (focus (decide +kernel)); exact rfl; (focus (first | exact hrl2 _ | exact fx1 _ | exact fy1 _))) | ((with_reducible apply Step.ix1); exact rfl; (focus (assumption)); exact rfl; (focus (decide +kernel)); exact rfl; (focus (omega))) | ((with_reducible apply Step.ix (s := 4)); exact rfl; (focus (assumption)); exact rfl; (focus (decide +kernel)); exact rfl; (focus (omega))) | ((with_reducible apply Step.field (k := 1)); exact rfl; (focus (decide +kernel)); exact rfl) | ((with_reducible apply Step.add); exact rfl; exact rfl; (focus (omega)); exact rfl) | ((with_reducible apply Step.lss); exact rfl; exact rfl; exact rfl) | ((with_reducible apply Step.geq); exact rfl; exact rfl; exact rfl) | ((with_reducible apply Step.eql); exact rfl; exact rfl; exact rfl) | ((with_reducible apply Step.len); exact rfl; (focus (assumption)); (focus (decide +kernel)); exact rfl) | ((with_reducible apply Step.pickT); exact rfl; exact rfl; exact rfl; exact rfl; (focus (first | rfl | (simp only [decide_eq_true_eq, decide_eq_false_iff_not, Bool.not_eq_true', Bool.not_eq_false', Bool.not_true, Bool.not_false]; first | assumption | omega)))) | ((with_reducible apply Step.pickF); exact rfl; exact rfl; exact rfl; exact rfl; (focus ((simp only [decide_eq_true_eq, decide_eq_false_iff_not, Bool.not_eq_true', Bool.not_eq_false', Bool.not_true, Bool.not_false]; first | assumption | omega))))) | (with_reducible refine AWo.nil ?_) | ((with_reducible apply AW.seq)) | ((with_reducible apply Then.n)) | ((with_reducible apply AW.regL)) | ((with_reducible apply AW.block)) | ((with_reducible apply AW.drawL fit); (focus (decide +kernel))) | ((with_reducible apply InBlk.n)) | ((with_reducible apply AW.skip)) | ((with_reducible apply AW.condT); exact rfl; (focus ((simp only [decide_eq_true_eq, decide_eq_false_iff_not, Bool.not_eq_true', Bool.not_eq_false', Bool.not_true, Bool.not_false]; first | assumption | omega)))) | ((with_reducible apply AW.condF); exact rfl; (focus (rfl)))))
            exact ⟨_, [(0, v), (5, .int .i64 (S.length : Nat)), (7, .slice q S.length c), (10, .int .i64 (p : Nat)), (81, .slice q S.length c), (82, .int .i64 (S.length : Nat)), (83, .int .i64 (k : Nat)), (14, .int .i64 (x : Nat)), (15, .int .i64 s), (95, .slice q S.length c), (96, .int .i64 (S.length : Nat)), (97, .int .i64 ((i + 1 : Nat) : Int))], by omega, (by repeat (first | exact trivial | (refine And.intro rfl ?_))), i + 1, rfl, by omega, rfl, by rw [hs', e1]⟩
      · obtain rfl : i = S.length := by omega
        rw [List.take_of_length_le (Nat.le_refl _)]
        simp only [jb, Int.toNat_natCast] at hen
        (repeat (first | (with_reducible refine AWo.cons ?_) | ((with_reducible refine Step.id ?_); first | ((with_reducible apply Step.move); exact rfl; exact rfl) | ((with_reducible apply Step.load); exact rfl; (focus (decide +kernel)); exact rfl; (focus (exact fx1 _))) | ((with_reducible apply Step.ix (s := 4)); exact rfl; (focus (assumption)); exact rfl; (focus (decide +kernel)); exact rfl; (focus (omega))) | ((with_reducible apply Step.field (k := 1)); exact rfl; (focus (decide +kernel)); exact rfl) | ((with_reducible apply Step.add); exact rfl; exact rfl; (focus (omega)); exact rfl) | ((with_reducible apply Step.lss); exact rfl; exact rfl; exact rfl) | ((with_reducible apply Step.gtr); exact rfl; exact rfl; exact rfl)) | (with_reducible refine AWo.nil ?_) | ((with_reducible apply AW.seq)) | ((with_reducible apply Then.n)) | ((with_reducible apply AW.regL)) | ((with_reducible apply AW.exit)) | ((with_reducible apply InBlk.n)) | ((with_reducible apply InBlk.hit)) | ((with_reducible apply Then.e)) | ((with_reducible apply AW.skip)) | ((with_reducible apply AW.condF); exact rfl; (focus ((simp only [decide_eq_true_eq, decide_eq_false_iff_not, Bool.not_eq_true', Bool.not_eq_false', Bool.not_true, Bool.not_false]; first | assumption | omega))))))
        exact ⟨_, [(0, v), (5, .int .i64 (S.length : Nat)), (7, .slice q S.length c), (10, .int .i64 (p : Nat)), (81, .slice q S.length c), (82, .int .i64 (S.length : Nat)), (83, .int .i64 ((k + 1 : Nat) : Int))], by omega, (by repeat (first | exact trivial | (refine And.intro rfl ?_))), k + 1, rfl, by omega, rfl, rfl⟩
    · obtain rfl : k = S.length := by omega
      subst hN3
      (repeat (first | (with_reducible refine AWo.cons ?_) | ((with_reducible refine Step.id ?_); first | ((with_reducible apply Step.gdT); exact rfl; exact rfl; (focus ((simp only [decide_eq_true_eq, decide_eq_false_iff_not, Bool.not_eq_true', Bool.not_eq_false', Bool.not_true, Bool.not_false]; first | assumption | omega)))) | ((with_reducible apply Step.move); exact rfl; exact rfl) | ((with_reducible apply Step.assign); exact rfl; exact rfl) | ((with_reducible apply Step.lss); exact rfl; exact rfl; exact rfl) | ((with_reducible apply Step.leq); exact rfl; exact rfl; exact rfl) | ((with_reducible apply Step.pickT); exact rfl; exact rfl; exact rfl; exact rfl; (focus ((simp only [decide_eq_true_eq, decide_eq_false_iff_not, Bool.not_eq_true', Bool.not_eq_false', Bool.not_true, Bool.not_false]; first | assumption | omega)))) | ((with_reducible apply Step.callR fit); exact rfl; exact Try.func24; exact rfl; exact rfl; exact (awake_ok))) | (with_reducible refine AWo.nil ?_) | ((with_reducible apply AW.seq)) | ((with_reducible apply Then.n)) | ((with_reducible apply AW.regL)) | ((with_reducible apply AW.exit)) | ((with_reducible apply InBlk.hit)) | ((with_reducible apply Then.e)) | ((with_reducible apply AW.condF); exact rfl; (focus ((simp only [decide_eq_true_eq, decide_eq_false_iff_not, Bool.not_eq_true', Bool.not_eq_false', Bool.not_true, Bool.not_false]; first | assumption | omega))))))
      (refine AW.retX (l := [(4, _)]) rfl (by repeat (first | exact trivial | (refine And.intro ⟨rfl, by (exact .bool _)⟩ ?_))) ?_; (repeat (first | refine Then.r ?_ | refine InBlk.r ?_)))
      exact ⟨_, rfl, rfl, rfl⟩
  | false =>
    have hno := conv_not hok
    (repeat (first | (with_reducible refine AWo.cons ?_) | ((with_reducible refine Step.id ?_); first | ((with_reducible apply Step.move); exact rfl; exact rfl) | ((with_reducible apply Step.assign); exact rfl; exact rfl) | ((with_reducible apply Step.extract); exact rfl; exact rfl; exact rfl) | ((with_reducible apply Step.callR fit); exact rfl; exact Try.func62; exact rfl; exact rfl; exact (Punctual_no (hJ1.old _) (conv_short j) hno))) | (with_reducible refine AWo.nil ?_) | ((with_reducible apply AW.seq)) | ((with_reducible apply Then.n)) | ((with_reducible apply AW.regL))))
    ((with_reducible apply Step.callX fit); exact rfl; exact Try.func34; exact rfl; exact rfl; exact (f34_ok (hj1.old _) hs))
    intro v3 M3 hM3 hJ3
    obtain ⟨N, hN⟩ : ∃ N, M3 = m ++ N := by obtain ⟨N, rfl⟩ := hM3; exact ⟨N1 ++ N, by rw [hN1]; simp⟩
    have j3 : Jobs M3 v j := by rw [hN]; exact hj.old N
    subst hN
    (repeat (first | (with_reducible refine AWo.cons ?_) | ((with_reducible refine Step.id ?_); first | ((with_reducible apply Step.gdT); exact rfl; exact rfl; (focus (rfl))) | ((with_reducible apply Step.move); exact rfl; exact rfl) | ((with_reducible apply Step.assign); exact rfl; exact rfl) | ((with_reducible apply Step.eql); exact rfl; exact rfl; exact rfl) | ((with_reducible apply Step.not); exact rfl; exact rfl) | ((with_reducible apply Step.extract); exact rfl; exact rfl; exact rfl) | ((with_reducible apply Step.pickT); exact rfl; exact rfl; exact rfl; exact rfl; (focus (rfl))) | ((with_reducible apply Step.callR fit); exact rfl; exact Try.func60; exact rfl; exact rfl; exact (Moore_no (hJ3.old _) (conv_short j) hno)) | ((with_reducible apply Step.callR fit); exact rfl; exact Try.func44; exact rfl; exact rfl; exact (RJobs_ok (j3.old _) hs.2 hs.1 hok)) | ((with_reducible apply Step.callR fit); exact rfl; exact Try.func24; exact rfl; exact rfl; exact (awake_ok))) | (with_reducible refine AWo.nil ?_) | ((with_reducible apply AW.seq)) | ((with_reducible apply Then.n)) | ((with_reducible apply AW.regL)) | ((with_reducible apply AW.condT); exact rfl; (focus (rfl)))))
    (refine AW.retX (l := [(4, _)]) rfl (by repeat (first | exact trivial | (refine And.intro ⟨rfl, by (exact .bool _)⟩ ?_))) ?_; (repeat (first | refine Then.r ?_ | refine InBlk.r ?_)))
    exact ⟨_, rfl, rfl, rfl⟩
end Go.Proofs.Ytmomjannlnafcaa.Abs
namespace Go.Proofs.Ytmomjannlnafcaa.Abs
set_option linter.unusedSimpArgs false
set_option linter.unusedVariables false
open Go.RowKit
open Go.Proofs.Ytmomjannlnafcaa.Sim
open Go.ChangeShapes Go.WideShapes Go.Deep
def plN (bs : List AR) : Pl := fun i => (bs[i]?).bind mkP
def mkV2 (i : Nat) : Value → Value
  | .slice (some ⟨_, _, some k⟩) _ _ => .slice (some ⟨i, 0, some k⟩) 0 0
  | .slice (some ⟨_, _, none⟩) n _ => .slice (some ⟨i, 0, none⟩) n n
  | v => v
def mkB2 : AR → Option Blk
  | (.slice (some _) _ (_ + 1), c) => some { cells := c, kind := .ro }
  | _ => none
/-- A slice of the input, with its cells as the abstract memory has them; or what is no block. -/
def OkB (W : World) (R : Pl) (a : AR) : Prop := g0 a.1 = true ∨ (∃ x, a.1 = .slice (some x) 0 0) ∨
  ∃ b o n cap, a.1 = .slice (some ⟨b, o, none⟩) n (cap + 1) ∧ n ≤ cap + 1 ∧ b < W.heap.size ∧ ∀ j x, a.2[j]? = some x → ∃ x', W.cell? ⟨b, o + j, none⟩ = some x' ∧ Rel R x x'
theorem relN {W : World} {R : Pl} {bs : List AR} {i : Nat} {a : AR} (hi : bs[i]? = some a) (h : OkB W R a) : Rel (plN bs) (mkV2 i a.1) a.1 := by
  obtain ⟨v, c⟩ := a
  rcases h with h1 | ⟨⟨b, o, sp⟩, h1⟩ | ⟨b, o, n, cap, h1, h2, h3, h4⟩
  · simp only at h1 ⊢
    cases v with
    | slice x n cap => cases x with
      | none => exact g0_rel h1
      | some x => simp [g0] at h1
    | _ => exact g0_rel h1
  · simp only at h1 ⊢
    subst h1
    cases sp with
    | none =>
      have := Rel.slice (R := plN bs) i 0 0 0 ⟨b, o, 0 - 0⟩ (by simp [plN, hi, mkP]) (Nat.le_refl _)
      simpa [mkV2] using this
    | some k =>
      have := Rel.sliceSpot (R := plN bs) i 0 k ⟨b, o, 0 - 0⟩ (by simp [plN, hi, mkP])
      simpa [mkV2] using this
  · simp only at h1 ⊢
    subst h1
    have := Rel.slice (R := plN bs) i 0 n n ⟨b, o, cap + 1 - n⟩ (by simp [plN, hi, mkP]) (Nat.le_refl _)
    rw [show n + (cap + 1 - n) = cap + 1 by omega] at this
    simpa [mkV2] using this
def mkVs2 : Nat → List AR → List Value
  | _, [] => []
  | i, a :: l => mkV2 i a.1 :: mkVs2 (i + 1) l
theorem mkVs2_get : ∀ (l : List AR) (i k : Nat), (mkVs2 i l)[k]? = (l[k]?).map fun a => mkV2 (i + k) a.1
  | [], i, k => by simp [mkVs2]
  | a :: l, i, 0 => by simp [mkVs2]
  | a :: l, i, k + 1 => by simp only [mkVs2, List.getElem?_cons_succ, mkVs2_get l (i + 1) k]; congr 1; funext x; congr 1; omega
theorem mkVs2_len : ∀ (l : List AR) (i : Nat), (mkVs2 i l).length = l.length
  | [], _ => rfl
  | a :: l, i => by simp [mkVs2, mkVs2_len l (i + 1)]
theorem mkB2_none {W : World} {R : Pl} {a : AR} {b : Blk} (h : OkB W R a) (hb : mkB2 a = some b) : ∃ bb o n cap, a.1 = .slice (some ⟨bb, o, none⟩) n (cap + 1) ∧ b = { cells := a.2, kind := .ro } ∧ bb < W.heap.size ∧ ∀ j x, a.2[j]? = some x → ∃ x', W.cell? ⟨bb, o + j, none⟩ = some x' ∧ Rel R x x' := by
  obtain ⟨v, c⟩ := a
  rcases h with h1 | ⟨x, h1⟩ | ⟨bb, o, n, cap, h1, h2, h3, h4⟩
  · simp only at h1
    cases v with
    | slice x n cap => cases x with
      | none => simp [mkB2] at hb
      | some x => simp [g0] at h1
    | _ => simp [mkB2] at hb
  · simp only at h1
    subst h1
    simp [mkB2] at hb
  · simp only at h1
    subst h1
    simp only [mkB2, Option.some.injEq] at hb
    exact ⟨bb, o, n, cap, rfl, hb.symm, h3, h4⟩
theorem top_callN {P : Program} {f : FuncId} {W : World} (bs : List AR) (na : Nat) (h : ∀ a ∈ bs, OkB W (plN bs) a) (hc : ACall P f ((mkVs2 0 bs).take na).toArray (bs.map mkB2) (Ret (.bool true) (bs.map mkB2))) :
    Calls P f ((bs.take na).map (·.1)).toArray W fun e w' => e = .returned (.bool true) ∧ Below W.heap.size W w' := by
  have hm : MRep W.heap.size (plN bs) (bs.map mkB2) W := by
    refine ⟨fun i hi => ?_, fun i b hi => ?_, fun i j b c p q hi hj hb _ _ _ _ => ?_⟩
    · simp only [List.length_map] at hi
      simp [plN, List.getElem?_eq_none hi]
    · rw [List.getElem?_map] at hi
      cases ha : bs[i]? with
      | none => rw [ha] at hi; cases hi
      | some a =>
        rw [ha] at hi
        simp only [Option.map_some, Option.some.injEq] at hi
        obtain ⟨bb, o, n, cap, h1, rfl, h3, h4⟩ := mkB2_none (h _ (List.mem_of_getElem? ha)) hi
        obtain ⟨v, c⟩ := a
        simp only at h1 h4
        subst h1
        refine ⟨⟨bb, o, cap + 1 - n⟩, by simp [plN, ha, mkP], h3, ?_⟩
        exact ⟨fun e => by simp at e, fun j x hj => h4 j x hj⟩
    · rw [List.getElem?_map] at hi
      cases ha : bs[i]? with
      | none => rw [ha] at hi; cases hi
      | some a =>
        rw [ha] at hi
        simp only [Option.map_some, Option.some.injEq] at hi
        obtain ⟨bb, o, n, cap, h1, rfl, _⟩ := mkB2_none (h _ (List.mem_of_getElem? ha)) hi
        cases hb
  have hargs : Rels (plN bs) ((mkVs2 0 bs).take na).toArray ((bs.take na).map (·.1)).toArray := by
    refine ⟨by simp [mkVs2_len], fun i hi => ?_⟩
    simp only [List.size_toArray, List.length_take, mkVs2_len] at hi
    have hib : i < bs.length := by omega
    have ha : bs[i]? = some bs[i] := List.getElem?_eq_getElem hib
    have e1 : ((mkVs2 0 bs).take na).toArray.getD i undef = mkV2 i bs[i].1 := by
      simp [mkVs2_get, ha, List.getElem?_take, show i < na by omega]
    have e2 : ((bs.take na).map (·.1)).toArray.getD i undef = bs[i].1 := by simp [List.getElem?_take, show i < na by omega, ha]
    rw [e1, e2]
    exact relN ha (h _ (List.mem_of_getElem? ha))
  refine (hc W.heap.size (plN bs) W _ (Nat.le_refl _) hm hargs).mono ?_
  rintro e w' ⟨v, v', R', m', rfl, k1, k2, rfl, rfl⟩
  cases k1
  exact ⟨rfl, k2.below hm (Nat.le_refl _)⟩
section
variable {H : Type} {enc : TypeId × Value → H} {P : Program} {w : World} {base : Nat} {held : Bool}
theorem cell_some {a : Addr} {v : Value} (h : w.cell? a = some v) : a.spot = none ∧ a.block < w.heap.size := by
  unfold World.cell? at h
  cases hb : w.heap[a.block]? with
  | none => rw [hb] at h; cases h
  | some o =>
    refine ⟨?_, (Array.getElem?_eq_some_iff.1 hb).1⟩
    rw [hb] at h
    cases o with
    | cells c ty fz =>
      simp only at h
      split at h
      · cases h
      · rename_i hs
        cases hsp : a.spot with
        | none => rfl
        | some k => rw [hsp] at hs; simp at hs
    | _ => cases h
/-- A slice of ints that the input shows, wherever it stands. -/
theorem ints_sl {T e : TypeId} {fuel : Nat} {v : Value} {d : DataW H × List MemPlace} (ht : P.underlying T = some (.slice e)) (he : P.underlying e = some (.int .i64)) (hce : P.cellsOf e = 1) (h : DataW.trod enc P w base (fun _ => true) held fuel T [v] = some d) :
    ∃ l : List Int, l.length ≤ maxLen ∧ (∀ R, OkB w R (v, iv l)) ∧ ∀ (bs : List AR) (i : Nat), bs[i]? = some (v, iv l) → Ints (bs.map mkB2) (mkV2 i v) l := by
  rcases open_ints ht he hce h with ⟨hcs, _⟩ | ⟨x, n, c, zs, hcs, _, hl, hm, hz, _, hcell, _⟩
  · obtain rfl : v = .slice none 0 0 := by simpa using hcs
    refine ⟨[], Nat.zero_le _, fun R => .inl rfl, fun bs i hi => ⟨i, 0, .inl ⟨rfl, rfl⟩, by simp; exact (List.getElem?_eq_some_iff.1 hi).1, fun k hk => by simp at hk⟩⟩
  · obtain rfl : v = .slice (some x) n c := by simpa using hcs
    rw [if_pos rfl] at hz
    have hlen : (zs.take n).length = n := by simp; omega
    cases c with
    | zero =>
      obtain rfl : n = 0 := by omega
      have e0 : zs.take 0 = [] := by simp
      refine ⟨[], Nat.zero_le _, fun R => .inr (.inl ⟨x, rfl⟩), fun bs i hi => ?_⟩
      have hlt : i < (bs.map mkB2).length := by simp; exact (List.getElem?_eq_some_iff.1 hi).1
      obtain ⟨b, o, sp⟩ := x
      cases sp with
      | none => exact ⟨i, 0, Sl.mk (Nat.le_refl _), hlt, fun k hk => by simp at hk⟩
      | some k => exact ⟨i, 0, .inr (.inr ⟨rfl, 0, k, rfl⟩), hlt, fun k hk => by simp at hk⟩
    | succ c =>
      obtain ⟨b, o, sp⟩ := x
      have h0 := cell_some (hcell 0 (by omega))
      obtain rfl : sp = none := h0.1
      have hb : b < w.heap.size := h0.2
      refine ⟨zs.take n, by omega, fun R => .inr (.inr ⟨b, o, n, c, rfl, hl, hb, fun j x hj => ?_⟩), fun bs i hi => ?_⟩
      · simp only [iv, List.getElem?_map] at hj
        by_cases hjn : j < n
        · rw [List.getElem?_take, if_pos hjn, List.getElem?_eq_getElem (by omega)] at hj
          simp only [Option.map_some, Option.some.injEq] at hj
          have := hcell j (by omega)
          rw [Addr.add_lit] at this
          refine ⟨_, this, ?_⟩
          rw [← hj]
          simp only [List.getD_eq_getElem?_getD, List.getElem?_eq_getElem (show j < zs.length by omega), Option.getD_some]
          exact .int _ _
        · rw [List.getElem?_take, if_neg hjn] at hj
          cases hj
      · have hM : (bs.map mkB2)[i]? = some (some { cells := iv (zs.take n), kind := .ro }) := by rw [List.getElem?_map, hi]; rfl
        exact ints_at hM rfl n hlen.symm
theorem arg_ints2 {T e : TypeId} {a : Option Addr} {n c : Nat} {d : DataW H} {p : List MemPlace} (ht : P.underlying T = some (.slice e)) (he : P.underlying e = some (.int .i64)) (hce : P.cellsOf e = 1) (h : DataW.Trod enc P w base (fun _ => true) held T (.slice a n c) d p) :
    ∃ l : List Int, l.length ≤ maxLen ∧ (∀ R, OkB w R (.slice a n c, iv l)) ∧ ∀ (bs : List AR) (i : Nat), bs[i]? = some (.slice a n c, iv l) → Ints (bs.map mkB2) (mkV2 i (.slice a n c)) l := by
  obtain ⟨fuel, h⟩ := h
  exact ints_sl ht he hce (by simpa [Value.cells] using h)
end
end Go.Proofs.Ytmomjannlnafcaa.Abs
namespace Go.Proofs.Ytmomjannlnafcaa.Abs
set_option linter.unusedSimpArgs false
set_option linter.unusedVariables false
open Go.RowKit
open Go.Proofs.Ytmomjannlnafcaa.Sim
open Go.Proofs
open Go.ChangeShapes Go.WideShapes Go.Deep
/-- The cells of n jobs; the After of job k lies in block e0 + k. -/
def jobCs (F : Nat → Job) (s : Nat → Value) (e0 n : Nat) : List Value := (List.range n).flatMap fun k => (F k).cells (mkV2 (e0 + k) (s k))
theorem jobCs_succ (F : Nat → Job) (s : Nat → Value) (e0 n : Nat) : jobCs F s e0 (n + 1) = jobCs F s e0 n ++ (F n).cells (mkV2 (e0 + n) (s n)) := by
  simp [jobCs, List.range_succ, List.flatMap_append]
theorem jobCs_len (F : Nat → Job) (s : Nat → Value) (e0 : Nat) : ∀ n, (jobCs F s e0 n).length = n * 4
  | 0 => rfl
  | n + 1 => by rw [jobCs_succ, List.length_append, jobCs_len F s e0 n]; simp [Job.cells]; omega
theorem jobCs_get (F : Nat → Job) (s : Nat → Value) (e0 : Nat) : ∀ n k, k < n → ∀ q v, ((F k).cells (mkV2 (e0 + k) (s k)))[q]? = some v → (jobCs F s e0 n)[k * 4 + q]? = some v
  | 0, k, h, _, _, _ => by omega
  | n + 1, k, h, q, v, hq => by
    have hq4 : q < 4 := by have := (List.getElem?_eq_some_iff.1 hq).1; simpa [Job.cells] using this
    rw [jobCs_succ]
    rcases Nat.lt_succ_iff_lt_or_eq.1 h with h' | h'
    · rw [List.getElem?_append_left (by rw [jobCs_len]; omega)]
      exact jobCs_get F s e0 n k h' q v hq
    · subst h'
      rw [List.getElem?_append_right (by rw [jobCs_len]; omega), jobCs_len, Nat.add_sub_cancel_left]
      exact hq
theorem cells4 (x : Job) (w : Value) (q : Nat) (v : Value) (h : (x.cells w)[q]? = some v) : q = 0 ∧ v = .int .i64 x.time ∨ q = 1 ∧ v = .int .i64 x.due ∨ q = 2 ∧ v = .int .i64 x.weight ∨ q = 3 ∧ v = w := by
  match q, h with
  | 0, h => simp [Job.cells] at h; exact .inl ⟨rfl, h.symm⟩
  | 1, h => simp [Job.cells] at h; exact .inr (.inl ⟨rfl, h.symm⟩)
  | 2, h => simp [Job.cells] at h; exact .inr (.inr (.inl ⟨rfl, h.symm⟩))
  | 3, h => simp [Job.cells] at h; exact .inr (.inr (.inr ⟨rfl, h.symm⟩))
  | q + 4, h => simp [Job.cells] at h
section
variable {H : Type} {enc : TypeId × Value → H} {P : Program} {w : World} {base : Nat} {held : Bool}
theorem arg_jobs {r : Reach} {b0 : Nat} {T e tS tI : TypeId} {fs : Array Field} {a : Option Addr} {n c : Nat} {d : DataW H} {p : List MemPlace} (ht : P.underlying T = some (.slice e)) (he : P.underlying e = some (.struct fs)) (hone : oneCellFields P fs = true) (hC : P.cellsOf e = fs.size) (hsz : fs.size = 4)
    (hI : ∀ j f, j < 3 → fs[j]? = some f → P.underlying f.type = some (.int .i64)) (hS : ∀ f, fs[3]? = some f → f.type = tS) (hS1 : P.underlying tS = some (.slice tI)) (hS2 : P.underlying tI = some (.int .i64)) (hS3 : P.cellsOf tI = 1)
    (hok : Value.okWide P w r b0 T (.slice a n c)) (h : DataW.Trod enc P w base (fun _ => true) held T (.slice a n c) d p) :
    ∃ (F : Nat → Job) (s : Nat → Value), n ≤ maxLen ∧ (∀ k, (F k).after.length ≤ maxLen) ∧ (∀ R k, OkB w R (s k, iv (F k).after)) ∧
      (∀ (bs : List AR) (e0 : Nat), (∀ k, k < n → bs[e0 + k]? = some (s k, iv (F k).after)) → OkB w (plN bs) (.slice a n c, jobCs F s e0 n)) ∧
      (∀ (bs : List AR) (i e0 : Nat), bs[i]? = some (.slice a n c, jobCs F s e0 n) → (∀ k, k < n → bs[e0 + k]? = some (s k, iv (F k).after)) → Jobs (bs.map mkB2) (mkV2 i (.slice a n c)) ((List.range n).map F)) := by
  obtain ⟨fuel, h⟩ := h
  rcases ok_slice ht hok with ⟨rfl, rfl, rfl⟩ | ⟨b, o, rfl, hle, hlt⟩
  · exact ⟨fun _ => default, fun _ => .slice none 0 0, by unfold maxLen; omega, fun _ => by show ([] : List Int).length ≤ _; simp, fun R k => .inl rfl, fun bs e0 _ => .inl rfl, fun bs i e0 hi _ =>
      ⟨i, 0, .inl ⟨rfl, rfl⟩, by simp; exact (List.getElem?_eq_some_iff.1 hi).1, fun k hk => by simp at hk⟩⟩
  · rcases open_slice_fields ht he hone hC h with ⟨hcs, _⟩ | ⟨x, l, cap, m, D, Pl, hcs, _, hl, hm, hmm, _, hrow⟩
    · simp [Value.cells] at hcs
    · simp [Value.cells] at hcs
      obtain ⟨rfl, rfl, rfl⟩ := hcs
      rw [if_pos rfl] at hmm
      have key : ∀ k : Nat, ∃ q : Job × Value, q.1.after.length ≤ maxLen ∧ (∀ R, OkB w R (q.2, iv q.1.after)) ∧ (∀ (bs : List AR) (i : Nat), bs[i]? = some (q.2, iv q.1.after) → Ints (bs.map mkB2) (mkV2 i q.2) q.1.after) ∧
          (k < n → w.cell? ⟨b, o + (k * 4 + 0), none⟩ = some (.int .i64 q.1.time) ∧ w.cell? ⟨b, o + (k * 4 + 1), none⟩ = some (.int .i64 q.1.due) ∧ w.cell? ⟨b, o + (k * 4 + 2), none⟩ = some (.int .i64 q.1.weight) ∧ w.cell? ⟨b, o + (k * 4 + 3), none⟩ = some q.2) := fun k => by
        by_cases hk : k < n
        · obtain ⟨ys, nn, _, _, _, hf⟩ := hrow k (by omega)
          rw [hsz] at hf
          have fi : ∀ j, j < 3 → ∃ z : Int, w.cell? ⟨b, o + (k * 4 + j), none⟩ = some (.int .i64 z) := fun j hj => by
            have hfj : fs[j]? = some (fs[j]'(by omega)) := Array.getElem?_eq_getElem (by omega)
            obtain ⟨v, y, h1, _, h3⟩ := hf j _ hfj
            obtain ⟨z, hz, _⟩ := DataW.trod_int (hI j _ hj hfj) h3
            simp at hz
            subst hz
            rw [Addr.add_lit] at h1
            exact ⟨z, h1⟩
          obtain ⟨z0, g0'⟩ := fi 0 (by omega)
          obtain ⟨z1, g1'⟩ := fi 1 (by omega)
          obtain ⟨z2, g2'⟩ := fi 2 (by omega)
          have hf3 : fs[3]? = some (fs[3]'(by omega)) := Array.getElem?_eq_getElem (by omega)
          obtain ⟨v, y, h1, _, h3⟩ := hf 3 _ hf3
          rw [hS _ hf3] at h3
          rw [Addr.add_lit] at h1
          obtain ⟨l, l1, l2, l3⟩ := ints_sl hS1 hS2 hS3 h3
          exact ⟨(⟨z0, z1, z2, l⟩, v), l1, l2, l3, fun _ => ⟨g0', g1', g2', h1⟩⟩
        · exact ⟨(default, .slice none 0 0), by show ([] : List Int).length ≤ _; simp, fun R => .inl rfl, fun bs i hi => ⟨i, 0, .inl ⟨rfl, rfl⟩, by simp; exact (List.getElem?_eq_some_iff.1 hi).1, fun k hk => by simp [default, instInhabitedJob] at hk⟩, fun h => absurd h hk⟩
      obtain ⟨G, hG⟩ := Classical.axiomOfChoice key
      refine ⟨fun k => (G k).1, fun k => (G k).2, by omega, fun k => (hG k).1, fun R k => (hG k).2.1 R, fun bs e0 hbs => ?_, fun bs i e0 hi hbs => ?_⟩
      · cases c with
        | zero =>
          obtain rfl : n = 0 := by omega
          exact .inr (.inl ⟨⟨b, o, none⟩, rfl⟩)
        | succ c =>
          refine .inr (.inr ⟨b, o, n, c, rfl, hle, hlt, fun j x hj => ?_⟩)
          have hjl := (List.getElem?_eq_some_iff.1 hj).1
          simp only [jobCs_len] at hjl
          have hk : j / 4 < n := by omega
          have hj4 : j % 4 < 4 := Nat.mod_lt _ (by omega)
          have e : j = j / 4 * 4 + j % 4 := by omega
          generalize hkk : j / 4 = k at *
          generalize hqq : j % 4 = q at *
          subst e
          have hcells : ∃ v, ((G k).1.cells (mkV2 (e0 + k) (G k).2))[q]? = some v := ⟨_, List.getElem?_eq_getElem (by simpa [Job.cells] using hj4)⟩
          obtain ⟨v, hv⟩ := hcells
          have hget := jobCs_get (fun k => (G k).1) (fun k => (G k).2) e0 n k hk q v hv
          simp only at hj
          rw [hget] at hj
          injection hj with hj
          subst hj
          obtain ⟨c0, c1, c2, c3⟩ := (hG k).2.2.2 hk
          rcases cells4 _ _ _ _ hv with ⟨rfl, rfl⟩ | ⟨rfl, rfl⟩ | ⟨rfl, rfl⟩ | ⟨rfl, rfl⟩
          · exact ⟨_, c0, .int _ _⟩
          · exact ⟨_, c1, .int _ _⟩
          · exact ⟨_, c2, .int _ _⟩
          · exact ⟨_, c3, relN (hbs k hk) ((hG k).2.1 (fun _ => none))⟩
      · have hlen : i < (bs.map mkB2).length := by simp; exact (List.getElem?_eq_some_iff.1 hi).1
        refine ⟨i, 0, by simpa [mkV2] using Sl.mk (Nat.le_refl n), hlen, fun k hk => ?_⟩
        have hk' : k < n := by simpa using hk
        have eg : ((List.range n).map fun k => (G k).1).getD k default = (G k).1 := by simp [hk']
        rw [eg]
        refine ⟨mkV2 (e0 + k) (G k).2, ?_, (hG k).2.2.1 bs (e0 + k) (hbs k hk')⟩
        cases c with
        | zero => omega
        | succ c =>
          refine ⟨{ cells := jobCs (fun k => (G k).1) (fun k => (G k).2) e0 n, kind := .ro }, by rw [List.getElem?_map, hi]; rfl, fun j v hj => ?_⟩
          rw [Nat.zero_add]
          exact jobCs_get _ _ e0 n k hk' j v hj
end
end Go.Proofs.Ytmomjannlnafcaa.Abs
namespace Go.Proofs.Ytmomjannlnafcaa.Abs
set_option linter.unusedSimpArgs false
set_option linter.unusedVariables false
open Go.RowKit
open Go.Proofs.Ytmomjannlnafcaa.Sim
open Go.Proofs
theorem short_rows {F : Nat → Job} {n : Nat} (h : n ≤ maxLen) (hF : ∀ k, (F k).after.length ≤ maxLen) : Short ((List.range n).map F) := by
  unfold maxLen at *
  refine ⟨by simp; omega, fun k hk => ?_⟩
  have hk' : k < n := by simpa using hk
  have e : ((List.range n).map F).getD k default = F k := by simp [hk']
  rw [e]
  have := hF k
  omega
end Go.Proofs.Ytmomjannlnafcaa.Abs
