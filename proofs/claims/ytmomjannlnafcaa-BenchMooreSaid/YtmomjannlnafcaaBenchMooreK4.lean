/- Proved here: what the proof of BenchMoore rests on, part 4 of 5. Conditions: those that each theorem names. -/
import Derived.Test.YtmomjannlnafcaaBenchMooreK3
namespace Go.Proofs.Ytmomjannlnafcaa.Abs
set_option linter.unusedSimpArgs false
set_option linter.unusedVariables false
open Go.RowKit
open Go.Proofs.Ytmomjannlnafcaa.Sim
open Go.Proofs
theorem sort_okZ {M L L' : AM} {k n c : Nat} {kd : Kind} {l z : List Int} (hb : L[k]? = some (some { cells := iv (l ++ z), kind := kd, size := 1 })) (hs : kd.solid = true) (hn : n = l.length) (hlen : l.length ≤ 100000) (hL : L.set k (some { cells := iv (srt l ++ z), kind := kd, size := 1 }) = L') :
    ACall Try.prog 114 #[.slice (some ⟨M.length + k, 0, none⟩) n c] (M ++ L) (Ret (.tuple #[]) (M ++ L')) := by
  subst hL
  rw [← set_app]
  exact (sort_callZ (b := { cells := iv (l ++ z), kind := kd, size := 1 }) (by rw [get_app]; exact hb) hs rfl hn (srt_len l) fun blk off cap w hH hlt => AnyG.slices_Sort_int sortInt blk off cap l w hH hlt (by omega)).mono (fun _ _ ⟨a, b⟩ => ⟨a.symm, b.symm⟩)
/-- The longest of the chosen. -/
def lgJ (j : List Job) (on : List Int) : Int := mxI (cM j) on (on.length - 1)
structure MS where
  on : List Int
  sum : Int
def mStep (j : List Job) (s : MS) (x : Int) : MS :=
  if s.sum + (jb j x).time ≤ (jb j x).due then ⟨s.on ++ [x], s.sum + (jb j x).time⟩
  else ⟨(s.on ++ [x]).filter (fun y => !decide (y = lgJ j (s.on ++ [x]))), s.sum + (jb j x).time - (jb j (lgJ j (s.on ++ [x]))).time⟩
def mooN (j : List Job) : Nat → MS
  | 0 => ⟨[], 0⟩
  | k + 1 => mStep j (mooN j k) ((eddL j).getD k 0)
theorem eddL_mem {j : List Job} {x : Int} : x ∈ eddL j ↔ 0 ≤ x ∧ x < j.length := by rw [eddL, ms_mem]; exact upI_mem
theorem eddL_in {j : List Job} {k : Nat} (h : k < j.length) : 0 ≤ (eddL j).getD k 0 ∧ (eddL j).getD k 0 < j.length :=
  eddL_mem.1 (mem_getD' (by rw [eddL_len]; exact h))
theorem eddL_nodup (j : List Job) : (eddL j).Nodup := (ms_perm.nodup_iff).2 (upI_nodup j.length)
theorem nodup_snoc {l : List Int} {x : Int} (h : l.Nodup) (hx : x ∉ l) : (l ++ [x]).Nodup := by
  rw [List.nodup_append]
  refine ⟨h, by simp, fun a ha b hb e => hx ?_⟩
  obtain rfl : b = x := by simpa using hb
  exact e ▸ ha
structure MInv (j : List Job) (k : Nat) (s : MS) : Prop where
  len : s.on.length ≤ k
  mem : ∀ x ∈ s.on, x ∈ (eddL j).take k
  nd : s.on.Nodup
  sum : s.sum = sumJ j s.on
theorem take_new {j : List Job} {k : Nat} (hk : k < j.length) {s : List Int} (h : ∀ x ∈ s, x ∈ (eddL j).take k) : (eddL j).getD k 0 ∉ s := fun hm => by
  have h1 := h _ hm
  obtain ⟨i, hi, e⟩ := List.getElem_of_mem h1
  simp only [List.length_take] at hi
  rw [List.getElem_take] at e
  have hk' : k < (eddL j).length := by rw [eddL_len]; omega
  rw [List.getD_eq_getElem?_getD, List.getElem?_eq_getElem hk', Option.getD_some] at e
  have := (List.getElem_inj (eddL_nodup j)).1 e
  omega
theorem mooN_inv (j : List Job) : ∀ k, k ≤ j.length → MInv j k (mooN j k)
  | 0, _ => ⟨by simp [mooN], by simp [mooN], by simp [mooN], by simp [mooN, sumJ, sm]⟩
  | k + 1, hk => by
    have h := mooN_inv j k (by omega)
    have ts := take_snoc (eddL j) k 0 (by rw [eddL_len]; omega)
    have hx : (eddL j).getD k 0 ∉ (mooN j k).on := take_new (by omega) h.mem
    have m2 : ∀ x ∈ (mooN j k).on ++ [(eddL j).getD k 0], x ∈ (eddL j).take (k + 1) := fun x hx => by
      rw [ts]
      rcases List.mem_append.1 hx with h' | h'
      · exact List.mem_append.2 (.inl (h.mem x h'))
      · exact List.mem_append.2 (.inr h')
    have n2 : ((mooN j k).on ++ [(eddL j).getD k 0]).Nodup := nodup_snoc h.nd hx
    have s2 : (mooN j k).sum + (jb j ((eddL j).getD k 0)).time = sumJ j ((mooN j k).on ++ [(eddL j).getD k 0]) := by
      rw [h.sum, sumJ_list, sumJ_list, List.map_append, List.sum_append]; simp
    have l2 : ((mooN j k).on ++ [(eddL j).getD k 0]).length ≤ k + 1 := by have := h.len; simp; omega
    have l3 : 0 < ((mooN j k).on ++ [(eddL j).getD k 0]).length := by simp
    simp only [mooN, mStep]
    split
    · exact ⟨l2, m2, n2, s2⟩
    · rw [s2]
      generalize (mooN j k).on ++ [(eddL j).getD k 0] = on2 at *
      refine ⟨?_, fun x hx => m2 x (List.mem_filter.1 hx).1, n2.filter _, ?_⟩
      · have := filter_one n2 (mxI_mem (cM j) (on2.length - 1) (by omega))
        show (List.filter _ on2).length ≤ k + 1
        unfold lgJ
        omega
      · exact (sum_filter n2 (mxI_mem (cM j) (on2.length - 1) (by omega))).symm
/-- A slice with room behind it. -/
def sv (a : Nat) (O Z : List Int) : Value := if (O ++ Z).length = 0 then .slice none 0 0 else .slice (some ⟨a, 0, none⟩) O.length (O ++ Z).length
theorem sv_pos {a : Nat} {O Z : List Int} (h : 0 < (O ++ Z).length) : sv a O Z = .slice (some ⟨a, 0, none⟩) O.length (O ++ Z).length := if_neg (by omega)
theorem sv_nil (a : Nat) (O : List Int) : sv a O [] = gv a O.length := by unfold sv gv; simp
theorem del_two {M L : AM} {k p n c : Nat} {A Z : List Int} (i : Int) (h0 : L[k]? = some (some { cells := iv (A ++ Z), kind := .grow, size := 1 })) (hp : L[p]? = some (some { cells := [.int .i64 i] })) (hp0 : p ≠ k) (hn : A.length = n) (hnc : n ≤ c) (hc : c ≤ 1000000) :
    ACall Try.prog 82 #[.slice (some ⟨M.length + k, 0, none⟩) n c, .func (.func 120) #[] #[.pointer (some ⟨M.length + p, 0, none⟩)]] (M ++ L) (Ret (.slice (some ⟨M.length + k, 0, none⟩) (A.filter fun x => !decide (x = i)).length c) (M ++ L.set k (some { cells := iv ((A.filter fun x => !decide (x = i)) ++ (List.replicate (n - (A.filter fun x => !decide (x = i)).length) 0 ++ Z)), kind := .grow, size := 1 }))) := by
  subst hn
  have hlt : M.length + k < (M ++ L).length := by have := (List.getElem?_eq_some_iff.1 h0).1; simp; omega
  have hd := delete_ok (m := M ++ L) (r := M.length + k) (s := 1) (kd := .grow) (A := A) (Z := Z) (c := c) (g := 120) (cap := #[.pointer (some ⟨M.length + p, 0, none⟩)]) (fun x => decide (x = i)) hlt rfl Try.func120 rfl rfl hnc hc
    (fun row x _ => f120_ok x i (St.rd_ne (Rd.new hp rfl) (by omega)))
  rw [St.self (by rw [get_app]; exact h0)] at hd
  have hset : St (M ++ L) (M.length + k) .grow 1 ((A.filter fun x => !decide (x = i)) ++ List.replicate (A.length - (A.filter fun x => !decide (x = i)).length) 0 ++ Z) = M ++ L.set k (some { cells := iv ((A.filter fun x => !decide (x = i)) ++ (List.replicate (A.length - (A.filter fun x => !decide (x = i)).length) 0 ++ Z)), kind := .grow, size := 1 }) := by
    unfold St; rw [set_app, List.append_assoc]
  rw [hset] at hd
  exact hd
/-- The jobs that Moore's rule leaves, by number. -/
def mooL (j : List Job) : List Int := srt (mooN j j.length).on
set_option maxHeartbeats 4000000 in
set_option maxRecDepth 100000 in
theorem moore_ok {m : AM} {v : Value} {j : List Job} (hj : Jobs m v j) (hJ : JOk j) : ACall Try.prog 97 #[v] m (More (fun M u => Ints M u (mooL j) ∧ ∃ q c, u = .slice q (mooL j).length c) m) := by
  obtain ⟨a, o, h1, h2, h3⟩ := id hj
  have h40 := hJ.len
  have hv := h1.cells
  have el := eddL_len j
  refine ACall.start Try.func97 rfl rfl ?_
  (repeat (first | (with_reducible refine AWo.cons ?_) | ((with_reducible refine Step.id ?_); first | ((with_reducible apply Step.move); exact rfl; exact rfl) | ((with_reducible apply Step.assign); exact rfl; exact rfl) | ((with_reducible apply Step.load); exact rfl; (focus (decide +kernel)); exact rfl; (focus (exact Rd.new rfl rfl))) | ((with_reducible apply Step.len); exact rfl; (focus (exact Sl.mk (by omega))); (focus (decide +kernel)); exact rfl) | ((with_reducible apply Step.callN fit (k := 1)); exact rfl; exact rfl; exact Try.func115; exact rfl; exact rfl; exact (sortedJ_ok (hj.old _) h40); (focus (first | (simp only [List.nil_append, List.cons_append, List.set_cons_zero, List.set_cons_succ, iv_set, bv_set, iv_rep, bv_rep]; done) | (simp only [List.nil_append, List.cons_append, List.set_cons_zero, List.set_cons_succ, iv_set, bv_set, iv_rep, bv_rep]; rfl) | rfl))) | ((with_reducible apply Step.boxV 0); exact rfl; exact rfl; (focus (assumption)); exact rfl; (focus (first | (simp only [List.nil_append, List.cons_append, List.set_cons_zero, List.set_cons_succ, iv_set, bv_set, iv_rep, bv_rep]; done) | (simp only [List.nil_append, List.cons_append, List.set_cons_zero, List.set_cons_succ, iv_set, bv_set, iv_rep, bv_rep]; rfl) | rfl)))) | (with_reducible refine AWo.nil ?_) | ((with_reducible apply AW.seq)) | ((with_reducible apply Then.n)) | ((with_reducible apply AW.regL)) | ((with_reducible apply AW.block))))
  refine AW.loopT (fun n' t L => ∃ (k : Nat) (Z : List Int), n' = j.length - k ∧ k ≤ j.length ∧ ((mooN j k).on ++ Z).length ≤ k ∧ L = [some { cells := [v] }, some { cells := iv (eddL j) }, gb (iv ((mooN j k).on ++ Z)) 1] ∧
    t = [(1, .pointer (some ⟨m.length + 0, 0, none⟩)), (3, sv (m.length + 2) (mooN j k).on Z), (4, .int .i64 (mooN j k).sum), (9, .slice (some ⟨m.length + 1, 0, none⟩) j.length j.length), (10, .int .i64 (j.length : Nat)), (11, .int .i64 (k : Nat))])
    ⟨_, [(1, .pointer (some ⟨m.length + 0, 0, none⟩)), (3, .slice none 0 0), (4, .int .i64 0), (9, .slice (some ⟨m.length + 1, 0, none⟩) j.length j.length), (10, .int .i64 (j.length : Nat)), (11, .int .i64 ((0 : Nat) : Int))], [some { cells := [v] }, some { cells := iv (eddL j) }] ++ [none], (Back.padC rfl (by repeat (first | exact trivial | (refine And.intro ⟨rfl, by (first | exact .int _ _ | exact Ren.of_g0 rfl | exact .slice _ _ _ _ (by first | (simp; done) | omega | (simp; omega)) | exact .ptr _ _ (by first | (simp; done) | omega | (simp; omega)))⟩ ?_))) (by repeat (first | exact CellsP.nil | (refine CellsP.cons ?_ ?_; (focus (first | exact cells_iv _ | ((repeat (first | exact cells_nil | (refine cells_cons ?_ ?_; (focus (exact Ren.of_sl (by assumption) (by first | omega | (simp; omega))))))); done))))))), 0, [], rfl, Nat.zero_le _, by simp [mooN], rfl, rfl⟩ ?_
  rintro n' t L ⟨k, Z, rfl, hk, hZ, rfl, rfl⟩
  have el' := eddL_len j
  have inv := mooN_inv j k hk
  rcases Nat.lt_or_ge k j.length with hlt | hge
  · have hx := eddL_in hlt
    have inv2 := mooN_inv j (k + 1) hlt
    have stp : mooN j (k + 1) = mStep j (mooN j k) ((eddL j).getD k 0) := rfl
    have hre : ∀ b L, Rd (m ++ (b :: some { cells := iv (eddL j) } :: L)) (m.length + 1) k (.int .i64 ((eddL j).getD k 0)) := fun b L => Rd.new rfl (iv_get (by omega))
    have hin : InJ j ((mooN j k).on ++ [(eddL j).getD k 0]) := fun y hy => by
      rcases List.mem_append.1 hy with h | h
      · exact eddL_mem.1 (List.mem_of_mem_take (inv.mem y h))
      · obtain rfl : y = (eddL j).getD k 0 := by simpa using h
        exact hx
    have sb := sumJ_bd hJ hin _ (Nat.le_refl _)
    have sb' : 0 ≤ sumJ j ((mooN j k).on ++ [(eddL j).getD k 0]) ∧ sumJ j ((mooN j k).on ++ [(eddL j).getD k 0]) ≤ 400000 := by
      have := inv.len
      unfold sumJ
      simp only [List.length_append, List.length_singleton] at sb ⊢
      omega
    have s2 : sumJ j ((mooN j k).on ++ [(eddL j).getD k 0]) = (mooN j k).sum + (jb j ((eddL j).getD k 0)).time := by
      rw [inv.sum, sumJ_list, sumJ_list, List.map_append, List.sum_append]; simp
    have lgm : lgJ j ((mooN j k).on ++ [(eddL j).getD k 0]) ∈ (mooN j k).on ++ [(eddL j).getD k 0] := mxI_mem _ _ (by simp)
    have hlg := hin _ lgm
    have ilen := inv.len
    have fone := filter_one (nodup_snoc inv.nd (x := (eddL j).getD k 0) (take_new hlt inv.mem)) lgm
    clear sb inv inv2
    rw [s2] at sb'
    generalize (eddL j).getD k 0 = x at *
    obtain ⟨S2, hS2⟩ : ∃ S2, mooN j (k + 1) = S2 := ⟨_, rfl⟩
    rw [hS2] at stp
    generalize mooN j k = S at *
    obtain ⟨on, sum⟩ := S
    simp only at *
    obtain ⟨x, rfl⟩ := Int.eq_ofNat_of_zero_le hx.1
    have hxn : x < j.length := by omega
    obtain ⟨w, hr, hw⟩ := h3 x hxn
    have hnum := hJ.num x hxn
    have hbr : ∀ L, Rd (m ++ (some { cells := [v] } :: L)) (m.length + 0) 0 v := fun L => Rd.new rfl rfl
    simp only [mStep, jb, Int.toNat_natCast] at stp s2 sb'
    obtain ⟨g, hg⟩ := Int.eq_ofNat_of_zero_le hlg.1
    have hgn : g < j.length := by omega
    obtain ⟨wg, hrg, hwg⟩ := h3 g hgn
    have hnumg := hJ.num g hgn
    have hmx : ∀ (L : AM) (q c : Nat), Ints (m ++ (some { cells := [v] } :: L)) (.slice (some ⟨m.length + q, 0, none⟩) (on.length + 1) c) (on ++ [(x : Int)]) → ACall Try.prog 117 #[.slice (some ⟨m.length + q, 0, none⟩) (on.length + 1) c, .func (.func 118) #[] #[.pointer (some ⟨m.length + 0, 0, none⟩)]] (m ++ (some { cells := [v] } :: L)) (Ret (.int .i64 (g : Nat)) (m ++ (some { cells := [v] } :: L))) := fun L q c hi => by
      rw [← hg]
      exact max_ok hi (by simp) (by simp; omega) Try.func118 rfl (cM j) fun p q hp hq => f118_ok (hj.old _) (hbr L) p q (hin p hp) (hin q hq)
    rw [hg] at stp fone
    simp only [Int.toNat_natCast] at stp
    clear lgm hlg hg hin s2
    have hol : (iv on).length = on.length * 1 := by rw [iv_len]; omega
    have on2l : (on ++ [(x : Int)]).length = on.length + 1 := by simp
    have fx0 : ∀ L : AM, Rd (m ++ L) a (o + x * 4 + 0) (.int .i64 (j.getD x default).time) := fun L => (hr.old L).at_ 0 rfl
    have fx1 : ∀ L : AM, Rd (m ++ L) a (o + x * 4 + 1) (.int .i64 (j.getD x default).due) := fun L => (hr.old L).at_ 1 rfl
    have fg0 : ∀ L : AM, Rd (m ++ L) a (o + g * 4 + 0) (.int .i64 (j.getD g default).time) := fun L => (hrg.old L).at_ 0 rfl
    clear hr hrg hw hwg
    generalize (j.getD x default).time = x1 at *
    generalize (j.getD x default).due = x2 at *
    generalize (j.getD g default).time = g1 at *
    cases Z with
    | nil =>
      rw [sv_nil, List.append_nil]
      have ea : iv on ++ [Value.int .i64 (x : Int)] = iv (on ++ [(x : Int)]) := by simp [iv]
      have hg0 : ∀ v ∈ iv on ++ [Value.int .i64 (x : Int)], g0 v = true := by rw [ea]; exact g0_iv _
      by_cases hle : sum + x1 ≤ x2
      · rw [if_pos hle] at stp
        subst stp
        (repeat (first | (with_reducible refine AWo.cons ?_) | ((with_reducible refine Step.id ?_); first | ((with_reducible apply Step.move); exact rfl; exact rfl) | ((with_reducible apply Step.assign); exact rfl; exact rfl) | ((with_reducible apply Step.load); exact rfl; (focus (decide +kernel)); exact rfl; (focus (exact hre _ _))) | ((with_reducible apply Step.ix1z); exact rfl; (focus (exact Sl.mk (by omega))); exact rfl; (focus (decide +kernel)); exact rfl; (focus (omega))) | ((with_reducible apply Step.lss); exact rfl; exact rfl; exact rfl) | ((with_reducible apply Step.buildS 3); exact rfl; exact rfl; exact (fun _ _ => bs23x); exact rfl; (focus (first | (simp only [List.nil_append, List.cons_append, List.set_cons_zero, List.set_cons_succ, iv_set, bv_set, iv_rep, bv_rep]; done) | (simp only [List.nil_append, List.cons_append, List.set_cons_zero, List.set_cons_succ, iv_set, bv_set, iv_rep, bv_rep]; rfl) | rfl)))) | (with_reducible refine AWo.nil ?_) | ((with_reducible apply AW.seq)) | ((with_reducible apply Then.n)) | ((with_reducible apply AW.regL)) | ((with_reducible apply AW.block)) | ((with_reducible apply AW.skip)) | ((with_reducible apply AW.condT); exact rfl; (focus ((simp only [decide_eq_true_eq, decide_eq_false_iff_not, Bool.not_eq_true', Bool.not_eq_false', Bool.not_true, Bool.not_false]; first | assumption | omega))))))
        ((with_reducible apply Step.appG (k := 4)); exact rfl; exact rfl; exact rfl; exact el23; exact un23; exact rfl; exact rfl; exact rfl; exact hol; exact rfl; exact rfl; exact rfl; (focus (omega)); exact rfl; (focus (first | (simp only [List.nil_append, List.cons_append, List.set_cons_zero, List.set_cons_succ, iv_set, bv_set, iv_rep, bv_rep]; done) | (simp only [List.nil_append, List.cons_append, List.set_cons_zero, List.set_cons_succ, iv_set, bv_set, iv_rep, bv_rep]; rfl) | rfl)))
        (repeat (first | (with_reducible refine AWo.cons ?_) | ((with_reducible refine Step.id ?_); first | ((with_reducible apply Step.move); exact rfl; exact rfl) | ((with_reducible apply Step.assign); exact rfl; exact rfl) | ((with_reducible apply Step.load); exact rfl; (focus (decide +kernel)); exact rfl; (focus (first | exact hbr _ | exact fx0 _ | exact fx1 _))) | ((with_reducible apply Step.ix (s := 4)); exact rfl; (focus (assumption)); exact rfl; (focus (decide +kernel)); exact rfl; (focus (omega))) | ((with_reducible apply Step.field0); exact rfl; (focus (decide +kernel)); exact rfl) | ((with_reducible apply Step.field (k := 1)); exact rfl; (focus (decide +kernel)); exact rfl) | ((with_reducible apply Step.add); exact rfl; exact rfl; (focus (omega)); exact rfl) | ((with_reducible apply Step.leq); exact rfl; exact rfl; exact rfl)) | (with_reducible refine AWo.nil ?_) | ((with_reducible apply AW.seq)) | ((with_reducible apply Then.n)) | ((with_reducible apply AW.regL)) | ((with_reducible apply AW.exit)) | ((with_reducible apply InBlk.hit)) | ((with_reducible apply Then.e)) | ((with_reducible apply AW.condT); exact rfl; (focus ((simp only [decide_eq_true_eq, decide_eq_false_iff_not, Bool.not_eq_true', Bool.not_eq_false', Bool.not_true, Bool.not_false]; first | assumption | omega))))))
        refine ⟨_, [(1, .pointer (some ⟨m.length + 0, 0, none⟩)), (3, .slice (some ⟨m.length + 2, 0, none⟩) (on.length + 1) (on.length + 1)), (4, .int .i64 (sum + x1)), (9, .slice (some ⟨m.length + 1, 0, none⟩) j.length j.length), (10, .int .i64 (j.length : Nat)), (11, .int .i64 ((k + 1 : Nat) : Int))], [some { cells := [v] }, some { cells := iv (eddL j) }, some { cells := iv on ++ [.int .i64 (x : Int)], kind := .grow, size := 1 }], ?_, (Back.mvC 2 4 rfl rfl rfl rfl (by intro j b hj h; rcases j with _ | _ | _ | _ | _ | _ | _ | _ | j <;> first | exact absurd rfl hj | exact h | (simp at h; done)) (by repeat (first | exact CellsP.nil | (refine CellsP.cons ?_ ?_; (focus (first | exact cells_iv _ | exact cells_g0 (by assumption) | ((repeat (first | exact cells_nil | (refine cells_cons ?_ ?_; (focus (exact Ren.of_sl_ne (by assumption) (by first | omega | (simp; omega)) (by first | omega | (simp; omega))))))); done)))))) (by repeat (first | exact trivial | (refine And.intro ⟨_, rfl, by (first | exact .int _ _ | exact Ren.slice_mv (by first | (simp; done) | omega | (simp; omega)) | exact Ren.slice_ne (by first | (simp; done) | omega | (simp; omega)) (by omega) | exact Ren.ptr_ne (by first | (simp; done) | omega | (simp; omega)) (by omega))⟩ ?_)))), k + 1, [], rfl, hlt, ?_, ?_, ?_⟩
        · omega
        · rw [hS2]; simp; simp at hZ; omega
        · rw [hS2, ea]; show _ = [_, _, gb (iv (_ ++ _)) 1]; rw [gb_pos (by rw [iv_len]; simp)]; simp
        · rw [hS2]; show _ = [_, (3, sv _ (on ++ [(x : Int)]) _), _, _, _, _]; rw [sv_pos (by simp)]; simp
      · rw [if_neg hle] at stp
        subst stp
        have dl := del_two (M := m) (L := [some { cells := [v] }, some { cells := iv (eddL j) }, none, some { cells := [.int .i64 (x : Nat)] }, some { cells := iv on ++ [.int .i64 (x : Int)], kind := .grow, size := 1 }, some { cells := [.int .i64 (g : Nat)] }]) (k := 4) (p := 5) (n := on.length + 1) (c := on.length + 1) (A := on ++ [(x : Int)]) (Z := []) (g : Nat) (by show some (some _) = _; rw [ea, List.append_nil]) rfl (by omega) on2l (by omega) (by simp at hZ; omega)
        generalize hfl : (on ++ [(x : Int)]).filter (fun y => !decide (y = ((g : Nat) : Int))) = on3 at *
        have hin2 : ∀ L : AM, L[4]? = some (some { cells := iv on ++ [.int .i64 (x : Int)], kind := .grow, size := 1 }) → Ints (m ++ L) (.slice (some ⟨m.length + 4, 0, none⟩) (on.length + 1) (on.length + 1)) (on ++ [(x : Int)]) := fun L h => ints_pre (Z := []) h (by show iv on ++ [.int .i64 (x : Int)] = _; rw [ea, List.append_nil]) on2l.symm (by omega)
        (repeat (first | (with_reducible refine AWo.cons ?_) | ((with_reducible refine Step.id ?_); first | ((with_reducible apply Step.move); exact rfl; exact rfl) | ((with_reducible apply Step.assign); exact rfl; exact rfl) | ((with_reducible apply Step.load); exact rfl; (focus (decide +kernel)); exact rfl; (focus (exact hre _ _))) | ((with_reducible apply Step.ix1z); exact rfl; (focus (exact Sl.mk (by omega))); exact rfl; (focus (decide +kernel)); exact rfl; (focus (omega))) | ((with_reducible apply Step.lss); exact rfl; exact rfl; exact rfl) | ((with_reducible apply Step.buildS 3); exact rfl; exact rfl; exact (fun _ _ => bs23x); exact rfl; (focus (first | (simp only [List.nil_append, List.cons_append, List.set_cons_zero, List.set_cons_succ, iv_set, bv_set, iv_rep, bv_rep]; done) | (simp only [List.nil_append, List.cons_append, List.set_cons_zero, List.set_cons_succ, iv_set, bv_set, iv_rep, bv_rep]; rfl) | rfl)))) | (with_reducible refine AWo.nil ?_) | ((with_reducible apply AW.seq)) | ((with_reducible apply Then.n)) | ((with_reducible apply AW.regL)) | ((with_reducible apply AW.block)) | ((with_reducible apply AW.skip)) | ((with_reducible apply AW.condT); exact rfl; (focus ((simp only [decide_eq_true_eq, decide_eq_false_iff_not, Bool.not_eq_true', Bool.not_eq_false', Bool.not_true, Bool.not_false]; first | assumption | omega))))))
        ((with_reducible apply Step.appG (k := 4)); exact rfl; exact rfl; exact rfl; exact el23; exact un23; exact rfl; exact rfl; exact rfl; exact hol; exact rfl; exact rfl; exact rfl; (focus (omega)); exact rfl; (focus (first | (simp only [List.nil_append, List.cons_append, List.set_cons_zero, List.set_cons_succ, iv_set, bv_set, iv_rep, bv_rep]; done) | (simp only [List.nil_append, List.cons_append, List.set_cons_zero, List.set_cons_succ, iv_set, bv_set, iv_rep, bv_rep]; rfl) | rfl)))
        (repeat (first | (with_reducible refine AWo.cons ?_) | ((with_reducible refine Step.id ?_); first | ((with_reducible apply Step.move); exact rfl; exact rfl) | ((with_reducible apply Step.assign); exact rfl; exact rfl) | ((with_reducible apply Step.load); exact rfl; (focus (decide +kernel)); exact rfl; (focus (first | exact hbr _ | exact fx0 _ | exact fx1 _ | exact fg0 _ | exact Rd.new rfl rfl))) | ((with_reducible apply Step.ix (s := 4)); exact rfl; (focus (assumption)); exact rfl; (focus (decide +kernel)); exact rfl; (focus (omega))) | ((with_reducible apply Step.field0); exact rfl; (focus (decide +kernel)); exact rfl) | ((with_reducible apply Step.field (k := 1)); exact rfl; (focus (decide +kernel)); exact rfl) | ((with_reducible apply Step.add); exact rfl; exact rfl; (focus (omega)); exact rfl) | ((with_reducible apply Step.sub); exact rfl; exact rfl; (focus (omega)); exact rfl) | ((with_reducible apply Step.leq); exact rfl; exact rfl; exact rfl) | ((with_reducible apply Step.fn); exact rfl; exact rfl; exact rfl) | ((with_reducible apply Step.callR fit); exact rfl; exact Try.func117; exact rfl; exact rfl; exact (hmx _ 4 _ (hin2 _ rfl))) | ((with_reducible apply Step.callM fit); exact rfl; exact Try.func82; exact rfl; exact rfl; exact (dl)) | ((with_reducible apply Step.alloc 5); exact rfl; exact ze3; exact rfl; (focus (first | (simp only [List.nil_append, List.cons_append, List.set_cons_zero, List.set_cons_succ, iv_set, bv_set, iv_rep, bv_rep]; done) | (simp only [List.nil_append, List.cons_append, List.set_cons_zero, List.set_cons_succ, iv_set, bv_set, iv_rep, bv_rep]; rfl) | rfl))) | ((with_reducible apply Step.store (k := 5)); exact rfl; exact rfl; exact rfl; exact rfl; (focus (decide +kernel)); exact rfl; exact rfl; (focus (first | omega | (simp [iv, bv]; done) | (simp [iv, bv]; omega))); (focus (first | (simp only [List.nil_append, List.cons_append, List.set_cons_zero, List.set_cons_succ, iv_set, bv_set, iv_rep, bv_rep]; done) | (simp only [List.nil_append, List.cons_append, List.set_cons_zero, List.set_cons_succ, iv_set, bv_set, iv_rep, bv_rep]; rfl) | rfl)))) | (with_reducible refine AWo.nil ?_) | ((with_reducible apply AW.seq)) | ((with_reducible apply Then.n)) | ((with_reducible apply AW.regL)) | ((with_reducible apply InBlk.n)) | ((with_reducible apply AW.skip)) | ((with_reducible apply AW.condF); exact rfl; (focus ((simp only [decide_eq_true_eq, decide_eq_false_iff_not, Bool.not_eq_true', Bool.not_eq_false', Bool.not_true, Bool.not_false]; first | assumption | omega))))))
        refine ⟨_, [(1, .pointer (some ⟨m.length + 0, 0, none⟩)), (3, .slice (some ⟨m.length + 2, 0, none⟩) on3.length (on.length + 1)), (4, .int .i64 (sum + x1 - g1)), (9, .slice (some ⟨m.length + 1, 0, none⟩) j.length j.length), (10, .int .i64 (j.length : Nat)), (11, .int .i64 ((k + 1 : Nat) : Int))], [some { cells := [v] }, some { cells := iv (eddL j) }, some { cells := iv (on3 ++ (List.replicate (on.length + 1 - on3.length) 0 ++ [])), kind := .grow, size := 1 }], ?_, (Back.mvC 2 4 rfl rfl rfl rfl (by intro j b hj h; rcases j with _ | _ | _ | _ | _ | _ | _ | _ | j <;> first | exact absurd rfl hj | exact h | (simp at h; done)) (by repeat (first | exact CellsP.nil | (refine CellsP.cons ?_ ?_; (focus (first | exact cells_iv _ | ((repeat (first | exact cells_nil | (refine cells_cons ?_ ?_; (focus (exact Ren.of_sl_ne (by assumption) (by first | omega | (simp; omega)) (by first | omega | (simp; omega))))))); done)))))) (by repeat (first | exact trivial | (refine And.intro ⟨_, rfl, by (first | exact .int _ _ | exact Ren.slice_mv (by first | (simp; done) | omega | (simp; omega)) | exact Ren.slice_ne (by first | (simp; done) | omega | (simp; omega)) (by omega) | exact Ren.ptr_ne (by first | (simp; done) | omega | (simp; omega)) (by omega))⟩ ?_)))), k + 1, List.replicate (on.length + 1 - on3.length) 0 ++ [], rfl, hlt, ?_, ?_, ?_⟩
        · omega
        · rw [hS2]; simp; simp at hZ; omega
        · rw [hS2]; show _ = [_, _, gb (iv (on3 ++ _)) 1]; rw [gb_pos (by rw [iv_len]; simp; omega)]
        · rw [hS2]; show _ = [_, (3, sv _ on3 _), _, _, _, _]; rw [sv_pos (by simp; omega)]; simp; omega
    | cons z Z =>
      have hzl : (on ++ z :: Z).length = on.length + 1 + Z.length := by simp; omega
      rw [sv_pos (by omega), gb_pos (c := iv (on ++ z :: Z)) (by rw [iv_len]; omega), hzl]
      have hcp : on.length + 1 ≤ on.length + 1 + Z.length := by omega
      have hbc : iv (on ++ z :: Z) = iv on ++ ([.int .i64 z] ++ iv Z) := by simp [iv]
      have ea : iv on ++ (Value.int .i64 (x : Int) :: iv Z) = iv ((on ++ [(x : Int)]) ++ Z) := by simp [iv]
      have hg0 : ∀ v ∈ iv on ++ (Value.int .i64 (x : Int) :: iv Z), g0 v = true := by rw [ea]; exact g0_iv _
      by_cases hle : sum + x1 ≤ x2
      · rw [if_pos hle] at stp
        subst stp
        (repeat (first | (with_reducible refine AWo.cons ?_) | ((with_reducible refine Step.id ?_); first | ((with_reducible apply Step.move); exact rfl; exact rfl) | ((with_reducible apply Step.assign); exact rfl; exact rfl) | ((with_reducible apply Step.load); exact rfl; (focus (decide +kernel)); exact rfl; (focus (exact hre _ _))) | ((with_reducible apply Step.ix1z); exact rfl; (focus (exact Sl.mk (by omega))); exact rfl; (focus (decide +kernel)); exact rfl; (focus (omega))) | ((with_reducible apply Step.lss); exact rfl; exact rfl; exact rfl) | ((with_reducible apply Step.buildS 3); exact rfl; exact rfl; exact (fun _ _ => bs23x); exact rfl; (focus (first | (simp only [List.nil_append, List.cons_append, List.set_cons_zero, List.set_cons_succ, iv_set, bv_set, iv_rep, bv_rep]; done) | (simp only [List.nil_append, List.cons_append, List.set_cons_zero, List.set_cons_succ, iv_set, bv_set, iv_rep, bv_rep]; rfl) | rfl)))) | (with_reducible refine AWo.nil ?_) | ((with_reducible apply AW.seq)) | ((with_reducible apply Then.n)) | ((with_reducible apply AW.regL)) | ((with_reducible apply AW.block)) | ((with_reducible apply AW.skip)) | ((with_reducible apply AW.condT); exact rfl; (focus ((simp only [decide_eq_true_eq, decide_eq_false_iff_not, Bool.not_eq_true', Bool.not_eq_false', Bool.not_true, Bool.not_false]; first | assumption | omega))))))
        ((with_reducible apply Step.appIn (k := 4) (q := 2) (r := 3) (old := [.int .i64 z])); exact rfl; exact rfl; exact rfl; exact el23; exact un23; exact rfl; exact rfl; exact hbc; exact (iv_len on); exact rfl; exact rfl; exact rfl; exact hcp; exact rfl; (focus (first | (simp only [List.nil_append, List.cons_append, List.set_cons_zero, List.set_cons_succ, iv_set, bv_set, iv_rep, bv_rep]; done) | (simp only [List.nil_append, List.cons_append, List.set_cons_zero, List.set_cons_succ, iv_set, bv_set, iv_rep, bv_rep]; rfl) | rfl)))
        (repeat (first | (with_reducible refine AWo.cons ?_) | ((with_reducible refine Step.id ?_); first | ((with_reducible apply Step.move); exact rfl; exact rfl) | ((with_reducible apply Step.assign); exact rfl; exact rfl) | ((with_reducible apply Step.load); exact rfl; (focus (decide +kernel)); exact rfl; (focus (first | exact hbr _ | exact fx0 _ | exact fx1 _))) | ((with_reducible apply Step.ix (s := 4)); exact rfl; (focus (assumption)); exact rfl; (focus (decide +kernel)); exact rfl; (focus (omega))) | ((with_reducible apply Step.field0); exact rfl; (focus (decide +kernel)); exact rfl) | ((with_reducible apply Step.field (k := 1)); exact rfl; (focus (decide +kernel)); exact rfl) | ((with_reducible apply Step.add); exact rfl; exact rfl; (focus (omega)); exact rfl) | ((with_reducible apply Step.leq); exact rfl; exact rfl; exact rfl)) | (with_reducible refine AWo.nil ?_) | ((with_reducible apply AW.seq)) | ((with_reducible apply Then.n)) | ((with_reducible apply AW.regL)) | ((with_reducible apply AW.exit)) | ((with_reducible apply InBlk.hit)) | ((with_reducible apply Then.e)) | ((with_reducible apply AW.condT); exact rfl; (focus ((simp only [decide_eq_true_eq, decide_eq_false_iff_not, Bool.not_eq_true', Bool.not_eq_false', Bool.not_true, Bool.not_false]; first | assumption | omega))))))
        refine ⟨_, [(1, .pointer (some ⟨m.length + 0, 0, none⟩)), (3, .slice (some ⟨m.length + 2, 0, none⟩) (on.length + 1) (on.length + 1 + Z.length)), (4, .int .i64 (sum + x1)), (9, .slice (some ⟨m.length + 1, 0, none⟩) j.length j.length), (10, .int .i64 (j.length : Nat)), (11, .int .i64 ((k + 1 : Nat) : Int))], [some { cells := [v] }, some { cells := iv (eddL j) }, some { cells := iv on ++ (.int .i64 (x : Int) :: iv Z), kind := .grow, size := 1 }], ?_, (Back.trimC rfl rfl (by repeat (first | exact CellsP.nil | (refine CellsP.cons ?_ ?_; (focus (first | exact cells_iv _ | exact cells_g0 (by assumption) | ((repeat (first | exact cells_nil | (refine cells_cons ?_ ?_; (focus (exact Ren.of_sl (by assumption) (by first | omega | (simp; omega))))))); done)))))) (by repeat (first | exact trivial | (refine And.intro ⟨rfl, by (first | exact .int _ _ | exact .slice _ _ _ _ (by first | (simp; done) | omega | (simp; omega)) | exact .ptr _ _ (by first | (simp; done) | omega | (simp; omega)))⟩ ?_)))), k + 1, Z, rfl, hlt, ?_, ?_, ?_⟩
        · omega
        · rw [hS2]; simp; simp at hZ; omega
        · rw [hS2, ea]; show _ = [_, _, gb (iv (_ ++ _)) 1]; rw [gb_pos (by rw [iv_len]; simp; omega)]
        · rw [hS2]; show _ = [_, (3, sv _ (on ++ [(x : Int)]) _), _, _, _, _]; rw [sv_pos (by simp; omega)]; simp; omega
      · rw [if_neg hle] at stp
        subst stp
        have dl := del_two (M := m) (L := [some { cells := [v] }, some { cells := iv (eddL j) }, some { cells := iv on ++ (.int .i64 (x : Int) :: iv Z), kind := .grow, size := 1 }, some { cells := [.int .i64 (x : Nat)] }, none, some { cells := [.int .i64 (g : Nat)] }]) (k := 2) (p := 5) (n := on.length + 1) (c := on.length + 1 + Z.length) (A := on ++ [(x : Int)]) (Z := Z) (g : Nat) (by show some (some _) = _; rw [ea]) rfl (by omega) on2l (by omega) (by simp at hZ; omega)
        generalize hfl : (on ++ [(x : Int)]).filter (fun y => !decide (y = ((g : Nat) : Int))) = on3 at *
        have hin2 : ∀ L : AM, L[2]? = some (some { cells := iv on ++ (.int .i64 (x : Int) :: iv Z), kind := .grow, size := 1 }) → Ints (m ++ L) (.slice (some ⟨m.length + 2, 0, none⟩) (on.length + 1) (on.length + 1 + Z.length)) (on ++ [(x : Int)]) := fun L h => ints_pre (Z := Z) h (by show iv on ++ (.int .i64 (x : Int) :: iv Z) = _; rw [ea]) on2l.symm (by omega)
        (repeat (first | (with_reducible refine AWo.cons ?_) | ((with_reducible refine Step.id ?_); first | ((with_reducible apply Step.move); exact rfl; exact rfl) | ((with_reducible apply Step.assign); exact rfl; exact rfl) | ((with_reducible apply Step.load); exact rfl; (focus (decide +kernel)); exact rfl; (focus (exact hre _ _))) | ((with_reducible apply Step.ix1z); exact rfl; (focus (exact Sl.mk (by omega))); exact rfl; (focus (decide +kernel)); exact rfl; (focus (omega))) | ((with_reducible apply Step.lss); exact rfl; exact rfl; exact rfl) | ((with_reducible apply Step.buildS 3); exact rfl; exact rfl; exact (fun _ _ => bs23x); exact rfl; (focus (first | (simp only [List.nil_append, List.cons_append, List.set_cons_zero, List.set_cons_succ, iv_set, bv_set, iv_rep, bv_rep]; done) | (simp only [List.nil_append, List.cons_append, List.set_cons_zero, List.set_cons_succ, iv_set, bv_set, iv_rep, bv_rep]; rfl) | rfl)))) | (with_reducible refine AWo.nil ?_) | ((with_reducible apply AW.seq)) | ((with_reducible apply Then.n)) | ((with_reducible apply AW.regL)) | ((with_reducible apply AW.block)) | ((with_reducible apply AW.skip)) | ((with_reducible apply AW.condT); exact rfl; (focus ((simp only [decide_eq_true_eq, decide_eq_false_iff_not, Bool.not_eq_true', Bool.not_eq_false', Bool.not_true, Bool.not_false]; first | assumption | omega))))))
        ((with_reducible apply Step.appIn (k := 4) (q := 2) (r := 3) (old := [.int .i64 z])); exact rfl; exact rfl; exact rfl; exact el23; exact un23; exact rfl; exact rfl; exact hbc; exact (iv_len on); exact rfl; exact rfl; exact rfl; exact hcp; exact rfl; (focus (first | (simp only [List.nil_append, List.cons_append, List.set_cons_zero, List.set_cons_succ, iv_set, bv_set, iv_rep, bv_rep]; done) | (simp only [List.nil_append, List.cons_append, List.set_cons_zero, List.set_cons_succ, iv_set, bv_set, iv_rep, bv_rep]; rfl) | rfl)))
        (repeat (first | (with_reducible refine AWo.cons ?_) | ((with_reducible refine Step.id ?_); first | ((with_reducible apply Step.move); exact rfl; exact rfl) | ((with_reducible apply Step.assign); exact rfl; exact rfl) | ((with_reducible apply Step.load); exact rfl; (focus (decide +kernel)); exact rfl; (focus (first | exact hbr _ | exact fx0 _ | exact fx1 _ | exact fg0 _ | exact Rd.new rfl rfl))) | ((with_reducible apply Step.ix (s := 4)); exact rfl; (focus (assumption)); exact rfl; (focus (decide +kernel)); exact rfl; (focus (omega))) | ((with_reducible apply Step.field0); exact rfl; (focus (decide +kernel)); exact rfl) | ((with_reducible apply Step.field (k := 1)); exact rfl; (focus (decide +kernel)); exact rfl) | ((with_reducible apply Step.add); exact rfl; exact rfl; (focus (omega)); exact rfl) | ((with_reducible apply Step.sub); exact rfl; exact rfl; (focus (omega)); exact rfl) | ((with_reducible apply Step.leq); exact rfl; exact rfl; exact rfl) | ((with_reducible apply Step.fn); exact rfl; exact rfl; exact rfl) | ((with_reducible apply Step.callR fit); exact rfl; exact Try.func117; exact rfl; exact rfl; exact (hmx _ 2 _ (hin2 _ rfl))) | ((with_reducible apply Step.callM fit); exact rfl; exact Try.func82; exact rfl; exact rfl; exact (dl)) | ((with_reducible apply Step.alloc 5); exact rfl; exact ze3; exact rfl; (focus (first | (simp only [List.nil_append, List.cons_append, List.set_cons_zero, List.set_cons_succ, iv_set, bv_set, iv_rep, bv_rep]; done) | (simp only [List.nil_append, List.cons_append, List.set_cons_zero, List.set_cons_succ, iv_set, bv_set, iv_rep, bv_rep]; rfl) | rfl))) | ((with_reducible apply Step.store (k := 5)); exact rfl; exact rfl; exact rfl; exact rfl; (focus (decide +kernel)); exact rfl; exact rfl; (focus (first | omega | (simp [iv, bv]; done) | (simp [iv, bv]; omega))); (focus (first | (simp only [List.nil_append, List.cons_append, List.set_cons_zero, List.set_cons_succ, iv_set, bv_set, iv_rep, bv_rep]; done) | (simp only [List.nil_append, List.cons_append, List.set_cons_zero, List.set_cons_succ, iv_set, bv_set, iv_rep, bv_rep]; rfl) | rfl)))) | (with_reducible refine AWo.nil ?_) | ((with_reducible apply AW.seq)) | ((with_reducible apply Then.n)) | ((with_reducible apply AW.regL)) | ((with_reducible apply InBlk.n)) | ((with_reducible apply AW.skip)) | ((with_reducible apply AW.condF); exact rfl; (focus ((simp only [decide_eq_true_eq, decide_eq_false_iff_not, Bool.not_eq_true', Bool.not_eq_false', Bool.not_true, Bool.not_false]; first | assumption | omega))))))
        refine ⟨_, [(1, .pointer (some ⟨m.length + 0, 0, none⟩)), (3, .slice (some ⟨m.length + 2, 0, none⟩) on3.length (on.length + 1 + Z.length)), (4, .int .i64 (sum + x1 - g1)), (9, .slice (some ⟨m.length + 1, 0, none⟩) j.length j.length), (10, .int .i64 (j.length : Nat)), (11, .int .i64 ((k + 1 : Nat) : Int))], [some { cells := [v] }, some { cells := iv (eddL j) }, some { cells := iv (on3 ++ (List.replicate (on.length + 1 - on3.length) 0 ++ Z)), kind := .grow, size := 1 }], ?_, (Back.trimC rfl rfl (by repeat (first | exact CellsP.nil | (refine CellsP.cons ?_ ?_; (focus (first | exact cells_iv _ | ((repeat (first | exact cells_nil | (refine cells_cons ?_ ?_; (focus (exact Ren.of_sl (by assumption) (by first | omega | (simp; omega))))))); done)))))) (by repeat (first | exact trivial | (refine And.intro ⟨rfl, by (first | exact .int _ _ | exact .slice _ _ _ _ (by first | (simp; done) | omega | (simp; omega)) | exact .ptr _ _ (by first | (simp; done) | omega | (simp; omega)))⟩ ?_)))), k + 1, List.replicate (on.length + 1 - on3.length) 0 ++ Z, rfl, hlt, ?_, ?_, ?_⟩
        · omega
        · rw [hS2]; simp; simp at hZ; omega
        · rw [hS2]; show _ = [_, _, gb (iv (on3 ++ _)) 1]; rw [gb_pos (by rw [iv_len]; simp; omega)]
        · rw [hS2]; show _ = [_, (3, sv _ on3 _), _, _, _, _]; rw [sv_pos (by simp; omega)]; simp; omega
  · obtain rfl : k = j.length := by omega
    have hm : mooL j = srt (mooN j j.length).on := rfl
    have hin : InJ j (mooN j j.length).on := fun y hy => eddL_mem.1 (List.mem_of_mem_take (inv.mem y hy))
    have ilen := inv.len
    generalize (mooN j j.length).on = on at *
    have hsl := srt_len on
    by_cases hz : (on ++ Z).length = 0
    · have e1 : on = [] := by have h' := hz; simp at h'; exact h'.1
      subst e1
      have e2 : sv (m.length + 2) [] Z = .slice none 0 0 := by unfold sv; rw [if_pos hz]
      rw [e2]
      (repeat (first | (with_reducible refine AWo.cons ?_) | ((with_reducible refine Step.id ?_); first | ((with_reducible apply Step.move); exact rfl; exact rfl) | ((with_reducible apply Step.assign); exact rfl; exact rfl) | ((with_reducible apply Step.lss); exact rfl; exact rfl; exact rfl) | ((with_reducible apply Step.callE fit); exact rfl; exact Try.func114; exact rfl; exact rfl; exact (sort_nil))) | (with_reducible refine AWo.nil ?_) | ((with_reducible apply AW.seq)) | ((with_reducible apply Then.n)) | ((with_reducible apply AW.regL)) | ((with_reducible apply AW.exit)) | ((with_reducible apply InBlk.hit)) | ((with_reducible apply Then.e)) | ((with_reducible apply AW.condF); exact rfl; (focus ((simp only [decide_eq_true_eq, decide_eq_false_iff_not, Bool.not_eq_true', Bool.not_eq_false', Bool.not_true, Bool.not_false]; first | assumption | omega))))))
      (refine AW.ret ?_; (repeat (first | refine Then.r ?_ | refine InBlk.r ?_)))
      refine ⟨_, rfl, _, rfl, ?_⟩
      have e3 : srt ([] : List Int) = [] := by simp [srt]
      rw [hm, e3]
      exact ⟨ints_nil (by rw [List.length_append]; omega), none, 0, rfl⟩
    · rw [sv_pos (by omega), gb_pos (by rw [iv_len]; omega)]
      have so := sort_okZ (M := m) (L := [some { cells := [v] }, some { cells := iv (eddL j) }, some { cells := iv (on ++ Z), kind := .grow, size := 1 }]) (k := 2) (n := on.length) (c := (on ++ Z).length) (kd := .grow) (l := on) (z := Z) rfl rfl rfl (by omega) rfl
      (repeat (first | (with_reducible refine AWo.cons ?_) | ((with_reducible refine Step.id ?_); first | ((with_reducible apply Step.move); exact rfl; exact rfl) | ((with_reducible apply Step.assign); exact rfl; exact rfl) | ((with_reducible apply Step.lss); exact rfl; exact rfl; exact rfl) | ((with_reducible apply Step.callM fit); exact rfl; exact Try.func114; exact rfl; exact rfl; exact (so))) | (with_reducible refine AWo.nil ?_) | ((with_reducible apply AW.seq)) | ((with_reducible apply Then.n)) | ((with_reducible apply AW.regL)) | ((with_reducible apply AW.exit)) | ((with_reducible apply InBlk.hit)) | ((with_reducible apply Then.e)) | ((with_reducible apply AW.condF); exact rfl; (focus ((simp only [decide_eq_true_eq, decide_eq_false_iff_not, Bool.not_eq_true', Bool.not_eq_false', Bool.not_true, Bool.not_false]; first | assumption | omega))))))
      (refine AW.ret ?_; (repeat (first | refine Then.r ?_ | refine InBlk.r ?_)))
      refine ⟨_, rfl, _, rfl, ?_⟩
      rw [hm, hsl]
      exact ⟨ints_pre (k := 2) (A := srt on) (Z := Z) rfl rfl hsl.symm (by simp), _, _, rfl⟩
end Go.Proofs.Ytmomjannlnafcaa.Abs
namespace Go.Proofs.Ytmomjannlnafcaa.Abs
set_option linter.unusedSimpArgs false
set_option linter.unusedVariables false
open Go.RowKit
open Go.Proofs.Ytmomjannlnafcaa.Sim
open Go.Proofs
theorem countP_take {S : List Int} {le : Int → Int → Bool} (hT : TO le) (hs : Srt le S) (hn : S.Nodup) {k : Nat} (hk : k < S.length) : S.countP (fun b => decide (b ≠ S[k]) && le b S[k]) = k := by
  have e : S = S.take k ++ S[k] :: S.drop (k + 1) := by
    rw [← List.drop_eq_getElem_cons hk, List.take_append_drop]
  have hs' := hs
  have hn' := hn
  unfold Srt at hs'
  generalize hx : S[k] = x at *
  rw [e] at hs' hn'
  obtain ⟨s1, s2, s3⟩ := List.pairwise_append.1 hs'
  obtain ⟨n1, n2, n3⟩ := List.nodup_append.1 hn'
  obtain ⟨t1, t2⟩ := List.pairwise_cons.1 s2
  obtain ⟨d1, d2⟩ := List.nodup_cons.1 n2
  rw [e, List.countP_append, List.countP_cons]
  have h1 : (S.take k).countP (fun b => decide (b ≠ x) && le b x) = k := by
    have : (S.take k).countP (fun b => decide (b ≠ x) && le b x) = (S.take k).length := by
      rw [List.countP_eq_length]
      intro b hb
      simp only [Bool.and_eq_true, decide_eq_true_eq]
      exact ⟨fun h => n3 b hb x (by simp) h, s3 b hb x (by simp)⟩
    rw [this]; simp; omega
  have h2 : (S.drop (k + 1)).countP (fun b => decide (b ≠ x) && le b x) = 0 := by
    rw [List.countP_eq_zero]
    intro b hb
    simp only [Bool.and_eq_true, decide_eq_true_eq, not_and]
    intro hne hle
    exact hne (hT.an b x hle (t1 b hb))
  rw [h1, h2]
  simp
/-- The place of an index in the sorted row. -/
def rankJ (le : Int → Int → Bool) (n : Nat) (a : Int) : Nat := (upI n).countP (fun b => decide (b ≠ a) && le b a)
theorem rank_at {le : Int → Int → Bool} (hT : TO le) {n k : Nat} (hk : k < n) : rankJ le n ((ms le (upI n)).getD k 0) = k := by
  have hl : (ms le (upI n)).length = n := by rw [ms_len, upI_len]
  have hnd : (ms le (upI n)).Nodup := (ms_perm.nodup_iff).2 (upI_nodup n)
  have := countP_take hT (ms_srt hT) hnd (k := k) (by omega)
  unfold rankJ
  rw [show (ms le (upI n)).getD k 0 = (ms le (upI n))[k]'(by omega) by simp [show k < (ms le (upI n)).length by omega]]
  exact ((ms_perm (le := le) (l := upI n)).countP_eq _).symm.trans this
theorem rank_of {le : Int → Int → Bool} (hT : TO le) {n : Nat} {a : Int} (ha : 0 ≤ a ∧ a < n) : rankJ le n a < n ∧ (ms le (upI n)).getD (rankJ le n a) 0 = a := by
  have hl : (ms le (upI n)).length = n := by rw [ms_len, upI_len]
  have : a ∈ ms le (upI n) := ms_mem.2 (mem_upI.2 ha)
  obtain ⟨k, hk, rfl⟩ := List.getElem_of_mem this
  have h1 := rank_at hT (le := le) (n := n) (k := k) (by omega)
  rw [show (ms le (upI n)).getD k 0 = (ms le (upI n))[k]'(by omega) by simp [hk]] at h1
  rw [h1]
  exact ⟨by omega, by simp [hk]⟩
/-- The row after a rounds. -/
def rowJ (S : List Int) (a : Nat) : List Int := S.map fun x => if x < (a : Int) then x else 0
theorem rowJ_set {le : Int → Int → Bool} (hT : TO le) {n a : Nat} (ha : a < n) : (rowJ (ms le (upI n)) a).set (rankJ le n a) a = rowJ (ms le (upI n)) (a + 1) := by
  have hl : (ms le (upI n)).length = n := by rw [ms_len, upI_len]
  obtain ⟨r1, r2⟩ := rank_of hT (le := le) (n := n) (a := a) (by omega)
  apply List.ext_getElem?
  intro k
  by_cases hk : k < n
  · have hr := rank_at hT (le := le) (n := n) (k := k) hk
    have e : (ms le (upI n))[k]? = some ((ms le (upI n)).getD k 0) := by simp [show k < (ms le (upI n)).length by omega]
    by_cases hx : rankJ le n a = k
    · rw [hx, List.getElem?_set_self (by simp [rowJ, hl, hk])]
      rw [hx] at r2
      simp only [rowJ, List.getElem?_map, e, Option.map_some, r2]
      rw [if_pos (by omega)]
    · rw [List.getElem?_set_ne hx]
      simp only [rowJ, List.getElem?_map, e, Option.map_some]
      generalize hy : (ms le (upI n)).getD k 0 = y at *
      have : y ≠ a := fun h => hx (by rw [← h]; exact hr)
      by_cases h1 : y < a
      · rw [if_pos h1, if_pos (by omega)]
      · rw [if_neg h1, if_neg (by omega)]
  · rw [List.getElem?_eq_none (by simp [rowJ, hl]; omega), List.getElem?_eq_none (by simp [rowJ, hl]; omega)]
theorem rowJ_zero {n : Nat} {S : List Int} (h : ∀ x ∈ S, 0 ≤ x) (hl : S.length = n) : rowJ S 0 = List.replicate n 0 := by
  subst hl
  refine List.ext_getElem (by simp [rowJ]) fun i h1 h2 => ?_
  simp only [rowJ, List.getElem_map, List.getElem_replicate]
  exact if_neg (by have := h _ (List.getElem_mem (l := S) (n := i) (by simpa [rowJ] using h1)); omega)
theorem rowJ_end {n : Nat} {S : List Int} (h : ∀ x ∈ S, x < n) : rowJ S n = S := by
  refine List.ext_getElem (by simp [rowJ]) fun i h1 h2 => ?_
  simp only [rowJ, List.getElem_map]
  exact if_pos (h _ (List.getElem_mem h2))
end Go.Proofs.Ytmomjannlnafcaa.Abs
namespace Go.Proofs.Ytmomjannlnafcaa.Abs
set_option linter.unusedSimpArgs false
set_option linter.unusedVariables false
open Go.RowKit
open Go.Proofs.Ytmomjannlnafcaa.Sim
open Go.Proofs
theorem asc_eq : ∀ {l k : List Int}, l.Pairwise (· < ·) → k.Pairwise (· < ·) → (∀ x, x ∈ l ↔ x ∈ k) → l = k
  | [], [], _, _, _ => rfl
  | [], y :: k, _, _, h => by have := (h y).2 (by simp); simp at this
  | x :: l, [], _, _, h => by have := (h x).1 (by simp); simp at this
  | x :: l, y :: k, h1, h2, h => by
    obtain ⟨a1, a2⟩ := List.pairwise_cons.1 h1
    obtain ⟨b1, b2⟩ := List.pairwise_cons.1 h2
    have e : x = y := by
      rcases List.mem_cons.1 ((h x).1 (by simp)) with e | e
      · exact e
      · rcases List.mem_cons.1 ((h y).2 (by simp)) with e' | e'
        · exact e'.symm
        · have := a1 _ e'; have := b1 _ e; omega
    subst e
    congr 1
    refine asc_eq a2 b2 fun z => ?_
    have hz := h z
    simp only [List.mem_cons] at hz
    constructor
    · intro m
      rcases hz.1 (.inr m) with e | e
      · have := a1 _ m; omega
      · exact e
    · intro m
      rcases hz.2 (.inr m) with e | e
      · have := b1 _ m; omega
      · exact e
theorem upI_asc (n : Nat) : (upI n).Pairwise (· < ·) := by
  rw [List.pairwise_iff_getElem]
  intro i k hi hk hik
  simp only [upI, List.getElem_map, List.getElem_range]
  omega
end Go.Proofs.Ytmomjannlnafcaa.Abs
namespace Go.Proofs.Ytmomjannlnafcaa.Abs
set_option linter.unusedSimpArgs false
set_option linter.unusedVariables false
open Go.RowKit
open Go.Proofs.Ytmomjannlnafcaa.Sim
open Go.Proofs
def cntD (j : List Job) (a b : Nat) : Nat := (List.range b).countP fun i => decide (i ≠ a) && leD j i a
theorem cntD_succ (j : List Job) (a b : Nat) : cntD j a (b + 1) = cntD j a b + if b ≠ a ∧ leD j b a = true then 1 else 0 := by
  unfold cntD
  rw [List.range_succ, List.countP_append, List.countP_cons]
  simp
theorem cntD_rank (j : List Job) (a n : Nat) : cntD j a n = rankJ (leD j) n a := by
  unfold cntD rankJ upI
  rw [List.countP_map]
  congr 1
  funext i
  by_cases h : i = a
  · subst h; simp
  · simp only [Function.comp, decide_not, h, show ¬ ((i : Int) = (a : Int)) by omega, decide_false]
theorem cntD_le (j : List Job) (a b : Nat) : cntD j a b ≤ b := by
  unfold cntD
  have := List.countP_le_length (p := fun i : Nat => decide (i ≠ a) && leD j i a) (l := List.range b)
  simpa using this
set_option maxHeartbeats 1000000 in
set_option maxRecDepth 100000 in
theorem due_ok {m : AM} {v : Value} {j : List Job} (hj : Jobs m v j) (h40 : j.length ≤ 40) : ACall Try.prog 98 #[v] m (New (some { cells := iv (eddL j) }) j.length m) := by
  obtain ⟨a, o, k1, k2, k3⟩ := id hj
  have hT := leD_to j
  have hSm : ∀ x ∈ eddL j, 0 ≤ x ∧ x < j.length := fun x hx => eddL_mem.1 hx
  have hz := rowJ_zero (S := eddL j) (fun x hx => (hSm x hx).1) (eddL_len j)
  refine ACall.start Try.func98 rfl rfl ?_
  (repeat (first | (with_reducible refine AWo.cons ?_) | ((with_reducible refine Step.id ?_); first | ((with_reducible apply Step.gdU); exact rfl; exact rfl) | ((with_reducible apply Step.gdT); exact rfl; exact rfl; (focus (first | rfl | (simp only [decide_eq_true_eq, decide_eq_false_iff_not, Bool.not_eq_true', Bool.not_eq_false', Bool.not_true, Bool.not_false]; first | assumption | omega) | (simp; done) | (simp; omega)))) | ((with_reducible apply Step.gdF); exact rfl; exact rfl; (focus (first | rfl | (simp only [decide_eq_true_eq, decide_eq_false_iff_not, Bool.not_eq_true', Bool.not_eq_false', Bool.not_true, Bool.not_false]; first | assumption | omega) | (simp; done) | (simp; omega)))) | ((with_reducible apply Step.move); exact rfl; exact rfl) | ((with_reducible apply Step.assign); exact rfl; exact rfl) | ((with_reducible apply Step.load); exact rfl; (focus (decide +kernel)); exact rfl; (focus (first | assumption | exact Rd.new rfl (iv_get (by first | omega | (simp; omega))) | exact Rd.new rfl (bv_get (by first | omega | (simp; omega))) | exact Rd.new rfl rfl | exact Rd.old _ (by assumption)))) | ((with_reducible apply Step.loadL (n := 4)); exact rfl; (focus (decide +kernel)); (focus (decide +kernel)); exact rfl; (focus (first | assumption | exact RdL.new rfl rfl | exact RdL.old _ (by assumption))); exact rfl; exact rfl) | ((with_reducible apply Step.ix1z); exact rfl; (focus (first | assumption | exact Sl.mk (by omega) | exact gv_sl _ _ | exact Sl.nil _ _ | exact Sl.nil 0 0)); exact rfl; (focus (decide +kernel)); exact rfl; (focus (omega))) | ((with_reducible apply Step.ix1); exact rfl; (focus (first | assumption | exact Sl.mk (by omega) | exact gv_sl _ _ | exact Sl.nil _ _ | exact Sl.nil 0 0)); exact rfl; (focus (decide +kernel)); exact rfl; (focus (omega))) | ((with_reducible apply Step.ixz (s := 4)); exact rfl; (focus (first | assumption | exact Sl.mk (by omega) | exact gv_sl _ _ | exact Sl.nil _ _ | exact Sl.nil 0 0)); exact rfl; (focus (decide +kernel)); exact rfl; (focus (omega))) | ((with_reducible apply Step.ix (s := 4)); exact rfl; (focus (first | assumption | exact Sl.mk (by omega) | exact gv_sl _ _ | exact Sl.nil _ _ | exact Sl.nil 0 0)); exact rfl; (focus (decide +kernel)); exact rfl; (focus (omega))) | ((with_reducible apply Step.field (k := 1)); exact rfl; (focus (decide +kernel)); exact rfl) | ((with_reducible apply Step.add); exact rfl; exact rfl; (focus (omega)); exact rfl) | ((with_reducible apply Step.lss); exact rfl; exact rfl; exact rfl) | ((with_reducible apply Step.eql); exact rfl; exact rfl; exact rfl) | ((with_reducible apply Step.eqNil); exact rfl; exact rfl; exact rfl; exact rfl) | ((with_reducible apply Step.len); exact rfl; (focus (first | assumption | exact Sl.mk (by omega) | exact gv_sl _ _ | exact Sl.nil _ _ | exact Sl.nil 0 0)); (focus (decide +kernel)); exact rfl) | ((with_reducible apply Step.pickT); exact rfl; exact rfl; exact rfl; exact rfl; (focus (first | rfl | (simp only [decide_eq_true_eq, decide_eq_false_iff_not, Bool.not_eq_true', Bool.not_eq_false', Bool.not_true, Bool.not_false]; first | assumption | omega) | (simp; done) | (simp; omega)))) | ((with_reducible apply Step.pickF); exact rfl; exact rfl; exact rfl; exact rfl; (focus (first | rfl | (simp only [decide_eq_true_eq, decide_eq_false_iff_not, Bool.not_eq_true', Bool.not_eq_false', Bool.not_true, Bool.not_false]; first | assumption | omega) | (simp; done) | (simp; omega)))) | ((with_reducible apply Step.make1 0); exact rfl; exact rfl; exact rfl; exact el23; (focus (omega)); exact rfl; (focus (first | (simp only [List.nil_append, List.cons_append, List.set_cons_zero, List.set_cons_succ, iv_set, bv_set, iv_rep, bv_rep]; done) | (simp only [List.nil_append, List.cons_append, List.set_cons_zero, List.set_cons_succ, iv_set, bv_set, iv_rep, bv_rep]; rfl) | rfl))) | ((with_reducible apply Step.store (k := 0)); exact rfl; exact rfl; exact rfl; exact rfl; (focus (decide +kernel)); exact rfl; exact rfl; (focus (first | omega | (simp [iv, bv]; done) | (simp [iv, bv]; omega))); (focus (first | (simp only [List.nil_append, List.cons_append, List.set_cons_zero, List.set_cons_succ, iv_set, bv_set, iv_rep, bv_rep]; done) | (simp only [List.nil_append, List.cons_append, List.set_cons_zero, List.set_cons_succ, iv_set, bv_set, iv_rep, bv_rep]; rfl) | rfl))) | ((with_reducible apply Step.storeA (k := 0) (n := 4)); exact rfl; exact rfl; exact rfl; exact rfl; (focus (decide +kernel)); exact rfl; (focus (kernel_rfl)); exact rfl; (focus (first | (simp only [List.nil_append, List.cons_append, List.set_cons_zero, List.set_cons_succ, iv_set, bv_set, iv_rep, bv_rep]; done) | (simp only [List.nil_append, List.cons_append, List.set_cons_zero, List.set_cons_succ, iv_set, bv_set, iv_rep, bv_rep]; rfl) | rfl))) | ((with_reducible apply Step.make1 1); exact rfl; exact rfl; exact rfl; exact el23; (focus (omega)); exact rfl; (focus (first | (simp only [List.nil_append, List.cons_append, List.set_cons_zero, List.set_cons_succ, iv_set, bv_set, iv_rep, bv_rep]; done) | (simp only [List.nil_append, List.cons_append, List.set_cons_zero, List.set_cons_succ, iv_set, bv_set, iv_rep, bv_rep]; rfl) | rfl))) | ((with_reducible apply Step.store (k := 1)); exact rfl; exact rfl; exact rfl; exact rfl; (focus (decide +kernel)); exact rfl; exact rfl; (focus (first | omega | (simp [iv, bv]; done) | (simp [iv, bv]; omega))); (focus (first | (simp only [List.nil_append, List.cons_append, List.set_cons_zero, List.set_cons_succ, iv_set, bv_set, iv_rep, bv_rep]; done) | (simp only [List.nil_append, List.cons_append, List.set_cons_zero, List.set_cons_succ, iv_set, bv_set, iv_rep, bv_rep]; rfl) | rfl))) | ((with_reducible apply Step.storeA (k := 1) (n := 4)); exact rfl; exact rfl; exact rfl; exact rfl; (focus (decide +kernel)); exact rfl; (focus (kernel_rfl)); exact rfl; (focus (first | (simp only [List.nil_append, List.cons_append, List.set_cons_zero, List.set_cons_succ, iv_set, bv_set, iv_rep, bv_rep]; done) | (simp only [List.nil_append, List.cons_append, List.set_cons_zero, List.set_cons_succ, iv_set, bv_set, iv_rep, bv_rep]; rfl) | rfl))) | ((with_reducible apply Step.make1 2); exact rfl; exact rfl; exact rfl; exact el23; (focus (omega)); exact rfl; (focus (first | (simp only [List.nil_append, List.cons_append, List.set_cons_zero, List.set_cons_succ, iv_set, bv_set, iv_rep, bv_rep]; done) | (simp only [List.nil_append, List.cons_append, List.set_cons_zero, List.set_cons_succ, iv_set, bv_set, iv_rep, bv_rep]; rfl) | rfl))) | ((with_reducible apply Step.store (k := 2)); exact rfl; exact rfl; exact rfl; exact rfl; (focus (decide +kernel)); exact rfl; exact rfl; (focus (first | omega | (simp [iv, bv]; done) | (simp [iv, bv]; omega))); (focus (first | (simp only [List.nil_append, List.cons_append, List.set_cons_zero, List.set_cons_succ, iv_set, bv_set, iv_rep, bv_rep]; done) | (simp only [List.nil_append, List.cons_append, List.set_cons_zero, List.set_cons_succ, iv_set, bv_set, iv_rep, bv_rep]; rfl) | rfl))) | ((with_reducible apply Step.storeA (k := 2) (n := 4)); exact rfl; exact rfl; exact rfl; exact rfl; (focus (decide +kernel)); exact rfl; (focus (kernel_rfl)); exact rfl; (focus (first | (simp only [List.nil_append, List.cons_append, List.set_cons_zero, List.set_cons_succ, iv_set, bv_set, iv_rep, bv_rep]; done) | (simp only [List.nil_append, List.cons_append, List.set_cons_zero, List.set_cons_succ, iv_set, bv_set, iv_rep, bv_rep]; rfl) | rfl))) | ((with_reducible apply Step.make1 3); exact rfl; exact rfl; exact rfl; exact el23; (focus (omega)); exact rfl; (focus (first | (simp only [List.nil_append, List.cons_append, List.set_cons_zero, List.set_cons_succ, iv_set, bv_set, iv_rep, bv_rep]; done) | (simp only [List.nil_append, List.cons_append, List.set_cons_zero, List.set_cons_succ, iv_set, bv_set, iv_rep, bv_rep]; rfl) | rfl))) | ((with_reducible apply Step.store (k := 3)); exact rfl; exact rfl; exact rfl; exact rfl; (focus (decide +kernel)); exact rfl; exact rfl; (focus (first | omega | (simp [iv, bv]; done) | (simp [iv, bv]; omega))); (focus (first | (simp only [List.nil_append, List.cons_append, List.set_cons_zero, List.set_cons_succ, iv_set, bv_set, iv_rep, bv_rep]; done) | (simp only [List.nil_append, List.cons_append, List.set_cons_zero, List.set_cons_succ, iv_set, bv_set, iv_rep, bv_rep]; rfl) | rfl))) | ((with_reducible apply Step.storeA (k := 3) (n := 4)); exact rfl; exact rfl; exact rfl; exact rfl; (focus (decide +kernel)); exact rfl; (focus (kernel_rfl)); exact rfl; (focus (first | (simp only [List.nil_append, List.cons_append, List.set_cons_zero, List.set_cons_succ, iv_set, bv_set, iv_rep, bv_rep]; done) | (simp only [List.nil_append, List.cons_append, List.set_cons_zero, List.set_cons_succ, iv_set, bv_set, iv_rep, bv_rep]; rfl) | rfl)))) | (with_reducible refine AWo.nil ?_) | ((with_reducible apply AW.seq)) | ((with_reducible apply Then.n)) | ((with_reducible apply AW.regL)) | ((with_reducible apply AW.block)) | ((with_reducible apply AW.drawL fit); (focus (decide +kernel))) | ((with_reducible apply AW.exit)) | ((with_reducible apply InBlk.n)) | ((with_reducible apply InBlk.hit)) | ((with_reducible apply InBlk.miss); exact rfl) | ((with_reducible apply Then.e)) | ((with_reducible apply AW.skip)) | ((with_reducible apply AW.condT); exact rfl; (focus (first | rfl | (simp only [decide_eq_true_eq, decide_eq_false_iff_not, Bool.not_eq_true', Bool.not_eq_false', Bool.not_true, Bool.not_false]; first | assumption | omega) | (simp; done) | (simp; omega)))) | ((with_reducible apply AW.condF); exact rfl; (focus (first | rfl | (simp only [decide_eq_true_eq, decide_eq_false_iff_not, Bool.not_eq_true', Bool.not_eq_false', Bool.not_true, Bool.not_false]; first | assumption | omega) | (simp; done) | (simp; omega))))))
  refine AW.loopT (fun n t L => ∃ (i : Nat), n = j.length - i ∧ i ≤ j.length ∧ L = [some { cells := iv (rowJ (eddL j) i) }] ∧
    t = [(0, v), (3, .slice (some ⟨m.length + 0, 0, none⟩) j.length j.length), (11, .int .i64 (j.length : Nat)), (12, .int .i64 (i : Nat))]) ⟨_, _, _, (Or.inl ⟨rfl, (by repeat (first | exact trivial | (refine And.intro rfl ?_)))⟩), 0, rfl, Nat.zero_le _, by rw [hz], rfl⟩ ?_
  rintro n t L ⟨i, rfl, hi, rfl, rfl⟩
  rcases Nat.lt_or_ge i j.length with hlt | hge
  · obtain ⟨w, hr, hw⟩ := k3 i hlt
    have fi : ∀ L : AM, Rd (m ++ L) a (o + i * 4 + 1) (.int .i64 (j.getD i default).due) := fun L => (hr.old L).at_ 1 rfl
    (repeat (first | (with_reducible refine AWo.cons ?_) | ((with_reducible refine Step.id ?_); first | ((with_reducible apply Step.gdU); exact rfl; exact rfl) | ((with_reducible apply Step.gdT); exact rfl; exact rfl; (focus (first | rfl | (simp only [decide_eq_true_eq, decide_eq_false_iff_not, Bool.not_eq_true', Bool.not_eq_false', Bool.not_true, Bool.not_false]; first | assumption | omega) | (simp; done) | (simp; omega)))) | ((with_reducible apply Step.gdF); exact rfl; exact rfl; (focus (first | rfl | (simp only [decide_eq_true_eq, decide_eq_false_iff_not, Bool.not_eq_true', Bool.not_eq_false', Bool.not_true, Bool.not_false]; first | assumption | omega) | (simp; done) | (simp; omega)))) | ((with_reducible apply Step.move); exact rfl; exact rfl) | ((with_reducible apply Step.assign); exact rfl; exact rfl) | ((with_reducible apply Step.load); exact rfl; (focus (decide +kernel)); exact rfl; (focus (first | assumption | exact Rd.new rfl (iv_get (by first | omega | (simp; omega))) | exact Rd.new rfl (bv_get (by first | omega | (simp; omega))) | exact Rd.new rfl rfl | exact Rd.old _ (by assumption)))) | ((with_reducible apply Step.loadL (n := 4)); exact rfl; (focus (decide +kernel)); (focus (decide +kernel)); exact rfl; (focus (first | assumption | exact RdL.new rfl rfl | exact RdL.old _ (by assumption))); exact rfl; exact rfl) | ((with_reducible apply Step.ix1z); exact rfl; (focus (first | assumption | exact Sl.mk (by omega) | exact gv_sl _ _ | exact Sl.nil _ _ | exact Sl.nil 0 0)); exact rfl; (focus (decide +kernel)); exact rfl; (focus (omega))) | ((with_reducible apply Step.ix1); exact rfl; (focus (first | assumption | exact Sl.mk (by omega) | exact gv_sl _ _ | exact Sl.nil _ _ | exact Sl.nil 0 0)); exact rfl; (focus (decide +kernel)); exact rfl; (focus (omega))) | ((with_reducible apply Step.ixz (s := 4)); exact rfl; (focus (first | assumption | exact Sl.mk (by omega) | exact gv_sl _ _ | exact Sl.nil _ _ | exact Sl.nil 0 0)); exact rfl; (focus (decide +kernel)); exact rfl; (focus (omega))) | ((with_reducible apply Step.ix (s := 4)); exact rfl; (focus (first | assumption | exact Sl.mk (by omega) | exact gv_sl _ _ | exact Sl.nil _ _ | exact Sl.nil 0 0)); exact rfl; (focus (decide +kernel)); exact rfl; (focus (omega))) | ((with_reducible apply Step.field (k := 1)); exact rfl; (focus (decide +kernel)); exact rfl) | ((with_reducible apply Step.add); exact rfl; exact rfl; (focus (omega)); exact rfl) | ((with_reducible apply Step.lss); exact rfl; exact rfl; exact rfl) | ((with_reducible apply Step.eql); exact rfl; exact rfl; exact rfl) | ((with_reducible apply Step.eqNil); exact rfl; exact rfl; exact rfl; exact rfl) | ((with_reducible apply Step.len); exact rfl; (focus (first | assumption | exact Sl.mk (by omega) | exact gv_sl _ _ | exact Sl.nil _ _ | exact Sl.nil 0 0)); (focus (decide +kernel)); exact rfl) | ((with_reducible apply Step.pickT); exact rfl; exact rfl; exact rfl; exact rfl; (focus (first | rfl | (simp only [decide_eq_true_eq, decide_eq_false_iff_not, Bool.not_eq_true', Bool.not_eq_false', Bool.not_true, Bool.not_false]; first | assumption | omega) | (simp; done) | (simp; omega)))) | ((with_reducible apply Step.pickF); exact rfl; exact rfl; exact rfl; exact rfl; (focus (first | rfl | (simp only [decide_eq_true_eq, decide_eq_false_iff_not, Bool.not_eq_true', Bool.not_eq_false', Bool.not_true, Bool.not_false]; first | assumption | omega) | (simp; done) | (simp; omega)))) | ((with_reducible apply Step.make1 0); exact rfl; exact rfl; exact rfl; exact el23; (focus (omega)); exact rfl; (focus (first | (simp only [List.nil_append, List.cons_append, List.set_cons_zero, List.set_cons_succ, iv_set, bv_set, iv_rep, bv_rep]; done) | (simp only [List.nil_append, List.cons_append, List.set_cons_zero, List.set_cons_succ, iv_set, bv_set, iv_rep, bv_rep]; rfl) | rfl))) | ((with_reducible apply Step.store (k := 0)); exact rfl; exact rfl; exact rfl; exact rfl; (focus (decide +kernel)); exact rfl; exact rfl; (focus (first | omega | (simp [iv, bv]; done) | (simp [iv, bv]; omega))); (focus (first | (simp only [List.nil_append, List.cons_append, List.set_cons_zero, List.set_cons_succ, iv_set, bv_set, iv_rep, bv_rep]; done) | (simp only [List.nil_append, List.cons_append, List.set_cons_zero, List.set_cons_succ, iv_set, bv_set, iv_rep, bv_rep]; rfl) | rfl))) | ((with_reducible apply Step.storeA (k := 0) (n := 4)); exact rfl; exact rfl; exact rfl; exact rfl; (focus (decide +kernel)); exact rfl; (focus (kernel_rfl)); exact rfl; (focus (first | (simp only [List.nil_append, List.cons_append, List.set_cons_zero, List.set_cons_succ, iv_set, bv_set, iv_rep, bv_rep]; done) | (simp only [List.nil_append, List.cons_append, List.set_cons_zero, List.set_cons_succ, iv_set, bv_set, iv_rep, bv_rep]; rfl) | rfl))) | ((with_reducible apply Step.make1 1); exact rfl; exact rfl; exact rfl; exact el23; (focus (omega)); exact rfl; (focus (first | (simp only [List.nil_append, List.cons_append, List.set_cons_zero, List.set_cons_succ, iv_set, bv_set, iv_rep, bv_rep]; done) | (simp only [List.nil_append, List.cons_append, List.set_cons_zero, List.set_cons_succ, iv_set, bv_set, iv_rep, bv_rep]; rfl) | rfl))) | ((with_reducible apply Step.store (k := 1)); exact rfl; exact rfl; exact rfl; exact rfl; (focus (decide +kernel)); exact rfl; exact rfl; (focus (first | omega | (simp [iv, bv]; done) | (simp [iv, bv]; omega))); (focus (first | (simp only [List.nil_append, List.cons_append, List.set_cons_zero, List.set_cons_succ, iv_set, bv_set, iv_rep, bv_rep]; done) | (simp only [List.nil_append, List.cons_append, List.set_cons_zero, List.set_cons_succ, iv_set, bv_set, iv_rep, bv_rep]; rfl) | rfl))) | ((with_reducible apply Step.storeA (k := 1) (n := 4)); exact rfl; exact rfl; exact rfl; exact rfl; (focus (decide +kernel)); exact rfl; (focus (kernel_rfl)); exact rfl; (focus (first | (simp only [List.nil_append, List.cons_append, List.set_cons_zero, List.set_cons_succ, iv_set, bv_set, iv_rep, bv_rep]; done) | (simp only [List.nil_append, List.cons_append, List.set_cons_zero, List.set_cons_succ, iv_set, bv_set, iv_rep, bv_rep]; rfl) | rfl))) | ((with_reducible apply Step.make1 2); exact rfl; exact rfl; exact rfl; exact el23; (focus (omega)); exact rfl; (focus (first | (simp only [List.nil_append, List.cons_append, List.set_cons_zero, List.set_cons_succ, iv_set, bv_set, iv_rep, bv_rep]; done) | (simp only [List.nil_append, List.cons_append, List.set_cons_zero, List.set_cons_succ, iv_set, bv_set, iv_rep, bv_rep]; rfl) | rfl))) | ((with_reducible apply Step.store (k := 2)); exact rfl; exact rfl; exact rfl; exact rfl; (focus (decide +kernel)); exact rfl; exact rfl; (focus (first | omega | (simp [iv, bv]; done) | (simp [iv, bv]; omega))); (focus (first | (simp only [List.nil_append, List.cons_append, List.set_cons_zero, List.set_cons_succ, iv_set, bv_set, iv_rep, bv_rep]; done) | (simp only [List.nil_append, List.cons_append, List.set_cons_zero, List.set_cons_succ, iv_set, bv_set, iv_rep, bv_rep]; rfl) | rfl))) | ((with_reducible apply Step.storeA (k := 2) (n := 4)); exact rfl; exact rfl; exact rfl; exact rfl; (focus (decide +kernel)); exact rfl; (focus (kernel_rfl)); exact rfl; (focus (first | (simp only [List.nil_append, List.cons_append, List.set_cons_zero, List.set_cons_succ, iv_set, bv_set, iv_rep, bv_rep]; done) | (simp only [List.nil_append, List.cons_append, List.set_cons_zero, List.set_cons_succ, iv_set, bv_set, iv_rep, bv_rep]; rfl) | rfl))) | ((with_reducible apply Step.make1 3); exact rfl; exact rfl; exact rfl; exact el23; (focus (omega)); exact rfl; (focus (first | (simp only [List.nil_append, List.cons_append, List.set_cons_zero, List.set_cons_succ, iv_set, bv_set, iv_rep, bv_rep]; done) | (simp only [List.nil_append, List.cons_append, List.set_cons_zero, List.set_cons_succ, iv_set, bv_set, iv_rep, bv_rep]; rfl) | rfl))) | ((with_reducible apply Step.store (k := 3)); exact rfl; exact rfl; exact rfl; exact rfl; (focus (decide +kernel)); exact rfl; exact rfl; (focus (first | omega | (simp [iv, bv]; done) | (simp [iv, bv]; omega))); (focus (first | (simp only [List.nil_append, List.cons_append, List.set_cons_zero, List.set_cons_succ, iv_set, bv_set, iv_rep, bv_rep]; done) | (simp only [List.nil_append, List.cons_append, List.set_cons_zero, List.set_cons_succ, iv_set, bv_set, iv_rep, bv_rep]; rfl) | rfl))) | ((with_reducible apply Step.storeA (k := 3) (n := 4)); exact rfl; exact rfl; exact rfl; exact rfl; (focus (decide +kernel)); exact rfl; (focus (kernel_rfl)); exact rfl; (focus (first | (simp only [List.nil_append, List.cons_append, List.set_cons_zero, List.set_cons_succ, iv_set, bv_set, iv_rep, bv_rep]; done) | (simp only [List.nil_append, List.cons_append, List.set_cons_zero, List.set_cons_succ, iv_set, bv_set, iv_rep, bv_rep]; rfl) | rfl)))) | (with_reducible refine AWo.nil ?_) | ((with_reducible apply AW.seq)) | ((with_reducible apply Then.n)) | ((with_reducible apply AW.regL)) | ((with_reducible apply AW.block)) | ((with_reducible apply AW.drawL fit); (focus (decide +kernel))) | ((with_reducible apply AW.exit)) | ((with_reducible apply InBlk.n)) | ((with_reducible apply InBlk.hit)) | ((with_reducible apply InBlk.miss); exact rfl) | ((with_reducible apply Then.e)) | ((with_reducible apply AW.skip)) | ((with_reducible apply AW.condT); exact rfl; (focus (first | rfl | (simp only [decide_eq_true_eq, decide_eq_false_iff_not, Bool.not_eq_true', Bool.not_eq_false', Bool.not_true, Bool.not_false]; first | assumption | omega) | (simp; done) | (simp; omega)))) | ((with_reducible apply AW.condF); exact rfl; (focus (first | rfl | (simp only [decide_eq_true_eq, decide_eq_false_iff_not, Bool.not_eq_true', Bool.not_eq_false', Bool.not_true, Bool.not_false]; first | assumption | omega) | (simp; done) | (simp; omega))))))
    refine AW.loopT (fun n t L => ∃ (b c : Nat), n = j.length - b ∧ b ≤ j.length ∧ c = cntD j i b ∧ L = [some { cells := iv (rowJ (eddL j) i) }] ∧
      t = [(0, v), (3, .slice (some ⟨m.length + 0, 0, none⟩) j.length j.length), (11, .int .i64 (j.length : Nat)), (12, .int .i64 (i : Nat)), (4, .int .i64 (i : Nat)), (5, .int .i64 (c : Nat)), (16, .int .i64 (j.length : Nat)), (17, .int .i64 (b : Nat))]) ⟨_, _, _, (Or.inl ⟨rfl, (by repeat (first | exact trivial | (refine And.intro rfl ?_)))⟩), 0, 0, rfl, Nat.zero_le _, rfl, rfl, rfl⟩ ?_
    rintro n t L ⟨b, c, rfl, hb, hc, rfl, rfl⟩
    have hcl := cntD_le j i b
    have hcs := cntD_succ j i b
    rcases Nat.lt_or_ge b j.length with hlt2 | hge2
    · obtain ⟨w', hr', hw'⟩ := k3 b hlt2
      have fb : ∀ L : AM, Rd (m ++ L) a (o + b * 4 + 1) (.int .i64 (j.getD b default).due) := fun L => (hr'.old L).at_ 1 rfl
      have hle : (b ≠ i ∧ leD j b i = true) ↔ ((j.getD b default).due < (j.getD i default).due ∨ (j.getD b default).due = (j.getD i default).due ∧ b < i) := by
        unfold leD
        simp only [Int.toNat_natCast, decide_eq_true_eq]
        by_cases e : b = i
        · subst e
          exact ⟨fun h => absurd rfl h.1, fun h => by omega⟩
        · refine ⟨fun h => ?_, fun h => ⟨e, ?_⟩⟩
          · rcases h.2 with h | ⟨h1, h2 | ⟨_, h2⟩⟩
            · exact .inl h
            · omega
            · exact .inr ⟨h1, by omega⟩
          · rcases h with h | ⟨h1, h2⟩
            · exact .inl h
            · exact .inr ⟨h1, .inr ⟨trivial, by omega⟩⟩
      clear hr hr' hw hw'
      generalize (j.getD i default).due = di at *
      generalize (j.getD b default).due = db at *
      by_cases d1 : db < di
      · rw [if_pos (hle.2 (.inl d1))] at hcs
        (repeat (first | (with_reducible refine AWo.cons ?_) | ((with_reducible refine Step.id ?_); first | ((with_reducible apply Step.gdU); exact rfl; exact rfl) | ((with_reducible apply Step.gdT); exact rfl; exact rfl; (focus (first | rfl | (simp only [decide_eq_true_eq, decide_eq_false_iff_not, Bool.not_eq_true', Bool.not_eq_false', Bool.not_true, Bool.not_false]; first | assumption | omega) | (simp; done) | (simp; omega)))) | ((with_reducible apply Step.gdF); exact rfl; exact rfl; (focus (first | rfl | (simp only [decide_eq_true_eq, decide_eq_false_iff_not, Bool.not_eq_true', Bool.not_eq_false', Bool.not_true, Bool.not_false]; first | assumption | omega) | (simp; done) | (simp; omega)))) | ((with_reducible apply Step.move); exact rfl; exact rfl) | ((with_reducible apply Step.assign); exact rfl; exact rfl) | ((with_reducible apply Step.load); exact rfl; (focus (decide +kernel)); exact rfl; (focus (first | assumption | exact fi _ | exact fb _ | exact Rd.new rfl (iv_get (by first | omega | (simp; omega))) | exact Rd.new rfl (bv_get (by first | omega | (simp; omega))) | exact Rd.new rfl rfl | exact Rd.old _ (by assumption) | exact Rd.old _ (fi _) | exact Rd.old _ (fb _)))) | ((with_reducible apply Step.loadL (n := 4)); exact rfl; (focus (decide +kernel)); (focus (decide +kernel)); exact rfl; (focus (first | assumption | exact RdL.new rfl rfl | exact RdL.old _ (by assumption) | exact fi _ | exact RdL.old _ (fi _) | exact fb _ | exact RdL.old _ (fb _))); exact rfl; exact rfl) | ((with_reducible apply Step.ix1z); exact rfl; (focus (first | assumption | exact Sl.mk (by omega) | exact gv_sl _ _ | exact Sl.nil _ _ | exact Sl.nil 0 0)); exact rfl; (focus (decide +kernel)); exact rfl; (focus (omega))) | ((with_reducible apply Step.ix1); exact rfl; (focus (first | assumption | exact Sl.mk (by omega) | exact gv_sl _ _ | exact Sl.nil _ _ | exact Sl.nil 0 0)); exact rfl; (focus (decide +kernel)); exact rfl; (focus (omega))) | ((with_reducible apply Step.ixz (s := 4)); exact rfl; (focus (first | assumption | exact Sl.mk (by omega) | exact gv_sl _ _ | exact Sl.nil _ _ | exact Sl.nil 0 0)); exact rfl; (focus (decide +kernel)); exact rfl; (focus (omega))) | ((with_reducible apply Step.ix (s := 4)); exact rfl; (focus (first | assumption | exact Sl.mk (by omega) | exact gv_sl _ _ | exact Sl.nil _ _ | exact Sl.nil 0 0)); exact rfl; (focus (decide +kernel)); exact rfl; (focus (omega))) | ((with_reducible apply Step.field (k := 1)); exact rfl; (focus (decide +kernel)); exact rfl) | ((with_reducible apply Step.add); exact rfl; exact rfl; (focus (omega)); exact rfl) | ((with_reducible apply Step.lss); exact rfl; exact rfl; exact rfl) | ((with_reducible apply Step.eql); exact rfl; exact rfl; exact rfl) | ((with_reducible apply Step.eqNil); exact rfl; exact rfl; exact rfl; exact rfl) | ((with_reducible apply Step.len); exact rfl; (focus (first | assumption | exact Sl.mk (by omega) | exact gv_sl _ _ | exact Sl.nil _ _ | exact Sl.nil 0 0)); (focus (decide +kernel)); exact rfl) | ((with_reducible apply Step.pickT); exact rfl; exact rfl; exact rfl; exact rfl; (focus (first | rfl | (simp only [decide_eq_true_eq, decide_eq_false_iff_not, Bool.not_eq_true', Bool.not_eq_false', Bool.not_true, Bool.not_false]; first | assumption | omega) | (simp; done) | (simp; omega)))) | ((with_reducible apply Step.pickF); exact rfl; exact rfl; exact rfl; exact rfl; (focus (first | rfl | (simp only [decide_eq_true_eq, decide_eq_false_iff_not, Bool.not_eq_true', Bool.not_eq_false', Bool.not_true, Bool.not_false]; first | assumption | omega) | (simp; done) | (simp; omega)))) | ((with_reducible apply Step.make1 0); exact rfl; exact rfl; exact rfl; exact el23; (focus (omega)); exact rfl; (focus (first | (simp only [List.nil_append, List.cons_append, List.set_cons_zero, List.set_cons_succ, iv_set, bv_set, iv_rep, bv_rep]; done) | (simp only [List.nil_append, List.cons_append, List.set_cons_zero, List.set_cons_succ, iv_set, bv_set, iv_rep, bv_rep]; rfl) | rfl))) | ((with_reducible apply Step.store (k := 0)); exact rfl; exact rfl; exact rfl; exact rfl; (focus (decide +kernel)); exact rfl; exact rfl; (focus (first | omega | (simp [iv, bv]; done) | (simp [iv, bv]; omega))); (focus (first | (simp only [List.nil_append, List.cons_append, List.set_cons_zero, List.set_cons_succ, iv_set, bv_set, iv_rep, bv_rep]; done) | (simp only [List.nil_append, List.cons_append, List.set_cons_zero, List.set_cons_succ, iv_set, bv_set, iv_rep, bv_rep]; rfl) | rfl))) | ((with_reducible apply Step.storeA (k := 0) (n := 4)); exact rfl; exact rfl; exact rfl; exact rfl; (focus (decide +kernel)); exact rfl; (focus (kernel_rfl)); exact rfl; (focus (first | (simp only [List.nil_append, List.cons_append, List.set_cons_zero, List.set_cons_succ, iv_set, bv_set, iv_rep, bv_rep]; done) | (simp only [List.nil_append, List.cons_append, List.set_cons_zero, List.set_cons_succ, iv_set, bv_set, iv_rep, bv_rep]; rfl) | rfl))) | ((with_reducible apply Step.make1 1); exact rfl; exact rfl; exact rfl; exact el23; (focus (omega)); exact rfl; (focus (first | (simp only [List.nil_append, List.cons_append, List.set_cons_zero, List.set_cons_succ, iv_set, bv_set, iv_rep, bv_rep]; done) | (simp only [List.nil_append, List.cons_append, List.set_cons_zero, List.set_cons_succ, iv_set, bv_set, iv_rep, bv_rep]; rfl) | rfl))) | ((with_reducible apply Step.store (k := 1)); exact rfl; exact rfl; exact rfl; exact rfl; (focus (decide +kernel)); exact rfl; exact rfl; (focus (first | omega | (simp [iv, bv]; done) | (simp [iv, bv]; omega))); (focus (first | (simp only [List.nil_append, List.cons_append, List.set_cons_zero, List.set_cons_succ, iv_set, bv_set, iv_rep, bv_rep]; done) | (simp only [List.nil_append, List.cons_append, List.set_cons_zero, List.set_cons_succ, iv_set, bv_set, iv_rep, bv_rep]; rfl) | rfl))) | ((with_reducible apply Step.storeA (k := 1) (n := 4)); exact rfl; exact rfl; exact rfl; exact rfl; (focus (decide +kernel)); exact rfl; (focus (kernel_rfl)); exact rfl; (focus (first | (simp only [List.nil_append, List.cons_append, List.set_cons_zero, List.set_cons_succ, iv_set, bv_set, iv_rep, bv_rep]; done) | (simp only [List.nil_append, List.cons_append, List.set_cons_zero, List.set_cons_succ, iv_set, bv_set, iv_rep, bv_rep]; rfl) | rfl))) | ((with_reducible apply Step.make1 2); exact rfl; exact rfl; exact rfl; exact el23; (focus (omega)); exact rfl; (focus (first | (simp only [List.nil_append, List.cons_append, List.set_cons_zero, List.set_cons_succ, iv_set, bv_set, iv_rep, bv_rep]; done) | (simp only [List.nil_append, List.cons_append, List.set_cons_zero, List.set_cons_succ, iv_set, bv_set, iv_rep, bv_rep]; rfl) | rfl))) | ((with_reducible apply Step.store (k := 2)); exact rfl; exact rfl; exact rfl; exact rfl; (focus (decide +kernel)); exact rfl; exact rfl; (focus (first | omega | (simp [iv, bv]; done) | (simp [iv, bv]; omega))); (focus (first | (simp only [List.nil_append, List.cons_append, List.set_cons_zero, List.set_cons_succ, iv_set, bv_set, iv_rep, bv_rep]; done) | (simp only [List.nil_append, List.cons_append, List.set_cons_zero, List.set_cons_succ, iv_set, bv_set, iv_rep, bv_rep]; rfl) | rfl))) | ((with_reducible apply Step.storeA (k := 2) (n := 4)); exact rfl; exact rfl; exact rfl; exact rfl; (focus (decide +kernel)); exact rfl; (focus (kernel_rfl)); exact rfl; (focus (first | (simp only [List.nil_append, List.cons_append, List.set_cons_zero, List.set_cons_succ, iv_set, bv_set, iv_rep, bv_rep]; done) | (simp only [List.nil_append, List.cons_append, List.set_cons_zero, List.set_cons_succ, iv_set, bv_set, iv_rep, bv_rep]; rfl) | rfl))) | ((with_reducible apply Step.make1 3); exact rfl; exact rfl; exact rfl; exact el23; (focus (omega)); exact rfl; (focus (first | (simp only [List.nil_append, List.cons_append, List.set_cons_zero, List.set_cons_succ, iv_set, bv_set, iv_rep, bv_rep]; done) | (simp only [List.nil_append, List.cons_append, List.set_cons_zero, List.set_cons_succ, iv_set, bv_set, iv_rep, bv_rep]; rfl) | rfl))) | ((with_reducible apply Step.store (k := 3)); exact rfl; exact rfl; exact rfl; exact rfl; (focus (decide +kernel)); exact rfl; exact rfl; (focus (first | omega | (simp [iv, bv]; done) | (simp [iv, bv]; omega))); (focus (first | (simp only [List.nil_append, List.cons_append, List.set_cons_zero, List.set_cons_succ, iv_set, bv_set, iv_rep, bv_rep]; done) | (simp only [List.nil_append, List.cons_append, List.set_cons_zero, List.set_cons_succ, iv_set, bv_set, iv_rep, bv_rep]; rfl) | rfl))) | ((with_reducible apply Step.storeA (k := 3) (n := 4)); exact rfl; exact rfl; exact rfl; exact rfl; (focus (decide +kernel)); exact rfl; (focus (kernel_rfl)); exact rfl; (focus (first | (simp only [List.nil_append, List.cons_append, List.set_cons_zero, List.set_cons_succ, iv_set, bv_set, iv_rep, bv_rep]; done) | (simp only [List.nil_append, List.cons_append, List.set_cons_zero, List.set_cons_succ, iv_set, bv_set, iv_rep, bv_rep]; rfl) | rfl)))) | (with_reducible refine AWo.nil ?_) | ((with_reducible apply AW.seq)) | ((with_reducible apply Then.n)) | ((with_reducible apply AW.regL)) | ((with_reducible apply AW.block)) | ((with_reducible apply AW.drawL fit); (focus (decide +kernel))) | ((with_reducible apply AW.exit)) | ((with_reducible apply InBlk.n)) | ((with_reducible apply InBlk.hit)) | ((with_reducible apply InBlk.miss); exact rfl) | ((with_reducible apply Then.e)) | ((with_reducible apply AW.skip)) | ((with_reducible apply AW.condT); exact rfl; (focus (first | rfl | (simp only [decide_eq_true_eq, decide_eq_false_iff_not, Bool.not_eq_true', Bool.not_eq_false', Bool.not_true, Bool.not_false]; first | assumption | omega) | (simp; done) | (simp; omega)))) | ((with_reducible apply AW.condF); exact rfl; (focus (first | rfl | (simp only [decide_eq_true_eq, decide_eq_false_iff_not, Bool.not_eq_true', Bool.not_eq_false', Bool.not_true, Bool.not_false]; first | assumption | omega) | (simp; done) | (simp; omega))))))
        exact ⟨_, _, _, by omega, (Or.inl ⟨rfl, (by repeat (first | exact trivial | (refine And.intro rfl ?_)))⟩), b + 1, c + 1, rfl, by omega, by omega, rfl, rfl⟩
      · by_cases d2 : db = di
        · by_cases d3 : b < i
          · rw [if_pos (hle.2 (.inr ⟨d2, d3⟩))] at hcs
            (repeat (first | (with_reducible refine AWo.cons ?_) | ((with_reducible refine Step.id ?_); first | ((with_reducible apply Step.gdU); exact rfl; exact rfl) | ((with_reducible apply Step.gdT); exact rfl; exact rfl; (focus (first | rfl | (simp only [decide_eq_true_eq, decide_eq_false_iff_not, Bool.not_eq_true', Bool.not_eq_false', Bool.not_true, Bool.not_false]; first | assumption | omega) | (simp; done) | (simp; omega)))) | ((with_reducible apply Step.gdF); exact rfl; exact rfl; (focus (first | rfl | (simp only [decide_eq_true_eq, decide_eq_false_iff_not, Bool.not_eq_true', Bool.not_eq_false', Bool.not_true, Bool.not_false]; first | assumption | omega) | (simp; done) | (simp; omega)))) | ((with_reducible apply Step.move); exact rfl; exact rfl) | ((with_reducible apply Step.assign); exact rfl; exact rfl) | ((with_reducible apply Step.load); exact rfl; (focus (decide +kernel)); exact rfl; (focus (first | assumption | exact fi _ | exact fb _ | exact Rd.new rfl (iv_get (by first | omega | (simp; omega))) | exact Rd.new rfl (bv_get (by first | omega | (simp; omega))) | exact Rd.new rfl rfl | exact Rd.old _ (by assumption) | exact Rd.old _ (fi _) | exact Rd.old _ (fb _)))) | ((with_reducible apply Step.loadL (n := 4)); exact rfl; (focus (decide +kernel)); (focus (decide +kernel)); exact rfl; (focus (first | assumption | exact RdL.new rfl rfl | exact RdL.old _ (by assumption) | exact fi _ | exact RdL.old _ (fi _) | exact fb _ | exact RdL.old _ (fb _))); exact rfl; exact rfl) | ((with_reducible apply Step.ix1z); exact rfl; (focus (first | assumption | exact Sl.mk (by omega) | exact gv_sl _ _ | exact Sl.nil _ _ | exact Sl.nil 0 0)); exact rfl; (focus (decide +kernel)); exact rfl; (focus (omega))) | ((with_reducible apply Step.ix1); exact rfl; (focus (first | assumption | exact Sl.mk (by omega) | exact gv_sl _ _ | exact Sl.nil _ _ | exact Sl.nil 0 0)); exact rfl; (focus (decide +kernel)); exact rfl; (focus (omega))) | ((with_reducible apply Step.ixz (s := 4)); exact rfl; (focus (first | assumption | exact Sl.mk (by omega) | exact gv_sl _ _ | exact Sl.nil _ _ | exact Sl.nil 0 0)); exact rfl; (focus (decide +kernel)); exact rfl; (focus (omega))) | ((with_reducible apply Step.ix (s := 4)); exact rfl; (focus (first | assumption | exact Sl.mk (by omega) | exact gv_sl _ _ | exact Sl.nil _ _ | exact Sl.nil 0 0)); exact rfl; (focus (decide +kernel)); exact rfl; (focus (omega))) | ((with_reducible apply Step.field (k := 1)); exact rfl; (focus (decide +kernel)); exact rfl) | ((with_reducible apply Step.add); exact rfl; exact rfl; (focus (omega)); exact rfl) | ((with_reducible apply Step.lss); exact rfl; exact rfl; exact rfl) | ((with_reducible apply Step.eql); exact rfl; exact rfl; exact rfl) | ((with_reducible apply Step.eqNil); exact rfl; exact rfl; exact rfl; exact rfl) | ((with_reducible apply Step.len); exact rfl; (focus (first | assumption | exact Sl.mk (by omega) | exact gv_sl _ _ | exact Sl.nil _ _ | exact Sl.nil 0 0)); (focus (decide +kernel)); exact rfl) | ((with_reducible apply Step.pickT); exact rfl; exact rfl; exact rfl; exact rfl; (focus (first | rfl | (simp only [decide_eq_true_eq, decide_eq_false_iff_not, Bool.not_eq_true', Bool.not_eq_false', Bool.not_true, Bool.not_false]; first | assumption | omega) | (simp; done) | (simp; omega)))) | ((with_reducible apply Step.pickF); exact rfl; exact rfl; exact rfl; exact rfl; (focus (first | rfl | (simp only [decide_eq_true_eq, decide_eq_false_iff_not, Bool.not_eq_true', Bool.not_eq_false', Bool.not_true, Bool.not_false]; first | assumption | omega) | (simp; done) | (simp; omega)))) | ((with_reducible apply Step.make1 0); exact rfl; exact rfl; exact rfl; exact el23; (focus (omega)); exact rfl; (focus (first | (simp only [List.nil_append, List.cons_append, List.set_cons_zero, List.set_cons_succ, iv_set, bv_set, iv_rep, bv_rep]; done) | (simp only [List.nil_append, List.cons_append, List.set_cons_zero, List.set_cons_succ, iv_set, bv_set, iv_rep, bv_rep]; rfl) | rfl))) | ((with_reducible apply Step.store (k := 0)); exact rfl; exact rfl; exact rfl; exact rfl; (focus (decide +kernel)); exact rfl; exact rfl; (focus (first | omega | (simp [iv, bv]; done) | (simp [iv, bv]; omega))); (focus (first | (simp only [List.nil_append, List.cons_append, List.set_cons_zero, List.set_cons_succ, iv_set, bv_set, iv_rep, bv_rep]; done) | (simp only [List.nil_append, List.cons_append, List.set_cons_zero, List.set_cons_succ, iv_set, bv_set, iv_rep, bv_rep]; rfl) | rfl))) | ((with_reducible apply Step.storeA (k := 0) (n := 4)); exact rfl; exact rfl; exact rfl; exact rfl; (focus (decide +kernel)); exact rfl; (focus (kernel_rfl)); exact rfl; (focus (first | (simp only [List.nil_append, List.cons_append, List.set_cons_zero, List.set_cons_succ, iv_set, bv_set, iv_rep, bv_rep]; done) | (simp only [List.nil_append, List.cons_append, List.set_cons_zero, List.set_cons_succ, iv_set, bv_set, iv_rep, bv_rep]; rfl) | rfl))) | ((with_reducible apply Step.make1 1); exact rfl; exact rfl; exact rfl; exact el23; (focus (omega)); exact rfl; (focus (first | (simp only [List.nil_append, List.cons_append, List.set_cons_zero, List.set_cons_succ, iv_set, bv_set, iv_rep, bv_rep]; done) | (simp only [List.nil_append, List.cons_append, List.set_cons_zero, List.set_cons_succ, iv_set, bv_set, iv_rep, bv_rep]; rfl) | rfl))) | ((with_reducible apply Step.store (k := 1)); exact rfl; exact rfl; exact rfl; exact rfl; (focus (decide +kernel)); exact rfl; exact rfl; (focus (first | omega | (simp [iv, bv]; done) | (simp [iv, bv]; omega))); (focus (first | (simp only [List.nil_append, List.cons_append, List.set_cons_zero, List.set_cons_succ, iv_set, bv_set, iv_rep, bv_rep]; done) | (simp only [List.nil_append, List.cons_append, List.set_cons_zero, List.set_cons_succ, iv_set, bv_set, iv_rep, bv_rep]; rfl) | rfl))) | ((with_reducible apply Step.storeA (k := 1) (n := 4)); exact rfl; exact rfl; exact rfl; exact rfl; (focus (decide +kernel)); exact rfl; (focus (kernel_rfl)); exact rfl; (focus (first | (simp only [List.nil_append, List.cons_append, List.set_cons_zero, List.set_cons_succ, iv_set, bv_set, iv_rep, bv_rep]; done) | (simp only [List.nil_append, List.cons_append, List.set_cons_zero, List.set_cons_succ, iv_set, bv_set, iv_rep, bv_rep]; rfl) | rfl))) | ((with_reducible apply Step.make1 2); exact rfl; exact rfl; exact rfl; exact el23; (focus (omega)); exact rfl; (focus (first | (simp only [List.nil_append, List.cons_append, List.set_cons_zero, List.set_cons_succ, iv_set, bv_set, iv_rep, bv_rep]; done) | (simp only [List.nil_append, List.cons_append, List.set_cons_zero, List.set_cons_succ, iv_set, bv_set, iv_rep, bv_rep]; rfl) | rfl))) | ((with_reducible apply Step.store (k := 2)); exact rfl; exact rfl; exact rfl; exact rfl; (focus (decide +kernel)); exact rfl; exact rfl; (focus (first | omega | (simp [iv, bv]; done) | (simp [iv, bv]; omega))); (focus (first | (simp only [List.nil_append, List.cons_append, List.set_cons_zero, List.set_cons_succ, iv_set, bv_set, iv_rep, bv_rep]; done) | (simp only [List.nil_append, List.cons_append, List.set_cons_zero, List.set_cons_succ, iv_set, bv_set, iv_rep, bv_rep]; rfl) | rfl))) | ((with_reducible apply Step.storeA (k := 2) (n := 4)); exact rfl; exact rfl; exact rfl; exact rfl; (focus (decide +kernel)); exact rfl; (focus (kernel_rfl)); exact rfl; (focus (first | (simp only [List.nil_append, List.cons_append, List.set_cons_zero, List.set_cons_succ, iv_set, bv_set, iv_rep, bv_rep]; done) | (simp only [List.nil_append, List.cons_append, List.set_cons_zero, List.set_cons_succ, iv_set, bv_set, iv_rep, bv_rep]; rfl) | rfl))) | ((with_reducible apply Step.make1 3); exact rfl; exact rfl; exact rfl; exact el23; (focus (omega)); exact rfl; (focus (first | (simp only [List.nil_append, List.cons_append, List.set_cons_zero, List.set_cons_succ, iv_set, bv_set, iv_rep, bv_rep]; done) | (simp only [List.nil_append, List.cons_append, List.set_cons_zero, List.set_cons_succ, iv_set, bv_set, iv_rep, bv_rep]; rfl) | rfl))) | ((with_reducible apply Step.store (k := 3)); exact rfl; exact rfl; exact rfl; exact rfl; (focus (decide +kernel)); exact rfl; exact rfl; (focus (first | omega | (simp [iv, bv]; done) | (simp [iv, bv]; omega))); (focus (first | (simp only [List.nil_append, List.cons_append, List.set_cons_zero, List.set_cons_succ, iv_set, bv_set, iv_rep, bv_rep]; done) | (simp only [List.nil_append, List.cons_append, List.set_cons_zero, List.set_cons_succ, iv_set, bv_set, iv_rep, bv_rep]; rfl) | rfl))) | ((with_reducible apply Step.storeA (k := 3) (n := 4)); exact rfl; exact rfl; exact rfl; exact rfl; (focus (decide +kernel)); exact rfl; (focus (kernel_rfl)); exact rfl; (focus (first | (simp only [List.nil_append, List.cons_append, List.set_cons_zero, List.set_cons_succ, iv_set, bv_set, iv_rep, bv_rep]; done) | (simp only [List.nil_append, List.cons_append, List.set_cons_zero, List.set_cons_succ, iv_set, bv_set, iv_rep, bv_rep]; rfl) | rfl)))) | (with_reducible refine AWo.nil ?_) | ((with_reducible apply AW.seq)) | ((with_reducible apply Then.n)) | ((with_reducible apply AW.regL)) | ((with_reducible apply AW.block)) | ((with_reducible apply AW.drawL fit); (focus (decide +kernel))) | ((with_reducible apply AW.exit)) | ((with_reducible apply InBlk.n)) | ((with_reducible apply InBlk.hit)) | ((with_reducible apply InBlk.miss); exact rfl) | ((with_reducible apply Then.e)) | ((with_reducible apply AW.skip)) | ((with_reducible apply AW.condT); exact rfl; (focus (first | rfl | (simp only [decide_eq_true_eq, decide_eq_false_iff_not, Bool.not_eq_true', Bool.not_eq_false', Bool.not_true, Bool.not_false]; first | assumption | omega) | (simp; done) | (simp; omega)))) | ((with_reducible apply AW.condF); exact rfl; (focus (first | rfl | (simp only [decide_eq_true_eq, decide_eq_false_iff_not, Bool.not_eq_true', Bool.not_eq_false', Bool.not_true, Bool.not_false]; first | assumption | omega) | (simp; done) | (simp; omega))))))
            exact ⟨_, _, _, by omega, (Or.inl ⟨rfl, (by repeat (first | exact trivial | (refine And.intro rfl ?_)))⟩), b + 1, c + 1, rfl, by omega, by omega, rfl, rfl⟩
          · rw [if_neg (fun h => by have := hle.1 h; omega)] at hcs
            (repeat (first | (with_reducible refine AWo.cons ?_) | ((with_reducible refine Step.id ?_); first | ((with_reducible apply Step.gdU); exact rfl; exact rfl) | ((with_reducible apply Step.gdT); exact rfl; exact rfl; (focus (first | rfl | (simp only [decide_eq_true_eq, decide_eq_false_iff_not, Bool.not_eq_true', Bool.not_eq_false', Bool.not_true, Bool.not_false]; first | assumption | omega) | (simp; done) | (simp; omega)))) | ((with_reducible apply Step.gdF); exact rfl; exact rfl; (focus (first | rfl | (simp only [decide_eq_true_eq, decide_eq_false_iff_not, Bool.not_eq_true', Bool.not_eq_false', Bool.not_true, Bool.not_false]; first | assumption | omega) | (simp; done) | (simp; omega)))) | ((with_reducible apply Step.move); exact rfl; exact rfl) | ((with_reducible apply Step.assign); exact rfl; exact rfl) | ((with_reducible apply Step.load); exact rfl; (focus (decide +kernel)); exact rfl; (focus (first | assumption | exact fi _ | exact fb _ | exact Rd.new rfl (iv_get (by first | omega | (simp; omega))) | exact Rd.new rfl (bv_get (by first | omega | (simp; omega))) | exact Rd.new rfl rfl | exact Rd.old _ (by assumption) | exact Rd.old _ (fi _) | exact Rd.old _ (fb _)))) | ((with_reducible apply Step.loadL (n := 4)); exact rfl; (focus (decide +kernel)); (focus (decide +kernel)); exact rfl; (focus (first | assumption | exact RdL.new rfl rfl | exact RdL.old _ (by assumption) | exact fi _ | exact RdL.old _ (fi _) | exact fb _ | exact RdL.old _ (fb _))); exact rfl; exact rfl) | ((with_reducible apply Step.ix1z); exact rfl; (focus (first | assumption | exact Sl.mk (by omega) | exact gv_sl _ _ | exact Sl.nil _ _ | exact Sl.nil 0 0)); exact rfl; (focus (decide +kernel)); exact rfl; (focus (omega))) | ((with_reducible apply Step.ix1); exact rfl; (focus (first | assumption | exact Sl.mk (by omega) | exact gv_sl _ _ | exact Sl.nil _ _ | exact Sl.nil 0 0)); exact rfl; (focus (decide +kernel)); exact rfl; (focus (omega))) | ((with_reducible apply Step.ixz (s := 4)); exact rfl; (focus (first | assumption | exact Sl.mk (by omega) | exact gv_sl _ _ | exact Sl.nil _ _ | exact Sl.nil 0 0)); exact rfl; (focus (decide +kernel)); exact rfl; (focus (omega))) | ((with_reducible apply Step.ix (s := 4)); exact rfl; (focus (first | assumption | exact Sl.mk (by omega) | exact gv_sl _ _ | exact Sl.nil _ _ | exact Sl.nil 0 0)); exact rfl; (focus (decide +kernel)); exact rfl; (focus (omega))) | ((with_reducible apply Step.field (k := 1)); exact rfl; (focus (decide +kernel)); exact rfl) | ((with_reducible apply Step.add); exact rfl; exact rfl; (focus (omega)); exact rfl) | ((with_reducible apply Step.lss); exact rfl; exact rfl; exact rfl) | ((with_reducible apply Step.eql); exact rfl; exact rfl; exact rfl) | ((with_reducible apply Step.eqNil); exact rfl; exact rfl; exact rfl; exact rfl) | ((with_reducible apply Step.len); exact rfl; (focus (first | assumption | exact Sl.mk (by omega) | exact gv_sl _ _ | exact Sl.nil _ _ | exact Sl.nil 0 0)); (focus (decide +kernel)); exact rfl) | ((with_reducible apply Step.pickT); exact rfl; exact rfl; exact rfl; exact rfl; (focus (first | rfl | (simp only [decide_eq_true_eq, decide_eq_false_iff_not, Bool.not_eq_true', Bool.not_eq_false', Bool.not_true, Bool.not_false]; first | assumption | omega) | (simp; done) | (simp; omega)))) | ((with_reducible apply Step.pickF); exact rfl; exact rfl; exact rfl; exact rfl; (focus (first | rfl | (simp only [decide_eq_true_eq, decide_eq_false_iff_not, Bool.not_eq_true', Bool.not_eq_false', Bool.not_true, Bool.not_false]; first | assumption | omega) | (simp; done) | (simp; omega)))) | ((with_reducible apply Step.make1 0); exact rfl; exact rfl; exact rfl; exact el23; (focus (omega)); exact rfl; (focus (first | (simp only [List.nil_append, List.cons_append, List.set_cons_zero, List.set_cons_succ, iv_set, bv_set, iv_rep, bv_rep]; done) | (simp only [List.nil_append, List.cons_append, List.set_cons_zero, List.set_cons_succ, iv_set, bv_set, iv_rep, bv_rep]; rfl) | rfl))) | ((with_reducible apply Step.store (k := 0)); exact rfl; exact rfl; exact rfl; exact rfl; (focus (decide +kernel)); exact rfl; exact rfl; (focus (first | omega | (simp [iv, bv]; done) | (simp [iv, bv]; omega))); (focus (first | (simp only [List.nil_append, List.cons_append, List.set_cons_zero, List.set_cons_succ, iv_set, bv_set, iv_rep, bv_rep]; done) | (simp only [List.nil_append, List.cons_append, List.set_cons_zero, List.set_cons_succ, iv_set, bv_set, iv_rep, bv_rep]; rfl) | rfl))) | ((with_reducible apply Step.storeA (k := 0) (n := 4)); exact rfl; exact rfl; exact rfl; exact rfl; (focus (decide +kernel)); exact rfl; (focus (kernel_rfl)); exact rfl; (focus (first | (simp only [List.nil_append, List.cons_append, List.set_cons_zero, List.set_cons_succ, iv_set, bv_set, iv_rep, bv_rep]; done) | (simp only [List.nil_append, List.cons_append, List.set_cons_zero, List.set_cons_succ, iv_set, bv_set, iv_rep, bv_rep]; rfl) | rfl))) | ((with_reducible apply Step.make1 1); exact rfl; exact rfl; exact rfl; exact el23; (focus (omega)); exact rfl; (focus (first | (simp only [List.nil_append, List.cons_append, List.set_cons_zero, List.set_cons_succ, iv_set, bv_set, iv_rep, bv_rep]; done) | (simp only [List.nil_append, List.cons_append, List.set_cons_zero, List.set_cons_succ, iv_set, bv_set, iv_rep, bv_rep]; rfl) | rfl))) | ((with_reducible apply Step.store (k := 1)); exact rfl; exact rfl; exact rfl; exact rfl; (focus (decide +kernel)); exact rfl; exact rfl; (focus (first | omega | (simp [iv, bv]; done) | (simp [iv, bv]; omega))); (focus (first | (simp only [List.nil_append, List.cons_append, List.set_cons_zero, List.set_cons_succ, iv_set, bv_set, iv_rep, bv_rep]; done) | (simp only [List.nil_append, List.cons_append, List.set_cons_zero, List.set_cons_succ, iv_set, bv_set, iv_rep, bv_rep]; rfl) | rfl))) | ((with_reducible apply Step.storeA (k := 1) (n := 4)); exact rfl; exact rfl; exact rfl; exact rfl; (focus (decide +kernel)); exact rfl; (focus (kernel_rfl)); exact rfl; (focus (first | (simp only [List.nil_append, List.cons_append, List.set_cons_zero, List.set_cons_succ, iv_set, bv_set, iv_rep, bv_rep]; done) | (simp only [List.nil_append, List.cons_append, List.set_cons_zero, List.set_cons_succ, iv_set, bv_set, iv_rep, bv_rep]; rfl) | rfl))) | ((with_reducible apply Step.make1 2); exact rfl; exact rfl; exact rfl; exact el23; (focus (omega)); exact rfl; (focus (first | (simp only [List.nil_append, List.cons_append, List.set_cons_zero, List.set_cons_succ, iv_set, bv_set, iv_rep, bv_rep]; done) | (simp only [List.nil_append, List.cons_append, List.set_cons_zero, List.set_cons_succ, iv_set, bv_set, iv_rep, bv_rep]; rfl) | rfl))) | ((with_reducible apply Step.store (k := 2)); exact rfl; exact rfl; exact rfl; exact rfl; (focus (decide +kernel)); exact rfl; exact rfl; (focus (first | omega | (simp [iv, bv]; done) | (simp [iv, bv]; omega))); (focus (first | (simp only [List.nil_append, List.cons_append, List.set_cons_zero, List.set_cons_succ, iv_set, bv_set, iv_rep, bv_rep]; done) | (simp only [List.nil_append, List.cons_append, List.set_cons_zero, List.set_cons_succ, iv_set, bv_set, iv_rep, bv_rep]; rfl) | rfl))) | ((with_reducible apply Step.storeA (k := 2) (n := 4)); exact rfl; exact rfl; exact rfl; exact rfl; (focus (decide +kernel)); exact rfl; (focus (kernel_rfl)); exact rfl; (focus (first | (simp only [List.nil_append, List.cons_append, List.set_cons_zero, List.set_cons_succ, iv_set, bv_set, iv_rep, bv_rep]; done) | (simp only [List.nil_append, List.cons_append, List.set_cons_zero, List.set_cons_succ, iv_set, bv_set, iv_rep, bv_rep]; rfl) | rfl))) | ((with_reducible apply Step.make1 3); exact rfl; exact rfl; exact rfl; exact el23; (focus (omega)); exact rfl; (focus (first | (simp only [List.nil_append, List.cons_append, List.set_cons_zero, List.set_cons_succ, iv_set, bv_set, iv_rep, bv_rep]; done) | (simp only [List.nil_append, List.cons_append, List.set_cons_zero, List.set_cons_succ, iv_set, bv_set, iv_rep, bv_rep]; rfl) | rfl))) | ((with_reducible apply Step.store (k := 3)); exact rfl; exact rfl; exact rfl; exact rfl; (focus (decide +kernel)); exact rfl; exact rfl; (focus (first | omega | (simp [iv, bv]; done) | (simp [iv, bv]; omega))); (focus (first | (simp only [List.nil_append, List.cons_append, List.set_cons_zero, List.set_cons_succ, iv_set, bv_set, iv_rep, bv_rep]; done) | (simp only [List.nil_append, List.cons_append, List.set_cons_zero, List.set_cons_succ, iv_set, bv_set, iv_rep, bv_rep]; rfl) | rfl))) | ((with_reducible apply Step.storeA (k := 3) (n := 4)); exact rfl; exact rfl; exact rfl; exact rfl; (focus (decide +kernel)); exact rfl; (focus (kernel_rfl)); exact rfl; (focus (first | (simp only [List.nil_append, List.cons_append, List.set_cons_zero, List.set_cons_succ, iv_set, bv_set, iv_rep, bv_rep]; done) | (simp only [List.nil_append, List.cons_append, List.set_cons_zero, List.set_cons_succ, iv_set, bv_set, iv_rep, bv_rep]; rfl) | rfl)))) | (with_reducible refine AWo.nil ?_) | ((with_reducible apply AW.seq)) | ((with_reducible apply Then.n)) | ((with_reducible apply AW.regL)) | ((with_reducible apply AW.block)) | ((with_reducible apply AW.drawL fit); (focus (decide +kernel))) | ((with_reducible apply AW.exit)) | ((with_reducible apply InBlk.n)) | ((with_reducible apply InBlk.hit)) | ((with_reducible apply InBlk.miss); exact rfl) | ((with_reducible apply Then.e)) | ((with_reducible apply AW.skip)) | ((with_reducible apply AW.condT); exact rfl; (focus (first | rfl | (simp only [decide_eq_true_eq, decide_eq_false_iff_not, Bool.not_eq_true', Bool.not_eq_false', Bool.not_true, Bool.not_false]; first | assumption | omega) | (simp; done) | (simp; omega)))) | ((with_reducible apply AW.condF); exact rfl; (focus (first | rfl | (simp only [decide_eq_true_eq, decide_eq_false_iff_not, Bool.not_eq_true', Bool.not_eq_false', Bool.not_true, Bool.not_false]; first | assumption | omega) | (simp; done) | (simp; omega))))))
            exact ⟨_, _, _, by omega, (Or.inl ⟨rfl, (by repeat (first | exact trivial | (refine And.intro rfl ?_)))⟩), b + 1, c, rfl, by omega, by omega, rfl, rfl⟩
        · rw [if_neg (fun h => by have := hle.1 h; omega)] at hcs
          (repeat (first | (with_reducible refine AWo.cons ?_) | ((with_reducible refine Step.id ?_); first | ((with_reducible apply Step.gdU); exact rfl; exact rfl) | ((with_reducible apply Step.gdT); exact rfl; exact rfl; (focus (first | rfl | (simp only [decide_eq_true_eq, decide_eq_false_iff_not, Bool.not_eq_true', Bool.not_eq_false', Bool.not_true, Bool.not_false]; first | assumption | omega) | (simp; done) | (simp; omega)))) | ((with_reducible apply Step.gdF); exact rfl; exact rfl; (focus (first | rfl | (simp only [decide_eq_true_eq, decide_eq_false_iff_not, Bool.not_eq_true', Bool.not_eq_false', Bool.not_true, Bool.not_false]; first | assumption | omega) | (simp; done) | (simp; omega)))) | ((with_reducible apply Step.move); exact rfl; exact rfl) | ((with_reducible apply Step.assign); exact rfl; exact rfl) | ((with_reducible apply Step.load); exact rfl; (focus (decide +kernel)); exact rfl; (focus (first | assumption | exact fi _ | exact fb _ | exact Rd.new rfl (iv_get (by first | omega | (simp; omega))) | exact Rd.new rfl (bv_get (by first | omega | (simp; omega))) | exact Rd.new rfl rfl | exact Rd.old _ (by assumption) | exact Rd.old _ (fi _) | exact Rd.old _ (fb _)))) | ((with_reducible apply Step.loadL (n := 4)); exact rfl; (focus (decide +kernel)); (focus (decide +kernel)); exact rfl; (focus (first | assumption | exact RdL.new rfl rfl | exact RdL.old _ (by assumption) | exact fi _ | exact RdL.old _ (fi _) | exact fb _ | exact RdL.old _ (fb _))); exact rfl; exact rfl) | ((with_reducible apply Step.ix1z); exact rfl; (focus (first | assumption | exact Sl.mk (by omega) | exact gv_sl _ _ | exact Sl.nil _ _ | exact Sl.nil 0 0)); exact rfl; (focus (decide +kernel)); exact rfl; (focus (omega))) | ((with_reducible apply Step.ix1); exact rfl; (focus (first | assumption | exact Sl.mk (by omega) | exact gv_sl _ _ | exact Sl.nil _ _ | exact Sl.nil 0 0)); exact rfl; (focus (decide +kernel)); exact rfl; (focus (omega))) | ((with_reducible apply Step.ixz (s := 4)); exact rfl; (focus (first | assumption | exact Sl.mk (by omega) | exact gv_sl _ _ | exact Sl.nil _ _ | exact Sl.nil 0 0)); exact rfl; (focus (decide +kernel)); exact rfl; (focus (omega))) | ((with_reducible apply Step.ix (s := 4)); exact rfl; (focus (first | assumption | exact Sl.mk (by omega) | exact gv_sl _ _ | exact Sl.nil _ _ | exact Sl.nil 0 0)); exact rfl; (focus (decide +kernel)); exact rfl; (focus (omega))) | ((with_reducible apply Step.field (k := 1)); exact rfl; (focus (decide +kernel)); exact rfl) | ((with_reducible apply Step.add); exact rfl; exact rfl; (focus (omega)); exact rfl) | ((with_reducible apply Step.lss); exact rfl; exact rfl; exact rfl) | ((with_reducible apply Step.eql); exact rfl; exact rfl; exact rfl) | ((with_reducible apply Step.eqNil); exact rfl; exact rfl; exact rfl; exact rfl) | ((with_reducible apply Step.len); exact rfl; (focus (first | assumption | exact Sl.mk (by omega) | exact gv_sl _ _ | exact Sl.nil _ _ | exact Sl.nil 0 0)); (focus (decide +kernel)); exact rfl) | ((with_reducible apply Step.pickT); exact rfl; exact rfl; exact rfl; exact rfl; (focus (first | rfl | (simp only [decide_eq_true_eq, decide_eq_false_iff_not, Bool.not_eq_true', Bool.not_eq_false', Bool.not_true, Bool.not_false]; first | assumption | omega) | (simp; done) | (simp; omega)))) | ((with_reducible apply Step.pickF); exact rfl; exact rfl; exact rfl; exact rfl; (focus (first | rfl | (simp only [decide_eq_true_eq, decide_eq_false_iff_not, Bool.not_eq_true', Bool.not_eq_false', Bool.not_true, Bool.not_false]; first | assumption | omega) | (simp; done) | (simp; omega)))) | ((with_reducible apply Step.make1 0); exact rfl; exact rfl; exact rfl; exact el23; (focus (omega)); exact rfl; (focus (first | (simp only [List.nil_append, List.cons_append, List.set_cons_zero, List.set_cons_succ, iv_set, bv_set, iv_rep, bv_rep]; done) | (simp only [List.nil_append, List.cons_append, List.set_cons_zero, List.set_cons_succ, iv_set, bv_set, iv_rep, bv_rep]; rfl) | rfl))) | ((with_reducible apply Step.store (k := 0)); exact rfl; exact rfl; exact rfl; exact rfl; (focus (decide +kernel)); exact rfl; exact rfl; (focus (first | omega | (simp [iv, bv]; done) | (simp [iv, bv]; omega))); (focus (first | (simp only [List.nil_append, List.cons_append, List.set_cons_zero, List.set_cons_succ, iv_set, bv_set, iv_rep, bv_rep]; done) | (simp only [List.nil_append, List.cons_append, List.set_cons_zero, List.set_cons_succ, iv_set, bv_set, iv_rep, bv_rep]; rfl) | rfl))) | ((with_reducible apply Step.storeA (k := 0) (n := 4)); exact rfl; exact rfl; exact rfl; exact rfl; (focus (decide +kernel)); exact rfl; (focus (kernel_rfl)); exact rfl; (focus (first | (simp only [List.nil_append, List.cons_append, List.set_cons_zero, List.set_cons_succ, iv_set, bv_set, iv_rep, bv_rep]; done) | (simp only [List.nil_append, List.cons_append, List.set_cons_zero, List.set_cons_succ, iv_set, bv_set, iv_rep, bv_rep]; rfl) | rfl))) | ((with_reducible apply Step.make1 1); exact rfl; exact rfl; exact rfl; exact el23; (focus (omega)); exact rfl; (focus (first | (simp only [List.nil_append, List.cons_append, List.set_cons_zero, List.set_cons_succ, iv_set, bv_set, iv_rep, bv_rep]; done) | (simp only [List.nil_append, List.cons_append, List.set_cons_zero, List.set_cons_succ, iv_set, bv_set, iv_rep, bv_rep]; rfl) | rfl))) | ((with_reducible apply Step.store (k := 1)); exact rfl; exact rfl; exact rfl; exact rfl; (focus (decide +kernel)); exact rfl; exact rfl; (focus (first | omega | (simp [iv, bv]; done) | (simp [iv, bv]; omega))); (focus (first | (simp only [List.nil_append, List.cons_append, List.set_cons_zero, List.set_cons_succ, iv_set, bv_set, iv_rep, bv_rep]; done) | (simp only [List.nil_append, List.cons_append, List.set_cons_zero, List.set_cons_succ, iv_set, bv_set, iv_rep, bv_rep]; rfl) | rfl))) | ((with_reducible apply Step.storeA (k := 1) (n := 4)); exact rfl; exact rfl; exact rfl; exact rfl; (focus (decide +kernel)); exact rfl; (focus (kernel_rfl)); exact rfl; (focus (first | (simp only [List.nil_append, List.cons_append, List.set_cons_zero, List.set_cons_succ, iv_set, bv_set, iv_rep, bv_rep]; done) | (simp only [List.nil_append, List.cons_append, List.set_cons_zero, List.set_cons_succ, iv_set, bv_set, iv_rep, bv_rep]; rfl) | rfl))) | ((with_reducible apply Step.make1 2); exact rfl; exact rfl; exact rfl; exact el23; (focus (omega)); exact rfl; (focus (first | (simp only [List.nil_append, List.cons_append, List.set_cons_zero, List.set_cons_succ, iv_set, bv_set, iv_rep, bv_rep]; done) | (simp only [List.nil_append, List.cons_append, List.set_cons_zero, List.set_cons_succ, iv_set, bv_set, iv_rep, bv_rep]; rfl) | rfl))) | ((with_reducible apply Step.store (k := 2)); exact rfl; exact rfl; exact rfl; exact rfl; (focus (decide +kernel)); exact rfl; exact rfl; (focus (first | omega | (simp [iv, bv]; done) | (simp [iv, bv]; omega))); (focus (first | (simp only [List.nil_append, List.cons_append, List.set_cons_zero, List.set_cons_succ, iv_set, bv_set, iv_rep, bv_rep]; done) | (simp only [List.nil_append, List.cons_append, List.set_cons_zero, List.set_cons_succ, iv_set, bv_set, iv_rep, bv_rep]; rfl) | rfl))) | ((with_reducible apply Step.storeA (k := 2) (n := 4)); exact rfl; exact rfl; exact rfl; exact rfl; (focus (decide +kernel)); exact rfl; (focus (kernel_rfl)); exact rfl; (focus (first | (simp only [List.nil_append, List.cons_append, List.set_cons_zero, List.set_cons_succ, iv_set, bv_set, iv_rep, bv_rep]; done) | (simp only [List.nil_append, List.cons_append, List.set_cons_zero, List.set_cons_succ, iv_set, bv_set, iv_rep, bv_rep]; rfl) | rfl))) | ((with_reducible apply Step.make1 3); exact rfl; exact rfl; exact rfl; exact el23; (focus (omega)); exact rfl; (focus (first | (simp only [List.nil_append, List.cons_append, List.set_cons_zero, List.set_cons_succ, iv_set, bv_set, iv_rep, bv_rep]; done) | (simp only [List.nil_append, List.cons_append, List.set_cons_zero, List.set_cons_succ, iv_set, bv_set, iv_rep, bv_rep]; rfl) | rfl))) | ((with_reducible apply Step.store (k := 3)); exact rfl; exact rfl; exact rfl; exact rfl; (focus (decide +kernel)); exact rfl; exact rfl; (focus (first | omega | (simp [iv, bv]; done) | (simp [iv, bv]; omega))); (focus (first | (simp only [List.nil_append, List.cons_append, List.set_cons_zero, List.set_cons_succ, iv_set, bv_set, iv_rep, bv_rep]; done) | (simp only [List.nil_append, List.cons_append, List.set_cons_zero, List.set_cons_succ, iv_set, bv_set, iv_rep, bv_rep]; rfl) | rfl))) | ((with_reducible apply Step.storeA (k := 3) (n := 4)); exact rfl; exact rfl; exact rfl; exact rfl; (focus (decide +kernel)); exact rfl; (focus (kernel_rfl)); exact rfl; (focus (first | (simp only [List.nil_append, List.cons_append, List.set_cons_zero, List.set_cons_succ, iv_set, bv_set, iv_rep, bv_rep]; done) | (simp only [List.nil_append, List.cons_append, List.set_cons_zero, List.set_cons_succ, iv_set, bv_set, iv_rep, bv_rep]; rfl) | rfl)))) | (with_reducible refine AWo.nil ?_) | ((with_reducible apply AW.seq)) | ((with_reducible apply Then.n)) | ((with_reducible apply AW.regL)) | ((with_reducible apply AW.block)) | ((with_reducible apply AW.drawL fit); (focus (decide +kernel))) | ((with_reducible apply AW.exit)) | ((with_reducible apply InBlk.n)) | ((with_reducible apply InBlk.hit)) | ((with_reducible apply InBlk.miss); exact rfl) | ((with_reducible apply Then.e)) | ((with_reducible apply AW.skip)) | ((with_reducible apply AW.condT); exact rfl; (focus (first | rfl | (simp only [decide_eq_true_eq, decide_eq_false_iff_not, Bool.not_eq_true', Bool.not_eq_false', Bool.not_true, Bool.not_false]; first | assumption | omega) | (simp; done) | (simp; omega)))) | ((with_reducible apply AW.condF); exact rfl; (focus (first | rfl | (simp only [decide_eq_true_eq, decide_eq_false_iff_not, Bool.not_eq_true', Bool.not_eq_false', Bool.not_true, Bool.not_false]; first | assumption | omega) | (simp; done) | (simp; omega))))))
          exact ⟨_, _, _, by omega, (Or.inl ⟨rfl, (by repeat (first | exact trivial | (refine And.intro rfl ?_)))⟩), b + 1, c, rfl, by omega, by omega, rfl, rfl⟩
    · obtain rfl : b = j.length := by omega
      have hr := cntD_rank j i j.length
      have hr2 := rank_of hT (n := j.length) (a := (i : Int)) (by omega)
      have hset := rowJ_set hT (n := j.length) (a := i) hlt
      rw [← hr, ← hc] at hr2 hset
      have hr3 := hr2.1
      have hlr : (rowJ (eddL j) i).length = j.length := by simp [rowJ, eddL_len]
      have hset' : (rowJ (eddL j) i).set c i = rowJ (eddL j) (i + 1) := hset
      clear hcs hc hr hcl hset hr2
      generalize hrow : rowJ (eddL j) i = row at *
      (repeat (first | (with_reducible refine AWo.cons ?_) | ((with_reducible refine Step.id ?_); first | ((with_reducible apply Step.gdU); exact rfl; exact rfl) | ((with_reducible apply Step.gdT); exact rfl; exact rfl; (focus (first | rfl | (simp only [decide_eq_true_eq, decide_eq_false_iff_not, Bool.not_eq_true', Bool.not_eq_false', Bool.not_true, Bool.not_false]; first | assumption | omega) | (simp; done) | (simp; omega)))) | ((with_reducible apply Step.gdF); exact rfl; exact rfl; (focus (first | rfl | (simp only [decide_eq_true_eq, decide_eq_false_iff_not, Bool.not_eq_true', Bool.not_eq_false', Bool.not_true, Bool.not_false]; first | assumption | omega) | (simp; done) | (simp; omega)))) | ((with_reducible apply Step.move); exact rfl; exact rfl) | ((with_reducible apply Step.assign); exact rfl; exact rfl) | ((with_reducible apply Step.load); exact rfl; (focus (decide +kernel)); exact rfl; (focus (first | assumption | exact Rd.new rfl (iv_get (by first | omega | (simp; omega))) | exact Rd.new rfl (bv_get (by first | omega | (simp; omega))) | exact Rd.new rfl rfl | exact Rd.old _ (by assumption)))) | ((with_reducible apply Step.loadL (n := 4)); exact rfl; (focus (decide +kernel)); (focus (decide +kernel)); exact rfl; (focus (first | assumption | exact RdL.new rfl rfl | exact RdL.old _ (by assumption))); exact rfl; exact rfl) | ((with_reducible apply Step.ix1z); exact rfl; (focus (first | assumption | exact Sl.mk (by omega) | exact gv_sl _ _ | exact Sl.nil _ _ | exact Sl.nil 0 0)); exact rfl; (focus (decide +kernel)); exact rfl; (focus (omega))) | ((with_reducible apply Step.ix1); exact rfl; (focus (first | assumption | exact Sl.mk (by omega) | exact gv_sl _ _ | exact Sl.nil _ _ | exact Sl.nil 0 0)); exact rfl; (focus (decide +kernel)); exact rfl; (focus (omega))) | ((with_reducible apply Step.ixz (s := 4)); exact rfl; (focus (first | assumption | exact Sl.mk (by omega) | exact gv_sl _ _ | exact Sl.nil _ _ | exact Sl.nil 0 0)); exact rfl; (focus (decide +kernel)); exact rfl; (focus (omega))) | ((with_reducible apply Step.ix (s := 4)); exact rfl; (focus (first | assumption | exact Sl.mk (by omega) | exact gv_sl _ _ | exact Sl.nil _ _ | exact Sl.nil 0 0)); exact rfl; (focus (decide +kernel)); exact rfl; (focus (omega))) | ((with_reducible apply Step.field (k := 1)); exact rfl; (focus (decide +kernel)); exact rfl) | ((with_reducible apply Step.add); exact rfl; exact rfl; (focus (omega)); exact rfl) | ((with_reducible apply Step.lss); exact rfl; exact rfl; exact rfl) | ((with_reducible apply Step.eql); exact rfl; exact rfl; exact rfl) | ((with_reducible apply Step.eqNil); exact rfl; exact rfl; exact rfl; exact rfl) | ((with_reducible apply Step.len); exact rfl; (focus (first | assumption | exact Sl.mk (by omega) | exact gv_sl _ _ | exact Sl.nil _ _ | exact Sl.nil 0 0)); (focus (decide +kernel)); exact rfl) | ((with_reducible apply Step.pickT); exact rfl; exact rfl; exact rfl; exact rfl; (focus (first | rfl | (simp only [decide_eq_true_eq, decide_eq_false_iff_not, Bool.not_eq_true', Bool.not_eq_false', Bool.not_true, Bool.not_false]; first | assumption | omega) | (simp; done) | (simp; omega)))) | ((with_reducible apply Step.pickF); exact rfl; exact rfl; exact rfl; exact rfl; (focus (first | rfl | (simp only [decide_eq_true_eq, decide_eq_false_iff_not, Bool.not_eq_true', Bool.not_eq_false', Bool.not_true, Bool.not_false]; first | assumption | omega) | (simp; done) | (simp; omega)))) | ((with_reducible apply Step.make1 0); exact rfl; exact rfl; exact rfl; exact el23; (focus (omega)); exact rfl; (focus (first | (simp only [List.nil_append, List.cons_append, List.set_cons_zero, List.set_cons_succ, iv_set, bv_set, iv_rep, bv_rep]; done) | (simp only [List.nil_append, List.cons_append, List.set_cons_zero, List.set_cons_succ, iv_set, bv_set, iv_rep, bv_rep]; rfl) | rfl))) | ((with_reducible apply Step.store (k := 0)); exact rfl; exact rfl; exact rfl; exact rfl; (focus (decide +kernel)); exact rfl; exact rfl; (focus (first | omega | (simp [iv, bv]; done) | (simp [iv, bv]; omega))); (focus (first | (simp only [List.nil_append, List.cons_append, List.set_cons_zero, List.set_cons_succ, iv_set, bv_set, iv_rep, bv_rep]; done) | (simp only [List.nil_append, List.cons_append, List.set_cons_zero, List.set_cons_succ, iv_set, bv_set, iv_rep, bv_rep]; rfl) | rfl))) | ((with_reducible apply Step.storeA (k := 0) (n := 4)); exact rfl; exact rfl; exact rfl; exact rfl; (focus (decide +kernel)); exact rfl; (focus (kernel_rfl)); exact rfl; (focus (first | (simp only [List.nil_append, List.cons_append, List.set_cons_zero, List.set_cons_succ, iv_set, bv_set, iv_rep, bv_rep]; done) | (simp only [List.nil_append, List.cons_append, List.set_cons_zero, List.set_cons_succ, iv_set, bv_set, iv_rep, bv_rep]; rfl) | rfl))) | ((with_reducible apply Step.make1 1); exact rfl; exact rfl; exact rfl; exact el23; (focus (omega)); exact rfl; (focus (first | (simp only [List.nil_append, List.cons_append, List.set_cons_zero, List.set_cons_succ, iv_set, bv_set, iv_rep, bv_rep]; done) | (simp only [List.nil_append, List.cons_append, List.set_cons_zero, List.set_cons_succ, iv_set, bv_set, iv_rep, bv_rep]; rfl) | rfl))) | ((with_reducible apply Step.store (k := 1)); exact rfl; exact rfl; exact rfl; exact rfl; (focus (decide +kernel)); exact rfl; exact rfl; (focus (first | omega | (simp [iv, bv]; done) | (simp [iv, bv]; omega))); (focus (first | (simp only [List.nil_append, List.cons_append, List.set_cons_zero, List.set_cons_succ, iv_set, bv_set, iv_rep, bv_rep]; done) | (simp only [List.nil_append, List.cons_append, List.set_cons_zero, List.set_cons_succ, iv_set, bv_set, iv_rep, bv_rep]; rfl) | rfl))) | ((with_reducible apply Step.storeA (k := 1) (n := 4)); exact rfl; exact rfl; exact rfl; exact rfl; (focus (decide +kernel)); exact rfl; (focus (kernel_rfl)); exact rfl; (focus (first | (simp only [List.nil_append, List.cons_append, List.set_cons_zero, List.set_cons_succ, iv_set, bv_set, iv_rep, bv_rep]; done) | (simp only [List.nil_append, List.cons_append, List.set_cons_zero, List.set_cons_succ, iv_set, bv_set, iv_rep, bv_rep]; rfl) | rfl))) | ((with_reducible apply Step.make1 2); exact rfl; exact rfl; exact rfl; exact el23; (focus (omega)); exact rfl; (focus (first | (simp only [List.nil_append, List.cons_append, List.set_cons_zero, List.set_cons_succ, iv_set, bv_set, iv_rep, bv_rep]; done) | (simp only [List.nil_append, List.cons_append, List.set_cons_zero, List.set_cons_succ, iv_set, bv_set, iv_rep, bv_rep]; rfl) | rfl))) | ((with_reducible apply Step.store (k := 2)); exact rfl; exact rfl; exact rfl; exact rfl; (focus (decide +kernel)); exact rfl; exact rfl; (focus (first | omega | (simp [iv, bv]; done) | (simp [iv, bv]; omega))); (focus (first | (simp only [List.nil_append, List.cons_append, List.set_cons_zero, List.set_cons_succ, iv_set, bv_set, iv_rep, bv_rep]; done) | (simp only [List.nil_append, List.cons_append, List.set_cons_zero, List.set_cons_succ, iv_set, bv_set, iv_rep, bv_rep]; rfl) | rfl))) | ((with_reducible apply Step.storeA (k := 2) (n := 4)); exact rfl; exact rfl; exact rfl; exact rfl; (focus (decide +kernel)); exact rfl; (focus (kernel_rfl)); exact rfl; (focus (first | (simp only [List.nil_append, List.cons_append, List.set_cons_zero, List.set_cons_succ, iv_set, bv_set, iv_rep, bv_rep]; done) | (simp only [List.nil_append, List.cons_append, List.set_cons_zero, List.set_cons_succ, iv_set, bv_set, iv_rep, bv_rep]; rfl) | rfl))) | ((with_reducible apply Step.make1 3); exact rfl; exact rfl; exact rfl; exact el23; (focus (omega)); exact rfl; (focus (first | (simp only [List.nil_append, List.cons_append, List.set_cons_zero, List.set_cons_succ, iv_set, bv_set, iv_rep, bv_rep]; done) | (simp only [List.nil_append, List.cons_append, List.set_cons_zero, List.set_cons_succ, iv_set, bv_set, iv_rep, bv_rep]; rfl) | rfl))) | ((with_reducible apply Step.store (k := 3)); exact rfl; exact rfl; exact rfl; exact rfl; (focus (decide +kernel)); exact rfl; exact rfl; (focus (first | omega | (simp [iv, bv]; done) | (simp [iv, bv]; omega))); (focus (first | (simp only [List.nil_append, List.cons_append, List.set_cons_zero, List.set_cons_succ, iv_set, bv_set, iv_rep, bv_rep]; done) | (simp only [List.nil_append, List.cons_append, List.set_cons_zero, List.set_cons_succ, iv_set, bv_set, iv_rep, bv_rep]; rfl) | rfl))) | ((with_reducible apply Step.storeA (k := 3) (n := 4)); exact rfl; exact rfl; exact rfl; exact rfl; (focus (decide +kernel)); exact rfl; (focus (kernel_rfl)); exact rfl; (focus (first | (simp only [List.nil_append, List.cons_append, List.set_cons_zero, List.set_cons_succ, iv_set, bv_set, iv_rep, bv_rep]; done) | (simp only [List.nil_append, List.cons_append, List.set_cons_zero, List.set_cons_succ, iv_set, bv_set, iv_rep, bv_rep]; rfl) | rfl)))) | (with_reducible refine AWo.nil ?_) | ((with_reducible apply AW.seq)) | ((with_reducible apply Then.n)) | ((with_reducible apply AW.regL)) | ((with_reducible apply AW.block)) | ((with_reducible apply AW.drawL fit); (focus (decide +kernel))) | ((with_reducible apply AW.exit)) | ((with_reducible apply InBlk.n)) | ((with_reducible apply InBlk.hit)) | ((with_reducible apply InBlk.miss); exact rfl) | ((with_reducible apply Then.e)) | ((with_reducible apply AW.skip)) | ((with_reducible apply AW.condT); exact rfl; (focus (first | rfl | (simp only [decide_eq_true_eq, decide_eq_false_iff_not, Bool.not_eq_true', Bool.not_eq_false', Bool.not_true, Bool.not_false]; first | assumption | omega) | (simp; done) | (simp; omega)))) | ((with_reducible apply AW.condF); exact rfl; (focus (first | rfl | (simp only [decide_eq_true_eq, decide_eq_false_iff_not, Bool.not_eq_true', Bool.not_eq_false', Bool.not_true, Bool.not_false]; first | assumption | omega) | (simp; done) | (simp; omega))))))
      refine ⟨_, _, _, ?_, (Or.inl ⟨rfl, (by repeat (first | exact trivial | (refine And.intro rfl ?_)))⟩), i + 1, rfl, by omega, ?_, rfl⟩
      · omega
      · rw [← hset']
  · (repeat (first | (with_reducible refine AWo.cons ?_) | ((with_reducible refine Step.id ?_); first | ((with_reducible apply Step.gdU); exact rfl; exact rfl) | ((with_reducible apply Step.gdT); exact rfl; exact rfl; (focus (first | rfl | (simp only [decide_eq_true_eq, decide_eq_false_iff_not, Bool.not_eq_true', Bool.not_eq_false', Bool.not_true, Bool.not_false]; first | assumption | omega) | (simp; done) | (simp; omega)))) | ((with_reducible apply Step.gdF); exact rfl; exact rfl; (focus (first | rfl | (simp only [decide_eq_true_eq, decide_eq_false_iff_not, Bool.not_eq_true', Bool.not_eq_false', Bool.not_true, Bool.not_false]; first | assumption | omega) | (simp; done) | (simp; omega)))) | ((with_reducible apply Step.move); exact rfl; exact rfl) | ((with_reducible apply Step.assign); exact rfl; exact rfl) | ((with_reducible apply Step.load); exact rfl; (focus (decide +kernel)); exact rfl; (focus (first | assumption | exact Rd.new rfl (iv_get (by first | omega | (simp; omega))) | exact Rd.new rfl (bv_get (by first | omega | (simp; omega))) | exact Rd.new rfl rfl | exact Rd.old _ (by assumption)))) | ((with_reducible apply Step.loadL (n := 4)); exact rfl; (focus (decide +kernel)); (focus (decide +kernel)); exact rfl; (focus (first | assumption | exact RdL.new rfl rfl | exact RdL.old _ (by assumption))); exact rfl; exact rfl) | ((with_reducible apply Step.ix1z); exact rfl; (focus (first | assumption | exact Sl.mk (by omega) | exact gv_sl _ _ | exact Sl.nil _ _ | exact Sl.nil 0 0)); exact rfl; (focus (decide +kernel)); exact rfl; (focus (omega))) | ((with_reducible apply Step.ix1); exact rfl; (focus (first | assumption | exact Sl.mk (by omega) | exact gv_sl _ _ | exact Sl.nil _ _ | exact Sl.nil 0 0)); exact rfl; (focus (decide +kernel)); exact rfl; (focus (omega))) | ((with_reducible apply Step.ixz (s := 4)); exact rfl; (focus (first | assumption | exact Sl.mk (by omega) | exact gv_sl _ _ | exact Sl.nil _ _ | exact Sl.nil 0 0)); exact rfl; (focus (decide +kernel)); exact rfl; (focus (omega))) | ((with_reducible apply Step.ix (s := 4)); exact rfl; (focus (first | assumption | exact Sl.mk (by omega) | exact gv_sl _ _ | exact Sl.nil _ _ | exact Sl.nil 0 0)); exact rfl; (focus (decide +kernel)); exact rfl; (focus (omega))) | ((with_reducible apply Step.field (k := 1)); exact rfl; (focus (decide +kernel)); exact rfl) | ((with_reducible apply Step.add); exact rfl; exact rfl; (focus (omega)); exact rfl) | ((with_reducible apply Step.lss); exact rfl; exact rfl; exact rfl) | ((with_reducible apply Step.eql); exact rfl; exact rfl; exact rfl) | ((with_reducible apply Step.eqNil); exact rfl; exact rfl; exact rfl; exact rfl) | ((with_reducible apply Step.len); exact rfl; (focus (first | assumption | exact Sl.mk (by omega) | exact gv_sl _ _ | exact Sl.nil _ _ | exact Sl.nil 0 0)); (focus (decide +kernel)); exact rfl) | ((with_reducible apply Step.pickT); exact rfl; exact rfl; exact rfl; exact rfl; (focus (first | rfl | (simp only [decide_eq_true_eq, decide_eq_false_iff_not, Bool.not_eq_true', Bool.not_eq_false', Bool.not_true, Bool.not_false]; first | assumption | omega) | (simp; done) | (simp; omega)))) | ((with_reducible apply Step.pickF); exact rfl; exact rfl; exact rfl; exact rfl; (focus (first | rfl | (simp only [decide_eq_true_eq, decide_eq_false_iff_not, Bool.not_eq_true', Bool.not_eq_false', Bool.not_true, Bool.not_false]; first | assumption | omega) | (simp; done) | (simp; omega)))) | ((with_reducible apply Step.make1 0); exact rfl; exact rfl; exact rfl; exact el23; (focus (omega)); exact rfl; (focus (first | (simp only [List.nil_append, List.cons_append, List.set_cons_zero, List.set_cons_succ, iv_set, bv_set, iv_rep, bv_rep]; done) | (simp only [List.nil_append, List.cons_append, List.set_cons_zero, List.set_cons_succ, iv_set, bv_set, iv_rep, bv_rep]; rfl) | rfl))) | ((with_reducible apply Step.store (k := 0)); exact rfl; exact rfl; exact rfl; exact rfl; (focus (decide +kernel)); exact rfl; exact rfl; (focus (first | omega | (simp [iv, bv]; done) | (simp [iv, bv]; omega))); (focus (first | (simp only [List.nil_append, List.cons_append, List.set_cons_zero, List.set_cons_succ, iv_set, bv_set, iv_rep, bv_rep]; done) | (simp only [List.nil_append, List.cons_append, List.set_cons_zero, List.set_cons_succ, iv_set, bv_set, iv_rep, bv_rep]; rfl) | rfl))) | ((with_reducible apply Step.storeA (k := 0) (n := 4)); exact rfl; exact rfl; exact rfl; exact rfl; (focus (decide +kernel)); exact rfl; (focus (kernel_rfl)); exact rfl; (focus (first | (simp only [List.nil_append, List.cons_append, List.set_cons_zero, List.set_cons_succ, iv_set, bv_set, iv_rep, bv_rep]; done) | (simp only [List.nil_append, List.cons_append, List.set_cons_zero, List.set_cons_succ, iv_set, bv_set, iv_rep, bv_rep]; rfl) | rfl))) | ((with_reducible apply Step.make1 1); exact rfl; exact rfl; exact rfl; exact el23; (focus (omega)); exact rfl; (focus (first | (simp only [List.nil_append, List.cons_append, List.set_cons_zero, List.set_cons_succ, iv_set, bv_set, iv_rep, bv_rep]; done) | (simp only [List.nil_append, List.cons_append, List.set_cons_zero, List.set_cons_succ, iv_set, bv_set, iv_rep, bv_rep]; rfl) | rfl))) | ((with_reducible apply Step.store (k := 1)); exact rfl; exact rfl; exact rfl; exact rfl; (focus (decide +kernel)); exact rfl; exact rfl; (focus (first | omega | (simp [iv, bv]; done) | (simp [iv, bv]; omega))); (focus (first | (simp only [List.nil_append, List.cons_append, List.set_cons_zero, List.set_cons_succ, iv_set, bv_set, iv_rep, bv_rep]; done) | (simp only [List.nil_append, List.cons_append, List.set_cons_zero, List.set_cons_succ, iv_set, bv_set, iv_rep, bv_rep]; rfl) | rfl))) | ((with_reducible apply Step.storeA (k := 1) (n := 4)); exact rfl; exact rfl; exact rfl; exact rfl; (focus (decide +kernel)); exact rfl; (focus (kernel_rfl)); exact rfl; (focus (first | (simp only [List.nil_append, List.cons_append, List.set_cons_zero, List.set_cons_succ, iv_set, bv_set, iv_rep, bv_rep]; done) | (simp only [List.nil_append, List.cons_append, List.set_cons_zero, List.set_cons_succ, iv_set, bv_set, iv_rep, bv_rep]; rfl) | rfl))) | ((with_reducible apply Step.make1 2); exact rfl; exact rfl; exact rfl; exact el23; (focus (omega)); exact rfl; (focus (first | (simp only [List.nil_append, List.cons_append, List.set_cons_zero, List.set_cons_succ, iv_set, bv_set, iv_rep, bv_rep]; done) | (simp only [List.nil_append, List.cons_append, List.set_cons_zero, List.set_cons_succ, iv_set, bv_set, iv_rep, bv_rep]; rfl) | rfl))) | ((with_reducible apply Step.store (k := 2)); exact rfl; exact rfl; exact rfl; exact rfl; (focus (decide +kernel)); exact rfl; exact rfl; (focus (first | omega | (simp [iv, bv]; done) | (simp [iv, bv]; omega))); (focus (first | (simp only [List.nil_append, List.cons_append, List.set_cons_zero, List.set_cons_succ, iv_set, bv_set, iv_rep, bv_rep]; done) | (simp only [List.nil_append, List.cons_append, List.set_cons_zero, List.set_cons_succ, iv_set, bv_set, iv_rep, bv_rep]; rfl) | rfl))) | ((with_reducible apply Step.storeA (k := 2) (n := 4)); exact rfl; exact rfl; exact rfl; exact rfl; (focus (decide +kernel)); exact rfl; (focus (kernel_rfl)); exact rfl; (focus (first | (simp only [List.nil_append, List.cons_append, List.set_cons_zero, List.set_cons_succ, iv_set, bv_set, iv_rep, bv_rep]; done) | (simp only [List.nil_append, List.cons_append, List.set_cons_zero, List.set_cons_succ, iv_set, bv_set, iv_rep, bv_rep]; rfl) | rfl))) | ((with_reducible apply Step.make1 3); exact rfl; exact rfl; exact rfl; exact el23; (focus (omega)); exact rfl; (focus (first | (simp only [List.nil_append, List.cons_append, List.set_cons_zero, List.set_cons_succ, iv_set, bv_set, iv_rep, bv_rep]; done) | (simp only [List.nil_append, List.cons_append, List.set_cons_zero, List.set_cons_succ, iv_set, bv_set, iv_rep, bv_rep]; rfl) | rfl))) | ((with_reducible apply Step.store (k := 3)); exact rfl; exact rfl; exact rfl; exact rfl; (focus (decide +kernel)); exact rfl; exact rfl; (focus (first | omega | (simp [iv, bv]; done) | (simp [iv, bv]; omega))); (focus (first | (simp only [List.nil_append, List.cons_append, List.set_cons_zero, List.set_cons_succ, iv_set, bv_set, iv_rep, bv_rep]; done) | (simp only [List.nil_append, List.cons_append, List.set_cons_zero, List.set_cons_succ, iv_set, bv_set, iv_rep, bv_rep]; rfl) | rfl))) | ((with_reducible apply Step.storeA (k := 3) (n := 4)); exact rfl; exact rfl; exact rfl; exact rfl; (focus (decide +kernel)); exact rfl; (focus (kernel_rfl)); exact rfl; (focus (first | (simp only [List.nil_append, List.cons_append, List.set_cons_zero, List.set_cons_succ, iv_set, bv_set, iv_rep, bv_rep]; done) | (simp only [List.nil_append, List.cons_append, List.set_cons_zero, List.set_cons_succ, iv_set, bv_set, iv_rep, bv_rep]; rfl) | rfl)))) | (with_reducible refine AWo.nil ?_) | ((with_reducible apply AW.seq)) | ((with_reducible apply Then.n)) | ((with_reducible apply AW.regL)) | ((with_reducible apply AW.block)) | ((with_reducible apply AW.drawL fit); (focus (decide +kernel))) | ((with_reducible apply AW.exit)) | ((with_reducible apply InBlk.n)) | ((with_reducible apply InBlk.hit)) | ((with_reducible apply InBlk.miss); exact rfl) | ((with_reducible apply Then.e)) | ((with_reducible apply AW.skip)) | ((with_reducible apply AW.condT); exact rfl; (focus (first | rfl | (simp only [decide_eq_true_eq, decide_eq_false_iff_not, Bool.not_eq_true', Bool.not_eq_false', Bool.not_true, Bool.not_false]; first | assumption | omega) | (simp; done) | (simp; omega)))) | ((with_reducible apply AW.condF); exact rfl; (focus (first | rfl | (simp only [decide_eq_true_eq, decide_eq_false_iff_not, Bool.not_eq_true', Bool.not_eq_false', Bool.not_true, Bool.not_false]; first | assumption | omega) | (simp; done) | (simp; omega))))))
    obtain rfl : i = j.length := by omega
    (refine AW.retB (l := [(2, _)]) (Or.inl ⟨rfl, (by repeat (first | exact trivial | (refine And.intro rfl ?_)))⟩) ?_; (repeat (first | refine Then.r ?_ | refine InBlk.r ?_)))
    refine ⟨_, rfl, rfl, ?_⟩
    rw [rowJ_end fun x hx => (hSm x hx).2]
def bsF (j : List Job) (b : Nat → Bool) : Nat → Int
  | 0 => -1
  | k + 1 => if b k = true ∧ (bsF j b k < 0 ∨ (jb j (bsF j b k)).time ≤ (jb j k).time) then (k : Int) else bsF j b k
theorem bsF_ok (j : List Job) (b : Nat → Bool) : ∀ k, (bsF j b k = -1 ∧ ∀ i, i < k → b i = false) ∨ ∃ q : Nat, q < k ∧ bsF j b k = (q : Int) ∧ b q = true ∧ ∀ i, i < k → b i = true → (jb j i).time < (jb j q).time ∨ (jb j i).time = (jb j q).time ∧ i ≤ q
  | 0 => .inl ⟨rfl, fun i hi => by omega⟩
  | k + 1 => by
    have ih := bsF_ok j b k
    unfold bsF
    rcases ih with ⟨e, h⟩ | ⟨q, hq, e, hb, h⟩
    · cases hk : b k with
      | true =>
        rw [if_pos ⟨rfl, .inl (by omega)⟩]
        refine .inr ⟨k, by omega, rfl, hk, fun i hi hbi => ?_⟩
        rcases Nat.lt_succ_iff_lt_or_eq.1 hi with h' | h'
        · rw [h i h'] at hbi; cases hbi
        · subst h'; omega
      | false =>
        rw [if_neg (by simp)]
        refine .inl ⟨e, fun i hi => ?_⟩
        rcases Nat.lt_succ_iff_lt_or_eq.1 hi with h' | h'
        · exact h i h'
        · subst h'; exact hk
    · rw [e]
      by_cases hc : b k = true ∧ (jb j q).time ≤ (jb j k).time
      · rw [if_pos ⟨hc.1, .inr hc.2⟩]
        refine .inr ⟨k, by omega, rfl, hc.1, fun i hi hbi => ?_⟩
        rcases Nat.lt_succ_iff_lt_or_eq.1 hi with h' | h'
        · have := h i h' hbi; omega
        · subst h'; omega
      · rw [if_neg (fun hh => hc ⟨hh.1, hh.2.resolve_left (by omega)⟩)]
        refine .inr ⟨q, by omega, rfl, hb, fun i hi hbi => ?_⟩
        rcases Nat.lt_succ_iff_lt_or_eq.1 hi with h' | h'
        · exact h i h' hbi
        · subst h'
          have : ¬ (jb j q).time ≤ (jb j i).time := fun h => hc ⟨hbi, h⟩
          omega
theorem mxI_top (j : List Job) (l : List Int) : ∀ i, i < l.length → ∀ p, p ≤ i → ¬ ((jb j (mxI (cM j) l i)).time < (jb j (l.getD p 0)).time ∨ (jb j (mxI (cM j) l i)).time = (jb j (l.getD p 0)).time ∧ mxI (cM j) l i < l.getD p 0)
  | 0, h, p, hp => by
    obtain rfl : p = 0 := by omega
    simp only [mxI]; omega
  | i + 1, h, p, hp => by
    have hc := cM_pos j (l.getD (i + 1) 0) (mxI (cM j) l i)
    have ih := mxI_top j l i (by omega)
    unfold mxI
    simp only [jb] at *
    split
    · rename_i h1
      have h2 := hc.1 h1
      rcases Nat.lt_or_ge p (i + 1) with hp' | hp'
      · have := ih p (by omega)
        omega
      · obtain rfl : p = i + 1 := by omega
        omega
    · rename_i h1
      rcases Nat.lt_or_ge p (i + 1) with hp' | hp'
      · exact ih p (by omega)
      · obtain rfl : p = i + 1 := by omega
        exact fun h2 => h1 (hc.2 h2)
theorem bsF_lg {j : List Job} {on : List Int} (hin : InJ j on) (hne : 0 < on.length) : bsF j (fun i => decide ((i : Int) ∈ on)) j.length = lgJ j on := by
  have hm : lgJ j on ∈ on := mxI_mem _ _ (by omega)
  have hb := hin _ hm
  rcases bsF_ok j (fun i => decide ((i : Int) ∈ on)) j.length with ⟨_, h⟩ | ⟨q, hq, e, hb1, h⟩
  · have := h (lgJ j on).toNat (by omega)
    rw [Int.toNat_of_nonneg hb.1] at this
    simp [hm] at this
  · rw [e]
    have hqm : (q : Int) ∈ on := of_decide_eq_true hb1
    obtain ⟨p, hp, ep⟩ := List.getElem_of_mem hqm
    have top := mxI_top j on (on.length - 1) (by omega) p (by omega)
    have ep' : on.getD p 0 = (q : Int) := by simp only [List.getD_eq_getElem?_getD, List.getElem?_eq_getElem hp, Option.getD_some]; exact ep
    rw [ep'] at top
    have h2 := h (lgJ j on).toNat (by omega) (by rw [Int.toNat_of_nonneg hb.1]; exact decide_eq_true hm)
    rw [Int.toNat_of_nonneg hb.1] at h2
    unfold lgJ at *
    generalize mxI (cM j) on (on.length - 1) = g at *
    omega
theorem srt_setB {n : Nat} {on : List Int} (hin : ∀ x ∈ on, 0 ≤ x ∧ x < n) (hnd : on.Nodup) : setB n (fun i => decide ((i : Int) ∈ on)) = srt on := by
  have hp : (srt on).Perm on := List.mergeSort_perm _ _
  have hs : (srt on).Pairwise (fun a b => decide (a ≤ b) = true) := List.pairwise_mergeSort (fun a b c h1 h2 => by simp at *; omega) (fun a b => by simp; omega) on
  have hn2 : (srt on).Nodup := (hp.nodup_iff).2 hnd
  refine asc_eq ((upI_asc n).filter _) ?_ fun x => ?_
  · refine List.Pairwise.imp₂ ?_ hs hn2
    intro a b h1 h2
    have := of_decide_eq_true h1
    omega
  · rw [setB_mem, hp.mem_iff]
    constructor
    · rintro ⟨h0, _, h2⟩
      have := of_decide_eq_true h2
      rwa [Int.toNat_of_nonneg h0] at this
    · intro hx
      have := hin x hx
      exact ⟨this.1, this.2, by rw [Int.toNat_of_nonneg this.1]; exact decide_eq_true hx⟩
end Go.Proofs.Ytmomjannlnafcaa.Abs
namespace Go.Proofs.Ytmomjannlnafcaa.Abs
set_option linter.unusedSimpArgs false
set_option linter.unusedVariables false
open Go.RowKit
open Go.Proofs.Ytmomjannlnafcaa.Sim
open Go.Proofs
set_option maxHeartbeats 4000000 in
set_option maxRecDepth 100000 in
theorem RMoore_ok {m : AM} {v : Value} {j : List Job} (hj : Jobs m v j) (hs : Short j) (hok : jobsB j = true) : ACall Try.prog 61 #[v] m (NewT (fun N => .tuple #[gv N (mooL j).length, .int .i64 0]) (gb (iv (mooL j)) 1) m) := by
  have hJ := JOk.of hok
  have h40 := hJ.len
  obtain ⟨a, o, h1, h2, h3⟩ := id hj
  refine ACall.start Try.func61 rfl rfl ?_
  (repeat (first | (with_reducible refine AWo.cons ?_) | ((with_reducible refine Step.id ?_); first | ((with_reducible apply Step.move); exact rfl; exact rfl) | ((with_reducible apply Step.assign); exact rfl; exact rfl) | ((with_reducible apply Step.len); exact rfl; (focus (first | assumption | exact Sl.mk (by omega))); (focus (decide +kernel)); exact rfl) | ((with_reducible apply Step.not); exact rfl; exact rfl) | ((with_reducible apply Step.callR fit); exact rfl; exact Try.func44; exact rfl; exact rfl; exact (RJobs_ok (hj.old _) hs.2 hs.1 hok)) | ((with_reducible apply Step.callN fit (k := 1)); exact rfl; exact rfl; exact Try.func98; exact rfl; exact rfl; exact (due_ok (hj.old _) h40); (focus (first | (simp only [List.nil_append, List.cons_append, List.set_cons_zero, List.set_cons_succ, iv_set, bv_set, iv_rep, bv_rep]; done) | (simp only [List.nil_append, List.cons_append, List.set_cons_zero, List.set_cons_succ, iv_set, bv_set, iv_rep, bv_rep]; rfl) | rfl))) | ((with_reducible apply Step.make1 0); exact rfl; exact rfl; exact rfl; exact el84; (focus (omega)); exact rfl; (focus (first | (simp only [List.nil_append, List.cons_append, List.set_cons_zero, List.set_cons_succ, iv_set, bv_set, iv_rep, bv_rep]; done) | (simp only [List.nil_append, List.cons_append, List.set_cons_zero, List.set_cons_succ, iv_set, bv_set, iv_rep, bv_rep]; rfl) | rfl)))) | (with_reducible refine AWo.nil ?_) | ((with_reducible apply AW.seq)) | ((with_reducible apply Then.n)) | ((with_reducible apply AW.regL)) | ((with_reducible apply AW.block)) | ((with_reducible apply AW.skip)) | ((with_reducible apply AW.condF); exact rfl; (focus (rfl)))))
  refine AW.loopT (fun n' t L => ∃ k : Nat, n' = j.length - k ∧ k ≤ j.length ∧ L = [some { cells := bv (bR j.length (fun i => decide ((i : Int) ∈ (mooN j k).on))) }, some { cells := iv (eddL j) }] ∧
    t = [(0, v), (4, .slice (some ⟨m.length + 0, 0, none⟩) j.length j.length), (5, .int .i64 (mooN j k).sum), (20, .slice (some ⟨m.length + 1, 0, none⟩) j.length j.length), (21, .int .i64 (j.length : Nat)), (22, .int .i64 (k : Nat))])
    ⟨_, [(0, v), (4, .slice (some ⟨m.length + 0, 0, none⟩) j.length j.length), (5, .int .i64 0), (20, .slice (some ⟨m.length + 1, 0, none⟩) j.length j.length), (21, .int .i64 (j.length : Nat)), (22, .int .i64 ((0 : Nat) : Int))], [some { cells := bv (List.replicate j.length false) }, some { cells := iv (eddL j) }], (Or.inl ⟨rfl, (by repeat (first | exact trivial | (refine And.intro rfl ?_)))⟩), 0, rfl, Nat.zero_le _, by rw [bR_zero]; simp [mooN], rfl⟩ ?_
  rintro n' t L ⟨k, rfl, hk, rfl, rfl⟩
  have el := eddL_len j
  have inv := mooN_inv j k hk
  rcases Nat.lt_or_ge k j.length with hlt | hge
  · have hx := eddL_in hlt
    have stp : mooN j (k + 1) = mStep j (mooN j k) ((eddL j).getD k 0) := rfl
    have hre : ∀ b L, Rd (m ++ (b :: some { cells := iv (eddL j) } :: L)) (m.length + 1) k (.int .i64 ((eddL j).getD k 0)) := fun b L => Rd.new rfl (iv_get (by omega))
    have hin : InJ j ((mooN j k).on ++ [(eddL j).getD k 0]) := fun y hy => by
      rcases List.mem_append.1 hy with h | h
      · exact eddL_mem.1 (List.mem_of_mem_take (inv.mem y h))
      · obtain rfl : y = (eddL j).getD k 0 := by simpa using h
        exact hx
    have sb := sumJ_bd hJ hin _ (Nat.le_refl _)
    have sb' : 0 ≤ sumJ j ((mooN j k).on ++ [(eddL j).getD k 0]) ∧ sumJ j ((mooN j k).on ++ [(eddL j).getD k 0]) ≤ 400000 := by
      have := inv.len
      unfold sumJ
      simp only [List.length_append, List.length_singleton] at sb ⊢
      omega
    have s2 : sumJ j ((mooN j k).on ++ [(eddL j).getD k 0]) = (mooN j k).sum + (jb j ((eddL j).getD k 0)).time := by
      rw [inv.sum, sumJ_list, sumJ_list, List.map_append, List.sum_append]; simp
    have lgm : lgJ j ((mooN j k).on ++ [(eddL j).getD k 0]) ∈ (mooN j k).on ++ [(eddL j).getD k 0] := mxI_mem _ _ (by simp)
    have hlg := hin _ lgm
    have hbl := bsF_lg hin (by simp)
    clear sb inv
    rw [s2] at sb'
    generalize (eddL j).getD k 0 = x at *
    obtain ⟨S2, hS2⟩ : ∃ S2, mooN j (k + 1) = S2 := ⟨_, rfl⟩
    rw [hS2] at stp
    generalize mooN j k = S at *
    obtain ⟨on, sum⟩ := S
    simp only at *
    obtain ⟨x, rfl⟩ := Int.eq_ofNat_of_zero_le hx.1
    have hxn : x < j.length := by omega
    obtain ⟨w, hr, hw⟩ := h3 x hxn
    have hnum := hJ.num x hxn
    have r1 : (bR j.length (fun i => decide ((i : Int) ∈ on))).set x true = bR j.length (fun i => decide ((i : Int) ∈ on ++ [(x : Int)])) := by
      rw [bR_set]
      refine bR_congr fun i hi => ?_
      by_cases e : i = x
      · subst e; simp
      · rw [if_neg e, decide_eq_decide, List.mem_append]
        have : (i : Int) ≠ (x : Int) := by omega
        simp [this]
    have lR := bR_len j.length (fun i => decide ((i : Int) ∈ on))
    have lR2 := bR_len j.length (fun i => decide ((i : Int) ∈ on ++ [(x : Int)]))
    have gR2 := fun (i : Nat) (h : i < j.length) => bR_get (n := j.length) (k := i) (fun i => decide ((i : Int) ∈ on ++ [(x : Int)])) h
    simp only [mStep, jb, Int.toNat_natCast] at stp s2 sb'
    generalize bR j.length (fun i => decide ((i : Int) ∈ on)) = row at *
    by_cases hle : sum + (j.getD x default).time ≤ (j.getD x default).due
    · rw [if_pos hle] at stp
      subst stp
      have fx0 : ∀ L : AM, Rd (m ++ L) a (o + x * 4 + 0) (.int .i64 (j.getD x default).time) := fun L => (hr.old L).at_ 0 rfl
      have fx1 : ∀ L : AM, Rd (m ++ L) a (o + x * 4 + 1) (.int .i64 (j.getD x default).due) := fun L => (hr.old L).at_ 1 rfl
      clear hr
      generalize (j.getD x default).time = x1 at *
      generalize (j.getD x default).due = x2 at *
      (repeat (first | (with_reducible refine AWo.cons ?_) | ((with_reducible refine Step.id ?_); first | ((with_reducible apply Step.move); exact rfl; exact rfl) | ((with_reducible apply Step.assign); exact rfl; exact rfl) | ((with_reducible apply Step.load); exact rfl; (focus (decide +kernel)); exact rfl; (focus (first | exact hre _ _ | exact fx0 _ | exact fx1 _))) | ((with_reducible apply Step.ix1z); exact rfl; (focus (exact Sl.mk (by omega))); exact rfl; (focus (decide +kernel)); exact rfl; (focus (omega))) | ((with_reducible apply Step.ix (s := 4)); exact rfl; (focus (assumption)); exact rfl; (focus (decide +kernel)); exact rfl; (focus (omega))) | ((with_reducible apply Step.field0); exact rfl; (focus (decide +kernel)); exact rfl) | ((with_reducible apply Step.field (k := 1)); exact rfl; (focus (decide +kernel)); exact rfl) | ((with_reducible apply Step.add); exact rfl; exact rfl; (focus (omega)); exact rfl) | ((with_reducible apply Step.lss); exact rfl; exact rfl; exact rfl) | ((with_reducible apply Step.leq); exact rfl; exact rfl; exact rfl) | ((with_reducible apply Step.store (k := 0)); exact rfl; exact rfl; exact rfl; exact rfl; (focus (decide +kernel)); exact rfl; exact rfl; (focus (first | omega | (simp [iv, bv]; done) | (simp [iv, bv]; omega))); (focus (first | (simp only [List.nil_append, List.cons_append, List.set_cons_zero, List.set_cons_succ, iv_set, bv_set, iv_rep, bv_rep]; done) | (simp only [List.nil_append, List.cons_append, List.set_cons_zero, List.set_cons_succ, iv_set, bv_set, iv_rep, bv_rep]; rfl) | rfl)))) | (with_reducible refine AWo.nil ?_) | ((with_reducible apply AW.seq)) | ((with_reducible apply Then.n)) | ((with_reducible apply AW.regL)) | ((with_reducible apply AW.block)) | ((with_reducible apply AW.exit)) | ((with_reducible apply InBlk.hit)) | ((with_reducible apply Then.e)) | ((with_reducible apply AW.skip)) | ((with_reducible apply AW.condT); exact rfl; (focus ((simp only [decide_eq_true_eq, decide_eq_false_iff_not, Bool.not_eq_true', Bool.not_eq_false', Bool.not_true, Bool.not_false]; first | assumption | omega))))))
      exact ⟨_, [(0, v), (4, .slice (some ⟨m.length + 0, 0, none⟩) j.length j.length), (5, .int .i64 (sum + x1)), (20, .slice (some ⟨m.length + 1, 0, none⟩) j.length j.length), (21, .int .i64 (j.length : Nat)), (22, .int .i64 ((k + 1 : Nat) : Int))], [some { cells := bv (row.set x true) }, some { cells := iv (eddL j) }], by omega, (Or.inl ⟨rfl, (by repeat (first | exact trivial | (refine And.intro rfl ?_)))⟩), k + 1, rfl, hlt, by rw [hS2, r1], by rw [hS2]⟩
    · rw [if_neg hle] at stp
      obtain ⟨g, hg⟩ := Int.eq_ofNat_of_zero_le hlg.1
      have hgn : g < j.length := by omega
      obtain ⟨wg, hrg, hwg⟩ := h3 g hgn
      have hnumg := hJ.num g hgn
      rw [hg] at stp hbl lgm
      simp only [Int.toNat_natCast] at stp
      subst stp
      have r3 : (bR j.length (fun i => decide ((i : Int) ∈ on ++ [(x : Int)]))).set g false = bR j.length (fun i => decide ((i : Int) ∈ (on ++ [(x : Int)]).filter fun y => !decide (y = ((g : Nat) : Int)))) := by
        rw [bR_set]
        refine bR_congr fun i hi => ?_
        by_cases e : i = g
        · rw [if_pos e, eq_comm, decide_eq_false_iff_not, List.mem_filter]
          have : (i : Int) = (g : Int) := by omega
          simp [this]
        · rw [if_neg e, decide_eq_decide, List.mem_filter]
          have : (i : Int) ≠ (g : Int) := by omega
          simp [this]
      obtain ⟨row2, hrow2⟩ : ∃ row2, bR j.length (fun i => decide ((i : Int) ∈ on ++ [(x : Int)])) = row2 := ⟨_, rfl⟩
      have fx0 : ∀ L : AM, Rd (m ++ L) a (o + x * 4 + 0) (.int .i64 (j.getD x default).time) := fun L => (hr.old L).at_ 0 rfl
      have fx1 : ∀ L : AM, Rd (m ++ L) a (o + x * 4 + 1) (.int .i64 (j.getD x default).due) := fun L => (hr.old L).at_ 1 rfl
      have fg0 : ∀ L : AM, Rd (m ++ L) a (o + g * 4 + 0) (.int .i64 (j.getD g default).time) := fun L => (hrg.old L).at_ 0 rfl
      have tsucc := fun k => show bsF j (fun i => decide ((i : Int) ∈ on ++ [(x : Int)])) (k + 1) = if decide ((k : Int) ∈ on ++ [(x : Int)]) = true ∧ (bsF j (fun i => decide ((i : Int) ∈ on ++ [(x : Int)])) k < 0 ∨ (jb j (bsF j (fun i => decide ((i : Int) ∈ on ++ [(x : Int)])) k)).time ≤ (jb j k).time) then (k : Int) else bsF j (fun i => decide ((i : Int) ∈ on ++ [(x : Int)])) k from rfl
      have tok := bsF_ok j (fun i => decide ((i : Int) ∈ on ++ [(x : Int)]))
      have t0 : bsF j (fun i => decide ((i : Int) ∈ on ++ [(x : Int)])) 0 = -1 := rfl
      generalize bsF j (fun i => decide ((i : Int) ∈ on ++ [(x : Int)])) = bs at *
      rw [hrow2] at r1 r3 lR2 gR2
      rw [r1.symm] at r3 lR2 gR2
      have hrX : ∀ (i : Nat) (L : AM), i < j.length → Rd (m ++ (some { cells := bv (row.set x true) } :: L)) (m.length + 0) i (.bool (decide ((i : Int) ∈ on ++ [(x : Int)]))) := fun i L hi => by
        rw [← gR2 i hi]
        exact Rd.new (k := 0) rfl (bv_get (by rw [lR2]; exact hi))
      obtain ⟨s2', hs2'⟩ : ∃ s2', sum + (j.getD x default).time = s2' := ⟨_, rfl⟩
      obtain ⟨gt, hgt⟩ : ∃ gt, (j.getD g default).time = gt := ⟨_, rfl⟩
      have nr : (row.set x true).length = j.length := lR2
      (repeat (first | (with_reducible refine AWo.cons ?_) | ((with_reducible refine Step.id ?_); first | ((with_reducible apply Step.move); exact rfl; exact rfl) | ((with_reducible apply Step.assign); exact rfl; exact rfl) | ((with_reducible apply Step.load); exact rfl; (focus (decide +kernel)); exact rfl; (focus (first | exact hre _ _ | exact fx0 _ | exact fx1 _))) | ((with_reducible apply Step.ix1z); exact rfl; (focus (exact Sl.mk (by omega))); exact rfl; (focus (decide +kernel)); exact rfl; (focus (omega))) | ((with_reducible apply Step.ix (s := 4)); exact rfl; (focus (assumption)); exact rfl; (focus (decide +kernel)); exact rfl; (focus (omega))) | ((with_reducible apply Step.field0); exact rfl; (focus (decide +kernel)); exact rfl) | ((with_reducible apply Step.field (k := 1)); exact rfl; (focus (decide +kernel)); exact rfl) | ((with_reducible apply Step.add); exact rfl; exact rfl; (focus (omega)); exact rfl) | ((with_reducible apply Step.lss); exact rfl; exact rfl; exact rfl) | ((with_reducible apply Step.leq); exact rfl; exact rfl; exact rfl) | ((with_reducible apply Step.len); exact rfl; (focus (assumption)); (focus (decide +kernel)); exact rfl) | ((with_reducible apply Step.store (k := 0)); exact rfl; exact rfl; exact rfl; exact rfl; (focus (decide +kernel)); exact rfl; exact rfl; (focus (first | omega | (simp [iv, bv]; done) | (simp [iv, bv]; omega))); (focus (first | (simp only [List.nil_append, List.cons_append, List.set_cons_zero, List.set_cons_succ, iv_set, bv_set, iv_rep, bv_rep]; done) | (simp only [List.nil_append, List.cons_append, List.set_cons_zero, List.set_cons_succ, iv_set, bv_set, iv_rep, bv_rep]; rfl) | rfl)))) | (with_reducible refine AWo.nil ?_) | ((with_reducible apply AW.seq)) | ((with_reducible apply Then.n)) | ((with_reducible apply AW.regL)) | ((with_reducible apply AW.block)) | ((with_reducible apply AW.skip)) | ((with_reducible apply AW.condT); exact rfl; (focus ((simp only [decide_eq_true_eq, decide_eq_false_iff_not, Bool.not_eq_true', Bool.not_eq_false', Bool.not_true, Bool.not_false]; first | assumption | omega)))) | ((with_reducible apply AW.condF); exact rfl; (focus ((simp only [decide_eq_true_eq, decide_eq_false_iff_not, Bool.not_eq_true', Bool.not_eq_false', Bool.not_true, Bool.not_false]; first | assumption | omega))))))
      refine AW.loopT (fun n' t L => ∃ k2 : Nat, n' = j.length - k2 ∧ k2 ≤ j.length ∧ L = [some { cells := bv (row.set x true) }, some { cells := iv (eddL j) }] ∧
        t = [(0, v), (4, .slice (some ⟨m.length + 0, 0, none⟩) j.length j.length), (5, .int .i64 (sum + (j.getD x default).time)), (8, .int .i64 (bs k2)), (20, .slice (some ⟨m.length + 1, 0, none⟩) j.length j.length), (21, .int .i64 (j.length : Nat)), (22, .int .i64 (k : Nat)), (44, .int .i64 (j.length : Nat)), (45, .int .i64 (k2 : Nat))])
        ⟨_, [(0, v), (4, .slice (some ⟨m.length + 0, 0, none⟩) j.length j.length), (5, .int .i64 (sum + (j.getD x default).time)), (8, .int .i64 (-1)), (20, .slice (some ⟨m.length + 1, 0, none⟩) j.length j.length), (21, .int .i64 (j.length : Nat)), (22, .int .i64 (k : Nat)), (44, .int .i64 (j.length : Nat)), (45, .int .i64 ((0 : Nat) : Int))], [some { cells := bv (row.set x true) }, some { cells := iv (eddL j) }], (Or.inl ⟨rfl, (by repeat (first | exact trivial | (refine And.intro rfl ?_)))⟩), 0, rfl, Nat.zero_le _, rfl, by rw [t0]⟩ ?_
      rintro n' t L ⟨k2, rfl, hk2, rfl, rfl⟩
      rcases Nat.lt_or_ge k2 j.length with hl2 | hg2
      · have hb := fun L => hrX k2 L hl2
        have ts := tsucc k2
        have tk := tok k2
        obtain ⟨w2, hr2, _⟩ := h3 k2 hl2
        have f2 : ∀ L : AM, Rd (m ++ L) a (o + k2 * 4 + 0) (.int .i64 (j.getD k2 default).time) := fun L => (hr2.old L).at_ 0 rfl
        clear tsucc tok hbl
        generalize bs k2 = b0 at *
        generalize hb1 : bs (k2 + 1) = b1 at *
        simp only [jb, Int.toNat_natCast] at ts
        cases hmem : decide ((k2 : Int) ∈ on ++ [(x : Int)]) with
        | false =>
          rw [hmem] at ts hb
          rw [if_neg (by simp)] at ts
          (repeat (first | (with_reducible refine AWo.cons ?_) | ((with_reducible refine Step.id ?_); first | ((with_reducible apply Step.gdU); exact rfl; exact rfl) | ((with_reducible apply Step.gdF); exact rfl; exact rfl; (focus (rfl))) | ((with_reducible apply Step.move); exact rfl; exact rfl) | ((with_reducible apply Step.assign); exact rfl; exact rfl) | ((with_reducible apply Step.load); exact rfl; (focus (decide +kernel)); exact rfl; (focus (exact hb _))) | ((with_reducible apply Step.ix1z); exact rfl; (focus (exact Sl.mk (by omega))); exact rfl; (focus (decide +kernel)); exact rfl; (focus (omega))) | ((with_reducible apply Step.add); exact rfl; exact rfl; (focus (omega)); exact rfl) | ((with_reducible apply Step.lss); exact rfl; exact rfl; exact rfl) | ((with_reducible apply Step.pickF); exact rfl; exact rfl; exact rfl; exact rfl; (focus (rfl)))) | (with_reducible refine AWo.nil ?_) | ((with_reducible apply AW.seq)) | ((with_reducible apply Then.n)) | ((with_reducible apply AW.regL)) | ((with_reducible apply AW.block)) | ((with_reducible apply AW.drawL fit); (focus (decide +kernel))) | ((with_reducible apply InBlk.n)) | ((with_reducible apply AW.skip)) | ((with_reducible apply AW.condT); exact rfl; (focus ((simp only [decide_eq_true_eq, decide_eq_false_iff_not, Bool.not_eq_true', Bool.not_eq_false', Bool.not_true, Bool.not_false]; first | assumption | omega)))) | ((with_reducible apply AW.condF); exact rfl; (focus (rfl)))))
          exact ⟨_, [(0, v), (4, .slice (some ⟨m.length + 0, 0, none⟩) j.length j.length), (5, .int .i64 (sum + (j.getD x default).time)), (8, .int .i64 b0), (20, .slice (some ⟨m.length + 1, 0, none⟩) j.length j.length), (21, .int .i64 (j.length : Nat)), (22, .int .i64 (k : Nat)), (44, .int .i64 (j.length : Nat)), (45, .int .i64 ((k2 + 1 : Nat) : Int))], [some { cells := bv (row.set x true) }, some { cells := iv (eddL j) }], by omega, (Or.inl ⟨rfl, (by repeat (first | exact trivial | (refine And.intro rfl ?_)))⟩), k2 + 1, rfl, hl2, rfl, by rw [hb1, ts]⟩
        | true =>
          rw [hmem] at ts hb
          by_cases hneg : b0 < 0
          · rw [if_pos ⟨rfl, .inl hneg⟩] at ts
            (repeat (first | (with_reducible refine AWo.cons ?_) | ((with_reducible refine Step.id ?_); first | ((with_reducible apply Step.gdT); exact rfl; exact rfl; (focus (rfl))) | ((with_reducible apply Step.gdF); exact rfl; exact rfl; (focus ((simp only [decide_eq_true_eq, decide_eq_false_iff_not, Bool.not_eq_true', Bool.not_eq_false', Bool.not_true, Bool.not_false]; first | assumption | omega)))) | ((with_reducible apply Step.move); exact rfl; exact rfl) | ((with_reducible apply Step.assign); exact rfl; exact rfl) | ((with_reducible apply Step.load); exact rfl; (focus (decide +kernel)); exact rfl; (focus (exact hb _))) | ((with_reducible apply Step.ix1z); exact rfl; (focus (exact Sl.mk (by omega))); exact rfl; (focus (decide +kernel)); exact rfl; (focus (omega))) | ((with_reducible apply Step.add); exact rfl; exact rfl; (focus (omega)); exact rfl) | ((with_reducible apply Step.lss); exact rfl; exact rfl; exact rfl) | ((with_reducible apply Step.pickT); exact rfl; exact rfl; exact rfl; exact rfl; (focus (first | rfl | (simp only [decide_eq_true_eq, decide_eq_false_iff_not, Bool.not_eq_true', Bool.not_eq_false', Bool.not_true, Bool.not_false]; first | assumption | omega))))) | (with_reducible refine AWo.nil ?_) | ((with_reducible apply AW.seq)) | ((with_reducible apply Then.n)) | ((with_reducible apply AW.regL)) | ((with_reducible apply AW.block)) | ((with_reducible apply AW.drawL fit); (focus (decide +kernel))) | ((with_reducible apply InBlk.n)) | ((with_reducible apply AW.skip)) | ((with_reducible apply AW.condT); exact rfl; (focus (first | rfl | (simp only [decide_eq_true_eq, decide_eq_false_iff_not, Bool.not_eq_true', Bool.not_eq_false', Bool.not_true, Bool.not_false]; first | assumption | omega))))))
            exact ⟨_, [(0, v), (4, .slice (some ⟨m.length + 0, 0, none⟩) j.length j.length), (5, .int .i64 (sum + (j.getD x default).time)), (8, .int .i64 (k2 : Nat)), (20, .slice (some ⟨m.length + 1, 0, none⟩) j.length j.length), (21, .int .i64 (j.length : Nat)), (22, .int .i64 (k : Nat)), (44, .int .i64 (j.length : Nat)), (45, .int .i64 ((k2 + 1 : Nat) : Int))], [some { cells := bv (row.set x true) }, some { cells := iv (eddL j) }], by omega, (Or.inl ⟨rfl, (by repeat (first | exact trivial | (refine And.intro rfl ?_)))⟩), k2 + 1, rfl, hl2, rfl, by rw [hb1, ts]⟩
          · obtain ⟨q, hq, e, _⟩ := tk.resolve_left (fun h => hneg (by rw [h.1]; decide))
            subst e
            simp only [Int.toNat_natCast] at ts
            obtain ⟨wq, hrq, _⟩ := h3 q (by omega)
            have fq : ∀ L : AM, Rd (m ++ L) a (o + q * 4 + 0) (.int .i64 (j.getD q default).time) := fun L => (hrq.old L).at_ 0 rfl
            have hqn : q < j.length := by omega
            clear hr2 hrq
            by_cases hc : (j.getD q default).time ≤ (j.getD k2 default).time
            · rw [if_pos ⟨trivial, .inr hc⟩] at ts
              (repeat (first | (with_reducible refine AWo.cons ?_) | ((with_reducible refine Step.id ?_); first | ((with_reducible apply Step.gdT); exact rfl; exact rfl; (focus (rfl))) | ((with_reducible apply Step.move); exact rfl; exact rfl) | ((with_reducible apply Step.assign); exact rfl; exact rfl) | ((with_reducible apply Step.load); exact rfl; (focus (decide +kernel)); exact rfl; (focus (first | exact hb _ | exact f2 _ | exact fq _))) | ((with_reducible apply Step.ix1z); exact rfl; (focus (exact Sl.mk (by omega))); exact rfl; (focus (decide +kernel)); exact rfl; (focus (omega))) | ((with_reducible apply Step.ix (s := 4)); exact rfl; (focus (assumption)); exact rfl; (focus (decide +kernel)); exact rfl; (focus (omega))) | ((with_reducible apply Step.field0); exact rfl; (focus (decide +kernel)); exact rfl) | ((with_reducible apply Step.add); exact rfl; exact rfl; (focus (omega)); exact rfl) | ((with_reducible apply Step.lss); exact rfl; exact rfl; exact rfl) | ((with_reducible apply Step.geq); exact rfl; exact rfl; exact rfl) | ((with_reducible apply Step.pickT); exact rfl; exact rfl; exact rfl; exact rfl; (focus (rfl))) | ((with_reducible apply Step.pickF); exact rfl; exact rfl; exact rfl; exact rfl; (focus (rfl)))) | (with_reducible refine AWo.nil ?_) | ((with_reducible apply AW.seq)) | ((with_reducible apply Then.n)) | ((with_reducible apply AW.regL)) | ((with_reducible apply AW.block)) | ((with_reducible apply AW.drawL fit); (focus (decide +kernel))) | ((with_reducible apply InBlk.n)) | ((with_reducible apply AW.skip)) | ((with_reducible apply AW.condT); exact rfl; (focus ((simp only [decide_eq_true_eq, decide_eq_false_iff_not, Bool.not_eq_true', Bool.not_eq_false', Bool.not_true, Bool.not_false]; first | assumption | omega))))))
              exact ⟨_, [(0, v), (4, .slice (some ⟨m.length + 0, 0, none⟩) j.length j.length), (5, .int .i64 (sum + (j.getD x default).time)), (8, .int .i64 (k2 : Nat)), (20, .slice (some ⟨m.length + 1, 0, none⟩) j.length j.length), (21, .int .i64 (j.length : Nat)), (22, .int .i64 (k : Nat)), (44, .int .i64 (j.length : Nat)), (45, .int .i64 ((k2 + 1 : Nat) : Int))], [some { cells := bv (row.set x true) }, some { cells := iv (eddL j) }], by omega, (Or.inl ⟨rfl, (by repeat (first | exact trivial | (refine And.intro rfl ?_)))⟩), k2 + 1, rfl, hl2, rfl, by rw [hb1, ts]⟩
            · rw [if_neg (fun h => hc (h.2.resolve_left (by omega)))] at ts
              (repeat (first | (with_reducible refine AWo.cons ?_) | ((with_reducible refine Step.id ?_); first | ((with_reducible apply Step.gdT); exact rfl; exact rfl; (focus (rfl))) | ((with_reducible apply Step.move); exact rfl; exact rfl) | ((with_reducible apply Step.assign); exact rfl; exact rfl) | ((with_reducible apply Step.load); exact rfl; (focus (decide +kernel)); exact rfl; (focus (first | exact hb _ | exact f2 _ | exact fq _))) | ((with_reducible apply Step.ix1z); exact rfl; (focus (exact Sl.mk (by omega))); exact rfl; (focus (decide +kernel)); exact rfl; (focus (omega))) | ((with_reducible apply Step.ix (s := 4)); exact rfl; (focus (assumption)); exact rfl; (focus (decide +kernel)); exact rfl; (focus (omega))) | ((with_reducible apply Step.field0); exact rfl; (focus (decide +kernel)); exact rfl) | ((with_reducible apply Step.add); exact rfl; exact rfl; (focus (omega)); exact rfl) | ((with_reducible apply Step.lss); exact rfl; exact rfl; exact rfl) | ((with_reducible apply Step.geq); exact rfl; exact rfl; exact rfl) | ((with_reducible apply Step.pickT); exact rfl; exact rfl; exact rfl; exact rfl; (focus (rfl))) | ((with_reducible apply Step.pickF); exact rfl; exact rfl; exact rfl; exact rfl; (focus (rfl)))) | (with_reducible refine AWo.nil ?_) | ((with_reducible apply AW.seq)) | ((with_reducible apply Then.n)) | ((with_reducible apply AW.regL)) | ((with_reducible apply AW.block)) | ((with_reducible apply AW.drawL fit); (focus (decide +kernel))) | ((with_reducible apply InBlk.n)) | ((with_reducible apply AW.skip)) | ((with_reducible apply AW.condT); exact rfl; (focus ((simp only [decide_eq_true_eq, decide_eq_false_iff_not, Bool.not_eq_true', Bool.not_eq_false', Bool.not_true, Bool.not_false]; first | assumption | omega)))) | ((with_reducible apply AW.condF); exact rfl; (focus ((simp only [decide_eq_true_eq, decide_eq_false_iff_not, Bool.not_eq_true', Bool.not_eq_false', Bool.not_true, Bool.not_false]; first | assumption | omega))))))
              exact ⟨_, [(0, v), (4, .slice (some ⟨m.length + 0, 0, none⟩) j.length j.length), (5, .int .i64 (sum + (j.getD x default).time)), (8, .int .i64 (q : Nat)), (20, .slice (some ⟨m.length + 1, 0, none⟩) j.length j.length), (21, .int .i64 (j.length : Nat)), (22, .int .i64 (k : Nat)), (44, .int .i64 (j.length : Nat)), (45, .int .i64 ((k2 + 1 : Nat) : Int))], [some { cells := bv (row.set x true) }, some { cells := iv (eddL j) }], by omega, (Or.inl ⟨rfl, (by repeat (first | exact trivial | (refine And.intro rfl ?_)))⟩), k2 + 1, rfl, hl2, rfl, by rw [hb1, ts]⟩
      · obtain rfl : k2 = j.length := by omega
        rw [hbl]
        (repeat (first | (with_reducible refine AWo.cons ?_) | ((with_reducible refine Step.id ?_); first | ((with_reducible apply Step.move); exact rfl; exact rfl) | ((with_reducible apply Step.assign); exact rfl; exact rfl) | ((with_reducible apply Step.load); exact rfl; (focus (decide +kernel)); exact rfl; (focus (exact fg0 _))) | ((with_reducible apply Step.ix1z); exact rfl; (focus (exact Sl.mk (by omega))); exact rfl; (focus (decide +kernel)); exact rfl; (focus (omega))) | ((with_reducible apply Step.ix (s := 4)); exact rfl; (focus (assumption)); exact rfl; (focus (decide +kernel)); exact rfl; (focus (omega))) | ((with_reducible apply Step.field0); exact rfl; (focus (decide +kernel)); exact rfl) | ((with_reducible apply Step.add); exact rfl; exact rfl; (focus (omega)); exact rfl) | ((with_reducible apply Step.sub); exact rfl; exact rfl; (focus (omega)); exact rfl) | ((with_reducible apply Step.lss); exact rfl; exact rfl; exact rfl) | ((with_reducible apply Step.store (k := 0)); exact rfl; exact rfl; exact rfl; exact rfl; (focus (decide +kernel)); exact rfl; exact rfl; (focus (first | omega | (simp [iv, bv]; done) | (simp [iv, bv]; omega))); (focus (first | (simp only [List.nil_append, List.cons_append, List.set_cons_zero, List.set_cons_succ, iv_set, bv_set, iv_rep, bv_rep]; done) | (simp only [List.nil_append, List.cons_append, List.set_cons_zero, List.set_cons_succ, iv_set, bv_set, iv_rep, bv_rep]; rfl) | rfl)))) | (with_reducible refine AWo.nil ?_) | ((with_reducible apply AW.seq)) | ((with_reducible apply Then.n)) | ((with_reducible apply AW.regL)) | ((with_reducible apply AW.exit)) | ((with_reducible apply InBlk.n)) | ((with_reducible apply InBlk.hit)) | ((with_reducible apply Then.e)) | ((with_reducible apply AW.condF); exact rfl; (focus ((simp only [decide_eq_true_eq, decide_eq_false_iff_not, Bool.not_eq_true', Bool.not_eq_false', Bool.not_true, Bool.not_false]; first | assumption | omega))))))
        exact ⟨_, [(0, v), (4, .slice (some ⟨m.length + 0, 0, none⟩) j.length j.length), (5, .int .i64 (sum + (j.getD x default).time - (j.getD g default).time)), (20, .slice (some ⟨m.length + 1, 0, none⟩) j.length j.length), (21, .int .i64 (j.length : Nat)), (22, .int .i64 ((k + 1 : Nat) : Int))], [some { cells := bv ((row.set x true).set g false) }, some { cells := iv (eddL j) }], by omega, (Or.inl ⟨rfl, (by repeat (first | exact trivial | (refine And.intro rfl ?_)))⟩), k + 1, rfl, hlt, by rw [hS2, r3], by rw [hS2]⟩
  · obtain rfl : k = j.length := by omega
    have hin : InJ j (mooN j j.length).on := fun y hy => eddL_mem.1 (List.mem_of_mem_take (inv.mem y hy))
    have hm : setB j.length (fun i => decide ((i : Int) ∈ (mooN j j.length).on)) = mooL j := srt_setB hin inv.nd
    generalize hbf : (fun i : Nat => decide ((i : Int) ∈ (mooN j j.length).on)) = b at *
    have lR := bR_len j.length b
    have gR := fun (i : Nat) (h : i < j.length) => bR_get (n := j.length) (k := i) b h
    generalize bR j.length b = row at *
    (repeat (first | (with_reducible refine AWo.cons ?_) | ((with_reducible refine Step.id ?_); first | ((with_reducible apply Step.move); exact rfl; exact rfl) | ((with_reducible apply Step.assign); exact rfl; exact rfl) | ((with_reducible apply Step.lss); exact rfl; exact rfl; exact rfl) | ((with_reducible apply Step.len); exact rfl; (focus (exact Sl.mk (by omega))); (focus (decide +kernel)); exact rfl)) | (with_reducible refine AWo.nil ?_) | ((with_reducible apply AW.seq)) | ((with_reducible apply Then.n)) | ((with_reducible apply AW.regL)) | ((with_reducible apply AW.block)) | ((with_reducible apply AW.exit)) | ((with_reducible apply InBlk.hit)) | ((with_reducible apply Then.e)) | ((with_reducible apply AW.condF); exact rfl; (focus ((simp only [decide_eq_true_eq, decide_eq_false_iff_not, Bool.not_eq_true', Bool.not_eq_false', Bool.not_true, Bool.not_false]; first | assumption | omega))))))
    refine AW.loopT (fun n' t L => ∃ i : Nat, n' = j.length - i ∧ i ≤ j.length ∧ L = [some { cells := bv row }, some { cells := iv (eddL j) }, gb (iv (setB i b)) 1] ∧
      t = [(10, gv (m.length + 2) (setB i b).length), (82, .slice (some ⟨m.length + 0, 0, none⟩) j.length j.length), (83, .int .i64 (j.length : Nat)), (84, .int .i64 (i : Nat))])
      ⟨_, [(10, .slice none 0 0), (82, .slice (some ⟨m.length + 0, 0, none⟩) j.length j.length), (83, .int .i64 (j.length : Nat)), (84, .int .i64 ((0 : Nat) : Int))], [some { cells := bv row }, some { cells := iv (eddL j) }] ++ [none], (Back.padC rfl (by repeat (first | exact trivial | (refine And.intro ⟨rfl, by (first | exact .int _ _ | exact Ren.of_g0 rfl | exact .slice _ _ _ _ (by first | (simp; done) | omega | (simp; omega)))⟩ ?_))) (by repeat (first | exact CellsP.nil | (refine CellsP.cons ?_ ?_; (focus (first | exact cells_iv _ | exact cells_bv _)))))), 0, rfl, Nat.zero_le _, rfl, rfl⟩ ?_
    rintro n' t L ⟨i, rfl, hi, rfl, rfl⟩
    rcases Nat.lt_or_ge i j.length with hil | hige
    · have hrow : ∀ L : AM, Rd (m ++ (some { cells := bv row } :: L)) (m.length + 0) i (.bool (b i)) := fun L => by
        rw [← gR i hil]
        exact Rd.new (k := 0) rfl (bv_get (by omega))
      have ss := setB_succ i b
      have sl : (setB i b).length ≤ i := by
        have := List.length_filter_le (fun x : Int => b x.toNat) (upI i)
        rwa [upI_len] at this
      generalize setB i b = S at *
      have hol : (iv S).length = S.length * 1 := by rw [iv_len]; omega
      cases hb : b i with
      | false =>
        rw [hb] at hrow ss
        simp only [Bool.false_eq_true, if_false, List.append_nil] at ss
        (repeat (first | (with_reducible refine AWo.cons ?_) | ((with_reducible refine Step.id ?_); first | ((with_reducible apply Step.move); exact rfl; exact rfl) | ((with_reducible apply Step.assign); exact rfl; exact rfl) | ((with_reducible apply Step.load); exact rfl; (focus (decide +kernel)); exact rfl; (focus (exact hrow _))) | ((with_reducible apply Step.ix1z); exact rfl; (focus (exact Sl.mk (by omega))); exact rfl; (focus (decide +kernel)); exact rfl; (focus (omega))) | ((with_reducible apply Step.add); exact rfl; exact rfl; (focus (omega)); exact rfl) | ((with_reducible apply Step.lss); exact rfl; exact rfl; exact rfl)) | (with_reducible refine AWo.nil ?_) | ((with_reducible apply AW.seq)) | ((with_reducible apply Then.n)) | ((with_reducible apply AW.regL)) | ((with_reducible apply AW.block)) | ((with_reducible apply InBlk.n)) | ((with_reducible apply AW.skip)) | ((with_reducible apply AW.condT); exact rfl; (focus ((simp only [decide_eq_true_eq, decide_eq_false_iff_not, Bool.not_eq_true', Bool.not_eq_false', Bool.not_true, Bool.not_false]; first | assumption | omega)))) | ((with_reducible apply AW.condF); exact rfl; (focus (rfl)))))
        exact ⟨_, [(10, gv (m.length + 2) S.length), (82, .slice (some ⟨m.length + 0, 0, none⟩) j.length j.length), (83, .int .i64 (j.length : Nat)), (84, .int .i64 ((i + 1 : Nat) : Int))], [some { cells := bv row }, some { cells := iv (eddL j) }, gb (iv S) 1], by omega, (Or.inl ⟨rfl, (by repeat (first | exact trivial | (refine And.intro rfl ?_)))⟩), i + 1, rfl, hil, by rw [ss], by rw [ss]⟩
      | true =>
        rw [hb] at hrow ss
        simp only [if_true] at ss
        have hg0 : ∀ v ∈ iv S ++ [Value.int .i64 (i : Nat)], g0 v = true := fun v hv => by
          rcases List.mem_append.1 hv with h | h
          · exact g0_iv _ v h
          · obtain rfl : v = Value.int .i64 (i : Nat) := by simpa using h
            rfl
        (repeat (first | (with_reducible refine AWo.cons ?_) | ((with_reducible refine Step.id ?_); first | ((with_reducible apply Step.move); exact rfl; exact rfl) | ((with_reducible apply Step.assign); exact rfl; exact rfl) | ((with_reducible apply Step.load); exact rfl; (focus (decide +kernel)); exact rfl; (focus (exact hrow _))) | ((with_reducible apply Step.ix1z); exact rfl; (focus (exact Sl.mk (by omega))); exact rfl; (focus (decide +kernel)); exact rfl; (focus (omega))) | ((with_reducible apply Step.lss); exact rfl; exact rfl; exact rfl) | ((with_reducible apply Step.buildS 3); exact rfl; exact rfl; exact (fun _ _ => bs23x); exact rfl; (focus (first | (simp only [List.nil_append, List.cons_append, List.set_cons_zero, List.set_cons_succ, iv_set, bv_set, iv_rep, bv_rep]; done) | (simp only [List.nil_append, List.cons_append, List.set_cons_zero, List.set_cons_succ, iv_set, bv_set, iv_rep, bv_rep]; rfl) | rfl)))) | (with_reducible refine AWo.nil ?_) | ((with_reducible apply AW.seq)) | ((with_reducible apply Then.n)) | ((with_reducible apply AW.regL)) | ((with_reducible apply AW.block)) | ((with_reducible apply AW.skip)) | ((with_reducible apply AW.condT); exact rfl; (focus (first | rfl | (simp only [decide_eq_true_eq, decide_eq_false_iff_not, Bool.not_eq_true', Bool.not_eq_false', Bool.not_true, Bool.not_false]; first | assumption | omega))))))
        ((with_reducible apply Step.appG (k := 4)); exact rfl; exact rfl; exact rfl; exact el23; exact un23; exact rfl; exact rfl; exact rfl; exact hol; exact rfl; exact rfl; exact rfl; (focus (omega)); exact rfl; (focus (first | (simp only [List.nil_append, List.cons_append, List.set_cons_zero, List.set_cons_succ, iv_set, bv_set, iv_rep, bv_rep]; done) | (simp only [List.nil_append, List.cons_append, List.set_cons_zero, List.set_cons_succ, iv_set, bv_set, iv_rep, bv_rep]; rfl) | rfl)))
        (repeat (first | (with_reducible refine AWo.cons ?_) | ((with_reducible refine Step.id ?_); first | ((with_reducible apply Step.move); exact rfl; exact rfl) | ((with_reducible apply Step.assign); exact rfl; exact rfl) | ((with_reducible apply Step.add); exact rfl; exact rfl; (focus (omega)); exact rfl)) | (with_reducible refine AWo.nil ?_) | ((with_reducible apply Then.n)) | ((with_reducible apply AW.regL)) | ((with_reducible apply InBlk.n))))
        refine ⟨_, [(10, .slice (some ⟨m.length + 2, 0, none⟩) (S.length + 1) (S.length + 1)), (82, .slice (some ⟨m.length + 0, 0, none⟩) j.length j.length), (83, .int .i64 (j.length : Nat)), (84, .int .i64 ((i + 1 : Nat) : Int))], [some { cells := bv row }, some { cells := iv (eddL j) }, some { cells := iv S ++ [.int .i64 (i : Nat)], kind := .grow, size := 1 }], ?_, (Or.inr (by refine Gc.perm [0,1,4] rfl (by decide) ?_ (CellsOk.ren ?_) ?_; (focus (intro p hp; rcases p with _ | _ | _ | p <;> first | rfl | exact absurd hp (lenB (n := 3) rfl))); (focus (repeat (first | exact CellsOk.nil | refine CellsOk.cons (by first | assumption | exact g0_iv _ | exact g0_bv _) ?_))); (focus ((repeat (first | exact trivial | (refine And.intro ⟨_, rfl, ?_⟩ ?_; (focus (first | exact .int _ _ | (refine Ren.slice_sg ?_; (focus (first | (simp; done) | omega | (simp; omega))))))))); done)))), i + 1, rfl, hil, ?_, ?_⟩
        · omega
        · rw [ss, gb_pos (by simp [iv])]; simp [iv]
        · rw [ss, gv_pos (by simp)]; simp
    · obtain rfl : i = j.length := by omega
      rw [hm]
      (repeat (first | (with_reducible refine AWo.cons ?_) | ((with_reducible refine Step.id ?_); first | ((with_reducible apply Step.move); exact rfl; exact rfl) | ((with_reducible apply Step.assign); exact rfl; exact rfl) | ((with_reducible apply Step.lss); exact rfl; exact rfl; exact rfl)) | (with_reducible refine AWo.nil ?_) | ((with_reducible apply AW.seq)) | ((with_reducible apply Then.n)) | ((with_reducible apply AW.regL)) | ((with_reducible apply AW.exit)) | ((with_reducible apply InBlk.hit)) | ((with_reducible apply Then.e)) | ((with_reducible apply AW.condF); exact rfl; (focus ((simp only [decide_eq_true_eq, decide_eq_false_iff_not, Bool.not_eq_true', Bool.not_eq_false', Bool.not_true, Bool.not_false]; first | assumption | omega))))))
      refine AW.retB (l := [(2, gv (m.length + 0) (mooL j).length), (3, .int .i64 0)]) (L1 := [gb (iv (mooL j)) 1]) (Or.inr (by refine Gc.perm [2] rfl (by decide) ?_ (CellsOk.ren ?_) ?_; (focus (intro p hp; rcases p with _ | p <;> first | rfl | exact absurd hp (lenB (n := 1) rfl))); (focus (repeat (first | exact CellsOk.nil | refine CellsOk.gb (by exact g0_iv _) ?_))); (focus ((repeat (first | exact trivial | (refine And.intro ⟨_, rfl, ?_⟩ ?_; (focus (first | exact .int _ _ | (refine Ren.gv_sg ?_; (focus (first | (simp; done) | omega | (simp; omega))))))))); done)))) ?_
      exact ⟨_, rfl, rfl, rfl⟩
end Go.Proofs.Ytmomjannlnafcaa.Abs
namespace Go.Proofs.Ytmomjannlnafcaa.Abs
set_option linter.unusedSimpArgs false
set_option linter.unusedVariables false
/-- The sum of the n least. -/
def leI (a b : Int) : Bool := decide (a ≤ b)
theorem leI_to : TO leI := ⟨fun a b => by simp [leI]; omega, fun a b c h1 h2 => by simp [leI] at *; omega, fun a b h1 h2 => by simp [leI] at *; omega⟩
def sN (l : List Int) : List Int := ms leI l
def gN (l : List Int) (n : Nat) : Int := ((sN l).take n).sum
theorem sN_len (l : List Int) : (sN l).length = l.length := ms_len
theorem gN_zero (l : List Int) : gN l 0 = 0 := by simp [gN]
theorem gN_succ {l : List Int} {n : Nat} (h : n < l.length) : gN l (n + 1) = gN l n + (sN l).getD n 0 := by
  unfold gN
  rw [take_snoc (sN l) n 0 (by rw [sN_len]; exact h), List.sum_append]
  simp
theorem gN_all (l : List Int) : gN l l.length = l.sum := by
  unfold gN
  rw [List.take_of_length_le (by rw [sN_len]; exact Nat.le_refl _)]
  exact perm_sum ms_perm
theorem sorted_split {l : List Int} (hs : Srt leI l) (p : Int) : ∃ S1 S2, l = S1 ++ S2 ∧ (∀ y ∈ S1, leI y p = true) ∧ ∀ y ∈ S2, leI p y = true := by
  induction l with
  | nil => exact ⟨[], [], rfl, by simp, by simp⟩
  | cons x l ih =>
    obtain ⟨h1, h2⟩ := List.pairwise_cons.1 hs
    by_cases hx : x ≤ p
    · obtain ⟨S1, S2, e, a1, a2⟩ := ih h2
      refine ⟨x :: S1, S2, by rw [e]; rfl, fun y hy => ?_, a2⟩
      rcases List.mem_cons.1 hy with rfl | hy
      · simp [leI, hx]
      · exact a1 y hy
    · refine ⟨[], x :: l, rfl, by simp, fun y hy => ?_⟩
      rcases List.mem_cons.1 hy with rfl | hy
      · simp [leI]; omega
      · have := h1 y hy
        simp [leI] at *; omega
theorem gN_snoc {l : List Int} {p : Int} {n : Nat} (h : n < l.length) : gN (l ++ [p]) (n + 1) = min (gN l (n + 1)) (gN l n + p) := by
  have hsucc := gN_succ h
  have hS : Srt leI (sN l) := ms_srt leI_to
  obtain ⟨S1, S2, e, a1, a2⟩ := sorted_split hS p
  have hone : sN (l ++ [p]) = S1 ++ p :: S2 := ms_one leI_to (by rw [← e]; exact hS) a1 a2 (by rw [← e]; exact ms_perm)
  have hl : S1.length + S2.length = l.length := by rw [← sN_len l, e]; simp
  have hg : (sN l).getD n 0 = (S1 ++ S2).getD n 0 := by rw [e]
  have hg2 : gN l n = ((S1 ++ S2).take n).sum := by unfold gN; rw [e]
  have hmem : n < S1.length → (S1 ++ S2).getD n 0 ∈ S1 := fun h1 => by rw [getD_l h1]; exact mem_getD' h1
  have hmem2 : ¬ n < S1.length → (S1 ++ S2).getD n 0 ∈ S2 := fun h1 => by
    rw [getD_r (j := n - S1.length) (by omega)]; exact mem_getD' (by omega)
  unfold gN at hsucc ⊢
  rw [hone]
  by_cases h1 : n < S1.length
  · have := a1 _ (hmem h1)
    simp only [leI, decide_eq_true_eq] at this
    have e3 : (S1 ++ p :: S2).take (n + 1) = (S1 ++ S2).take (n + 1) := by
      rw [List.take_append_of_le_length (by omega), List.take_append_of_le_length (by omega)]
    rw [e3, ← e]
    omega
  · have := a2 _ (hmem2 h1)
    simp only [leI, decide_eq_true_eq] at this
    have e3 : ((S1 ++ p :: S2).take (n + 1)).sum = ((S1 ++ S2).take n).sum + p := by
      rw [List.take_append, List.take_append, List.take_of_length_le (show S1.length ≤ n + 1 by omega), List.take_of_length_le (show S1.length ≤ n by omega), show n + 1 - S1.length = (n - S1.length) + 1 by omega, List.take_succ_cons]
      simp only [List.sum_append, List.sum_cons]
      omega
    rw [e3, ← e]
    omega
theorem gN_snoc_all (l : List Int) (p : Int) : gN (l ++ [p]) (l.length + 1) = gN l l.length + p := by
  have := gN_all (l ++ [p])
  simp only [List.length_append, List.length_singleton] at this
  rw [this, gN_all]; simp
theorem gN_drop {l k : List Int} {b : Int} (hp : (k ++ [b]).Perm l) (hb : ∀ y ∈ k, y ≤ b) {n : Nat} (hn : n ≤ k.length) : gN l n = gN k n := by
  have e : sN l = sN k ++ [b] := by
    refine ms_of leI_to ?_ ?_
    · exact ((List.Perm.append_right [b] ms_perm).trans hp)
    · unfold Srt
      rw [List.pairwise_append]
      exact ⟨ms_srt leI_to, by simp, fun x hx y hy => by
        obtain rfl : y = b := by simpa using hy
        simp [leI, hb x (ms_mem.1 hx)]⟩
  unfold gN
  rw [e, List.take_append_of_le_length (by rw [sN_len]; exact hn)]
theorem gN_mono {l : List Int} (h : ∀ x ∈ l, 0 ≤ x) : ∀ n, n ≤ l.length → 0 ≤ gN l n ∧ gN l n ≤ l.sum := by
  have step : ∀ n, n < l.length → gN l n ≤ gN l (n + 1) := fun n hn => by
    have := h _ (ms_mem.1 (mem_getD' (l := sN l) (k := n) (by rw [sN_len]; exact hn)))
    rw [gN_succ hn]; omega
  have up : ∀ d n, n + d ≤ l.length → gN l n ≤ gN l (n + d) := fun d => by
    induction d with
    | zero => intro n _; exact Int.le_refl _
    | succ d ih => intro n hn; have := ih n (by omega); have := step (n + d) (by omega); rw [← Nat.add_assoc]; omega
  intro n hn
  have h1 := up n 0 (by omega)
  have h2 := up (l.length - n) n (by omega)
  rw [Nat.zero_add, gN_zero] at h1
  rw [show n + (l.length - n) = l.length by omega, gN_all] at h2
  exact ⟨h1, h2⟩
end Go.Proofs.Ytmomjannlnafcaa.Abs
namespace Go.Proofs.Ytmomjannlnafcaa.Abs
set_option linter.unusedSimpArgs false
set_option linter.unusedVariables false
def tms (j : List Job) (on : List Int) : List Int := on.map fun x => (jb j x).time
theorem tms_len (j : List Job) (on : List Int) : (tms j on).length = on.length := by simp [tms]
theorem filter_perm {l : List Int} {b : Int} (hn : l.Nodup) (hb : b ∈ l) : ((l.filter fun y => !decide (y = b)) ++ [b]).Perm l := by
  induction l with
  | nil => simp at hb
  | cons x l ih =>
    obtain ⟨n1, n2⟩ := List.nodup_cons.1 hn
    by_cases e : x = b
    · subst e
      have : (l.filter fun y => !decide (y = x)) = l := by
        rw [List.filter_eq_self]
        intro y hy
        have : y ≠ x := fun h => n1 (h ▸ hy)
        simp [this]
      rw [List.filter_cons_of_neg (by simp), this]
      exact List.perm_append_singleton x l
    · have hb' : b ∈ l := by
        rcases List.mem_cons.1 hb with h | h
        · exact absurd h.symm e
        · exact h
      rw [List.filter_cons_of_pos (by simp [e])]
      exact List.Perm.cons x (ih n2 hb')
theorem lg_top {j : List Job} {on : List Int} {y : Int} (hy : y ∈ on) : (jb j y).time ≤ (jb j (lgJ j on)).time := by
  obtain ⟨p, hp, e⟩ := List.getElem_of_mem hy
  have top := mxI_top j on (on.length - 1) (by omega) p (by omega)
  have e' : on.getD p 0 = y := by simp only [List.getD_eq_getElem?_getD, List.getElem?_eq_getElem hp, Option.getD_some]; exact e
  rw [e'] at top
  unfold lgJ
  omega
theorem sumJ_tms (j : List Job) (on : List Int) : sumJ j on = (tms j on).sum := sumJ_list j on
structure MStp (j : List Job) (on on' : List Int) (p d : Int) : Prop where
  upd : ∀ n, n < on.length → gN (tms j on') (n + 1) = if gN (tms j on) n + p ≤ d then min (gN (tms j on) (n + 1)) (gN (tms j on) n + p) else gN (tms j on) (n + 1)
  more : gN (tms j on) on.length + p ≤ d → on'.length = on.length + 1 ∧ gN (tms j on') (on.length + 1) = gN (tms j on) on.length + p
  same : ¬ gN (tms j on) on.length + p ≤ d → on'.length = on.length
theorem moo_step {j : List Job} (hJ : JOk j) {k : Nat} (hk : k < j.length) {d : Int} (hd : d = (jb j ((eddL j).getD k 0)).due) (hsum : (mooN j k).sum ≤ d) :
    MStp j (mooN j k).on (mooN j (k + 1)).on (jb j ((eddL j).getD k 0)).time d ∧ (mooN j (k + 1)).sum ≤ d := by
  have inv := mooN_inv j k (by omega)
  have inv2 := mooN_inv j (k + 1) hk
  have hx := eddL_in hk
  have hin : InJ j ((mooN j k).on ++ [(eddL j).getD k 0]) := fun y hy => by
    rcases List.mem_append.1 hy with h | h
    · exact eddL_mem.1 (List.mem_of_mem_take (inv.mem y h))
    · obtain rfl : y = (eddL j).getD k 0 := by simpa using h
      exact hx
  have hnd := nodup_snoc inv.nd (take_new hk inv.mem)
  have hpos : ∀ y ∈ tms j (mooN j k).on, 0 ≤ y := fun y hy => by
    obtain ⟨z, hz, rfl⟩ := List.mem_map.1 hy
    have hz' := hin z (List.mem_append.2 (.inl hz))
    have := hJ.num z.toNat (by omega)
    simp only [jb]; omega
  have mono := gN_mono hpos
  have hs1 : (tms j (mooN j k).on).sum = (mooN j k).sum := by rw [inv.sum, sumJ_tms]
  have hs2 : (tms j (mooN j (k + 1)).on).sum = (mooN j (k + 1)).sum := by rw [inv2.sum, sumJ_tms]
  have stp : mooN j (k + 1) = mStep j (mooN j k) ((eddL j).getD k 0) := rfl
  have tl : tms j ((mooN j k).on ++ [(eddL j).getD k 0]) = tms j (mooN j k).on ++ [(jb j ((eddL j).getD k 0)).time] := by simp [tms]
  have ll := tms_len j (mooN j k).on
  rw [hs1] at mono
  have all := gN_all (tms j (mooN j k).on)
  have all2 := gN_all (tms j (mooN j (k + 1)).on)
  rw [hs1, ll] at all
  rw [hs2, tms_len] at all2
  have lgm : lgJ j ((mooN j k).on ++ [(eddL j).getD k 0]) ∈ (mooN j k).on ++ [(eddL j).getD k 0] := mxI_mem _ _ (by simp)
  have lgt := fun y (hy : y ∈ (mooN j k).on ++ [(eddL j).getD k 0]) => lg_top (j := j) hy
  have fone := filter_one hnd lgm
  have fp := filter_perm hnd lgm
  generalize (eddL j).getD k 0 = x at *
  clear inv inv2 hs1 hs2
  generalize mooN j (k + 1) = S2 at *
  generalize mooN j k = S at *
  obtain ⟨on, sum⟩ := S
  simp only [mStep] at *
  rw [← hd] at stp
  by_cases hle : sum + (jb j x).time ≤ d
  · rw [if_pos hle] at stp
    subst stp
    refine ⟨⟨fun n hn => ?_, fun _ => ⟨by simp, ?_⟩, fun h => absurd (by rw [all]; exact hle) h⟩, hle⟩
    · rw [tl, gN_snoc (by omega), if_pos (by have := mono n (by omega); omega)]
    · rw [tl]
      have := gN_snoc_all (tms j on) (jb j x).time
      rw [ll] at this
      exact this
  · rw [if_neg hle] at stp
    generalize lgJ j (on ++ [x]) = b at *
    generalize hfl : (on ++ [x]).filter (fun y => !decide (y = b)) = on2 at *
    subst stp
    simp only [List.length_append, List.length_singleton] at fone all2
    have dr : ∀ n, n ≤ on.length → gN (tms j on ++ [(jb j x).time]) n = gN (tms j on2) n := fun n hn => by
      rw [← tl]
      refine gN_drop (b := (jb j b).time) ?_ ?_ (by rw [tms_len]; omega)
      · have := fp.map (fun x => (jb j x).time)
        rw [List.map_append] at this
        exact this
      · intro y hy
        obtain ⟨z, hz, rfl⟩ := List.mem_map.1 hy
        rw [← hfl] at hz
        exact lgt z (List.mem_filter.1 hz).1
    have upd : ∀ n, n < on.length → gN (tms j on2) (n + 1) = min (gN (tms j on) (n + 1)) (gN (tms j on) n + (jb j x).time) := fun n hn => by
      rw [← dr (n + 1) (by omega), gN_snoc (by omega)]
    refine ⟨⟨fun n hn => ?_, fun h => absurd (by rw [all] at h; exact h) hle, fun _ => by simp only; omega⟩, ?_⟩
    · rw [upd n hn]
      have := mono (n + 1) (by omega)
      split
      · rfl
      · omega
    · show sum + (jb j x).time - (jb j b).time ≤ d
      have e2 : on2.length = on.length := by omega
      rw [← all2, e2]
      by_cases hz : on.length = 0
      · have := (mono 0 (by omega)).1
        rw [hz, gN_zero]
        rw [gN_zero] at this
        have hm := mono on.length (by omega)
        omega
      · have := upd (on.length - 1) (by omega)
        rw [show on.length - 1 + 1 = on.length by omega] at this
        rw [this, all]
        omega
theorem edd_due {j : List Job} {i k : Nat} (hik : i ≤ k) (hk : k < j.length) : (jb j ((eddL j).getD i 0)).due ≤ (jb j ((eddL j).getD k 0)).due := by
  have := srt_getE (leD_to j) (ms_srt (leD_to j) (l := upI j.length)) hik (by rw [ms_len, upI_len]; exact hk)
  simp only [leD, decide_eq_true_eq] at this
  simp only [jb, eddL]
  omega
theorem moo_due {j : List Job} (hJ : JOk j) : ∀ k, k < j.length → (mooN j k).sum ≤ (jb j ((eddL j).getD k 0)).due
  | 0, hk => by
    have hx := eddL_in hk
    have := hJ.num ((eddL j).getD 0 0).toNat (by omega)
    show (0 : Int) ≤ _
    simp only [jb]; omega
  | k + 1, hk => by
    have ih := moo_due hJ k (by omega)
    have := (moo_step hJ (by omega) rfl ih).2
    have := edd_due (j := j) (i := k) (k := k + 1) (by omega) hk
    omega
end Go.Proofs.Ytmomjannlnafcaa.Abs
namespace Go.Proofs.Ytmomjannlnafcaa.Abs
set_option linter.unusedSimpArgs false
set_option linter.unusedVariables false
open Go.RowKit
open Go.Proofs.Ytmomjannlnafcaa.Sim
section
variable {P : Program} {nt : Nat} {ops : Array Oper} {t : Fm} {m : AM} {K : Fm → AM → Prop} {d T : Nat} {p : String} {af : Array Edge}
theorem Step.appO {x y : Operand} {X Y e e' : TypeId} {by_ : Nat} {z : Array Value} {k q r n : Nat} {c : List Value} {new : Value} {M L L' : AM} (hk : L.length = k) (hx : evo t x = some (.slice (some ⟨M.length + q, 0, none⟩) n n)) (hy : evo t y = some (.slice (some ⟨M.length + r, 0, none⟩) 1 1)) (hE : elemB P X = some (e, 1, by_, z)) (hY : P.underlying Y = some (.slice e'))
    (hq : L[q]? = some (some { cells := c })) (hc : c.length = n) (hr : L[r]? = some (some { cells := [new] })) (hn1 : new.oneCell' = true) (hb : (n + 1) * by_ ≤ 1099511627776 ∧ n + 1 ≤ 1099511627776) (hlt : Nat.blt d nt = true)
    (hL : L ++ [some { cells := c ++ [new], kind := .grow, size := 1 }] = L') (hK : K (put t d (.slice (some ⟨M.length + k, 0, none⟩) (n + 1) (n + 1))) (M ++ L')) :
    Step P nt ops ⟨some d, .call ⟨.builtin .append, #[x, y], #[X, Y]⟩, T, p, af, none⟩ t (M ++ L) K := by
  subst hL
  refine .l rfl rfl hlt rfl (by simp [Op.operands, Call.operands, hx, hy]) (loudN hk rfl (v := .slice (some ⟨M.length + k, 0, none⟩) (n + 1) (n + 1)) ?_ hK)
  have hrl : r < L.length := (List.getElem?_eq_some_iff.1 hr).1
  have hql : q < L.length := (List.getElem?_eq_some_iff.1 hq).1
  have hcell : acells ((M ++ L) ++ [none]) 1 1 (.slice (some ⟨M.length + r, 0, none⟩) 1 1) = some [new] := by
    have hg : ((M ++ L) ++ [none])[M.length + r]? = some (some { cells := [new] }) := by rw [List.append_assoc, get_app, List.getElem?_append_left hrl, hr]
    simp only [acells, hg]
    simp
  have hg : ((M ++ L) ++ [none])[M.length + q]? = some (some { cells := c }) := by rw [List.append_assoc, get_app, List.getElem?_append_left hql, hq]
  simp only [aloud, evD_of hx, evD_of hy, aappend, hE, hY, aSliceLen, hcell]
  rw [if_neg (by simp [hn1]), if_neg (by omega)]
  simp only [hg]
  rw [if_neg (by omega), if_pos ⟨hb.1, hb.2, Nat.le_refl _⟩, if_pos (by simp [hc])]
  rw [set_new_at M L hk]
  simp [List.take_of_length_le (show c.length ≤ n by omega)]
end
end Go.Proofs.Ytmomjannlnafcaa.Abs
namespace Go.Proofs.Ytmomjannlnafcaa.Abs
set_option linter.unusedSimpArgs false
set_option linter.unusedVariables false
open Go.RowKit
open Go.Proofs.Ytmomjannlnafcaa.Sim
open Go.Proofs
/-- The least times: of 0, 1, .. punctual jobs of the first k by due. -/
def rowP (j : List Job) (k : Nat) : List Int := tab (gN (tms j (mooN j k).on)) ((mooN j k).on.length + 1)
theorem rowP_len (j : List Job) (k : Nat) : (rowP j k).length = (mooN j k).on.length + 1 := tab_len _ _
/-- The row within a round: what lies above place c is new. -/
def midP (l l' : List Int) (s s' c : Nat) : List Int := tab (fun i => if i ≤ c then gN l i else gN l' i) (if c = s + 1 then s + 1 else s' + 1)
theorem midP_first (l l' : List Int) (s s' : Nat) : midP l l' s s' (s + 1) = tab (gN l) (s + 1) := by
  unfold midP
  rw [if_pos rfl]
  exact tab_congr fun i hi => if_pos (by omega)
theorem midP_last (l l' : List Int) (s s' : Nat) : midP l l' s s' 0 = tab (gN l') (s' + 1) := by
  unfold midP
  rw [if_neg (by omega)]
  exact tab_congr fun i hi => by
    by_cases h : i ≤ 0
    · obtain rfl : i = 0 := by omega
      rw [if_pos h, gN_zero, gN_zero]
    · rw [if_neg h]
theorem midP_len (l l' : List Int) (s s' c : Nat) : (midP l l' s s' c).length = if c = s + 1 then s + 1 else s' + 1 := tab_len _ _
theorem tab_snoc (f : Nat → Int) (n : Nat) (x : Int) (h : f n = x) : tab f n ++ [x] = tab f (n + 1) := by
  unfold tab
  rw [List.range_succ, List.map_append, ← h]; rfl
section
variable {j : List Job} {on on' : List Int} {p d : Int}
theorem midP_no (h : MStp j on on' p d) {c : Nat} (hc : c ≤ on.length) (hf : ¬ gN (tms j on) c + p ≤ d) : midP (tms j on) (tms j on') on.length on'.length (c + 1) = midP (tms j on) (tms j on') on.length on'.length c := by
  unfold midP
  rw [if_neg (show ¬ c = on.length + 1 by omega)]
  have hlen : (if c + 1 = on.length + 1 then on.length + 1 else on'.length + 1) = on'.length + 1 := by
    split
    · rename_i e
      obtain rfl : c = on.length := by omega
      rw [h.same hf]
    · rfl
  rw [hlen]
  refine tab_congr fun i hi => ?_
  by_cases h1 : i ≤ c
  · rw [if_pos (by omega), if_pos h1]
  · rw [if_neg h1]
    by_cases h2 : i ≤ c + 1
    · rw [if_pos h2]
      obtain rfl : i = c + 1 := by omega
      by_cases hcs : c < on.length
      · have := h.upd c hcs
        rw [if_neg hf] at this
        exact this.symm
      · obtain rfl : c = on.length := by omega
        have := h.same hf
        omega
    · rw [if_neg h2]
theorem midP_yes (h : MStp j on on' p d) {c : Nat} (hc : c < on.length) (hf : gN (tms j on) c + p ≤ d) : (midP (tms j on) (tms j on') on.length on'.length (c + 1)).set (c + 1) (min (gN (tms j on) (c + 1)) (gN (tms j on) c + p)) = midP (tms j on) (tms j on') on.length on'.length c := by
  unfold midP
  rw [if_neg (show ¬ c = on.length + 1 by omega), if_neg (show ¬ c + 1 = on.length + 1 by omega), tab_set]
  refine tab_congr fun i hi => ?_
  by_cases h1 : i = c + 1
  · subst h1
    rw [if_pos rfl, if_neg (by omega)]
    have := h.upd c hc
    rw [if_pos hf] at this
    exact this.symm
  · rw [if_neg h1]
    by_cases h2 : i ≤ c
    · rw [if_pos (by omega), if_pos h2]
    · rw [if_neg (by omega), if_neg h2]
theorem midP_more (h : MStp j on on' p d) (hf : gN (tms j on) on.length + p ≤ d) : midP (tms j on) (tms j on') on.length on'.length (on.length + 1) ++ [gN (tms j on) on.length + p] = midP (tms j on) (tms j on') on.length on'.length on.length := by
  obtain ⟨e1, e2⟩ := h.more hf
  rw [midP_first]
  unfold midP
  rw [if_neg (by omega), e1]
  have : tab (gN (tms j on)) (on.length + 1) = tab (fun i => if i ≤ on.length then gN (tms j on) i else gN (tms j on') i) (on.length + 1) := tab_congr fun i hi => (if_pos (by omega)).symm
  rw [this]
  exact tab_snoc _ _ _ (by rw [if_neg (by omega)]; exact e2)
theorem midP_get {l l' : List Int} {s s' c n : Nat} (hn : n ≤ c) (h : n < (midP l l' s s' c).length) : (midP l l' s s' c).getD n 0 = gN l n := by
  rw [midP_len] at h
  unfold midP
  rw [tab_get _ h, if_pos hn]
end
theorem rowP_zero (j : List Job) : rowP j 0 = [0] := by
  unfold rowP mooN tms tab
  simp [gN_zero]
end Go.Proofs.Ytmomjannlnafcaa.Abs
namespace Go.Proofs.Ytmomjannlnafcaa.Abs
set_option linter.unusedSimpArgs false
set_option linter.unusedVariables false
open Go.RowKit
open Go.Proofs.Ytmomjannlnafcaa.Sim
open Go.Proofs
def BP (F : List Int) (B : Blk) : Prop := B = { cells := iv F } ∨ B = { cells := iv F, kind := .grow, size := 1 }
set_option maxHeartbeats 4000000 in
set_option maxRecDepth 100000 in
theorem RPunctual_ok {m : AM} {v : Value} {j : List Job} (hj : Jobs m v j) (hs : Short j) (hok : jobsB j = true) : ACall Try.prog 63 #[v] m (Ret (.tuple #[.int .i64 ((mooN j j.length).on.length : Nat), .int .i64 0]) m) := by
  have hJ := JOk.of hok
  have h40 := hJ.len
  obtain ⟨a, o, h1, h2, h3⟩ := id hj
  refine ACall.start Try.func63 rfl rfl ?_
  (repeat (first | (with_reducible refine AWo.cons ?_) | ((with_reducible refine Step.id ?_); first | ((with_reducible apply Step.move); exact rfl; exact rfl) | ((with_reducible apply Step.assign); exact rfl; exact rfl) | ((with_reducible apply Step.len); exact rfl; (focus (exact Sl.mk (by omega))); (focus (decide +kernel)); exact rfl) | ((with_reducible apply Step.not); exact rfl; exact rfl) | ((with_reducible apply Step.callR fit); exact rfl; exact Try.func44; exact rfl; exact rfl; exact (RJobs_ok (hj.old _) hs.2 hs.1 hok)) | ((with_reducible apply Step.callN fit (k := 1)); exact rfl; exact rfl; exact Try.func98; exact rfl; exact rfl; exact (due_ok (hj.old _) h40); (focus (first | (simp only [List.nil_append, List.cons_append, List.set_cons_zero, List.set_cons_succ, iv_set, bv_set, iv_rep, bv_rep]; done) | (simp only [List.nil_append, List.cons_append, List.set_cons_zero, List.set_cons_succ, iv_set, bv_set, iv_rep, bv_rep]; rfl) | rfl))) | ((with_reducible apply Step.buildS 0); exact rfl; exact rfl; exact (fun _ _ => bs23x); exact rfl; (focus (first | (simp only [List.nil_append, List.cons_append, List.set_cons_zero, List.set_cons_succ, iv_set, bv_set, iv_rep, bv_rep]; done) | (simp only [List.nil_append, List.cons_append, List.set_cons_zero, List.set_cons_succ, iv_set, bv_set, iv_rep, bv_rep]; rfl) | rfl)))) | (with_reducible refine AWo.nil ?_) | ((with_reducible apply AW.seq)) | ((with_reducible apply Then.n)) | ((with_reducible apply AW.regL)) | ((with_reducible apply AW.block)) | ((with_reducible apply AW.skip)) | ((with_reducible apply AW.condF); exact rfl; (focus (rfl)))))
  refine AW.loopT (fun n' t L => ∃ (k : Nat) (B : Blk) (q : Nat), n' = j.length - k ∧ k ≤ j.length ∧ BP (rowP j k) B ∧ q = (rowP j k).length ∧ L = [some B, some { cells := iv (eddL j) }] ∧
    t = [(0, v), (4, .slice (some ⟨m.length + 0, 0, none⟩) q q), (14, .slice (some ⟨m.length + 1, 0, none⟩) j.length j.length), (15, .int .i64 (j.length : Nat)), (16, .int .i64 (k : Nat))])
    ⟨_, [(0, v), (4, .slice (some ⟨m.length + 0, 0, none⟩) 1 1), (14, .slice (some ⟨m.length + 1, 0, none⟩) j.length j.length), (15, .int .i64 (j.length : Nat)), (16, .int .i64 ((0 : Nat) : Int))], [some { cells := [.int .i64 0] }, some { cells := iv (eddL j) }], (Or.inl ⟨rfl, (by repeat (first | exact trivial | (refine And.intro rfl ?_)))⟩), 0, { cells := [.int .i64 0] }, 1, rfl, Nat.zero_le _, .inl (by rw [rowP_zero]; rfl), by rw [rowP_zero]; rfl, rfl, rfl⟩ ?_
  rintro n' t L ⟨k, B, q, rfl, hk, hB, hq, rfl, rfl⟩
  have el := eddL_len j
  have rl := rowP_len j k
  have inv := mooN_inv j k hk
  have ilen := inv.len
  rcases Nat.lt_or_ge k j.length with hlt | hge
  · have hx := eddL_in hlt
    have hre : ∀ L : AM, ∀ b, Rd (m ++ (b :: some { cells := iv (eddL j) } :: L)) (m.length + 1) k (.int .i64 ((eddL j).getD k 0)) := fun L b => Rd.new rfl (iv_get (by omega))
    have hdue := moo_due hJ k hlt
    have stp := (moo_step hJ hlt rfl hdue).1
    have hin : InJ j (mooN j k).on := fun y hy => eddL_mem.1 (List.mem_of_mem_take (inv.mem y hy))
    have hpos : ∀ y ∈ tms j (mooN j k).on, 0 ≤ y := fun y hy => by
      obtain ⟨z, hz, rfl⟩ := List.mem_map.1 hy
      have hz' := hin z hz
      have := hJ.num z.toNat (by omega)
      simp only [jb]; omega
    have mono := gN_mono hpos
    have sb := sumJ_bd hJ hin _ (Nat.le_refl _)
    have sb' : (tms j (mooN j k).on).sum ≤ 400000 := by
      rw [← sumJ_tms]; unfold sumJ; omega
    have tl := tms_len j (mooN j k).on
    have r0 : rowP j k = midP (tms j (mooN j k).on) (tms j (mooN j (k + 1)).on) (mooN j k).on.length (mooN j (k + 1)).on.length ((mooN j k).on.length + 1) := (midP_first _ _ _ _).symm
    have r1 : midP (tms j (mooN j k).on) (tms j (mooN j (k + 1)).on) (mooN j k).on.length (mooN j (k + 1)).on.length 0 = rowP j (k + 1) := midP_last _ _ _ _
    rw [r0] at hB hq
    generalize (eddL j).getD k 0 = x at *
    clear r0 sb hin hpos hdue rl inv
    generalize hon2 : (mooN j (k + 1)).on = on2 at *
    generalize (mooN j k).on = on at *
    obtain ⟨x, rfl⟩ := Int.eq_ofNat_of_zero_le hx.1
    have hxn : x < j.length := by omega
    obtain ⟨w, hr, hw⟩ := h3 x hxn
    have hnum := hJ.num x hxn
    simp only [jb, Int.toNat_natCast] at stp
    have fx0 : ∀ L : AM, Rd (m ++ L) a (o + x * 4 + 0) (.int .i64 (j.getD x default).time) := fun L => (hr.old L).at_ 0 rfl
    have fx1 : ∀ L : AM, Rd (m ++ L) a (o + x * 4 + 1) (.int .i64 (j.getD x default).due) := fun L => (hr.old L).at_ 1 rfl
    clear hr hw
    generalize (j.getD x default).time = p at *
    generalize (j.getD x default).due = d at *
    have hl0 := midP_len (tms j on) (tms j on2) on.length on2.length (on.length + 1)
    rw [if_pos rfl] at hl0
    (repeat (first | (with_reducible refine AWo.cons ?_) | ((with_reducible refine Step.id ?_); first | ((with_reducible apply Step.move); exact rfl; exact rfl) | ((with_reducible apply Step.assign); exact rfl; exact rfl) | ((with_reducible apply Step.load); exact rfl; (focus (decide +kernel)); exact rfl; (focus (exact hre _ _))) | ((with_reducible apply Step.ix1z); exact rfl; (focus (exact Sl.mk (by omega))); exact rfl; (focus (decide +kernel)); exact rfl; (focus (omega))) | ((with_reducible apply Step.sub); exact rfl; exact rfl; (focus (omega)); exact rfl) | ((with_reducible apply Step.lss); exact rfl; exact rfl; exact rfl) | ((with_reducible apply Step.len); exact rfl; (focus (exact Sl.mk (by omega))); (focus (decide +kernel)); exact rfl)) | (with_reducible refine AWo.nil ?_) | ((with_reducible apply AW.seq)) | ((with_reducible apply Then.n)) | ((with_reducible apply AW.regL)) | ((with_reducible apply AW.block)) | ((with_reducible apply AW.skip)) | ((with_reducible apply AW.condT); exact rfl; (focus ((simp only [decide_eq_true_eq, decide_eq_false_iff_not, Bool.not_eq_true', Bool.not_eq_false', Bool.not_true, Bool.not_false]; first | assumption | omega))))))
    refine AW.loopT (fun n' t L => ∃ (c : Nat) (y : Int) (B : Blk) (q : Nat), c = n' ∧ c ≤ on.length + 1 ∧ y = (c : Int) - 1 ∧ BP (midP (tms j on) (tms j on2) on.length on2.length c) B ∧ q = (midP (tms j on) (tms j on2) on.length on2.length c).length ∧ L = [some B, some { cells := iv (eddL j) }] ∧
      t = [(0, v), (4, .slice (some ⟨m.length + 0, 0, none⟩) q q), (6, .int .i64 (x : Nat)), (7, .int .i64 y), (14, .slice (some ⟨m.length + 1, 0, none⟩) j.length j.length), (15, .int .i64 (j.length : Nat)), (16, .int .i64 (k : Nat))])
      ⟨_, [(0, v), (4, .slice (some ⟨m.length + 0, 0, none⟩) q q), (6, .int .i64 (x : Nat)), (7, .int .i64 ((q : Int) - 1)), (14, .slice (some ⟨m.length + 1, 0, none⟩) j.length j.length), (15, .int .i64 (j.length : Nat)), (16, .int .i64 (k : Nat))], [some B, some { cells := iv (eddL j) }], (Or.inl ⟨rfl, (by repeat (first | exact trivial | (refine And.intro rfl ?_)))⟩), on.length + 1, (q : Int) - 1, B, q, rfl, Nat.le_refl _, by omega, hB, hq, rfl, rfl⟩ ?_
    clear hB hq hl0
    rintro n' t L ⟨c, y, B, q, rfl, hc, hy, hB, hq, rfl, rfl⟩
    have hs' : on.length ≤ on2.length := by
      by_cases h : gN (tms j on) on.length + p ≤ d
      · have := (stp.more h).1; omega
      · have := stp.same h; omega
    rcases Nat.eq_zero_or_pos c with rfl | hcp
    · rw [r1] at hB hq
      have hy' : y = -1 := by omega
      subst hy'
      (repeat (first | (with_reducible refine AWo.cons ?_) | ((with_reducible refine Step.id ?_); first | ((with_reducible apply Step.move); exact rfl; exact rfl) | ((with_reducible apply Step.add); exact rfl; exact rfl; (focus (omega)); exact rfl) | ((with_reducible apply Step.geq); exact rfl; exact rfl; exact rfl)) | (with_reducible refine AWo.nil ?_) | ((with_reducible apply AW.seq)) | ((with_reducible apply Then.n)) | ((with_reducible apply AW.regL)) | ((with_reducible apply AW.exit)) | ((with_reducible apply InBlk.n)) | ((with_reducible apply InBlk.hit)) | ((with_reducible apply Then.e)) | ((with_reducible apply AW.condF); exact rfl; (focus (rfl)))))
      exact ⟨_, [(0, v), (4, .slice (some ⟨m.length + 0, 0, none⟩) q q), (14, .slice (some ⟨m.length + 1, 0, none⟩) j.length j.length), (15, .int .i64 (j.length : Nat)), (16, .int .i64 ((k + 1 : Nat) : Int))], [some B, some { cells := iv (eddL j) }], by omega, (Or.inl ⟨rfl, (by repeat (first | exact trivial | (refine And.intro rfl ?_)))⟩), k + 1, B, q, rfl, hlt, hB, hq, rfl, rfl⟩
    · obtain ⟨c, rfl⟩ : ∃ c0, c = c0 + 1 := ⟨c - 1, by omega⟩
      obtain rfl : y = (c : Int) := by omega
      have ep : (c : Int) + 1 = ((c + 1 : Nat) : Int) := by omega
      have hcs : c ≤ on.length := by omega
      have hlen := midP_len (tms j on) (tms j on2) on.length on2.length (c + 1)
      have hlen2 := midP_len (tms j on) (tms j on2) on.length on2.length c
      rw [if_neg (by omega)] at hlen2
      have hn : c < (midP (tms j on) (tms j on2) on.length on2.length (c + 1)).length := by rw [hlen]; split <;> omega
      have hget := midP_get (l := tms j on) (l' := tms j on2) (s := on.length) (s' := on2.length) (c := c + 1) (n := c) (by omega) hn
      have hget2 := fun h => midP_get (l := tms j on) (l' := tms j on2) (s := on.length) (s' := on2.length) (c := c + 1) (n := c + 1) (Nat.le_refl _) h
      have m1 := mono c (by omega)
      have m2 := mono (c + 1)
      have no := midP_no stp hcs
      have yes := fun h => midP_yes stp (c := c) h
      have more := fun (e : c = on.length) => show gN (tms j on) c + p ≤ d → midP (tms j on) (tms j on2) on.length on2.length (c + 1) ++ [gN (tms j on) c + p] = midP (tms j on) (tms j on2) on.length on2.length c from by rw [e]; exact midP_more stp
      generalize hF : midP (tms j on) (tms j on2) on.length on2.length (c + 1) = F at *
      generalize hG : midP (tms j on) (tms j on2) on.length on2.length c = G at *
      have hBc : B.cells = iv F := by rcases hB with rfl | rfl <;> rfl
      have hrd : ∀ L : AM, Rd (m ++ (some B :: L)) (m.length + 0) c (.int .i64 (gN (tms j on) c)) := fun L => by rw [← hget]; exact Rd.new rfl (by rw [hBc]; exact iv_get hn)
      by_cases hf : gN (tms j on) c + p ≤ d
      · rcases Nat.lt_or_ge c on.length with hcl | hcg
        · have yes' := yes hcl hf
          rw [if_neg (by omega)] at hlen
          have hn2 : c + 1 < F.length := by omega
          have hg2 := hget2 hn2
          have m2' := m2 (by omega)
          have hrd2 : ∀ L : AM, Rd (m ++ (some B :: L)) (m.length + 0) (c + 1) (.int .i64 (gN (tms j on) (c + 1))) := fun L => by rw [← hg2]; exact Rd.new rfl (by rw [hBc]; exact iv_get hn2)
          clear yes more no m2 hget hget2 hg2 mono
          generalize gN (tms j on) c = g0' at *
          generalize gN (tms j on) (c + 1) = g1' at *
          rcases hB with rfl | rfl
          · (repeat (first | (with_reducible refine AWo.cons ?_) | ((with_reducible refine Step.id ?_); first | ((with_reducible apply Step.move); exact rfl; exact rfl) | ((with_reducible apply Step.assign); exact rfl; exact rfl) | ((with_reducible apply Step.load); exact rfl; (focus (decide +kernel)); exact rfl; (focus (first | exact hrd _ | exact hrd2 _ | exact fx0 _ | exact fx1 _))) | ((with_reducible apply Step.ix1z); exact rfl; (focus (exact Sl.mk (by omega))); exact rfl; (focus (decide +kernel)); exact rfl; (focus (omega))) | ((with_reducible apply Step.ix (s := 4)); exact rfl; (focus (assumption)); exact rfl; (focus (decide +kernel)); exact rfl; (focus (omega))) | ((with_reducible apply Step.field0); exact rfl; (focus (decide +kernel)); exact rfl) | ((with_reducible apply Step.field (k := 1)); exact rfl; (focus (decide +kernel)); exact rfl) | ((with_reducible apply Step.addE); exact rfl; exact rfl; (focus (assumption)); (focus (omega)); exact rfl) | ((with_reducible apply Step.add); exact rfl; exact rfl; (focus (omega)); exact rfl) | ((with_reducible apply Step.sub); exact rfl; exact rfl; (focus (omega)); exact rfl) | ((with_reducible apply Step.gtr); exact rfl; exact rfl; exact rfl) | ((with_reducible apply Step.geq); exact rfl; exact rfl; exact rfl) | ((with_reducible apply Step.eql); exact rfl; exact rfl; exact rfl) | ((with_reducible apply Step.len); exact rfl; (focus (exact Sl.mk (by omega))); (focus (decide +kernel)); exact rfl) | ((with_reducible apply Step.min); exact rfl; exact rfl; exact rfl) | ((with_reducible apply Step.store (k := 0)); exact rfl; exact rfl; exact rfl; exact rfl; (focus (decide +kernel)); exact rfl; exact rfl; (focus (first | omega | (simp [iv, bv]; done) | (simp [iv, bv]; omega))); (focus (first | (simp only [List.nil_append, List.cons_append, List.set_cons_zero, List.set_cons_succ, iv_set, bv_set, iv_rep, bv_rep]; done) | (simp only [List.nil_append, List.cons_append, List.set_cons_zero, List.set_cons_succ, iv_set, bv_set, iv_rep, bv_rep]; rfl) | rfl)))) | (with_reducible refine AWo.nil ?_) | ((with_reducible apply AW.seq)) | ((with_reducible apply Then.n)) | ((with_reducible apply AW.regL)) | ((with_reducible apply AW.block)) | ((with_reducible apply AW.drawL fit); (focus (decide +kernel))) | ((with_reducible apply InBlk.n)) | ((with_reducible apply AW.skip)) | ((with_reducible apply AW.condT); exact rfl; (focus (rfl))) | ((with_reducible apply AW.condF); exact rfl; (focus ((simp only [decide_eq_true_eq, decide_eq_false_iff_not, Bool.not_eq_true', Bool.not_eq_false', Bool.not_true, Bool.not_false]; first | assumption | omega))))))
            exact ⟨_, [(0, v), (4, .slice (some ⟨m.length + 0, 0, none⟩) (q) (q)), (6, .int .i64 (x : Nat)), (7, .int .i64 ((c : Int) - 1)), (14, .slice (some ⟨m.length + 1, 0, none⟩) j.length j.length), (15, .int .i64 (j.length : Nat)), (16, .int .i64 (k : Nat))], [some { cells := iv (F.set (c + 1) (min g1' (g0' + p))) }, some { cells := iv (eddL j) }], by omega, (Or.inl ⟨rfl, (by repeat (first | exact trivial | (refine And.intro rfl ?_)))⟩), c, (c : Int) - 1, _, q, rfl, by omega, rfl, .inl (by rw [hG, yes']), by rw [hG]; omega, rfl, rfl⟩
          · (repeat (first | (with_reducible refine AWo.cons ?_) | ((with_reducible refine Step.id ?_); first | ((with_reducible apply Step.move); exact rfl; exact rfl) | ((with_reducible apply Step.assign); exact rfl; exact rfl) | ((with_reducible apply Step.load); exact rfl; (focus (decide +kernel)); exact rfl; (focus (first | exact hrd _ | exact hrd2 _ | exact fx0 _ | exact fx1 _))) | ((with_reducible apply Step.ix1z); exact rfl; (focus (exact Sl.mk (by omega))); exact rfl; (focus (decide +kernel)); exact rfl; (focus (omega))) | ((with_reducible apply Step.ix (s := 4)); exact rfl; (focus (assumption)); exact rfl; (focus (decide +kernel)); exact rfl; (focus (omega))) | ((with_reducible apply Step.field0); exact rfl; (focus (decide +kernel)); exact rfl) | ((with_reducible apply Step.field (k := 1)); exact rfl; (focus (decide +kernel)); exact rfl) | ((with_reducible apply Step.addE); exact rfl; exact rfl; (focus (assumption)); (focus (omega)); exact rfl) | ((with_reducible apply Step.add); exact rfl; exact rfl; (focus (omega)); exact rfl) | ((with_reducible apply Step.sub); exact rfl; exact rfl; (focus (omega)); exact rfl) | ((with_reducible apply Step.gtr); exact rfl; exact rfl; exact rfl) | ((with_reducible apply Step.geq); exact rfl; exact rfl; exact rfl) | ((with_reducible apply Step.eql); exact rfl; exact rfl; exact rfl) | ((with_reducible apply Step.len); exact rfl; (focus (exact Sl.mk (by omega))); (focus (decide +kernel)); exact rfl) | ((with_reducible apply Step.min); exact rfl; exact rfl; exact rfl) | ((with_reducible apply Step.store (k := 0)); exact rfl; exact rfl; exact rfl; exact rfl; (focus (decide +kernel)); exact rfl; exact rfl; (focus (first | omega | (simp [iv, bv]; done) | (simp [iv, bv]; omega))); (focus (first | (simp only [List.nil_append, List.cons_append, List.set_cons_zero, List.set_cons_succ, iv_set, bv_set, iv_rep, bv_rep]; done) | (simp only [List.nil_append, List.cons_append, List.set_cons_zero, List.set_cons_succ, iv_set, bv_set, iv_rep, bv_rep]; rfl) | rfl)))) | (with_reducible refine AWo.nil ?_) | ((with_reducible apply AW.seq)) | ((with_reducible apply Then.n)) | ((with_reducible apply AW.regL)) | ((with_reducible apply AW.block)) | ((with_reducible apply AW.drawL fit); (focus (decide +kernel))) | ((with_reducible apply InBlk.n)) | ((with_reducible apply AW.skip)) | ((with_reducible apply AW.condT); exact rfl; (focus (rfl))) | ((with_reducible apply AW.condF); exact rfl; (focus ((simp only [decide_eq_true_eq, decide_eq_false_iff_not, Bool.not_eq_true', Bool.not_eq_false', Bool.not_true, Bool.not_false]; first | assumption | omega))))))
            exact ⟨_, [(0, v), (4, .slice (some ⟨m.length + 0, 0, none⟩) (q) (q)), (6, .int .i64 (x : Nat)), (7, .int .i64 ((c : Int) - 1)), (14, .slice (some ⟨m.length + 1, 0, none⟩) j.length j.length), (15, .int .i64 (j.length : Nat)), (16, .int .i64 (k : Nat))], [some { cells := iv (F.set (c + 1) (min g1' (g0' + p))), kind := .grow, size := 1 }, some { cells := iv (eddL j) }], by omega, (Or.inl ⟨rfl, (by repeat (first | exact trivial | (refine And.intro rfl ?_)))⟩), c, (c : Int) - 1, _, q, rfl, by omega, rfl, .inr (by rw [hG, yes']), by rw [hG]; omega, rfl, rfl⟩
        · have hce : c = on.length := by omega
          rw [if_pos (by omega)] at hlen
          have mo := more hce hf
          have hol : (iv F).length = q := by rw [iv_len]; omega
          have hol2 : (iv F).length = q * 1 := by rw [iv_len]; omega
          have hgb : some (some ({ cells := iv F, kind := .grow, size := 1 } : Blk)) = some (gb (iv F) 1) := by rw [gb_pos (by rw [iv_len]; omega)]
          clear yes more no m2 hget hget2 mono
          generalize gN (tms j on) c = g0' at *
          have ea : iv F ++ [Value.int .i64 (g0' + p)] = iv G := by rw [← mo]; simp [iv]
          have hGl : G.length = q + 1 := by rw [← mo]; simp; omega
          have hGg : G.getD (c + 1) 0 = g0' + p := by rw [← mo, getD_r (j := 0) (by omega)]; rfl
          have hrG : ∀ (b1 b2 b3 : Option Blk) (L : AM), Rd (m ++ (b1 :: b2 :: b3 :: some { cells := iv G, kind := .grow, size := 1 } :: L)) (m.length + 3) (c + 1) (.int .i64 (g0' + p)) := fun b1 b2 b3 L => by rw [← hGg]; exact Rd.new rfl (iv_get (by omega))
          have hGs : G.set (c + 1) (min (g0' + p) (g0' + p)) = G := by
            rw [show min (g0' + p) (g0' + p) = g0' + p by omega]
            refine ext_getDI (by simp) fun i hi => ?_
            rw [getDs _ _ _ _ (by omega)]
            split
            · rename_i e; subst e; exact hGg.symm
            · rfl
          rcases hB with rfl | rfl
          · (repeat (first | (with_reducible refine AWo.cons ?_) | ((with_reducible refine Step.id ?_); first | ((with_reducible apply Step.move); exact rfl; exact rfl) | ((with_reducible apply Step.assign); exact rfl; exact rfl) | ((with_reducible apply Step.load); exact rfl; (focus (decide +kernel)); exact rfl; (focus (first | exact hrd _ | exact fx0 _ | exact fx1 _))) | ((with_reducible apply Step.ix1z); exact rfl; (focus (exact Sl.mk (by omega))); exact rfl; (focus (decide +kernel)); exact rfl; (focus (omega))) | ((with_reducible apply Step.ix (s := 4)); exact rfl; (focus (assumption)); exact rfl; (focus (decide +kernel)); exact rfl; (focus (omega))) | ((with_reducible apply Step.field0); exact rfl; (focus (decide +kernel)); exact rfl) | ((with_reducible apply Step.field (k := 1)); exact rfl; (focus (decide +kernel)); exact rfl) | ((with_reducible apply Step.addE); exact rfl; exact rfl; (focus (assumption)); (focus (omega)); exact rfl) | ((with_reducible apply Step.add); exact rfl; exact rfl; (focus (omega)); exact rfl) | ((with_reducible apply Step.gtr); exact rfl; exact rfl; exact rfl) | ((with_reducible apply Step.geq); exact rfl; exact rfl; exact rfl) | ((with_reducible apply Step.eql); exact rfl; exact rfl; exact rfl) | ((with_reducible apply Step.len); exact rfl; (focus (exact Sl.mk (by omega))); (focus (decide +kernel)); exact rfl) | ((with_reducible apply Step.buildS 2); exact rfl; exact rfl; exact (fun _ _ => bs23x); exact rfl; (focus (first | (simp only [List.nil_append, List.cons_append, List.set_cons_zero, List.set_cons_succ, iv_set, bv_set, iv_rep, bv_rep]; done) | (simp only [List.nil_append, List.cons_append, List.set_cons_zero, List.set_cons_succ, iv_set, bv_set, iv_rep, bv_rep]; rfl) | rfl)))) | (with_reducible refine AWo.nil ?_) | ((with_reducible apply AW.seq)) | ((with_reducible apply Then.n)) | ((with_reducible apply AW.regL)) | ((with_reducible apply AW.block)) | ((with_reducible apply AW.drawL fit); (focus (decide +kernel))) | ((with_reducible apply AW.skip)) | ((with_reducible apply AW.condT); exact rfl; (focus (first | rfl | (simp only [decide_eq_true_eq, decide_eq_false_iff_not, Bool.not_eq_true', Bool.not_eq_false', Bool.not_true, Bool.not_false]; first | assumption | omega)))) | ((with_reducible apply AW.condF); exact rfl; (focus ((simp only [decide_eq_true_eq, decide_eq_false_iff_not, Bool.not_eq_true', Bool.not_eq_false', Bool.not_true, Bool.not_false]; first | assumption | omega))))))
            ((with_reducible apply Step.appO (k := 3) (q := 0) (r := 2)); exact rfl; exact rfl; exact rfl; exact el23; exact un23; exact rfl; exact hol; exact rfl; exact rfl; (focus (omega)); exact rfl; (focus (first | (simp only [List.nil_append, List.cons_append, List.set_cons_zero, List.set_cons_succ, iv_set, bv_set, iv_rep, bv_rep]; done) | (simp only [List.nil_append, List.cons_append, List.set_cons_zero, List.set_cons_succ, iv_set, bv_set, iv_rep, bv_rep]; rfl) | rfl)))
            rw [ea]
            (repeat (first | (with_reducible refine AWo.cons ?_) | ((with_reducible refine Step.id ?_); first | ((with_reducible apply Step.move); exact rfl; exact rfl) | ((with_reducible apply Step.assign); exact rfl; exact rfl) | ((with_reducible apply Step.load); exact rfl; (focus (decide +kernel)); exact rfl; (focus (exact hrG _ _ _ _))) | ((with_reducible apply Step.ix1z); exact rfl; (focus (exact Sl.mk (by omega))); exact rfl; (focus (decide +kernel)); exact rfl; (focus (omega))) | ((with_reducible apply Step.addE); exact rfl; exact rfl; (focus (assumption)); (focus (omega)); exact rfl) | ((with_reducible apply Step.sub); exact rfl; exact rfl; (focus (omega)); exact rfl) | ((with_reducible apply Step.min); exact rfl; exact rfl; exact rfl) | ((with_reducible apply Step.store (k := 3)); exact rfl; exact rfl; exact rfl; exact rfl; (focus (decide +kernel)); exact rfl; exact rfl; (focus (first | omega | (simp [iv, bv]; done) | (simp [iv, bv]; omega))); (focus (first | (simp only [List.nil_append, List.cons_append, List.set_cons_zero, List.set_cons_succ, iv_set, bv_set, iv_rep, bv_rep]; done) | (simp only [List.nil_append, List.cons_append, List.set_cons_zero, List.set_cons_succ, iv_set, bv_set, iv_rep, bv_rep]; rfl) | rfl)))) | (with_reducible refine AWo.nil ?_) | ((with_reducible apply Then.n)) | ((with_reducible apply AW.regL)) | ((with_reducible apply InBlk.n))))
            exact ⟨_, [(0, v), (4, .slice (some ⟨m.length + 0, 0, none⟩) (q + 1) (q + 1)), (6, .int .i64 (x : Nat)), (7, .int .i64 ((c : Int) - 1)), (14, .slice (some ⟨m.length + 1, 0, none⟩) j.length j.length), (15, .int .i64 (j.length : Nat)), (16, .int .i64 (k : Nat))], [some { cells := iv (G.set (c + 1) (min (g0' + p) (g0' + p))), kind := .grow, size := 1 }, some { cells := iv (eddL j) }], by omega, (Or.inr (by refine Gc.perm [3,1] rfl (by decide) ?_ (CellsOk.ren ?_) ?_; (focus (intro p hp; rcases p with _ | _ | p <;> first | rfl | exact absurd hp (lenB (n := 2) rfl))); (focus (repeat (first | exact CellsOk.nil | refine CellsOk.cons (by exact g0_iv _) ?_))); (focus ((repeat (first | exact trivial | (refine And.intro ⟨_, rfl, ?_⟩ ?_; (focus (first | exact .int _ _ | (refine Ren.slice_sg ?_; (focus (first | (simp; done) | omega | (simp; omega)))) | (refine Ren.of_sl_sg (by assumption) ?_ ?_; (focus (first | (simp; done) | omega | (simp; omega))); (focus (simp; done)))))))); done)))), c, (c : Int) - 1, _, q + 1, rfl, by omega, rfl, .inr (by rw [hG, hGs]), by rw [hG]; omega, rfl, rfl⟩
          · (repeat (first | (with_reducible refine AWo.cons ?_) | ((with_reducible refine Step.id ?_); first | ((with_reducible apply Step.move); exact rfl; exact rfl) | ((with_reducible apply Step.assign); exact rfl; exact rfl) | ((with_reducible apply Step.load); exact rfl; (focus (decide +kernel)); exact rfl; (focus (first | exact hrd _ | exact fx0 _ | exact fx1 _))) | ((with_reducible apply Step.ix1z); exact rfl; (focus (exact Sl.mk (by omega))); exact rfl; (focus (decide +kernel)); exact rfl; (focus (omega))) | ((with_reducible apply Step.ix (s := 4)); exact rfl; (focus (assumption)); exact rfl; (focus (decide +kernel)); exact rfl; (focus (omega))) | ((with_reducible apply Step.field0); exact rfl; (focus (decide +kernel)); exact rfl) | ((with_reducible apply Step.field (k := 1)); exact rfl; (focus (decide +kernel)); exact rfl) | ((with_reducible apply Step.addE); exact rfl; exact rfl; (focus (assumption)); (focus (omega)); exact rfl) | ((with_reducible apply Step.add); exact rfl; exact rfl; (focus (omega)); exact rfl) | ((with_reducible apply Step.gtr); exact rfl; exact rfl; exact rfl) | ((with_reducible apply Step.geq); exact rfl; exact rfl; exact rfl) | ((with_reducible apply Step.eql); exact rfl; exact rfl; exact rfl) | ((with_reducible apply Step.len); exact rfl; (focus (exact Sl.mk (by omega))); (focus (decide +kernel)); exact rfl) | ((with_reducible apply Step.buildS 2); exact rfl; exact rfl; exact (fun _ _ => bs23x); exact rfl; (focus (first | (simp only [List.nil_append, List.cons_append, List.set_cons_zero, List.set_cons_succ, iv_set, bv_set, iv_rep, bv_rep]; done) | (simp only [List.nil_append, List.cons_append, List.set_cons_zero, List.set_cons_succ, iv_set, bv_set, iv_rep, bv_rep]; rfl) | rfl)))) | (with_reducible refine AWo.nil ?_) | ((with_reducible apply AW.seq)) | ((with_reducible apply Then.n)) | ((with_reducible apply AW.regL)) | ((with_reducible apply AW.block)) | ((with_reducible apply AW.drawL fit); (focus (decide +kernel))) | ((with_reducible apply AW.skip)) | ((with_reducible apply AW.condT); exact rfl; (focus (first | rfl | (simp only [decide_eq_true_eq, decide_eq_false_iff_not, Bool.not_eq_true', Bool.not_eq_false', Bool.not_true, Bool.not_false]; first | assumption | omega)))) | ((with_reducible apply AW.condF); exact rfl; (focus ((simp only [decide_eq_true_eq, decide_eq_false_iff_not, Bool.not_eq_true', Bool.not_eq_false', Bool.not_true, Bool.not_false]; first | assumption | omega))))))
            rw [← gv_pos (a := m.length + 0) (n := q) (by omega)]
            ((with_reducible apply Step.appG (k := 3) (q := 0) (r := 2) (c := iv F)); exact rfl; exact rfl; exact rfl; exact el23; exact un23; exact rfl; exact rfl; exact hgb; exact hol2; exact rfl; exact rfl; exact rfl; (focus (omega)); exact rfl; (focus (first | (simp only [List.nil_append, List.cons_append, List.set_cons_zero, List.set_cons_succ, iv_set, bv_set, iv_rep, bv_rep]; done) | (simp only [List.nil_append, List.cons_append, List.set_cons_zero, List.set_cons_succ, iv_set, bv_set, iv_rep, bv_rep]; rfl) | rfl)))
            rw [ea]
            (repeat (first | (with_reducible refine AWo.cons ?_) | ((with_reducible refine Step.id ?_); first | ((with_reducible apply Step.move); exact rfl; exact rfl) | ((with_reducible apply Step.assign); exact rfl; exact rfl) | ((with_reducible apply Step.load); exact rfl; (focus (decide +kernel)); exact rfl; (focus (exact hrG _ _ _ _))) | ((with_reducible apply Step.ix1z); exact rfl; (focus (exact Sl.mk (by omega))); exact rfl; (focus (decide +kernel)); exact rfl; (focus (omega))) | ((with_reducible apply Step.addE); exact rfl; exact rfl; (focus (assumption)); (focus (omega)); exact rfl) | ((with_reducible apply Step.sub); exact rfl; exact rfl; (focus (omega)); exact rfl) | ((with_reducible apply Step.min); exact rfl; exact rfl; exact rfl) | ((with_reducible apply Step.store (k := 3)); exact rfl; exact rfl; exact rfl; exact rfl; (focus (decide +kernel)); exact rfl; exact rfl; (focus (first | omega | (simp [iv, bv]; done) | (simp [iv, bv]; omega))); (focus (first | (simp only [List.nil_append, List.cons_append, List.set_cons_zero, List.set_cons_succ, iv_set, bv_set, iv_rep, bv_rep]; done) | (simp only [List.nil_append, List.cons_append, List.set_cons_zero, List.set_cons_succ, iv_set, bv_set, iv_rep, bv_rep]; rfl) | rfl)))) | (with_reducible refine AWo.nil ?_) | ((with_reducible apply Then.n)) | ((with_reducible apply AW.regL)) | ((with_reducible apply InBlk.n))))
            exact ⟨_, [(0, v), (4, .slice (some ⟨m.length + 0, 0, none⟩) (q + 1) (q + 1)), (6, .int .i64 (x : Nat)), (7, .int .i64 ((c : Int) - 1)), (14, .slice (some ⟨m.length + 1, 0, none⟩) j.length j.length), (15, .int .i64 (j.length : Nat)), (16, .int .i64 (k : Nat))], [some { cells := iv (G.set (c + 1) (min (g0' + p) (g0' + p))), kind := .grow, size := 1 }, some { cells := iv (eddL j) }], by omega, (Or.inr (by refine Gc.perm [3,1] rfl (by decide) ?_ (CellsOk.ren ?_) ?_; (focus (intro p hp; rcases p with _ | _ | p <;> first | rfl | exact absurd hp (lenB (n := 2) rfl))); (focus (repeat (first | exact CellsOk.nil | refine CellsOk.cons (by exact g0_iv _) ?_))); (focus ((repeat (first | exact trivial | (refine And.intro ⟨_, rfl, ?_⟩ ?_; (focus (first | exact .int _ _ | (refine Ren.slice_sg ?_; (focus (first | (simp; done) | omega | (simp; omega)))) | (refine Ren.of_sl_sg (by assumption) ?_ ?_; (focus (first | (simp; done) | omega | (simp; omega))); (focus (simp; done)))))))); done)))), c, (c : Int) - 1, _, q + 1, rfl, by omega, rfl, .inr (by rw [hG, hGs]), by rw [hG]; omega, rfl, rfl⟩
      · have no' := no hf
        have hlG : F.length = G.length := by rw [no']
        clear yes more no m2 hget hget2 mono
        generalize gN (tms j on) c = g0' at *
        (repeat (first | (with_reducible refine AWo.cons ?_) | ((with_reducible refine Step.id ?_); first | ((with_reducible apply Step.move); exact rfl; exact rfl) | ((with_reducible apply Step.assign); exact rfl; exact rfl) | ((with_reducible apply Step.load); exact rfl; (focus (decide +kernel)); exact rfl; (focus (first | exact hrd _ | exact fx0 _ | exact fx1 _))) | ((with_reducible apply Step.ix1z); exact rfl; (focus (exact Sl.mk (by omega))); exact rfl; (focus (decide +kernel)); exact rfl; (focus (omega))) | ((with_reducible apply Step.ix (s := 4)); exact rfl; (focus (assumption)); exact rfl; (focus (decide +kernel)); exact rfl; (focus (omega))) | ((with_reducible apply Step.field0); exact rfl; (focus (decide +kernel)); exact rfl) | ((with_reducible apply Step.field (k := 1)); exact rfl; (focus (decide +kernel)); exact rfl) | ((with_reducible apply Step.add); exact rfl; exact rfl; (focus (omega)); exact rfl) | ((with_reducible apply Step.sub); exact rfl; exact rfl; (focus (omega)); exact rfl) | ((with_reducible apply Step.gtr); exact rfl; exact rfl; exact rfl) | ((with_reducible apply Step.geq); exact rfl; exact rfl; exact rfl)) | (with_reducible refine AWo.nil ?_) | ((with_reducible apply AW.seq)) | ((with_reducible apply Then.n)) | ((with_reducible apply AW.regL)) | ((with_reducible apply AW.block)) | ((with_reducible apply AW.drawL fit); (focus (decide +kernel))) | ((with_reducible apply AW.exit)) | ((with_reducible apply InBlk.hit)) | ((with_reducible apply Then.e)) | ((with_reducible apply AW.skip)) | ((with_reducible apply AW.condT); exact rfl; (focus (first | rfl | (simp only [decide_eq_true_eq, decide_eq_false_iff_not, Bool.not_eq_true', Bool.not_eq_false', Bool.not_true, Bool.not_false]; first | assumption | omega))))))
        exact ⟨_, [(0, v), (4, .slice (some ⟨m.length + 0, 0, none⟩) (q) (q)), (6, .int .i64 (x : Nat)), (7, .int .i64 ((c : Int) - 1)), (14, .slice (some ⟨m.length + 1, 0, none⟩) j.length j.length), (15, .int .i64 (j.length : Nat)), (16, .int .i64 (k : Nat))], [some B, some { cells := iv (eddL j) }], by omega, (Or.inl ⟨rfl, (by repeat (first | exact trivial | (refine And.intro rfl ?_)))⟩), c, (c : Int) - 1, B, q, rfl, by omega, rfl, by rw [hG, ← no']; exact hB, by rw [hG]; omega, rfl, rfl⟩
  · obtain rfl : k = j.length := by omega
    (repeat (first | (with_reducible refine AWo.cons ?_) | ((with_reducible refine Step.id ?_); first | ((with_reducible apply Step.move); exact rfl; exact rfl) | ((with_reducible apply Step.assign); exact rfl; exact rfl) | ((with_reducible apply Step.sub); exact rfl; exact rfl; (focus (omega)); exact rfl) | ((with_reducible apply Step.lss); exact rfl; exact rfl; exact rfl) | ((with_reducible apply Step.len); exact rfl; (focus (exact Sl.mk (by omega))); (focus (decide +kernel)); exact rfl)) | (with_reducible refine AWo.nil ?_) | ((with_reducible apply AW.seq)) | ((with_reducible apply Then.n)) | ((with_reducible apply AW.regL)) | ((with_reducible apply AW.exit)) | ((with_reducible apply InBlk.hit)) | ((with_reducible apply Then.e)) | ((with_reducible apply AW.condF); exact rfl; (focus ((simp only [decide_eq_true_eq, decide_eq_false_iff_not, Bool.not_eq_true', Bool.not_eq_false', Bool.not_true, Bool.not_false]; first | assumption | omega))))))
    (refine AW.retD (l := [(2, _), (3, _)]) (by repeat (first | exact trivial | (refine And.intro ⟨rfl, by (exact .int _ _)⟩ ?_))) ?_; (repeat (first | refine Then.r ?_ | refine InBlk.r ?_)))
    exact ⟨_, rfl, by rw [hq, rl]; simp, rfl⟩
end Go.Proofs.Ytmomjannlnafcaa.Abs
