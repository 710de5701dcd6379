/- Proved: for every input TopQueue returns true, and the arguments read as before; the tied card. Conditions: the listed package-level variables read as the program's text lays them. (The frame follows the kit's program proof-skeleton.mjs and the guide's worked card.) -/
import Derived.Test.YtedbjmgchfgabaaDoorRows
import Derived.Test.YtedbjmgchfgabaaDoorTie
import Derived.Test.YtedbjmgchfgabaaDoorCards
import Derived.Test.YtedbjmgchfgabaaDoorTopQueueK6
import Derived.WalkKit
import Derived.ProofKit
import Derived.OpenShut
import Derived.ShutString
import Derived.ChangeOld
import Derived.Below
import Derived.LaidMore
import Derived.Lay
import Derived.SevenTiedAt
import Derived.Stop.Joined
namespace Go.Proofs.YtedbjmgchfgabaaDoor.topQueue
set_option linter.unusedSimpArgs false
set_option linter.unusedVariables false
open Go.ChangeShapes Go.WideShapes Go.ChangeAt Go.RowKit
open Go.Proofs.YtedbjmgchfgabaaDoor.Abs Go.Proofs.YtedbjmgchfgabaaDoor.Sim
theorem own : ownKnob Tryd.prog.godebug = none := by kernel_rfl
theorem laidOut : laidOutB Tryd.prog = true := by kernel_rfl
set_option maxRecDepth 100000 in
theorem lifted (os : Os) (started : os.Started) (H : Type) (enc : TypeId × Value → H) :
    ReturnsInHanded {} Tryd.checked os 6 .any (fun w args => (Rows.topQueueSpec.pre enc Tryd.prog Tryd.f6 Rows.topQueueRow.domain false w args ∧ laidMetH Tryd.prog Rows.topQueueRow.laid w) ∧ sizedMet enc Tryd.prog Tryd.f6 (OpenSpec.ofChange Rows.topQueueSpec) false w args) (Rows.topQueueSpec.post enc Tryd.prog Tryd.f6 false true false false) := by
  refine returnsInHanded_of_change_and (C := Tryd.checked) (X := fun w _ => laidMetH Tryd.prog Rows.topQueueRow.laid w) (fun _ _ _ hh h => h.of_heap hh) own started (by kernel_rfl) Tryd.func6
    (ChangeSpec.witness_shaped (enc := enc) (C := Tryd.checked) (os := os) (X := fun w _ => laidMetH Tryd.prog Rows.topQueueRow.laid w) false (World.laidAll Tryd.prog os Rows.topQueueRow.laid) #[.slice none 0 0, .slice none 0 0, .slice none 0 0] 8 (World.laidAll_os _ _ _)
      (World.shaped_of_ZipB (by kernel_rfl) (by kernel_rfl)) (by kernel_rfl) (by kernel_rfl) (by kernel_rfl)
      (by rw [MakeChecks.laidMetH_plain _ _ _ (by kernel_rfl)]; exact laidMet_laidAll _ (by kernel_rfl) (by kernel_rfl))) ?_
  intro W base args ds gs before hval0 hW hcnd _ hL _
  have hval : ∀ (j : Nat) t v, Tryd.f6.params[j]? = some t → args[j]? = some v → Value.okWide Tryd.prog W .any base t v := hval0
  have hW' := hW
  obtain ⟨p, q, hA0, hV, rfl, hfz, hnd⟩ := hW
  have hA : DataW.TrodAll enc Tryd.prog W 0 (fun _ => true) true Tryd.f6.params.toList args.toList ds p := hA0
  rw [Tryd.params6] at hA hval
  obtain ⟨v0, vs0, d0, ds0, p0, q0, hargs, rfl, rfl, h0, r0⟩ := trodAll_cons hA
  obtain ⟨v1, vs1, d1, ds1, p1, q1, rfl, rfl, rfl, h1, r1⟩ := trodAll_cons r0
  obtain ⟨v2, vs2, d2, ds2, p2, q2, rfl, rfl, rfl, h2, r2⟩ := trodAll_cons r1
  obtain ⟨rfl, rfl, rfl⟩ := trodAll_nil r2
  obtain rfl : args = #[v0, v1, v2] := by cases args; simp_all
  obtain ⟨rfl, rfl⟩ := trodVars_none hV
  obtain ⟨a0, len0, cap0, rfl⟩ := okWide_slice Tryd.underlying65 (hval 0 65 v0 rfl rfl)
  have k0 := h0
  have lt0 : ∀ x ∈ p0, x.block < W.heap.size := by obtain ⟨m, hm⟩ := k0; exact DataW.trod_lt m _ _ _ hm
  obtain ⟨F0, s0, m0, e0, g0, x0⟩ := arg_boards Tryd.underlying65 Tryd.underlying22 (by kernel_rfl) Tryd.underlying9 (by kernel_rfl) (hval 0 65 _ rfl rfl) h0
  obtain ⟨a1, len1, cap1, rfl⟩ := okWide_slice Tryd.underlying23 (hval 1 23 v1 rfl rfl)
  have k1 := h1
  have lt1 : ∀ x ∈ p1, x.block < W.heap.size := by obtain ⟨m, hm⟩ := k1; exact DataW.trod_lt m _ _ _ hm
  obtain ⟨l1, n1, m1, gk1, xk1⟩ := arg_kinds Tryd.underlying23 Tryd.underlying32 (by kernel_rfl) (by kernel_rfl) rfl (by kernel_rfl) (hval 1 23 _ rfl rfl) h1
  obtain ⟨g1, x1⟩ := kinds2 n1 gk1 xk1
  obtain ⟨a2, len2, cap2, rfl⟩ := okWide_slice Tryd.underlying59 (hval 2 59 v2 rfl rfl)
  have k2 := h2
  have lt2 : ∀ x ∈ p2, x.block < W.heap.size := by obtain ⟨m, hm⟩ := k2; exact DataW.trod_lt m _ _ _ hm
  obtain ⟨l2, m2, g2, x2⟩ := arg_ints2 Tryd.underlying59 Tryd.underlying3 (by kernel_rfl) h2
  clear hA0 hval0 hL
  obtain ⟨bs, hbs0⟩ : ∃ bs : List AR, bs = [(.slice a0 len0 cap0, brC s0 3 len0), (.slice a1 len1 cap1, kv l1), (.slice a2 len2 cap2, iv l2)] ++ (List.range len0).map fun k => (s0 k, sv (F0 k)) := ⟨_, rfl⟩
  have hbs : ∀ k, k < len0 → bs[3 + k]? = some (s0 k, sv (F0 k)) := fun k hk => by
    rw [hbs0, List.getElem?_append_right (by simp)]
    simp [hk]
  have b0 : bs[0]? = some (.slice a0 len0 cap0, brC s0 3 len0) := by rw [hbs0]; rfl
  have b1 : bs[1]? = some (.slice a1 len1 cap1, kv l1) := by rw [hbs0]; rfl
  have b2 : bs[2]? = some (.slice a2 len2 cap2, iv l2) := by rw [hbs0]; rfl
  have hwalk : Calls Tryd.prog 6 #[.slice a0 len0 cap0, .slice a1 len1 cap1, .slice a2 len2 cap2] W fun e w' => e = .returned (.bool true) ∧ Below W.heap.size W w' := by
    have hc : ACall Tryd.prog 6 #[mkV2 0 (.slice a0 len0 cap0), mkV2 1 (.slice a1 len1 cap1), mkV2 2 (.slice a2 len2 cap2)] (bs.map mkB2) (Ret (.bool true) (bs.map mkB2)) := by
      unfold maxLen at m0 m1 m2; exact TopQueue_ok (x0 bs 0 3 b0 hbs) (x1 bs 1 b1) (x2 bs 2 b2) (by simp; omega) (by omega) (by omega)
    have hall : ∀ a ∈ bs, OkB W (plN bs) a := fun a ha => by
      rw [hbs0] at ha
      rcases List.mem_append.1 ha with ha | ha
      · simp only [List.mem_cons, List.not_mem_nil, or_false] at ha
        rcases ha with rfl | rfl | rfl
        all_goals first | exact .inl rfl | exact g0 bs 3 hbs | exact g1 _ | exact g2 _
      · obtain ⟨k, _, rfl⟩ := List.mem_map.1 ha
        exact e0 _ k
    have hres := top_callN (P := Tryd.prog) (f := 6) bs 3 hall (by subst hbs0; exact hc)
    subst hbs0
    exact hres
  refine hwalk.mono fun e W' ⟨he, bel⟩ => ?_
  subst he
  exact ⟨_, rfl, _, _, _, [], _, [], hW', trodAll_mk1 (shut_bool Tryd.underlying4 _), (trodAll_cons_mk (Below.trod laidOut (by kernel_rfl) (of_decide_eq_true (by kernel_rfl)) k0 bel lt0) (trodAll_cons_mk (Below.trod laidOut (by kernel_rfl) (of_decide_eq_true (by kernel_rfl)) k1 bel lt1) (trodAll_cons_mk (Below.trod laidOut (by kernel_rfl) (of_decide_eq_true (by kernel_rfl)) k2 bel lt2) trodAll_mk0))), rfl, bel.frame _, fun h => by cases h⟩
theorem over : Rows.topQueueRow.holds Tryd.pinned (OpenSpec.ofChange Rows.topQueueSpec) :=
  OpenClaim.holds_of_wide 6 Tryd.f6 rfl rfl rfl rfl rfl rfl rfl ⟨rfl, rfl, rfl, rfl, rfl⟩ rfl rfl rfl rfl rfl (by kernel_rfl) Tryd.func6 (by kernel_rfl)
    (of_decide_eq_true (by kernel_rfl)) (by unfold Func.isWrapper; first | (rw [if_pos (by decide +kernel)]; kernel_rfl) | (rw [if_neg (by decide +kernel)]; exact ⟨rfl, rfl⟩))
    (fun os started H enc _ => lifted os started H enc)
/-- The statement. -/
theorem proved : Rows.TopQueueCardSaid :=
  Claim7.holds_tied_plain_at .later [] [.data, .pinned] true (true, "5bd2936e75214ae4b8c724b16c05dddd1c11faef99045b6b87462b5851995460") false over (fun _ h => by cases h) (by kernel_rfl) (fun _ h => by cases h) topQueue_row_tie rfl ⟨rfl, rfl⟩ (by kernel_rfl) rfl
    (fun f fn hf hfn => by
      obtain rfl : f = 6 := Option.some.inj ((show Tryd.prog.funcNamed "trank/tranktop.TopQueue" = some 6 by kernel_rfl).symm.trans hf) |>.symm
      obtain rfl : fn = Tryd.f6 := (Option.some.inj (Tryd.func6.symm.trans hfn)).symm
      exact ⟨by kernel_rfl, fun j t ht => by
        rw [Tryd.params6] at ht
        have hm : t ∈ [65, 23, 59] := by simpa using Array.mem_of_getElem? ht
        have hall : ([65, 23, 59].all fun u => !Tryd.prog.wantsStandIn u) = true := by kernel_rfl
        exact (show Tryd.prog.wantsStandIn t = false by simpa using List.all_eq_true.1 hall t hm)⟩)
    (by kernel_rfl)
#print axioms proved
end Go.Proofs.YtedbjmgchfgabaaDoor.topQueue
