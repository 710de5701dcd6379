/- Proved: for every input StockLogs returns true, and the arguments read as before. Conditions: none. (The frame follows the kit's program proof-skeleton.mjs.) -/
import Derived.Test.YtabdnepfcohncaaRows
import Derived.Test.YtabdnepfcohncaaStockLogsK6
import Derived.WalkKit
import Derived.ProofKit
import Derived.OpenShut
import Derived.ShutString
import Derived.ChangeOld
import Derived.Below
namespace Go.Proofs.Ytabdnepfcohncaa.stockLogs
set_option linter.unusedSimpArgs false
open Go.ChangeShapes Go.WideShapes Go.ChangeAt Go.RowKit
open Go.Proofs.Ytabdnepfcohncaa.Abs Go.Proofs.Ytabdnepfcohncaa.Sim
set_option linter.unusedVariables false
theorem own : ownKnob Try.prog.godebug = none := by kernel_rfl
theorem laidOut : laidOutB Try.prog = true := by kernel_rfl
set_option maxRecDepth 100000 in
theorem lifted (os : Os) (started : os.Started) (H : Type) (enc : TypeId × Value → H) :
    ReturnsInHanded {} Try.checked os 14 .any (Rows.stockLogsSpec.pre6 enc Try.prog Try.f14 Rows.stockLogsRow.domain false) (Rows.stockLogsSpec.post enc Try.prog Try.f14 false true false false) := by
  refine returnsInHanded_of_change (C := Try.checked) own started (by kernel_rfl) Try.func14
    (ChangeSpec.witness6 (enc := enc) (C := Try.checked) false ⟨#[], #[.int .i64 0, .slice none 0 0], []⟩ 8 (by kernel_rfl) (by kernel_rfl) (by kernel_rfl) (by kernel_rfl)) ?_
  intro W base args ds gs before hval0 hW hcnd _
  have hval : ∀ (j : Nat) t v, Try.f14.params[j]? = some t → args[j]? = some v → Value.okWide Try.prog W .any base t v := hval0
  have hW' := hW
  obtain ⟨p, q, hA0, hV, rfl, hfz, hnd⟩ := hW
  have hA : DataW.TrodAll enc Try.prog W 0 (fun _ => true) true Try.f14.params.toList args.toList ds p := hA0
  rw [Try.params14] at hA hval
  obtain ⟨v0, vs0, d0, ds0, p0, q0, hargs, rfl, rfl, h0, r0⟩ := trodAll_cons hA
  obtain ⟨v1, vs1, d1, ds1, p1, q1, rfl, rfl, rfl, h1, r1⟩ := trodAll_cons r0
  obtain ⟨rfl, rfl, rfl⟩ := trodAll_nil r1
  obtain rfl : args = #[v0, v1] := by cases args; simp_all
  obtain ⟨rfl, rfl⟩ := trodVars_none hV
  obtain ⟨a0, rfl, rfl, rfl, w0⟩ := open_int Try.underlying3 (hval 0 3 v0 rfl rfl) h0
  obtain ⟨a1, len1, cap1, rfl⟩ := okWide_slice Try.underlying35 (hval 1 35 v1 rfl rfl)
  have k1 := h1
  have lt1 : ∀ x ∈ p1, x.block < W.heap.size := by obtain ⟨m, hm⟩ := k1; exact DataW.trod_lt m _ _ _ hm
  obtain ⟨F1, s1, m1, n1, e1, g1, x1⟩ := arg_acts9i (tS := 22) (tI := 5) Try.underlying35 Try.underlying43 (by kernel_rfl) (by kernel_rfl) (by kernel_rfl) (fun j f hj hf => by rcases j with _ | _ | _ | j <;> first | (simp at hf; subst hf; exact Try.underlying3) | omega) (fun f hf => by simp at hf; subst hf; rfl) Try.underlying22 Try.underlying5 (by kernel_rfl) (hval 1 35 _ rfl rfl) h1
  clear hA0 hval0
  obtain ⟨bs, hbs0⟩ : ∃ bs : List AR, bs = [(.int .i64 a0, []), (.slice a1 len1 cap1, actCs F1 s1 2 len1)] ++ (((List.range len1).map fun k => (s1 k, by8 (F1 k).l))) := ⟨_, rfl⟩
  have hB1 : ∀ k, k < len1 → bs[2 + k]? = some (s1 k, by8 (F1 k).l) := fun k hk => by
    rw [hbs0, List.getElem?_append_right (by simp; try omega)]
    simp [hk]
  have b0 : bs[0]? = some (.int .i64 a0, []) := by rw [hbs0]; rfl
  have b1 : bs[1]? = some (.slice a1 len1 cap1, actCs F1 s1 2 len1) := by rw [hbs0]; rfl
  have hwalk : Calls Try.prog 14 #[.int .i64 a0, .slice a1 len1 cap1] W fun e w' => e = .returned (.bool true) ∧ Below W.heap.size W w' := by
    have hc : ACall Try.prog 14 #[mkV2 0 (.int .i64 a0), mkV2 1 (.slice a1 len1 cap1)] (bs.map mkB2) (Ret (.bool true) (bs.map mkB2)) := by
      exact StockLogs_ok awake_ok (x1 bs 1 2 b1 hB1) (short_actsi m1 n1).1 (short_actsi m1 n1).2.1 (short_actsi m1 n1).2.2
    have hall : ∀ a ∈ bs, OkB W (plN bs) a := fun a ha => by
      rw [hbs0] at ha
      rcases List.mem_append.1 ha with ha | ha
      · simp only [List.mem_cons, List.not_mem_nil, or_false] at ha
        rcases ha with rfl | rfl
        all_goals first | exact .inl rfl | exact g1 bs 2 hB1
      · obtain ⟨k, _, rfl⟩ := List.mem_map.1 ha
        exact e1 _ k
    have hres := top_callN (P := Try.prog) (f := 14) bs 2 hall (by subst hbs0; exact hc)
    subst hbs0
    exact hres
  refine hwalk.mono fun e W' ⟨he, bel⟩ => ?_
  subst he
  exact ⟨_, rfl, _, _, _, [], _, [], hW', trodAll_mk1 (shut_bool Try.underlying4 _), (trodAll_cons_mk (shut_int Try.underlying3 w0) (trodAll_cons_mk (Below.trod laidOut (by kernel_rfl) (of_decide_eq_true (by kernel_rfl)) k1 bel lt1) trodAll_mk0)), rfl, bel.frame _, fun h => by cases h⟩
theorem over : Rows.stockLogsRow.holds Try.pinned (OpenSpec.ofChange Rows.stockLogsSpec) :=
  OpenClaim.holds_of_wide 14 Try.f14 rfl rfl rfl rfl rfl rfl rfl ⟨rfl, rfl, rfl, rfl, rfl⟩ rfl rfl rfl rfl rfl (by kernel_rfl) Try.func14 (by kernel_rfl)
    (of_decide_eq_true (by kernel_rfl)) (by unfold Func.isWrapper; first | (rw [if_pos (by decide +kernel)]; kernel_rfl) | (rw [if_neg (by decide +kernel)]; exact ⟨rfl, rfl⟩))
    (fun os started H enc _ => lifted os started H enc)
/-- The statement. -/
theorem proved : Rows.StockLogsSaid := over
#print axioms proved
end Go.Proofs.Ytabdnepfcohncaa.stockLogs
