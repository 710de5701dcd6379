/- Proved: for every input StockBook returns true, and the arguments read as before. Conditions: none. (The frame follows the kit's program proof-skeleton.mjs.) -/
import Derived.Test.YtabdnepfcohncaaRows
import Derived.Test.YtabdnepfcohncaaStockBookK6
import Derived.Test.YtabdnepfcohncaaT5
import Derived.WalkKit
import Derived.ProofKit
import Derived.OpenShut
import Derived.ShutString
import Derived.ChangeOld
import Derived.Below
namespace Go.Proofs.Ytabdnepfcohncaa.stockBook
set_option linter.unusedSimpArgs false
open Go.ChangeShapes Go.WideShapes Go.ChangeAt Go.RowKit
open Go.Proofs.Ytabdnepfcohncaa.Abs Go.Proofs.Ytabdnepfcohncaa.Sim
set_option linter.unusedVariables false
theorem own : ownKnob Try.prog.godebug = none := by kernel_rfl
theorem laidOut : laidOutB Try.prog = true := by kernel_rfl
set_option maxRecDepth 100000 in
theorem lifted (os : Os) (started : os.Started) (H : Type) (enc : TypeId × Value → H) :
    ReturnsInHanded {} Try.checked os 11 .any (Rows.stockBookSpec.pre6 enc Try.prog Try.f11 Rows.stockBookRow.domain false) (Rows.stockBookSpec.post enc Try.prog Try.f11 false true false false) := by
  refine returnsInHanded_of_change (C := Try.checked) own started (by kernel_rfl) Try.func11
    (ChangeSpec.witness6 (enc := enc) (C := Try.checked) false ⟨#[], #[.slice none 0 0], []⟩ 8 (by kernel_rfl) (by kernel_rfl) (by kernel_rfl) (by kernel_rfl)) ?_
  intro W base args ds gs before hval0 hW hcnd _
  have hval : ∀ (j : Nat) t v, Try.f11.params[j]? = some t → args[j]? = some v → Value.okWide Try.prog W .any base t v := hval0
  have hW' := hW
  obtain ⟨p, q, hA0, hV, rfl, hfz, hnd⟩ := hW
  have hA : DataW.TrodAll enc Try.prog W 0 (fun _ => true) true Try.f11.params.toList args.toList ds p := hA0
  rw [Try.params11] at hA hval
  obtain ⟨v0, vs0, d0, ds0, p0, q0, hargs, rfl, rfl, h0, r0⟩ := trodAll_cons hA
  obtain ⟨rfl, rfl, rfl⟩ := trodAll_nil r0
  obtain rfl : args = #[v0] := by cases args; simp_all
  obtain ⟨rfl, rfl⟩ := trodVars_none hV
  obtain ⟨a0, len0, cap0, rfl⟩ := okWide_slice Try.underlying47 (hval 0 47 v0 rfl rfl)
  have k0 := h0
  have lt0 : ∀ x ∈ p0, x.block < W.heap.size := by obtain ⟨m, hm⟩ := k0; exact DataW.trod_lt m _ _ _ hm
  obtain ⟨F0, s0, m0, n0, e0, g0, x0⟩ := arg_deeds (tS := 48) (tI := 61) Try.underlying47 Try.underlying52 (by kernel_rfl) (by kernel_rfl) (by kernel_rfl) (fun j f hj hf => by rcases j with _ | _ | _ | _ | j <;> first | (simp at hf; subst hf; exact Try.underlying3) | omega) (fun f hf => by simp at hf; subst hf; rfl) Try.underlying48 Try.underlying61 (by kernel_rfl) (by kernel_rfl) (by kernel_rfl) (fun j f hj hf => by rcases j with _ | _ | _ | _ | j <;> first | (simp at hf; subst hf; exact Try.underlying3) | omega) (hval 0 47 _ rfl rfl) h0
  clear hA0 hval0
  obtain ⟨bs, hbs0⟩ : ∃ bs : List AR, bs = [(.slice a0 len0 cap0, deedCs F0 s0 1 len0)] ++ (((List.range len0).map fun k => (s0 k, tcs (F0 k).l))) := ⟨_, rfl⟩
  have hB0 : ∀ k, k < len0 → bs[1 + k]? = some (s0 k, tcs (F0 k).l) := fun k hk => by
    rw [hbs0, List.getElem?_append_right (by simp; try omega)]
    simp [hk]
  have b0 : bs[0]? = some (.slice a0 len0 cap0, deedCs F0 s0 1 len0) := by rw [hbs0]; rfl
  have hwalk : Calls Try.prog 11 #[.slice a0 len0 cap0] W fun e w' => e = .returned (.bool true) ∧ Below W.heap.size W w' := by
    have hc : ACall Try.prog 11 #[mkV2 0 (.slice a0 len0 cap0)] (bs.map mkB2) (Ret (.bool true) (bs.map mkB2)) := by
      exact StockBook_ok (fun M => (ACall.of_calls (by kernel_rfl) (by kernel_rfl) fun w => awake_any w).mono fun _ _ ⟨a, b⟩ => ⟨a.symm, b.symm⟩) (x0 bs 0 1 b0 hB0) (short_deeds m0 n0).n (short_deeds m0 n0).l
    have hall : ∀ a ∈ bs, OkB W (plN bs) a := fun a ha => by
      rw [hbs0] at ha
      rcases List.mem_append.1 ha with ha | ha
      · simp only [List.mem_cons, List.not_mem_nil, or_false] at ha
        rcases ha with rfl
        all_goals first | exact .inl rfl | exact g0 bs 1 hB0
      · obtain ⟨k, _, rfl⟩ := List.mem_map.1 ha
        exact e0 _ k
    have hres := top_callN (P := Try.prog) (f := 11) bs 1 hall (by subst hbs0; exact hc)
    subst hbs0
    exact hres
  refine hwalk.mono fun e W' ⟨he, bel⟩ => ?_
  subst he
  exact ⟨_, rfl, _, _, _, [], _, [], hW', trodAll_mk1 (shut_bool Try.underlying4 _), (trodAll_cons_mk (Below.trod laidOut (by kernel_rfl) (of_decide_eq_true (by kernel_rfl)) k0 bel lt0) trodAll_mk0), rfl, bel.frame _, fun h => by cases h⟩
theorem over : Rows.stockBookRow.holds Try.pinned (OpenSpec.ofChange Rows.stockBookSpec) :=
  OpenClaim.holds_of_wide 11 Try.f11 rfl rfl rfl rfl rfl rfl rfl ⟨rfl, rfl, rfl, rfl, rfl⟩ rfl rfl rfl rfl rfl (by kernel_rfl) Try.func11 (by kernel_rfl)
    (of_decide_eq_true (by kernel_rfl)) (by unfold Func.isWrapper; first | (rw [if_pos (by decide +kernel)]; kernel_rfl) | (rw [if_neg (by decide +kernel)]; exact ⟨rfl, rfl⟩))
    (fun os started H enc _ => lifted os started H enc)
/-- The statement. -/
theorem proved : Rows.StockBookSaid := over
#print axioms proved
end Go.Proofs.Ytabdnepfcohncaa.stockBook
