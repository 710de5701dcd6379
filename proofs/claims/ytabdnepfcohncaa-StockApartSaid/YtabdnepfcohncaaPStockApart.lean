/- Proved: for every input StockApart returns true, and the arguments read as before. Conditions: none. (The frame follows the kit's program proof-skeleton.mjs.) -/
import Derived.Test.YtabdnepfcohncaaRows
import Derived.Test.YtabdnepfcohncaaStockApartK3
import Derived.Test.YtabdnepfcohncaaT5
import Derived.WalkKit
import Derived.ProofKit
import Derived.OpenShut
import Derived.ShutString
import Derived.ChangeOld
import Derived.Below
namespace Go.Proofs.Ytabdnepfcohncaa.stockApart
set_option linter.unusedSimpArgs false
open Go.ChangeShapes Go.WideShapes Go.ChangeAt Go.RowKit
open Go.Proofs.Ytabdnepfcohncaa.Abs Go.Proofs.Ytabdnepfcohncaa.Sim
set_option linter.unusedVariables false
theorem own : ownKnob Try.prog.godebug = none := by kernel_rfl
theorem laidOut : laidOutB Try.prog = true := by kernel_rfl
set_option maxRecDepth 100000 in
theorem lifted (os : Os) (started : os.Started) (H : Type) (enc : TypeId × Value → H) :
    ReturnsInHanded {} Try.checked os 6 .any (Rows.stockApartSpec.pre6 enc Try.prog Try.f6 Rows.stockApartRow.domain false) (Rows.stockApartSpec.post enc Try.prog Try.f6 false true false false) := by
  refine returnsInHanded_of_change (C := Try.checked) own started (by kernel_rfl) Try.func6
    (ChangeSpec.witness6 (enc := enc) (C := Try.checked) false ⟨#[], #[.slice none 0 0, .slice none 0 0, .slice none 0 0, .int .i64 0, .int .i64 0], []⟩ 8 (by kernel_rfl) (by kernel_rfl) (by kernel_rfl) (by kernel_rfl)) ?_
  intro W base args ds gs before hval0 hW hcnd _
  have hval : ∀ (j : Nat) t v, Try.f6.params[j]? = some t → args[j]? = some v → Value.okWide Try.prog W .any base t v := hval0
  have hW' := hW
  obtain ⟨p, q, hA0, hV, rfl, hfz, hnd⟩ := hW
  have hA : DataW.TrodAll enc Try.prog W 0 (fun _ => true) true Try.f6.params.toList args.toList ds p := hA0
  rw [Try.params6] at hA hval
  obtain ⟨v0, vs0, d0, ds0, p0, q0, hargs, rfl, rfl, h0, r0⟩ := trodAll_cons hA
  obtain ⟨v1, vs1, d1, ds1, p1, q1, rfl, rfl, rfl, h1, r1⟩ := trodAll_cons r0
  obtain ⟨v2, vs2, d2, ds2, p2, q2, rfl, rfl, rfl, h2, r2⟩ := trodAll_cons r1
  obtain ⟨v3, vs3, d3, ds3, p3, q3, rfl, rfl, rfl, h3, r3⟩ := trodAll_cons r2
  obtain ⟨v4, vs4, d4, ds4, p4, q4, rfl, rfl, rfl, h4, r4⟩ := trodAll_cons r3
  obtain ⟨rfl, rfl, rfl⟩ := trodAll_nil r4
  obtain rfl : args = #[v0, v1, v2, v3, v4] := by cases args; simp_all
  obtain ⟨rfl, rfl⟩ := trodVars_none hV
  obtain ⟨a0, len0, cap0, rfl⟩ := okWide_slice Try.underlying47 (hval 0 47 v0 rfl rfl)
  have k0 := h0
  have lt0 : ∀ x ∈ p0, x.block < W.heap.size := by obtain ⟨m, hm⟩ := k0; exact DataW.trod_lt m _ _ _ hm
  obtain ⟨F0, s0, m0, n0, e0, g0, x0⟩ := arg_deeds (tS := 48) (tI := 61) Try.underlying47 Try.underlying52 (by kernel_rfl) (by kernel_rfl) (by kernel_rfl) (fun j f hj hf => by rcases j with _ | _ | _ | _ | j <;> first | (simp at hf; subst hf; exact Try.underlying3) | omega) (fun f hf => by simp at hf; subst hf; rfl) Try.underlying48 Try.underlying61 (by kernel_rfl) (by kernel_rfl) (by kernel_rfl) (fun j f hj hf => by rcases j with _ | _ | _ | _ | j <;> first | (simp at hf; subst hf; exact Try.underlying3) | omega) (hval 0 47 _ rfl rfl) h0
  obtain ⟨a1, len1, cap1, rfl⟩ := okWide_slice Try.underlying47 (hval 1 47 v1 rfl rfl)
  have k1 := h1
  have lt1 : ∀ x ∈ p1, x.block < W.heap.size := by obtain ⟨m, hm⟩ := k1; exact DataW.trod_lt m _ _ _ hm
  obtain ⟨F1, s1, m1, n1, e1, g1, x1⟩ := arg_deeds (tS := 48) (tI := 61) Try.underlying47 Try.underlying52 (by kernel_rfl) (by kernel_rfl) (by kernel_rfl) (fun j f hj hf => by rcases j with _ | _ | _ | _ | j <;> first | (simp at hf; subst hf; exact Try.underlying3) | omega) (fun f hf => by simp at hf; subst hf; rfl) Try.underlying48 Try.underlying61 (by kernel_rfl) (by kernel_rfl) (by kernel_rfl) (fun j f hj hf => by rcases j with _ | _ | _ | _ | j <;> first | (simp at hf; subst hf; exact Try.underlying3) | omega) (hval 1 47 _ rfl rfl) h1
  obtain ⟨a2, len2, cap2, rfl⟩ := okWide_slice Try.underlying48 (hval 2 48 v2 rfl rfl)
  have k2 := h2
  have lt2 : ∀ x ∈ p2, x.block < W.heap.size := by obtain ⟨m, hm⟩ := k2; exact DataW.trod_lt m _ _ _ hm
  obtain ⟨l2, m2, g2, x2⟩ := arg_trs Try.underlying48 Try.underlying61 (by kernel_rfl) (by kernel_rfl) (by kernel_rfl) (fun j f hj hf => by rcases j with _ | _ | _ | _ | j <;> first | (simp at hf; subst hf; exact Try.underlying3) | omega) h2
  obtain ⟨a3, rfl, rfl, rfl, w3⟩ := open_int Try.underlying3 (hval 3 3 v3 rfl rfl) h3
  obtain ⟨a4, rfl, rfl, rfl, w4⟩ := open_int Try.underlying3 (hval 4 3 v4 rfl rfl) h4
  clear hA0 hval0
  obtain ⟨bs, hbs0⟩ : ∃ bs : List AR, bs = [(.slice a0 len0 cap0, deedCs F0 s0 5 len0), (.slice a1 len1 cap1, deedCs F1 s1 (5 + len0) len1), (.slice a2 len2 cap2, tcs l2), (.int .i64 a3, []), (.int .i64 a4, [])] ++ (((List.range len0).map fun k => (s0 k, tcs (F0 k).l)) ++ (((List.range len1).map fun k => (s1 k, tcs (F1 k).l)))) := ⟨_, rfl⟩
  have hB0 : ∀ k, k < len0 → bs[5 + k]? = some (s0 k, tcs (F0 k).l) := fun k hk => by
    rw [hbs0, List.getElem?_append_right (by simp; try omega), List.getElem?_append_left (by simp; omega)]
    simp [hk]
  have hB1 : ∀ k, k < len1 → bs[(5 + len0) + k]? = some (s1 k, tcs (F1 k).l) := fun k hk => by
    rw [hbs0, List.getElem?_append_right (by simp; try omega), List.getElem?_append_right (by simp; try omega)]
    simp [hk, Nat.add_assoc, Nat.add_sub_cancel_left]
  have b0 : bs[0]? = some (.slice a0 len0 cap0, deedCs F0 s0 5 len0) := by rw [hbs0]; rfl
  have b1 : bs[1]? = some (.slice a1 len1 cap1, deedCs F1 s1 (5 + len0) len1) := by rw [hbs0]; rfl
  have b2 : bs[2]? = some (.slice a2 len2 cap2, tcs l2) := by rw [hbs0]; rfl
  have b3 : bs[3]? = some (.int .i64 a3, []) := by rw [hbs0]; rfl
  have b4 : bs[4]? = some (.int .i64 a4, []) := by rw [hbs0]; rfl
  have hwalk : Calls Try.prog 6 #[.slice a0 len0 cap0, .slice a1 len1 cap1, .slice a2 len2 cap2, .int .i64 a3, .int .i64 a4] W fun e w' => e = .returned (.bool true) ∧ Below W.heap.size W w' := by
    have hc : ACall Try.prog 6 #[mkV2 0 (.slice a0 len0 cap0), mkV2 1 (.slice a1 len1 cap1), mkV2 2 (.slice a2 len2 cap2), mkV2 3 (.int .i64 a3), mkV2 4 (.int .i64 a4)] (bs.map mkB2) (Ret (.bool true) (bs.map mkB2)) := by
      exact StockApart_ok (fun M => (ACall.of_calls (by kernel_rfl) (by kernel_rfl) fun w => awake_any w).mono fun _ _ ⟨a, b⟩ => ⟨a.symm, b.symm⟩) a3 a4 (x0 bs 0 5 b0 hB0) (x1 bs 1 (5 + len0) b1 hB1) (x2 bs 2 b2) (short_deeds m0 n0).n (short_deeds m0 n0).l (short_deeds m1 n1).n (short_deeds m1 n1).l (by unfold maxLen at m2; omega)
    have hall : ∀ a ∈ bs, OkB W (plN bs) a := fun a ha => by
      rw [hbs0] at ha
      rcases List.mem_append.1 ha with ha | ha
      · simp only [List.mem_cons, List.not_mem_nil, or_false] at ha
        rcases ha with rfl | rfl | rfl | rfl | rfl
        all_goals first | exact .inl rfl | exact g0 bs 5 hB0 | exact g1 bs (5 + len0) hB1 | exact g2 _
      · rcases List.mem_append.1 ha with ha | ha
        · obtain ⟨k, _, rfl⟩ := List.mem_map.1 ha
          exact e0 _ k
        · obtain ⟨k, _, rfl⟩ := List.mem_map.1 ha
          exact e1 _ k
    have hres := top_callN (P := Try.prog) (f := 6) bs 5 hall (by subst hbs0; exact hc)
    subst hbs0
    exact hres
  refine hwalk.mono fun e W' ⟨he, bel⟩ => ?_
  subst he
  exact ⟨_, rfl, _, _, _, [], _, [], hW', trodAll_mk1 (shut_bool Try.underlying4 _), (trodAll_cons_mk (Below.trod laidOut (by kernel_rfl) (of_decide_eq_true (by kernel_rfl)) k0 bel lt0) (trodAll_cons_mk (Below.trod laidOut (by kernel_rfl) (of_decide_eq_true (by kernel_rfl)) k1 bel lt1) (trodAll_cons_mk (Below.trod laidOut (by kernel_rfl) (of_decide_eq_true (by kernel_rfl)) k2 bel lt2) (trodAll_cons_mk (shut_int Try.underlying3 w3) (trodAll_cons_mk (shut_int Try.underlying3 w4) trodAll_mk0))))), rfl, bel.frame _, fun h => by cases h⟩
theorem over : Rows.stockApartRow.holds Try.pinned (OpenSpec.ofChange Rows.stockApartSpec) :=
  OpenClaim.holds_of_wide 6 Try.f6 rfl rfl rfl rfl rfl rfl rfl ⟨rfl, rfl, rfl, rfl, rfl⟩ rfl rfl rfl rfl rfl (by kernel_rfl) Try.func6 (by kernel_rfl)
    (of_decide_eq_true (by kernel_rfl)) (by unfold Func.isWrapper; first | (rw [if_pos (by decide +kernel)]; kernel_rfl) | (rw [if_neg (by decide +kernel)]; exact ⟨rfl, rfl⟩))
    (fun os started H enc _ => lifted os started H enc)
/-- The statement. -/
theorem proved : Rows.StockApartSaid := over
#print axioms proved
end Go.Proofs.Ytabdnepfcohncaa.stockApart
