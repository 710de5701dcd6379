import Derived.Test.YtmomjannlnafcaaAbs1
namespace Go.Proofs.Ytmomjannlnafcaa.Abs
set_option linter.unusedSimpArgs false
set_option linter.unusedVariables false
open Go.RowKit
open Go.Proofs.Ytmomjannlnafcaa.Sim
section
variable {P : Program} {base n nt : Nat} {R R' : Pl} {m : AM} {w : World} {t t1 : Fm} {u : Array Value} {ops : Array Oper} {Q : Fm → AM → Prop}
/-- An operation yields quietly. -/
def Yl (P : Program) (ops : Array Oper) (o : Oper) (t : Fm) (m : AM) (v : Value) : Prop := match o.guard with
  | none => ∃ ev, Kn t o ev ∧ aquiet P o ev m = some v
  | some (j, b) => ∃ g, gval ops t j = some g ∧ if wantB g b then ∃ ev, Kn t o ev ∧ aquiet P o ev m = some v else v = undef
theorem Step.still {o : Oper} {K : Fm → AM → Prop} (h : Step P nt ops o t m K) (hs : stillB P o.op = true) : ∃ v, Yl P ops o t m v ∧ K (putO t o.dst v) m := by
  have h2 := h.2
  have un : ∀ ev, AOp P o ev m (fun v m' => K (putO t o.dst v) m') → ∃ v, aquiet P o ev m = some v ∧ K (putO t o.dst v) m := fun ev k => by
    rcases k with k | ⟨k, _⟩
    · exact k
    · rw [hs] at k; cases k
  unfold Yl
  cases hg : o.guard with
  | none =>
    simp only [hg] at h2 ⊢
    obtain ⟨ev, k1, k2⟩ := h2
    obtain ⟨v, q1, q2⟩ := un ev k2
    exact ⟨v, ⟨ev, k1, q1⟩, q2⟩
  | some jb =>
    obtain ⟨j, b⟩ := jb
    simp only [hg] at h2 ⊢
    obtain ⟨g, k1, k2⟩ := h2
    split at k2
    · rename_i hw
      obtain ⟨ev, r1, r2⟩ := k2
      obtain ⟨v, q1, q2⟩ := un ev r2
      exact ⟨v, ⟨g, k1, by rw [if_pos hw]; exact ⟨ev, r1, q1⟩⟩, q2⟩
    · rename_i hw
      exact ⟨undef, ⟨g, k1, by rw [if_neg hw]⟩, k2⟩
theorem Step.of_yl {o : Oper} {K : Fm → AM → Prop} {v : Value} (h : Yl P ops o t m v) (hd : ∀ d, o.dst = some d → d < nt) (hK : K (putO t o.dst v) m) : Step P nt ops o t m K := by
  refine ⟨hd, ?_⟩
  unfold Yl at h
  cases hg : o.guard with
  | none =>
    simp only [hg] at h ⊢
    obtain ⟨ev, k1, k2⟩ := h
    exact ⟨ev, k1, .inl ⟨v, k2, hK⟩⟩
  | some jb =>
    obtain ⟨j, b⟩ := jb
    simp only [hg] at h ⊢
    obtain ⟨g, k1, k2⟩ := h
    refine ⟨g, k1, ?_⟩
    split
    · rename_i hw
      rw [if_pos hw] at k2
      obtain ⟨ev, q1, q2⟩ := k2
      exact ⟨ev, q1, .inl ⟨v, q2, hK⟩⟩
    · rename_i hw
      rw [if_neg hw] at k2
      rw [← k2]; exact hK
theorem AOp.mono' {o : Oper} {ev : Operand → Value} {K K' : Value → AM → Prop} (h : AOp P o ev m K) (hk : ∀ v m', (stillB P o.op = true → m' = m) → K v m' → K' v m') : AOp P o ev m K' := by
  rcases h with ⟨v, h1, h2⟩ | ⟨h1, h2⟩
  · exact .inl ⟨v, h1, hk _ _ (fun _ => rfl) h2⟩
  · exact .inr ⟨h1, h2.mono fun v m' => hk v m' (fun e => by rw [h1] at e; cases e)⟩
theorem Step.mono' {o : Oper} {K K' : Fm → AM → Prop} (h : Step P nt ops o t m K) (hk : ∀ v m', (stillB P o.op = true → m' = m) → K (putO t o.dst v) m' → K' (putO t o.dst v) m') : Step P nt ops o t m K' := by
  refine ⟨h.1, ?_⟩
  have h2 := h.2
  split at h2
  · obtain ⟨ev, k1, k2⟩ := h2
    exact ⟨ev, k1, k2.mono' fun v m' => hk v m'⟩
  · obtain ⟨g, k1, k2⟩ := h2
    refine ⟨g, k1, ?_⟩
    split
    · rename_i hw
      rw [if_pos hw] at k2
      obtain ⟨ev, q1, q2⟩ := k2
      exact ⟨ev, q1, q2.mono' fun v m' => hk v m'⟩
    · rename_i hw
      rw [if_neg hw] at k2
      exact hk _ _ (fun _ => rfl) k2
theorem putO_other (t : Fm) {d : Option Tmp} (v : Value) {j : Nat} (h : d ≠ some j) : putO t d v j = t j := by
  cases d with
  | none => rfl
  | some d => exact put_ne _ _ (fun e => h (by rw [e]))
theorem putO_comm (t : Fm) {d e : Option Tmp} (v x : Value) (h : ∀ k, d = some k → e ≠ some k) : putO (putO t d v) e x = putO (putO t e x) d v := by
  cases d with
  | none => rfl
  | some d => cases e with
    | none => rfl
    | some e => exact put_comm _ _ _ (fun k => h d rfl (by rw [k]))
theorem evo_putO {o : Oper} {d : Option Tmp} (v : Value) (h : ∀ k, d = some k → k ∉ o.looksAt ops) {x : Operand} (hx : x ∈ o.op.operands) : evo (putO t d v) x = evo t x := by
  cases x with
  | tmp j =>
    refine putO_other t v (fun e => h j e ?_)
    unfold Oper.looksAt
    refine List.mem_append.2 (.inl (List.mem_filterMap.2 ⟨.tmp j, by simpa using hx, rfl⟩))
  | _ => rfl
theorem gval_putO {o : Oper} {d : Option Tmp} (v : Value) (h : ∀ k, d = some k → k ∉ o.looksAt ops) {j : Nat} {b : Bool} (hg : o.guard = some (j, b)) : gval ops (putO t d v) j = gval ops t j := by
  unfold gval
  cases hd : (ops[j]?).bind (·.dst) with
  | none => rfl
  | some e =>
    refine putO_other t v (fun q => h e q ?_)
    unfold Oper.looksAt
    refine List.mem_append.2 (.inr ?_)
    rw [hg]
    simp [hd]
theorem kn_putO {o : Oper} {d : Option Tmp} (v : Value) (h : ∀ k, d = some k → k ∉ o.looksAt ops) {ev : Operand → Value} : Kn (putO t d v) o ev ↔ Kn t o ev :=
  ⟨fun k x hx => (evo_putO v h hx).symm.trans (k x hx), fun k x hx => (evo_putO v h hx).trans (k x hx)⟩
theorem Step.comm {o : Oper} {d : Option Tmp} {v : Value} {K : Fm → AM → Prop} (h : Step P nt ops o (putO t d v) m K) (h1 : ∀ k, d = some k → k ∉ o.looksAt ops) (h2 : ∀ k, d = some k → o.dst ≠ some k) :
    Step P nt ops o t m (fun t' m' => K (putO t' d v) m') := by
  refine ⟨h.1, ?_⟩
  have k2 := h.2
  split at k2
  · obtain ⟨ev, q1, q2⟩ := k2
    exact ⟨ev, (kn_putO v h1).1 q1, q2.mono fun x m' k => by show K _ _; rw [← putO_comm t v x h2]; exact k⟩
  · rename_i j b hg
    obtain ⟨g, q1, q2⟩ := k2
    refine ⟨g, (gval_putO v h1 hg).symm.trans q1, ?_⟩
    split
    · rename_i hw
      rw [if_pos hw] at q2
      obtain ⟨ev, r1, r2⟩ := q2
      exact ⟨ev, (kn_putO v h1).1 r1, r2.mono fun x m' k => by show K _ _; rw [← putO_comm t v x h2]; exact k⟩
    · rename_i hw
      rw [if_neg hw] at q2
      show K _ _
      rw [← putO_comm t v undef h2]; exact q2
theorem aquiet_pure {o : Oper} (hp : pureB P o.op = true) (ev : Operand → Value) (m m' : AM) : aquiet P o ev m = aquiet P o ev m' := by
  unfold pureB at hp
  unfold aquiet
  split <;> first | rfl | (rename_i e; rw [e] at hp; simp at hp)
theorem Yl.later {o oj : Oper} {v x : Value} {m' : AM} (h : Yl P ops o t m v) (h1 : ∀ k, oj.dst = some k → k ∉ o.looksAt ops) (h2 : pureB P o.op = true ∨ m' = m) : Yl P ops o (putO t oj.dst x) m' v := by
  have hm : ∀ ev, aquiet P o ev m' = aquiet P o ev m := fun ev => by
    rcases h2 with h2 | h2
    · exact aquiet_pure h2 ev _ _
    · rw [h2]
  unfold Yl at h ⊢
  split at h
  · obtain ⟨ev, k1, k2⟩ := h
    exact ⟨ev, (kn_putO x h1).2 k1, (hm ev).trans k2⟩
  · rename_i j b hg
    obtain ⟨g, k1, k2⟩ := h
    refine ⟨g, (gval_putO x h1 hg).trans k1, ?_⟩
    split
    · rename_i hw
      rw [if_pos hw] at k2
      obtain ⟨ev, q1, q2⟩ := k2
      exact ⟨ev, (kn_putO x h1).2 q1, (hm ev).trans q2⟩
    · rename_i hw
      rw [if_neg hw] at k2
      exact k2
/-- WHAT YIELDS QUIETLY MAY BE TAKEN FIRST: C holds all that may come up before it. -/
theorem AWd.take {i : Nat} {oi : Oper} {v : Value} (hi : ops[i]? = some oi) (hd : ∀ d, oi.dst = some d → d < nt) (C l0 : Array Bool)
    (hC2 : ∀ (j : Nat) (oj : Oper), ops[j]? = some oj → C.getD j false = false → j ≠ i → ∃ e ∈ oj.after, Region.binds .any e = true ∧ C.getD e.on false = false)
    (hC3 : ∀ (j : Nat) (oj : Oper), ops[j]? = some oj → C.getD j false = true → l0.getD j false = false → j ≠ i → oi.apart ops oj = true ∧ (pureB P oi.op = true ∨ stillB P oj.op = true)) :
    ∀ (f : Nat) (listed : Array Bool) (t : Fm) (m : AM), (∀ j, listed.getD j false = true → C.getD j false = true) → (∀ j, l0.getD j false = true → listed.getD j false = true) → i ∈ Region.ready .any ops listed → Yl P ops oi t m v →
      AWd P nt ops Q f (listed.setIfInBounds i true) (putO t oi.dst v) m → AWd P nt ops Q (f + 1) listed t m := by
  intro f
  induction f with
  | zero =>
    intro listed t m hL hL0 hr hy H
    refine ⟨fun h => (by rw [h] at hr; cases hr), fun j hj oj hoj => ?_⟩
    by_cases hji : j = i
    · subst hji
      rw [hi] at hoj; injection hoj with hoj; subst hoj
      exact .of_yl hy hd H
    · have := ready_mono hj hji
      rw [H.1] at this
      cases this
  | succ f ih =>
    intro listed t m hL hL0 hr hy H
    refine ⟨fun h => (by rw [h] at hr; cases hr), fun j hj oj hoj => ?_⟩
    by_cases hji : j = i
    · subst hji
      rw [hi] at hoj; injection hoj with hoj; subst hoj
      exact .of_yl hy hd H
    · have h1 := H.2 j (ready_mono hj hji) oj hoj
      obtain ⟨hjun, oj', hoj', hall⟩ := mem_ready.1 hj
      rw [hoj] at hoj'; injection hoj' with hoj'; subst hoj'
      have hjun' : listed.getD j false = false := by
        rcases Nat.lt_or_ge j listed.size with h' | h'
        · simpa [h'] using hjun
        · simp [Array.getElem?_eq_none h']
      have hCj : C.getD j false = true := by
        cases hc : C.getD j false with
        | true => rfl
        | false =>
          obtain ⟨e, he, hb, hce⟩ := hC2 j oj hoj hc hji
          rw [hL _ (hall e he hb)] at hce; cases hce
      have hl0 : l0.getD j false = false := by
        cases hc : l0.getD j false with
        | false => rfl
        | true => rw [hL0 j hc] at hjun'; cases hjun'
      obtain ⟨hap, hor⟩ := hC3 j oj hoj hCj hl0 hji
      obtain ⟨a1, a2, a3⟩ := Oper.apart_spec hap
      have h2 := h1.comm a1 a2
      refine h2.mono' fun x m' hst hk => ?_
      refine ih (listed.setIfInBounds j true) _ m' (fun k hk => ?_) (fun k hk => getD_set_true (hL0 k hk)) (ready_mono hr (Ne.symm hji)) (hy.later a3 (hor.imp id hst)) ?_
      · by_cases e : j = k
        · rw [← e]; exact hCj
        · rw [getD_set_ne false e] at hk
          exact hL k hk
      · rw [Array.setIfInBounds_comm _ _ hji]
        exact hk
/-! ### the plan of a region -/
def closeC (ops : Array Oper) (i : Nat) : Nat → Array Bool → Array Bool
  | 0, C => C
  | n + 1, C => match (Region.ready .any ops C).filter (fun j => !Nat.beq j i) with
    | [] => C
    | rs => closeC ops i n (rs.foldl (fun C j => C.setIfInBounds j true) C)
def takeC (P : Program) (ops : Array Oper) (listed C : Array Bool) (i : Nat) (oi : Oper) : Bool :=
  (List.range ops.size).all fun j => match ops[j]? with
    | none => true
    | some oj => (!listed.getD j false || C.getD j false) && (Nat.beq j i || match C.getD j false with
      | true => listed.getD j false || (oi.apart ops oj && (pureB P oi.op || stillB P oj.op))
      | false => oj.after.any fun e => Region.binds .any e && !C.getD e.on false)
def takeB (P : Program) (ops : Array Oper) (listed : Array Bool) (i : Nat) : Bool :=
  match ops[i]? with
  | none => false
  | some oi => stillB P oi.op && takeC P ops listed (closeC ops i ops.size listed) i oi
def plan (P : Program) (ops : Array Oper) : Nat → Array Bool → Option (List Nat)
  | 0, listed => match Region.ready .any ops listed with
    | [] => some []
    | _ => none
  | f + 1, listed => match Region.ready .any ops listed with
    | [] => some []
    | rs => match rs.find? (takeB P ops listed) with
      | some i => (plan P ops f (listed.setIfInBounds i true)).map (i :: ·)
      | none => match rs with
        | [i] => (plan P ops f (listed.setIfInBounds i true)).map (i :: ·)
        | _ => none
theorem plan_ok : ∀ (f : Nat) (listed : Array Bool) (l : List Nat) (t : Fm) (m : AM), listed.size = ops.size → plan P ops f listed = some l → AWi P nt ops l t m Q → AWd P nt ops Q f listed t m
  | 0, listed, l, t, m, hsz, h, H => by
    unfold plan at h
    split at h
    · rename_i hr
      injection h with h; subst h
      exact ⟨hr, H⟩
    · cases h
  | f + 1, listed, l, t, m, hsz, h, H => by
    unfold plan at h
    split at h
    · rename_i hr
      injection h with h; subst h
      exact ⟨fun _ => H, fun i hi => by rw [hr] at hi; cases hi⟩
    · split at h
      · rename_i rs hne i hfind
        cases hp : plan P ops f (listed.setIfInBounds i true) with
        | none => rw [hp] at h; cases h
        | some l' =>
          rw [hp] at h
          simp only [Option.map_some, Option.some.injEq] at h
          subst h
          obtain ⟨o, ho, hs⟩ := H
          have hr := List.mem_of_find?_eq_some hfind
          have ht := List.find?_some hfind
          unfold takeB at ht
          rw [ho] at ht
          simp only [Bool.and_eq_true] at ht
          obtain ⟨t1, t2⟩ := ht
          obtain ⟨v, hy, hk⟩ := hs.still t1
          have hih := plan_ok f _ _ _ _ (by simpa using hsz) hp hk
          generalize closeC ops i ops.size listed = C at t2
          unfold takeC at t2
          rw [List.all_eq_true] at t2
          have each : ∀ (j : Nat) (oj : Oper), ops[j]? = some oj → _ := fun j oj hj => by
            have := t2 j (List.mem_range.2 (Array.getElem?_eq_some_iff.1 hj).1)
            rw [hj] at this
            exact this
          simp only [Bool.and_eq_true, Bool.or_eq_true] at each
          refine AWd.take ho hs.1 C listed (fun j oj hj hc hne => ?_) (fun j oj hj hc hl hne => ?_) f listed t m (fun j hj => ?_) (fun _ h => h) hr hy hih
          · have h1 := (each j oj hj).2
            rcases h1 with h1 | h1
            · exact absurd (Nat.eq_of_beq_eq_true h1) hne
            · rw [hc] at h1
              simp only at h1
              obtain ⟨e, he, hb⟩ := Array.any_eq_true'.1 h1
              simp only [Bool.and_eq_true, Bool.not_eq_true'] at hb
              exact ⟨e, he, hb.1, hb.2⟩
          · have h1 := (each j oj hj).2
            rcases h1 with h1 | h1
            · exact absurd (Nat.eq_of_beq_eq_true h1) hne
            · rw [hc] at h1
              simp only [hl, Bool.false_or, Bool.and_eq_true, Bool.or_eq_true] at h1
              exact h1
          · have hlt : j < ops.size := by
              rw [← hsz]
              rcases Nat.lt_or_ge j listed.size with h' | h'
              · exact h'
              · simp [Array.getElem?_eq_none h'] at hj
            have h1 := (each j ops[j] (Array.getElem?_eq_getElem hlt)).1
            rw [hj] at h1
            simpa using h1
      · split at h
        · rename_i _ _ i _
          have hrs : Region.ready .any ops listed = [i] := by assumption
          cases hp : plan P ops f (listed.setIfInBounds i true) with
          | none => rw [hp] at h; cases h
          | some l' =>
            rw [hp] at h
            simp only [Option.map_some, Option.some.injEq] at h
            subst h
            obtain ⟨o, ho, hs⟩ := H
            refine ⟨fun h0 => ?_, fun j hj oj hoj => ?_⟩
            · rw [hrs] at h0; cases h0
            · rw [hrs] at hj
              obtain rfl : j = i := by simpa using hj
              rw [ho] at hoj; injection hoj with hoj; subst hoj
              exact hs.mono fun v m' hk => plan_ok f _ _ _ _ (by simpa using hsz) hp hk
        · cases h
end
end Go.Proofs.Ytmomjannlnafcaa.Abs
