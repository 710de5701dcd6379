/- Proved here: what the proof of TopQueue rests on, part 2 of 6. Conditions: those that each theorem names. -/
import Derived.Test.YtedbjmgchfgabaaDoorTopQueueK1
namespace Go.Proofs.YtedbjmgchfgabaaDoor.Abs
set_option linter.unusedSimpArgs false
set_option linter.unusedVariables false
open Go.RowKit
open Go.Proofs.YtedbjmgchfgabaaDoor.Sim
section
variable {P : Program} {base n nt : Nat} {R R' : Pl} {m : AM} {w : World} {t t1 : Fm} {u : Array Value} {ops : Array Oper} {Q : Fm → AM → Prop}
/-- An operation yields quietly. -/
def Yl (P : Program) (ops : Array Oper) (o : Oper) (t : Fm) (m : AM) (v : Value) : Prop := match o.guard with
  | none => ∃ ev, Kn t o ev ∧ aquiet P o ev m = some v
  | some (j, b) => ∃ g, gval ops t j = some g ∧ if wantB g b then ∃ ev, Kn t o ev ∧ aquiet P o ev m = some v else v = undef
theorem Step.still {o : Oper} {K : Fm → AM → Prop} (h : Step P nt ops o t m K) (hs : stillB P o.op = true) : ∃ v, Yl P ops o t m v ∧ K (putO t o.dst v) m := by
  have h2 := h.2
  have un : ∀ ev, AOp P o ev m (fun v m' => K (putO t o.dst v) m') → ∃ v, aquiet P o ev m = some v ∧ K (putO t o.dst v) m := fun ev k => by
    rcases k with k | ⟨k, _⟩
    · exact k
    · rw [hs] at k; cases k
  unfold Yl
  cases hg : o.guard with
  | none =>
    simp only [hg] at h2 ⊢
    obtain ⟨ev, k1, k2⟩ := h2
    obtain ⟨v, q1, q2⟩ := un ev k2
    exact ⟨v, ⟨ev, k1, q1⟩, q2⟩
  | some jb =>
    obtain ⟨j, b⟩ := jb
    simp only [hg] at h2 ⊢
    obtain ⟨g, k1, k2⟩ := h2
    split at k2
    · rename_i hw
      obtain ⟨ev, r1, r2⟩ := k2
      obtain ⟨v, q1, q2⟩ := un ev r2
      exact ⟨v, ⟨g, k1, by rw [if_pos hw]; exact ⟨ev, r1, q1⟩⟩, q2⟩
    · rename_i hw
      exact ⟨undef, ⟨g, k1, by rw [if_neg hw]⟩, k2⟩
theorem Step.of_yl {o : Oper} {K : Fm → AM → Prop} {v : Value} (h : Yl P ops o t m v) (hd : ∀ d, o.dst = some d → d < nt) (hK : K (putO t o.dst v) m) : Step P nt ops o t m K := by
  refine ⟨hd, ?_⟩
  unfold Yl at h
  cases hg : o.guard with
  | none =>
    simp only [hg] at h ⊢
    obtain ⟨ev, k1, k2⟩ := h
    exact ⟨ev, k1, .inl ⟨v, k2, hK⟩⟩
  | some jb =>
    obtain ⟨j, b⟩ := jb
    simp only [hg] at h ⊢
    obtain ⟨g, k1, k2⟩ := h
    refine ⟨g, k1, ?_⟩
    split
    · rename_i hw
      rw [if_pos hw] at k2
      obtain ⟨ev, q1, q2⟩ := k2
      exact ⟨ev, q1, .inl ⟨v, q2, hK⟩⟩
    · rename_i hw
      rw [if_neg hw] at k2
      rw [← k2]; exact hK
theorem AOp.mono' {o : Oper} {ev : Operand → Value} {K K' : Value → AM → Prop} (h : AOp P o ev m K) (hk : ∀ v m', (stillB P o.op = true → m' = m) → K v m' → K' v m') : AOp P o ev m K' := by
  rcases h with ⟨v, h1, h2⟩ | ⟨h1, h2⟩
  · exact .inl ⟨v, h1, hk _ _ (fun _ => rfl) h2⟩
  · exact .inr ⟨h1, h2.mono fun v m' => hk v m' (fun e => by rw [h1] at e; cases e)⟩
theorem Step.mono' {o : Oper} {K K' : Fm → AM → Prop} (h : Step P nt ops o t m K) (hk : ∀ v m', (stillB P o.op = true → m' = m) → K (putO t o.dst v) m' → K' (putO t o.dst v) m') : Step P nt ops o t m K' := by
  refine ⟨h.1, ?_⟩
  have h2 := h.2
  split at h2
  · obtain ⟨ev, k1, k2⟩ := h2
    exact ⟨ev, k1, k2.mono' fun v m' => hk v m'⟩
  · obtain ⟨g, k1, k2⟩ := h2
    refine ⟨g, k1, ?_⟩
    split
    · rename_i hw
      rw [if_pos hw] at k2
      obtain ⟨ev, q1, q2⟩ := k2
      exact ⟨ev, q1, q2.mono' fun v m' => hk v m'⟩
    · rename_i hw
      rw [if_neg hw] at k2
      exact hk _ _ (fun _ => rfl) k2
theorem putO_other (t : Fm) {d : Option Tmp} (v : Value) {j : Nat} (h : d ≠ some j) : putO t d v j = t j := by
  cases d with
  | none => rfl
  | some d => exact put_ne _ _ (fun e => h (by rw [e]))
theorem putO_comm (t : Fm) {d e : Option Tmp} (v x : Value) (h : ∀ k, d = some k → e ≠ some k) : putO (putO t d v) e x = putO (putO t e x) d v := by
  cases d with
  | none => rfl
  | some d => cases e with
    | none => rfl
    | some e => exact put_comm _ _ _ (fun k => h d rfl (by rw [k]))
theorem evo_putO {o : Oper} {d : Option Tmp} (v : Value) (h : ∀ k, d = some k → k ∉ o.looksAt ops) {x : Operand} (hx : x ∈ o.op.operands) : evo (putO t d v) x = evo t x := by
  cases x with
  | tmp j =>
    refine putO_other t v (fun e => h j e ?_)
    unfold Oper.looksAt
    refine List.mem_append.2 (.inl (List.mem_filterMap.2 ⟨.tmp j, by simpa using hx, rfl⟩))
  | _ => rfl
theorem gval_putO {o : Oper} {d : Option Tmp} (v : Value) (h : ∀ k, d = some k → k ∉ o.looksAt ops) {j : Nat} {b : Bool} (hg : o.guard = some (j, b)) : gval ops (putO t d v) j = gval ops t j := by
  unfold gval
  cases hd : (ops[j]?).bind (·.dst) with
  | none => rfl
  | some e =>
    refine putO_other t v (fun q => h e q ?_)
    unfold Oper.looksAt
    refine List.mem_append.2 (.inr ?_)
    rw [hg]
    simp [hd]
theorem kn_putO {o : Oper} {d : Option Tmp} (v : Value) (h : ∀ k, d = some k → k ∉ o.looksAt ops) {ev : Operand → Value} : Kn (putO t d v) o ev ↔ Kn t o ev :=
  ⟨fun k x hx => (evo_putO v h hx).symm.trans (k x hx), fun k x hx => (evo_putO v h hx).trans (k x hx)⟩
theorem Step.comm {o : Oper} {d : Option Tmp} {v : Value} {K : Fm → AM → Prop} (h : Step P nt ops o (putO t d v) m K) (h1 : ∀ k, d = some k → k ∉ o.looksAt ops) (h2 : ∀ k, d = some k → o.dst ≠ some k) :
    Step P nt ops o t m (fun t' m' => K (putO t' d v) m') := by
  refine ⟨h.1, ?_⟩
  have k2 := h.2
  split at k2
  · obtain ⟨ev, q1, q2⟩ := k2
    exact ⟨ev, (kn_putO v h1).1 q1, q2.mono fun x m' k => by show K _ _; rw [← putO_comm t v x h2]; exact k⟩
  · rename_i j b hg
    obtain ⟨g, q1, q2⟩ := k2
    refine ⟨g, (gval_putO v h1 hg).symm.trans q1, ?_⟩
    split
    · rename_i hw
      rw [if_pos hw] at q2
      obtain ⟨ev, r1, r2⟩ := q2
      exact ⟨ev, (kn_putO v h1).1 r1, r2.mono fun x m' k => by show K _ _; rw [← putO_comm t v x h2]; exact k⟩
    · rename_i hw
      rw [if_neg hw] at q2
      show K _ _
      rw [← putO_comm t v undef h2]; exact q2
theorem aquiet_pure {o : Oper} (hp : pureB P o.op = true) (ev : Operand → Value) (m m' : AM) : aquiet P o ev m = aquiet P o ev m' := by
  unfold pureB at hp
  unfold aquiet
  split <;> first | rfl | (rename_i e; rw [e] at hp; simp at hp)
theorem Yl.later {o oj : Oper} {v x : Value} {m' : AM} (h : Yl P ops o t m v) (h1 : ∀ k, oj.dst = some k → k ∉ o.looksAt ops) (h2 : pureB P o.op = true ∨ m' = m) : Yl P ops o (putO t oj.dst x) m' v := by
  have hm : ∀ ev, aquiet P o ev m' = aquiet P o ev m := fun ev => by
    rcases h2 with h2 | h2
    · exact aquiet_pure h2 ev _ _
    · rw [h2]
  unfold Yl at h ⊢
  split at h
  · obtain ⟨ev, k1, k2⟩ := h
    exact ⟨ev, (kn_putO x h1).2 k1, (hm ev).trans k2⟩
  · rename_i j b hg
    obtain ⟨g, k1, k2⟩ := h
    refine ⟨g, (gval_putO x h1 hg).trans k1, ?_⟩
    split
    · rename_i hw
      rw [if_pos hw] at k2
      obtain ⟨ev, q1, q2⟩ := k2
      exact ⟨ev, (kn_putO x h1).2 q1, (hm ev).trans q2⟩
    · rename_i hw
      rw [if_neg hw] at k2
      exact k2
/-- WHAT YIELDS QUIETLY MAY BE TAKEN FIRST: C holds all that may come up before it. -/
theorem AWd.take {i : Nat} {oi : Oper} {v : Value} (hi : ops[i]? = some oi) (hd : ∀ d, oi.dst = some d → d < nt) (C l0 : Array Bool)
    (hC2 : ∀ (j : Nat) (oj : Oper), ops[j]? = some oj → C.getD j false = false → j ≠ i → ∃ e ∈ oj.after, Region.binds .any e = true ∧ C.getD e.on false = false)
    (hC3 : ∀ (j : Nat) (oj : Oper), ops[j]? = some oj → C.getD j false = true → l0.getD j false = false → j ≠ i → oi.apart ops oj = true ∧ (pureB P oi.op = true ∨ stillB P oj.op = true)) :
    ∀ (f : Nat) (listed : Array Bool) (t : Fm) (m : AM), (∀ j, listed.getD j false = true → C.getD j false = true) → (∀ j, l0.getD j false = true → listed.getD j false = true) → i ∈ Region.ready .any ops listed → Yl P ops oi t m v →
      AWd P nt ops Q f (listed.setIfInBounds i true) (putO t oi.dst v) m → AWd P nt ops Q (f + 1) listed t m := by
  intro f
  induction f with
  | zero =>
    intro listed t m hL hL0 hr hy H
    refine ⟨fun h => (by rw [h] at hr; cases hr), fun j hj oj hoj => ?_⟩
    by_cases hji : j = i
    · subst hji
      rw [hi] at hoj; injection hoj with hoj; subst hoj
      exact .of_yl hy hd H
    · have := ready_mono hj hji
      rw [H.1] at this
      cases this
  | succ f ih =>
    intro listed t m hL hL0 hr hy H
    refine ⟨fun h => (by rw [h] at hr; cases hr), fun j hj oj hoj => ?_⟩
    by_cases hji : j = i
    · subst hji
      rw [hi] at hoj; injection hoj with hoj; subst hoj
      exact .of_yl hy hd H
    · have h1 := H.2 j (ready_mono hj hji) oj hoj
      obtain ⟨hjun, oj', hoj', hall⟩ := mem_ready.1 hj
      rw [hoj] at hoj'; injection hoj' with hoj'; subst hoj'
      have hjun' : listed.getD j false = false := by
        rcases Nat.lt_or_ge j listed.size with h' | h'
        · simpa [h'] using hjun
        · simp [Array.getElem?_eq_none h']
      have hCj : C.getD j false = true := by
        cases hc : C.getD j false with
        | true => rfl
        | false =>
          obtain ⟨e, he, hb, hce⟩ := hC2 j oj hoj hc hji
          rw [hL _ (hall e he hb)] at hce; cases hce
      have hl0 : l0.getD j false = false := by
        cases hc : l0.getD j false with
        | false => rfl
        | true => rw [hL0 j hc] at hjun'; cases hjun'
      obtain ⟨hap, hor⟩ := hC3 j oj hoj hCj hl0 hji
      obtain ⟨a1, a2, a3⟩ := Oper.apart_spec hap
      have h2 := h1.comm a1 a2
      refine h2.mono' fun x m' hst hk => ?_
      refine ih (listed.setIfInBounds j true) _ m' (fun k hk => ?_) (fun k hk => getD_set_true (hL0 k hk)) (ready_mono hr (Ne.symm hji)) (hy.later a3 (hor.imp id hst)) ?_
      · by_cases e : j = k
        · rw [← e]; exact hCj
        · rw [getD_set_ne false e] at hk
          exact hL k hk
      · rw [Array.setIfInBounds_comm _ _ hji]
        exact hk
def closeC (ops : Array Oper) (i : Nat) : Nat → Array Bool → Array Bool
  | 0, C => C
  | n + 1, C => match (Region.ready .any ops C).filter (fun j => !Nat.beq j i) with
    | [] => C
    | rs => closeC ops i n (rs.foldl (fun C j => C.setIfInBounds j true) C)
def takeC (P : Program) (ops : Array Oper) (listed C : Array Bool) (i : Nat) (oi : Oper) : Bool :=
  (List.range ops.size).all fun j => match ops[j]? with
    | none => true
    | some oj => (!listed.getD j false || C.getD j false) && (Nat.beq j i || match C.getD j false with
      | true => listed.getD j false || (oi.apart ops oj && (pureB P oi.op || stillB P oj.op))
      | false => oj.after.any fun e => Region.binds .any e && !C.getD e.on false)
def takeB (P : Program) (ops : Array Oper) (listed : Array Bool) (i : Nat) : Bool :=
  match ops[i]? with
  | none => false
  | some oi => stillB P oi.op && takeC P ops listed (closeC ops i ops.size listed) i oi
def plan (P : Program) (ops : Array Oper) : Nat → Array Bool → Option (List Nat)
  | 0, listed => match Region.ready .any ops listed with
    | [] => some []
    | _ => none
  | f + 1, listed => match Region.ready .any ops listed with
    | [] => some []
    | rs => match rs.find? (takeB P ops listed) with
      | some i => (plan P ops f (listed.setIfInBounds i true)).map (i :: ·)
      | none => match rs with
        | [i] => (plan P ops f (listed.setIfInBounds i true)).map (i :: ·)
        | _ => none
theorem plan_ok : ∀ (f : Nat) (listed : Array Bool) (l : List Nat) (t : Fm) (m : AM), listed.size = ops.size → plan P ops f listed = some l → AWi P nt ops l t m Q → AWd P nt ops Q f listed t m
  | 0, listed, l, t, m, hsz, h, H => by
    unfold plan at h
    split at h
    · rename_i hr
      injection h with h; subst h
      exact ⟨hr, H⟩
    · cases h
  | f + 1, listed, l, t, m, hsz, h, H => by
    unfold plan at h
    split at h
    · rename_i hr
      injection h with h; subst h
      exact ⟨fun _ => H, fun i hi => by rw [hr] at hi; cases hi⟩
    · split at h
      · rename_i rs hne i hfind
        cases hp : plan P ops f (listed.setIfInBounds i true) with
        | none => rw [hp] at h; cases h
        | some l' =>
          rw [hp] at h
          simp only [Option.map_some, Option.some.injEq] at h
          subst h
          obtain ⟨o, ho, hs⟩ := H
          have hr := List.mem_of_find?_eq_some hfind
          have ht := List.find?_some hfind
          unfold takeB at ht
          rw [ho] at ht
          simp only [Bool.and_eq_true] at ht
          obtain ⟨t1, t2⟩ := ht
          obtain ⟨v, hy, hk⟩ := hs.still t1
          have hih := plan_ok f _ _ _ _ (by simpa using hsz) hp hk
          generalize closeC ops i ops.size listed = C at t2
          unfold takeC at t2
          rw [List.all_eq_true] at t2
          have each : ∀ (j : Nat) (oj : Oper), ops[j]? = some oj → _ := fun j oj hj => by
            have := t2 j (List.mem_range.2 (Array.getElem?_eq_some_iff.1 hj).1)
            rw [hj] at this
            exact this
          simp only [Bool.and_eq_true, Bool.or_eq_true] at each
          refine AWd.take ho hs.1 C listed (fun j oj hj hc hne => ?_) (fun j oj hj hc hl hne => ?_) f listed t m (fun j hj => ?_) (fun _ h => h) hr hy hih
          · have h1 := (each j oj hj).2
            rcases h1 with h1 | h1
            · exact absurd (Nat.eq_of_beq_eq_true h1) hne
            · rw [hc] at h1
              simp only at h1
              obtain ⟨e, he, hb⟩ := Array.any_eq_true'.1 h1
              simp only [Bool.and_eq_true, Bool.not_eq_true'] at hb
              exact ⟨e, he, hb.1, hb.2⟩
          · have h1 := (each j oj hj).2
            rcases h1 with h1 | h1
            · exact absurd (Nat.eq_of_beq_eq_true h1) hne
            · rw [hc] at h1
              simp only [hl, Bool.false_or, Bool.and_eq_true, Bool.or_eq_true] at h1
              exact h1
          · have hlt : j < ops.size := by
              rw [← hsz]
              rcases Nat.lt_or_ge j listed.size with h' | h'
              · exact h'
              · simp [Array.getElem?_eq_none h'] at hj
            have h1 := (each j ops[j] (Array.getElem?_eq_getElem hlt)).1
            rw [hj] at h1
            simpa using h1
      · split at h
        · rename_i _ _ i _
          have hrs : Region.ready .any ops listed = [i] := by assumption
          cases hp : plan P ops f (listed.setIfInBounds i true) with
          | none => rw [hp] at h; cases h
          | some l' =>
            rw [hp] at h
            simp only [Option.map_some, Option.some.injEq] at h
            subst h
            obtain ⟨o, ho, hs⟩ := H
            refine ⟨fun h0 => ?_, fun j hj oj hoj => ?_⟩
            · rw [hrs] at h0; cases h0
            · rw [hrs] at hj
              obtain rfl : j = i := by simpa using hj
              rw [ho] at hoj; injection hoj with hoj; subst hoj
              exact hs.mono fun v m' hk => plan_ok f _ _ _ _ (by simpa using hsz) hp hk
        · cases h
end
end Go.Proofs.YtedbjmgchfgabaaDoor.Abs
namespace Go.Proofs.YtedbjmgchfgabaaDoor.Abs
set_option linter.unusedSimpArgs false
set_option linter.unusedVariables false
open Go.RowKit
open Go.Proofs.YtedbjmgchfgabaaDoor.Sim
/-- The value v' is the value v with the blocks named anew: block i of v is block ρ i of v'. -/
inductive Ren (ρ : Nat → Nat) (n : Nat) : Value → Value → Prop
  | bool (b : Bool) : Ren ρ n (.bool b) (.bool b)
  | int (k : IntKind) (x : Int) : Ren ρ n (.int k x) (.int k x)
  | float (k : FloatKind) (x : Nat) : Ren ρ n (.float k x) (.float k x)
  | complex (k : FloatKind) (x y : Nat) : Ren ρ n (.complex k x y) (.complex k x y)
  | string (s : ByteArray) : Ren ρ n (.string s) (.string s)
  | ptrNil : Ren ρ n (.pointer none) (.pointer none)
  | ptr (i o : Nat) (h : i < n) : Ren ρ n (.pointer (some ⟨i, o, none⟩)) (.pointer (some ⟨ρ i, o, none⟩))
  | sliceNil : Ren ρ n (.slice none 0 0) (.slice none 0 0)
  | slice (i o l c : Nat) (h : i < n) : Ren ρ n (.slice (some ⟨i, o, none⟩) l c) (.slice (some ⟨ρ i, o, none⟩) l c)
  | sliceSpot (i o k : Nat) (h : i < n) : Ren ρ n (.slice (some ⟨i, o, some k⟩) 0 0) (.slice (some ⟨ρ i, o, some k⟩) 0 0)
  | mapNil : Ren ρ n (.map none) (.map none)
  | mapAt (i : Nat) (h : i < n) : Ren ρ n (.map (some i)) (.map (some (ρ i)))
  | nilFunc : Ren ρ n .nilFunc .nilFunc
  | nilIface : Ren ρ n .nilIface .nilIface
  | func (fn : Fn) (f c f' c' : Array Value) (h1 : f.size = f'.size) (h2 : ∀ i, i < f.size → Ren ρ n (f.getD i undef) (f'.getD i undef))
      (h3 : c.size = c'.size) (h4 : ∀ i, i < c.size → Ren ρ n (c.getD i undef) (c'.getD i undef)) : Ren ρ n (.func fn f c) (.func fn f' c')
  | agg (c c' : Array Value) (h1 : c.size = c'.size) (h2 : ∀ i, i < c.size → Ren ρ n (c.getD i undef) (c'.getD i undef)) : Ren ρ n (.agg c) (.agg c')
  | tuple (c c' : Array Value) (h1 : c.size = c'.size) (h2 : ∀ i, i < c.size → Ren ρ n (c.getD i undef) (c'.getD i undef)) : Ren ρ n (.tuple c) (.tuple c')
def renPl (ρ : Nat → Nat) (n : Nat) (R : Pl) : Pl := fun i => if i < n then R (ρ i) else none
theorem Ren.rel {ρ : Nat → Nat} {n : Nat} {R : Pl} {v v' : Value} (h : Ren ρ n v v') : ∀ x, Rel R v' x → Rel (renPl ρ n R) v x := by
  induction h with
  | bool b => intro x hx; cases hx; exact .bool b
  | int k q => intro x hx; cases hx; exact .int k q
  | float k q => intro x hx; cases hx; exact .float k q
  | complex k q r => intro x hx; cases hx; exact .complex k q r
  | string s => intro x hx; cases hx; exact .string s
  | ptrNil => intro x hx; cases hx; exact .ptrNil
  | ptr i o hi => intro x hx; cases hx with | ptr _ _ p hp => exact .ptr i o p (by simp [renPl, hi, hp])
  | sliceNil => intro x hx; cases hx; exact .sliceNil
  | slice i o l c hi => intro x hx; cases hx with | slice _ _ _ _ p hp hn => exact .slice i o l c p (by simp [renPl, hi, hp]) hn
  | sliceSpot i o k hi => intro x hx; cases hx with | sliceSpot _ _ _ p hp => exact .sliceSpot i o k p (by simp [renPl, hi, hp])
  | mapNil => intro x hx; cases hx; exact .mapNil
  | mapAt i hi => intro x hx; cases hx with | mapAt _ p hp => exact .mapAt i p (by simp [renPl, hi, hp])
  | nilFunc => intro x hx; cases hx; exact .nilFunc
  | nilIface => intro x hx; cases hx; exact .nilIface
  | func fn f c f' c' h1 _ h3 _ i1 i2 =>
    intro x hx
    cases hx with
    | func _ _ _ f2 c2 k1 k2 k3 k4 => exact .func fn f c f2 c2 (h1.trans k1) (fun i hi => i1 i hi _ (k2 i (by omega))) (h3.trans k3) (fun i hi => i2 i hi _ (k4 i (by omega)))
  | agg c c' h1 _ i1 =>
    intro x hx
    cases hx with
    | agg _ c2 k1 k2 => exact .agg c c2 (h1.trans k1) (fun i hi => i1 i hi _ (k2 i (by omega)))
  | tuple c c' h1 _ i1 =>
    intro x hx
    cases hx with
    | tuple _ c2 k1 k2 => exact .tuple c c2 (h1.trans k1) (fun i hi => i1 i hi _ (k2 i (by omega)))
/-- What lies in a memory names only its blocks. -/
theorem Ren.of_rel {ρ : Nat → Nat} {n N : Nat} {R : Pl} {v x : Value} (h : Rel R v x) (hR : ∀ i, N ≤ i → R i = none) (hN : N ≤ n) (hρ : ∀ i, i < N → ρ i = i) : Ren ρ n v v := by
  have lt : ∀ i p, R i = some p → i < N := fun i p hp => by
    rcases Nat.lt_or_ge i N with h | h
    · exact h
    · rw [hR i h] at hp; cases hp
  induction h with
  | bool b => exact .bool b
  | int k q => exact .int k q
  | float k q => exact .float k q
  | complex k q r => exact .complex k q r
  | string s => exact .string s
  | ptrNil => exact .ptrNil
  | ptr i o p hp =>
    have hi := lt i p hp
    have := Ren.ptr (ρ := ρ) (n := n) i o (by omega)
    rwa [hρ i hi] at this
  | sliceNil => exact .sliceNil
  | slice i o l c p hp _ =>
    have hi := lt i p hp
    have := Ren.slice (ρ := ρ) (n := n) i o l c (by omega)
    rwa [hρ i hi] at this
  | sliceSpot i o k p hp =>
    have hi := lt i p hp
    have := Ren.sliceSpot (ρ := ρ) (n := n) i o k (by omega)
    rwa [hρ i hi] at this
  | mapNil => exact .mapNil
  | mapAt i p hp =>
    have hi := lt i p hp
    have := Ren.mapAt (ρ := ρ) (n := n) i (by omega)
    rwa [hρ i hi] at this
  | nilFunc => exact .nilFunc
  | nilIface => exact .nilIface
  | func fn f c f' c' h1 _ h3 _ i1 i2 => exact .func fn f c f c rfl i1 rfl i2
  | agg c c' h1 _ i1 => exact .agg c c rfl i1
  | tuple c c' h1 _ i1 => exact .tuple c c rfl i1
/-- From (t, m) one may go on as from (t1, m1); the blocks of m0 keep their names. -/
def Gc (m0 : AM) (t : Fm) (m : AM) (t1 : Fm) (m1 : AM) : Prop :=
  ∃ ρ : Nat → Nat, m0.length ≤ m1.length ∧ (∀ j, j < m0.length → ρ j = j) ∧
    (∀ (i j : Nat) (b c : Blk), m1[i]? = some (some b) → m1[j]? = some (some c) → ρ i = ρ j → i = j) ∧
    (∀ (j : Nat) (b : Blk), m1[j]? = some (some b) → (j < m0.length ∧ m[j]? = some (some b) ∧ m0[j]? = some (some b)) ∨
      isMapK b.kind = false ∧ ∃ b', m[ρ j]? = some (some b') ∧ b.kind = b'.kind ∧ b.size = b'.size ∧ b.cells.length = b'.cells.length ∧ ∀ (k : Nat) (v : Value), b.cells[k]? = some v → ∃ v', b'.cells[k]? = some v' ∧ Ren ρ m1.length v v') ∧
    (∀ i v, t1 i = some v → ∃ v', t i = some v' ∧ Ren ρ m1.length v v')
section
variable {P : Program} {base n nt : Nat} {R R0 : Pl} {m m0 m1 : AM} {w w0 : World} {t t1 : Fm} {u : Array Value} {Q Q' : AEx → Fm → AM → Prop}
theorem Gc.ok (h : Gc m0 t m t1 m1) (h0 : MRep base R0 m0 w0) (hp : Post base m0 m R0 R w0 w) (ht : FR R nt t u) : ∃ R1, Post base m0 m1 R0 R1 w0 w ∧ FR R1 nt t1 u := by
  obtain ⟨ρ, hl, hid, hinj, hm, hf⟩ := h
  have lt0 : ∀ i p, R0 i = some p → i < m0.length := fun i p hp => by
    rcases Nat.lt_or_ge i m0.length with h | h
    · exact h
    · rw [h0.none_ i h] at hp; cases hp
  have hm' : ∀ (j : Nat) (b : Blk), m1[j]? = some (some b) → ∃ b', m[ρ j]? = some (some b') ∧ b.kind = b'.kind ∧ b.size = b'.size ∧ b.cells.length = b'.cells.length ∧ (∀ (k : Nat) (v : Value), b.cells[k]? = some v → ∃ v', b'.cells[k]? = some v' ∧ Ren ρ m1.length v v') ∧
      (isMapK b.kind = true → b.ents.length = b'.ents.length ∧ ∀ (k : Nat) (a v : Value), b.ents[k]? = some (a, v) → ∃ v', b'.ents[k]? = some (a, v') ∧ Ren ρ m1.length v v') := by
    intro j b hj
    rcases hm j b hj with ⟨h1, h2, h3⟩ | h
    · refine ⟨b, by rw [hid j h1]; exact h2, rfl, rfl, rfl, fun k v hk => ⟨v, hk, ?_⟩, fun hmk => ⟨rfl, fun k a v hk => ⟨v, hk, ?_⟩⟩⟩
      · obtain ⟨p, k1, k2⟩ := h0.rep j b h3
        obtain ⟨x, _, hx⟩ := k2.cell hk
        exact Ren.of_rel hx h0.none_ hl hid
      · obtain ⟨p, k1, k2⟩ := h0.rep j b h3
        obtain ⟨es, _, hre⟩ := k2.ents hmk
        obtain ⟨e, _, _, _, hx⟩ := hre.2 k a v hk
        exact Ren.of_rel hx h0.none_ hl hid
    · obtain ⟨hmk, b', h1, h2, h3, h4, h5⟩ := h
      exact ⟨b', h1, h2, h3, h4, h5, fun e => by rw [hmk] at e; cases e⟩
  have hrep := hp.rep
  refine ⟨renPl ρ m1.length R, ⟨fun i p hi => ?_, ⟨fun i hi => ?_, fun j b hj => ?_, fun i j b c p q hi hj hb hc hne hpi hqj => ?_⟩, hp.os, hp.tape, hp.output, hp.size, hp.keep, fun k ho => ?_⟩, ⟨ht.size, fun i v hi => ?_⟩⟩
  · have hi' := lt0 i p hi
    simp only [renPl, show i < m1.length by omega, if_true, hid i hi']
    exact hp.le i p hi
  · simp only [renPl, show ¬ i < m1.length by omega, if_false]
  · obtain ⟨b', h1, h2, h3, h3', h4, h5⟩ := hm' j b hj
    obtain ⟨p, k1, k2⟩ := hrep.rep (ρ j) b' h1
    have hlt : j < m1.length := (List.getElem?_eq_some_iff.1 hj).1
    refine ⟨p, by simp only [renPl, hlt, if_true]; exact k1, ?_⟩
    unfold BRep at k2 ⊢
    obtain ⟨q0, k2⟩ := k2
    refine ⟨q0, ?_⟩
    rw [← h2] at k2
    cases hk : b.kind with
    | ro =>
      rw [hk] at k2
      refine ⟨fun e => k2.1 (by rw [← h3]; exact e), fun k v hv => ?_⟩
      obtain ⟨v', r1, r2⟩ := h4 k v hv
      obtain ⟨x, r3, r4⟩ := k2.2 k v' r1
      exact ⟨x, r3, r2.rel x r4⟩
    | edge =>
      rw [hk] at k2
      refine ⟨?_, k2.2⟩
      have := h3'
      rw [k2.1] at this
      exact List.eq_nil_of_length_eq_zero this
    | map =>
      rw [hk] at k2
      obtain ⟨e1, e2, e3, es, e4, e5⟩ := k2
      obtain ⟨l1, l2⟩ := h5 (by rw [hk]; rfl)
      refine ⟨List.eq_nil_of_length_eq_zero (by rw [h3', e1]; rfl), e2, e3, es, e4, l1.trans e5.1, fun k a v hv => ?_⟩
      obtain ⟨v', r1, r2⟩ := l2 k a v hv
      obtain ⟨x, r3, r4, r5, r6⟩ := e5.2 k a v' r1
      exact ⟨x, r3, r4, r5, r2.rel _ r6⟩
    | rom =>
      rw [hk] at k2
      obtain ⟨e1, e2, es, e4, e5⟩ := k2
      obtain ⟨l1, l2⟩ := h5 (by rw [hk]; rfl)
      refine ⟨List.eq_nil_of_length_eq_zero (by rw [h3', e1]; rfl), e2, es, e4, l1.trans e5.1, fun k a v hv => ?_⟩
      obtain ⟨v', r1, r2⟩ := l2 k a v hv
      obtain ⟨x, r3, r4, r5, r6⟩ := e5.2 k a v' r1
      exact ⟨x, r3, r4, r5, r2.rel _ r6⟩
    | own =>
      rw [hk] at k2
      obtain ⟨cur, ty, r1, r2, r3, r4, r5⟩ := k2
      refine ⟨cur, ty, r1, r2, by rw [h3', h3]; exact r3, r4, fun k v hv => ?_⟩
      obtain ⟨v', s1, s2⟩ := h4 k v hv
      obtain ⟨x, s3, s4, s5⟩ := r5 k v' s1
      exact ⟨x, s3, s2.rel x s4, s5⟩
    | str =>
      rw [hk] at k2
      obtain ⟨cur, ty, r1, r2, r3, r5⟩ := k2
      refine ⟨cur, ty, r1, r2, by rw [h3', h3]; exact r3, fun k v hv => ?_⟩
      obtain ⟨v', s1, s2⟩ := h4 k v hv
      obtain ⟨x, s3, s4, s5⟩ := r5 k v' s1
      exact ⟨x, s3, s2.rel x s4, s5⟩
    | grow =>
      rw [hk] at k2
      obtain ⟨cur, ty, r1, r2, r3, r4, r5⟩ := k2
      refine ⟨cur, ty, r1, r2, by rw [h3', h3]; exact r3, r4, fun k v hv => ?_⟩
      obtain ⟨v', s1, s2⟩ := h4 k v hv
      obtain ⟨x, s3, s4, s5⟩ := r5 k v' s1
      exact ⟨x, s3, s2.rel x s4, s5⟩
  · obtain ⟨b', h1, h2, _⟩ := hm' i b hi
    obtain ⟨c', k1, k2, _⟩ := hm' j c hj
    have hi' : i < m1.length := (List.getElem?_eq_some_iff.1 hi).1
    have hj' : j < m1.length := (List.getElem?_eq_some_iff.1 hj).1
    simp only [renPl, hi', hj', if_true] at hpi hqj
    exact hrep.apart (ρ i) (ρ j) b' c' p q h1 k1 (by rw [← h2]; exact hb) (by rw [← k2]; exact hc) (fun e => hne (hinj i j b c hi hj e)) hpi hqj
  · obtain ⟨i, b, p, h1, h2, h3, h4⟩ := ho
    obtain ⟨b', k1, k2, _⟩ := hm' i b h1
    have hi' : i < m1.length := (List.getElem?_eq_some_iff.1 h1).1
    simp only [renPl, hi', if_true] at h3
    exact hp.sub k ⟨ρ i, b', p, k1, by rw [← k2]; exact h2, h3, h4⟩
  · obtain ⟨v', h1, h2⟩ := hf i v hi
    exact h2.rel _ (ht.rel i v' h1)
def AW (P : Program) (nt : Nat) (m0 : AM) (c : Code) (t : Fm) (m : AM) (Q : AEx → Fm → AM → Prop) : Prop :=
  ∀ (base : Nat) (R0 : Pl) (w0 : World) (R : Pl) (a : Act) (w : World), base ≤ w0.heap.size → MRep base R0 m0 w0 → Post base m0 m R0 R w0 w → FR R nt t a.tmps →
    c.wp P (fun ex a' w' => ∃ e t' m' R', ex = AEx.to e ∧ a'.defers = a.defers ∧ Post base m0 m' R0 R' w0 w' ∧ FR R' nt t' a'.tmps ∧ Q e t' m') a w
theorem AW.mono {c : Code} (h : AW P nt m0 c t m Q) (hq : ∀ e t m, Q e t m → Q' e t m) : AW P nt m0 c t m Q' :=
  fun base R0 w0 R a w hb h0 hp ht => wp_mono (h base R0 w0 R a w hb h0 hp ht) fun _ _ _ ⟨e, t', m', R', h1, h2, h3, h4, h5⟩ => ⟨e, t', m', R', h1, h2, h3, h4, hq _ _ _ h5⟩
theorem AW.gc {c : Code} (hg : Gc m0 t m t1 m1) (h : AW P nt m0 c t1 m1 Q) : AW P nt m0 c t m Q := by
  intro base R0 w0 R a w hb h0 hp ht
  obtain ⟨R1, k1, k2⟩ := hg.ok h0 hp ht
  exact h base R0 w0 R1 a w hb h0 k1 k2
theorem AW.skip (h : Q .normal t m) : AW P nt m0 .skip t m Q := fun _ _ _ R _ _ _ _ hp ht => wp_skip ⟨.normal, t, m, R, rfl, rfl, hp, ht, h⟩
theorem AW.ret (h : Q .ret t m) : AW P nt m0 .ret t m Q := fun _ _ _ R _ _ _ _ hp ht => wp_ret ⟨.ret, t, m, R, rfl, rfl, hp, ht, h⟩
theorem AW.exit {id : Nat} (h : Q (.exit id) t m) : AW P nt m0 (.exit id) t m Q := fun _ _ _ R _ _ _ _ hp ht => wp_exit ⟨.exit id, t, m, R, rfl, rfl, hp, ht, h⟩
def Then (K : Fm → AM → Prop) (Q : AEx → Fm → AM → Prop) : AEx → Fm → AM → Prop
  | .normal, t, m => K t m
  | .exit i, t, m => Q (.exit i) t m
  | .ret, t, m => Q .ret t m
theorem AW.seq {a b : Code} (h : AW P nt m0 a t m (Then (fun t m => AW P nt m0 b t m Q) Q)) : AW P nt m0 (.seq a b) t m Q := by
  intro base R0 w0 R ac w hb h0 hp ht
  refine wp_seq (wp_mono (h base R0 w0 R ac w hb h0 hp ht) ?_)
  rintro ex a' w' ⟨e, t', m', R', rfl, h2, h3, h4, h5⟩
  cases e with
  | normal =>
    refine wp_mono (h5 base R0 w0 R' a' w' hb h0 h3 h4) ?_
    rintro ex a2 w2 ⟨e, t2, m2, R2, k1, k2, k3, k4, k5⟩
    exact ⟨e, t2, m2, R2, k1, k2.trans h2, k3, k4, k5⟩
  | exit i => exact ⟨.exit i, t', m', R', rfl, h2, h3, h4, h5⟩
  | ret => exact ⟨.ret, t', m', R', rfl, h2, h3, h4, h5⟩
/-- Cut: what holds between. -/
theorem AW.cut {a b : Code} (Mid : Fm → AM → Prop) (h : AW P nt m0 a t m (Then Mid Q)) (h2 : ∀ t m, Mid t m → AW P nt m0 b t m Q) : AW P nt m0 (.seq a b) t m Q :=
  .seq (h.mono fun e t m => by cases e <;> first | exact h2 t m | exact id)
theorem AW.cond {c : Operand} {a b : Code} {q : Bool} (hc : evo t c = some (.bool q)) (h1 : q = true → AW P nt m0 a t m Q) (h2 : q = false → AW P nt m0 b t m Q) : AW P nt m0 (.cond c a b) t m Q := by
  intro base R0 w0 R ac w hb h0 hp ht
  have hr := evo_rel ht hc
  have he : ac.eval c = .bool q := by generalize ac.eval c = y at hr; cases hr; rfl
  exact wp_cond_split he (fun e => h1 e base R0 w0 R ac w hb h0 hp ht) (fun e => h2 e base R0 w0 R ac w hb h0 hp ht)
def InBlk (id : Nat) (Q : AEx → Fm → AM → Prop) : AEx → Fm → AM → Prop
  | .exit i, t, m => if i = id then Q .normal t m else Q (.exit i) t m
  | .normal, t, m => Q .normal t m
  | .ret, t, m => Q .ret t m
theorem AW.block {id : Nat} {c : Code} (h : AW P nt m0 c t m (InBlk id Q)) : AW P nt m0 (.block id c) t m Q := by
  intro base R0 w0 R ac w hb h0 hp ht
  refine wp_block (wp_mono (h base R0 w0 R ac w hb h0 hp ht) ?_)
  rintro ex a' w' ⟨e, t', m', R', rfl, h2, h3, h4, h5⟩
  cases e with
  | normal => exact ⟨.normal, t', m', R', rfl, h2, h3, h4, h5⟩
  | ret => exact ⟨.ret, t', m', R', rfl, h2, h3, h4, h5⟩
  | exit i =>
    simp only [AEx.to, Exit.inBlock]
    simp only [InBlk] at h5
    split
    · rename_i hi
      rw [if_pos hi] at h5
      exact ⟨.normal, t', m', R', rfl, h2, h3, h4, h5⟩
    · rename_i hi
      rw [if_neg hi] at h5
      exact ⟨.exit i, t', m', R', rfl, h2, h3, h4, h5⟩
theorem least (p : Nat → Prop) : (∃ n, p n) → ∃ n, p n ∧ ∀ k, k < n → ¬ p k := by
  intro ⟨n, hn⟩
  induction n using Nat.strongRecOn with
  | _ n ih =>
    by_cases h : ∃ k, k < n ∧ p k
    · obtain ⟨k, h1, h2⟩ := h
      exact ih k h1 h2
    · exact ⟨n, hn, fun k hk hp => h ⟨k, hk, hp⟩⟩
theorem AW.loop {c : Code} (I : Nat → Fm → AM → Prop) (h0 : ∃ k t1 m1, Gc m0 t m t1 m1 ∧ I k t1 m1)
    (round : ∀ k t m, I k t m → AW P nt m0 c t m (Then (fun t' m' => ∃ k' t1 m1, k' < k ∧ Gc m0 t' m' t1 m1 ∧ I k' t1 m1) Q)) : AW P nt m0 (.loop c) t m Q := by
  intro base R0 w0 R ac w hb hm0 hp ht
  let J : Nat → Act → World → Prop := fun k a w => ∃ t m R, I k t m ∧ Post base m0 m R0 R w0 w ∧ FR R nt t a.tmps ∧ a.defers = ac.defers
  have hJ0 : ∃ k, J k ac w := by
    obtain ⟨k, t1, m1, hg, hI⟩ := h0
    obtain ⟨R1, k1, k2⟩ := hg.ok hm0 hp ht
    exact ⟨k, t1, m1, R1, hI, k1, k2, rfl⟩
  open Classical in
  let μ : Act → World → Nat := fun a w => if h : ∃ k, J k a w then Classical.choose (least _ h) else 0
  have hμ : ∀ a w (h : ∃ k, J k a w), J (μ a w) a w ∧ ∀ k, J k a w → μ a w ≤ k := fun a w h => by
    have hs := Classical.choose_spec (least _ h)
    have e : μ a w = Classical.choose (least _ h) := dif_pos h
    rw [e]
    exact ⟨hs.1, fun k hk => Nat.le_of_not_lt fun hlt => hs.2 k hlt hk⟩
  refine wp_loop (fun a w => ∃ k, J k a w) μ hJ0 fun a w hJ => ?_
  obtain ⟨⟨t2, m2, R2, q1, q2, q3, q4⟩, _⟩ := hμ a w hJ
  refine wp_mono (round _ _ _ q1 base R0 w0 R2 a w hb hm0 q2 q3) ?_
  rintro ex a' w' ⟨e, t', m', R', rfl, h2, h3, h4, h5⟩
  cases e with
  | normal =>
    obtain ⟨k', t1, m1, r1, r2, r3⟩ := h5
    obtain ⟨R1, s1, s2⟩ := r2.ok hm0 h3 h4
    have hJ' : J k' a' w' := ⟨t1, m1, R1, r3, s1, s2, h2.trans q4⟩
    exact ⟨⟨k', hJ'⟩, Nat.lt_of_le_of_lt ((hμ a' w' ⟨k', hJ'⟩).2 k' hJ') r1⟩
  | exit i => exact ⟨.exit i, t', m', R', rfl, h2.trans q4, h3, h4, h5⟩
  | ret => exact ⟨.ret, t', m', R', rfl, h2.trans q4, h3, h4, h5⟩
theorem AW.reg {id : Nat} {ops : Array Oper} {l : List Nat} (hl : List.range ops.size = l) (h : AWi P nt ops l t m (fun t m => Q .normal t m)) : AW P nt m0 (.region id ops false) t m Q := by
  intro base R0 w0 R ac w hb h0 hp ht
  refine wp_region ?_
  rw [hl]
  refine AWi.ok l t m R w ac h (Nat.le_trans hb hp.size) hp.rep ht ?_
  intro R' t' m' a' w' k1 k2 k3 k4
  exact ⟨.normal, t', m', R', rfl, k1, hp.trans k3, k2, k4⟩
theorem AW.all (hP : Fit P) {id : Nat} {ops : Array Oper} (h : AWd P nt ops (fun t m => Q .normal t m) ops.size (Array.replicate ops.size false) t m) : AW P nt m0 (.region id ops true) t m Q := by
  intro base R0 w0 R ac w hb h0 hp ht
  refine wp_region_any hP.mixed ?_
  have hd := Post.drew hp.rep
  refine AWd.ok ops.size _ t m R _ ac h (by have := hp.size; simpa using Nat.le_trans hb this) hd.rep ht ?_
  intro R' t' m' a' w' k1 k2 k3 k4
  exact ⟨.normal, t', m', R', rfl, k1, (hp.trans hd).trans k3, k2, k4⟩
theorem AW.draw (hP : Fit P) {id : Nat} {ops : Array Oper} {l : List Nat} (hl : plan P ops ops.size (Array.replicate ops.size false) = some l) (h : AWi P nt ops l t m (fun t m => Q .normal t m)) : AW P nt m0 (.region id ops true) t m Q :=
  .all hP (plan_ok _ _ _ _ _ (by simp) hl h)
def ACall (P : Program) (f : FuncId) (args : Array Value) (m : AM) (Q : Value → AM → Prop) : Prop :=
  ∀ (base : Nat) (R : Pl) (w : World) (args' : Array Value), base ≤ w.heap.size → MRep base R m w → Rels R args args' →
    Calls P f args' w fun e w' => ∃ v v' R' m', e = .returned v' ∧ Rel R' v v' ∧ Post base m m' R R' w w' ∧ Q v m'
theorem ACall.mono {f : FuncId} {args : Array Value} {Q Q' : Value → AM → Prop} (h : ACall P f args m Q) (hq : ∀ v m', Q v m' → Q' v m') : ACall P f args m Q' :=
  fun base R w args' hb hm ha => (h base R w args' hb hm ha).mono fun _ _ ⟨v, v', R', m', h1, h2, h3, h4⟩ => ⟨v, v', R', m', h1, h2, h3, hq _ _ h4⟩
def ares1 (P : Program) (t : Fm) (m : AM) : ResultVar → Option Value
  | .tmp i => t i
  | .cell a ty => match t a with
    | some p => aload P m ty p
    | none => none
def aresL (P : Program) (t : Fm) (m : AM) : List ResultVar → Option (List Value)
  | [] => some []
  | r :: rest => match ares1 P t m r, aresL P t m rest with
    | some v, some l => some (v :: l)
    | _, _ => none
def ares (P : Program) (fn : Func) (t : Fm) (m : AM) : Option Value :=
  match aresL P t m fn.results.toList with
  | some [v] => some v
  | some l => some (.tuple l.toArray)
  | none => none
theorem aresL_ok {n : Nat} (h : MRep base R m w) (ht : FR R n t u) : ∀ (l : List ResultVar) (vs : List Value), aresL P t m l = some vs →
    ∃ vs', RelL R vs vs' ∧ (l.mapM (res1 u)).run P w = .ok vs' w
  | [], vs, he => by simp [aresL] at he; subst he; exact ⟨[], .nil, by simp⟩
  | r :: rest, vs, he => by
    simp only [aresL] at he
    split at he
    · rename_i v l h1 h2
      injection he with he; subst he
      obtain ⟨l', k1, k2⟩ := aresL_ok h ht rest l h2
      have : ∃ v', Rel R v v' ∧ (res1 u r).run P w = .ok v' w := by
        cases r with
        | tmp i => exact ⟨_, ht.rel i v h1, rfl⟩
        | cell a ty =>
          simp only [ares1] at h1
          split at h1
          · rename_i p hpa
            have hg := ht.rel a p hpa
            obtain ⟨v', q1, q2⟩ := aload_ok (w := w) h.held hg h1
            refine ⟨v', q2, ?_⟩
            unfold aload at h1
            split at h1
            · have hres : res1 u (.cell a ty) = (do loadVar ty (← asAddr (u.getD a undef))) := rfl
              rw [hres]
              generalize u.getD a undef = q at hg q1 ⊢
              cases hg
              simpa [Instr.loadAt, Instr.sureAddr, asAddr] using q1
            · cases h1
          · cases h1
      obtain ⟨v', q1, q2⟩ := this
      refine ⟨v' :: l', .cons q1 k1, ?_⟩
      simp only [List.mapM_cons]
      simp only [Sem.run_bind, q2, k2, Result.andThen_ok]
      rfl
    · cases he
theorem ares_ok {fn : Func} {n : Nat} {v : Value} (h : MRep base R m w) (ht : FR R n t u) (he : ares P fn t m = some v) : ∃ v', Rel R v v' ∧ (results fn u).run P w = .ok v' w := by
  unfold ares at he
  have key : ∀ l, aresL P t m fn.results.toList = some l → ∃ l', RelL R l l' ∧ (results fn u).run P w = .ok (if h : l'.toArray.size = 1 then l'.toArray[0] else .tuple l'.toArray) w := fun l hl => by
    obtain ⟨l', k1, k2⟩ := aresL_ok (P := P) h ht _ _ hl
    refine ⟨l', k1, ?_⟩
    rw [results_eq]
    simp only [map_eq_pure_bind, Sem.run_bind, k2, Result.andThen_ok]
    rfl
  split at he
  · rename_i x hl
    injection he with he; subst he
    obtain ⟨l', k1, k2⟩ := key _ hl
    refine ⟨_, ?_, k2⟩
    match l', k1 with
    | [y], k1 =>
      obtain ⟨v', e1, e2⟩ := k1.2 0 x rfl
      simp at e1; subst e1
      simpa using e2
    | [], k1 => have := k1.1; simp at this
    | _ :: _ :: _, k1 => have := k1.1; simp at this
  · rename_i l hne hl
    injection he with he; subst he
    obtain ⟨l', k1, k2⟩ := key _ hl
    refine ⟨_, ?_, k2⟩
    match l, l', k1 with
    | [], [], _ => exact .tuple _ _ rfl (fun i hi => absurd hi (by simp))
    | [x], _, _ => exact (hne x rfl).elim
    | x :: y :: r, x' :: y' :: r', k1 =>
      have := k1.rels
      simpa using Rel.tuple _ _ this.1 this.2
    | [], _ :: _, k1 => have := k1.1; simp at this
    | _ :: _ :: _, [], k1 => have := k1.1; simp at this
    | _ :: _ :: _, [_], k1 => have := k1.1; simp at this
  · cases he
def argF (args : Array Value) : Fm := fun i => args.toList[i]?
/-- What the end of a body owes. -/
def Ends (P : Program) (fn : Func) (Q : Value → AM → Prop) : AEx → Fm → AM → Prop
  | .exit _, _, _ => False
  | _, t, m => ∃ v, ares P fn t m = some v ∧ Q v m
theorem ACall.intro {f : FuncId} {fn : Func} {c : Code} {args : Array Value} {Q : Value → AM → Prop} (hf : P.funcs[f]? = some fn) (hb : fn.body = some c) (hsz : args.size ≤ fn.ntmps)
    (h : AW P fn.ntmps m c (argF args) m (Ends P fn Q)) : ACall P f args m Q := by
  intro base R w args' hbase hm hargs
  refine calls_of_wp hf hb ?_
  have hs := hargs.1
  refine wp_mono (h base R w R ⟨args' ++ Array.replicate (fn.ntmps - args'.size) undef, []⟩ w hbase hm (.refl hm) ⟨by simp; omega, fun i v hi => ?_⟩) ?_
  · have hi : args[i]? = some v := by simpa [argF] using hi
    have hlt : i < args.size := (Array.getElem?_eq_some_iff.1 hi).1
    have := hargs.2 i hlt
    have e1 : args.getD i undef = v := by
      simp [hi]
    rw [e1] at this
    have e2 : (args' ++ Array.replicate (fn.ntmps - args'.size) undef).getD i undef = args'.getD i undef := by
      simp [Array.getElem?_append_left (show i < args'.size by omega)]
    show Rel R v ((args' ++ Array.replicate (fn.ntmps - args'.size) undef).getD i undef)
    rw [e2]; exact this
  · rintro ex a' w' ⟨e, t', m', R', rfl, h2, h3, h4, h5⟩
    cases e with
    | exit i => exact h5.elim
    | normal =>
      obtain ⟨v, k1, k2⟩ := h5
      obtain ⟨v', r1, r2⟩ := ares_ok (P := P) h3.rep h4 k1
      exact ⟨h2, v', r2, v, v', R', m', rfl, r1, h3, k2⟩
    | ret =>
      obtain ⟨v, k1, k2⟩ := h5
      obtain ⟨v', r1, r2⟩ := ares_ok (P := P) h3.rep h4 k1
      exact ⟨h2, v', r2, v, v', R', m', rfl, r1, h3, k2⟩
/-- A call of a function of the program, as an operation. -/
theorem loud_call (hP : Fit P) {o : Oper} {c : Call} {x : Operand} {ev : Operand → Value} {g : FuncId} {first captured : Array Value} {K : Value → AM → Prop} (ho : o.op = .call c) (hc : c.callee = .value x) (hx : ev x = .func (.func g) first captured)
    {fn : Func} {b : Code} (hf : P.funcs[g]? = some fn) (hb : fn.body = some b) (h : ACall P g (first ++ c.args.map ev ++ captured) m K) : Loud P o ev m K := by
  intro base R w a Q next hbase hm hev hn
  obtain ⟨dst, op, type, pos, after, guard⟩ := o
  simp only at ho; subst ho
  obtain ⟨callee, cargs, ctypes⟩ := c
  simp only at hc; subst hc
  have hxr := hev x (by simp [Op.operands, Call.operands])
  rw [hx] at hxr
  generalize hq : a.eval x = q at hxr
  cases hxr with
  | func _ _ _ f' c' k1 k2 k3 k4 =>
    have hargs := rels_map (R := R) (ev := ev) (ev' := a.eval) cargs (fun y hy => hev y (by simp [Op.operands, Call.operands, hy]))
    have hrun : (execOp a.eval { dst := dst, op := .call { callee := .value x, args := cargs, argTypes := ctypes }, type := type, pos := pos, after := after, guard := guard : Oper }).run P w = .ok (.enter g (f' ++ cargs.map a.eval ++ c')) w := by
      simp [execOp, resolve, hq, Deferred.ofValue, invoke, run_enter hf (hP.names _ _ hf) hb]
    unfold Oper.wp
    rw [hrun]
    refine (h base R w _ hbase hm (rels_app (rels_app ⟨k1, k2⟩ hargs) ⟨k3, k4⟩)).mono ?_
    rintro e w' ⟨v, v', R', m', rfl, q1, q2, q3⟩
    exact hn R' v v' m' w' q1 q2 q3
/-- A call that takes no memory, by its contract in the real world. -/
theorem ACall.of_calls {f : FuncId} {args : Array Value} {v : Value} (hg : args.all g1 = true) (hv : g1 v = true) (h : ∀ w, Calls P f args w fun e w' => e = .returned v ∧ Below w.heap.size w w') :
    ACall P f args m (fun v' m' => v' = v ∧ m' = m) := by
  intro base R w args' hb hm hargs
  have he : args' = args := ext_getD hargs.1.symm fun i hi => g1_eq (all_getD hg (by rw [hargs.1]; exact hi)) (hargs.2 i (by rw [hargs.1]; exact hi))
  subst he
  refine (h w).mono ?_
  rintro e w' ⟨rfl, hb'⟩
  exact ⟨v, v, R, m, rfl, g1_rel hv, ⟨.refl R, hm.kept hb'.block, hb'.os, hb'.tape, hb'.output, hb'.size, fun k hk _ => hb'.block k hk, fun _ h => .inr h⟩, rfl, rfl⟩
end
end Go.Proofs.YtedbjmgchfgabaaDoor.Abs
namespace Go.Proofs.YtedbjmgchfgabaaDoor.Abs
set_option linter.unusedSimpArgs false
set_option linter.unusedVariables false
open Go.RowKit
open Go.Proofs.YtedbjmgchfgabaaDoor.Sim
def evD (t : Fm) : Operand → Value := fun x => (evo t x).getD undef
theorem evD_of {t : Fm} {x : Operand} {v : Value} (h : evo t x = some v) : evD t x = v := by simp [evD, h]
theorem kn_of {t : Fm} {o : Oper} (h : ∀ x ∈ o.op.operands.toList, ∃ v, evo t x = some v) : Kn t o (evD t) := fun x hx => by
  obtain ⟨v, hv⟩ := h x (by simpa using hx)
  rw [hv, evD_of hv]
/-- A cell that is known. -/
def Rd (m : AM) (i o : Nat) (v : Value) : Prop := ∃ b, m[i]? = some (some b) ∧ b.cells[o]? = some v
/-- A slice of n elements whose first cell is o of block a; it may be nil if it is empty. -/
def Sl (v : Value) (a o n : Nat) : Prop := (v = .slice none 0 0 ∧ n = 0) ∨ (∃ c, n ≤ c ∧ v = .slice (some ⟨a, o, none⟩) n c) ∨ (n = 0 ∧ ∃ o' k, v = .slice (some ⟨a, o', some k⟩) 0 0)
def slB (P : Program) (T : TypeId) : Bool := match P.underlying T with
  | some (.slice _) => true
  | _ => false
def elB (P : Program) (T : TypeId) : Option Nat := match P.underlying T with
  | some (.slice e) => szB P e
  | _ => none
def foB (P : Program) (T : TypeId) (f : Nat) : Option Nat := match P.underlying T with
  | some (.struct fs) => match fs[f]? with
    | some fd => match szB P fd.type with
      | some (_ + 1) => some fd.offset
      | _ => none
    | none => none
  | _ => none
section
variable {P : Program} {nt : Nat} {ops : Array Oper} {t : Fm} {m : AM} {K : Fm → AM → Prop} {d T : Nat} {p : String} {af : Array Edge}
theorem Step.q {o : Oper} {v : Value} (hd : o.dst = some d) (hg : o.guard = none) (hlt : Nat.blt d nt = true) (hk : ∀ x ∈ o.op.operands.toList, ∃ v, evo t x = some v) (hq : aquiet P o (evD t) m = some v) (hK : K (put t d v) m) : Step P nt ops o t m K := by
  refine ⟨fun e he => ?_, ?_⟩
  · rw [hd] at he; injection he with he; subst he; simpa using hlt
  · rw [hg]
    exact ⟨evD t, kn_of hk, .inl ⟨v, hq, by rw [hd]; exact hK⟩⟩
theorem Step.l {o : Oper} (hd : o.dst = some d) (hg : o.guard = none) (hlt : Nat.blt d nt = true) (hs : stillB P o.op = false) (hk : ∀ x ∈ o.op.operands.toList, ∃ v, evo t x = some v) (hl : Loud P o (evD t) m fun v m' => K (put t d v) m') : Step P nt ops o t m K := by
  refine ⟨fun e he => ?_, ?_⟩
  · rw [hd] at he; injection he with he; subst he; simpa using hlt
  · rw [hg]
    exact ⟨evD t, kn_of hk, .inr ⟨hs, by rw [hd]; exact hl⟩⟩
theorem Step.l0 {o : Oper} (hd : o.dst = none) (hg : o.guard = none) (hs : stillB P o.op = false) (hk : ∀ x ∈ o.op.operands.toList, ∃ v, evo t x = some v) (hl : Loud P o (evD t) m fun _ m' => K t m') : Step P nt ops o t m K := by
  refine ⟨fun e he => (by rw [hd] at he; cases he), ?_⟩
  rw [hg]
  exact ⟨evD t, kn_of hk, .inr ⟨hs, by rw [hd]; exact hl⟩⟩
theorem Step.gd {o : Op} {dd : Option Tmp} {j : Nat} {b q : Bool} (hd : ∀ d, dd = some d → d < nt) (hv : gval ops t j = some (.bool q)) (h1 : q = b → Step P nt ops ⟨dd, o, T, p, af, none⟩ t m K) (h2 : q = !b → K (putO t dd undef) m) : Step P nt ops ⟨dd, o, T, p, af, some (j, b)⟩ t m K := by
  refine ⟨hd, .bool q, hv, ?_⟩
  by_cases h : q = b
  · subst h
    rw [if_pos (by simp [wantB])]
    have := (h1 rfl).2
    exact this
  · rw [if_neg (by simp [wantB, h])]
    exact h2 (by cases q <;> cases b <;> simp_all)
theorem Step.move {x : Operand} {v : Value} (hx : evo t x = some v) (hlt : Nat.blt d nt = true) (hK : K (put t d v) m) : Step P nt ops ⟨some d, .move x, T, p, af, none⟩ t m K :=
  .q rfl rfl hlt (by simp [Op.operands, hx]) (by simp [aquiet, evD_of hx]) hK
theorem Step.assign {x : Operand} {v : Value} (hx : evo t x = some v) (hlt : Nat.blt d nt = true) (hK : K (put t d v) m) : Step P nt ops ⟨some d, .assign x, T, p, af, none⟩ t m K :=
  .q rfl rfl hlt (by simp [Op.operands, hx]) (by simp [aquiet, evD_of hx]) hK
theorem Step.pick {c x y : Operand} {q : Bool} {v u : Value} (hc : evo t c = some (.bool q)) (hx : evo t x = some v) (hy : evo t y = some u) (hlt : Nat.blt d nt = true) (h1 : q = true → K (put t d v) m) (h2 : q = false → K (put t d u) m) : Step P nt ops ⟨some d, .pick c x y, T, p, af, none⟩ t m K := by
  refine .q rfl rfl hlt (by simp [Op.operands, hc, hx, hy]) (v := if q then v else u) (by simp [aquiet, evD_of hc, evD_of hx, evD_of hy]) ?_
  cases q
  · exact h2 rfl
  · exact h1 rfl
theorem Step.load {x : Operand} {ty i o : Nat} {v : Value} (hx : evo t x = some (.pointer (some ⟨i, o, none⟩))) (hg : aggB P ty = some false) (hlt : Nat.blt d nt = true) (hr : Rd m i o v) (hK : K (put t d v) m) : Step P nt ops ⟨some d, .load ty x, T, p, af, none⟩ t m K := by
  obtain ⟨b, h1, h2⟩ := hr
  exact .q rfl rfl hlt (by simp [Op.operands, hx]) (by simp [aquiet, evD_of hx, aload, hg, h1, h2]) hK
/-- A whole struct or array. -/
theorem Step.loads {x : Operand} {ty i o n : Nat} {b : Blk} {c : List Value} (hx : evo t x = some (.pointer (some ⟨i, o, none⟩))) (hg : aggB P ty = some true) (hn : szB P ty = some n) (hlt : Nat.blt d nt = true) (h1 : m[i]? = some (some b)) (h2 : (b.cells.drop o).take n = c) (h3 : c.length = n) (hn1 : 1 ≤ n) (hK : K (put t d (.agg c.toArray)) m) :
    Step P nt ops ⟨some d, .load ty x, T, p, af, none⟩ t m K := by
  have h0 : o + n ≤ b.cells.length := by
    rw [← h2] at h3
    simp at h3
    omega
  exact .q rfl rfl hlt (by simp [Op.operands, hx]) (by simp [aquiet, evD_of hx, aload, hg, hn, h1, h0, h2]) hK
theorem Step.field {x : Operand} {s f i o k : Nat} (hx : evo t x = some (.pointer (some ⟨i, o, none⟩))) (hf : foB P s f = some k) (hlt : Nat.blt d nt = true) (hK : K (put t d (.pointer (some ⟨i, o + k, none⟩))) m) : Step P nt ops ⟨some d, .fieldAddr s x f, T, p, af, none⟩ t m K := by
  refine .q rfl rfl hlt (by simp [Op.operands, hx]) ?_ hK
  unfold foB at hf
  simp only [aquiet, evD_of hx, afield]
  split at hf
  · rename_i fs hu
    rw [hu]
    simp only
    split at hf
    · rename_i fd hfd
      first | (rw [hfd]; simp only) | simp only | skip
      split at hf
      · rename_i q hq
        first | rw [hq] | skip
        injection hf with hf
        simp [hf]
      · cases hf
    · cases hf
  · cases hf
/-- The first field: it lies where the struct lies. -/
theorem Step.field0 {x : Operand} {s f i o : Nat} (hx : evo t x = some (.pointer (some ⟨i, o, none⟩))) (hf : foB P s f = some 0) (hlt : Nat.blt d nt = true) (hK : K (put t d (.pointer (some ⟨i, o, none⟩))) m) : Step P nt ops ⟨some d, .fieldAddr s x f, T, p, af, none⟩ t m K :=
  .field hx hf hlt hK
theorem Step.ix {x y : Operand} {s a o n k X : Nat} {kk : IntKind} {v : Value} (hx : evo t x = some v) (hs : Sl v a o n) (hy : evo t y = some (.int kk ((k : Nat) : Int))) (he : elB P X = some s) (hlt : Nat.blt d nt = true) (hk : k < n) (hK : K (put t d (.pointer (some ⟨a, o + k * s, none⟩))) m) : Step P nt ops ⟨some d, .indexAddr X x y, T, p, af, none⟩ t m K := by
  refine .q rfl rfl hlt (by simp [Op.operands, hx, hy]) ?_ hK
  rcases hs with ⟨_, hn⟩ | ⟨c, hc, rfl⟩ | ⟨hn, _⟩
  · omega
  · unfold elB at he
    split at he
    · rename_i e hu
      simp only [aquiet, evD_of hx, evD_of hy, aindex, hu, he]
      rw [if_pos (by omega)]
      simp
    · cases he
  · omega
theorem Step.ix1 {x y : Operand} {a o n k X : Nat} {kk : IntKind} {v : Value} (hx : evo t x = some v) (hs : Sl v a o n) (hy : evo t y = some (.int kk ((k : Nat) : Int))) (he : elB P X = some 1) (hlt : Nat.blt d nt = true) (hk : k < n) (hK : K (put t d (.pointer (some ⟨a, o + k, none⟩))) m) : Step P nt ops ⟨some d, .indexAddr X x y, T, p, af, none⟩ t m K :=
  .ix hx hs hy he hlt hk (by simpa using hK)
theorem Step.extract {x : Operand} {vs : Array Value} {i : Nat} {v : Value} (hx : evo t x = some (.tuple vs)) (hi : vs.toList[i]? = some v) (hlt : Nat.blt d nt = true) (hK : K (put t d v) m) : Step P nt ops ⟨some d, .extract x i, T, p, af, none⟩ t m K := by
  have hi' : vs[i]? = some v := by simpa using hi
  exact .q rfl rfl hlt (by simp [Op.operands, hx]) (by simp [aquiet, evD_of hx, hi']) hK
theorem Step.nilp {x : Operand} {i o : Nat} (hx : evo t x = some (.pointer (some ⟨i, o, none⟩))) (hlt : Nat.blt d nt = true) (hK : K (put t d (.pointer (some ⟨i, o, none⟩))) m) : Step P nt ops ⟨some d, .nilCheck x, T, p, af, none⟩ t m K :=
  .q rfl rfl hlt (by simp [Op.operands, hx]) (by simp [aquiet, evD_of hx, anilCheck]) hK
def evL (t : Fm) : List Operand → Option (List Value)
  | [] => some []
  | x :: l => match evo t x, evL t l with
    | some v, some k => some (v :: k)
    | _, _ => none
theorem evL_of {t : Fm} : ∀ {l : List Operand} {vs : List Value}, evL t l = some vs → (∀ x ∈ l, ∃ v, evo t x = some v) ∧ l.map (evD t) = vs
  | [], vs, h => by simp [evL] at h; subst h; simp
  | x :: l, vs, h => by
    simp only [evL] at h
    split at h
    · rename_i v k h1 h2
      injection h with h; subst h
      obtain ⟨k1, k2⟩ := evL_of h2
      exact ⟨fun y hy => by
        rcases List.mem_cons.1 hy with rfl | hy
        · exact ⟨v, h1⟩
        · exact k1 y hy, by simp [evD_of h1, k2]⟩
    · cases h
theorem Step.fn {fn : Fn} {f c : Array Operand} {vf vc : List Value} (hf : evL t f.toList = some vf) (hc : evL t c.toList = some vc) (hlt : Nat.blt d nt = true) (hK : K (put t d (.func fn vf.toArray vc.toArray)) m) : Step P nt ops ⟨some d, .makeFunc fn f c, T, p, af, none⟩ t m K := by
  obtain ⟨f1, f2⟩ := evL_of hf
  obtain ⟨c1, c2⟩ := evL_of hc
  refine .q rfl rfl hlt (fun x hx => ?_) ?_ hK
  · simp only [Op.operands, Array.toList_append, List.mem_append] at hx
    exact hx.elim (f1 x) (c1 x)
  · simp only [aquiet, Option.some.injEq, Value.func.injEq, true_and]
    refine ⟨?_, ?_⟩
    · rw [← f2]; apply Array.ext'; simp
    · rw [← c2]; apply Array.ext'; simp
theorem Step.bin {op : BinOp} {X Y : TypeId} {x y : Operand} {u w v : Value} (hx : evo t x = some u) (hy : evo t y = some w) (hv : aint op u w = some v) (hlt : Nat.blt d nt = true) (hK : K (put t d v) m) : Step P nt ops ⟨some d, .binOp op X x y Y, T, p, af, none⟩ t m K :=
  .q rfl rfl hlt (by simp [Op.operands, hx, hy]) (by simp [aquiet, evD_of hx, evD_of hy, hv]) hK
section ints
variable {X Y : TypeId} {x y : Operand} {a b : Int} {k : IntKind}
theorem Step.add (hx : evo t x = some (.int .i64 a)) (hy : evo t y = some (.int .i64 b)) (hr : -9223372036854775808 ≤ a + b ∧ a + b ≤ 9223372036854775807) (hlt : Nat.blt d nt = true) (hK : K (put t d (.int .i64 (a + b))) m) : Step P nt ops ⟨some d, .binOp .add X x y Y, T, p, af, none⟩ t m K :=
  .bin hx hy (by simp [aint, IntWalk.i64_in _ hr]) hlt hK
theorem Step.sub (hx : evo t x = some (.int .i64 a)) (hy : evo t y = some (.int .i64 b)) (hr : -9223372036854775808 ≤ a - b ∧ a - b ≤ 9223372036854775807) (hlt : Nat.blt d nt = true) (hK : K (put t d (.int .i64 (a - b))) m) : Step P nt ops ⟨some d, .binOp .sub X x y Y, T, p, af, none⟩ t m K :=
  .bin hx hy (by simp [aint, IntWalk.i64_in _ hr]) hlt hK
theorem Step.mul (hx : evo t x = some (.int .i64 a)) (hy : evo t y = some (.int .i64 b)) (hr : -9223372036854775808 ≤ a * b ∧ a * b ≤ 9223372036854775807) (hlt : Nat.blt d nt = true) (hK : K (put t d (.int .i64 (a * b))) m) : Step P nt ops ⟨some d, .binOp .mul X x y Y, T, p, af, none⟩ t m K :=
  .bin hx hy (by simp [aint, IntWalk.i64_in _ hr]) hlt hK
theorem Step.lss (hx : evo t x = some (.int k a)) (hy : evo t y = some (.int k b)) (hlt : Nat.blt d nt = true) (hK : K (put t d (.bool (decide (a < b)))) m) : Step P nt ops ⟨some d, .binOp .lss X x y Y, T, p, af, none⟩ t m K :=
  .bin hx hy (by simp [aint]) hlt hK
theorem Step.leq (hx : evo t x = some (.int k a)) (hy : evo t y = some (.int k b)) (hlt : Nat.blt d nt = true) (hK : K (put t d (.bool (decide (a ≤ b)))) m) : Step P nt ops ⟨some d, .binOp .leq X x y Y, T, p, af, none⟩ t m K :=
  .bin hx hy (by simp [aint]) hlt hK
theorem Step.gtr (hx : evo t x = some (.int k a)) (hy : evo t y = some (.int k b)) (hlt : Nat.blt d nt = true) (hK : K (put t d (.bool (decide (b < a)))) m) : Step P nt ops ⟨some d, .binOp .gtr X x y Y, T, p, af, none⟩ t m K :=
  .bin hx hy (by simp [aint]) hlt hK
theorem Step.geq (hx : evo t x = some (.int k a)) (hy : evo t y = some (.int k b)) (hlt : Nat.blt d nt = true) (hK : K (put t d (.bool (decide (b ≤ a)))) m) : Step P nt ops ⟨some d, .binOp .geq X x y Y, T, p, af, none⟩ t m K :=
  .bin hx hy (by simp [aint]) hlt hK
theorem Step.eql (hx : evo t x = some (.int k a)) (hy : evo t y = some (.int k b)) (hlt : Nat.blt d nt = true) (hK : K (put t d (.bool (decide (a = b)))) m) : Step P nt ops ⟨some d, .binOp .eql X x y Y, T, p, af, none⟩ t m K :=
  .bin hx hy (by simp [aint]) hlt hK
theorem Step.neq (hx : evo t x = some (.int k a)) (hy : evo t y = some (.int k b)) (hlt : Nat.blt d nt = true) (hK : K (put t d (.bool (!decide (a = b)))) m) : Step P nt ops ⟨some d, .binOp .neq X x y Y, T, p, af, none⟩ t m K :=
  .bin hx hy (by simp [aint]) hlt hK
/-- An operation on numbers, bools and the like, by the model's own reckoning. -/
theorem Step.ground {o : Oper} {v : Value} (hd : o.dst = some d) (hg : o.guard = none) (hlt : Nat.blt d nt = true) (hk : ∀ x ∈ o.op.operands.toList, ∃ v, evo t x = some v ∧ g1 v = true) (hq : aground P o (evD t) = some v → aquiet P o (evD t) m = some v)
    (hst : Sim.still P (execOp (evD t) o) = some (.value v)) (hv : g1 v = true) (hK : K (put t d v) m) : Step P nt ops o t m K := by
  refine .q hd hg hlt (fun x hx => by obtain ⟨u, h, _⟩ := hk x hx; exact ⟨u, h⟩) (hq ?_) hK
  unfold aground
  rw [if_pos ?_]
  · simp [hst, hv]
  · rw [Array.all_eq_true_iff_forall_mem]
    intro x hx
    obtain ⟨u, h, h'⟩ := hk x (by simpa using hx)
    simpa [evD_of h] using h'
theorem Step.quo (hx : evo t x = some (.int .i64 a)) (hy : evo t y = some (.int .i64 b)) (ha : 0 ≤ a ∧ a ≤ 9223372036854775807) (hb : 1 ≤ b) (hlt : Nat.blt d nt = true) (hK : K (put t d (.int .i64 (a / b))) m) : Step P nt ops ⟨some d, .binOp .quo X x y Y, T, p, af, none⟩ t m K := by
  have hq : IntKind.i64.wrap (a.tdiv b) = a / b := by
    rw [Int.tdiv_eq_ediv_of_nonneg ha.1]
    have h1 : a / b ≤ a := Int.ediv_le_self _ ha.1
    have h2 : 0 ≤ a / b := Int.ediv_nonneg ha.1 (by omega)
    exact IntWalk.i64_in _ (by omega)
  refine .ground rfl rfl hlt (by simp [Op.operands, hx, hy, g1, g0]) (fun h => by simp only [aquiet, evD_of hx, evD_of hy, aint, anil]; simpa [evD_of hx, evD_of hy] using h) ?_ (by simp [g1, g0]) hK
  simp [execOp, eqGuard, binOp, evD_of hx, evD_of hy, Op.intDiv, show ¬ b = 0 by omega, hq, bind, Sem.bind, pure, Sim.still]
end ints
theorem Step.not {x : Operand} {X : TypeId} {q : Bool} (hx : evo t x = some (.bool q)) (hlt : Nat.blt d nt = true) (hK : K (put t d (.bool !q)) m) : Step P nt ops ⟨some d, .unOp .not X x, T, p, af, none⟩ t m K :=
  .ground rfl rfl hlt (by simp [Op.operands, hx, g1, g0]) (fun h => by simpa [aquiet] using h) (by simp [execOp, Op.unary, evD_of hx, bind, Sem.bind, pure, Sim.still]) (by simp [g1, g0]) hK
theorem Step.neg {x : Operand} {X : TypeId} {a : Int} (hx : evo t x = some (.int .i64 a)) (hr : -9223372036854775807 ≤ a ∧ a ≤ 9223372036854775807) (hlt : Nat.blt d nt = true) (hK : K (put t d (.int .i64 (-a))) m) : Step P nt ops ⟨some d, .unOp .neg X x, T, p, af, none⟩ t m K :=
  .ground rfl rfl hlt (by simp [Op.operands, hx, g1, g0]) (fun h => by simpa [aquiet] using h) (by simp [execOp, Op.unary, Op.intArith, evD_of hx, bind, Sem.bind, pure, Sim.still, IntWalk.i64_in (-a) (by omega)]) (by simp [g1, g0]) hK
theorem Step.len {x : Operand} {X a o n : Nat} {v : Value} (hx : evo t x = some v) (hs : Sl v a o n) (hX : slB P X = true) (hlt : Nat.blt d nt = true) (hK : K (put t d (.int .i64 ((n : Nat) : Int))) m) :
    Step P nt ops ⟨some d, .call ⟨.builtin .len, #[x], #[X]⟩, T, p, af, none⟩ t m K := by
  refine .q rfl rfl hlt (by simp [Op.operands, Call.operands, hx]) ?_ hK
  unfold slB at hX
  split at hX
  · rename_i e hu
    rcases hs with ⟨rfl, rfl⟩ | ⟨c, hc, rfl⟩ | ⟨rfl, o', k', rfl⟩ <;> simp [aquiet, evD_of hx, alen, hu, aSliceLen]
  · cases hX
theorem Step.max {x y : Operand} {X Y : TypeId} {a b : Int} {k : IntKind} (hx : evo t x = some (.int k a)) (hy : evo t y = some (.int k b)) (hlt : Nat.blt d nt = true) (hK : K (put t d (.int k (max a b))) m) :
    Step P nt ops ⟨some d, .call ⟨.builtin .max, #[x, y], #[X, Y]⟩, T, p, af, none⟩ t m K := by
  refine .ground rfl rfl hlt (by simp [Op.operands, Call.operands, hx, hy, g1, g0]) (fun h => by simpa [aquiet] using h) ?_ (by simp [g1, g0]) hK
  have : (if b > a then b else a) = Max.max a b := by rw [Int.max_def]; split <;> split <;> omega
  simp [execOp, resolve, invoke, builtin, Builtin.max_, Builtin.max2, evD_of hx, evD_of hy, this, bind, Sem.bind, pure, Sim.still]
theorem Step.min {x y : Operand} {X Y : TypeId} {a b : Int} {k : IntKind} (hx : evo t x = some (.int k a)) (hy : evo t y = some (.int k b)) (hlt : Nat.blt d nt = true) (hK : K (put t d (.int k (min a b))) m) :
    Step P nt ops ⟨some d, .call ⟨.builtin .min, #[x, y], #[X, Y]⟩, T, p, af, none⟩ t m K := by
  refine .ground rfl rfl hlt (by simp [Op.operands, Call.operands, hx, hy, g1, g0]) (fun h => by simpa [aquiet] using h) ?_ (by simp [g1, g0]) hK
  have : (if b < a then b else a) = Min.min a b := by rw [Int.min_def]; split <;> split <;> omega
  simp [execOp, resolve, invoke, builtin, Builtin.min_, Builtin.min2, evD_of hx, evD_of hy, this, bind, Sem.bind, pure, Sim.still]
end
end Go.Proofs.YtedbjmgchfgabaaDoor.Abs
namespace Go.Proofs.YtedbjmgchfgabaaDoor.Abs
set_option linter.unusedSimpArgs false
set_option linter.unusedVariables false
open Go.RowKit
open Go.Proofs.YtedbjmgchfgabaaDoor.Sim
theorem set_app {α : Type} (M L : List α) (k : Nat) (x : α) : (M ++ L).set (M.length + k) x = M ++ L.set k x := by
  rw [List.set_append_right _ _ (by omega)]; congr 1; rw [Nat.add_sub_cancel_left]
theorem get_app {α : Type} (M L : List α) (k : Nat) : (M ++ L)[M.length + k]? = L[k]? := by
  rw [List.getElem?_append_right (by omega)]; congr 1; omega
theorem get_old {α : Type} {M : List α} (L : List α) {a : Nat} {x : α} (h : M[a]? = some x) : (M ++ L)[a]? = some x := by
  rw [List.getElem?_append_left (List.getElem?_eq_some_iff.1 h).1]; exact h
theorem Rd.old {M : AM} (L : AM) {a o : Nat} {v : Value} (h : Rd M a o v) : Rd (M ++ L) a o v := by
  obtain ⟨b, h1, h2⟩ := h
  exact ⟨b, get_old L h1, h2⟩
theorem Rd.new {M L : AM} {k o : Nat} {b : Blk} {v : Value} (h : L[k]? = some (some b)) (hv : b.cells[o]? = some v) : Rd (M ++ L) (M.length + k) o v :=
  ⟨b, by rw [get_app]; exact h, hv⟩
section
variable {P : Program} {nt : Nat} {ops : Array Oper} {t : Fm} {m : AM} {K : Fm → AM → Prop} {d T : Nat} {p : String} {af : Array Edge}
theorem loudN {o : Oper} {ev : Operand → Value} {K : Value → AM → Prop} {v : Value} {M L L' : AM} {k : Nat} (hk : L.length = k) (hn : needsNew o.op = true) (h : aloud P o ev ((M ++ L) ++ [none]) (M.length + k) = some (v, M ++ L')) (hK : K v (M ++ L')) : Loud P o ev (M ++ L) K :=
  loud_of_aloud hn (by rw [List.length_append, hk]; exact h) hK
theorem set_new_at {α : Type} (M L : List α) {k : Nat} (hk : L.length = k) (x y : α) : ((M ++ L) ++ [y]).set (M.length + k) x = M ++ (L ++ [x]) := by
  rw [List.append_assoc, set_app, List.set_append_right _ _ (by omega)]
  simp [hk]
/-- A new variable. -/
theorem Step.alloc {ty : TypeId} {z : Array Value} {M L L' : AM} (k : Nat) (hk : L.length = k) (hz : zeroB P ty = some z) (hlt : Nat.blt d nt = true) (hL : L ++ [some { cells := z.toList }] = L') (hK : K (put t d (.pointer (some ⟨M.length + k, 0, none⟩))) (M ++ L')) :
    Step P nt ops ⟨some d, .alloc ty, T, p, af, none⟩ t (M ++ L) K := by
  subst hL
  refine .l rfl rfl hlt rfl (by simp [Op.operands]) (loudN hk rfl (v := .pointer (some ⟨M.length + k, 0, none⟩)) ?_ hK)
  simp [aloud, hz, set_new_at M L hk, -List.append_assoc]
/-- A new variable with a value. -/
theorem Step.box {x : Operand} {ty : TypeId} {v : Value} {M L L' : AM} (k : Nat) (hk : L.length = k) (hx : evo t x = some v) (h1 : v.cells.all (·.oneCell') = true) (hlt : Nat.blt d nt = true) (hL : L ++ [some { cells := v.cells.toList }] = L') (hK : K (put t d (.pointer (some ⟨M.length + k, 0, none⟩))) (M ++ L')) :
    Step P nt ops ⟨some d, .box ty x, T, p, af, none⟩ t (M ++ L) K := by
  subst hL
  refine .l rfl rfl hlt rfl (by simp [Op.operands, hx]) (loudN hk rfl (v := .pointer (some ⟨M.length + k, 0, none⟩)) ?_ hK)
  simp only [aloud, evD_of hx]
  rw [if_pos h1, set_new_at M L hk]
theorem Step.make {x y : Operand} {X : TypeId} {n : Nat} {kx ky : IntKind} {e : TypeId} {s by_ : Nat} {z : Array Value} {M L L' : AM} (k : Nat) (hk : L.length = k) (hx : evo t x = some (.int kx ((n : Nat) : Int))) (hy : evo t y = some (.int ky ((n : Nat) : Int))) (he : elemB P X = some (e, s, by_, z)) (hb : by_ * n ≤ 281474976710656 ∧ n ≤ 9223372036854775807 ∧ s ≠ 0)
    (hlt : Nat.blt d nt = true) (hL : L ++ [some { cells := (madeCells z (n * s)).toList }] = L') (hK : K (put t d (.slice (some ⟨M.length + k, 0, none⟩) n n)) (M ++ L')) :
    Step P nt ops ⟨some d, .makeSlice X x y, T, p, af, none⟩ t (M ++ L) K := by
  subst hL
  refine .l rfl rfl hlt rfl (by simp [Op.operands, hx, hy]) (loudN hk rfl (v := .slice (some ⟨M.length + k, 0, none⟩) n n) ?_ hK)
  obtain ⟨b1, b2, b3⟩ := hb
  simp only [aloud, evD_of hx, evD_of hy, amake, he]
  rw [if_pos ⟨by omega, by omega, by omega, by omega, b3⟩, set_new_at M L hk]
  simp
theorem madeCells_one (v : Value) (n : Nat) : (madeCells #[v] (n * 1)).toList = List.replicate n v := by
  apply List.ext_getElem?
  intro i
  simp only [madeCells, Array.toList_map, Nat.mul_one, List.getElem?_map, List.getElem?_replicate, Array.getElem?_toList]
  by_cases h : i < n
  · simp [h, Nat.mod_one]
  · simp [h]
/-- make of a slice of one-cell elements. -/
theorem Step.make1 {x y : Operand} {X : TypeId} {n : Nat} {kx ky : IntKind} {e : TypeId} {by_ : Nat} {z : Value} {M L L' : AM} (k : Nat) (hk : L.length = k) (hx : evo t x = some (.int kx ((n : Nat) : Int))) (hy : evo t y = some (.int ky ((n : Nat) : Int))) (he : elemB P X = some (e, 1, by_, #[z])) (hb : by_ * n ≤ 281474976710656 ∧ n ≤ 9223372036854775807)
    (hlt : Nat.blt d nt = true) (hL : L ++ [some { cells := List.replicate n z }] = L') (hK : K (put t d (.slice (some ⟨M.length + k, 0, none⟩) n n)) (M ++ L')) :
    Step P nt ops ⟨some d, .makeSlice X x y, T, p, af, none⟩ t (M ++ L) K :=
  .make k hk hx hy he ⟨hb.1, hb.2, by omega⟩ hlt (by rw [madeCells_one]; exact hL) hK
/-- A store into a block of one's own: one cell. -/
theorem Step.store {x y : Operand} {ty : TypeId} {k o : Nat} {v : Value} {b : Blk} {M L L' : AM} (hx : evo t x = some (.pointer (some ⟨M.length + k, o, none⟩))) (hy : evo t y = some v) (hb : L[k]? = some (some b)) (hs : b.kind.solid = true) (hz : szB P ty = some 1) (hc : v.cells = #[v]) (h1 : v.oneCell' = true) (ho : o < b.cells.length)
    (hL : L.set k (some { b with cells := b.cells.set o v }) = L') (hK : K t (M ++ L')) : Step P nt ops ⟨none, .store ty x y, T, p, af, none⟩ t (M ++ L) K := by
  subst hL
  refine .l0 rfl rfl rfl (by simp [Op.operands, hx, hy]) (loud_of_aloud0 (v := undef) (m' := M ++ L.set k (some { b with cells := b.cells.set o v })) rfl ?_ hK)
  have hsp : splice b.cells o [v] = b.cells.set o v := by
    unfold splice
    rw [List.set_eq_take_append_cons_drop]
    simp [ho]
  simp only [aloud, evD_of hx, evD_of hy, astore, get_app, hb, hz, hc]
  rw [if_pos (by simp [hs, h1]; omega)]
  simp [set_app, hsp]
/-- A store of a struct's cells. -/
theorem Step.stores {x y : Operand} {ty : TypeId} {k o n : Nat} {v : Value} {b : Blk} {M L L' : AM} (hx : evo t x = some (.pointer (some ⟨M.length + k, o, none⟩))) (hy : evo t y = some v) (hb : L[k]? = some (some b)) (hs : b.kind.solid = true) (hz : szB P ty = some n) (hc : v.cells.size = n) (h1 : v.cells.all (·.oneCell') = true) (ho : o + n ≤ b.cells.length)
    (hL : L.set k (some { b with cells := splice b.cells o v.cells.toList }) = L') (hK : K t (M ++ L')) : Step P nt ops ⟨none, .store ty x y, T, p, af, none⟩ t (M ++ L) K := by
  subst hL
  refine .l0 rfl rfl rfl (by simp [Op.operands, hx, hy]) (loud_of_aloud0 (v := undef) (m' := M ++ L.set k (some { b with cells := splice b.cells o v.cells.toList })) rfl ?_ hK)
  simp only [aloud, evD_of hx, evD_of hy, astore, get_app, hb, hz]
  rw [if_pos (by rw [h1]; simp [hs, hc]; omega)]
  simp [set_app]
/-- A call of a function of the program. -/
theorem Step.call {x : Operand} {args : Array Operand} {tys : Array TypeId} {g : FuncId} {f c : Array Value} {vs : List Value} {fn : Func} {b : Code} {m : AM} {Q : Value → AM → Prop} (hP : Fit P) (hx : evo t x = some (.func (.func g) f c)) (ha : evL t args.toList = some vs) (hf : P.funcs[g]? = some fn) (hb : fn.body = some b)
    (hlt : Nat.blt d nt = true) (h : ACall P g (f ++ vs.toArray ++ c) m Q) (hK : ∀ v m', Q v m' → K (put t d v) m') : Step P nt ops ⟨some d, .call ⟨.value x, args, tys⟩, T, p, af, none⟩ t m K := by
  obtain ⟨a1, a2⟩ := evL_of ha
  refine .l rfl rfl hlt rfl (fun y hy => ?_) (loud_call hP (g := g) (first := f) (captured := c) rfl rfl (evD_of hx) hf hb ?_)
  · simp only [Op.operands, Call.operands, Array.toList_append, List.mem_append] at hy
    rcases hy with hy | hy
    · simp at hy; subst hy; exact ⟨_, hx⟩
    · exact a1 y hy
  · have e : (args.map (evD t)) = vs.toArray := by rw [← a2]; apply Array.ext'; simp
    rw [e]
    exact h.mono hK
/-- A call of a function that is known by its name. -/
theorem Step.callF {args : Array Operand} {tys : Array TypeId} {g : FuncId} {vs : List Value} {fn : Func} {b : Code} {m : AM} {Q : Value → AM → Prop} (hP : Fit P) (ha : evL t args.toList = some vs) (hf : P.funcs[g]? = some fn) (hb : fn.body = some b)
    (hlt : Nat.blt d nt = true) (h : ACall P g vs.toArray m Q) (hK : ∀ v m', Q v m' → K (put t d v) m') : Step P nt ops ⟨some d, .call ⟨.value (.func g), args, tys⟩, T, p, af, none⟩ t m K :=
  .call hP rfl ha hf hb hlt (by simpa using h) hK
end
end Go.Proofs.YtedbjmgchfgabaaDoor.Abs
namespace Go.Proofs.YtedbjmgchfgabaaDoor.Abs
set_option linter.unusedSimpArgs false
set_option linter.unusedVariables false
open Go.RowKit
open Go.Proofs.YtedbjmgchfgabaaDoor.Sim
section
variable {P : Program} {nt id : Nat} {m m0 : AM} {t : Fm} {Q : AEx → Fm → AM → Prop} {K : Fm → AM → Prop}
theorem Then.n (h : K t m) : Then K Q .normal t m := h
theorem Then.e {i : Nat} (h : Q (.exit i) t m) : Then K Q (.exit i) t m := h
theorem Then.r (h : Q .ret t m) : Then K Q .ret t m := h
theorem InBlk.n (h : Q .normal t m) : InBlk id Q .normal t m := h
theorem InBlk.r (h : Q .ret t m) : InBlk id Q .ret t m := h
theorem InBlk.hit (h : Q .normal t m) : InBlk id Q (.exit id) t m := by simp only [InBlk, if_true]; exact h
theorem InBlk.miss {i : Nat} (hne : Nat.beq i id = false) (h : Q (.exit i) t m) : InBlk id Q (.exit i) t m := by
  have : i ≠ id := fun e => by rw [e] at hne; simp at hne
  simp only [InBlk, if_neg this]; exact h
theorem AW.condT {c : Operand} {a b : Code} {q : Bool} (hc : evo t c = some (.bool q)) (hq : q = true) (h : AW P nt m0 a t m Q) : AW P nt m0 (.cond c a b) t m Q := .cond hc (fun _ => h) (fun e => by rw [hq] at e; cases e)
theorem AW.condF {c : Operand} {a b : Code} {q : Bool} (hc : evo t c = some (.bool q)) (hq : q = false) (h : AW P nt m0 b t m Q) : AW P nt m0 (.cond c a b) t m Q := .cond hc (fun e => by rw [hq] at e; cases e) (fun _ => h)
def All (p : Nat → Value → Prop) : List (Nat × Value) → Prop
  | [] => True
  | (d, v) :: l => p d v ∧ All p l
theorem fr_all {p : Nat → Value → Prop} : ∀ {l : List (Nat × Value)}, All p l → ∀ i v, fr l i = some v → p i v
  | [], _, i, v, h => by simp [fr] at h
  | (d, x) :: l, ⟨h1, h2⟩, i, v, h => by
    by_cases e : i = d
    · subst e
      simp only [fr, put_same, Option.some.injEq] at h
      subst h; exact h1
    · simp only [fr, put_ne _ _ e] at h
      exact fr_all h2 i v h
theorem AW.weak {c : Code} {t1 : Fm} (hs : ∀ i v, t1 i = some v → t i = some v) (h : AW P nt m0 c t1 m Q) : AW P nt m0 c t m Q :=
  fun base R0 w0 R a w hb h0 hp ht => h base R0 w0 R a w hb h0 hp (ht.weak hs)
/-- A loop, the memory's names kept. -/
theorem AW.loopW {c : Code} (I : Nat → Fm → AM → Prop) (h0 : ∃ k l, All (fun i v => t i = some v) l ∧ I k (fr l) m)
    (round : ∀ k t m, I k t m → AW P nt m0 c t m (Then (fun t' m' => ∃ k' l, k' < k ∧ All (fun i v => t' i = some v) l ∧ I k' (fr l) m') Q)) : AW P nt m0 (.loop c) t m Q := by
  obtain ⟨k, l, h1, h2⟩ := h0
  refine .weak (fr_all h1) ?_
  intro base R0 w0 R ac w hb hm0 hp ht
  let J : Nat → Act → World → Prop := fun k a w => ∃ t m R, I k t m ∧ Post base m0 m R0 R w0 w ∧ FR R nt t a.tmps ∧ a.defers = ac.defers
  have hJ0 : ∃ k, J k ac w := ⟨k, fr l, m, R, h2, hp, ht, rfl⟩
  open Classical in
  let μ : Act → World → Nat := fun a w => if h : ∃ k, J k a w then Classical.choose (least _ h) else 0
  have hμ : ∀ a w (h : ∃ k, J k a w), J (μ a w) a w ∧ ∀ k, J k a w → μ a w ≤ k := fun a w h => by
    have hs := Classical.choose_spec (least _ h)
    have e : μ a w = Classical.choose (least _ h) := dif_pos h
    rw [e]
    exact ⟨hs.1, fun k hk => Nat.le_of_not_lt fun hlt => hs.2 k hlt hk⟩
  refine wp_loop (fun a w => ∃ k, J k a w) μ hJ0 fun a w hJ => ?_
  obtain ⟨⟨t2, m2, R2, q1, q2, q3, q4⟩, _⟩ := hμ a w hJ
  refine wp_mono (round _ _ _ q1 base R0 w0 R2 a w hb hm0 q2 q3) ?_
  rintro ex a' w' ⟨e, t', m', R', rfl, h2, h3, h4, h5⟩
  cases e with
  | normal =>
    obtain ⟨k', l', r1, r2, r3⟩ := h5
    have hJ' : J k' a' w' := ⟨fr l', m', R', r3, h3, h4.weak (fr_all r2), h2.trans q4⟩
    exact ⟨⟨k', hJ'⟩, Nat.lt_of_le_of_lt ((hμ a' w' ⟨k', hJ'⟩).2 k' hJ') r1⟩
  | exit i => exact ⟨.exit i, t', m', R', rfl, h2.trans q4, h3, h4, h5⟩
  | ret => exact ⟨.ret, t', m', R', rfl, h2.trans q4, h3, h4, h5⟩
def rid : Nat → Nat := fun i => i
theorem Ren.of_sl {N : Nat} {v : Value} {a o n : Nat} (h : Sl v a o n) (ha : a < N) : Ren rid N v v := by
  rcases h with ⟨rfl, _⟩ | ⟨c, _, rfl⟩ | ⟨_, o', k, rfl⟩
  · exact .sliceNil
  · exact .slice a o n c ha
  · exact .sliceSpot a o' k ha
theorem Ren.of_g0 {N : Nat} {ρ : Nat → Nat} {v : Value} (h : g0 v = true) : Ren ρ N v v := .of_rel (N := 0) (R := fun _ => none) (x := v) (g0_rel h) (fun _ _ => rfl) (Nat.zero_le _) (fun i hi => absurd hi (by omega))
/-- All that the call made is let go. -/
theorem Gc.drop {M L : AM} {l : List (Nat × Value)} (h : All (fun i v => t i = some v ∧ Ren rid M.length v v) l) : Gc M t (M ++ L) (fr l) M :=
  ⟨rid, Nat.le_refl _, fun _ _ => rfl, fun _ _ _ _ _ _ e => e, fun j b hj => .inl ⟨(List.getElem?_eq_some_iff.1 hj).1, get_old L hj, hj⟩, fun i v hi => by
    obtain ⟨h1, h2⟩ := fr_all h i v hi
    exact ⟨v, h1, h2⟩⟩
/-- Of the call's own blocks the first ones are kept. -/
theorem Gc.trim {M L L1 L2 : AM} {l : List (Nat × Value)} (hL : L = L1 ++ L2) (hc : ∀ b, some b ∈ L1 → isMapK b.kind = false ∧ ∀ v ∈ b.cells, Ren rid (M.length + L1.length) v v) (h : All (fun i v => t i = some v ∧ Ren rid (M.length + L1.length) v v) l) : Gc M t (M ++ L) (fr l) (M ++ L1) := by
  subst hL
  refine ⟨rid, by simp, fun _ _ => rfl, fun _ _ _ _ _ _ e => e, fun j b hj => ?_, fun i v hi => by
    obtain ⟨h1, h2⟩ := fr_all h i v hi
    exact ⟨v, h1, by simpa using h2⟩⟩
  rcases Nat.lt_or_ge j M.length with hlt | hge
  · rw [List.getElem?_append_left hlt] at hj
    exact .inl ⟨hlt, get_old _ hj, hj⟩
  · have hj' := hj
    rw [List.getElem?_append_right hge] at hj
    have hjl := (List.getElem?_eq_some_iff.1 hj).1
    refine .inr ⟨(hc b (List.mem_of_getElem? hj)).1, b, ?_, rfl, rfl, rfl, fun k v hk => ⟨v, hk, ?_⟩⟩
    · show (M ++ (L1 ++ L2))[j]? = _
      rw [List.getElem?_append_right hge, List.getElem?_append_left hjl]; exact hj
    · have := (hc b (List.mem_of_getElem? hj)).2 v (List.mem_of_getElem? hk)
      simpa using this
end
section
variable {P : Program} {nt : Nat} {ops : Array Oper} {t : Fm} {m : AM} {K : Fm → AM → Prop} {T : Nat} {p : String} {af : Array Edge}
theorem Step.id {o : Oper} (h : Step P nt ops o t m K) : Step P nt ops o t m K := h
def dOk (d : Option Tmp) (n : Nat) : Bool := match d with
  | some d => Nat.blt d n
  | none => true
theorem dOk_of {d : Option Tmp} (h : dOk d nt = true) : ∀ e, d = some e → e < nt := fun e he => by subst he; simpa [dOk] using h
theorem Step.gdT {o : Op} {dd : Option Tmp} {j : Nat} {b q : Bool} (hd : dOk dd nt = true) (hv : gval ops t j = some (.bool q)) (hq : q = b) (h1 : Step P nt ops ⟨dd, o, T, p, af, none⟩ t m K) : Step P nt ops ⟨dd, o, T, p, af, some (j, b)⟩ t m K :=
  .gd (dOk_of hd) hv (fun _ => h1) (fun h => by rw [hq] at h; cases b <;> cases h)
theorem Step.gdF {o : Op} {dd : Option Tmp} {j : Nat} {b q : Bool} (hd : dOk dd nt = true) (hv : gval ops t j = some (.bool q)) (hq : q = !b) (h1 : K (putO t dd undef) m) : Step P nt ops ⟨dd, o, T, p, af, some (j, b)⟩ t m K :=
  .gd (dOk_of hd) hv (fun h => by rw [hq] at h; cases b <;> cases h) (fun _ => h1)
theorem Step.pickT {d : Nat} {c x y : Operand} {q : Bool} {v u : Value} (hc : evo t c = some (.bool q)) (hx : evo t x = some v) (hy : evo t y = some u) (hlt : Nat.blt d nt = true) (hq : q = true) (h1 : K (put t d v) m) : Step P nt ops ⟨some d, .pick c x y, T, p, af, none⟩ t m K :=
  .pick hc hx hy hlt (fun _ => h1) (fun h => by rw [hq] at h; cases h)
theorem Step.pickF {d : Nat} {c x y : Operand} {q : Bool} {v u : Value} (hc : evo t c = some (.bool q)) (hx : evo t x = some v) (hy : evo t y = some u) (hlt : Nat.blt d nt = true) (hq : q = false) (h1 : K (put t d u) m) : Step P nt ops ⟨some d, .pick c x y, T, p, af, none⟩ t m K :=
  .pick hc hx hy hlt (fun h => by rw [hq] at h; cases h) (fun _ => h1)
end
theorem Sl.mk {a o n c : Nat} (h : n ≤ c) : Sl (.slice (some ⟨a, o, none⟩) n c) a o n := .inr (.inl ⟨c, h, rfl⟩)
theorem Sl.nil (a o : Nat) : Sl (.slice none 0 0) a o 0 := .inl ⟨rfl, rfl⟩
/-- A slice of ints that reads as l. -/
def Ints (m : AM) (v : Value) (l : List Int) : Prop := ∃ a o, Sl v a o l.length ∧ a < m.length ∧ ∀ k, k < l.length → Rd m a (o + k) (.int .i64 (l.getD k 0))
def Nats (m : AM) (v : Value) (l : List Nat) : Prop := ∃ a o, Sl v a o l.length ∧ a < m.length ∧ ∀ k, k < l.length → Rd m a (o + k) (.int .i64 ((l.getD k 0 : Nat) : Int))
theorem Ints.old {m : AM} {v : Value} {l : List Int} (L : AM) (h : Ints m v l) : Ints (m ++ L) v l := by
  obtain ⟨a, o, h1, h2, h3⟩ := h
  exact ⟨a, o, h1, by simp; omega, fun k hk => (h3 k hk).old L⟩
theorem Nats.old {m : AM} {v : Value} {l : List Nat} (L : AM) (h : Nats m v l) : Nats (m ++ L) v l := by
  obtain ⟨a, o, h1, h2, h3⟩ := h
  exact ⟨a, o, h1, by simp; omega, fun k hk => (h3 k hk).old L⟩
end Go.Proofs.YtedbjmgchfgabaaDoor.Abs
namespace Go.Proofs.YtedbjmgchfgabaaDoor.Abs
set_option linter.unusedSimpArgs false
set_option linter.unusedVariables false
open Go.RowKit
open Go.Proofs.YtedbjmgchfgabaaDoor.Sim
def RdL (m : AM) (i o : Nat) (c : List Value) : Prop := ∃ b, m[i]? = some (some b) ∧ ∀ (j : Nat) (v : Value), c[j]? = some v → b.cells[o + j]? = some v
theorem RdL.old {M : AM} (L : AM) {a o : Nat} {c : List Value} (h : RdL M a o c) : RdL (M ++ L) a o c := by
  obtain ⟨b, h1, h2⟩ := h
  exact ⟨b, get_old L h1, h2⟩
theorem RdL.at_ {m : AM} {a o : Nat} {c : List Value} (h : RdL m a o c) (j : Nat) {v : Value} (hj : c[j]? = some v) : Rd m a (o + j) v := by
  obtain ⟨b, h1, h2⟩ := h
  exact ⟨b, h1, h2 j v hj⟩
theorem RdL.new {M L : AM} {k : Nat} {b : Blk} {c : List Value} (h : L[k]? = some (some b)) (hb : b.cells = c) : RdL (M ++ L) (M.length + k) 0 c :=
  ⟨b, by rw [get_app]; exact h, fun j v hj => by rw [hb, Nat.zero_add]; exact hj⟩
theorem RdL.nil {m : AM} {i o : Nat} {b : Blk} (h : m[i]? = some (some b)) : RdL m i o [] := ⟨b, h, fun j v hj => by simp at hj⟩
theorem RdL.cons {m : AM} {i o : Nat} {v : Value} {c : List Value} (h : Rd m i o v) (hc : RdL m i (o + 1) c) : RdL m i o (v :: c) := by
  obtain ⟨b, h1, h2⟩ := h
  obtain ⟨b', k1, k2⟩ := hc
  rw [h1] at k1; injection k1 with k1; injection k1 with k1; subst k1
  refine ⟨b, h1, fun j x hj => ?_⟩
  cases j with
  | zero => simp at hj; subst hj; exact h2
  | succ j =>
    have := k2 j x (by simpa using hj)
    rwa [show o + (j + 1) = o + 1 + j by omega]
theorem RdL.one {m : AM} {i o : Nat} {v : Value} (h : Rd m i o v) : RdL m i o [v] := by
  obtain ⟨b, h1, h2⟩ := h
  exact ⟨b, h1, fun j x hj => by
    cases j with
    | zero => simp at hj; subst hj; exact h2
    | succ j => simp at hj⟩
section
variable {P : Program} {nt : Nat} {ops : Array Oper} {t : Fm} {m : AM} {K : Fm → AM → Prop} {d T : Nat} {p : String} {af : Array Edge}
/-- A whole struct is read. -/
theorem Step.loadL {x : Operand} {ty i o n : Nat} {c : List Value} (hx : evo t x = some (.pointer (some ⟨i, o, none⟩))) (hg : aggB P ty = some true) (hn : szB P ty = some n) (hlt : Nat.blt d nt = true) (h1 : RdL m i o c) (h3 : c.length = n) (hn1 : Nat.blt 0 n = true) (hK : K (put t d (.agg c.toArray)) m) :
    Step P nt ops ⟨some d, .load ty x, T, p, af, none⟩ t m K := by
  obtain ⟨b, k1, k2⟩ := h1
  simp at hn1
  have hlast := k2 (n - 1) c[n - 1] (List.getElem?_eq_getElem (by omega))
  have hlen := (List.getElem?_eq_some_iff.1 hlast).1
  refine .loads hx hg hn hlt k1 ?_ h3 hn1 hK
  apply List.ext_getElem?
  intro j
  by_cases hj : j < n
  · rw [List.getElem?_take, if_pos hj, List.getElem?_drop, k2 j c[j] (List.getElem?_eq_getElem (by omega)), List.getElem?_eq_getElem (by omega)]
  · rw [List.getElem?_take, if_neg hj, List.getElem?_eq_none (by omega)]
/-- A variable of one's own is set as a whole. -/
theorem Step.storeA {x y : Operand} {ty : TypeId} {k n : Nat} {v : Value} {b : Blk} {M L L' : AM} (hx : evo t x = some (.pointer (some ⟨M.length + k, 0, none⟩))) (hy : evo t y = some v) (hb : L[k]? = some (some b)) (hs : b.kind.solid = true) (hz : szB P ty = some n) (hc : v.cells.size = n) (h1 : v.cells.all (·.oneCell') = true) (ho : b.cells.length = n)
    (hL : L.set k (some { b with cells := v.cells.toList }) = L') (hK : K t (M ++ L')) : Step P nt ops ⟨none, .store ty x y, T, p, af, none⟩ t (M ++ L) K := by
  refine .stores hx hy hb hs hz hc h1 (by omega) ?_ hK
  rw [← hL]
  have : splice b.cells 0 v.cells.toList = v.cells.toList := by
    unfold splice
    rw [List.drop_eq_nil_of_le (by simp; omega)]
    simp
  rw [this]
theorem parts_eq {t : Fm} {parts : Array (Nat × Operand)} {ws : List Value} (hv : evL t (parts.toList.map (·.2)) = some ws) : (parts.map fun (i, x) => (i, evD t x)).toList = (parts.toList.map (·.1)).zip ws := by
  obtain ⟨_, h2⟩ := evL_of hv
  rw [← h2, Array.toList_map]
  generalize parts.toList = l
  induction l with
  | nil => rfl
  | cons x l ih => obtain ⟨i, y⟩ := x; simp [ih]
theorem Step.build {X : TypeId} {parts : Array (Nat × Operand)} {ws : List Value} {c : Array Value} (hv : evL t (parts.toList.map (·.2)) = some ws) (hb : abuild P X ((parts.toList.map (·.1)).zip ws) = some (.agg c)) (hlt : Nat.blt d nt = true) (hK : K (put t d (.agg c)) m) :
    Step P nt ops ⟨some d, .build X parts, T, p, af, none⟩ t m K := by
  obtain ⟨h1, _⟩ := evL_of hv
  refine .q rfl rfl hlt (fun x hx => h1 x (by simpa [Op.operands] using hx)) ?_ hK
  simp only [aquiet, parts_eq hv, hb]
theorem Step.buildS {X : TypeId} {len : Nat} {parts : Array (Nat × Operand)} {ws : List Value} {c : List Value} {M L L' : AM} (k : Nat) (hk : L.length = k) (hv : evL t (parts.toList.map (·.2)) = some ws)
    (hb : ∀ (m : AM) (n : Nat), abuildSlice P m n X len ((parts.toList.map (·.1)).zip ws) = some (.slice (some ⟨n, 0, none⟩) len len, m.set n (some { cells := c }))) (hlt : Nat.blt d nt = true) (hL : L ++ [some { cells := c }] = L') (hK : K (put t d (.slice (some ⟨M.length + k, 0, none⟩) len len)) (M ++ L')) :
    Step P nt ops ⟨some d, .buildSlice X len parts, T, p, af, none⟩ t (M ++ L) K := by
  subst hL
  obtain ⟨h1, _⟩ := evL_of hv
  refine .l rfl rfl hlt rfl (fun x hx => h1 x (by simpa [Op.operands] using hx)) (loudN hk rfl (v := .slice (some ⟨M.length + k, 0, none⟩) len len) ?_ hK)
  simp only [aloud, parts_eq hv, hb, set_new_at M L hk]
def gv (a n : Nat) : Value := if n = 0 then .slice none 0 0 else .slice (some ⟨a, 0, none⟩) n n
def gb (c : List Value) (s : Nat) : Option Blk := match c with
  | [] => none
  | x :: l => some { cells := x :: l, kind := .grow, size := s }
theorem gv_pos {a n : Nat} (h : 0 < n) : gv a n = .slice (some ⟨a, 0, none⟩) n n := if_neg (by omega)
theorem gb_pos {c : List Value} {s : Nat} (h : 0 < c.length) : gb c s = some { cells := c, kind := .grow, size := s } := by
  cases c with
  | nil => simp at h
  | cons x l => rfl
theorem gv_sl (a n : Nat) : Sl (gv a n) a 0 n := by
  unfold gv
  split
  · rename_i h; exact .inl ⟨rfl, h⟩
  · exact .inr (.inl ⟨n, Nat.le_refl _, rfl⟩)
theorem Step.appG {x y : Operand} {X Y e e' : TypeId} {s by_ : Nat} {z : Array Value} {k q r n xl : Nat} {c new : List Value} {M L L' : AM} (hk : L.length = k) (hx : evo t x = some (gv (M.length + q) n)) (hy : evo t y = some (.slice (some ⟨M.length + r, 0, none⟩) xl xl)) (hE : elemB P X = some (e, s, by_, z)) (hY : P.underlying Y = some (.slice e'))
    (hs : Nat.blt 0 s = true) (hxl : Nat.blt 0 xl = true) (hq : L[q]? = some (gb c s)) (hc : c.length = n * s) (hr : L[r]? = some (some { cells := new })) (hn : new.length = xl * s) (hn1 : new.all (·.oneCell') = true) (hb : (n + xl) * by_ ≤ 1099511627776 ∧ n + xl ≤ 1099511627776) (hlt : Nat.blt d nt = true)
    (hL : L.set q none ++ [some { cells := c ++ new, kind := .grow, size := s }] = L') (hK : K (put t d (.slice (some ⟨M.length + k, 0, none⟩) (n + xl) (n + xl))) (M ++ L')) :
    Step P nt ops ⟨some d, .call ⟨.builtin .append, #[x, y], #[X, Y]⟩, T, p, af, none⟩ t (M ++ L) K := by
  subst hL
  simp at hs hxl
  refine .l rfl rfl hlt rfl (by simp [Op.operands, Call.operands, hx, hy]) (loudN hk rfl (v := .slice (some ⟨M.length + k, 0, none⟩) (n + xl) (n + xl)) ?_ hK)
  have hrl : r < L.length := (List.getElem?_eq_some_iff.1 hr).1
  have hql : q < L.length := (List.getElem?_eq_some_iff.1 hq).1
  have hcell : acells ((M ++ L) ++ [none]) s xl (.slice (some ⟨M.length + r, 0, none⟩) xl xl) = some new := by
    have hg : ((M ++ L) ++ [none])[M.length + r]? = some (some { cells := new }) := by rw [List.append_assoc, get_app, List.getElem?_append_left hrl, hr]
    simp only [acells, hg]
    rw [if_neg (by omega), if_pos ⟨Nat.le_refl _, by simp [hn]⟩]
    simp [← hn]
  simp only [aloud, evD_of hx, evD_of hy, aappend, hE, hY, aSliceLen, hcell]
  rw [if_neg (by simp [hn1]; omega)]
  by_cases hn0 : n = 0
  · subst hn0
    have hc0 : c = [] := List.eq_nil_of_length_eq_zero (by omega)
    subst hc0
    have hset : L.set q none = L := by
      apply List.ext_getElem?
      intro j
      by_cases e : q = j
      · subst e; rw [List.getElem?_set_self hql, hq]; simp [gb]
      · rw [List.getElem?_set_ne e]
    simp only [gv, if_true]
    rw [if_neg (by omega), if_pos ⟨by simpa using hb.1, by simpa using hb.2⟩, set_new_at M L hk, hset]
    simp
  · have hc1 : 0 < c.length := by rw [hc]; exact Nat.mul_pos (by omega) hs
    rw [gb_pos hc1] at hq
    rw [gv_pos (by omega)]
    simp only
    have hg : ((M ++ L) ++ [none])[M.length + q]? = some (some { cells := c, kind := .grow, size := s }) := by rw [List.append_assoc, get_app, List.getElem?_append_left hql, hq]
    rw [if_neg (by omega)]
    simp only [hg]
    rw [if_neg (by omega), if_pos ⟨hb.1, hb.2, Nat.le_refl _⟩, if_pos ⟨by simp [hc], trivial⟩]
    simp only [List.drop_zero, Option.some.injEq, Prod.mk.injEq, true_and]
    have h1 : ((M ++ L) ++ [none]).set (M.length + q) none = (M ++ L.set q none) ++ [none] := by
      rw [List.append_assoc, set_app, List.set_append_left _ _ hql, List.append_assoc]
    rw [h1, List.take_of_length_le (by omega)]
    exact set_new_at M (L.set q none) (k := k) (by simpa using hk) _ none
/-- The call returns r; memory is as it was. -/
def Ret (r : Value) (m : AM) : Value → AM → Prop := fun v m' => r = v ∧ m = m'
/-- The call returns a slice of n elements in a new block b. -/
def New (b : Option Blk) (n : Nat) (m : AM) : Value → AM → Prop := fun v m' => v = .slice (some ⟨m.length, 0, none⟩) n n ∧ m' = m ++ [b]
theorem Step.callR {args : Array Operand} {tys : Array TypeId} {g : FuncId} {vs : List Value} {fn : Func} {b : Code} {r : Value} (hP : Fit P) (ha : evL t args.toList = some vs) (hf : P.funcs[g]? = some fn) (hb : fn.body = some b)
    (hlt : Nat.blt d nt = true) (h : ACall P g vs.toArray m (Ret r m)) (hK : K (put t d r) m) : Step P nt ops ⟨some d, .call ⟨.value (.func g), args, tys⟩, T, p, af, none⟩ t m K :=
  .callF hP ha hf hb hlt h (by rintro v m' ⟨rfl, rfl⟩; exact hK)
theorem Step.callN {args : Array Operand} {tys : Array TypeId} {g : FuncId} {vs : List Value} {fn : Func} {b : Code} {n k : Nat} {bl : Option Blk} {M L L' : AM} (hP : Fit P) (hk : L.length = k) (ha : evL t args.toList = some vs) (hf : P.funcs[g]? = some fn) (hb : fn.body = some b)
    (hlt : Nat.blt d nt = true) (h : ACall P g vs.toArray (M ++ L) (New bl n (M ++ L))) (hL : L ++ [bl] = L') (hK : K (put t d (.slice (some ⟨M.length + k, 0, none⟩) n n)) (M ++ L')) : Step P nt ops ⟨some d, .call ⟨.value (.func g), args, tys⟩, T, p, af, none⟩ t (M ++ L) K :=
  .callF hP ha hf hb hlt h (by
    rintro v m' ⟨rfl, rfl⟩
    subst hL
    rw [List.length_append, hk, List.append_assoc]
    exact hK)
/-- A call through a closure. -/
theorem Step.callV {x : Operand} {args : Array Operand} {tys : Array TypeId} {g : FuncId} {f c : Array Value} {vs : List Value} {fn : Func} {b : Code} {r : Value} (hP : Fit P) (hx : evo t x = some (.func (.func g) f c)) (ha : evL t args.toList = some vs) (hf : P.funcs[g]? = some fn) (hb : fn.body = some b)
    (hlt : Nat.blt d nt = true) (h : ACall P g (f ++ vs.toArray ++ c) m (Ret r m)) (hK : K (put t d r) m) : Step P nt ops ⟨some d, .call ⟨.value x, args, tys⟩, T, p, af, none⟩ t m K :=
  .call hP hx ha hf hb hlt h (by rintro v m' ⟨rfl, rfl⟩; exact hK)
/-- nil or not -/
theorem Step.eqNil {x y : Operand} {X Y : TypeId} {q : Addr} {n c : Nat} {e : TypeId} (hx : evo t x = some (.slice (some q) n c)) (hy : evo t y = some (.slice none 0 0)) (hX : P.underlying X = some (.slice e)) (hlt : Nat.blt d nt = true) (hK : K (put t d (.bool false)) m) : Step P nt ops ⟨some d, .binOp .eql X x y Y, T, p, af, none⟩ t m K :=
  .q rfl rfl hlt (by simp [Op.operands, hx, hy]) (by simp [aquiet, evD_of hx, evD_of hy, aint, anil, hX, bEq]) hK
end
/-- The block at p is the one that lay at q: other names, and what the call made besides is let go. -/
theorem Gc.mv {t : Fm} {M L L1 : AM} {p q : Nat} {l : List (Nat × Value)} (hp : p < L1.length) (hq : L1.length ≤ q) (hpq : L1[p]? = L[q]?) (hrest : ∀ j b, j ≠ p → L1[j]? = some (some b) → L[j]? = some (some b))
    (hc : ∀ b, some b ∈ L1 → isMapK b.kind = false ∧ ∀ v ∈ b.cells, Ren (fun i => if i = M.length + p then M.length + q else i) (M.length + L1.length) v v)
    (h : All (fun i v => ∃ v', t i = some v' ∧ Ren (fun i => if i = M.length + p then M.length + q else i) (M.length + L1.length) v v') l) : Gc M t (M ++ L) (fr l) (M ++ L1) := by
  refine ⟨fun i => if i = M.length + p then M.length + q else i, by simp, fun j hj => if_neg (by omega), fun i j b c hi hj e => ?_, fun j b hj => ?_, fun i v hi => by
    obtain ⟨v', h1, h2⟩ := fr_all h i v hi
    exact ⟨v', h1, by simpa using h2⟩⟩
  · have hi' := (List.getElem?_eq_some_iff.1 hi).1
    have hj' := (List.getElem?_eq_some_iff.1 hj).1
    simp at hi' hj'
    simp only at e
    split at e <;> split at e <;> omega
  · rcases Nat.lt_or_ge j M.length with hlt | hge
    · rw [List.getElem?_append_left hlt] at hj
      exact .inl ⟨hlt, get_old _ hj, hj⟩
    · have hj0 := hj
      rw [List.getElem?_append_right hge] at hj
      have hmem := List.mem_of_getElem? hj
      refine .inr ⟨(hc b hmem).1, b, ?_, rfl, rfl, rfl, fun k v hk => ⟨v, hk, ?_⟩⟩
      · by_cases e : j = M.length + p
        · subst e
          simp only [if_true]
          rw [Nat.add_sub_cancel_left] at hj
          rw [get_app, ← hpq]; exact hj
        · simp only [if_neg e]
          rw [List.getElem?_append_right hge]
          exact hrest _ b (by omega) hj
      · have := (hc b hmem).2 v (List.mem_of_getElem? hk)
        simpa using this
end Go.Proofs.YtedbjmgchfgabaaDoor.Abs
namespace Go.Proofs.YtedbjmgchfgabaaDoor.Abs
set_option linter.unusedSimpArgs false
set_option linter.unusedVariables false
open Go.RowKit
open Go.Proofs.YtedbjmgchfgabaaDoor.Sim
/-- From here a round may begin anew with the frame l and the blocks L. -/
def Back (M : AM) (t : Fm) (m : AM) (l : List (Nat × Value)) (L : AM) : Prop := (m = M ++ L ∧ All (fun i v => t i = some v) l) ∨ Gc M t m (fr l) (M ++ L)
section
variable {P : Program} {nt : Nat} {M L : AM} {t : Fm} {Q : AEx → Fm → AM → Prop} {ops : Array Oper} {K : Fm → AM → Prop} {d T : Nat} {p : String} {af : Array Edge}
theorem Back.ok {base : Nat} {R R0 : Pl} {m : AM} {w w0 : World} {u : Array Value} {l : List (Nat × Value)} (h : Back M t m l L) (h0 : MRep base R0 M w0) (hp : Post base M m R0 R w0 w) (ht : FR R nt t u) : ∃ R1, Post base M (M ++ L) R0 R1 w0 w ∧ FR R1 nt (fr l) u := by
  rcases h with ⟨rfl, h⟩ | h
  · exact ⟨R, hp, ht.weak (fr_all h)⟩
  · exact h.ok h0 hp ht
theorem AW.loopT {c : Code} (I : Nat → List (Nat × Value) → AM → Prop) (h0 : ∃ k l L', Back M t (M ++ L) l L' ∧ I k l L')
    (round : ∀ k l L, I k l L → AW P nt M c (fr l) (M ++ L) (Then (fun t' m' => ∃ k' l' L', k' < k ∧ Back M t' m' l' L' ∧ I k' l' L') Q)) : AW P nt M (.loop c) t (M ++ L) Q := by
  intro base R0 w0 R ac w hb hm0 hp ht
  let J : Nat → Act → World → Prop := fun k a w => ∃ l L R, I k l L ∧ Post base M (M ++ L) R0 R w0 w ∧ FR R nt (fr l) a.tmps ∧ a.defers = ac.defers
  have hJ0 : ∃ k, J k ac w := by
    obtain ⟨k, l, L', h1, h2⟩ := h0
    obtain ⟨R1, k1, k2⟩ := h1.ok hm0 hp ht
    exact ⟨k, l, L', R1, h2, k1, k2, rfl⟩
  open Classical in
  let μ : Act → World → Nat := fun a w => if h : ∃ k, J k a w then Classical.choose (least _ h) else 0
  have hμ : ∀ a w (h : ∃ k, J k a w), J (μ a w) a w ∧ ∀ k, J k a w → μ a w ≤ k := fun a w h => by
    have hs := Classical.choose_spec (least _ h)
    have e : μ a w = Classical.choose (least _ h) := dif_pos h
    rw [e]
    exact ⟨hs.1, fun k hk => Nat.le_of_not_lt fun hlt => hs.2 k hlt hk⟩
  refine wp_loop (fun a w => ∃ k, J k a w) μ hJ0 fun a w hJ => ?_
  obtain ⟨⟨l2, L2, R2, q1, q2, q3, q4⟩, _⟩ := hμ a w hJ
  refine wp_mono (round _ _ _ q1 base R0 w0 R2 a w hb hm0 q2 q3) ?_
  rintro ex a' w' ⟨e, t', m', R', rfl, h2, h3, h4, h5⟩
  cases e with
  | normal =>
    obtain ⟨k', l', L', r1, r2, r3⟩ := h5
    obtain ⟨R1, s1, s2⟩ := r2.ok hm0 h3 h4
    have hJ' : J k' a' w' := ⟨l', L', R1, r3, s1, s2, h2.trans q4⟩
    exact ⟨⟨k', hJ'⟩, Nat.lt_of_le_of_lt ((hμ a' w' ⟨k', hJ'⟩).2 k' hJ') r1⟩
  | exit i => exact ⟨.exit i, t', m', R', rfl, h2.trans q4, h3, h4, h5⟩
  | ret => exact ⟨.ret, t', m', R', rfl, h2.trans q4, h3, h4, h5⟩
theorem ACall.start {f : FuncId} {fn : Func} {c : Code} {args : Array Value} {Q : Value → AM → Prop} (hf : P.funcs[f]? = some fn) (hb : fn.body = some c) (hsz : Nat.ble args.size fn.ntmps = true)
    (h : AW P fn.ntmps M c (argF args) (M ++ []) (Ends P fn Q)) : ACall P f args M Q :=
  .intro hf hb (Nat.le_of_ble_eq_true hsz) (by rw [List.append_nil] at h; exact h)
/-- Cells that name no blocks. -/
def CellsOk (L : AM) : Prop := ∀ b, some b ∈ L → isMapK b.kind = false ∧ ∀ v ∈ b.cells, g0 v = true
theorem CellsOk.nil : CellsOk [] := fun b h => by simp at h
theorem CellsOk.none {L : AM} (h : CellsOk L) : CellsOk (none :: L) := fun b hb => h b (by simpa using hb)
theorem CellsOk.cons {b : Blk} {L : AM} (hb : ∀ v ∈ b.cells, g0 v = true) (h : CellsOk L) (hk : isMapK b.kind = false := by rfl) : CellsOk (some b :: L) := fun c hc => by
  rcases List.mem_cons.1 hc with e | e
  · injection e with e; subst e; exact ⟨hk, hb⟩
  · exact h c e
theorem Back.trim {m : AM} {l : List (Nat × Value)} {L1 L2 L3 : AM} (hm : m = M ++ L3) (hL : L3 = L1 ++ L2) (hc : CellsOk L1) (h : All (fun i v => t i = some v ∧ Ren rid (M.length + L1.length) v v) l) : Back M t m l L1 := by
  subst hm
  exact .inr (Gc.trim hL (fun b hb => ⟨(hc b hb).1, fun v hv => .of_g0 ((hc b hb).2 v hv)⟩) h)
theorem Back.mv {m : AM} {l : List (Nat × Value)} {L1 L3 : AM} (p q : Nat) (hm : m = M ++ L3) (hp : Nat.blt p L1.length = true) (hq : Nat.ble L1.length q = true) (hpq : L1[p]? = L3[q]?) (hrest : ∀ j b, j ≠ p → L1[j]? = some (some b) → L3[j]? = some (some b)) (hc : CellsOk L1)
    (h : All (fun i v => ∃ v', t i = some v' ∧ Ren (fun i => if i = M.length + p then M.length + q else i) (M.length + L1.length) v v') l) : Back M t m l L1 := by
  subst hm
  exact .inr (Gc.mv (by simpa using hp) (Nat.le_of_ble_eq_true hq) hpq hrest (fun b hb => ⟨(hc b hb).1, fun v hv => .of_g0 ((hc b hb).2 v hv)⟩) h)
theorem Ren.slice_mv {N p q : Nat} {l c o n : Nat} (h : N + p < n) : Ren (fun i => if i = N + p then N + q else i) n (.slice (some ⟨N + p, o, none⟩) l c) (.slice (some ⟨N + q, o, none⟩) l c) := by
  have := Ren.slice (ρ := fun i => if i = N + p then N + q else i) (n := n) (N + p) o l c h
  simpa using this
/-- At the end: all that the call made is let go. -/
theorem AW.retD {l : List (Nat × Value)} (h : All (fun i v => t i = some v ∧ Ren rid M.length v v) l) (hQ : Q .ret (fr l) M) : AW P nt M .ret t (M ++ L) Q := .gc (Gc.drop h) (.ret hQ)
/-- At the end: of the blocks that the call made the first ones stay. -/
theorem AW.retT {l : List (Nat × Value)} {L1 L2 : AM} (hL : L = L1 ++ L2) (hc : CellsOk L1) (h : All (fun i v => t i = some v ∧ Ren rid (M.length + L1.length) v v) l) (hQ : Q .ret (fr l) (M ++ L1)) : AW P nt M .ret t (M ++ L) Q :=
  .gc (Gc.trim hL (fun b hb => ⟨(hc b hb).1, fun v hv => .of_g0 ((hc b hb).2 v hv)⟩) h) (.ret hQ)
theorem AW.retB {l : List (Nat × Value)} {L1 : AM} (hB : Back M t (M ++ L) l L1) (hQ : Q .ret (fr l) (M ++ L1)) : AW P nt M .ret t (M ++ L) Q := by
  intro base R0 w0 R a w hb h0 hp ht
  obtain ⟨R1, k1, k2⟩ := hB.ok h0 hp ht
  exact AW.ret hQ base R0 w0 R1 a w hb h0 k1 k2
theorem Step.ix1z {x y : Operand} {a n k X : Nat} {kk : IntKind} {v : Value} {m : AM} (hx : evo t x = some v) (hs : Sl v a 0 n) (hy : evo t y = some (.int kk ((k : Nat) : Int))) (he : elB P X = some 1) (hlt : Nat.blt d nt = true) (hk : k < n) (hK : K (put t d (.pointer (some ⟨a, k, none⟩))) m) : Step P nt ops ⟨some d, .indexAddr X x y, T, p, af, none⟩ t m K :=
  .ix1 hx hs hy he hlt hk (by simpa using hK)
end
def planB (P : Program) (ops : Array Oper) : Bool := match plan P ops ops.size (Array.replicate ops.size false) with
  | some q => q == List.range ops.size
  | none => false
def AWo (P : Program) (nt : Nat) (ops : Array Oper) : List Oper → Fm → AM → (Fm → AM → Prop) → Prop
  | [], t, m, Q => Q t m
  | o :: rest, t, m, Q => Step P nt ops o t m (fun t m => AWo P nt ops rest t m Q)
section
variable {P : Program} {nt : Nat} {ops : Array Oper} {t : Fm} {m m0 : AM}
theorem AWo.nil {Q : Fm → AM → Prop} (h : Q t m) : AWo P nt ops [] t m Q := h
theorem AWo.cons {o : Oper} {rest : List Oper} {Q : Fm → AM → Prop} (h : Step P nt ops o t m (fun t m => AWo P nt ops rest t m Q)) : AWo P nt ops (o :: rest) t m Q := h
theorem AWo.to {Q : Fm → AM → Prop} : ∀ (l : List Oper) (k : Nat) (t : Fm) (m : AM), (∀ j, l[j]? = ops[k + j]?) → AWo P nt ops l t m Q → AWi P nt ops (List.range' k l.length) t m Q
  | [], _, _, _, _, h => h
  | o :: rest, k, t, m, hl, h => by
    rw [List.length_cons, List.range'_succ]
    refine ⟨o, by have := hl 0; simpa using this.symm, ?_⟩
    exact Step.mono h fun v m' hk => AWo.to rest (k + 1) _ _ (fun j => by have := hl (j + 1); simpa [Nat.add_assoc, Nat.add_comm 1 j] using this) hk
theorem AW.regL {id : Nat} {l : List Oper} {Q : AEx → Fm → AM → Prop} (h : AWo P nt l.toArray l t m (fun t m => Q .normal t m)) : AW P nt m0 (.region id l.toArray false) t m Q :=
  .reg rfl (by
    have := AWo.to l 0 t m (by simp) h
    simpa [List.range_eq_range'] using this)
/-- A region that draws, and whose plan is the order of the text. -/
theorem AW.drawL (hP : Fit P) {id : Nat} {l : List Oper} {Q : AEx → Fm → AM → Prop} (hl : planB P l.toArray = true) (h : AWo P nt l.toArray l t m (fun t m => Q .normal t m)) : AW P nt m0 (.region id l.toArray true) t m Q := by
  unfold planB at hl
  split at hl
  · rename_i q hq
    have e := eq_of_beq hl
    subst e
    exact .draw hP hq (by
      have := AWo.to l 0 t m (by simp) h
      simpa [List.range_eq_range'] using this)
  · cases hl
end
def iv (l : List Int) : List Value := l.map (.int .i64)
def bv (l : List Bool) : List Value := l.map .bool
theorem iv_get {l : List Int} {k : Nat} (h : k < l.length) : (iv l)[k]? = some (.int .i64 (l.getD k 0)) := by simp [iv, h]
theorem bv_get {l : List Bool} {k : Nat} (h : k < l.length) : (bv l)[k]? = some (.bool (l.getD k false)) := by simp [bv, h]
theorem iv_set (l : List Int) (k : Nat) (x : Int) : (iv l).set k (.int .i64 x) = iv (l.set k x) := by simp [iv, List.map_set]
theorem bv_set (l : List Bool) (k : Nat) (x : Bool) : (bv l).set k (.bool x) = bv (l.set k x) := by simp [bv, List.map_set]
theorem iv_rep (n : Nat) : List.replicate n (.int .i64 0) = iv (List.replicate n 0) := by simp [iv]
theorem bv_rep (n : Nat) : List.replicate n (.bool false) = bv (List.replicate n false) := by simp [bv]
theorem iv_len (l : List Int) : (iv l).length = l.length := by simp [iv]
theorem g0_iv (l : List Int) : ∀ v ∈ iv l, g0 v = true := fun v h => by
  obtain ⟨x, _, rfl⟩ := List.mem_map.1 h; rfl
theorem iv_one (l : List Int) : (iv l).all (·.oneCell') = true := by simp [iv, Value.oneCell']
theorem ints_new {M : AM} {L : AM} {k : Nat} {l : List Int} {b : Blk} (h : L[k]? = some (some b)) (hb : b.cells = iv l) (n : Nat) (hn : n = l.length) : Ints (M ++ L) (.slice (some ⟨M.length + k, 0, none⟩) n n) l := by
  subst hn
  refine ⟨M.length + k, 0, Sl.mk (Nat.le_refl _), by have := (List.getElem?_eq_some_iff.1 h).1; simp; omega, fun j hj => ?_⟩
  exact Rd.new h (by rw [hb, Nat.zero_add]; exact iv_get hj)
theorem ints_at {M : AM} {l : List Int} {b : Blk} {a : Nat} (h : M[a]? = some (some b)) (hb : b.cells = iv l) (n : Nat) (hn : n = l.length) : Ints M (.slice (some ⟨a, 0, none⟩) n n) l := by
  subst hn
  exact ⟨a, 0, Sl.mk (Nat.le_refl _), (List.getElem?_eq_some_iff.1 h).1, fun j hj => ⟨b, h, by rw [hb, Nat.zero_add]; exact iv_get hj⟩⟩
theorem ints_nil {M : AM} (hM : 0 < M.length) : Ints M (.slice none 0 0) [] := ⟨0, 0, .inl ⟨rfl, rfl⟩, hM, fun k hk => by simp at hk⟩
end Go.Proofs.YtedbjmgchfgabaaDoor.Abs
namespace Go.Proofs.YtedbjmgchfgabaaDoor.Abs.Jb
set_option linter.unusedSimpArgs false
set_option linter.unusedVariables false
open Go.RowKit
open Go.Proofs.YtedbjmgchfgabaaDoor.Sim
open Go.Proofs
theorem fit : Fit Tryd.prog := ⟨fun f fn h => by
  have key : (Tryd.prog.funcs.toList.all fun fn => !(fn.name == "runtime.NumGoroutine")) = true := by kernel_rfl
  have := List.all_eq_true.1 key fn (by simpa using Array.mem_of_getElem? h)
  simpa using this, by kernel_rfl⟩
theorem el23 : elemB Tryd.prog 59 = some (3, 1, 8, #[.int .i64 0]) := by kernel_rfl
theorem el84 : elemB Tryd.prog 42 = some (4, 1, 1, #[.bool false]) := by kernel_rfl
theorem un23 : Tryd.prog.underlying 59 = some (.slice 3) := by kernel_rfl
structure Two where
  cut : Int
  sew : Int
instance : Inhabited Two := ⟨⟨0, 0⟩⟩
def Two.cells (x : Two) : List Value := [.int .i64 x.cut, .int .i64 x.sew]
def Twos (m : AM) (v : Value) (l : List Two) : Prop := ∃ a o, Sl v a o l.length ∧ a < m.length ∧ ∀ k, k < l.length → RdL m a (o + k * 2) (l.getD k default).cells
theorem Twos.old {m : AM} {v : Value} {l : List Two} (L : AM) (h : Twos m v l) : Twos (m ++ L) v l := by
  obtain ⟨a, o, h1, h2, h3⟩ := h
  exact ⟨a, o, h1, by simp; omega, fun k hk => (h3 k hk).old L⟩
def tlim1 (x : Two) : Bool := decide (0 ≤ x.cut ∧ x.cut ≤ 10000 ∧ 0 ≤ x.sew ∧ x.sew ≤ 10000)
def tlim (j : List Two) : Prop := ∀ k, k < j.length → 0 ≤ (j.getD k default).cut ∧ (j.getD k default).cut ≤ 10000 ∧ 0 ≤ (j.getD k default).sew ∧ (j.getD k default).sew ≤ 10000
def twosB (j : List Two) : Bool := decide (j.length ≤ 40) && j.all tlim1
theorem tlim_of {j : List Two} (h : twosB j = true) : tlim j ∧ j.length ≤ 40 := by
  simp only [twosB, Bool.and_eq_true, decide_eq_true_eq, List.all_eq_true] at h
  refine ⟨fun k hk => ?_, h.1⟩
  have := h.2 _ (List.getElem_mem hk)
  simpa [tlim1, hk] using this
/-- One step of the span. -/
def spanS (j : List Two) (q : Int × Int) (i : Nat) : Int × Int := (q.1 + (j.getD i default).cut, max (q.1 + (j.getD i default).cut) q.2 + (j.getD i default).sew)
def spanF (j : List Two) (l : List Nat) : Int × Int := l.foldl (spanS j) (0, 0)
theorem take_snoc {α : Type} [Inhabited α] (l : List α) (k : Nat) (d : α) (h : k < l.length) : l.take (k + 1) = l.take k ++ [l.getD k d] := by
  rw [List.take_succ_eq_append_getElem h]; simp [h]
set_option maxRecDepth 100000 in
theorem span_ok {m : AM} {v w : Value} {j : List Two} {l : List Nat} (hj : Twos m v j) (hl : Nats m w l) (hin : ∀ k, k < l.length → l.getD k 0 < j.length) (hlim : tlim j) (hlen : l.length ≤ 1000) :
    ACall Tryd.prog 60 #[v, w] m (Ret (.int .i64 (spanF j l).2) m) := by
  obtain ⟨a, o, h1, h2, h3⟩ := hj
  obtain ⟨b, u, k1, k2, k3⟩ := hl
  refine ACall.start Tryd.func60 rfl rfl ?_
  (repeat (first | (with_reducible refine AWo.cons ?_) | ((with_reducible refine Step.id ?_); first | ((with_reducible apply Step.move); exact rfl; exact rfl) | ((with_reducible apply Step.assign); exact rfl; exact rfl) | ((with_reducible apply Step.len); exact rfl; (focus (assumption)); (focus (decide +kernel)); exact rfl)) | (with_reducible refine AWo.nil ?_) | ((with_reducible apply AW.seq)) | ((with_reducible apply Then.n)) | ((with_reducible apply AW.regL)) | ((with_reducible apply AW.block))))
  refine AW.loopT (fun n t L => ∃ (k : Nat) (c s : Int), n = l.length - k ∧ k ≤ l.length ∧ L = [] ∧ (c, s) = spanF j (l.take k) ∧ 0 ≤ c ∧ c ≤ 10000 * k ∧ 0 ≤ s ∧ s ≤ 20000 * k ∧
    t = [(0, v), (1, w), (5, .int .i64 c), (6, .int .i64 s), (9, w), (10, .int .i64 (l.length : Nat)), (11, .int .i64 (k : Nat))]) ⟨_, _, _, (Or.inl ⟨rfl, (by repeat (first | exact trivial | (refine And.intro rfl ?_)))⟩), 0, 0, 0, rfl, Nat.zero_le _, rfl, rfl, by omega, by omega, by omega, by omega, rfl⟩ ?_
  rintro n t L ⟨k, c, s, rfl, hk, rfl, es, e1, e2, e3, e4, rfl⟩
  rcases Nat.lt_or_ge k l.length with hlt | hge
  · have ts := take_snoc l k 0 hlt
    have hi := hin k hlt
    obtain ⟨c1, c2, c3, c4⟩ := hlim _ hi
    have es : spanF j (l.take (k + 1)) = spanS j (c, s) (l.getD k 0) := by rw [ts, es]; simp [spanF]
    have r1 := k3 k hlt
    have r2 := h3 _ hi
    generalize l.getD k 0 = i at ts hi c1 c2 c3 c4 es r1 r2
    (repeat (first | (with_reducible refine AWo.cons ?_) | ((with_reducible refine Step.id ?_); first | ((with_reducible apply Step.move); exact rfl; exact rfl) | ((with_reducible apply Step.assign); exact rfl; exact rfl) | ((with_reducible apply Step.load); exact rfl; (focus (decide +kernel)); exact rfl; (focus (first | exact Rd.old _ (by assumption) | exact Rd.old _ (r2.at_ 0 rfl) | exact Rd.old _ (r2.at_ 1 rfl)))) | ((with_reducible apply Step.ix1); exact rfl; (focus (assumption)); exact rfl; (focus (decide +kernel)); exact rfl; (focus (omega))) | ((with_reducible apply Step.ix (s := 2)); exact rfl; (focus (assumption)); exact rfl; (focus (decide +kernel)); exact rfl; (focus (omega))) | ((with_reducible apply Step.field0); exact rfl; (focus (decide +kernel)); exact rfl) | ((with_reducible apply Step.field (k := 1)); exact rfl; (focus (decide +kernel)); exact rfl) | ((with_reducible apply Step.add); exact rfl; exact rfl; (focus (omega)); exact rfl) | ((with_reducible apply Step.lss); exact rfl; exact rfl; exact rfl) | ((with_reducible apply Step.max); exact rfl; exact rfl; exact rfl)) | (with_reducible refine AWo.nil ?_) | ((with_reducible apply AW.seq)) | ((with_reducible apply Then.n)) | ((with_reducible apply AW.regL)) | ((with_reducible apply AW.block)) | ((with_reducible apply InBlk.n)) | ((with_reducible apply AW.skip)) | ((with_reducible apply AW.condT); exact rfl; (focus ((simp only [decide_eq_true_eq, decide_eq_false_iff_not, Bool.not_eq_true', Bool.not_eq_false', Bool.not_true, Bool.not_false]; first | assumption | omega))))))
    exact ⟨_, _, _, by omega, (Or.inl ⟨rfl, (by repeat (first | exact trivial | (refine And.intro rfl ?_)))⟩), k + 1, _, _, rfl, by omega, rfl, es.symm, by omega, by omega, by omega, by omega, rfl⟩
  · (repeat (first | (with_reducible refine AWo.cons ?_) | ((with_reducible refine Step.id ?_); first | ((with_reducible apply Step.move); exact rfl; exact rfl) | ((with_reducible apply Step.assign); exact rfl; exact rfl) | ((with_reducible apply Step.lss); exact rfl; exact rfl; exact rfl)) | (with_reducible refine AWo.nil ?_) | ((with_reducible apply AW.seq)) | ((with_reducible apply Then.n)) | ((with_reducible apply AW.regL)) | ((with_reducible apply AW.exit)) | ((with_reducible apply InBlk.hit)) | ((with_reducible apply Then.e)) | ((with_reducible apply AW.condF); exact rfl; (focus ((simp only [decide_eq_true_eq, decide_eq_false_iff_not, Bool.not_eq_true', Bool.not_eq_false', Bool.not_true, Bool.not_false]; first | assumption | omega))))))
    (refine AW.retD (l := [(4, _)]) (by repeat (first | exact trivial | (refine And.intro ⟨rfl, by (exact .int _ _)⟩ ?_))) ?_; (repeat (first | refine Then.r ?_ | refine InBlk.r ?_)))
    obtain rfl : k = l.length := by omega
    simp only [List.take_length] at es
    exact ⟨_, rfl, by rw [← es], rfl⟩
set_option maxRecDepth 100000 in
theorem upTo_ok {m : AM} (n : Nat) (hn : n ≤ 100000) : ACall Tryd.prog 82 #[.int .i64 (n : Nat)] m (New (some { cells := iv ((List.range n).map (Nat.cast : Nat → Int)) }) n m) := by
  refine ACall.start Tryd.func82 rfl rfl ?_
  (repeat (first | (with_reducible refine AWo.cons ?_) | ((with_reducible refine Step.id ?_); first | ((with_reducible apply Step.move); exact rfl; exact rfl) | ((with_reducible apply Step.assign); exact rfl; exact rfl) | ((with_reducible apply Step.len); exact rfl; (focus (exact Sl.mk (by omega))); (focus (decide +kernel)); exact rfl) | ((with_reducible apply Step.make1 0); exact rfl; exact rfl; exact rfl; exact el23; (focus (omega)); exact rfl; (focus (first | (simp only [List.nil_append, List.cons_append, List.set_cons_zero, List.set_cons_succ, iv_set, bv_set, iv_rep, bv_rep]; done) | (simp only [List.nil_append, List.cons_append, List.set_cons_zero, List.set_cons_succ, iv_set, bv_set, iv_rep, bv_rep]; rfl) | rfl)))) | (with_reducible refine AWo.nil ?_) | ((with_reducible apply AW.seq)) | ((with_reducible apply Then.n)) | ((with_reducible apply AW.regL)) | ((with_reducible apply AW.block))))
  refine AW.loopT (fun r t L => ∃ k : Nat, r = n - k ∧ k ≤ n ∧ L = [some { cells := iv ((List.range k).map (Nat.cast : Nat → Int) ++ List.replicate (n - k) 0) }] ∧
    t = [(3, .slice (some ⟨m.length + 0, 0, none⟩) n n), (8, .int .i64 (n : Nat)), (9, .int .i64 (k : Nat))]) ⟨_, _, _, (Or.inl ⟨rfl, (by repeat (first | exact trivial | (refine And.intro rfl ?_)))⟩), 0, rfl, Nat.zero_le _, by simp, rfl⟩ ?_
  rintro r t L ⟨k, rfl, hk, rfl, rfl⟩
  rcases Nat.lt_or_ge k n with hlt | hge
  · (repeat (first | (with_reducible refine AWo.cons ?_) | ((with_reducible refine Step.id ?_); first | ((with_reducible apply Step.move); exact rfl; exact rfl) | ((with_reducible apply Step.assign); exact rfl; exact rfl) | ((with_reducible apply Step.ix1z); exact rfl; (focus (exact Sl.mk (by omega))); exact rfl; (focus (decide +kernel)); exact rfl; (focus (omega))) | ((with_reducible apply Step.add); exact rfl; exact rfl; (focus (omega)); exact rfl) | ((with_reducible apply Step.lss); exact rfl; exact rfl; exact rfl) | ((with_reducible apply Step.store (k := 0)); exact rfl; exact rfl; exact rfl; exact rfl; (focus (decide +kernel)); exact rfl; exact rfl; (focus (first | omega | (simp [iv, bv]; done) | (simp [iv, bv]; omega))); (focus (first | (simp only [List.nil_append, List.cons_append, List.set_cons_zero, List.set_cons_succ, iv_set, bv_set, iv_rep, bv_rep]; done) | (simp only [List.nil_append, List.cons_append, List.set_cons_zero, List.set_cons_succ, iv_set, bv_set, iv_rep, bv_rep]; rfl) | rfl)))) | (with_reducible refine AWo.nil ?_) | ((with_reducible apply AW.seq)) | ((with_reducible apply Then.n)) | ((with_reducible apply AW.regL)) | ((with_reducible apply AW.block)) | ((with_reducible apply InBlk.n)) | ((with_reducible apply AW.skip)) | ((with_reducible apply AW.condT); exact rfl; (focus ((simp only [decide_eq_true_eq, decide_eq_false_iff_not, Bool.not_eq_true', Bool.not_eq_false', Bool.not_true, Bool.not_false]; first | assumption | omega))))))
    refine ⟨_, _, _, by omega, (Or.inl ⟨rfl, (by repeat (first | exact trivial | (refine And.intro rfl ?_)))⟩), k + 1, rfl, by omega, ?_, rfl⟩
    have : ((List.range k).map (Nat.cast : Nat → Int) ++ List.replicate (n - k) 0).set k (k : Int) = (List.range (k + 1)).map (Nat.cast : Nat → Int) ++ List.replicate (n - (k + 1)) 0 := by
      rw [show n - k = (n - (k + 1)) + 1 by omega, List.replicate_succ, List.set_append_right _ _ (by simp)]
      simp [List.range_succ]
    rw [this]
  · (repeat (first | (with_reducible refine AWo.cons ?_) | ((with_reducible refine Step.id ?_); first | ((with_reducible apply Step.move); exact rfl; exact rfl) | ((with_reducible apply Step.assign); exact rfl; exact rfl) | ((with_reducible apply Step.lss); exact rfl; exact rfl; exact rfl)) | (with_reducible refine AWo.nil ?_) | ((with_reducible apply AW.seq)) | ((with_reducible apply Then.n)) | ((with_reducible apply AW.regL)) | ((with_reducible apply AW.exit)) | ((with_reducible apply InBlk.hit)) | ((with_reducible apply Then.e)) | ((with_reducible apply AW.condF); exact rfl; (focus ((simp only [decide_eq_true_eq, decide_eq_false_iff_not, Bool.not_eq_true', Bool.not_eq_false', Bool.not_true, Bool.not_false]; first | assumption | omega))))))
    obtain rfl : k = n := by omega
    (refine AW.retB (l := [(2, _)]) (Or.inl ⟨rfl, (by repeat (first | exact trivial | (refine And.intro rfl ?_)))⟩) ?_; (repeat (first | refine Then.r ?_ | refine InBlk.r ?_)))
    exact ⟨_, rfl, rfl, by simp⟩
end Go.Proofs.YtedbjmgchfgabaaDoor.Abs.Jb
namespace Go.Proofs.YtedbjmgchfgabaaDoor.Abs.Jb
set_option linter.unusedSimpArgs false
set_option linter.unusedVariables false
open Go.RowKit
open Go.Proofs.YtedbjmgchfgabaaDoor.Sim
open Go.Proofs
/-- The first number below n of which pr says yes; -1. -/
def idxF (pr : Nat → Bool) (n : Nat) : Int := match (List.range n).find? pr with
  | some k => k
  | none => -1
theorem find_hit {pr : Nat → Bool} {n k : Nat} (hk : k < n) (h0 : ∀ i, i < k → pr i = false) (h1 : pr k = true) : (List.range n).find? pr = some k := by
  rw [List.find?_range_eq_some]
  exact ⟨h1, by simpa using hk, fun j hj => by simp [h0 j hj]⟩
theorem find_miss {pr : Nat → Bool} {n : Nat} (h0 : ∀ i, i < n → pr i = false) : (List.range n).find? pr = none := by
  rw [List.find?_eq_none]
  intro x hx
  simp [h0 x (by simpa using hx)]
theorem idxF_hit {pr : Nat → Bool} {n k : Nat} (hk : k < n) (h0 : ∀ i, i < k → pr i = false) (h1 : pr k = true) : idxF pr n = k := by simp [idxF, find_hit hk h0 h1]
theorem idxF_miss {pr : Nat → Bool} {n : Nat} (h0 : ∀ i, i < n → pr i = false) : idxF pr n = -1 := by simp [idxF, find_miss h0]
theorem idxF_any (pr : Nat → Bool) (n : Nat) : decide (0 ≤ idxF pr n) = (List.range n).any pr := by
  unfold idxF
  cases h : (List.range n).find? pr with
  | none =>
    have : (List.range n).any pr = false := by
      rw [List.any_eq_false]
      intro x hx; simpa using List.find?_eq_none.1 h x hx
    simp [this]
  | some k =>
    have : (List.range n).any pr = true := List.any_eq_true.2 ⟨k, List.mem_of_find?_eq_some h, List.find?_some h⟩
    simp [this]
set_option maxRecDepth 100000 in
theorem f100_ok {m : AM} (x : Two) {b : Bool} (hb : (!tlim1 x) = b) : ACall Tryd.prog 81 #[.agg x.cells.toArray] m (Ret (.bool b) m) := by
  subst hb
  refine ACall.start Tryd.func81 rfl rfl ?_
  by_cases h : min x.cut x.sew < 0
  · (repeat (first | (with_reducible refine AWo.cons ?_) | ((with_reducible refine Step.id ?_); first | ((with_reducible apply Step.gdF); exact rfl; exact rfl; (focus ((simp only [decide_eq_true_eq, decide_eq_false_iff_not, Bool.not_eq_true', Bool.not_eq_false', Bool.not_true, Bool.not_false]; first | assumption | omega)))) | ((with_reducible apply Step.move); exact rfl; exact rfl) | ((with_reducible apply Step.assign); exact rfl; exact rfl) | ((with_reducible apply Step.load); exact rfl; (focus (decide +kernel)); exact rfl; (focus (exact Rd.new rfl rfl))) | ((with_reducible apply Step.field0); exact rfl; (focus (decide +kernel)); exact rfl) | ((with_reducible apply Step.field (k := 1)); exact rfl; (focus (decide +kernel)); exact rfl) | ((with_reducible apply Step.lss); exact rfl; exact rfl; exact rfl) | ((with_reducible apply Step.min); exact rfl; exact rfl; exact rfl) | ((with_reducible apply Step.pickT); exact rfl; exact rfl; exact rfl; exact rfl; (focus ((simp only [decide_eq_true_eq, decide_eq_false_iff_not, Bool.not_eq_true', Bool.not_eq_false', Bool.not_true, Bool.not_false]; first | assumption | omega)))) | ((with_reducible apply Step.box 0); exact rfl; exact rfl; (focus (kernel_rfl)); exact rfl; (focus (first | (simp only [List.nil_append, List.cons_append, List.set_cons_zero, List.set_cons_succ, iv_set, bv_set, iv_rep, bv_rep]; done) | (simp only [List.nil_append, List.cons_append, List.set_cons_zero, List.set_cons_succ, iv_set, bv_set, iv_rep, bv_rep]; rfl) | rfl)))) | (with_reducible refine AWo.nil ?_) | ((with_reducible apply AW.seq)) | ((with_reducible apply Then.n)) | ((with_reducible apply AW.regL))))
    (refine AW.retD (l := [(2, _)]) (by repeat (first | exact trivial | (refine And.intro ⟨rfl, by (exact .bool _)⟩ ?_))) ?_; (repeat (first | refine Then.r ?_ | refine InBlk.r ?_)))
    exact ⟨_, rfl, by simp [tlim1]; omega, rfl⟩
  · by_cases h2 : 10000 < max x.cut x.sew
    · have e : tlim1 x = false := by simp [tlim1]; omega
      (repeat (first | (with_reducible refine AWo.cons ?_) | ((with_reducible refine Step.id ?_); first | ((with_reducible apply Step.gdT); exact rfl; exact rfl; (focus ((simp only [decide_eq_true_eq, decide_eq_false_iff_not, Bool.not_eq_true', Bool.not_eq_false', Bool.not_true, Bool.not_false]; first | assumption | omega)))) | ((with_reducible apply Step.move); exact rfl; exact rfl) | ((with_reducible apply Step.assign); exact rfl; exact rfl) | ((with_reducible apply Step.load); exact rfl; (focus (decide +kernel)); exact rfl; (focus (exact Rd.new rfl rfl))) | ((with_reducible apply Step.field0); exact rfl; (focus (decide +kernel)); exact rfl) | ((with_reducible apply Step.field (k := 1)); exact rfl; (focus (decide +kernel)); exact rfl) | ((with_reducible apply Step.lss); exact rfl; exact rfl; exact rfl) | ((with_reducible apply Step.gtr); exact rfl; exact rfl; exact rfl) | ((with_reducible apply Step.max); exact rfl; exact rfl; exact rfl) | ((with_reducible apply Step.min); exact rfl; exact rfl; exact rfl) | ((with_reducible apply Step.pickF); exact rfl; exact rfl; exact rfl; exact rfl; (focus ((simp only [decide_eq_true_eq, decide_eq_false_iff_not, Bool.not_eq_true', Bool.not_eq_false', Bool.not_true, Bool.not_false]; first | assumption | omega)))) | ((with_reducible apply Step.box 0); exact rfl; exact rfl; (focus (kernel_rfl)); exact rfl; (focus (first | (simp only [List.nil_append, List.cons_append, List.set_cons_zero, List.set_cons_succ, iv_set, bv_set, iv_rep, bv_rep]; done) | (simp only [List.nil_append, List.cons_append, List.set_cons_zero, List.set_cons_succ, iv_set, bv_set, iv_rep, bv_rep]; rfl) | rfl)))) | (with_reducible refine AWo.nil ?_) | ((with_reducible apply AW.seq)) | ((with_reducible apply Then.n)) | ((with_reducible apply AW.regL))))
      (refine AW.retD (l := [(2, _)]) (by repeat (first | exact trivial | (refine And.intro ⟨rfl, by (exact .bool _)⟩ ?_))) ?_; (repeat (first | refine Then.r ?_ | refine InBlk.r ?_)))
      exact ⟨_, rfl, by rw [e, decide_eq_true h2]; rfl, rfl⟩
    · have e : tlim1 x = true := by simp [tlim1]; omega
      (repeat (first | (with_reducible refine AWo.cons ?_) | ((with_reducible refine Step.id ?_); first | ((with_reducible apply Step.gdT); exact rfl; exact rfl; (focus ((simp only [decide_eq_true_eq, decide_eq_false_iff_not, Bool.not_eq_true', Bool.not_eq_false', Bool.not_true, Bool.not_false]; first | assumption | omega)))) | ((with_reducible apply Step.move); exact rfl; exact rfl) | ((with_reducible apply Step.assign); exact rfl; exact rfl) | ((with_reducible apply Step.load); exact rfl; (focus (decide +kernel)); exact rfl; (focus (exact Rd.new rfl rfl))) | ((with_reducible apply Step.field0); exact rfl; (focus (decide +kernel)); exact rfl) | ((with_reducible apply Step.field (k := 1)); exact rfl; (focus (decide +kernel)); exact rfl) | ((with_reducible apply Step.lss); exact rfl; exact rfl; exact rfl) | ((with_reducible apply Step.gtr); exact rfl; exact rfl; exact rfl) | ((with_reducible apply Step.max); exact rfl; exact rfl; exact rfl) | ((with_reducible apply Step.min); exact rfl; exact rfl; exact rfl) | ((with_reducible apply Step.pickF); exact rfl; exact rfl; exact rfl; exact rfl; (focus ((simp only [decide_eq_true_eq, decide_eq_false_iff_not, Bool.not_eq_true', Bool.not_eq_false', Bool.not_true, Bool.not_false]; first | assumption | omega)))) | ((with_reducible apply Step.box 0); exact rfl; exact rfl; (focus (kernel_rfl)); exact rfl; (focus (first | (simp only [List.nil_append, List.cons_append, List.set_cons_zero, List.set_cons_succ, iv_set, bv_set, iv_rep, bv_rep]; done) | (simp only [List.nil_append, List.cons_append, List.set_cons_zero, List.set_cons_succ, iv_set, bv_set, iv_rep, bv_rep]; rfl) | rfl)))) | (with_reducible refine AWo.nil ?_) | ((with_reducible apply AW.seq)) | ((with_reducible apply Then.n)) | ((with_reducible apply AW.regL))))
      (refine AW.retD (l := [(2, _)]) (by repeat (first | exact trivial | (refine And.intro ⟨rfl, by (exact .bool _)⟩ ?_))) ?_; (repeat (first | refine Then.r ?_ | refine InBlk.r ?_)))
      exact ⟨_, rfl, by rw [e, decide_eq_false h2]; rfl, rfl⟩
set_option maxRecDepth 100000 in
theorem f121_ok {m : AM} {v : Value} {j : List Two} {g : FuncId} {cap : Array Value} {fn : Func} {bd : Code} (hj : Twos m v j) (hf : Tryd.prog.funcs[g]? = some fn) (hb : fn.body = some bd) (pr : Nat → Bool) (hcap : ∀ N, Ren rid N (.func (.func g) #[] cap) (.func (.func g) #[] cap))
    (hlen : j.length ≤ 100000) (hg : ∀ k, k < j.length → ACall Tryd.prog g (#[] ++ #[.agg (j.getD k default).cells.toArray] ++ cap) m (Ret (.bool (pr k)) m)) : ACall Tryd.prog 103 #[v, .func (.func g) #[] cap] m (Ret (.int .i64 (idxF pr j.length)) m) := by
  obtain ⟨a, o, h1, h2, h3⟩ := hj
  refine ACall.start Tryd.func103 rfl rfl ?_
  (repeat (first | (with_reducible refine AWo.cons ?_) | ((with_reducible refine Step.id ?_); first | ((with_reducible apply Step.move); exact rfl; exact rfl) | ((with_reducible apply Step.assign); exact rfl; exact rfl) | ((with_reducible apply Step.len); exact rfl; (focus (assumption)); (focus (decide +kernel)); exact rfl)) | (with_reducible refine AWo.nil ?_) | ((with_reducible apply AW.seq)) | ((with_reducible apply Then.n)) | ((with_reducible apply AW.regL)) | ((with_reducible apply AW.block))))
  refine AW.loopT (fun n t L => ∃ k : Nat, n = j.length - k ∧ k ≤ j.length ∧ (∀ i, i < k → pr i = false) ∧ L = [] ∧
    t = [(0, v), (1, .func (.func g) #[] cap), (7, .int .i64 (j.length : Nat)), (8, .int .i64 (k : Nat))]) ⟨_, _, _, (Or.inl ⟨rfl, (by repeat (first | exact trivial | (refine And.intro rfl ?_)))⟩), 0, rfl, Nat.zero_le _, by omega, rfl, rfl⟩ ?_
  rintro n t L ⟨k, rfl, hk, hz, rfl, rfl⟩
  rcases Nat.lt_or_ge k j.length with hlt | hge
  · cases hp : pr k with
    | true =>
      have hgk := hg k hlt
      rw [hp] at hgk
      (repeat (first | (with_reducible refine AWo.cons ?_) | ((with_reducible refine Step.id ?_); first | ((with_reducible apply Step.move); exact rfl; exact rfl) | ((with_reducible apply Step.assign); exact rfl; exact rfl) | ((with_reducible apply Step.loadL (n := 2)); exact rfl; (focus (decide +kernel)); (focus (decide +kernel)); exact rfl; (focus (exact RdL.old _ (h3 _ hlt))); exact rfl; exact rfl) | ((with_reducible apply Step.ix (s := 2)); exact rfl; (focus (assumption)); exact rfl; (focus (decide +kernel)); exact rfl; (focus (omega))) | ((with_reducible apply Step.lss); exact rfl; exact rfl; exact rfl) | ((with_reducible apply Step.callV fit); exact rfl; exact rfl; exact hf; exact hb; exact rfl; exact ((by rw [List.append_nil]; exact hgk)))) | (with_reducible refine AWo.nil ?_) | ((with_reducible apply AW.seq)) | ((with_reducible apply Then.n)) | ((with_reducible apply AW.regL)) | ((with_reducible apply AW.block)) | ((with_reducible apply AW.skip)) | ((with_reducible apply AW.condT); exact rfl; (focus (first | rfl | (simp only [decide_eq_true_eq, decide_eq_false_iff_not, Bool.not_eq_true', Bool.not_eq_false', Bool.not_true, Bool.not_false]; first | assumption | omega))))))
      (refine AW.retD (l := [(4, _)]) (by repeat (first | exact trivial | (refine And.intro ⟨rfl, by (exact .int _ _)⟩ ?_))) ?_; (repeat (first | refine Then.r ?_ | refine InBlk.r ?_)))
      exact ⟨_, rfl, by rw [idxF_hit hlt hz hp], rfl⟩
    | false =>
      have hgk := hg k hlt
      rw [hp] at hgk
      (repeat (first | (with_reducible refine AWo.cons ?_) | ((with_reducible refine Step.id ?_); first | ((with_reducible apply Step.move); exact rfl; exact rfl) | ((with_reducible apply Step.assign); exact rfl; exact rfl) | ((with_reducible apply Step.loadL (n := 2)); exact rfl; (focus (decide +kernel)); (focus (decide +kernel)); exact rfl; (focus (exact RdL.old _ (h3 _ hlt))); exact rfl; exact rfl) | ((with_reducible apply Step.ix (s := 2)); exact rfl; (focus (assumption)); exact rfl; (focus (decide +kernel)); exact rfl; (focus (omega))) | ((with_reducible apply Step.add); exact rfl; exact rfl; (focus (omega)); exact rfl) | ((with_reducible apply Step.lss); exact rfl; exact rfl; exact rfl) | ((with_reducible apply Step.callV fit); exact rfl; exact rfl; exact hf; exact hb; exact rfl; exact ((by rw [List.append_nil]; exact hgk)))) | (with_reducible refine AWo.nil ?_) | ((with_reducible apply AW.seq)) | ((with_reducible apply Then.n)) | ((with_reducible apply AW.regL)) | ((with_reducible apply AW.block)) | ((with_reducible apply InBlk.n)) | ((with_reducible apply AW.skip)) | ((with_reducible apply AW.condT); exact rfl; (focus ((simp only [decide_eq_true_eq, decide_eq_false_iff_not, Bool.not_eq_true', Bool.not_eq_false', Bool.not_true, Bool.not_false]; first | assumption | omega)))) | ((with_reducible apply AW.condF); exact rfl; (focus (rfl)))))
      exact ⟨_, _, _, by omega, (Or.inl ⟨rfl, (by repeat (first | exact trivial | (refine And.intro rfl ?_)))⟩), k + 1, rfl, by omega, fun i hi => by rcases Nat.lt_succ_iff_lt_or_eq.1 hi with h | h; exact hz i h; rw [h]; exact hp, rfl, rfl⟩
  · (repeat (first | (with_reducible refine AWo.cons ?_) | ((with_reducible refine Step.id ?_); first | ((with_reducible apply Step.assign); exact rfl; exact rfl) | ((with_reducible apply Step.lss); exact rfl; exact rfl; exact rfl)) | (with_reducible refine AWo.nil ?_) | ((with_reducible apply AW.seq)) | ((with_reducible apply Then.n)) | ((with_reducible apply AW.regL)) | ((with_reducible apply AW.exit)) | ((with_reducible apply InBlk.hit)) | ((with_reducible apply Then.e)) | ((with_reducible apply AW.condF); exact rfl; (focus ((simp only [decide_eq_true_eq, decide_eq_false_iff_not, Bool.not_eq_true', Bool.not_eq_false', Bool.not_true, Bool.not_false]; first | assumption | omega))))))
    obtain rfl : k = j.length := by omega
    (refine AW.retD (l := [(4, _)]) (by repeat (first | exact trivial | (refine And.intro ⟨rfl, by (exact .int _ _)⟩ ?_))) ?_; (repeat (first | refine Then.r ?_ | refine InBlk.r ?_)))
    exact ⟨_, rfl, by rw [idxF_miss hz], rfl⟩
set_option maxRecDepth 100000 in
theorem f99_ok {m : AM} {v : Value} {j : List Two} {g : FuncId} {cap : Array Value} {fn : Func} {bd : Code} (hj : Twos m v j) (hf : Tryd.prog.funcs[g]? = some fn) (hb : fn.body = some bd) (pr : Nat → Bool) (hcap : ∀ N, Ren rid N (.func (.func g) #[] cap) (.func (.func g) #[] cap))
    (hlen : j.length ≤ 100000) (hg : ∀ k, k < j.length → ACall Tryd.prog g (#[] ++ #[.agg (j.getD k default).cells.toArray] ++ cap) m (Ret (.bool (pr k)) m)) : ACall Tryd.prog 80 #[v, .func (.func g) #[] cap] m (Ret (.bool ((List.range j.length).any pr)) m) := by
  refine ACall.start Tryd.func80 rfl rfl ?_
  (repeat (first | (with_reducible refine AWo.cons ?_) | ((with_reducible refine Step.id ?_); first | ((with_reducible apply Step.move); exact rfl; exact rfl) | ((with_reducible apply Step.assign); exact rfl; exact rfl) | ((with_reducible apply Step.geq); exact rfl; exact rfl; exact rfl) | ((with_reducible apply Step.callR fit); exact rfl; exact Tryd.func103; exact rfl; exact rfl; exact ((by rw [List.append_nil]; exact f121_ok hj hf hb pr hcap hlen hg)))) | (with_reducible refine AWo.nil ?_) | ((with_reducible apply AW.seq)) | ((with_reducible apply Then.n)) | ((with_reducible apply AW.regL))))
  (refine AW.retD (l := [(4, _)]) (by repeat (first | exact trivial | (refine And.intro ⟨rfl, by (exact .bool _)⟩ ?_))) ?_; (repeat (first | refine Then.r ?_ | refine InBlk.r ?_)))
  exact ⟨_, rfl, by rw [idxF_any], rfl⟩
set_option maxRecDepth 100000 in
theorem twos_ok {m : AM} {v : Value} {j : List Two} (hj : Twos m v j) (hlen : j.length ≤ 100000) {b : Bool} (hb : twosB j = b) : ACall Tryd.prog 55 #[v] m (Ret (.bool b) m) := by
  subst hb
  obtain ⟨a, o, h1, h2, h3⟩ := id hj
  have hany : (List.range j.length).any (fun k => !tlim1 (j.getD k default)) = !j.all tlim1 := by
    rw [Bool.eq_iff_iff]
    simp only [List.any_eq_true, List.mem_range, Bool.not_eq_true', List.all_eq_false]
    constructor
    · rintro ⟨k, hk, e⟩; exact ⟨j[k], List.getElem_mem hk, by simpa [hk] using e⟩
    · rintro ⟨x, hx, e⟩
      obtain ⟨k, hk, rfl⟩ := List.getElem_of_mem hx
      exact ⟨k, hk, by simpa [hk] using e⟩
  refine ACall.start Tryd.func55 rfl rfl ?_
  by_cases h : (j.length : Int) ≤ 40
  · (repeat (first | (with_reducible refine AWo.cons ?_) | ((with_reducible refine Step.id ?_); first | ((with_reducible apply Step.gdT); exact rfl; exact rfl; (focus ((simp only [decide_eq_true_eq, decide_eq_false_iff_not, Bool.not_eq_true', Bool.not_eq_false', Bool.not_true, Bool.not_false]; first | assumption | omega)))) | ((with_reducible apply Step.move); exact rfl; exact rfl) | ((with_reducible apply Step.assign); exact rfl; exact rfl) | ((with_reducible apply Step.leq); exact rfl; exact rfl; exact rfl) | ((with_reducible apply Step.len); exact rfl; (focus (assumption)); (focus (decide +kernel)); exact rfl) | ((with_reducible apply Step.not); exact rfl; exact rfl) | ((with_reducible apply Step.pickT); exact rfl; exact rfl; exact rfl; exact rfl; (focus ((simp only [decide_eq_true_eq, decide_eq_false_iff_not, Bool.not_eq_true', Bool.not_eq_false', Bool.not_true, Bool.not_false]; first | assumption | omega)))) | ((with_reducible apply Step.callR fit); exact rfl; exact Tryd.func80; exact rfl; exact rfl; exact ((by rw [List.append_nil]; exact f99_ok hj Tryd.func81 rfl (fun k => !tlim1 (j.getD k default)) (fun _ => Ren.of_g0 rfl) hlen (fun k hk => f100_ok _ rfl))))) | (with_reducible refine AWo.nil ?_) | ((with_reducible apply AW.seq)) | ((with_reducible apply Then.n)) | ((with_reducible apply AW.regL))))
    (refine AW.retD (l := [(2, _)]) (by repeat (first | exact trivial | (refine And.intro ⟨rfl, by (exact .bool _)⟩ ?_))) ?_; (repeat (first | refine Then.r ?_ | refine InBlk.r ?_)))
    exact ⟨_, rfl, by rw [hany]; simp [twosB]; omega, rfl⟩
  · (repeat (first | (with_reducible refine AWo.cons ?_) | ((with_reducible refine Step.id ?_); first | ((with_reducible apply Step.gdF); exact rfl; exact rfl; (focus ((simp only [decide_eq_true_eq, decide_eq_false_iff_not, Bool.not_eq_true', Bool.not_eq_false', Bool.not_true, Bool.not_false]; first | assumption | omega)))) | ((with_reducible apply Step.move); exact rfl; exact rfl) | ((with_reducible apply Step.assign); exact rfl; exact rfl) | ((with_reducible apply Step.leq); exact rfl; exact rfl; exact rfl) | ((with_reducible apply Step.len); exact rfl; (focus (assumption)); (focus (decide +kernel)); exact rfl) | ((with_reducible apply Step.pickF); exact rfl; exact rfl; exact rfl; exact rfl; (focus ((simp only [decide_eq_true_eq, decide_eq_false_iff_not, Bool.not_eq_true', Bool.not_eq_false', Bool.not_true, Bool.not_false]; first | assumption | omega))))) | (with_reducible refine AWo.nil ?_) | ((with_reducible apply AW.seq)) | ((with_reducible apply Then.n)) | ((with_reducible apply AW.regL))))
    (refine AW.retD (l := [(2, _)]) (by repeat (first | exact trivial | (refine And.intro ⟨rfl, by (exact .bool _)⟩ ?_))) ?_; (repeat (first | refine Then.r ?_ | refine InBlk.r ?_)))
    exact ⟨_, rfl, by simp [twosB]; omega, rfl⟩
end Go.Proofs.YtedbjmgchfgabaaDoor.Abs.Jb
namespace Go.Proofs.YtedbjmgchfgabaaDoor.Abs
set_option linter.unusedSimpArgs false
set_option linter.unusedVariables false
open Go.RowKit
open Go.Proofs.YtedbjmgchfgabaaDoor.Sim
section
variable {P : Program} {nt : Nat} {ops : Array Oper} {t : Fm} {m : AM} {K : Fm → AM → Prop} {d T : Nat} {p : String} {af : Array Edge}
theorem still_bind {α β : Type} (s : Sem α) (f : α → Sem β) : Sim.still P (s.bind f) = match Sim.still P s with
  | some a => Sim.still P (f a)
  | none => none := by
  induction s with
  | pure a => rfl
  | program k ih => simp only [Sem.bind, Sim.still]; exact ih _
  | _ => rfl
theorem still_nil {X e : TypeId} (hX : P.underlying X = some (.slice e)) (n : Nat) : Sim.still P (Op.equalIn (n + 1) X (.slice none 0 0) (.slice none 0 0)) = some true := by
  rw [Op.equalIn]
  show Sim.still P (Sem.bind (underlying X) _) = _
  rw [still_bind]
  have : Sim.still P (underlying X) = some (.slice e) := by
    unfold underlying
    show Sim.still P (Sem.bind program _) = _
    rw [still_bind]
    simp [program, Sim.still, hX, pure]
  rw [this]
  rfl
theorem Step.nilNil {x y : Operand} {X Y e : TypeId} (hx : evo t x = some (.slice none 0 0)) (hy : evo t y = some (.slice none 0 0)) (hX : P.underlying X = some (.slice e)) (hlt : Nat.blt d nt = true) (hK : K (put t d (.bool true)) m) : Step P nt ops ⟨some d, .binOp .eql X x y Y, T, p, af, none⟩ t m K := by
  refine .ground rfl rfl hlt (by simp [Op.operands, hx, hy, g1, g0]) (fun h => by simp only [aquiet, evD_of hx, evD_of hy, aint, anil, hX]; simpa [evD_of hx, evD_of hy] using h) ?_ (by simp [g1, g0]) hK
  have he := still_nil hX 9999
  simp only [execOp, eqGuard, binOp, evD_of hx, evD_of hy, bind, Sem.bind, pure]
  show Sim.still P (((Op.equalIn (9999 + 1) X (.slice none 0 0) (.slice none 0 0)).bind _).bind _) = _
  rw [still_bind, still_bind, he]
  rfl
/-- append to an empty slice of one's own: its elements in a new block. -/
theorem Step.appE {x y : Operand} {X Y e e' : TypeId} {s by_ : Nat} {z : Array Value} {k q a o n c : Nat} {new : List Value} {M L L' : AM} (hk : L.length = k) (hx : evo t x = some (.slice (some ⟨M.length + q, 0, none⟩) 0 0)) (hy : evo t y = some (.slice (some ⟨a, o, none⟩) n c)) (hE : elemB P X = some (e, s, by_, z)) (hY : P.underlying Y = some (.slice e'))
    (hs : Nat.blt 0 s = true) (hq : L[q]? = some (some { cells := [] })) (hr : RdL (M ++ L) a o new) (hn : new.length = n * s) (hpos : 0 < n) (hn1 : new.all (·.oneCell') = true) (hb : n * by_ ≤ 1099511627776 ∧ n ≤ 1099511627776) (hlt : Nat.blt d nt = true)
    (hL : L ++ [some { cells := new, kind := .grow, size := s }] = L') (hK : K (put t d (.slice (some ⟨M.length + k, 0, none⟩) n n)) (M ++ L')) :
    Step P nt ops ⟨some d, .call ⟨.builtin .append, #[x, y], #[X, Y]⟩, T, p, af, none⟩ t (M ++ L) K := by
  subst hL
  simp at hs
  refine .l rfl rfl hlt rfl (by simp [Op.operands, Call.operands, hx, hy]) (loudN hk rfl (v := .slice (some ⟨M.length + k, 0, none⟩) n n) ?_ hK)
  obtain ⟨b, r1, r2⟩ := hr
  have hql : q < L.length := (List.getElem?_eq_some_iff.1 hq).1
  have hr' : ((M ++ L) ++ [none])[a]? = some (some b) := get_old _ r1
  have hg : ((M ++ L) ++ [none])[M.length + q]? = some (some { cells := [] }) := by rw [List.append_assoc, get_app, List.getElem?_append_left hql, hq]
  have hns : 0 < n * s := Nat.mul_pos hpos hs
  have hlast := r2 (n * s - 1) new[n * s - 1] (List.getElem?_eq_getElem (by omega))
  have hlen := (List.getElem?_eq_some_iff.1 hlast).1
  have htake : (b.cells.drop o).take (n * s) = new := by
    apply List.ext_getElem?
    intro j
    by_cases hj : j < n * s
    · rw [List.getElem?_take, if_pos hj, List.getElem?_drop, r2 j new[j] (List.getElem?_eq_getElem (by omega)), List.getElem?_eq_getElem (by omega)]
    · rw [List.getElem?_take, if_neg hj, List.getElem?_eq_none (by omega)]
  have hcell : acells ((M ++ L) ++ [none]) s n (.slice (some ⟨a, o, none⟩) n c) = some new := by
    simp only [acells, hr']
    rw [if_neg (by omega), if_pos ⟨Nat.le_refl _, by omega⟩, htake]
  simp only [aloud, evD_of hx, evD_of hy, aappend, hE, hY, aSliceLen, hcell]
  rw [if_neg (by simp [hn1]; omega), if_neg (by omega)]
  simp only [hg]
  rw [if_neg (by omega), if_pos ⟨by simpa using hb.1, by simpa using hb.2, Nat.le_refl _⟩, if_pos (by simp)]
  rw [set_new_at M L hk]
  simp
/-- append of nothing. -/
theorem Step.app0 {x y : Operand} {X Y e e' : TypeId} {s by_ : Nat} {z : Array Value} {k q c : Nat} {r : Addr} {M L L' : AM} (hk : L.length = k) (hx : evo t x = some (.slice (some ⟨M.length + q, 0, none⟩) 0 0)) (hy : evo t y = some (.slice (some r) 0 c)) (hE : elemB P X = some (e, s, by_, z)) (hY : P.underlying Y = some (.slice e'))
    (hs : Nat.blt 0 s = true) (hlt : Nat.blt d nt = true) (hL : L ++ [none] = L')
    (hK : K (put t d (.slice (some ⟨M.length + q, 0, none⟩) 0 0)) (M ++ L')) :
    Step P nt ops ⟨some d, .call ⟨.builtin .append, #[x, y], #[X, Y]⟩, T, p, af, none⟩ t (M ++ L) K := by
  subst hL
  simp at hs
  refine .l rfl rfl hlt rfl (by simp [Op.operands, Call.operands, hx, hy]) (loudN hk rfl (v := .slice (some ⟨M.length + q, 0, none⟩) 0 0) ?_ hK)
  obtain ⟨r1, r2, r3⟩ := r
  cases r3 <;> simp only [aloud, evD_of hx, evD_of hy, aappend, hE, hY, aSliceLen, acells] <;> simp [show s ≠ 0 by omega]
end
theorem Back.pad {M L : AM} {t : Fm} {l : List (Nat × Value)} (h : All (fun i v => t i = some v ∧ Ren rid (M.length + (L ++ [none]).length) v v) l) (hc : CellsOk L) : Back M t (M ++ L) l (L ++ [none]) := by
  refine .inr ⟨rid, by simp, fun _ _ => rfl, fun _ _ _ _ _ _ e => e, fun j b hj => ?_, fun i v hi => by
    obtain ⟨h1, h2⟩ := fr_all h i v hi
    exact ⟨v, h1, by simpa using h2⟩⟩
  have hj2 : (M ++ L)[j]? = some (some b) := by
    rw [← List.append_assoc] at hj
    rcases Nat.lt_or_ge j (M ++ L).length with hlt | hge
    · rwa [List.getElem?_append_left hlt] at hj
    · rw [List.getElem?_append_right hge] at hj
      cases q : j - (M ++ L).length with
      | zero => rw [q] at hj; simp at hj
      | succ q' => rw [q] at hj; simp at hj
  rcases Nat.lt_or_ge j M.length with hlt | hge
  · refine .inl ⟨hlt, hj2, ?_⟩
    rwa [List.getElem?_append_left hlt] at hj2
  · have hj3 := hj2
    rw [List.getElem?_append_right hge] at hj3
    exact .inr ⟨(hc b (List.mem_of_getElem? hj3)).1, b, hj2, rfl, rfl, rfl, fun k v hk => ⟨v, hk, .of_g0 ((hc b (List.mem_of_getElem? hj3)).2 v (List.mem_of_getElem? hk))⟩⟩
theorem CellsOk.gb {c : List Value} {s : Nat} {L : AM} (hb : ∀ v ∈ c, g0 v = true) (h : CellsOk L) : CellsOk (gb c s :: L) := by
  cases c with
  | nil => exact .none h
  | cons x l => exact .cons hb h
theorem Ren.of_gv {N a n : Nat} (h : a < N) : Ren rid N (gv a n) (gv a n) := by
  unfold Abs.gv
  split
  · exact .sliceNil
  · exact .slice _ _ _ _ h
/-- A new row, nil if it is empty. -/
def NewG (c : List Value) (s n : Nat) (m : AM) : Value → AM → Prop := fun v m' => v = gv (m.length + 0) n ∧ m' = m ++ [gb c s]
theorem Step.callG {P : Program} {nt : Nat} {ops : Array Oper} {t : Fm} {K : Fm → AM → Prop} {d T : Nat} {p : String} {af : Array Edge} {args : Array Operand} {tys : Array TypeId} {g : FuncId} {vs : List Value} {fn : Func} {b : Code} {n k s : Nat} {c : List Value} {M L L' : AM} (hP : Fit P) (hk : L.length = k) (ha : evL t args.toList = some vs) (hf : P.funcs[g]? = some fn) (hb : fn.body = some b)
    (hlt : Nat.blt d nt = true) (h : ACall P g vs.toArray (M ++ L) (NewG c s n (M ++ L))) (hL : L ++ [gb c s] = L') (hK : K (put t d (gv (M.length + k) n)) (M ++ L')) : Step P nt ops ⟨some d, .call ⟨.value (.func g), args, tys⟩, T, p, af, none⟩ t (M ++ L) K :=
  .callF hP ha hf hb hlt h (by
    rintro v m' ⟨rfl, rfl⟩
    subst hL
    rw [List.length_append, hk, List.append_assoc]
    exact hK)
end Go.Proofs.YtedbjmgchfgabaaDoor.Abs
namespace Go.Proofs.YtedbjmgchfgabaaDoor.Abs
set_option linter.unusedSimpArgs false
set_option linter.unusedVariables false
open Go.RowKit
open Go.Proofs.YtedbjmgchfgabaaDoor.Sim
open Go.Sort
variable {base : Nat} {R : Pl} {m : AM} {w : World}
theorem rel_int_cells {l : List Int} {cur : Array Value} {off : Nat} (h : ∀ (j : Nat) (v : Value), (iv l)[j]? = some v → ∃ v', cur[off + j]? = some v' ∧ Rel R v v' ∧ v'.oneCell' = true) (j : Nat) (hj : j < l.length) : cur[off + j]? = some (.int .i64 (l.getD j 0)) := by
  obtain ⟨v', h1, h2, _⟩ := h j _ (iv_get hj)
  rw [h1]
  cases h2; rfl
theorem sorted_post {i : Nat} {b : Blk} {p : Sim.Place} {l k : List Int} {n : Nat} {os : Array Obj} (h : MRep base R m w) (hi : m[i]? = some (some b)) (hs : b.kind.solid = true) (hp : R i = some p) (hb : b.cells = iv l) (hl : k.length = l.length) :
    Post base m (m.set i (some { b with cells := iv k })) R R w (grow (putRow (Value.int .i64) (Sort.ahead w n) p.block p.off k.toArray) os) := by
  have hr := h.of hi hp
  unfold BRep at hr
  obtain ⟨hlt, hr⟩ := hr
  have key : ∃ cur ty, w.heap[p.block]? = some (.cells cur ty (0, 0)) ∧ base ≤ p.block ∧ p.off + b.cells.length + p.extra * b.size ≤ cur.size ∧ (b.kind = .own → p.extra = 0) ∧
      ∀ (j : Nat) (v : Value), b.cells[j]? = some v → ∃ v', cur[p.off + j]? = some v' ∧ Rel R v v' ∧ v'.oneCell' = true := by
    split at hr
    · rename_i e; rw [e] at hs; cases hs
    · rename_i e; rw [e] at hs; cases hs
    · rename_i e; rw [e] at hs; cases hs
    · rename_i e; rw [e] at hs; cases hs
    · rename_i e; rw [e] at hs; cases hs
    · exact hr
  obtain ⟨cur, ty, k1, k2, k3, k4, k5⟩ := key
  have hcl : b.cells.length = l.length := by rw [hb, iv_len]
  let w1 := putRow (Value.int .i64) (Sort.ahead w n) p.block p.off k.toArray
  have hw1 : w1.heap[p.block]? = some (.cells (putCells (Value.int .i64) p.off k.toArray cur) ty (0, 0)) := by
    simp [w1, putRow, mapBlock, Sort.ahead, Array.getElem?_modify, k1, onCells]
  have hot : ∀ q, q ≠ p.block → w1.heap[q]? = w.heap[q]? := fun q hq => by
    simp only [w1, putRow, mapBlock, Sort.ahead, Array.getElem?_modify]
    rw [if_neg (Ne.symm hq)]
  have hsz : w1.heap.size = w.heap.size := by simp [w1, putRow, mapBlock, Sort.ahead]
  have hm1 : MRep base R (m.set i (some { b with cells := iv k })) w1 := by
    refine h.turn hi (Kind.solid_mine hs) hp _ (Kind.solid_mine hs) ?_ hot hsz
    unfold BRep
    refine ⟨by rw [hsz]; exact hlt, ?_⟩
    split
    · rename_i e; rw [e] at hs; cases hs
    · rename_i e; rw [e] at hs; cases hs
    · rename_i e; rw [e] at hs; cases hs
    · rename_i e; rw [e] at hs; cases hs
    · rename_i e; rw [e] at hs; cases hs
    · refine ⟨_, ty, hw1, k2, ?_, fun e => k4 e, fun j v hj => ?_⟩
      · simp only [putCells, Array.size_mapIdx, iv_len]
        rw [hl, ← hcl]; exact k3
      · simp only at hj
        have hjl : j < k.length := by
          have := (List.getElem?_eq_some_iff.1 hj).1
          simpa [iv_len] using this
        rw [iv_get hjl] at hj
        injection hj with hj; subst hj
        refine ⟨.int .i64 (k.getD j 0), ?_, .int _ _, rfl⟩
        have hcs : p.off + j < cur.size := by omega
        simp only [putCells, Array.getElem?_mapIdx, Array.getElem?_eq_getElem hcs, Option.map_some, Option.some.injEq]
        rw [if_pos ⟨by omega, by simpa using hjl⟩, Nat.add_sub_cancel_left]
        simp [hjl]
  refine ⟨.refl R, hm1.kept (fun q hq => ?_), rfl, rfl, rfl, by rw [size_grow]; show w.heap.size ≤ w1.heap.size + _; omega, fun q hq ho => ?_, fun q ho => .inr ?_⟩
  · simp only [grow]
    rw [Array.getElem?_append_left hq]
  · show (grow w1 os).heap[q]? = _
    simp only [grow]
    rw [Array.getElem?_append_left (by omega), hot q (fun e => ho ⟨i, b, p, hi, Kind.solid_mine hs, hp, e.symm⟩)]
  · obtain ⟨j, c, q', q1, q2, q3, q4⟩ := ho
    by_cases e : j = i
    · subst e; exact ⟨j, b, q', hi, Kind.solid_mine hs, q3, q4⟩
    · rw [List.getElem?_set_ne (fun x => e x.symm)] at q1
      exact ⟨j, c, q', q1, q2, q3, q4⟩
theorem holds_of {i : Nat} {b : Blk} {p : Sim.Place} {l : List Int} (h : MRep base R m w) (hi : m[i]? = some (some b)) (hs : b.kind.solid = true) (hp : R i = some p) (hb : b.cells = iv l) : Holds (Value.int .i64) w p.block p.off l.toArray ∧ p.block < w.heap.size := by
  have hr := h.of hi hp
  unfold BRep at hr
  obtain ⟨hlt, hr⟩ := hr
  refine ⟨fun j hj => ?_, hlt⟩
  have key : ∃ cur ty, w.heap[p.block]? = some (.cells cur ty (0, 0)) ∧
      ∀ (j : Nat) (v : Value), b.cells[j]? = some v → ∃ v', cur[p.off + j]? = some v' ∧ Rel R v v' ∧ v'.oneCell' = true := by
    split at hr
    · rename_i e; rw [e] at hs; cases hs
    · rename_i e; rw [e] at hs; cases hs
    · rename_i e; rw [e] at hs; cases hs
    · rename_i e; rw [e] at hs; cases hs
    · rename_i e; rw [e] at hs; cases hs
    · obtain ⟨cur, ty, a1, _, _, _, a5⟩ := hr; exact ⟨cur, ty, a1, a5⟩
  obtain ⟨cur, ty, k1, k5⟩ := key
  have hj' : j < l.length := by simpa using hj
  refine ⟨?_, ?_⟩
  · simp only [World.cell?, k1]
    rw [rel_int_cells (by rw [hb] at k5; exact k5) j hj']
    simp [hj']
  · simp [World.frozen?, k1]
/-- A contract of a sorting of ints, over the abstract memory. -/
theorem sort_call {P : Program} {f : FuncId} {i n : Nat} {b : Blk} {l k : List Int} (hi : m[i]? = some (some b)) (hs : b.kind.solid = true) (hb : b.cells = iv l) (hn : n = l.length) (hl : k.length = l.length)
    (h : ∀ (blk off cap : Nat) (w : World), Holds (Value.int .i64) w blk off l.toArray → blk < w.heap.size → Calls P f #[.slice (some ⟨blk, off, none⟩) l.length cap] w fun e w' => e = .returned (.tuple #[]) ∧ ∃ n os, w' = grow (putRow (Value.int .i64) (Sort.ahead w n) blk off k.toArray) os) :
    ACall P f #[.slice (some ⟨i, 0, none⟩) n n] m (fun v m' => v = .tuple #[] ∧ m' = m.set i (some { b with cells := iv k })) := by
  subst hn
  intro base R w args' hbase hm hargs
  have h1 := hargs.1
  have h2 := hargs.2 0 (by simp)
  obtain ⟨x, rfl⟩ : ∃ x, args' = #[x] := ⟨args'[0]'(by simp at h1; omega), by
    apply Array.ext
    · simp at h1; simp; omega
    · intro j a b; have : j = 0 := by simp at b; omega
      subst this; rfl⟩
  simp at h2
  cases h2 with
  | slice _ _ _ _ p hp hle =>
    obtain ⟨hH, hlt⟩ := holds_of hm hi hs hp hb
    refine (h p.block (p.off + 0) (l.length + p.extra) w hH hlt).mono ?_
    rintro e w' ⟨rfl, n, os, rfl⟩
    exact ⟨.tuple #[], .tuple #[], R, _, rfl, .tuple _ _ rfl (fun i hi => absurd hi (by simp)), sorted_post hm hi hs hp hb hl, rfl, rfl⟩
end Go.Proofs.YtedbjmgchfgabaaDoor.Abs
namespace Go.Proofs
set_option linter.unusedSimpArgs false
set_option linter.unusedVariables false
open Go.Shelf
def sortInt_ren : Go.Shelf.Ren := ⟨fun | 53 => 87 | 64 => 106 | 63 => 105 | 78 => 134 | 79 => 135 | 70 => 125 | 71 => 126 | 72 => 127 | 73 => 128 | 74 => 129 | 75 => 130 | 59 => 131 | 76 => 132 | 77 => 133 | 88 => 148 | 89 => 149 | 90 => 150 | 91 => 151 | 92 => 152 | 68 => 85 | 96 => 160 | n => n, fun | 22 => 59 | 23 => 3 | 3 => 3 | 51 => 175 | 0 => 0 | 67 => 204 | 69 => 181 | 4 => 4 | 61 => 197 | 60 => 196 | 44 => 201 | 5 => 5 | 9 => 9 | 75 => 210 | 79 => 214 | 83 => 223 | 84 => 224 | n => n, fun | n => n⟩
theorem sortInt : Go.Proofs.SlLaysN.n53 Tryd.prog sortInt_ren := {
  mixed := by kernel_rfl
  f53 := ⟨Tryd.f87.name, by decide, Tryd.func87.trans (congrArg some (by kernel_rfl))⟩
  f59 := ⟨Tryd.f131.name, by decide, Tryd.func131.trans (congrArg some (by kernel_rfl))⟩
  f63 := ⟨Tryd.f105.name, by decide, Tryd.func105.trans (congrArg some (by kernel_rfl))⟩
  f64 := Tryd.func106.trans (congrArg some (by kernel_rfl))
  f68 := ⟨Tryd.f85.name, by decide, Tryd.func85.trans (congrArg some (by kernel_rfl))⟩
  f70 := ⟨Tryd.f125.name, by decide, Tryd.func125.trans (congrArg some (by kernel_rfl))⟩
  f71 := ⟨Tryd.f126.name, by decide, Tryd.func126.trans (congrArg some (by kernel_rfl))⟩
  f72 := ⟨Tryd.f127.name, by decide, Tryd.func127.trans (congrArg some (by kernel_rfl))⟩
  f73 := ⟨Tryd.f128.name, by decide, Tryd.func128.trans (congrArg some (by kernel_rfl))⟩
  f74 := ⟨Tryd.f129.name, by decide, Tryd.func129.trans (congrArg some (by kernel_rfl))⟩
  f75 := ⟨Tryd.f130.name, by decide, Tryd.func130.trans (congrArg some (by kernel_rfl))⟩
  f76 := ⟨Tryd.f132.name, by decide, Tryd.func132.trans (congrArg some (by kernel_rfl))⟩
  f77 := ⟨Tryd.f133.name, by decide, Tryd.func133.trans (congrArg some (by kernel_rfl))⟩
  f78 := Tryd.func134.trans (congrArg some (by kernel_rfl))
  f79 := Tryd.func135.trans (congrArg some (by kernel_rfl))
  f88 := ⟨Tryd.f148.name, by decide, Tryd.func148.trans (congrArg some (by kernel_rfl))⟩
  f89 := Tryd.func149.trans (congrArg some (by kernel_rfl))
  f90 := Tryd.func150.trans (congrArg some (by kernel_rfl))
  f91 := ⟨Tryd.f151.name, by decide, Tryd.func151.trans (congrArg some (by kernel_rfl))⟩
  f92 := ⟨Tryd.f152.name, by decide, Tryd.func152.trans (congrArg some (by kernel_rfl))⟩
  f96 := ⟨Tryd.f160.name, by decide, Tryd.func160.trans (congrArg some (by kernel_rfl))⟩
  t0 := Tryd.underlying0
  a0 := Tryd.isAgg0
  z0 := Tryd.sizeOf0
  v0 := Tryd.zeroValue0
  t3 := Tryd.underlying3
  a3 := Tryd.isAgg3
  z3 := Tryd.sizeOf3
  v3 := Tryd.zeroValue3
  t4 := Tryd.underlying4
  a4 := Tryd.isAgg4
  z4 := Tryd.sizeOf4
  v4 := Tryd.zeroValue4
  t5 := Tryd.underlying5
  a5 := Tryd.isAgg5
  z5 := Tryd.sizeOf5
  v5 := Tryd.zeroValue5
  t9 := Tryd.underlying9
  a9 := Tryd.isAgg9
  z9 := Tryd.sizeOf9
  v9 := Tryd.zeroValue9
  t22 := Tryd.underlying59
  a22 := Tryd.isAgg59
  z22 := Tryd.sizeOf59
  v22 := Tryd.zeroValue59
  t23 := Tryd.underlying3
  a23 := Tryd.isAgg3
  z23 := Tryd.sizeOf3
  v23 := Tryd.zeroValue3
  t44 := Tryd.underlying201
  a44 := Tryd.isAgg201
  z44 := Tryd.sizeOf201
  v44 := Tryd.zeroValue201
  t51 := Tryd.underlying175
  a51 := Tryd.isAgg175
  z51 := Tryd.sizeOf175
  v51 := Tryd.zeroValue175
  t60 := Tryd.underlying196
  a60 := Tryd.isAgg196
  z60 := Tryd.sizeOf196
  v60 := Tryd.zeroValue196
  t61 := Tryd.underlying197
  a61 := Tryd.isAgg197
  z61 := Tryd.sizeOf197
  v61 := Tryd.zeroValue197
  t67 := Tryd.underlying204
  a67 := Tryd.isAgg204
  z67 := Tryd.sizeOf204
  v67 := Tryd.zeroValue204
  t69 := Tryd.underlying181
  a69 := Tryd.isAgg181
  z69 := Tryd.sizeOf181
  v69 := Tryd.zeroValue181
  t75 := Tryd.underlying210
  a75 := Tryd.isAgg210
  z75 := Tryd.sizeOf210
  v75 := Tryd.zeroValue210
  t79 := Tryd.underlying214
  a79 := Tryd.isAgg214
  z79 := Tryd.sizeOf214
  v79 := Tryd.zeroValue214
  t83 := Tryd.underlying223
  a83 := Tryd.isAgg223
  z83 := Tryd.sizeOf223
  v83 := Tryd.zeroValue223
  t84 := Tryd.underlying224
  a84 := Tryd.isAgg224
  z84 := Tryd.sizeOf224
  v84 := Tryd.zeroValue224 }
end Go.Proofs
namespace Go.Proofs.YtedbjmgchfgabaaDoor.Abs.Jb
set_option linter.unusedSimpArgs false
set_option linter.unusedVariables false
open Go.RowKit
open Go.Proofs.YtedbjmgchfgabaaDoor.Sim
open Go.Proofs
theorem bs23 {m : AM} {n : Nat} : abuildSlice Tryd.prog m n 59 0 [] = some (.slice (some ⟨n, 0, none⟩) 0 0, m.set n (some { cells := [] })) := by kernel_rfl
theorem rows_rdl {m : AM} {a o : Nat} {c : List Value} (hpos : 0 < c.length) (h : ∀ k, k < c.length → Rd m a (o + k) (c.getD k undef)) : RdL m a o c := by
  obtain ⟨b, h1, _⟩ := h 0 hpos
  refine ⟨b, h1, fun j v hj => ?_⟩
  have hjl := (List.getElem?_eq_some_iff.1 hj).1
  obtain ⟨b', k1, k2⟩ := h j hjl
  rw [h1] at k1; injection k1 with k1; injection k1 with k1; subst k1
  rw [k2]
  simp [← hj, hjl]
theorem ints_rdl {m : AM} {a o : Nat} {l : List Int} (hpos : 0 < l.length) (h : ∀ k, k < l.length → Rd m a (o + k) (.int .i64 (l.getD k 0))) : RdL m a o (iv l) :=
  rows_rdl (by simpa [iv] using hpos) fun k hk => by
    have hk' : k < l.length := by simpa [iv] using hk
    have := h k hk'
    simpa [iv, hk'] using this
set_option maxRecDepth 100000 in
theorem equal_ok {m : AM} {v w : Value} {l k : List Int} (hl : Ints m v l) (hk : Ints m w k) (hlen : l.length ≤ 100000) {b : Bool} (hb : decide (l = k) = b) : ACall Tryd.prog 88 #[v, w] m (Ret (.bool b) m) := by
  subst hb
  obtain ⟨a, o, h1, h2, h3⟩ := hl
  obtain ⟨c, u, k1, k2, k3⟩ := hk
  refine ACall.start Tryd.func88 rfl rfl ?_
  by_cases hn : (l.length : Int) = (k.length : Int)
  · (repeat (first | (with_reducible refine AWo.cons ?_) | ((with_reducible refine Step.id ?_); first | ((with_reducible apply Step.move); exact rfl; exact rfl) | ((with_reducible apply Step.assign); exact rfl; exact rfl) | ((with_reducible apply Step.neq); exact rfl; exact rfl; exact rfl) | ((with_reducible apply Step.len); exact rfl; (focus (assumption)); (focus (decide +kernel)); exact rfl)) | (with_reducible refine AWo.nil ?_) | ((with_reducible apply AW.seq)) | ((with_reducible apply Then.n)) | ((with_reducible apply AW.regL)) | ((with_reducible apply AW.block)) | ((with_reducible apply AW.skip)) | ((with_reducible apply AW.condF); exact rfl; (focus ((simp only [decide_eq_true_eq, decide_eq_false_iff_not, Bool.not_eq_true', Bool.not_eq_false', Bool.not_true, Bool.not_false]; first | assumption | omega))))))
    refine AW.loopT (fun n t L => ∃ i : Nat, n = l.length - i ∧ i ≤ l.length ∧ l.take i = k.take i ∧ L = [] ∧
      t = [(0, v), (1, w), (12, .int .i64 (l.length : Nat)), (13, .int .i64 (i : Nat))]) ⟨_, _, _, (Or.inl ⟨rfl, (by repeat (first | exact trivial | (refine And.intro rfl ?_)))⟩), 0, rfl, Nat.zero_le _, rfl, rfl, rfl⟩ ?_
    rintro n t L ⟨i, rfl, hi, he, rfl, rfl⟩
    rcases Nat.lt_or_ge i l.length with hlt | hge
    · have r1 := h3 i hlt
      have r2 := k3 i (by omega)
      have ts := take_snoc l i 0 hlt
      have tk := take_snoc k i 0 (by omega)
      by_cases hx : l.getD i 0 = k.getD i 0
      · (repeat (first | (with_reducible refine AWo.cons ?_) | ((with_reducible refine Step.id ?_); first | ((with_reducible apply Step.move); exact rfl; exact rfl) | ((with_reducible apply Step.assign); exact rfl; exact rfl) | ((with_reducible apply Step.load); exact rfl; (focus (decide +kernel)); exact rfl; (focus (exact Rd.old _ (by assumption)))) | ((with_reducible apply Step.ix1); exact rfl; (focus (assumption)); exact rfl; (focus (decide +kernel)); exact rfl; (focus (omega))) | ((with_reducible apply Step.add); exact rfl; exact rfl; (focus (omega)); exact rfl) | ((with_reducible apply Step.lss); exact rfl; exact rfl; exact rfl) | ((with_reducible apply Step.neq); exact rfl; exact rfl; exact rfl)) | (with_reducible refine AWo.nil ?_) | ((with_reducible apply AW.seq)) | ((with_reducible apply Then.n)) | ((with_reducible apply AW.regL)) | ((with_reducible apply AW.block)) | ((with_reducible apply AW.drawL fit); (focus (decide +kernel))) | ((with_reducible apply InBlk.n)) | ((with_reducible apply AW.skip)) | ((with_reducible apply AW.condT); exact rfl; (focus ((simp only [decide_eq_true_eq, decide_eq_false_iff_not, Bool.not_eq_true', Bool.not_eq_false', Bool.not_true, Bool.not_false]; first | assumption | omega)))) | ((with_reducible apply AW.condF); exact rfl; (focus ((simp only [decide_eq_true_eq, decide_eq_false_iff_not, Bool.not_eq_true', Bool.not_eq_false', Bool.not_true, Bool.not_false]; first | assumption | omega))))))
        exact ⟨_, _, _, by omega, (Or.inl ⟨rfl, (by repeat (first | exact trivial | (refine And.intro rfl ?_)))⟩), i + 1, rfl, by omega, by rw [ts, tk, he, hx], rfl, rfl⟩
      · (repeat (first | (with_reducible refine AWo.cons ?_) | ((with_reducible refine Step.id ?_); first | ((with_reducible apply Step.move); exact rfl; exact rfl) | ((with_reducible apply Step.assign); exact rfl; exact rfl) | ((with_reducible apply Step.load); exact rfl; (focus (decide +kernel)); exact rfl; (focus (exact Rd.old _ (by assumption)))) | ((with_reducible apply Step.ix1); exact rfl; (focus (assumption)); exact rfl; (focus (decide +kernel)); exact rfl; (focus (omega))) | ((with_reducible apply Step.lss); exact rfl; exact rfl; exact rfl) | ((with_reducible apply Step.neq); exact rfl; exact rfl; exact rfl)) | (with_reducible refine AWo.nil ?_) | ((with_reducible apply AW.seq)) | ((with_reducible apply Then.n)) | ((with_reducible apply AW.regL)) | ((with_reducible apply AW.block)) | ((with_reducible apply AW.drawL fit); (focus (decide +kernel))) | ((with_reducible apply AW.skip)) | ((with_reducible apply AW.condT); exact rfl; (focus ((simp only [decide_eq_true_eq, decide_eq_false_iff_not, Bool.not_eq_true', Bool.not_eq_false', Bool.not_true, Bool.not_false]; first | assumption | omega))))))
        (refine AW.retD (l := [(4, _)]) (by repeat (first | exact trivial | (refine And.intro ⟨rfl, by (exact .bool _)⟩ ?_))) ?_; (repeat (first | refine Then.r ?_ | refine InBlk.r ?_)))
        refine ⟨_, rfl, ?_, rfl⟩
        rw [decide_eq_false (fun e => hx (by rw [e]))]
    · (repeat (first | (with_reducible refine AWo.cons ?_) | ((with_reducible refine Step.id ?_); first | ((with_reducible apply Step.assign); exact rfl; exact rfl) | ((with_reducible apply Step.lss); exact rfl; exact rfl; exact rfl)) | (with_reducible refine AWo.nil ?_) | ((with_reducible apply AW.seq)) | ((with_reducible apply Then.n)) | ((with_reducible apply AW.regL)) | ((with_reducible apply AW.exit)) | ((with_reducible apply InBlk.hit)) | ((with_reducible apply Then.e)) | ((with_reducible apply AW.condF); exact rfl; (focus ((simp only [decide_eq_true_eq, decide_eq_false_iff_not, Bool.not_eq_true', Bool.not_eq_false', Bool.not_true, Bool.not_false]; first | assumption | omega))))))
      (refine AW.retD (l := [(4, _)]) (by repeat (first | exact trivial | (refine And.intro ⟨rfl, by (exact .bool _)⟩ ?_))) ?_; (repeat (first | refine Then.r ?_ | refine InBlk.r ?_)))
      refine ⟨_, rfl, ?_, rfl⟩
      rw [List.take_of_length_le (by omega), List.take_of_length_le (by omega)] at he
      rw [decide_eq_true he]
  · (repeat (first | (with_reducible refine AWo.cons ?_) | ((with_reducible refine Step.id ?_); first | ((with_reducible apply Step.move); exact rfl; exact rfl) | ((with_reducible apply Step.assign); exact rfl; exact rfl) | ((with_reducible apply Step.neq); exact rfl; exact rfl; exact rfl) | ((with_reducible apply Step.len); exact rfl; (focus (assumption)); (focus (decide +kernel)); exact rfl)) | (with_reducible refine AWo.nil ?_) | ((with_reducible apply AW.seq)) | ((with_reducible apply Then.n)) | ((with_reducible apply AW.regL)) | ((with_reducible apply AW.condT); exact rfl; (focus ((simp only [decide_eq_true_eq, decide_eq_false_iff_not, Bool.not_eq_true', Bool.not_eq_false', Bool.not_true, Bool.not_false]; first | assumption | omega))))))
    (refine AW.retD (l := [(4, _)]) (by repeat (first | exact trivial | (refine And.intro ⟨rfl, by (exact .bool _)⟩ ?_))) ?_; (repeat (first | refine Then.r ?_ | refine InBlk.r ?_)))
    refine ⟨_, rfl, ?_, rfl⟩
    rw [decide_eq_false (fun e => hn (by rw [e]))]
/-- What slices.Clone returns: nil of nil, else a new row. -/
def Cloned (l : List Int) (m : AM) : Value → AM → Prop := fun r m' => (l = [] ∧ r = .slice none 0 0 ∧ m' = m ++ [none]) ∨ ∃ kd : Kind, kd.solid = true ∧ r = .slice (some ⟨m.length, 0, none⟩) l.length l.length ∧ m' = m ++ [some { cells := iv l, kind := kd }]
set_option maxRecDepth 100000 in
theorem clone_ok {m : AM} {v : Value} {l : List Int} (hl : Ints m v l) (hlen : l.length ≤ 1000000) : ACall Tryd.prog 86 #[v] m (Cloned l m) := by
  obtain ⟨a, o, h1, h2, h3⟩ := hl
  refine ACall.start Tryd.func86 rfl rfl ?_
  rcases h1 with ⟨rfl, hn⟩ | ⟨c, hc, rfl⟩ | ⟨hn, o', k', rfl⟩
  · obtain rfl : l = [] := List.eq_nil_of_length_eq_zero hn
    (repeat (first | (with_reducible refine AWo.cons ?_) | ((with_reducible refine Step.id ?_); first | ((with_reducible apply Step.move); exact rfl; exact rfl) | ((with_reducible apply Step.assign); exact rfl; exact rfl) | ((with_reducible apply Step.nilNil); exact rfl; exact rfl; exact un23; exact rfl)) | (with_reducible refine AWo.nil ?_) | ((with_reducible apply AW.seq)) | ((with_reducible apply Then.n)) | ((with_reducible apply AW.regL)) | ((with_reducible apply AW.condT); exact rfl; (focus (rfl)))))
    refine AW.retB (l := [(2, _)]) (Back.pad (by repeat (first | exact trivial | (refine And.intro ⟨rfl, by (exact Ren.of_g0 rfl)⟩ ?_))) CellsOk.nil) ?_
    exact ⟨_, rfl, .inl ⟨rfl, rfl, rfl⟩⟩
  · by_cases hn : l.length = 0
    · obtain rfl : l = [] := List.eq_nil_of_length_eq_zero hn
      (repeat (first | (with_reducible refine AWo.cons ?_) | ((with_reducible refine Step.id ?_); first | ((with_reducible apply Step.move); exact rfl; exact rfl) | ((with_reducible apply Step.assign); exact rfl; exact rfl) | ((with_reducible apply Step.eqNil); exact rfl; exact rfl; exact un23; exact rfl) | ((with_reducible apply Step.buildS 0); exact rfl; exact rfl; exact (fun _ _ => bs23); exact rfl; (focus (first | (simp only [List.nil_append, List.cons_append, List.set_cons_zero, List.set_cons_succ, iv_set, bv_set, iv_rep, bv_rep]; done) | (simp only [List.nil_append, List.cons_append, List.set_cons_zero, List.set_cons_succ, iv_set, bv_set, iv_rep, bv_rep]; rfl) | rfl)))) | (with_reducible refine AWo.nil ?_) | ((with_reducible apply AW.seq)) | ((with_reducible apply Then.n)) | ((with_reducible apply AW.regL)) | ((with_reducible apply AW.skip)) | ((with_reducible apply AW.condF); exact rfl; (focus (rfl)))))
      ((with_reducible apply Step.app0 (k := 1)); exact rfl; exact rfl; exact rfl; exact el23; exact un23; exact rfl; exact rfl; (focus (first | (simp only [List.nil_append, List.cons_append, List.set_cons_zero, List.set_cons_succ, iv_set, bv_set, iv_rep, bv_rep]; done) | (simp only [List.nil_append, List.cons_append, List.set_cons_zero, List.set_cons_succ, iv_set, bv_set, iv_rep, bv_rep]; rfl) | rfl)))
      (repeat (first | (with_reducible refine AWo.cons ?_) | ((with_reducible refine Step.id ?_); ((with_reducible apply Step.assign); exact rfl; exact rfl)) | (with_reducible refine AWo.nil ?_) | ((with_reducible apply Then.n))))
      refine AW.retB (l := [(2, _)]) (L1 := [some { cells := [] }]) (Back.trim rfl rfl (by repeat (first | exact CellsOk.nil | refine CellsOk.cons (by (intro v hv; simp at hv; done)) ?_)) (by repeat (first | exact trivial | (refine And.intro ⟨rfl, by (exact .slice _ _ _ _ (by first | (simp; done) | omega | (simp; omega)))⟩ ?_)))) ?_
      exact ⟨_, rfl, .inr ⟨.own, rfl, rfl, rfl⟩⟩
    · have hr := ints_rdl (by omega) h3
      (repeat (first | (with_reducible refine AWo.cons ?_) | ((with_reducible refine Step.id ?_); first | ((with_reducible apply Step.move); exact rfl; exact rfl) | ((with_reducible apply Step.assign); exact rfl; exact rfl) | ((with_reducible apply Step.eqNil); exact rfl; exact rfl; exact un23; exact rfl) | ((with_reducible apply Step.buildS 0); exact rfl; exact rfl; exact (fun _ _ => bs23); exact rfl; (focus (first | (simp only [List.nil_append, List.cons_append, List.set_cons_zero, List.set_cons_succ, iv_set, bv_set, iv_rep, bv_rep]; done) | (simp only [List.nil_append, List.cons_append, List.set_cons_zero, List.set_cons_succ, iv_set, bv_set, iv_rep, bv_rep]; rfl) | rfl)))) | (with_reducible refine AWo.nil ?_) | ((with_reducible apply AW.seq)) | ((with_reducible apply Then.n)) | ((with_reducible apply AW.regL)) | ((with_reducible apply AW.skip)) | ((with_reducible apply AW.condF); exact rfl; (focus (rfl)))))
      ((with_reducible apply Step.appE (k := 1)); exact rfl; exact rfl; exact rfl; exact el23; exact un23; exact rfl; exact rfl; exact (hr.old _); (focus (simp [iv])); (focus (omega)); exact (iv_one _); (focus (omega)); exact rfl; (focus (first | (simp only [List.nil_append, List.cons_append, List.set_cons_zero, List.set_cons_succ, iv_set, bv_set, iv_rep, bv_rep]; done) | (simp only [List.nil_append, List.cons_append, List.set_cons_zero, List.set_cons_succ, iv_set, bv_set, iv_rep, bv_rep]; rfl) | rfl)))
      (repeat (first | (with_reducible refine AWo.cons ?_) | ((with_reducible refine Step.id ?_); ((with_reducible apply Step.assign); exact rfl; exact rfl)) | (with_reducible refine AWo.nil ?_) | ((with_reducible apply Then.n))))
      refine AW.retB (l := [(2, .slice (some ⟨m.length + 0, 0, none⟩) l.length l.length)]) (L1 := [some { cells := iv l, kind := .grow, size := 1 }]) (Back.mv 0 1 rfl rfl rfl rfl (by intro j b hj h; rcases j with _ | _ | _ | _ | _ | _ | j <;> simp_all) (by repeat (first | exact CellsOk.nil | refine CellsOk.cons (by exact g0_iv _) ?_)) (by repeat (first | exact trivial | (refine And.intro ⟨_, rfl, by (exact Ren.slice_mv (by first | (simp; done) | omega | (simp; omega)))⟩ ?_)))) ?_
      exact ⟨_, rfl, .inr ⟨.grow, rfl, rfl, rfl⟩⟩
  · obtain rfl : l = [] := List.eq_nil_of_length_eq_zero hn
    (repeat (first | (with_reducible refine AWo.cons ?_) | ((with_reducible refine Step.id ?_); first | ((with_reducible apply Step.move); exact rfl; exact rfl) | ((with_reducible apply Step.assign); exact rfl; exact rfl) | ((with_reducible apply Step.eqNil); exact rfl; exact rfl; exact un23; exact rfl) | ((with_reducible apply Step.buildS 0); exact rfl; exact rfl; exact (fun _ _ => bs23); exact rfl; (focus (first | (simp only [List.nil_append, List.cons_append, List.set_cons_zero, List.set_cons_succ, iv_set, bv_set, iv_rep, bv_rep]; done) | (simp only [List.nil_append, List.cons_append, List.set_cons_zero, List.set_cons_succ, iv_set, bv_set, iv_rep, bv_rep]; rfl) | rfl)))) | (with_reducible refine AWo.nil ?_) | ((with_reducible apply AW.seq)) | ((with_reducible apply Then.n)) | ((with_reducible apply AW.regL)) | ((with_reducible apply AW.skip)) | ((with_reducible apply AW.condF); exact rfl; (focus (rfl)))))
    ((with_reducible apply Step.app0 (k := 1)); exact rfl; exact rfl; exact rfl; exact el23; exact un23; exact rfl; exact rfl; (focus (first | (simp only [List.nil_append, List.cons_append, List.set_cons_zero, List.set_cons_succ, iv_set, bv_set, iv_rep, bv_rep]; done) | (simp only [List.nil_append, List.cons_append, List.set_cons_zero, List.set_cons_succ, iv_set, bv_set, iv_rep, bv_rep]; rfl) | rfl)))
    (repeat (first | (with_reducible refine AWo.cons ?_) | ((with_reducible refine Step.id ?_); ((with_reducible apply Step.assign); exact rfl; exact rfl)) | (with_reducible refine AWo.nil ?_) | ((with_reducible apply Then.n))))
    refine AW.retB (l := [(2, _)]) (L1 := [some { cells := [] }]) (Back.trim rfl rfl (by repeat (first | exact CellsOk.nil | refine CellsOk.cons (by (intro v hv; simp at hv; done)) ?_)) (by repeat (first | exact trivial | (refine And.intro ⟨rfl, by (exact .slice _ _ _ _ (by first | (simp; done) | omega | (simp; omega)))⟩ ?_)))) ?_
    exact ⟨_, rfl, .inr ⟨.own, rfl, rfl, rfl⟩⟩
end Go.Proofs.YtedbjmgchfgabaaDoor.Abs.Jb
namespace Go.Proofs.YtedbjmgchfgabaaDoor.Abs.Jb
set_option linter.unusedSimpArgs false
set_option linter.unusedVariables false
open Go.RowKit
open Go.Proofs.YtedbjmgchfgabaaDoor.Sim
open Go.Proofs
section
variable {P : Program} {nt : Nat} {ops : Array Oper} {t : Fm} {K : Fm → AM → Prop} {d T : Nat} {p : String} {af : Array Edge}
theorem Step.callC {args : Array Operand} {tys : Array TypeId} {g : FuncId} {vs : List Value} {fn : Func} {b : Code} {k : Nat} {l : List Int} {M L L0 : AM} {L1 : Kind → AM} (hP : Fit P) (hk : L.length = k) (ha : evL t args.toList = some vs) (hf : P.funcs[g]? = some fn) (hb : fn.body = some b)
    (hlt : Nat.blt d nt = true) (h : ACall P g vs.toArray (M ++ L) (Cloned l (M ++ L))) (hL0 : L ++ [none] = L0) (hL1 : ∀ kd, L ++ [some { cells := iv l, kind := kd }] = L1 kd) (h1 : l = [] → K (put t d (.slice none 0 0)) (M ++ L0))
    (h2 : ∀ kd : Kind, kd.solid = true → K (put t d (.slice (some ⟨M.length + k, 0, none⟩) l.length l.length)) (M ++ L1 kd)) : Step P nt ops ⟨some d, .call ⟨.value (.func g), args, tys⟩, T, p, af, none⟩ t (M ++ L) K :=
  .callF hP ha hf hb hlt h (by
    rintro v m' (⟨h0, rfl, rfl⟩ | ⟨kd, hkd, rfl, rfl⟩)
    · rw [List.append_assoc, hL0]; exact h1 h0
    · rw [List.length_append, hk, List.append_assoc, hL1]; exact h2 kd hkd)
/-- A call for its effect on memory. -/
theorem Step.callE {args : Array Operand} {tys : Array TypeId} {g : FuncId} {vs : List Value} {fn : Func} {b : Code} {m m' : AM} {r : Value} (hP : Fit P) (ha : evL t args.toList = some vs) (hf : P.funcs[g]? = some fn) (hb : fn.body = some b)
    (hlt : Nat.blt d nt = true) (h : ACall P g vs.toArray m (fun v m1 => v = r ∧ m1 = m')) (hK : K (put t d r) m') : Step P nt ops ⟨some d, .call ⟨.value (.func g), args, tys⟩, T, p, af, none⟩ t m K :=
  .callF hP ha hf hb hlt h (by rintro v m1 ⟨rfl, rfl⟩; exact hK)
end
def srt (l : List Int) : List Int := l.mergeSort (fun x y => decide (x ≤ y))
theorem srt_len (l : List Int) : (srt l).length = l.length := by simp [srt]
theorem sort_nil {m : AM} : ACall Tryd.prog 87 #[.slice none 0 0] m (fun v m' => v = .tuple #[] ∧ m' = m) :=
  ACall.of_calls (by kernel_rfl) (by kernel_rfl) fun w => closed_call fit (n := 300) (by kernel_rfl) (by kernel_rfl) (by kernel_rfl) w
theorem sort_ok {M L L' : AM} {k n : Nat} {kd : Kind} {l : List Int} (hb : L[k]? = some (some { cells := iv l, kind := kd })) (hs : kd.solid = true) (hn : n = l.length) (hlen : l.length ≤ 100000) (hL : L.set k (some { cells := iv (srt l), kind := kd }) = L') :
    ACall Tryd.prog 87 #[.slice (some ⟨M.length + k, 0, none⟩) n n] (M ++ L) (fun v m' => v = .tuple #[] ∧ m' = M ++ L') := by
  subst hL
  rw [← set_app]
  exact sort_call (b := { cells := iv l, kind := kd }) (by rw [get_app]; exact hb) hs rfl hn (srt_len l) fun blk off cap w hH hlt => AnyG.slices_Sort_int sortInt blk off cap l w hH hlt (by omega)
def upI (n : Nat) : List Int := (List.range n).map (Nat.cast : Nat → Int)
theorem upI_len (n : Nat) : (upI n).length = n := by simp [upI]
def orderB (l : List Int) (n : Nat) : Bool := decide (l.length = n) && decide (srt l = upI n)
set_option maxRecDepth 100000 in
theorem order_ok {m : AM} {v : Value} {l : List Int} (n : Nat) (hl : Ints m v l) (hlen : n ≤ 10000) {b : Bool} (hb : orderB l n = b) : ACall Tryd.prog 59 #[v, .int .i64 (n : Nat)] m (Ret (.bool b) m) := by
  subst hb
  obtain ⟨a, o, h1, h2, h3⟩ := id hl
  have hM : 0 < m.length := by omega
  refine ACall.start Tryd.func59 rfl rfl ?_
  by_cases hn : (l.length : Int) = (n : Int)
  · have hn' : l.length = n := by omega
    have hcl := clone_ok (m := m ++ []) (hl.old []) (by omega)
    (repeat (first | (with_reducible refine AWo.cons ?_) | ((with_reducible refine Step.id ?_); first | ((with_reducible apply Step.move); exact rfl; exact rfl) | ((with_reducible apply Step.assign); exact rfl; exact rfl) | ((with_reducible apply Step.neq); exact rfl; exact rfl; exact rfl) | ((with_reducible apply Step.len); exact rfl; (focus (assumption)); (focus (decide +kernel)); exact rfl)) | (with_reducible refine AWo.nil ?_) | ((with_reducible apply AW.seq)) | ((with_reducible apply Then.n)) | ((with_reducible apply AW.regL)) | ((with_reducible apply AW.skip)) | ((with_reducible apply AW.condF); exact rfl; (focus ((simp only [decide_eq_true_eq, decide_eq_false_iff_not, Bool.not_eq_true', Bool.not_eq_false', Bool.not_true, Bool.not_false]; first | assumption | omega))))))
    ((with_reducible apply Step.callC fit (k := 0)); exact rfl; exact rfl; exact Tryd.func86; exact rfl; exact rfl; exact hcl; (focus (first | (simp only [List.nil_append, List.cons_append, List.set_cons_zero, List.set_cons_succ, iv_set, bv_set, iv_rep, bv_rep]; done) | (simp only [List.nil_append, List.cons_append, List.set_cons_zero, List.set_cons_succ, iv_set, bv_set, iv_rep, bv_rep]; rfl) | rfl)); exact (fun _ => rfl))
    · intro h0
      subst h0
      simp at hn'
      subst hn'
      have eq := equal_ok (l := []) (k := upI 0) (b := true) (Ints.old [none, some { cells := iv (upI 0) }] (ints_nil hM)) (ints_new (M := m) (L := [none, some { cells := iv (upI 0) }]) (k := 1) rfl rfl 0 rfl) (by simp) rfl
      (repeat (first | (with_reducible refine AWo.cons ?_) | ((with_reducible refine Step.id ?_); first | ((with_reducible apply Step.move); exact rfl; exact rfl) | ((with_reducible apply Step.assign); exact rfl; exact rfl) | ((with_reducible apply Step.callR fit); exact rfl; exact Tryd.func87; exact rfl; exact rfl; exact (sort_nil.mono (fun _ _ ⟨a, b⟩ => ⟨a.symm, b.symm⟩))) | ((with_reducible apply Step.callN fit (k := 1)); exact rfl; exact rfl; exact Tryd.func82; exact rfl; exact rfl; exact (upTo_ok 0 (by omega)); (focus (first | (simp only [List.nil_append, List.cons_append, List.set_cons_zero, List.set_cons_succ, iv_set, bv_set, iv_rep, bv_rep]; done) | (simp only [List.nil_append, List.cons_append, List.set_cons_zero, List.set_cons_succ, iv_set, bv_set, iv_rep, bv_rep]; rfl) | rfl))) | ((with_reducible apply Step.callR fit); exact rfl; exact Tryd.func88; exact rfl; exact rfl; exact (eq))) | (with_reducible refine AWo.nil ?_) | ((with_reducible apply AW.seq)) | ((with_reducible apply Then.n)) | ((with_reducible apply AW.regL))))
      (refine AW.retD (l := [(4, _)]) (by repeat (first | exact trivial | (refine And.intro ⟨rfl, by (exact .bool _)⟩ ?_))) ?_; (repeat (first | refine Then.r ?_ | refine InBlk.r ?_)))
      exact ⟨_, rfl, by simp [orderB, srt, upI], rfl⟩
    · intro kd hkd
      have so := sort_ok (M := m) (L := [some { cells := iv l, kind := kd }]) (k := 0) (kd := kd) rfl hkd rfl (by omega) rfl
      have eq := equal_ok (m := m ++ [some { cells := iv (srt l), kind := kd }, some { cells := iv (upI n) }]) (l := srt l) (k := upI n) (ints_new (k := 0) rfl rfl l.length (srt_len l).symm) (ints_new (k := 1) rfl rfl n (upI_len n).symm) (by rw [srt_len]; omega) rfl
      (repeat (first | (with_reducible refine AWo.cons ?_) | ((with_reducible refine Step.id ?_); first | ((with_reducible apply Step.move); exact rfl; exact rfl) | ((with_reducible apply Step.assign); exact rfl; exact rfl)) | (with_reducible refine AWo.nil ?_) | ((with_reducible apply AW.seq)) | ((with_reducible apply Then.n)) | ((with_reducible apply AW.regL))))
      ((with_reducible apply Step.callE fit); exact rfl; exact Tryd.func87; exact rfl; exact rfl; exact so)
      (repeat (first | (with_reducible refine AWo.cons ?_) | ((with_reducible refine Step.id ?_); first | ((with_reducible apply Step.move); exact rfl; exact rfl) | ((with_reducible apply Step.assign); exact rfl; exact rfl) | ((with_reducible apply Step.callN fit (k := 1)); exact rfl; exact rfl; exact Tryd.func82; exact rfl; exact rfl; exact (upTo_ok n (by omega)); (focus (first | (simp only [List.nil_append, List.cons_append, List.set_cons_zero, List.set_cons_succ, iv_set, bv_set, iv_rep, bv_rep]; done) | (simp only [List.nil_append, List.cons_append, List.set_cons_zero, List.set_cons_succ, iv_set, bv_set, iv_rep, bv_rep]; rfl) | rfl))) | ((with_reducible apply Step.callR fit); exact rfl; exact Tryd.func88; exact rfl; exact rfl; exact (eq))) | (with_reducible refine AWo.nil ?_) | ((with_reducible apply AW.seq)) | ((with_reducible apply Then.n)) | ((with_reducible apply AW.regL))))
      (refine AW.retD (l := [(4, _)]) (by repeat (first | exact trivial | (refine And.intro ⟨rfl, by (exact .bool _)⟩ ?_))) ?_; (repeat (first | refine Then.r ?_ | refine InBlk.r ?_)))
      exact ⟨_, rfl, by simp [orderB, hn'], rfl⟩
  · (repeat (first | (with_reducible refine AWo.cons ?_) | ((with_reducible refine Step.id ?_); first | ((with_reducible apply Step.move); exact rfl; exact rfl) | ((with_reducible apply Step.assign); exact rfl; exact rfl) | ((with_reducible apply Step.neq); exact rfl; exact rfl; exact rfl) | ((with_reducible apply Step.len); exact rfl; (focus (assumption)); (focus (decide +kernel)); exact rfl)) | (with_reducible refine AWo.nil ?_) | ((with_reducible apply AW.seq)) | ((with_reducible apply Then.n)) | ((with_reducible apply AW.regL)) | ((with_reducible apply AW.condT); exact rfl; (focus ((simp only [decide_eq_true_eq, decide_eq_false_iff_not, Bool.not_eq_true', Bool.not_eq_false', Bool.not_true, Bool.not_false]; first | assumption | omega))))))
    (refine AW.retD (l := [(4, _)]) (by repeat (first | exact trivial | (refine And.intro ⟨rfl, by (exact .bool _)⟩ ?_))) ?_; (repeat (first | refine Then.r ?_ | refine InBlk.r ?_)))
    refine ⟨_, rfl, ?_, rfl⟩
    simp [orderB, show l.length ≠ n by omega]
end Go.Proofs.YtedbjmgchfgabaaDoor.Abs.Jb
namespace Go.Proofs.YtedbjmgchfgabaaDoor.Abs.Jb
set_option linter.unusedSimpArgs false
set_option linter.unusedVariables false
open Go.RowKit
open Go.Proofs.YtedbjmgchfgabaaDoor.Sim
theorem nodup_le {α : Type} [DecidableEq α] : ∀ (l r : List α), l.Nodup → (∀ x ∈ l, x ∈ r) → l.length ≤ r.length
  | [], r, _, _ => by simp
  | a :: l, r, h, hs => by
    have h1 := List.nodup_cons.1 h
    have ha : a ∈ r := hs a (by simp)
    have := nodup_le l (r.erase a) h1.2 fun x hx => by
      have hne : x ≠ a := fun e => h1.1 (e ▸ hx)
      exact (List.mem_erase_of_ne hne).2 (hs x (by simp [hx]))
    rw [List.length_erase_of_mem ha] at this
    have := List.length_pos_of_mem ha
    simp; omega
theorem mem_upI {n : Nat} {x : Int} : x ∈ upI n ↔ 0 ≤ x ∧ x < n := by
  simp only [upI, List.mem_map, List.mem_range]
  constructor
  · rintro ⟨k, hk, rfl⟩; omega
  · rintro ⟨h1, h2⟩; exact ⟨x.toNat, by omega, by omega⟩
theorem upI_nodup (n : Nat) : (upI n).Nodup := by
  unfold upI
  have := List.nodup_range (n := n)
  exact List.Pairwise.map _ (fun a b h e => h (by omega)) this
theorem upI_sorted (n : Nat) : (upI n).Pairwise (fun x y => decide (x ≤ y) = true) := by
  unfold upI
  exact List.Pairwise.map _ (fun a b h => by simp; omega) (List.pairwise_lt_range (n := n))
/-- A slice is an order of n if and only if it has n elements, each below n, each once. -/
theorem orderB_iff {l : List Int} {n : Nat} : orderB l n = true ↔ l.length = n ∧ (∀ x ∈ l, 0 ≤ x ∧ x < n) ∧ l.Nodup := by
  simp only [orderB, Bool.and_eq_true, decide_eq_true_eq]
  constructor
  · rintro ⟨h1, h2⟩
    have hp : (srt l).Perm l := List.mergeSort_perm l _
    rw [h2] at hp
    exact ⟨h1, fun x hx => mem_upI.1 (hp.mem_iff.2 hx), hp.nodup_iff.1 (upI_nodup n)⟩
  · rintro ⟨h1, h2, h3⟩
    refine ⟨h1, ?_⟩
    have hsub : ∀ x ∈ l, x ∈ upI n := fun x hx => mem_upI.2 (h2 x hx)
    have hsup : ∀ x ∈ upI n, x ∈ l := fun x hx => Classical.byContradiction fun hn => by
      have := nodup_le l ((upI n).erase x) h3 fun y hy => (List.mem_erase_of_ne (fun (e : y = x) => hn (e ▸ hy))).2 (hsub y hy)
      rw [List.length_erase_of_mem hx, upI_len] at this
      have := List.length_pos_of_mem hx
      rw [upI_len] at this
      omega
    have hperm : l.Perm (upI n) := by
      rw [List.perm_iff_count]
      intro a
      rw [h3.count, (upI_nodup n).count]
      by_cases ha : a ∈ l
      · rw [if_pos ha, if_pos (hsub a ha)]
      · rw [if_neg ha, if_neg (fun h => ha (hsup a h))]
    have hps : (srt l).Perm (upI n) := (List.mergeSort_perm l _).trans hperm
    refine hps.eq_of_pairwise (le := fun x y => decide (x ≤ y) = true) (fun a b _ _ h1 h2 => by simp at h1 h2; omega) ?_ (upI_sorted n)
    exact List.pairwise_mergeSort (fun a b c h1 h2 => by simp at h1 h2 ⊢; omega) (fun a b => by simp; omega) l
def nat (l : List Int) : List Nat := l.map Int.toNat
theorem nat_len (l : List Int) : (nat l).length = l.length := by simp [nat]
theorem nat_get {l : List Int} {k : Nat} (h : k < l.length) : (nat l).getD k 0 = (l.getD k 0).toNat := by simp [nat, h]
theorem nats_of {m : AM} {v : Value} {l : List Int} (h : Ints m v l) (h0 : ∀ x ∈ l, 0 ≤ x) : Nats m v (nat l) := by
  obtain ⟨a, o, h1, h2, h3⟩ := h
  refine ⟨a, o, by rw [nat_len]; exact h1, h2, fun k hk => ?_⟩
  rw [nat_len] at hk
  rw [nat_get hk]
  have := h0 (l.getD k 0) (by simp [hk])
  rw [Int.toNat_of_nonneg this]
  exact h3 k hk
theorem nat_lt {l : List Int} {n : Nat} (h : orderB l n = true) : ∀ k, k < (nat l).length → (nat l).getD k 0 < n := fun k hk => by
  obtain ⟨_, o2, _⟩ := orderB_iff.1 h
  rw [nat_len] at hk
  rw [nat_get hk]
  have := o2 (l.getD k 0) (by simp [hk])
  omega
theorem nat_ok {m : AM} {v : Value} {l : List Int} {n : Nat} (hl : Ints m v l) (h : orderB l n = true) : Nats m v (nat l) := nats_of hl fun x hx => ((orderB_iff.1 h).2.1 x hx).1
def sumI (l : List Int) : Int := l.foldr (· + ·) 0
theorem sumI_app (l k : List Int) : sumI (l ++ k) = sumI l + sumI k := by
  induction l with
  | nil => simp [sumI]
  | cons x l ih => simp only [sumI, List.cons_append, List.foldr_cons] at ih ⊢; rw [ih]; omega
theorem sumI_perm {l k : List Int} (h : l.Perm k) : sumI l = sumI k := by
  induction h with
  | nil => rfl
  | cons x _ ih => simp only [sumI, List.foldr_cons] at ih ⊢; rw [ih]
  | swap x y l => simp only [sumI, List.foldr_cons]; omega
  | trans _ _ h1 h2 => exact h1.trans h2
def cutOf (j : List Two) (i : Nat) : Int := (j.getD i default).cut
def sewOf (j : List Two) (i : Nat) : Int := (j.getD i default).sew
theorem lim_pos {j : List Two} (h : tlim j) (i : Nat) : 0 ≤ cutOf j i ∧ cutOf j i ≤ 10000 ∧ 0 ≤ sewOf j i ∧ sewOf j i ≤ 10000 := by
  by_cases hi : i < j.length
  · exact h i hi
  · have : j.getD i default = default := by simp [List.getElem?_eq_none (show j.length ≤ i by omega)]
    simp only [cutOf, sewOf, this]
    decide
/-- The result of Span. -/
def spanR (j : List Two) (l : List Int) : Int × Int := if twosB j = true then (if orderB l j.length = true then ((spanF j (nat l)).2, 0) else (0, 6)) else (0, 2)
end Go.Proofs.YtedbjmgchfgabaaDoor.Abs.Jb
namespace Go.Proofs.YtedbjmgchfgabaaDoor.Abs.Jb
set_option linter.unusedSimpArgs false
set_option linter.unusedVariables false
open Go.RowKit
open Go.Proofs.YtedbjmgchfgabaaDoor.Sim
open Go.Proofs
set_option maxRecDepth 100000 in
theorem Span_ok {m : AM} {v w : Value} {j : List Two} {l : List Int} (hj : Twos m v j) (hl : Ints m w l) (hlen : j.length ≤ 1000) {q : Int × Int} (hq : spanR j l = q) : ACall Tryd.prog 26 #[v, w] m (Ret (.tuple #[.int .i64 q.1, .int .i64 q.2]) m) := by
  subst hq
  obtain ⟨a, o, h1, h2, h3⟩ := id hj
  obtain ⟨b, u, k1, k2, k3⟩ := id hl
  refine ACall.start Tryd.func26 rfl rfl ?_
  cases ht : twosB j with
  | false =>
    (repeat (first | (with_reducible refine AWo.cons ?_) | ((with_reducible refine Step.id ?_); first | ((with_reducible apply Step.move); exact rfl; exact rfl) | ((with_reducible apply Step.assign); exact rfl; exact rfl) | ((with_reducible apply Step.not); exact rfl; exact rfl) | ((with_reducible apply Step.callR fit); exact rfl; exact Tryd.func55; exact rfl; exact rfl; exact (twos_ok (hj.old []) (by omega) ht))) | (with_reducible refine AWo.nil ?_) | ((with_reducible apply AW.seq)) | ((with_reducible apply Then.n)) | ((with_reducible apply AW.regL)) | ((with_reducible apply AW.block)) | ((with_reducible apply AW.condT); exact rfl; (focus (rfl)))))
    (refine AW.retD (l := [(4, _), (5, _)]) (by repeat (first | exact trivial | (refine And.intro ⟨rfl, by (exact .int _ _)⟩ ?_))) ?_; (repeat (first | refine Then.r ?_ | refine InBlk.r ?_)))
    exact ⟨_, rfl, by simp [spanR, ht], rfl⟩
  | true =>
    obtain ⟨hlim, h40⟩ := tlim_of ht
    cases ho : orderB l j.length with
    | false =>
      (repeat (first | (with_reducible refine AWo.cons ?_) | ((with_reducible refine Step.id ?_); first | ((with_reducible apply Step.move); exact rfl; exact rfl) | ((with_reducible apply Step.assign); exact rfl; exact rfl) | ((with_reducible apply Step.len); exact rfl; (focus (assumption)); (focus (decide +kernel)); exact rfl) | ((with_reducible apply Step.not); exact rfl; exact rfl) | ((with_reducible apply Step.callR fit); exact rfl; exact Tryd.func55; exact rfl; exact rfl; exact (twos_ok (hj.old []) (by omega) ht)) | ((with_reducible apply Step.callR fit); exact rfl; exact Tryd.func59; exact rfl; exact rfl; exact (order_ok j.length (hl.old []) (by omega) ho))) | (with_reducible refine AWo.nil ?_) | ((with_reducible apply AW.seq)) | ((with_reducible apply Then.n)) | ((with_reducible apply AW.regL)) | ((with_reducible apply AW.block)) | ((with_reducible apply AW.condT); exact rfl; (focus (rfl))) | ((with_reducible apply AW.condF); exact rfl; (focus (rfl)))))
      (refine AW.retD (l := [(4, _), (5, _)]) (by repeat (first | exact trivial | (refine And.intro ⟨rfl, by (exact .int _ _)⟩ ?_))) ?_; (repeat (first | refine Then.r ?_ | refine InBlk.r ?_)))
      exact ⟨_, rfl, by simp [spanR, ht, ho], rfl⟩
    | true =>
      obtain ⟨o1, o2, o3⟩ := orderB_iff.1 ho
      have hn := nat_ok hl ho
      (repeat (first | (with_reducible refine AWo.cons ?_) | ((with_reducible refine Step.id ?_); first | ((with_reducible apply Step.move); exact rfl; exact rfl) | ((with_reducible apply Step.assign); exact rfl; exact rfl) | ((with_reducible apply Step.len); exact rfl; (focus (assumption)); (focus (decide +kernel)); exact rfl) | ((with_reducible apply Step.not); exact rfl; exact rfl) | ((with_reducible apply Step.callR fit); exact rfl; exact Tryd.func55; exact rfl; exact rfl; exact (twos_ok (hj.old []) (by omega) ht)) | ((with_reducible apply Step.callR fit); exact rfl; exact Tryd.func59; exact rfl; exact rfl; exact (order_ok j.length (hl.old []) (by omega) ho)) | ((with_reducible apply Step.callR fit); exact rfl; exact Tryd.func60; exact rfl; exact rfl; exact (span_ok (hj.old []) (hn.old []) (nat_lt ho) hlim (by rw [nat_len]; omega)))) | (with_reducible refine AWo.nil ?_) | ((with_reducible apply AW.seq)) | ((with_reducible apply Then.n)) | ((with_reducible apply AW.regL)) | ((with_reducible apply AW.block)) | ((with_reducible apply InBlk.n)) | ((with_reducible apply AW.skip)) | ((with_reducible apply AW.condF); exact rfl; (focus (rfl)))))
      (refine AW.retD (l := [(4, _), (5, _)]) (by repeat (first | exact trivial | (refine And.intro ⟨rfl, by (exact .int _ _)⟩ ?_))) ?_; (repeat (first | refine Then.r ?_ | refine InBlk.r ?_)))
      exact ⟨_, rfl, by simp [spanR, ht, ho], rfl⟩
end Go.Proofs.YtedbjmgchfgabaaDoor.Abs.Jb
namespace Go.Proofs.YtedbjmgchfgabaaDoor.Abs.Jb
set_option linter.unusedSimpArgs false
set_option linter.unusedVariables false
open Go.RowKit
open Go.Proofs.YtedbjmgchfgabaaDoor.Sim
open Go.Proofs
/-- Which numbers below n have come up. -/
def metL (l : List Int) (n : Nat) : List Bool := (List.range n).map fun (i : Nat) => decide ((i : Int) ∈ l)
theorem metL_len (l : List Int) (n : Nat) : (metL l n).length = n := by simp [metL]
theorem metL_get {l : List Int} {n i : Nat} (h : i < n) : (metL l n).getD i false = decide ((i : Int) ∈ l) := by simp [metL, h]
theorem metL_set {l : List Int} {n i : Nat} (h : i < n) : (metL l n).set i true = metL (l ++ [(i : Int)]) n := by
  apply List.ext_getElem?
  intro k
  rw [List.getElem?_set]
  by_cases hk : i = k
  · subst hk; simp [metL, h]
  · simp only [if_neg hk, metL, List.getElem?_map]
    by_cases hkn : k < n
    · simp [List.getElem?_range hkn]; omega
    · simp [List.getElem?_eq_none (show (List.range n).length ≤ k by simp; omega)]
set_option maxRecDepth 100000 in
theorem ROrder_ok {m : AM} {v : Value} {l : List Int} (n : Nat) (hl : Ints m v l) (hn : n ≤ 100000) (hlen : l.length ≤ 9223372036854775807) {b : Bool} (hb : orderB l n = b) : ACall Tryd.prog 27 #[v, .int .i64 (n : Nat)] m (Ret (.bool b) m) := by
  subst hb
  obtain ⟨a, o, h1, h2, h3⟩ := hl
  refine ACall.start Tryd.func27 rfl rfl ?_
  (repeat (first | (with_reducible refine AWo.cons ?_) | ((with_reducible refine Step.id ?_); first | ((with_reducible apply Step.move); exact rfl; exact rfl) | ((with_reducible apply Step.assign); exact rfl; exact rfl) | ((with_reducible apply Step.len); exact rfl; (focus (assumption)); (focus (decide +kernel)); exact rfl) | ((with_reducible apply Step.make1 0); exact rfl; exact rfl; exact rfl; exact el84; (focus (omega)); exact rfl; (focus (first | (simp only [List.nil_append, List.cons_append, List.set_cons_zero, List.set_cons_succ, iv_set, bv_set, iv_rep, bv_rep]; done) | (simp only [List.nil_append, List.cons_append, List.set_cons_zero, List.set_cons_succ, iv_set, bv_set, iv_rep, bv_rep]; rfl) | rfl)))) | (with_reducible refine AWo.nil ?_) | ((with_reducible apply AW.seq)) | ((with_reducible apply Then.n)) | ((with_reducible apply AW.regL)) | ((with_reducible apply AW.block))))
  refine AW.loopT (fun r t L => ∃ k : Nat, r = l.length - k ∧ k ≤ l.length ∧ (∀ x ∈ l.take k, 0 ≤ x ∧ x < n) ∧ (l.take k).Nodup ∧ L = [some { cells := bv (metL (l.take k) n) }] ∧
    t = [(0, v), (1, .int .i64 (n : Nat)), (5, .slice (some ⟨m.length + 0, 0, none⟩) n n), (10, v), (11, .int .i64 (l.length : Nat)), (12, .int .i64 (k : Nat))]) ⟨_, _, _, (Or.inl ⟨rfl, (by repeat (first | exact trivial | (refine And.intro rfl ?_)))⟩), 0, rfl, Nat.zero_le _, by simp, by simp, by simp [metL, bv, List.map_const'], rfl⟩ ?_
  rintro r t L ⟨k, rfl, hk, hin, hnd, rfl, rfl⟩
  rcases Nat.lt_or_ge k l.length with hlt | hge
  · have ts := take_snoc l k 0 hlt
    have hmem : l.getD k 0 ∈ l := by simp [hlt]
    have r1 := h3 k hlt
    have bad : (¬ (0 ≤ l.getD k 0 ∧ l.getD k 0 < n)) ∨ l.getD k 0 ∈ l.take k → orderB l n = false := fun h => by
      rw [Bool.eq_false_iff]
      intro e
      obtain ⟨o1, o2, o3⟩ := orderB_iff.1 e
      rcases h with h | h
      · exact h (o2 _ hmem)
      · have : (l.take (k + 1)).Nodup := o3.sublist (List.take_sublist _ _)
        rw [ts, List.nodup_append] at this
        exact this.2.2 _ h _ (by simp) rfl
    generalize hx : l.getD k 0 = x at *
    by_cases c1 : x < 0
    · (repeat (first | (with_reducible refine AWo.cons ?_) | ((with_reducible refine Step.id ?_); first | ((with_reducible apply Step.gdF); exact rfl; exact rfl; (focus (first | rfl | (simp only [decide_eq_true_eq, decide_eq_false_iff_not, Bool.not_eq_true', Bool.not_eq_false', Bool.not_true, Bool.not_false]; first | assumption | omega)))) | ((with_reducible apply Step.move); exact rfl; exact rfl) | ((with_reducible apply Step.assign); exact rfl; exact rfl) | ((with_reducible apply Step.load); exact rfl; (focus (decide +kernel)); exact rfl; (focus (exact Rd.old _ (by assumption)))) | ((with_reducible apply Step.ix1); exact rfl; (focus (assumption)); exact rfl; (focus (decide +kernel)); exact rfl; (focus (omega))) | ((with_reducible apply Step.lss); exact rfl; exact rfl; exact rfl) | ((with_reducible apply Step.pickT); exact rfl; exact rfl; exact rfl; exact rfl; (focus (first | rfl | (simp only [decide_eq_true_eq, decide_eq_false_iff_not, Bool.not_eq_true', Bool.not_eq_false', Bool.not_true, Bool.not_false]; first | assumption | omega))))) | (with_reducible refine AWo.nil ?_) | ((with_reducible apply AW.seq)) | ((with_reducible apply Then.n)) | ((with_reducible apply AW.regL)) | ((with_reducible apply AW.block)) | ((with_reducible apply AW.skip)) | ((with_reducible apply AW.condT); exact rfl; (focus (first | rfl | (simp only [decide_eq_true_eq, decide_eq_false_iff_not, Bool.not_eq_true', Bool.not_eq_false', Bool.not_true, Bool.not_false]; first | assumption | omega))))))
      (refine AW.retD (l := [(4, _)]) (by repeat (first | exact trivial | (refine And.intro ⟨rfl, by (exact .bool _)⟩ ?_))) ?_; (repeat (first | refine Then.r ?_ | refine InBlk.r ?_)))
      exact ⟨_, rfl, by rw [bad (.inl (by omega))], rfl⟩
    · by_cases c2 : (n : Int) ≤ x
      · (repeat (first | (with_reducible refine AWo.cons ?_) | ((with_reducible refine Step.id ?_); first | ((with_reducible apply Step.gdT); exact rfl; exact rfl; (focus ((simp only [decide_eq_true_eq, decide_eq_false_iff_not, Bool.not_eq_true', Bool.not_eq_false', Bool.not_true, Bool.not_false]; first | assumption | omega)))) | ((with_reducible apply Step.gdF); exact rfl; exact rfl; (focus ((simp only [decide_eq_true_eq, decide_eq_false_iff_not, Bool.not_eq_true', Bool.not_eq_false', Bool.not_true, Bool.not_false]; first | assumption | omega)))) | ((with_reducible apply Step.move); exact rfl; exact rfl) | ((with_reducible apply Step.assign); exact rfl; exact rfl) | ((with_reducible apply Step.load); exact rfl; (focus (decide +kernel)); exact rfl; (focus (exact Rd.old _ (by assumption)))) | ((with_reducible apply Step.ix1); exact rfl; (focus (assumption)); exact rfl; (focus (decide +kernel)); exact rfl; (focus (omega))) | ((with_reducible apply Step.lss); exact rfl; exact rfl; exact rfl) | ((with_reducible apply Step.geq); exact rfl; exact rfl; exact rfl) | ((with_reducible apply Step.pickT); exact rfl; exact rfl; exact rfl; exact rfl; (focus ((simp only [decide_eq_true_eq, decide_eq_false_iff_not, Bool.not_eq_true', Bool.not_eq_false', Bool.not_true, Bool.not_false]; first | assumption | omega)))) | ((with_reducible apply Step.pickF); exact rfl; exact rfl; exact rfl; exact rfl; (focus ((simp only [decide_eq_true_eq, decide_eq_false_iff_not, Bool.not_eq_true', Bool.not_eq_false', Bool.not_true, Bool.not_false]; first | assumption | omega))))) | (with_reducible refine AWo.nil ?_) | ((with_reducible apply AW.seq)) | ((with_reducible apply Then.n)) | ((with_reducible apply AW.regL)) | ((with_reducible apply AW.block)) | ((with_reducible apply AW.skip)) | ((with_reducible apply AW.condT); exact rfl; (focus (first | rfl | (simp only [decide_eq_true_eq, decide_eq_false_iff_not, Bool.not_eq_true', Bool.not_eq_false', Bool.not_true, Bool.not_false]; first | assumption | omega))))))
        (refine AW.retD (l := [(4, _)]) (by repeat (first | exact trivial | (refine And.intro ⟨rfl, by (exact .bool _)⟩ ?_))) ?_; (repeat (first | refine Then.r ?_ | refine InBlk.r ?_)))
        exact ⟨_, rfl, by rw [bad (.inl (by omega))], rfl⟩
      · obtain ⟨i, rfl⟩ : ∃ i : Nat, x = (i : Int) := ⟨x.toNat, by omega⟩
        have hi : i < n := by omega
        have hg := bv_get (l := metL (l.take k) n) (k := i) (by rw [metL_len]; exact hi)
        rw [metL_get hi] at hg
        by_cases c3 : (i : Int) ∈ l.take k
        · rw [decide_eq_true c3] at hg
          (repeat (first | (with_reducible refine AWo.cons ?_) | ((with_reducible refine Step.id ?_); first | ((with_reducible apply Step.gdT); exact rfl; exact rfl; (focus (first | rfl | (simp only [decide_eq_true_eq, decide_eq_false_iff_not, Bool.not_eq_true', Bool.not_eq_false', Bool.not_true, Bool.not_false]; first | assumption | omega)))) | ((with_reducible apply Step.move); exact rfl; exact rfl) | ((with_reducible apply Step.assign); exact rfl; exact rfl) | ((with_reducible apply Step.load); exact rfl; (focus (decide +kernel)); exact rfl; (focus (first | exact Rd.new rfl hg | exact Rd.old _ (by assumption)))) | ((with_reducible apply Step.ix1z); exact rfl; (focus (exact Sl.mk (by omega))); exact rfl; (focus (decide +kernel)); exact rfl; (focus (omega))) | ((with_reducible apply Step.ix1); exact rfl; (focus (assumption)); exact rfl; (focus (decide +kernel)); exact rfl; (focus (omega))) | ((with_reducible apply Step.lss); exact rfl; exact rfl; exact rfl) | ((with_reducible apply Step.geq); exact rfl; exact rfl; exact rfl) | ((with_reducible apply Step.pickF); exact rfl; exact rfl; exact rfl; exact rfl; (focus (first | rfl | (simp only [decide_eq_true_eq, decide_eq_false_iff_not, Bool.not_eq_true', Bool.not_eq_false', Bool.not_true, Bool.not_false]; first | assumption | omega))))) | (with_reducible refine AWo.nil ?_) | ((with_reducible apply AW.seq)) | ((with_reducible apply Then.n)) | ((with_reducible apply AW.regL)) | ((with_reducible apply AW.block)) | ((with_reducible apply AW.skip)) | ((with_reducible apply AW.condT); exact rfl; (focus (first | rfl | (simp only [decide_eq_true_eq, decide_eq_false_iff_not, Bool.not_eq_true', Bool.not_eq_false', Bool.not_true, Bool.not_false]; first | assumption | omega))))))
          (refine AW.retD (l := [(4, _)]) (by repeat (first | exact trivial | (refine And.intro ⟨rfl, by (exact .bool _)⟩ ?_))) ?_; (repeat (first | refine Then.r ?_ | refine InBlk.r ?_)))
          exact ⟨_, rfl, by rw [bad (.inr c3)], rfl⟩
        · rw [decide_eq_false c3] at hg
          have hs := metL_set (l := l.take k) hi
          (repeat (first | (with_reducible refine AWo.cons ?_) | ((with_reducible refine Step.id ?_); first | ((with_reducible apply Step.gdT); exact rfl; exact rfl; (focus (first | rfl | (simp only [decide_eq_true_eq, decide_eq_false_iff_not, Bool.not_eq_true', Bool.not_eq_false', Bool.not_true, Bool.not_false]; first | assumption | omega)))) | ((with_reducible apply Step.move); exact rfl; exact rfl) | ((with_reducible apply Step.assign); exact rfl; exact rfl) | ((with_reducible apply Step.load); exact rfl; (focus (decide +kernel)); exact rfl; (focus (first | exact Rd.new rfl hg | exact Rd.old _ (by assumption)))) | ((with_reducible apply Step.ix1z); exact rfl; (focus (exact Sl.mk (by omega))); exact rfl; (focus (decide +kernel)); exact rfl; (focus (omega))) | ((with_reducible apply Step.ix1); exact rfl; (focus (assumption)); exact rfl; (focus (decide +kernel)); exact rfl; (focus (omega))) | ((with_reducible apply Step.lss); exact rfl; exact rfl; exact rfl) | ((with_reducible apply Step.geq); exact rfl; exact rfl; exact rfl) | ((with_reducible apply Step.pickF); exact rfl; exact rfl; exact rfl; exact rfl; (focus (first | rfl | (simp only [decide_eq_true_eq, decide_eq_false_iff_not, Bool.not_eq_true', Bool.not_eq_false', Bool.not_true, Bool.not_false]; first | assumption | omega))))) | (with_reducible refine AWo.nil ?_) | ((with_reducible apply AW.seq)) | ((with_reducible apply Then.n)) | ((with_reducible apply AW.regL)) | ((with_reducible apply AW.block)) | ((with_reducible apply AW.skip)) | ((with_reducible apply AW.condT); exact rfl; (focus ((simp only [decide_eq_true_eq, decide_eq_false_iff_not, Bool.not_eq_true', Bool.not_eq_false', Bool.not_true, Bool.not_false]; first | assumption | omega)))) | ((with_reducible apply AW.condF); exact rfl; (focus (rfl)))))
          ((with_reducible apply Step.store (k := 0)); exact rfl; exact rfl; exact rfl; exact rfl; (focus (decide +kernel)); exact rfl; exact rfl; (focus (simp [bv, metL]; omega)); (focus (first | (simp only [List.nil_append, List.cons_append, List.set_cons_zero, List.set_cons_succ, iv_set, bv_set, iv_rep, bv_rep]; done) | (simp only [List.nil_append, List.cons_append, List.set_cons_zero, List.set_cons_succ, iv_set, bv_set, iv_rep, bv_rep]; rfl) | rfl)))
          (repeat (first | (with_reducible refine AWo.cons ?_) | ((with_reducible refine Step.id ?_); first | ((with_reducible apply Step.move); exact rfl; exact rfl) | ((with_reducible apply Step.add); exact rfl; exact rfl; (focus (omega)); exact rfl)) | (with_reducible refine AWo.nil ?_) | ((with_reducible apply Then.n)) | ((with_reducible apply AW.regL)) | ((with_reducible apply InBlk.n))))
          exact ⟨_, _, _, by omega, (Or.inl ⟨rfl, (by repeat (first | exact trivial | (refine And.intro rfl ?_)))⟩), k + 1, rfl, by omega, by rw [ts]; intro y hy; rcases List.mem_append.1 hy with h | h; exact hin y h; simp at h; subst h; omega, by rw [ts, List.nodup_append]; exact ⟨hnd, by simp, fun a ha b hb => by simp at hb; subst hb; exact fun e => c3 (e ▸ ha)⟩, by rw [hs, ← ts], rfl⟩
  · (repeat (first | (with_reducible refine AWo.cons ?_) | ((with_reducible refine Step.id ?_); first | ((with_reducible apply Step.move); exact rfl; exact rfl) | ((with_reducible apply Step.assign); exact rfl; exact rfl) | ((with_reducible apply Step.lss); exact rfl; exact rfl; exact rfl) | ((with_reducible apply Step.eql); exact rfl; exact rfl; exact rfl) | ((with_reducible apply Step.len); exact rfl; (focus (assumption)); (focus (decide +kernel)); exact rfl)) | (with_reducible refine AWo.nil ?_) | ((with_reducible apply AW.seq)) | ((with_reducible apply Then.n)) | ((with_reducible apply AW.regL)) | ((with_reducible apply AW.exit)) | ((with_reducible apply InBlk.hit)) | ((with_reducible apply Then.e)) | ((with_reducible apply AW.condF); exact rfl; (focus ((simp only [decide_eq_true_eq, decide_eq_false_iff_not, Bool.not_eq_true', Bool.not_eq_false', Bool.not_true, Bool.not_false]; first | assumption | omega))))))
    (refine AW.retD (l := [(4, _)]) (by repeat (first | exact trivial | (refine And.intro ⟨rfl, by (exact .bool _)⟩ ?_))) ?_; (repeat (first | refine Then.r ?_ | refine InBlk.r ?_)))
    rw [List.take_of_length_le hge] at hin hnd
    refine ⟨_, rfl, ?_, rfl⟩
    by_cases hn' : l.length = n
    · rw [orderB_iff.2 ⟨hn', hin, hnd⟩, decide_eq_true (by omega)]
    · have : orderB l n = false := by rw [Bool.eq_false_iff]; exact fun e => hn' (orderB_iff.1 e).1
      rw [this, decide_eq_false (by omega)]
end Go.Proofs.YtedbjmgchfgabaaDoor.Abs.Jb
namespace Go.Proofs.YtedbjmgchfgabaaDoor.Abs
set_option linter.unusedSimpArgs false
set_option linter.unusedVariables false
open Go.RowKit
open Go.Proofs.YtedbjmgchfgabaaDoor.Sim
open Go.ChangeShapes Go.WideShapes Go.Deep
/-- An argument with the cells that it shows. -/
abbrev AR := Value × List Value
def Okarg (W : World) (a : AR) : Prop := g0 a.1 = true ∨ ∃ b o n cap, a.1 = .slice (some ⟨b, o, none⟩) n cap ∧ n ≤ cap ∧ b < W.heap.size ∧ (∀ j x, a.2[j]? = some x → W.cell? ⟨b, o + j, none⟩ = some x) ∧ ∀ x ∈ a.2, g0 x = true
def mkV (i : Nat) : Value → Value
  | .slice (some _) n _ => .slice (some ⟨i, 0, none⟩) n n
  | v => v
def mkP : AR → Option Sim.Place
  | (.slice (some a) n cap, _) => some ⟨a.block, a.off, cap - n⟩
  | _ => none
def mkB : AR → Option Blk
  | (.slice (some _) _ _, c) => some { cells := c, kind := .ro }
  | _ => none
section
variable {H : Type} {enc : TypeId × Value → H} {P : Program} {w : World} {base : Nat} {spare : Nat → Bool} {held : Bool}
theorem ok_slice {r : Reach} {b0 : Nat} {T e : TypeId} {a : Option Addr} {n c : Nat} (ht : P.underlying T = some (.slice e)) (h : Value.okWide P w r b0 T (.slice a n c)) : (a = none ∧ n = 0 ∧ c = 0) ∨ ∃ b o, a = some ⟨b, o, none⟩ ∧ n ≤ c ∧ b < w.heap.size := by
  simp only [Value.okWide, ht, Cell.okWide, Cell.ok] at h
  cases a with
  | none =>
    cases n <;> cases c <;> simp_all
  | some x =>
    obtain ⟨h1, _, h3⟩ := h
    obtain ⟨_, hs, row, cells, hsh, _⟩ := h3
    obtain ⟨b, o, s⟩ := x
    simp only at hs
    subst hs
    refine .inr ⟨b, o, rfl, h1, ?_⟩
    simp only [World.shape?] at hsh
    rcases Nat.lt_or_ge b w.heap.size with hlt | hge
    · exact hlt
    · rw [Array.getElem?_eq_none hge] at hsh; cases hsh
theorem open_slice_fields {t e : TypeId} {fs : Array Field} {fuel : Nat} {cs : List Value} {x : DataW H × List MemPlace} (ht : P.underlying t = some (.slice e)) (he : P.underlying e = some (.struct fs))
    (hone : oneCellFields P fs = true) (hC : P.cellsOf e = fs.size) (h : DataW.trod enc P w base spare held fuel t cs = some x) :
    (cs = [.slice none 0 0] ∧ x = (.nil, [])) ∨
    ∃ (a : Addr) (len cap m : Nat) (D : Nat → DataW H) (Pl : Nat → List MemPlace), cs = [.slice (some a) len cap] ∧ base ≤ a.block ∧ len ≤ cap ∧ cap ≤ maxLen ∧ m = (if spare a.block then cap else len) ∧
      x = (.slice ((List.range len).map D) ((List.range (m - len)).map fun j => D (len + j)), MemPlace.row a (m * fs.size) ++ (List.range m).flatMap Pl) ∧
      ∀ i, i < m → ∃ (ys : List (DataW H × List MemPlace)) (n : Nat), D i = .agg (ys.map (·.1)) ∧ Pl i = ys.flatMap (·.2) ∧ ys.length = fs.size ∧
        ∀ (j : Nat) (f : Field), fs[j]? = some f → ∃ (v : Value) (y : DataW H × List MemPlace), w.cell? (a.add (i * fs.size + j)) = some v ∧ ys[j]? = some y ∧ DataW.trod enc P w base spare held n f.type [v] = some y := by
  rcases open_slice ht h with h0 | ⟨a, len, cap, m, n, D, Pl, hcs, hb, hl, hm, hmm, hx, hi⟩
  · exact .inl h0
  · refine .inr ⟨a, len, cap, m, D, Pl, hcs, hb, hl, hm, hmm, by rw [hC] at hx; exact hx, fun i him => ?_⟩
    obtain ⟨cs', hc, ht'⟩ := hi i him
    rw [hC] at hc
    obtain ⟨ys, n', hn', hy, hlen, hyl, hf⟩ := DataW.trod_struct he ht'
    obtain ⟨_, hcl, hat⟩ := World.cells?_some hc
    simp only [Prod.mk.injEq] at hy
    refine ⟨ys, n', hy.1, hy.2, hyl, fun j f hj => ?_⟩
    obtain ⟨ho, hk⟩ := hone_of hone j f hj
    have hjl : j < fs.size := (Array.getElem?_eq_some_iff.1 hj).1
    have hcell := hat j hjl
    have hv : cs'[j]? = some (cs'[j]'(by omega)) := List.getElem?_eq_getElem (by omega)
    have h1 := hf j f hj
    rw [ho, hk] at h1
    have hone' : (cs'.drop j).take 1 = [cs'[j]'(by omega)] := by
      rw [List.drop_eq_getElem_cons (by omega)]
      rfl
    rw [hone'] at h1
    have hys : ys[j]? = some (ys[j]'(by omega)) := List.getElem?_eq_getElem (by omega)
    refine ⟨_, _, ?_, hys, h1.trans hys⟩
    rw [← Go.Deep.add_add, hcell, hv]
end
end Go.Proofs.YtedbjmgchfgabaaDoor.Abs
namespace Go.Proofs.YtedbjmgchfgabaaDoor.Abs
set_option linter.unusedSimpArgs false
set_option linter.unusedVariables false
open Go.RowKit
open Go.Proofs.YtedbjmgchfgabaaDoor.Sim
section
variable {P : Program} {nt : Nat} {ops : Array Oper} {t : Fm} {m : AM} {K : Fm → AM → Prop} {d T : Nat} {p : String} {af : Array Edge}
theorem still_und {X : TypeId} {u : TypeDesc} (hX : P.underlying X = some u) : Sim.still P (underlying X) = some u := by
  unfold underlying
  show Sim.still P (Sem.bind program _) = _
  rw [still_bind]
  simp [program, Sim.still, hX, pure]
theorem still_eqB {X : TypeId} (hX : P.underlying X = some .bool) (n : Nat) (a b : Bool) : Sim.still P (Op.equalIn (n + 1) X (.bool a) (.bool b)) = some (a == b) := by
  rw [Op.equalIn]
  show Sim.still P (Sem.bind (underlying X) _) = _
  rw [still_bind, still_und hX]
  rfl
theorem Step.neqB {x y : Operand} {X Y : TypeId} {a b : Bool} (hx : evo t x = some (.bool a)) (hy : evo t y = some (.bool b)) (hX : P.underlying X = some .bool) (hlt : Nat.blt d nt = true) (hK : K (put t d (.bool (!(a == b)))) m) : Step P nt ops ⟨some d, .binOp .neq X x y Y, T, p, af, none⟩ t m K := by
  refine .ground rfl rfl hlt (by simp [Op.operands, hx, hy, g1, g0]) (fun h => by simp only [aquiet, evD_of hx, evD_of hy, aint, anil, hX]; simpa [evD_of hx, evD_of hy] using h) ?_ (by simp [g1, g0]) hK
  have he := still_eqB hX 9999 a b
  simp only [execOp, eqGuard, binOp, evD_of hx, evD_of hy, bind, Sem.bind, pure]
  show Sim.still P (((Op.equalIn (9999 + 1) X (.bool a) (.bool b)).bind _).bind _) = _
  rw [still_bind, still_bind, he]
  rfl
theorem Step.eqlB {x y : Operand} {X Y : TypeId} {a b : Bool} (hx : evo t x = some (.bool a)) (hy : evo t y = some (.bool b)) (hX : P.underlying X = some .bool) (hlt : Nat.blt d nt = true) (hK : K (put t d (.bool (a == b))) m) : Step P nt ops ⟨some d, .binOp .eql X x y Y, T, p, af, none⟩ t m K := by
  refine .ground rfl rfl hlt (by simp [Op.operands, hx, hy, g1, g0]) (fun h => by simp only [aquiet, evD_of hx, evD_of hy, aint, anil, hX]; simpa [evD_of hx, evD_of hy] using h) ?_ (by simp [g1, g0]) hK
  have he := still_eqB hX 9999 a b
  simp only [execOp, eqGuard, binOp, evD_of hx, evD_of hy, bind, Sem.bind, pure]
  show Sim.still P (((Op.equalIn (9999 + 1) X (.bool a) (.bool b)).bind _).bind _) = _
  rw [still_bind, still_bind, he]
  rfl
end
end Go.Proofs.YtedbjmgchfgabaaDoor.Abs
namespace Go.Proofs.YtedbjmgchfgabaaDoor.Abs.Jb
set_option linter.unusedSimpArgs false
set_option linter.unusedVariables false
open Go.RowKit
open Go.Proofs.YtedbjmgchfgabaaDoor.Sim
open Go.Proofs
theorem un4 : Tryd.prog.underlying 4 = some .bool := by kernel_rfl
end Go.Proofs.YtedbjmgchfgabaaDoor.Abs.Jb
namespace Go.Proofs.YtedbjmgchfgabaaDoor.Abs
set_option linter.unusedSimpArgs false
set_option linter.unusedVariables false
open Go.RowKit
open Go.Proofs.YtedbjmgchfgabaaDoor.Sim
/-- The memory in which block a holds the row l. -/
def St (m : AM) (a : Nat) (kd : Kind) (s : Nat) (l : List Int) : AM := m.set a (some { cells := iv l, kind := kd, size := s })
section
variable {m : AM} {a s : Nat} {kd : Kind} {l k : List Int}
theorem St.len : (St m a kd s l).length = m.length := by simp [St]
theorem St.get (h : a < m.length) : (St m a kd s l)[a]? = some (some { cells := iv l, kind := kd, size := s }) := by simp [St, h]
theorem St.ne {b : Nat} (h : b ≠ a) : (St m a kd s l)[b]? = m[b]? := by simp [St, List.getElem?_set_ne (Ne.symm h)]
theorem St.set : (St m a kd s l).set a (some { cells := iv k, kind := kd, size := s }) = St m a kd s k := by simp [St]
theorem St.rd {o : Nat} (h : a < m.length) (ho : o < l.length) : Rd (St m a kd s l) a o (.int .i64 (l.getD o 0)) := ⟨_, St.get h, iv_get ho⟩
theorem St.self (h : m[a]? = some (some { cells := iv l, kind := kd, size := s })) : St m a kd s l = m := by
  apply List.ext_getElem?
  intro i
  by_cases e : i = a
  · subst e; rw [St.get (List.getElem?_eq_some_iff.1 h).1, h]
  · rw [St.ne e]
theorem St.rd_ne {b o : Nat} {v : Value} (h : Rd m b o v) (e : b ≠ a) : Rd (St m a kd s l) b o v := by
  obtain ⟨x, h1, h2⟩ := h
  exact ⟨x, by rw [St.ne e]; exact h1, h2⟩
theorem St.rdl_ne {b o : Nat} {c : List Value} (h : RdL m b o c) (e : b ≠ a) : RdL (St m a kd s l) b o c := by
  obtain ⟨x, h1, h2⟩ := h
  exact ⟨x, by rw [St.ne e]; exact h1, h2⟩
end
/-- Behind a piece of code one goes on from what holds on all ways. -/
theorem AW.join {P : Program} {nt : Nat} {m0 m : AM} {t : Fm} {c : Code} {K : Fm → AM → Prop} {Q : AEx → Fm → AM → Prop} (Mid : Fm → AM → Prop) (h : AW P nt m0 c t m (Then Mid Q)) (h2 : ∀ t m, Mid t m → K t m) : AW P nt m0 c t m (Then K Q) :=
  h.mono fun e t m => by cases e <;> first | exact h2 t m | exact id
section
variable {P : Program} {nt : Nat} {ops : Array Oper} {t : Fm} {m : AM} {K : Fm → AM → Prop} {d T : Nat} {p : String} {af : Array Edge}
theorem Step.storeR {x y : Operand} {ty : TypeId} {a s o : Nat} {kd : Kind} {l l' : List Int} {v : Int} (hx : evo t x = some (.pointer (some ⟨a, o, none⟩))) (hy : evo t y = some (.int .i64 v)) (hz : szB P ty = some 1) (ha : a < m.length) (hs : kd.solid = true) (ho : o < l.length)
    (hl : l.set o v = l') (hK : K t (St m a kd s l')) : Step P nt ops ⟨none, .store ty x y, T, p, af, none⟩ t (St m a kd s l) K := by
  subst hl
  refine .l0 rfl rfl rfl (by simp [Op.operands, hx, hy]) (loud_of_aloud0 (v := undef) (m' := St m a kd s (l.set o v)) rfl ?_ hK)
  have hsp : splice (iv l) o [.int .i64 v] = iv (l.set o v) := by
    rw [← iv_set]
    unfold splice
    rw [List.set_eq_take_append_cons_drop]
    simp [iv_len, ho]
  simp only [aloud, evD_of hx, evD_of hy, astore, St.get ha, hz]
  rw [if_pos (by simp [hs, iv_len, Value.cells, Value.oneCell']; omega)]
  simp [St.set, hsp, Value.cells]
theorem still_under {X : TypeId} {T : TypeDesc} (hX : P.underlying X = some T) : Sim.still P (underlying X) = some T := by
  unfold underlying
  show Sim.still P (Sem.bind program _) = _
  rw [still_bind]
  simp [program, Sim.still, hX, pure]
theorem Step.conv {x : Operand} {S D : TypeId} {k ks k' : IntKind} {a b : Int} (hx : evo t x = some (.int k a)) (hS : P.underlying S = some (.int ks)) (hD : P.underlying D = some (.int k')) (hw : k'.wrap a = b) (hlt : Nat.blt d nt = true) (hK : K (put t d (.int k' b)) m) :
    Step P nt ops ⟨some d, .convert S D x, T, p, af, none⟩ t m K := by
  refine .ground rfl rfl hlt (by simp [Op.operands, hx, g1, g0]) (fun h => by simpa [aquiet] using h) ?_ (by simp [g1, g0]) hK
  subst hw
  simp only [execOp, evD_of hx, bind]
  rw [still_bind]
  unfold convert
  simp only [bind]
  rw [still_bind, still_under hS]
  simp only
  rw [still_bind, still_under hD]
  rfl
theorem u64_in {n : Int} (h : 0 ≤ n ∧ n ≤ 9223372036854775807) : IntKind.u64.wrap n = n := by
  simp only [IntKind.wrap, IntKind.signed, IntKind.bits]
  simp
  omega
/-- int to uint -/
theorem Step.toU {x : Operand} {S D : TypeId} {a : Int} (hx : evo t x = some (.int .i64 a)) (hS : P.underlying S = some (.int .i64)) (hD : P.underlying D = some (.int .u64)) (hr : 0 ≤ a ∧ a ≤ 9223372036854775807) (hlt : Nat.blt d nt = true) (hK : K (put t d (.int .u64 a)) m) :
    Step P nt ops ⟨some d, .convert S D x, T, p, af, none⟩ t m K := .conv hx hS hD (u64_in hr) hlt hK
/-- uint to int -/
theorem Step.toI {x : Operand} {S D : TypeId} {a : Int} (hx : evo t x = some (.int .u64 a)) (hS : P.underlying S = some (.int .u64)) (hD : P.underlying D = some (.int .i64)) (hr : 0 ≤ a ∧ a ≤ 9223372036854775807) (hlt : Nat.blt d nt = true) (hK : K (put t d (.int .i64 a)) m) :
    Step P nt ops ⟨some d, .convert S D x, T, p, af, none⟩ t m K := .conv hx hS hD (IntWalk.i64_in _ (by omega)) hlt hK
theorem Step.half {x y : Operand} {X Y : TypeId} {a : Int} (hx : evo t x = some (.int .u64 a)) (hy : evo t y = some (.int .u64 1)) (ha : 0 ≤ a) (hlt : Nat.blt d nt = true) (hK : K (put t d (.int .u64 (a / 2))) m) : Step P nt ops ⟨some d, .binOp .shr X x y Y, T, p, af, none⟩ t m K := by
  refine .ground rfl rfl hlt (by simp [Op.operands, hx, hy, g1, g0]) (fun h => by simp only [aquiet, evD_of hx, evD_of hy, aint, anil]; simpa [evD_of hx, evD_of hy] using h) ?_ (by simp [g1, g0]) hK
  have : a.fdiv 2 = a / 2 := Int.fdiv_eq_ediv_of_nonneg a (by omega)
  simp [execOp, eqGuard, binOp, evD_of hx, evD_of hy, Op.shift, IntKind.bits, this, bind, Sem.bind, pure, Sim.still]
section
variable {X Y : TypeId} {x y : Operand} {a b : Int} {c : Nat}
theorem Step.addE (hx : evo t x = some (.int .i64 a)) (hy : evo t y = some (.int .i64 b)) (he : a + b = ((c : Nat) : Int)) (hr : c ≤ 9223372036854775807) (hlt : Nat.blt d nt = true) (hK : K (put t d (.int .i64 ((c : Nat) : Int))) m) : Step P nt ops ⟨some d, .binOp .add X x y Y, T, p, af, none⟩ t m K := by
  rw [← he] at hK; exact .add hx hy (by omega) hlt hK
theorem Step.subE (hx : evo t x = some (.int .i64 a)) (hy : evo t y = some (.int .i64 b)) (he : a - b = ((c : Nat) : Int)) (hr : c ≤ 9223372036854775807) (hlt : Nat.blt d nt = true) (hK : K (put t d (.int .i64 ((c : Nat) : Int))) m) : Step P nt ops ⟨some d, .binOp .sub X x y Y, T, p, af, none⟩ t m K := by
  rw [← he] at hK; exact .sub hx hy (by omega) hlt hK
theorem Step.mulE (hx : evo t x = some (.int .i64 a)) (hy : evo t y = some (.int .i64 b)) (he : a * b = ((c : Nat) : Int)) (hr : c ≤ 9223372036854775807) (hlt : Nat.blt d nt = true) (hK : K (put t d (.int .i64 ((c : Nat) : Int))) m) : Step P nt ops ⟨some d, .binOp .mul X x y Y, T, p, af, none⟩ t m K := by
  rw [← he] at hK; exact .mul hx hy (by omega) hlt hK
theorem Step.halfE (hx : evo t x = some (.int .u64 a)) (hy : evo t y = some (.int .u64 1)) (he : a / 2 = ((c : Nat) : Int)) (hr : 0 ≤ a) (hlt : Nat.blt d nt = true) (hK : K (put t d (.int .u64 ((c : Nat) : Int))) m) : Step P nt ops ⟨some d, .binOp .shr X x y Y, T, p, af, none⟩ t m K := by
  rw [← he] at hK; exact .half hx hy hr hlt hK
end
/-- A result that names one new block. -/
def NewT (f : Nat → Value) (b : Option Blk) (m : AM) : Value → AM → Prop := fun v m' => v = f m.length ∧ m' = m ++ [b]
theorem Step.callT {args : Array Operand} {tys : Array TypeId} {g : FuncId} {vs : List Value} {fn : Func} {b : Code} {k : Nat} {f : Nat → Value} {bl : Option Blk} {M L L' : AM} (hP : Fit P) (hk : L.length = k) (ha : evL t args.toList = some vs) (hf : P.funcs[g]? = some fn) (hb : fn.body = some b)
    (hlt : Nat.blt d nt = true) (h : ACall P g vs.toArray (M ++ L) (NewT f bl (M ++ L))) (hL : L ++ [bl] = L') (hK : K (put t d (f (M.length + k))) (M ++ L')) : Step P nt ops ⟨some d, .call ⟨.value (.func g), args, tys⟩, T, p, af, none⟩ t (M ++ L) K :=
  .callF hP ha hf hb hlt h (by
    rintro v m' ⟨rfl, rfl⟩
    subst hL
    rw [List.length_append, hk, List.append_assoc]
    exact hK)
theorem Sl.cells {v : Value} {a o n : Nat} (h : Sl v a o n) : v.cells = #[v] ∧ v.oneCell' = true := by
  rcases h with ⟨rfl, _⟩ | ⟨c, _, rfl⟩ | ⟨_, o', k, rfl⟩ <;> exact ⟨rfl, rfl⟩
/-- A new variable with a slice. -/
theorem Step.boxV {x : Operand} {ty : TypeId} {v : Value} {M L L' : AM} (k : Nat) (hk : L.length = k) (hx : evo t x = some v) (hv : v.cells = #[v] ∧ v.oneCell' = true) (hlt : Nat.blt d nt = true) (hL : L ++ [some { cells := [v] }] = L') (hK : K (put t d (.pointer (some ⟨M.length + k, 0, none⟩))) (M ++ L')) :
    Step P nt ops ⟨some d, .box ty x, T, p, af, none⟩ t (M ++ L) K :=
  .box k hk hx (by rw [hv.1]; simp [hv.2]) hlt (by rw [hv.1]; exact hL) hK
/-- A call for what it does to the memory. -/
theorem Step.callM {args : Array Operand} {tys : Array TypeId} {g : FuncId} {vs : List Value} {fn : Func} {b : Code} {m m' : AM} {r : Value} (hP : Fit P) (ha : evL t args.toList = some vs) (hf : P.funcs[g]? = some fn) (hb : fn.body = some b)
    (hlt : Nat.blt d nt = true) (h : ACall P g vs.toArray m (Ret r m')) (hK : K (put t d r) m') : Step P nt ops ⟨some d, .call ⟨.value (.func g), args, tys⟩, T, p, af, none⟩ t m K :=
  .callF hP ha hf hb hlt h (by rintro v m1 ⟨rfl, rfl⟩; exact hK)
end
end Go.Proofs.YtedbjmgchfgabaaDoor.Abs
namespace Go.Proofs.YtedbjmgchfgabaaDoor.Abs
set_option linter.unusedSimpArgs false
set_option linter.unusedVariables false
/-- A total order. -/
structure TO (le : Int → Int → Bool) : Prop where
  to : ∀ a b, (le a b || le b a) = true
  tr : ∀ a b c, le a b = true → le b c = true → le a c = true
  an : ∀ a b, le a b = true → le b a = true → a = b
def ms (le : Int → Int → Bool) (l : List Int) : List Int := l.mergeSort le
section
variable {le : Int → Int → Bool} {l p A B A1 A2 B1 B2 : List Int}
theorem ms_len : (ms le l).length = l.length := by simp [ms]
theorem ms_perm : (ms le l).Perm l := List.mergeSort_perm l le
theorem ms_mem {x : Int} : x ∈ ms le l ↔ x ∈ l := ms_perm.mem_iff
def Srt (le : Int → Int → Bool) (l : List Int) : Prop := l.Pairwise (fun a b => le a b = true)
theorem ms_srt (h : TO le) : Srt le (ms le l) := List.pairwise_mergeSort h.tr h.to l
theorem ms_of (h : TO le) (hp : p.Perm l) (hs : Srt le p) : ms le l = p :=
  List.Perm.eq_of_pairwise (le := fun a b => le a b = true) (fun a b _ _ h1 h2 => h.an a b h1 h2) (ms_srt h) hs (ms_perm.trans hp.symm)
theorem ms_self (h : TO le) (hs : Srt le l) : ms le l = l := ms_of h (List.Perm.refl _) hs
theorem TO.of_not (h : TO le) {a b : Int} (hf : le a b = false) : le b a = true := by
  have := h.to a b
  rw [hf] at this; simpa using this
theorem ms_cut (h : TO le) (hA : Srt le (A1 ++ A2)) (hB : Srt le (B1 ++ B2)) (h1 : ∀ x ∈ A1, ∀ y ∈ B2, le x y = true) (h2 : ∀ y ∈ B1, ∀ x ∈ A2, le y x = true) : ms le ((A1 ++ A2) ++ (B1 ++ B2)) = ms le (A1 ++ B1) ++ ms le (A2 ++ B2) := by
  obtain ⟨_, _, a3⟩ := List.pairwise_append.1 hA
  obtain ⟨_, _, b3⟩ := List.pairwise_append.1 hB
  refine ms_of h ?_ ?_
  · refine (List.Perm.append ms_perm ms_perm).trans ?_
    simp only [List.append_assoc]
    refine List.Perm.append_left _ ?_
    rw [← List.append_assoc, ← List.append_assoc]
    exact List.Perm.append_right _ List.perm_append_comm
  · refine List.pairwise_append.2 ⟨ms_srt h, ms_srt h, fun x hx y hy => ?_⟩
    rw [ms_mem, List.mem_append] at hx hy
    rcases hx with hx | hx <;> rcases hy with hy | hy
    · exact a3 x hx y hy
    · exact h1 x hx y hy
    · exact h2 x hx y hy
    · exact b3 x hx y hy
theorem srt_get (hs : Srt le l) {i j : Nat} (hij : i < j) (hj : j < l.length) : le (l.getD i 0) (l.getD j 0) = true := by
  have := List.pairwise_iff_getElem.1 hs i j (by omega) hj hij
  simpa [show i < l.length by omega, hj] using this
theorem srt_getE (h : TO le) (hs : Srt le l) {i j : Nat} (hij : i ≤ j) (hj : j < l.length) : le (l.getD i 0) (l.getD j 0) = true := by
  rcases Nat.lt_or_eq_of_le hij with h1 | rfl
  · exact srt_get hs h1 hj
  · have := h.to (l.getD i 0) (l.getD i 0); simpa using this
theorem mem_take_get {n : Nat} {x : Int} (h : x ∈ l.take n) : ∃ i, i < n ∧ i < l.length ∧ x = l.getD i 0 := by
  obtain ⟨i, hi, rfl⟩ := List.getElem_of_mem h
  have hi' : i < n ∧ i < l.length := by simp only [List.length_take] at hi; omega
  exact ⟨i, hi'.1, hi'.2, by simp [hi'.2]⟩
theorem mem_drop_get {n : Nat} {x : Int} (h : x ∈ l.drop n) : ∃ i, n ≤ i ∧ i < l.length ∧ x = l.getD i 0 := by
  obtain ⟨i, hi, rfl⟩ := List.getElem_of_mem h
  simp at hi
  exact ⟨n + i, by omega, by omega, by simp [show n + i < l.length by omega]⟩
/-- Where the search of the symmetric merge ends, the halves fall apart. -/
theorem sym_cut (h : TO le) (hA : Srt le A) (hB : Srt le B) {hh q : Nat} (hq1 : hh - B.length ≤ q) (hq2 : q ≤ min A.length hh)
    (h1 : ∀ c, hh - B.length ≤ c → c < q → le (A.getD c 0) (B.getD (hh - 1 - c) 0) = true) (h2 : ∀ c, q ≤ c → c < min A.length hh → le (A.getD c 0) (B.getD (hh - 1 - c) 0) = false) :
    ms le (A ++ B) = ms le (A.take q ++ B.take (hh - q)) ++ ms le (A.drop q ++ B.drop (hh - q)) := by
  have e := ms_cut (le := le) (A1 := A.take q) (A2 := A.drop q) (B1 := B.take (hh - q)) (B2 := B.drop (hh - q)) h (by rwa [List.take_append_drop]) (by rwa [List.take_append_drop])
    (fun x hx y hy => by
      obtain ⟨i, i1, i2, rfl⟩ := mem_take_get hx
      obtain ⟨k, k1, k2, rfl⟩ := mem_drop_get hy
      have g := h1 (q - 1) (by omega) (by omega)
      rw [show hh - 1 - (q - 1) = hh - q by omega] at g
      exact h.tr _ _ _ (srt_getE h hA (show i ≤ q - 1 by omega) (by omega)) (h.tr _ _ _ g (srt_getE h hB k1 k2)))
    (fun y hy x hx => by
      obtain ⟨k, k1, k2, rfl⟩ := mem_take_get hy
      obtain ⟨i, i1, i2, rfl⟩ := mem_drop_get hx
      have g := h.of_not (h2 q (Nat.le_refl _) (by omega))
      exact h.tr _ _ _ (srt_getE h hB (show k ≤ hh - 1 - q by omega) (by omega)) (h.tr _ _ _ g (srt_getE h hA i1 i2)))
  rwa [List.take_append_drop, List.take_append_drop] at e
/-- One element into a sorted list. -/
theorem ms_one (h : TO le) {x : Int} {S1 S2 : List Int} (hS : Srt le (S1 ++ S2)) (h1 : ∀ y ∈ S1, le y x = true) (h2 : ∀ y ∈ S2, le x y = true) (hp : (S1 ++ S2).Perm l) : ms le (l ++ [x]) = S1 ++ x :: S2 := by
  obtain ⟨a1, a2, a3⟩ := List.pairwise_append.1 hS
  refine ms_of h ?_ ?_
  · refine List.Perm.trans ?_ (List.Perm.append_right [x] hp)
    exact (List.perm_middle).trans (by exact (List.perm_append_singleton x (S1 ++ S2)).symm)
  · refine List.pairwise_append.2 ⟨a1, List.pairwise_cons.2 ⟨h2, a2⟩, fun y hy z hz => ?_⟩
    rcases List.mem_cons.1 hz with rfl | hz
    · exact h1 y hy
    · exact a3 y hy z hz
end
theorem getD_l {l k : List Int} {i : Nat} (h : i < l.length) : (l ++ k).getD i 0 = l.getD i 0 := by simp [List.getElem?_append_left h]
theorem getD_r {l k : List Int} {i j : Nat} (h : i = l.length + j) : (l ++ k).getD i 0 = k.getD j 0 := by
  subst h; simp [List.getElem?_append_right]
theorem set_r {l k : List Int} {i j : Nat} {x : Int} (h : i = l.length + j) : (l ++ k).set i x = l ++ k.set j x := by
  subst h; simp
/-- Two places exchanged. -/
def swp (l : List Int) (i j : Nat) : List Int := (l.set i (l.getD j 0)).set j (l.getD i 0)
theorem swp_adj {p q : List Int} {x y : Int} {i : Nat} (h : i = p.length) : swp (p ++ x :: y :: q) i (i + 1) = p ++ y :: x :: q := by
  subst h
  simp [swp, List.set_append]
theorem swp_comm (l : List Int) (i j : Nat) (h : i ≠ j) : swp l i j = swp l j i := by
  unfold swp
  rw [List.set_comm _ _ h]
end Go.Proofs.YtedbjmgchfgabaaDoor.Abs
namespace Go.Proofs.YtedbjmgchfgabaaDoor.Abs.Jb
set_option linter.unusedSimpArgs false
set_option linter.unusedVariables false
open Go.RowKit
open Go.Proofs.YtedbjmgchfgabaaDoor.Sim
open Go.Proofs
theorem un3i : Tryd.prog.underlying 3 = some (.int .i64) := by kernel_rfl
theorem un46u : Tryd.prog.underlying 175 = some (.int .u64) := by kernel_rfl
/-- A comparison that reads the row's memory, whatever the row is. -/
structure CmpOk (m : AM) (r s : Nat) (kd : Kind) (c : Int → Int → Int) (p : Int → Prop) (g : FuncId) (cap : Array Value) : Prop where
  hr : r < m.length
  hkd : kd.solid = true
  call : ∀ l x y, p x → p y → ACall Tryd.prog g (#[] ++ #[.int .i64 x, .int .i64 y] ++ cap) (St m r kd s l) (Ret (.int .i64 (c x y)) (St m r kd s l))
section
variable {m : AM} {r s : Nat} {kd : Kind} {le : Int → Int → Bool} {c : Int → Int → Int} {p : Int → Prop} {g : FuncId} {cap : Array Value} {fn : Func} {bd : Code}
/-- Of two places the comparison answers as the order does. -/
def Cross (le : Int → Int → Bool) (c : Int → Int → Int) (x y : Int) : Prop := c y x < 0 ↔ le x y = false
set_option maxRecDepth 100000 in
theorem f128_ok (hC : CmpOk m r s kd c p g cap) (hT : TO le) (hf : Tryd.prog.funcs[g]? = some fn) (hb : fn.body = some bd) (a b n : Nat) (pre A post : List Int) (ha : pre.length = a) (hab : a + A.length = b) (hn : (pre ++ A ++ post).length = n) (hlim : n ≤ 1000000)
    (hp : ∀ x ∈ A, p x) (hX : A.Pairwise (Cross le c)) :
    ACall Tryd.prog 123 #[.slice (some ⟨r, 0, none⟩) n n, .int .i64 (a : Nat), .int .i64 (b : Nat), .func (.func g) #[] cap] (St m r kd s (pre ++ A ++ post)) (Ret (.tuple #[]) (St m r kd s (pre ++ ms le A ++ post))) := by
  have hr := hC.hr; have hkd := hC.hkd
  have hlen : pre.length + A.length + post.length = n := by rw [← hn]; simp; omega
  refine ACall.intro Tryd.func123 rfl (Nat.le_of_ble_eq_true rfl) ?_
  (repeat (first | (with_reducible refine AWo.cons ?_) | ((with_reducible refine Step.id ?_); first | ((with_reducible apply Step.move); exact rfl; exact rfl) | ((with_reducible apply Step.assign); exact rfl; exact rfl) | ((with_reducible apply Step.add); exact rfl; exact rfl; (focus (omega)); exact rfl)) | (with_reducible refine AWo.nil ?_) | ((with_reducible apply AW.seq)) | ((with_reducible apply Then.n)) | ((with_reducible apply AW.regL)) | ((with_reducible apply AW.block))))
  refine AW.loopW (fun k t M => ∃ q, k = A.length - q ∧ 1 ≤ q ∧ q ≤ max 1 A.length ∧ t = fr [(0, .slice (some ⟨r, 0, none⟩) n n), (1, .int .i64 (a : Nat)), (2, .int .i64 (b : Nat)), (3, .func (.func g) #[] cap), (8, .int .i64 ((a + q : Nat) : Int))] ∧
    M = St m r kd s (pre ++ ms le (A.take q) ++ (A.drop q ++ post))) ⟨_, _, (by repeat (first | exact trivial | (refine And.intro rfl ?_))), 1, rfl, Nat.le_refl _, by omega, rfl, ?_⟩ ?_
  · cases A with
    | nil => simp [ms]
    | cons x l => simp [ms]
  rintro k t M ⟨q, rfl, hq1, hq, rfl, rfl⟩
  rcases Nat.lt_or_ge q A.length with hlt | hge
  · obtain ⟨x, hx⟩ : ∃ x, x = A.getD q 0 := ⟨_, rfl⟩
    have hdrop : A.drop q = x :: A.drop (q + 1) := by
      rw [List.drop_eq_getElem_cons hlt, hx]; simp [hlt]
    have htake : A.take (q + 1) = A.take q ++ [x] := by
      rw [List.take_succ_eq_append_getElem hlt, hx]; simp [hlt]
    have hxA : x ∈ A := by rw [hx]; simp [hlt]
    have hcr : ∀ z ∈ A.take q, c x z < 0 ↔ le z x = false := fun z hz => by
      rw [← List.take_append_drop q A, hdrop] at hX
      exact (List.pairwise_append.1 hX).2.2 z hz x (by simp)
    have hmem : ∀ z ∈ A.take q, z ∈ A := fun z hz => List.mem_of_mem_take hz
    have hsl : (ms le (A.take q)).length = q := by rw [ms_len]; simp; omega
    rw [hdrop]
    generalize hR : A.drop (q + 1) = R
    have hRl : R.length = A.length - (q + 1) := by rw [← hR]; simp
    have hgoal : ms le (A.take q ++ [x]) = ms le (A.take (q + 1)) := by rw [htake]
    generalize hS : A.take q = S at *
    have hSl : S.length = q := by rw [← hS]; simp; omega
    (repeat (first | (with_reducible refine AWo.cons ?_) | ((with_reducible refine Step.id ?_); first | ((with_reducible apply Step.move); exact rfl; exact rfl) | ((with_reducible apply Step.assign); exact rfl; exact rfl) | ((with_reducible apply Step.lss); exact rfl; exact rfl; exact rfl)) | (with_reducible refine AWo.nil ?_) | ((with_reducible apply AW.seq)) | ((with_reducible apply Then.n)) | ((with_reducible apply AW.regL)) | ((with_reducible apply AW.block)) | ((with_reducible apply AW.skip)) | ((with_reducible apply AW.condT); exact rfl; (focus ((simp only [decide_eq_true_eq, decide_eq_false_iff_not, Bool.not_eq_true', Bool.not_eq_false', Bool.not_true, Bool.not_false]; first | assumption | omega))))))
    refine AW.loopW (fun k t M => ∃ (S1 S2 : List Int) (j : Nat), k = S1.length ∧ j = a + S1.length ∧ ms le S = S1 ++ S2 ∧ (∀ z ∈ S2, le x z = true) ∧ t = fr [(0, .slice (some ⟨r, 0, none⟩) n n), (1, .int .i64 (a : Nat)), (2, .int .i64 (b : Nat)), (3, .func (.func g) #[] cap), (8, .int .i64 ((a + q : Nat) : Int)), (9, .int .i64 ((j : Nat) : Int))] ∧
      M = St m r kd s (pre ++ S1 ++ x :: S2 ++ (R ++ post))) ⟨_, _, (by repeat (first | exact trivial | (refine And.intro rfl ?_))), ms le S, [], a + q, rfl, by rw [hsl], by simp, by simp, rfl, ?_⟩ ?_
    · have hq0 : ms le S ++ x :: R ++ post = ms le S ++ [] ++ x :: R ++ post := by simp
      simp
    rintro k t M ⟨S1, S2, j, rfl, rfl, hms, hS2, rfl, rfl⟩
    have hl2 : S1.length + S2.length = q := by rw [← List.length_append, ← hms, hsl]
    rcases List.eq_nil_or_concat S1 with rfl | ⟨S1', z, rfl⟩
    · (repeat (first | (with_reducible refine AWo.cons ?_) | ((with_reducible refine Step.id ?_); first | ((with_reducible apply Step.gdF); exact rfl; exact rfl; (focus ((simp; done)))) | ((with_reducible apply Step.move); exact rfl; exact rfl) | ((with_reducible apply Step.assign); exact rfl; exact rfl) | ((with_reducible apply Step.add); exact rfl; exact rfl; (focus (omega)); exact rfl) | ((with_reducible apply Step.gtr); exact rfl; exact rfl; exact rfl) | ((with_reducible apply Step.pickF); exact rfl; exact rfl; exact rfl; exact rfl; (focus ((simp; done))))) | (with_reducible refine AWo.nil ?_) | ((with_reducible apply AW.seq)) | ((with_reducible apply Then.n)) | ((with_reducible apply AW.regL)) | ((with_reducible apply AW.drawL fit); (focus (decide +kernel))) | ((with_reducible apply AW.exit)) | ((with_reducible apply InBlk.n)) | ((with_reducible apply InBlk.hit)) | ((with_reducible apply Then.e)) | ((with_reducible apply AW.condF); exact rfl; (focus (rfl)))))
      refine ⟨_, _, ?_, (by repeat (first | exact trivial | (refine And.intro rfl ?_))), q + 1, rfl, by omega, by omega, rfl, ?_⟩
      · omega
      · have := ms_one (l := S) hT (S1 := []) (S2 := S2) (by rw [← hms]; exact ms_srt hT) (by simp) hS2 (by rw [← hms]; exact ms_perm)
        rw [← hgoal, this, hR]
        simp
    · have hz : z ∈ S := by rw [← ms_mem (le := le), hms]; simp
      have hcz := hcr z hz
      simp only [List.concat_eq_append] at hms hl2 ⊢
      have e1 : pre ++ (S1' ++ [z]) ++ x :: S2 ++ (R ++ post) = (pre ++ S1') ++ z :: x :: (S2 ++ (R ++ post)) := by simp
      rw [e1]
      have hl3 : S1'.length + 1 + S2.length = q := by simpa using hl2
      have hsw := swp_adj (p := pre ++ S1') (q := S2 ++ (R ++ post)) (x := z) (y := x) (i := a + S1'.length) (by simp [ha])
      have hg1 : ((pre ++ S1') ++ z :: x :: (S2 ++ (R ++ post))).getD (a + S1'.length) 0 = z := by rw [getD_r (j := 0) (by simp [ha])]; simp
      have hg2 : ((pre ++ S1') ++ z :: x :: (S2 ++ (R ++ post))).getD (a + S1'.length + 1) 0 = x := by rw [getD_r (j := 1) (by simp only [List.length_append]; omega)]; simp
      have hll : ((pre ++ S1') ++ z :: x :: (S2 ++ (R ++ post))).length = n := by simp only [List.length_append, List.length_cons]; omega
      have hlen1 : (S1' ++ [z]).length = S1'.length + 1 := by simp
      generalize hrow : ((pre ++ S1') ++ z :: x :: (S2 ++ (R ++ post))) = row at *
      rw [hlen1]
      have r1 : Rd (St m r kd s row) r (a + S1'.length) (.int .i64 z) := by rw [← hg1]; exact St.rd hr (by omega)
      have r2 : Rd (St m r kd s row) r (a + S1'.length + 1) (.int .i64 x) := by rw [← hg2]; exact St.rd hr (by omega)
      have e2 : ((a + (S1'.length + 1) : Nat) : Int) - 1 = ((a + S1'.length : Nat) : Int) := by omega
      have hc := hC.call row x z (hp x hxA) (hp z (hmem z hz))
      by_cases hlt2 : c x z < 0
      · (repeat (first | (with_reducible refine AWo.cons ?_) | ((with_reducible refine Step.id ?_); first | ((with_reducible apply Step.gdT); exact rfl; exact rfl; (focus ((simp only [decide_eq_true_eq, decide_eq_false_iff_not, Bool.not_eq_true', Bool.not_eq_false', Bool.not_true, Bool.not_false]; first | assumption | omega)))) | ((with_reducible apply Step.move); exact rfl; exact rfl) | ((with_reducible apply Step.assign); exact rfl; exact rfl) | ((with_reducible apply Step.load); exact rfl; (focus (decide +kernel)); exact rfl; (focus (assumption))) | ((with_reducible apply Step.ix1z); exact rfl; (focus (exact Sl.mk (by omega))); exact rfl; (focus (decide +kernel)); exact rfl; (focus (omega))) | ((with_reducible apply Step.subE); exact rfl; exact rfl; (focus (assumption)); (focus (omega)); exact rfl) | ((with_reducible apply Step.lss); exact rfl; exact rfl; exact rfl) | ((with_reducible apply Step.gtr); exact rfl; exact rfl; exact rfl) | ((with_reducible apply Step.pickT); exact rfl; exact rfl; exact rfl; exact rfl; (focus ((simp only [decide_eq_true_eq, decide_eq_false_iff_not, Bool.not_eq_true', Bool.not_eq_false', Bool.not_true, Bool.not_false]; first | assumption | omega)))) | ((with_reducible apply Step.callV fit); exact rfl; exact rfl; exact hf; exact hb; exact rfl; exact (hc)) | ((with_reducible apply Step.storeR); exact rfl; exact rfl; (focus (decide +kernel)); exact hr; exact hkd; (focus (first | omega | (simp [swp, ms_len]; omega))); exact rfl)) | (with_reducible refine AWo.nil ?_) | ((with_reducible apply AW.seq)) | ((with_reducible apply Then.n)) | ((with_reducible apply AW.regL)) | ((with_reducible apply AW.block)) | ((with_reducible apply AW.drawL fit); (focus (decide +kernel))) | ((with_reducible apply InBlk.n)) | ((with_reducible apply AW.skip)) | ((with_reducible apply AW.condT); exact rfl; (focus ((simp only [decide_eq_true_eq, decide_eq_false_iff_not, Bool.not_eq_true', Bool.not_eq_false', Bool.not_true, Bool.not_false]; first | assumption | omega))))))
        have hxz : le x z = true := hT.of_not ((hcr z hz).1 hlt2)
        refine ⟨_, _, ?_, (by repeat (first | exact trivial | (refine And.intro rfl ?_))), S1', z :: S2, a + S1'.length, rfl, rfl, by rw [hms]; simp, fun y hy => ?_, rfl, ?_⟩
        · omega
        · rcases List.mem_cons.1 hy with rfl | hy
          · exact hxz
          · exact hS2 y hy
        · have : (row.set (a + (S1'.length + 1)) z).set (a + S1'.length) x = swp row (a + S1'.length) (a + S1'.length + 1) := by
            rw [swp_comm _ _ _ (by omega), swp, hg1, hg2]; rfl
          rw [this, hsw]
          simp
      · (repeat (first | (with_reducible refine AWo.cons ?_) | ((with_reducible refine Step.id ?_); first | ((with_reducible apply Step.gdT); exact rfl; exact rfl; (focus ((simp only [decide_eq_true_eq, decide_eq_false_iff_not, Bool.not_eq_true', Bool.not_eq_false', Bool.not_true, Bool.not_false]; first | assumption | omega)))) | ((with_reducible apply Step.move); exact rfl; exact rfl) | ((with_reducible apply Step.assign); exact rfl; exact rfl) | ((with_reducible apply Step.load); exact rfl; (focus (decide +kernel)); exact rfl; (focus (assumption))) | ((with_reducible apply Step.ix1z); exact rfl; (focus (exact Sl.mk (by omega))); exact rfl; (focus (decide +kernel)); exact rfl; (focus (omega))) | ((with_reducible apply Step.subE); exact rfl; exact rfl; (focus (assumption)); (focus (omega)); exact rfl) | ((with_reducible apply Step.add); exact rfl; exact rfl; (focus (omega)); exact rfl) | ((with_reducible apply Step.lss); exact rfl; exact rfl; exact rfl) | ((with_reducible apply Step.gtr); exact rfl; exact rfl; exact rfl) | ((with_reducible apply Step.pickT); exact rfl; exact rfl; exact rfl; exact rfl; (focus ((simp only [decide_eq_true_eq, decide_eq_false_iff_not, Bool.not_eq_true', Bool.not_eq_false', Bool.not_true, Bool.not_false]; first | assumption | omega)))) | ((with_reducible apply Step.callV fit); exact rfl; exact rfl; exact hf; exact hb; exact rfl; exact (hc))) | (with_reducible refine AWo.nil ?_) | ((with_reducible apply AW.seq)) | ((with_reducible apply Then.n)) | ((with_reducible apply AW.regL)) | ((with_reducible apply AW.drawL fit); (focus (decide +kernel))) | ((with_reducible apply AW.exit)) | ((with_reducible apply InBlk.n)) | ((with_reducible apply InBlk.hit)) | ((with_reducible apply Then.e)) | ((with_reducible apply AW.condF); exact rfl; (focus ((simp only [decide_eq_true_eq, decide_eq_false_iff_not, Bool.not_eq_true', Bool.not_eq_false', Bool.not_true, Bool.not_false]; first | assumption | omega))))))
        have hzx : le z x = true := by
          cases hq : le z x with
          | true => rfl
          | false => exact absurd ((hcr z hz).2 hq) hlt2
        refine ⟨_, _, ?_, (by repeat (first | exact trivial | (refine And.intro rfl ?_))), q + 1, rfl, by omega, by omega, rfl, ?_⟩
        · omega
        · have hs := ms_srt (l := S) hT
          rw [hms] at hs
          have := ms_one (l := S) hT hs (fun y hy => by
            rcases List.mem_append.1 hy with hy | hy
            · exact hT.tr _ _ _ ((List.pairwise_append.1 (List.pairwise_append.1 hs).1).2.2 y hy z (by simp)) hzx
            · simp at hy; subst hy; exact hzx) hS2 (by rw [← hms]; exact ms_perm)
          rw [← hgoal, this, hR, ← hrow]
          simp
  · (repeat (first | (with_reducible refine AWo.cons ?_) | ((with_reducible refine Step.id ?_); first | ((with_reducible apply Step.move); exact rfl; exact rfl) | ((with_reducible apply Step.lss); exact rfl; exact rfl; exact rfl)) | (with_reducible refine AWo.nil ?_) | ((with_reducible apply AW.seq)) | ((with_reducible apply Then.n)) | ((with_reducible apply AW.regL)) | ((with_reducible apply AW.exit)) | ((with_reducible apply InBlk.hit)) | ((with_reducible apply Then.e)) | ((with_reducible apply AW.condF); exact rfl; (focus ((simp only [decide_eq_true_eq, decide_eq_false_iff_not, Bool.not_eq_true', Bool.not_eq_false', Bool.not_true, Bool.not_false]; first | assumption | omega))))))
    refine ⟨_, rfl, rfl, ?_⟩
    rw [List.take_of_length_le (by omega), List.drop_eq_nil_of_le (by omega)]
    simp
end
end Go.Proofs.YtedbjmgchfgabaaDoor.Abs.Jb
namespace Go.Proofs.YtedbjmgchfgabaaDoor.Abs.Jb
set_option linter.unusedSimpArgs false
set_option linter.unusedVariables false
open Go.RowKit
open Go.Proofs.YtedbjmgchfgabaaDoor.Sim
open Go.Proofs
section
variable {m : AM} {r s : Nat} {kd : Kind} {g : FuncId} {cap : Array Value}
theorem swp_far {P Y W X1 X2 Z1 Z2 : List Int} {x z : Int} {i j : Nat} (hi : i = P.length + X1.length) (hj : j = P.length + X1.length + 1 + X2.length + Y.length + Z1.length) :
    swp (P ++ (X1 ++ x :: X2) ++ Y ++ (Z1 ++ z :: Z2) ++ W) i j = P ++ (X1 ++ z :: X2) ++ Y ++ (Z1 ++ x :: Z2) ++ W := by
  have e1 : P ++ (X1 ++ x :: X2) ++ Y ++ (Z1 ++ z :: Z2) ++ W = (P ++ X1) ++ x :: (X2 ++ Y ++ Z1 ++ z :: (Z2 ++ W)) := by simp
  have e2 : (P ++ X1) ++ x :: (X2 ++ Y ++ Z1 ++ z :: (Z2 ++ W)) = (P ++ X1 ++ x :: (X2 ++ Y ++ Z1)) ++ z :: (Z2 ++ W) := by simp
  have g1 : ((P ++ X1) ++ x :: (X2 ++ Y ++ Z1 ++ z :: (Z2 ++ W))).getD i 0 = x := by rw [getD_r (j := 0) (by simp only [List.length_append]; omega)]; simp
  have g2 : ((P ++ X1) ++ x :: (X2 ++ Y ++ Z1 ++ z :: (Z2 ++ W))).getD j 0 = z := by rw [e2, getD_r (j := 0) (by simp only [List.length_append, List.length_cons]; omega)]; simp
  unfold swp
  rw [e1, g1, g2, set_r (j := 0) (by simp only [List.length_append]; omega)]
  have e3 : (P ++ X1) ++ (x :: (X2 ++ Y ++ Z1 ++ z :: (Z2 ++ W))).set 0 z = (P ++ X1 ++ z :: (X2 ++ Y ++ Z1)) ++ z :: (Z2 ++ W) := by simp
  rw [e3, set_r (j := 0) (by simp only [List.length_append, List.length_cons]; omega)]
  simp
set_option maxRecDepth 100000 in
theorem f147_ok (hr : r < m.length) (hkd : kd.solid = true) (a b k n : Nat) (P X Y Z W : List Int) (ha : P.length = a) (hb : a + X.length + Y.length = b) (hx : X.length = k) (hz : Z.length = k) (hn : (P ++ X ++ Y ++ Z ++ W).length = n) (hlim : n ≤ 1000000) :
    ACall Tryd.prog 159 #[.slice (some ⟨r, 0, none⟩) n n, .int .i64 (a : Nat), .int .i64 (b : Nat), .int .i64 (k : Nat), .func (.func g) #[] cap] (St m r kd s (P ++ X ++ Y ++ Z ++ W)) (Ret (.tuple #[]) (St m r kd s (P ++ Z ++ Y ++ X ++ W))) := by
  have hlen : P.length + X.length + Y.length + Z.length + W.length = n := by rw [← hn]; simp only [List.length_append]
  refine ACall.intro Tryd.func159 rfl (Nat.le_of_ble_eq_true rfl) ?_
  (repeat (first | (with_reducible refine AWo.cons ?_) | ((with_reducible refine Step.id ?_); ((with_reducible apply Step.assign); exact rfl; exact rfl)) | (with_reducible refine AWo.nil ?_) | ((with_reducible apply AW.seq)) | ((with_reducible apply Then.n)) | ((with_reducible apply AW.regL)) | ((with_reducible apply AW.block))))
  refine AW.loopW (fun u t M => ∃ i, u = k - i ∧ i ≤ k ∧ t = fr [(0, .slice (some ⟨r, 0, none⟩) n n), (1, .int .i64 (a : Nat)), (2, .int .i64 (b : Nat)), (3, .int .i64 (k : Nat)), (4, .func (.func g) #[] cap), (10, .int .i64 ((i : Nat) : Int))] ∧
    M = St m r kd s (P ++ (Z.take i ++ X.drop i) ++ Y ++ (X.take i ++ Z.drop i) ++ W)) ⟨_, _, (by repeat (first | exact trivial | (refine And.intro rfl ?_))), 0, rfl, Nat.zero_le _, rfl, by simp⟩ ?_
  rintro u t M ⟨i, rfl, hi, rfl, rfl⟩
  rcases Nat.lt_or_ge i k with hlt | hge
  · obtain ⟨x, hxe⟩ : ∃ x, X.drop i = x :: X.drop (i + 1) := ⟨X[i]'(by omega), List.drop_eq_getElem_cons (by omega)⟩
    obtain ⟨z, hze⟩ : ∃ z, Z.drop i = z :: Z.drop (i + 1) := ⟨Z[i]'(by omega), List.drop_eq_getElem_cons (by omega)⟩
    have htx : X.take (i + 1) = X.take i ++ [x] := by
      rw [List.take_succ_eq_append_getElem (by omega)]
      have := List.drop_eq_getElem_cons (l := X) (i := i) (by omega)
      rw [hxe] at this; injection this with h1; rw [h1]
    have htz : Z.take (i + 1) = Z.take i ++ [z] := by
      rw [List.take_succ_eq_append_getElem (by omega)]
      have := List.drop_eq_getElem_cons (l := Z) (i := i) (by omega)
      rw [hze] at this; injection this with h1; rw [h1]
    have l1 : (X.take i).length = i := by simp; omega
    have l2 : (Z.take i).length = i := by simp; omega
    have l3 : (X.drop (i + 1)).length = k - (i + 1) := by simp; omega
    have l4 : (Z.drop (i + 1)).length = k - (i + 1) := by simp; omega
    have e0 : P ++ (Z.take i ++ X.drop i) ++ Y ++ (X.take i ++ Z.drop i) ++ W = P ++ (Z.take i ++ x :: X.drop (i + 1)) ++ Y ++ (X.take i ++ z :: Z.drop (i + 1)) ++ W := by rw [hxe, hze]
    have hsw := swp_far (P := P) (Y := Y) (W := W) (X1 := Z.take i) (X2 := X.drop (i + 1)) (Z1 := X.take i) (Z2 := Z.drop (i + 1)) (x := x) (z := z) (i := a + i) (j := b + i) (by omega) (by omega)
    rw [← e0] at hsw
    have hll : (P ++ (Z.take i ++ X.drop i) ++ Y ++ (X.take i ++ Z.drop i) ++ W).length = n := by rw [e0]; simp only [List.length_append, List.length_cons]; omega
    have e1 : ((a : Nat) : Int) + ((i : Nat) : Int) = ((a + i : Nat) : Int) := by omega
    have e2 : ((b : Nat) : Int) + ((i : Nat) : Int) = ((b + i : Nat) : Int) := by omega
    generalize P ++ (Z.take i ++ X.drop i) ++ Y ++ (X.take i ++ Z.drop i) ++ W = row at *
    (repeat (first | (with_reducible refine AWo.cons ?_) | ((with_reducible refine Step.id ?_); first | ((with_reducible apply Step.move); exact rfl; exact rfl) | ((with_reducible apply Step.assign); exact rfl; exact rfl) | ((with_reducible apply Step.load); exact rfl; (focus (decide +kernel)); exact rfl; (focus (exact St.rd hr (by first | omega | (simp [swp, ms_len]; omega))))) | ((with_reducible apply Step.ix1z); exact rfl; (focus (exact Sl.mk (by omega))); exact rfl; (focus (decide +kernel)); exact rfl; (focus (omega))) | ((with_reducible apply Step.addE); exact rfl; exact rfl; (focus (assumption)); (focus (omega)); exact rfl) | ((with_reducible apply Step.add); exact rfl; exact rfl; (focus (omega)); exact rfl) | ((with_reducible apply Step.lss); exact rfl; exact rfl; exact rfl) | ((with_reducible apply Step.storeR); exact rfl; exact rfl; (focus (decide +kernel)); exact hr; exact hkd; (focus (first | omega | (simp [swp, ms_len]; omega))); exact rfl)) | (with_reducible refine AWo.nil ?_) | ((with_reducible apply AW.seq)) | ((with_reducible apply Then.n)) | ((with_reducible apply AW.regL)) | ((with_reducible apply AW.block)) | ((with_reducible apply AW.drawL fit); (focus (decide +kernel))) | ((with_reducible apply InBlk.n)) | ((with_reducible apply AW.skip)) | ((with_reducible apply AW.condT); exact rfl; (focus ((simp only [decide_eq_true_eq, decide_eq_false_iff_not, Bool.not_eq_true', Bool.not_eq_false', Bool.not_true, Bool.not_false]; first | assumption | omega))))))
    refine ⟨_, _, ?_, (by repeat (first | exact trivial | (refine And.intro rfl ?_))), i + 1, rfl, by omega, rfl, ?_⟩
    · omega
    · show St m r kd s (swp row (a + i) (b + i)) = _
      rw [hsw, htx, htz]
      simp
  · (repeat (first | (with_reducible refine AWo.cons ?_) | ((with_reducible refine Step.id ?_); first | ((with_reducible apply Step.move); exact rfl; exact rfl) | ((with_reducible apply Step.lss); exact rfl; exact rfl; exact rfl)) | (with_reducible refine AWo.nil ?_) | ((with_reducible apply AW.seq)) | ((with_reducible apply Then.n)) | ((with_reducible apply AW.regL)) | ((with_reducible apply AW.exit)) | ((with_reducible apply InBlk.hit)) | ((with_reducible apply Then.e)) | ((with_reducible apply AW.condF); exact rfl; (focus ((simp only [decide_eq_true_eq, decide_eq_false_iff_not, Bool.not_eq_true', Bool.not_eq_false', Bool.not_true, Bool.not_false]; first | assumption | omega))))))
    refine ⟨_, rfl, rfl, ?_⟩
    obtain rfl : i = k := by omega
    rw [List.take_of_length_le (by omega), List.take_of_length_le (by omega), List.drop_eq_nil_of_le (by omega), List.drop_eq_nil_of_le (by omega)]
    simp
set_option maxRecDepth 100000 in
theorem f141_ok (hr : r < m.length) (hkd : kd.solid = true) (a b d n : Nat) (P U V W : List Int) (ha : P.length = a) (hb : a + U.length = b) (hd : b + V.length = d) (hu : 0 < U.length) (hv : 0 < V.length) (hn : (P ++ U ++ V ++ W).length = n) (hlim : n ≤ 1000000) :
    ACall Tryd.prog 147 #[.slice (some ⟨r, 0, none⟩) n n, .int .i64 (a : Nat), .int .i64 (b : Nat), .int .i64 (d : Nat), .func (.func g) #[] cap] (St m r kd s (P ++ U ++ V ++ W)) (Ret (.tuple #[]) (St m r kd s (P ++ V ++ U ++ W))) := by
  have hlen : P.length + U.length + V.length + W.length = n := by rw [← hn]; simp only [List.length_append]
  refine ACall.intro Tryd.func147 rfl (Nat.le_of_ble_eq_true rfl) ?_
  have e1 : ((b : Nat) : Int) - ((a : Nat) : Int) = ((U.length : Nat) : Int) := by omega
  have e2 : ((d : Nat) : Int) - ((b : Nat) : Int) = ((V.length : Nat) : Int) := by omega
  (repeat (first | (with_reducible refine AWo.cons ?_) | ((with_reducible refine Step.id ?_); first | ((with_reducible apply Step.move); exact rfl; exact rfl) | ((with_reducible apply Step.assign); exact rfl; exact rfl) | ((with_reducible apply Step.subE); exact rfl; exact rfl; (focus (assumption)); (focus (omega)); exact rfl)) | (with_reducible refine AWo.nil ?_) | ((with_reducible apply AW.seq)) | ((with_reducible apply Then.n)) | ((with_reducible apply AW.regL)) | ((with_reducible apply AW.block))))
  refine AW.loopW (fun u t M => ∃ (i j : Nat) (L I J R : List Int), u = i + j ∧ I.length = i ∧ J.length = j ∧ 0 < i ∧ 0 < j ∧ L.length + i = U.length ∧ R.length + j = V.length ∧ V ++ U = L ++ (J ++ I) ++ R ∧
    t = fr [(0, .slice (some ⟨r, 0, none⟩) n n), (1, .int .i64 (a : Nat)), (2, .int .i64 (b : Nat)), (3, .int .i64 (d : Nat)), (4, .func (.func g) #[] cap), (10, .int .i64 ((i : Nat) : Int)), (11, .int .i64 ((j : Nat) : Int))] ∧
    M = St m r kd s (P ++ L ++ I ++ J ++ R ++ W)) ⟨_, _, (by repeat (first | exact trivial | (refine And.intro rfl ?_))), U.length, V.length, [], U, V, [], rfl, rfl, rfl, hu, hv, by simp, by simp, by simp, rfl, by simp⟩ ?_
  rintro u t M ⟨i, j, L, I, J, R, rfl, hI, hJ, hi, hj, hL, hR, hVU, rfl, rfl⟩
  have e3 : ((b : Nat) : Int) - ((i : Nat) : Int) = ((b - i : Nat) : Int) := by omega
  have hl1 : (P ++ L).length = b - i := by rw [List.length_append]; omega
  have hll : (P ++ L ++ I ++ J ++ R ++ W).length = n := by simp only [List.length_append]; omega
  by_cases hij : i = j
  · subst hij
    have e := f147_ok (g := g) (cap := cap) (s := s) hr hkd (b - i) b i n (P ++ L) I [] J (R ++ W) hl1 (by simp; omega) hI hJ (by rw [← hll]; simp) hlim
    simp only [List.append_nil, ← List.append_assoc] at e
    (repeat (first | (with_reducible refine AWo.cons ?_) | ((with_reducible refine Step.id ?_); first | ((with_reducible apply Step.move); exact rfl; exact rfl) | ((with_reducible apply Step.subE); exact rfl; exact rfl; (focus (assumption)); (focus (omega)); exact rfl) | ((with_reducible apply Step.neq); exact rfl; exact rfl; exact rfl) | ((with_reducible apply Step.callM fit); exact rfl; exact Tryd.func159; exact rfl; exact rfl; exact (e))) | (with_reducible refine AWo.nil ?_) | ((with_reducible apply AW.seq)) | ((with_reducible apply Then.n)) | ((with_reducible apply AW.regL)) | ((with_reducible apply AW.exit)) | ((with_reducible apply InBlk.hit)) | ((with_reducible apply Then.e)) | ((with_reducible apply AW.condF); exact rfl; (focus ((simp; done))))))
    refine ⟨_, rfl, rfl, ?_⟩
    have : P ++ V ++ U ++ W = P ++ (V ++ U) ++ W := by simp
    rw [this, hVU]
    simp
  · rcases Nat.lt_or_ge j i with hlt | hge
    · have hsp : I = I.take j ++ I.drop j := by rw [List.take_append_drop]
      have l1 : (I.take j).length = j := by simp; omega
      have l2 : (I.drop j).length = i - j := by simp; omega
      generalize I.take j = I1 at *
      generalize I.drop j = I2 at *
      subst hsp
      have e := f147_ok (g := g) (cap := cap) (s := s) hr hkd (b - i) b j n (P ++ L) I1 I2 J (R ++ W) hl1 (by omega) l1 hJ (by rw [← hll]; simp) hlim
      simp only [← List.append_assoc] at e hll
      have e4 : ((i : Nat) : Int) - ((j : Nat) : Int) = ((i - j : Nat) : Int) := by omega
      simp only [← List.append_assoc]
      (repeat (first | (with_reducible refine AWo.cons ?_) | ((with_reducible refine Step.id ?_); first | ((with_reducible apply Step.move); exact rfl; exact rfl) | ((with_reducible apply Step.assign); exact rfl; exact rfl) | ((with_reducible apply Step.subE); exact rfl; exact rfl; (focus (assumption)); (focus (omega)); exact rfl) | ((with_reducible apply Step.gtr); exact rfl; exact rfl; exact rfl) | ((with_reducible apply Step.neq); exact rfl; exact rfl; exact rfl) | ((with_reducible apply Step.callM fit); exact rfl; exact Tryd.func159; exact rfl; exact rfl; exact (e))) | (with_reducible refine AWo.nil ?_) | ((with_reducible apply AW.seq)) | ((with_reducible apply Then.n)) | ((with_reducible apply AW.regL)) | ((with_reducible apply AW.block)) | ((with_reducible apply InBlk.n)) | ((with_reducible apply AW.skip)) | ((with_reducible apply AW.condT); exact rfl; (focus ((simp only [decide_eq_true_eq, decide_eq_false_iff_not, Bool.not_eq_true', Bool.not_eq_false', Bool.not_true, Bool.not_false]; first | assumption | omega))))))
      refine ⟨_, _, ?_, (by repeat (first | exact trivial | (refine And.intro rfl ?_))), i - j, j, L ++ J, I2, I1, R, rfl, l2, l1, by omega, hj, by rw [List.length_append]; omega, hR, by rw [hVU]; simp, rfl, by simp⟩
      omega
    · have hsp : J = J.take (j - i) ++ J.drop (j - i) := by rw [List.take_append_drop]
      have l1 : (J.take (j - i)).length = j - i := by simp; omega
      have l2 : (J.drop (j - i)).length = i := by simp; omega
      generalize J.take (j - i) = J1 at *
      generalize J.drop (j - i) = J2 at *
      subst hsp
      have e := f147_ok (g := g) (cap := cap) (s := s) hr hkd (b - i) (b + j - i) i n (P ++ L) I J1 J2 (R ++ W) hl1 (by omega) hI l2 (by rw [← hll]; simp) hlim
      simp only [← List.append_assoc] at e hll
      have e4 : ((j : Nat) : Int) - ((i : Nat) : Int) = ((j - i : Nat) : Int) := by omega
      have e5 : ((b : Nat) : Int) + ((j : Nat) : Int) = ((b + j : Nat) : Int) := by omega
      have e6 : ((b + j : Nat) : Int) - ((i : Nat) : Int) = ((b + j - i : Nat) : Int) := by omega
      simp only [← List.append_assoc]
      (repeat (first | (with_reducible refine AWo.cons ?_) | ((with_reducible refine Step.id ?_); first | ((with_reducible apply Step.move); exact rfl; exact rfl) | ((with_reducible apply Step.assign); exact rfl; exact rfl) | ((with_reducible apply Step.addE); exact rfl; exact rfl; (focus (assumption)); (focus (omega)); exact rfl) | ((with_reducible apply Step.subE); exact rfl; exact rfl; (focus (assumption)); (focus (omega)); exact rfl) | ((with_reducible apply Step.gtr); exact rfl; exact rfl; exact rfl) | ((with_reducible apply Step.neq); exact rfl; exact rfl; exact rfl) | ((with_reducible apply Step.callM fit); exact rfl; exact Tryd.func159; exact rfl; exact rfl; exact (e))) | (with_reducible refine AWo.nil ?_) | ((with_reducible apply AW.seq)) | ((with_reducible apply Then.n)) | ((with_reducible apply AW.regL)) | ((with_reducible apply AW.block)) | ((with_reducible apply InBlk.n)) | ((with_reducible apply AW.skip)) | ((with_reducible apply AW.condT); exact rfl; (focus ((simp only [decide_eq_true_eq, decide_eq_false_iff_not, Bool.not_eq_true', Bool.not_eq_false', Bool.not_true, Bool.not_false]; first | assumption | omega)))) | ((with_reducible apply AW.condF); exact rfl; (focus ((simp only [decide_eq_true_eq, decide_eq_false_iff_not, Bool.not_eq_true', Bool.not_eq_false', Bool.not_true, Bool.not_false]; first | assumption | omega))))))
      refine ⟨_, _, ?_, (by repeat (first | exact trivial | (refine And.intro rfl ?_))), i, j - i, L, J2, J1, I ++ R, rfl, l2, l1, hi, by omega, hL, by rw [List.length_append]; omega, by rw [hVU]; simp, rfl, by simp⟩
      omega
end
end Go.Proofs.YtedbjmgchfgabaaDoor.Abs.Jb
