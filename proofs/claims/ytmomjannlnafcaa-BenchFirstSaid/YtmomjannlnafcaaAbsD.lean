/- Regions whose writing operations may come in several orders; going on under other names. -/
import Derived.Test.YtmomjannlnafcaaAbsM
namespace Go.Proofs.Ytmomjannlnafcaa.Abs
set_option linter.unusedSimpArgs false
set_option linter.unusedVariables false
open Go.RowKit
open Go.Proofs.Ytmomjannlnafcaa.Sim
/-- A tree of orders. -/
inductive PT where
  | done
  | step (i : Nat) (rest : PT)
  | both (a b : PT)
deriving DecidableEq
def forkT (g : Nat → Option PT) : List Nat → Option PT
  | [] => none
  | [i] => (g i).map (.step i)
  | i :: rs => match g i, forkT g rs with
    | some a, some b => some (.both (.step i a) b)
    | _, _ => none
def planT (P : Program) (ops : Array Oper) : Nat → Array Bool → Option PT
  | 0, listed => match Region.ready .any ops listed with
    | [] => some .done
    | _ => none
  | f + 1, listed => match Region.ready .any ops listed with
    | [] => some .done
    | rs => match rs.find? (takeB P ops listed) with
      | some i => (planT P ops f (listed.setIfInBounds i true)).map (.step i)
      | none => forkT (fun i => planT P ops f (listed.setIfInBounds i true)) rs
def AWt (P : Program) (nt : Nat) (l : List Oper) (Q : Fm → AM → Prop) : PT → Fm → AM → Prop
  | .done, t, m => Q t m
  | .step i rest, t, m => ∃ o, l[i]? = some o ∧ Step P nt l.toArray o t m (fun t m => AWt P nt l Q rest t m)
  | .both a b, t, m => AWt P nt l Q a t m ∧ AWt P nt l Q b t m
section
variable {P : Program} {nt : Nat} {t : Fm} {m m0 : AM} {Q : Fm → AM → Prop} {l : List Oper}
theorem forkT_ok {g : Nat → Option PT} : ∀ {rs : List Nat} {T : PT}, forkT g rs = some T → AWt P nt l Q T t m → ∀ i ∈ rs, ∃ a, g i = some a ∧ AWt P nt l Q (.step i a) t m
  | [], _, h, _, i, hi => by cases hi
  | [j], T, h, H, i, hi => by
    simp only [forkT, Option.map_eq_some_iff] at h
    obtain ⟨a, h1, rfl⟩ := h
    obtain rfl : i = j := by simpa using hi
    exact ⟨a, h1, H⟩
  | j :: k :: rs, T, h, H, i, hi => by
    simp only [forkT] at h
    split at h
    · rename_i a b h1 h2
      injection h with h; subst h
      rcases List.mem_cons.1 hi with rfl | hi
      · exact ⟨a, h1, H.1⟩
      · exact forkT_ok h2 H.2 i hi
    · cases h
theorem planT_ok : ∀ (f : Nat) (listed : Array Bool) (T : PT) (t : Fm) (m : AM), listed.size = l.toArray.size → planT P l.toArray f listed = some T → AWt P nt l Q T t m → AWd P nt l.toArray Q f listed t m
  | 0, listed, T, t, m, hsz, h, H => by
    unfold planT at h
    split at h
    · rename_i hr
      injection h with h; subst h
      exact ⟨hr, H⟩
    · cases h
  | f + 1, listed, T, t, m, hsz, h, H => by
    unfold planT at h
    split at h
    · rename_i hr
      injection h with h; subst h
      exact ⟨fun _ => H, fun i hi => by rw [hr] at hi; cases hi⟩
    · rename_i hne
      split at h
      · rename_i i hfind
        cases hp : planT P l.toArray f (listed.setIfInBounds i true) with
        | none => rw [hp] at h; cases h
        | some T' =>
          rw [hp] at h
          simp only [Option.map_some, Option.some.injEq] at h
          subst h
          obtain ⟨o, ho', hs⟩ := H
          have ho : l.toArray[i]? = some o := by simpa using ho'
          have hr := List.mem_of_find?_eq_some hfind
          have ht := List.find?_some hfind
          unfold takeB at ht
          rw [ho] at ht
          simp only [Bool.and_eq_true] at ht
          obtain ⟨t1, t2⟩ := ht
          obtain ⟨v, hy, hk⟩ := hs.still t1
          have hih := planT_ok f _ _ _ _ (by simpa using hsz) hp hk
          generalize closeC l.toArray i l.toArray.size listed = C at t2
          unfold takeC at t2
          rw [List.all_eq_true] at t2
          have each : ∀ (j : Nat) (oj : Oper), l.toArray[j]? = some oj → _ := fun j oj hj => by
            have := t2 j (List.mem_range.2 (Array.getElem?_eq_some_iff.1 hj).1)
            rw [hj] at this
            exact this
          simp only [Bool.and_eq_true, Bool.or_eq_true] at each
          refine AWd.take ho hs.1 C listed (fun j oj hj hc hne => ?_) (fun j oj hj hc hl hne => ?_) f listed t m (fun j hj => ?_) (fun _ h => h) hr hy hih
          · have h1 := (each j oj hj).2
            rcases h1 with h1 | h1
            · exact absurd (Nat.eq_of_beq_eq_true h1) hne
            · rw [hc] at h1
              simp only at h1
              obtain ⟨e, he, hb⟩ := Array.any_eq_true'.1 h1
              simp only [Bool.and_eq_true, Bool.not_eq_true'] at hb
              exact ⟨e, he, hb.1, hb.2⟩
          · have h1 := (each j oj hj).2
            rcases h1 with h1 | h1
            · exact absurd (Nat.eq_of_beq_eq_true h1) hne
            · rw [hc] at h1
              simp only [hl, Bool.false_or, Bool.and_eq_true, Bool.or_eq_true] at h1
              exact h1
          · have hlt : j < l.toArray.size := by
              rw [← hsz]
              rcases Nat.lt_or_ge j listed.size with h' | h'
              · exact h'
              · simp [Array.getElem?_eq_none h'] at hj
            have h1 := (each j l.toArray[j] (Array.getElem?_eq_getElem hlt)).1
            rw [hj] at h1
            simpa using h1
      · refine ⟨fun h0 => absurd h0 hne, fun j hj oj hoj => ?_⟩
        obtain ⟨a, ha, o, ho', hs⟩ := forkT_ok h H j hj
        have ho : l.toArray[j]? = some o := by simpa using ho'
        rw [ho] at hoj; injection hoj with hoj; subst hoj
        exact hs.mono fun v m' hk => planT_ok f _ _ _ _ (by simpa using hsz) ha hk
def treeB (P : Program) (ops : Array Oper) (T : PT) : Bool := match planT P ops ops.size (Array.replicate ops.size false) with
  | some T' => decide (T' = T)
  | none => false
/-- A region that draws, in all orders that count. -/
theorem AW.drawT (hP : Fit P) (T : PT) {id : Nat} {Q : AEx → Fm → AM → Prop} (hl : treeB P l.toArray T = true) (h : AWt P nt l (fun t m => Q .normal t m) T t m) : AW P nt m0 (.region id l.toArray true) t m Q := by
  unfold treeB at hl
  split at hl
  · rename_i T' hq
    have e := of_decide_eq_true hl
    subst e
    exact .all hP (planT_ok _ _ _ _ _ (by simp) hq h)
  · cases hl
theorem AWt.step {i : Nat} {rest : PT} {o : Oper} (ho : l[i]? = some o) (h : Step P nt l.toArray o t m (fun t m => AWt P nt l Q rest t m)) : AWt P nt l Q (.step i rest) t m := ⟨o, ho, h⟩
theorem AWt.both {a b : PT} (h1 : AWt P nt l Q a t m) (h2 : AWt P nt l Q b t m) : AWt P nt l Q (.both a b) t m := ⟨h1, h2⟩
theorem AWt.done (h : Q t m) : AWt P nt l Q .done t m := h
/-! ### going on under other names -/
theorem AW.atR {id : Nat} {ops : Array Oper} {b : Bool} {rest : Code} {Q : AEx → Fm → AM → Prop} (h : AW P nt m0 (.seq (.region id ops b) rest) t m Q) : AW P nt m0 (.seq (.region id ops b) rest) t m Q := h
theorem AW.joinG {c rest : Code} {Q : AEx → Fm → AM → Prop} (t1 : Fm) (m1 : AM) (h : AW P nt m0 c t m (Then (fun t' m' => Gc m0 t' m' t1 m1) Q)) (h2 : AW P nt m0 rest t1 m1 Q) : AW P nt m0 (.seq c rest) t m Q :=
  .seq (h.mono fun e t m => by cases e <;> first | exact fun hg => AW.gc hg h2 | exact id)
end
/-- Own blocks under other names: σ tells where the new block p lay. -/
def sg (N : Nat) (σ : List Nat) (i : Nat) : Nat := if i < N then i else N + σ.getD (i - N) 0
theorem sg_old {N : Nat} {σ : List Nat} {i : Nat} (h : i < N) : sg N σ i = i := if_pos h
theorem sg_new {N : Nat} {σ : List Nat} (k : Nat) : sg N σ (N + k) = N + σ.getD k 0 := by
  unfold sg; rw [if_neg (by omega), Nat.add_sub_cancel_left]
theorem Gc.perm {t : Fm} {M L L1 : AM} (σ : List Nat) {l : List (Nat × Value)} (hlen : σ.length = L1.length) (hinj : σ.Nodup) (hb : ∀ p, p < L1.length → L1[p]? = L[σ.getD p 0]?) (hc : ∀ b, some b ∈ L1 → ∀ v ∈ b.cells, Ren (sg M.length σ) (M.length + L1.length) v v)
    (h : All (fun i v => ∃ v', t i = some v' ∧ Ren (sg M.length σ) (M.length + L1.length) v v') l) : Gc M t (M ++ L) (fr l) (M ++ L1) := by
  refine ⟨sg M.length σ, by simp, fun j hj => sg_old hj, fun i j b c hi hj e => ?_, fun j b hj => ?_, fun i v hi => by
    obtain ⟨v', h1, h2⟩ := fr_all h i v hi
    exact ⟨v', h1, by simpa using h2⟩⟩
  · have hi' := (List.getElem?_eq_some_iff.1 hi).1
    have hj' := (List.getElem?_eq_some_iff.1 hj).1
    simp only [List.length_append] at hi' hj'
    unfold sg at e
    split at e <;> split at e
    · exact e
    · omega
    · omega
    · have e' : σ.getD (i - M.length) 0 = σ.getD (j - M.length) 0 := by omega
      have h1 : i - M.length < σ.length := by omega
      have h2 : j - M.length < σ.length := by omega
      simp only [List.getD_eq_getElem?_getD, List.getElem?_eq_getElem h1, List.getElem?_eq_getElem h2, Option.getD_some] at e'
      have := (List.getElem_inj hinj).1 e'
      omega
  · rcases Nat.lt_or_ge j M.length with hlt | hge
    · rw [List.getElem?_append_left hlt] at hj
      exact .inl ⟨hlt, get_old _ hj, hj⟩
    · have hjl := (List.getElem?_eq_some_iff.1 hj).1
      simp only [List.length_append] at hjl
      rw [List.getElem?_append_right hge] at hj
      have hmem := List.mem_of_getElem? hj
      refine .inr ⟨b, ?_, rfl, rfl, rfl, fun k v hk => ⟨v, hk, ?_⟩⟩
      · obtain ⟨p, rfl⟩ : ∃ p, j = M.length + p := ⟨j - M.length, by omega⟩
        rw [sg_new, get_app, ← hb p (by omega)]
        rwa [Nat.add_sub_cancel_left] at hj
      · have := hc b hmem v (List.mem_of_getElem? hk)
        simpa using this
theorem lenB {α : Type} {L : List α} {p n : Nat} (h : L.length = n) : ¬ p + n < L.length := by omega
theorem CellsOk.ren {L : AM} {ρ : Nat → Nat} {N : Nat} (h : CellsOk L) : ∀ b, some b ∈ L → ∀ v ∈ b.cells, Ren ρ N v v := fun b hb v hv => .of_g0 (h b hb v hv)
theorem Ren.ptr_sg {N n k o : Nat} {σ : List Nat} (h : N + k < n) : Ren (sg N σ) n (.pointer (some ⟨N + k, o, none⟩)) (.pointer (some ⟨N + σ.getD k 0, o, none⟩)) := by
  have := Ren.ptr (ρ := sg N σ) (n := n) (N + k) o h
  rwa [sg_new] at this
theorem Ren.slice_sg {N n k o l c : Nat} {σ : List Nat} (h : N + k < n) : Ren (sg N σ) n (.slice (some ⟨N + k, o, none⟩) l c) (.slice (some ⟨N + σ.getD k 0, o, none⟩) l c) := by
  have := Ren.slice (ρ := sg N σ) (n := n) (N + k) o l c h
  rwa [sg_new] at this
theorem Ren.slice_sgo {N n a o l c : Nat} {σ : List Nat} (h : a < N) (hn : N ≤ n) : Ren (sg N σ) n (.slice (some ⟨a, o, none⟩) l c) (.slice (some ⟨a, o, none⟩) l c) := by
  have := Ren.slice (ρ := sg N σ) (n := n) a o l c (by omega)
  rwa [sg_old h] at this
theorem Ren.of_sl_sg {N n : Nat} {v : Value} {a o k : Nat} {σ : List Nat} (h : Sl v a o k) (ha : a < N) (hn : N ≤ n) : Ren (sg N σ) n v v := by
  rcases h with ⟨rfl, _⟩ | ⟨c, _, rfl⟩
  · exact .sliceNil
  · exact .slice_sgo ha hn
end Go.Proofs.Ytmomjannlnafcaa.Abs
