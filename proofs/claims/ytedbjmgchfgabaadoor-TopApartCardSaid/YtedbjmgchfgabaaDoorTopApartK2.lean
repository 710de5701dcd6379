/- Proved here: what the proof of TopApart rests on, part 2 of 4. Conditions: those that each theorem names. -/
import Derived.Test.YtedbjmgchfgabaaDoorTopApartK1
namespace Go.Proofs.YtedbjmgchfgabaaDoor.Abs
set_option linter.unusedSimpArgs false
set_option linter.unusedVariables false
open Go.RowKit
open Go.Proofs.YtedbjmgchfgabaaDoor.Sim
def St (m : AM) (a : Nat) (kd : Kind) (s : Nat) (l : List Int) : AM := m.set a (some { cells := iv l, kind := kd, size := s })
section
variable {m : AM} {a s : Nat} {kd : Kind} {l k : List Int}
theorem St.len : (St m a kd s l).length = m.length := by simp [St]
theorem St.get (h : a < m.length) : (St m a kd s l)[a]? = some (some { cells := iv l, kind := kd, size := s }) := by simp [St, h]
theorem St.ne {b : Nat} (h : b ≠ a) : (St m a kd s l)[b]? = m[b]? := by simp [St, List.getElem?_set_ne (Ne.symm h)]
theorem St.set : (St m a kd s l).set a (some { cells := iv k, kind := kd, size := s }) = St m a kd s k := by simp [St]
theorem St.st : St (St m a kd s l) a kd s k = St m a kd s k := by simp [St]
theorem St.rd {o : Nat} (h : a < m.length) (ho : o < l.length) : Rd (St m a kd s l) a o (.int .i64 (l.getD o 0)) := ⟨_, St.get h, iv_get ho⟩
end
section
variable {P : Program} {nt : Nat} {ops : Array Oper} {t : Fm} {m : AM} {K : Fm → AM → Prop} {d T : Nat} {p : String} {af : Array Edge}
theorem still_under {X : TypeId} {T : TypeDesc} (hX : P.underlying X = some T) : Sim.still P (underlying X) = some T := by
 unfold underlying
 show Sim.still P (Sem.bind program _) = _
 rw [still_bind]
 simp [program, Sim.still, hX, pure]
theorem Step.conv {x : Operand} {S D : TypeId} {k ks k' : IntKind} {a b : Int} (hx : evo t x = some (.int k a)) (hS : P.underlying S = some (.int ks)) (hD : P.underlying D = some (.int k')) (hw : k'.wrap a = b) (hlt : Nat.blt d nt = true) (hK : K (put t d (.int k' b)) m) :
  Step P nt ops ⟨some d, .convert S D x, T, p, af, none⟩ t m K := by
 refine .ground rfl rfl hlt (by simp [Op.operands, hx, g1, g0]) (fun h => by simpa [aquiet] using h) ?_ (by simp [g1, g0]) hK
 subst hw
 simp only [execOp, evD_of hx, bind]
 rw [still_bind]
 unfold convert
 simp only [bind]
 rw [still_bind, still_under hS]
 simp only
 rw [still_bind, still_under hD]
 rfl
section
variable {X Y : TypeId} {x y : Operand} {a b : Int} {c : Nat}
theorem Step.addE (hx : evo t x = some (.int .i64 a)) (hy : evo t y = some (.int .i64 b)) (he : a + b = ((c : Nat) : Int)) (hr : c ≤ 9223372036854775807) (hlt : Nat.blt d nt = true) (hK : K (put t d (.int .i64 ((c : Nat) : Int))) m) : Step P nt ops ⟨some d, .binOp .add X x y Y, T, p, af, none⟩ t m K := by
 rw [← he] at hK; exact .add hx hy (by omega) hlt hK
theorem Step.mulE (hx : evo t x = some (.int .i64 a)) (hy : evo t y = some (.int .i64 b)) (he : a * b = ((c : Nat) : Int)) (hr : c ≤ 9223372036854775807) (hlt : Nat.blt d nt = true) (hK : K (put t d (.int .i64 ((c : Nat) : Int))) m) : Step P nt ops ⟨some d, .binOp .mul X x y Y, T, p, af, none⟩ t m K := by
 rw [← he] at hK; exact .mul hx hy (by omega) hlt hK
end
theorem Sl.cells {v : Value} {a o n : Nat} (h : Sl v a o n) : v.cells = #[v] ∧ v.oneCell' = true := by
 rcases h with ⟨rfl, _⟩ | ⟨c, _, rfl⟩ | ⟨_, o', k, rfl⟩ <;> exact ⟨rfl, rfl⟩
theorem Step.callM {args : Array Operand} {tys : Array TypeId} {g : FuncId} {vs : List Value} {fn : Func} {b : Code} {m m' : AM} {r : Value} (hP : Fit P) (ha : evL t args.toList = some vs) (hf : P.funcs[g]? = some fn) (hb : fn.body = some b)
  (hlt : Nat.blt d nt = true) (h : ACall P g vs.toArray m (Ret r m')) (hK : K (put t d r) m') : Step P nt ops ⟨some d, .call ⟨.value (.func g), args, tys⟩, T, p, af, none⟩ t m K :=
 .callF hP ha hf hb hlt h (by rintro v m1 ⟨rfl, rfl⟩; exact hK)
end
inductive PT where
 | done
 | step (i : Nat) (rest : PT)
 | both (a b : PT)
deriving DecidableEq
def forkT (g : Nat → Option PT) : List Nat → Option PT
 | [] => none
 | [i] => (g i).map (.step i)
 | i :: rs => match g i, forkT g rs with
  | some a, some b => some (.both (.step i a) b)
  | _, _ => none
def planT (P : Program) (ops : Array Oper) : Nat → Array Bool → Option PT
 | 0, listed => match Region.ready .any ops listed with
  | [] => some .done
  | _ => none
 | f + 1, listed => match Region.ready .any ops listed with
  | [] => some .done
  | rs => match rs.find? (takeB P ops listed) with
   | some i => (planT P ops f (listed.setIfInBounds i true)).map (.step i)
   | none => forkT (fun i => planT P ops f (listed.setIfInBounds i true)) rs
def AWt (P : Program) (nt : Nat) (l : List Oper) (Q : Fm → AM → Prop) : PT → Fm → AM → Prop
 | .done, t, m => Q t m
 | .step i rest, t, m => ∃ o, l[i]? = some o ∧ Step P nt l.toArray o t m (fun t m => AWt P nt l Q rest t m)
 | .both a b, t, m => AWt P nt l Q a t m ∧ AWt P nt l Q b t m
section
variable {P : Program} {nt : Nat} {t : Fm} {m m0 : AM} {Q : Fm → AM → Prop} {l : List Oper}
theorem forkT_ok {g : Nat → Option PT} : ∀ {rs : List Nat} {T : PT}, forkT g rs = some T → AWt P nt l Q T t m → ∀ i ∈ rs, ∃ a, g i = some a ∧ AWt P nt l Q (.step i a) t m
 | [], _, h, _, i, hi => by cases hi
 | [j], T, h, H, i, hi => by
  simp only [forkT, Option.map_eq_some_iff] at h
  obtain ⟨a, h1, rfl⟩ := h
  obtain rfl : i = j := by simpa using hi
  exact ⟨a, h1, H⟩
 | j :: k :: rs, T, h, H, i, hi => by
  simp only [forkT] at h
  split at h
  ·rename_i a b h1 h2
   injection h with h; subst h
   rcases List.mem_cons.1 hi with rfl | hi
   ·exact ⟨a, h1, H.1⟩
   ·exact forkT_ok h2 H.2 i hi
  ·cases h
theorem planT_ok : ∀ (f : Nat) (listed : Array Bool) (T : PT) (t : Fm) (m : AM), listed.size = l.toArray.size → planT P l.toArray f listed = some T → AWt P nt l Q T t m → AWd P nt l.toArray Q f listed t m
 | 0, listed, T, t, m, hsz, h, H => by
  unfold planT at h
  split at h
  ·rename_i hr
   injection h with h; subst h
   exact ⟨hr, H⟩
  ·cases h
 | f + 1, listed, T, t, m, hsz, h, H => by
  unfold planT at h
  split at h
  ·rename_i hr
   injection h with h; subst h
   exact ⟨fun _ => H, fun i hi => by rw [hr] at hi; cases hi⟩
  ·rename_i hne
   split at h
   ·rename_i i hfind
    cases hp : planT P l.toArray f (listed.setIfInBounds i true) with
    | none => rw [hp] at h; cases h
    | some T' =>
     rw [hp] at h
     simp only [Option.map_some, Option.some.injEq] at h
     subst h
     obtain ⟨o, ho', hs⟩ := H
     have ho : l.toArray[i]? = some o := by simpa using ho'
     have hr := List.mem_of_find?_eq_some hfind
     have ht := List.find?_some hfind
     unfold takeB at ht
     rw [ho] at ht
     simp only [Bool.and_eq_true] at ht
     obtain ⟨t1, t2⟩ := ht
     obtain ⟨v, hy, hk⟩ := hs.still t1
     have hih := planT_ok f _ _ _ _ (by simpa using hsz) hp hk
     generalize closeC l.toArray i l.toArray.size listed = C at t2
     unfold takeC at t2
     rw [List.all_eq_true] at t2
     have each : ∀ (j : Nat) (oj : Oper), l.toArray[j]? = some oj → _ := fun j oj hj => by
      have := t2 j (List.mem_range.2 (Array.getElem?_eq_some_iff.1 hj).1)
      rw [hj] at this
      exact this
     simp only [Bool.and_eq_true, Bool.or_eq_true] at each
     refine AWd.take ho hs.1 C listed (fun j oj hj hc hne => ?_) (fun j oj hj hc hl hne => ?_) f listed t m (fun j hj => ?_) (fun _ h => h) hr hy hih
     ·have h1 := (each j oj hj).2
      rcases h1 with h1 | h1
      ·exact absurd (Nat.eq_of_beq_eq_true h1) hne
      ·rw [hc] at h1
       simp only at h1
       obtain ⟨e, he, hb⟩ := Array.any_eq_true'.1 h1
       simp only [Bool.and_eq_true, Bool.not_eq_true'] at hb
       exact ⟨e, he, hb.1, hb.2⟩
     ·have h1 := (each j oj hj).2
      rcases h1 with h1 | h1
      ·exact absurd (Nat.eq_of_beq_eq_true h1) hne
      ·rw [hc] at h1
       simp only [hl, Bool.false_or, Bool.and_eq_true, Bool.or_eq_true] at h1
       exact h1
     ·have hlt : j < l.toArray.size := by
       rw [← hsz]
       rcases Nat.lt_or_ge j listed.size with h' | h'
       ·exact h'
       ·simp [Array.getElem?_eq_none h'] at hj
      have h1 := (each j l.toArray[j] (Array.getElem?_eq_getElem hlt)).1
      rw [hj] at h1
      simpa using h1
   ·refine ⟨fun h0 => absurd h0 hne, fun j hj oj hoj => ?_⟩
    obtain ⟨a, ha, o, ho', hs⟩ := forkT_ok h H j hj
    have ho : l.toArray[j]? = some o := by simpa using ho'
    rw [ho] at hoj; injection hoj with hoj; subst hoj
    exact hs.mono fun v m' hk => planT_ok f _ _ _ _ (by simpa using hsz) ha hk
def treeB (P : Program) (ops : Array Oper) (T : PT) : Bool := match planT P ops ops.size (Array.replicate ops.size false) with
 | some T' => decide (T' = T)
 | none => false
theorem AW.drawT (hP : Fit P) (T : PT) {id : Nat} {Q : AEx → Fm → AM → Prop} (hl : treeB P l.toArray T = true) (h : AWt P nt l (fun t m => Q .normal t m) T t m) : AW P nt m0 (.region id l.toArray true) t m Q := by
 unfold treeB at hl
 split at hl
 ·rename_i T' hq
  have e := of_decide_eq_true hl
  subst e
  exact .all hP (planT_ok _ _ _ _ _ (by simp) hq h)
 ·cases hl
theorem AWt.step {i : Nat} {rest : PT} {o : Oper} (ho : l[i]? = some o) (h : Step P nt l.toArray o t m (fun t m => AWt P nt l Q rest t m)) : AWt P nt l Q (.step i rest) t m := ⟨o, ho, h⟩
theorem AWt.both {a b : PT} (h1 : AWt P nt l Q a t m) (h2 : AWt P nt l Q b t m) : AWt P nt l Q (.both a b) t m := ⟨h1, h2⟩
theorem AWt.done (h : Q t m) : AWt P nt l Q .done t m := h
theorem AW.atR {id : Nat} {ops : Array Oper} {b : Bool} {rest : Code} {Q : AEx → Fm → AM → Prop} (h : AW P nt m0 (.seq (.region id ops b) rest) t m Q) : AW P nt m0 (.seq (.region id ops b) rest) t m Q := h
theorem AW.joinG {c rest : Code} {Q : AEx → Fm → AM → Prop} (t1 : Fm) (m1 : AM) (h : AW P nt m0 c t m (Then (fun t' m' => Gc m0 t' m' t1 m1) Q)) (h2 : AW P nt m0 rest t1 m1 Q) : AW P nt m0 (.seq c rest) t m Q :=
 .seq (h.mono fun e t m => by cases e <;> first | exact fun hg => AW.gc hg h2 | exact id)
end
def sg (N : Nat) (σ : List Nat) (i : Nat) : Nat := if i < N then i else N + σ.getD (i - N) 0
theorem sg_old {N : Nat} {σ : List Nat} {i : Nat} (h : i < N) : sg N σ i = i := if_pos h
theorem sg_new {N : Nat} {σ : List Nat} (k : Nat) : sg N σ (N + k) = N + σ.getD k 0 := by
 unfold sg; rw [if_neg (by omega), Nat.add_sub_cancel_left]
theorem Gc.perm {t : Fm} {M L L1 : AM} (σ : List Nat) {l : List (Nat × Value)} (hlen : σ.length = L1.length) (hinj : σ.Nodup) (hb : ∀ p, p < L1.length → L1[p]? = L[σ.getD p 0]?) (hc : ∀ b, some b ∈ L1 → isMapK b.kind = false ∧ ∀ v ∈ b.cells, Ren (sg M.length σ) (M.length + L1.length) v v)
  (h : All (fun i v => ∃ v', t i = some v' ∧ Ren (sg M.length σ) (M.length + L1.length) v v') l) : Gc M t (M ++ L) (fr l) (M ++ L1) := by
 refine ⟨sg M.length σ, by simp, fun j hj => sg_old hj, fun i j b c hi hj e => ?_, fun j b hj => ?_, fun i v hi => by
  obtain ⟨v', h1, h2⟩ := fr_all h i v hi
  exact ⟨v', h1, by simpa using h2⟩⟩
 ·have hi' := (List.getElem?_eq_some_iff.1 hi).1
  have hj' := (List.getElem?_eq_some_iff.1 hj).1
  simp only [List.length_append] at hi' hj'
  unfold sg at e
  split at e <;> split at e
  ·exact e
  ·omega
  ·omega
  ·have e' : σ.getD (i - M.length) 0 = σ.getD (j - M.length) 0 := by omega
   have h1 : i - M.length < σ.length := by omega
   have h2 : j - M.length < σ.length := by omega
   simp only [List.getD_eq_getElem?_getD, List.getElem?_eq_getElem h1, List.getElem?_eq_getElem h2, Option.getD_some] at e'
   have := (List.getElem_inj hinj).1 e'
   omega
 ·rcases Nat.lt_or_ge j M.length with hlt | hge
  ·rw [List.getElem?_append_left hlt] at hj
   exact .inl ⟨hlt, get_old _ hj, hj⟩
  ·have hjl := (List.getElem?_eq_some_iff.1 hj).1
   simp only [List.length_append] at hjl
   rw [List.getElem?_append_right hge] at hj
   have hmem := List.mem_of_getElem? hj
   refine .inr ⟨(hc b hmem).1, b, ?_, rfl, rfl, rfl, fun k v hk => ⟨v, hk, ?_⟩⟩
   ·obtain ⟨p, rfl⟩ : ∃ p, j = M.length + p := ⟨j - M.length, by omega⟩
    rw [sg_new, get_app, ← hb p (by omega)]
    rwa [Nat.add_sub_cancel_left] at hj
   ·have := (hc b hmem).2 v (List.mem_of_getElem? hk)
    simpa using this
theorem lenB {α : Type} {L : List α} {p n : Nat} (h : L.length = n) : ¬ p + n < L.length := by omega
theorem CellsOk.ren {L : AM} {ρ : Nat → Nat} {N : Nat} (h : CellsOk L) : ∀ b, some b ∈ L → isMapK b.kind = false ∧ ∀ v ∈ b.cells, Ren ρ N v v := fun b hb => ⟨(h b hb).1, fun v hv => .of_g0 ((h b hb).2 v hv)⟩
theorem Ren.ptr_sg {N n k o : Nat} {σ : List Nat} (h : N + k < n) : Ren (sg N σ) n (.pointer (some ⟨N + k, o, none⟩)) (.pointer (some ⟨N + σ.getD k 0, o, none⟩)) := by
 have := Ren.ptr (ρ := sg N σ) (n := n) (N + k) o h
 rwa [sg_new] at this
def CellsP (p : Value → Prop) (L : AM) : Prop := ∀ b, some b ∈ L → isMapK b.kind = false ∧ ∀ v ∈ b.cells, p v
theorem CellsP.nil {p : Value → Prop} : CellsP p [] := fun b h => by simp at h
theorem CellsP.none {p : Value → Prop} {L : AM} (h : CellsP p L) : CellsP p (none :: L) := fun b hb => h b (by simpa using hb)
theorem CellsP.cons {p : Value → Prop} {b : Blk} {L : AM} (hb : ∀ v ∈ b.cells, p v) (h : CellsP p L) (hk : isMapK b.kind = false := by rfl) : CellsP p (some b :: L) := fun c hc => by
 rcases List.mem_cons.1 hc with e | e
 ·injection e with e; subst e; exact ⟨hk, hb⟩
 ·exact h c e
theorem CellsP.gb {p : Value → Prop} {c : List Value} {s : Nat} {L : AM} (hb : ∀ v ∈ c, p v) (h : CellsP p L) : CellsP p (gb c s :: L) := by
 cases c with
 | nil => exact .none h
 | cons x l => exact .cons hb h
section
variable {P : Program} {nt : Nat} {m m0 : AM} {t : Fm} {Q : AEx → Fm → AM → Prop}
end
section
variable {P : Program} {nt : Nat} {ops : Array Oper} {t : Fm} {m : AM} {K : Fm → AM → Prop} {d T : Nat} {p : String} {af : Array Edge}
def More (S : AM → Value → Prop) (m : AM) : Value → AM → Prop := fun v m' => ∃ N, m' = m ++ N ∧ S m' v
theorem Step.callX {args : Array Operand} {tys : Array TypeId} {g : FuncId} {vs : List Value} {fn : Func} {b : Code} {S : AM → Value → Prop} (hP : Fit P) (ha : evL t args.toList = some vs) (hf : P.funcs[g]? = some fn) (hb : fn.body = some b)
  (hlt : Nat.blt d nt = true) (h : ACall P g vs.toArray m (More S m)) (hK : ∀ (v : Value) (M : AM), (∃ N, M = m ++ N) → S M v → K (put t d v) (M ++ [])) : Step P nt ops ⟨some d, .call ⟨.value (.func g), args, tys⟩, T, p, af, none⟩ t m K :=
 .callF hP ha hf hb hlt h (by
  rintro v m' ⟨N, rfl, hS⟩
  have := hK v (m ++ N) ⟨N, rfl⟩ hS
  rwa [List.append_nil] at this)
end
theorem Back.padC {M L : AM} {t : Fm} {m : AM} {l : List (Nat × Value)} (hm : m = M ++ L) (h : All (fun i v => t i = some v ∧ Ren rid (M.length + (L ++ [none]).length) v v) l) (hc : CellsP (fun v => Ren rid (M.length + (L ++ [none]).length) v v) L) : Back M t m l (L ++ [none]) := by
 subst hm
 refine .inr ⟨rid, by simp, fun _ _ => rfl, fun _ _ _ _ _ _ e => e, fun j b hj => ?_, fun i v hi => by
  obtain ⟨h1, h2⟩ := fr_all h i v hi
  exact ⟨v, h1, by simpa using h2⟩⟩
 have hj2 : (M ++ L)[j]? = some (some b) := by
  rw [← List.append_assoc] at hj
  rcases Nat.lt_or_ge j (M ++ L).length with hlt | hge
  ·rwa [List.getElem?_append_left hlt] at hj
  ·rw [List.getElem?_append_right hge] at hj
   cases q : j - (M ++ L).length with
   | zero => rw [q] at hj; simp at hj
   | succ q' => rw [q] at hj; simp at hj
 rcases Nat.lt_or_ge j M.length with hlt | hge
 ·refine .inl ⟨hlt, hj2, ?_⟩
  rwa [List.getElem?_append_left hlt] at hj2
 ·have hj3 := hj2
  rw [List.getElem?_append_right hge] at hj3
  refine .inr ⟨(hc b (List.mem_of_getElem? hj3)).1, b, hj2, rfl, rfl, rfl, fun k v hk => ⟨v, hk, ?_⟩⟩
  have := (hc b (List.mem_of_getElem? hj3)).2 v (List.mem_of_getElem? hk)
  simpa using this
theorem AW.joinS {P : Program} {nt : Nat} {m m0 : AM} {t : Fm} {c rest : Code} {Q : AEx → Fm → AM → Prop} (l : List (Nat × Value)) (m1 : AM) (h : AW P nt m0 c t m (Then (fun t' m' => m' = m1 ∧ All (fun i v => t' i = some v) l) Q)) (h2 : AW P nt m0 rest (fr l) m1 Q) : AW P nt m0 (.seq c rest) t m Q :=
 .seq (h.mono fun e t m => by
  cases e
  ·rintro ⟨rfl, ha⟩; exact AW.weak (fr_all ha) h2
  ·exact id
  ·exact id)
theorem AW.atL {P : Program} {nt : Nat} {m m0 : AM} {t : Fm} {id : Nat} {ops : Array Oper} {b : Bool} {Q : AEx → Fm → AM → Prop} (h : AW P nt m0 (.region id ops b) t m Q) : AW P nt m0 (.region id ops b) t m Q := h
theorem AW.pad {P : Program} {nt : Nat} {M L : AM} {t : Fm} {c : Code} {Q : AEx → Fm → AM → Prop} (l : List (Nat × Value)) (h : All (fun i v => t i = some v ∧ Ren rid (M.length + (L ++ [none]).length) v v) l) (hc : CellsP (fun v => Ren rid (M.length + (L ++ [none]).length) v v) L)
  (hk : AW P nt M c (fr l) (M ++ (L ++ [none])) Q) : AW P nt M c t (M ++ L) Q := by
 intro base R0 w0 R a w hb h0 hp ht
 obtain ⟨R1, k1, k2⟩ := (Back.padC rfl h hc).ok h0 hp ht
 exact hk base R0 w0 R1 a w hb h0 k1 k2
section
variable {P : Program} {nt : Nat} {ops : Array Oper} {t : Fm} {m : AM} {K : Fm → AM → Prop} {d T : Nat} {p : String} {af : Array Edge}
end
section
variable {P : Program} {nt : Nat} {ops : Array Oper} {t : Fm} {m : AM} {K : Fm → AM → Prop} {d T : Nat} {p : String} {af : Array Edge}
theorem Step.appO {x y : Operand} {X Y e e' : TypeId} {by_ : Nat} {z : Array Value} {k q r n : Nat} {c : List Value} {new : Value} {M L L' : AM} (hk : L.length = k) (hx : evo t x = some (.slice (some ⟨M.length + q, 0, none⟩) n n)) (hy : evo t y = some (.slice (some ⟨M.length + r, 0, none⟩) 1 1)) (hE : elemB P X = some (e, 1, by_, z)) (hY : P.underlying Y = some (.slice e'))
  (hq : L[q]? = some (some { cells := c })) (hc : c.length = n) (hr : L[r]? = some (some { cells := [new] })) (hn1 : new.oneCell' = true) (hb : (n + 1) * by_ ≤ 1099511627776 ∧ n + 1 ≤ 1099511627776) (hlt : Nat.blt d nt = true)
  (hL : L ++ [some { cells := c ++ [new], kind := .grow, size := 1 }] = L') (hK : K (put t d (.slice (some ⟨M.length + k, 0, none⟩) (n + 1) (n + 1))) (M ++ L')) :
  Step P nt ops ⟨some d, .call ⟨.builtin .append, #[x, y], #[X, Y]⟩, T, p, af, none⟩ t (M ++ L) K := by
 subst hL
 refine .l rfl rfl hlt rfl (by simp [Op.operands, Call.operands, hx, hy]) (loudN hk rfl (v := .slice (some ⟨M.length + k, 0, none⟩) (n + 1) (n + 1)) ?_ hK)
 have hrl : r < L.length := (List.getElem?_eq_some_iff.1 hr).1
 have hql : q < L.length := (List.getElem?_eq_some_iff.1 hq).1
 have hcell : acells ((M ++ L) ++ [none]) 1 1 (.slice (some ⟨M.length + r, 0, none⟩) 1 1) = some [new] := by
  have hg : ((M ++ L) ++ [none])[M.length + r]? = some (some { cells := [new] }) := by rw [List.append_assoc, get_app, List.getElem?_append_left hrl, hr]
  simp only [acells, hg]
  simp
 have hg : ((M ++ L) ++ [none])[M.length + q]? = some (some { cells := c }) := by rw [List.append_assoc, get_app, List.getElem?_append_left hql, hq]
 simp only [aloud, evD_of hx, evD_of hy, aappend, hE, hY, aSliceLen, hcell]
 rw [if_neg (by simp [hn1]), if_neg (by omega)]
 simp only [hg]
 rw [if_neg (by omega), if_pos ⟨hb.1, hb.2, Nat.le_refl _⟩, if_pos (by simp [hc])]
 rw [set_new_at M L hk]
 simp [List.take_of_length_le (show c.length ≤ n by omega)]
end
theorem AW.rebase {P : Program} {nt : Nat} {m0 m : AM} {c : Code} {t : Fm} {Q : AEx → Fm → AM → Prop} (h : AW P nt m c t (m ++ []) Q) : AW P nt m0 c t m Q := by
 rw [List.append_nil] at h
 intro base R0 w0 R a w hb h0 hp ht
 refine wp_mono (h base R w R a w (Nat.le_trans hb hp.size) hp.rep (.refl hp.rep) ht) ?_
 rintro ex a' w' ⟨e, t', m', R', h1, h2, h3, h4, h5⟩
 exact ⟨e, t', m', R', h1, h2, hp.trans h3, h4, h5⟩
section
variable {P : Program} {nt : Nat} {ops : Array Oper} {t : Fm} {m : AM} {K : Fm → AM → Prop} {d T : Nat} {p : String} {af : Array Edge}
def tailV (a o n c : Nat) : Value := if n = 0 then .slice (some ⟨a, o, none⟩) 0 0 else .slice (some ⟨a, o + 1, none⟩) n c
def OwnAt (M : AM) (a : Nat) (L : AM) : Prop := ∃ b, (M ++ L)[a]? = some (some b) ∧ b.kind = .own
theorem OwnAt.new {M L : AM} {k : Nat} {b : Blk} (h : L[k]? = some (some b)) (hk : b.kind = .own) : OwnAt M (M.length + k) L := ⟨b, by rw [get_app]; exact h, hk⟩
theorem Step.tail {x y : Operand} {X e a o n : Nat} {kk : IntKind} {M L L' : AM} (hx : evo t x = some (.slice (some ⟨a, o, none⟩) (n + 1) (n + 1))) (hy : evo t y = some (.int kk 1)) (ho : OwnAt M a L) (hX : P.underlying X = some (.slice e)) (hsz : szB P e = some 1)
  (hlt : Nat.blt d nt = true) (hL : L ++ [none] = L') (hK : K (put t d (tailV a o n n)) (M ++ L')) : Step P nt ops ⟨some d, .slice X x (some y) none none, T, p, af, none⟩ t (M ++ L) K := by
 subst hL
 obtain ⟨b, hb, hk⟩ := ho
 refine .l rfl rfl hlt (by simp [stillB, hX]) (by simp [Op.operands, hx, hy]) (loudN (L := L) rfl rfl (v := tailV a o n n) ?_ hK)
 have b2 : bnd 0 (some (evD t y)) = some 1 := by rw [evD_of hy]; simp [bnd]
 have hb' : ((M ++ L) ++ [none])[a]? = some (some b) := get_old _ hb
 simp only [aloud, evD_of hx, aslice, hX, hsz, Option.map_some, Option.map_none, b2, hb']
 simp only [bnd]
 rw [if_pos (by omega), List.append_assoc]
 by_cases h : n = 0
 ·subst h
  rw [if_neg (by omega)]
  simp [hk, tailV]
 ·rw [if_pos (by omega)]
  simp [tailV, h]
end
def Low (N : Nat) (v : Value) : Prop := ∀ (ρ : Nat → Nat) (n : Nat), (∀ i, i < N → ρ i = i) → N ≤ n → Ren ρ n v v
theorem Low.ptr {N a o : Nat} (h : a < N) : Low N (.pointer (some ⟨a, o, none⟩)) := fun ρ n hρ hn => by
 have := Ren.ptr (ρ := ρ) (n := n) a o (by omega)
 rwa [hρ a h] at this
theorem Low.slice {N a o l c : Nat} (h : a < N) : Low N (.slice (some ⟨a, o, none⟩) l c) := fun ρ n hρ hn => by
 have := Ren.slice (ρ := ρ) (n := n) a o l c (by omega)
 rwa [hρ a h] at this
theorem Low.spot {N a o k : Nat} (h : a < N) : Low N (.slice (some ⟨a, o, some k⟩) 0 0) := fun ρ n hρ hn => by
 have := Ren.sliceSpot (ρ := ρ) (n := n) a o k (by omega)
 rwa [hρ a h] at this
theorem Low.of_sl {N a o k : Nat} {v : Value} (h : Sl v a o k) (ha : a < N) : Low N v := by
 rcases h with ⟨rfl, _⟩ | ⟨c, _, rfl⟩ | ⟨_, o', k', rfl⟩
 ·exact fun _ _ _ _ => .sliceNil
 ·exact .slice ha
 ·exact .spot ha
theorem Low.func {N : Nat} {fn : Fn} {c : List Value} (h : ∀ v ∈ c, Low N v) : Low N (.func fn #[] c.toArray) := fun ρ n hρ hn => by
 refine .func fn #[] c.toArray #[] c.toArray rfl (fun i hi => by simp at hi) rfl fun i hi => ?_
 have hi' : i < c.length := by simpa using hi
 have := h c[i] (List.getElem_mem hi') ρ n hρ hn
 simpa [hi'] using this
theorem Low.rid {N n : Nat} {v : Value} (h : Low N v) (hn : N ≤ n) : Ren rid n v v := h _ _ (fun _ _ => rfl) hn
theorem Low.sg {N n : Nat} {σ : List Nat} {v : Value} (h : Low N v) (hn : N ≤ n) : Ren (sg N σ) n v v := h _ _ (fun _ hi => sg_old hi) hn
theorem Low.ne {N n p q : Nat} {v : Value} (h : Low N v) (hn : N ≤ n) : Ren (fun i => if i = N + p then N + q else i) n v v := h _ _ (fun _ hi => if_neg (by omega)) hn
def upL (L : Nat → Bool) (i : Nat) : Nat → Bool := fun j => cond (Nat.beq j i) true (L j)
theorem upL_same (L : Nat → Bool) (i : Nat) : upL L i i = true := by simp [upL]
theorem upL_ne (L : Nat → Bool) {i j : Nat} (h : j ≠ i) : upL L i j = L j := by
 have : Nat.beq j i = false := by
  cases e : Nat.beq j i with
  | false => rfl
  | true => exact absurd (Nat.eq_of_beq_eq_true e) h
 simp [upL, this]
def cntL (L : Nat → Bool) : Nat → Nat
 | 0 => 0
 | n + 1 => cntL L n + cond (L n) 0 1
theorem cntL_eq (L L' : Nat → Bool) : ∀ n, (∀ j, j < n → L j = L' j) → cntL L n = cntL L' n
 | 0, _ => rfl
 | n + 1, h => by simp only [cntL]; rw [h n (by omega), cntL_eq L L' n fun j hj => h j (by omega)]
theorem cntL_up (L : Nat → Bool) (i : Nat) (hi : L i = false) : ∀ n, i < n → cntL (upL L i) n + 1 = cntL L n
 | 0, h => by omega
 | n + 1, h => by
  simp only [cntL]
  by_cases e : i = n
  ·subst e
   rw [upL_same, hi, cntL_eq (upL L i) L i fun j hj => upL_ne L (by omega)]; simp
  ·rw [upL_ne L (show n ≠ i by omega), ← cntL_up L i hi n (by omega)]; omega
theorem cntL_zero (L : Nat → Bool) : ∀ n, cntL L n = 0 → ∀ j, j < n → L j = true
 | 0, _, j, hj => by omega
 | n + 1, h, j, hj => by
  simp only [cntL] at h
  by_cases e : j = n
  ·subst e
   cases hl : L j with
   | true => rfl
   | false => rw [hl] at h; simp at h
  ·exact cntL_zero L n (by omega) j (by omega)
theorem cntL_le (L : Nat → Bool) : ∀ n, cntL L n ≤ n
 | 0 => Nat.le_refl _
 | n + 1 => by
  have := cntL_le L n
  simp only [cntL]
  cases L n <;> simp <;> omega
def depsO (o : Oper) : List Nat := (o.after.toList.filter fun e => Region.binds .any e).map (·.on)
def backB (l : List Oper) : Bool := (List.range l.length).all fun i => match l[i]? with
 | some o => (depsO o).all fun j => Nat.blt j i
 | none => true
section
variable {P : Program} {nt : Nat} {t : Fm} {m m0 : AM} {l : List Oper}
theorem AWd.inv {Q : Fm → AM → Prop} (Inv : (Nat → Bool) → Fm → AM → Prop) (hb : backB l = true)
  (hs : ∀ (i : Nat) (o : Oper), l[i]? = some o → ∀ (L : Nat → Bool) (t : Fm) (m : AM), Inv L t m → L i = false → (∀ j ∈ depsO o, L j = true) → Step P nt l.toArray o t m (fun t m => Inv (upL L i) t m))
  (he : ∀ (L : Nat → Bool) (t : Fm) (m : AM), (∀ i, i < l.length → L i = true) → Inv L t m → Q t m) :
  ∀ (f : Nat) (listed : Array Bool) (L : Nat → Bool) (t : Fm) (m : AM), listed.size = l.length → (∀ i, i < l.length → listed.getD i false = L i) → cntL L l.length ≤ f → Inv L t m → AWd P nt l.toArray Q f listed t m := by
 have hend : ∀ (listed : Array Bool) (L : Nat → Bool), listed.size = l.length → (∀ i, i < l.length → listed.getD i false = L i) → Region.ready .any l.toArray listed = [] → ∀ i, i < l.length → L i = true := by
  intro listed L hsz hL hr i
  induction i using Nat.strongRecOn with
  | _ i ih =>
   intro hi
   cases hl : L i with
   | true => rfl
   | false =>
    have hlt : i < listed.size := by omega
    have hli : listed.getD i false = false := by rw [hL i hi]; exact hl
    have hmem : i ∈ Region.ready .any l.toArray listed := mem_ready.2 ⟨by
     simp only [Array.getD_eq_getD_getElem?, Array.getElem?_eq_getElem hlt, Option.getD_some] at hli ⊢
     exact hli, l[i], by simp [hi], fun e he hb' => by
      have h1 := List.all_eq_true.1 hb i (List.mem_range.2 hi)
      rw [List.getElem?_eq_getElem hi] at h1
      have h2 := List.all_eq_true.1 h1 e.on (List.mem_map.2 ⟨e, List.mem_filter.2 ⟨by simpa using he, hb'⟩, rfl⟩)
      have h3 : e.on < i := by simpa using h2
      rw [hL e.on (by omega)]
      exact ih e.on h3 (by omega)⟩
    rw [hr] at hmem; cases hmem
 intro f
 induction f with
 | zero =>
  intro listed L t m hsz hL hc hI
  have hall := cntL_zero L l.length (by omega)
  refine ⟨?_, he L t m hall hI⟩
  cases hr : Region.ready .any l.toArray listed with
  | nil => rfl
  | cons i r =>
   obtain ⟨h1, o, h2, _⟩ := mem_ready.1 (show i ∈ Region.ready .any l.toArray listed by rw [hr]; simp)
   have hi : i < l.length := by have := (Array.getElem?_eq_some_iff.1 h2).1; simpa using this
   have h3 := hL i hi
   rw [hall i hi] at h3
   have hlt : i < listed.size := by omega
   simp only [Array.getD_eq_getD_getElem?, Array.getElem?_eq_getElem hlt, Option.getD_some] at h3 h1
   rw [h3] at h1; cases h1
 | succ f ih =>
  intro listed L t m hsz hL hc hI
  refine ⟨fun hr => he L t m (hend listed L hsz hL hr) hI, fun i hi o ho => ?_⟩
  obtain ⟨h1, o', h2, h3⟩ := mem_ready.1 hi
  rw [ho] at h2; injection h2 with h2; subst h2
  have ho' : l[i]? = some o := by simpa using ho
  have hil : i < l.length := (List.getElem?_eq_some_iff.1 ho').1
  have hlt : i < listed.size := by omega
  have hLi : L i = false := by
   rw [← hL i hil]
   simp only [Array.getD_eq_getD_getElem?, Array.getElem?_eq_getElem hlt, Option.getD_some] at h1 ⊢
   exact h1
  refine (hs i o ho' L t m hI hLi fun j hj => ?_).mono fun v m' hk => ?_
  ·obtain ⟨e, e1, e2⟩ := List.mem_map.1 hj
   obtain ⟨e3, e4⟩ := List.mem_filter.1 e1
   have := h3 e (by simpa using e3) e4
   subst e2
   have hd := List.all_eq_true.1 hb i (List.mem_range.2 hil)
   rw [List.getElem?_eq_getElem hil] at hd
   have hoi : l[i] = o := by rw [List.getElem?_eq_getElem hil] at ho'; injection ho'
   rw [hoi] at hd
   have h5 := List.all_eq_true.1 hd e.on hj
   have h6 : e.on < i := by simpa using h5
   rw [← hL e.on (by omega)]; exact this
  ·refine ih _ (upL L i) _ m' (by simpa using hsz) (fun j hj => ?_) (by have := cntL_up L i hLi l.length hil; omega) hk
   by_cases e : j = i
   ·subst e
    rw [upL_same]; simp [hlt]
   ·rw [upL_ne L e, ← hL j hj]
    simp only [Array.getD_eq_getD_getElem?]
    rw [Array.getElem?_setIfInBounds_ne (Ne.symm e)]
theorem AW.anyI (hP : Fit P) {id : Nat} {Q : AEx → Fm → AM → Prop} (Inv : (Nat → Bool) → Fm → AM → Prop) (hb : backB l = true) (h0 : Inv (fun _ => false) t m)
  (hs : ∀ (i : Nat) (o : Oper), l[i]? = some o → ∀ (L : Nat → Bool) (t : Fm) (m : AM), Inv L t m → L i = false → (∀ j ∈ depsO o, L j = true) → Step P nt l.toArray o t m (fun t m => Inv (upL L i) t m))
  (he : ∀ (L : Nat → Bool) (t : Fm) (m : AM), (∀ i, i < l.length → L i = true) → Inv L t m → Q .normal t m) : AW P nt m0 (.region id l.toArray true) t m Q :=
 .all hP (AWd.inv Inv hb hs he _ _ (fun _ => false) t m (by simp) (fun i hi => by simp [hi]) (by simpa using cntL_le (fun _ => false) l.length) h0)
end
section
variable {P : Program} {nt : Nat} {ops : Array Oper} {t : Fm} {m : AM} {K : Fm → AM → Prop} {d T : Nat} {p : String} {af : Array Edge}
theorem Step.storeC {x y : Operand} {ty : TypeId} {a o : Nat} {v : Value} {b : Blk} (hx : evo t x = some (.pointer (some ⟨a, o, none⟩))) (hy : evo t y = some v) (hb : m[a]? = some (some b)) (hs : b.kind.solid = true) (hz : szB P ty = some 1) (hc : v.cells = #[v]) (h1 : v.oneCell' = true) (ho : o < b.cells.length)
  (hK : K t (m.set a (some { b with cells := b.cells.set o v }))) : Step P nt ops ⟨none, .store ty x y, T, p, af, none⟩ t m K := by
 have := Step.store (P := P) (nt := nt) (ops := ops) (T := T) (p := p) (af := af) (M := []) (L := m) (k := a) (ty := ty) (K := K) (by simpa using hx) hy hb hs hz hc h1 ho rfl (by simpa using hK)
 simpa using this
theorem Step.appB {x y : Operand} {X Y e e' : TypeId} {by_ s r n : Nat} {z : Array Value} {c : List Value} {new : Value} (hx : evo t x = some (.slice (some ⟨s, 0, none⟩) n n)) (hy : evo t y = some (.slice (some ⟨r, 0, none⟩) 1 1)) (hE : elemB P X = some (e, 1, by_, z)) (hY : P.underlying Y = some (.slice e'))
  (hq : m[s]? = some (some { cells := c, kind := .grow, size := 1 })) (hc : c.length = n) (hr : m[r]? = some (some { cells := [new] })) (hn1 : new.oneCell' = true) (hb : (n + 1) * by_ ≤ 1099511627776 ∧ n + 1 ≤ 1099511627776) (hlt : Nat.blt d nt = true)
  (hK : K (put t d (.slice (some ⟨m.length, 0, none⟩) (n + 1) (n + 1))) ((m.set s none) ++ [some { cells := c ++ [new], kind := .grow, size := 1 }])) :
  Step P nt ops ⟨some d, .call ⟨.builtin .append, #[x, y], #[X, Y]⟩, T, p, af, none⟩ t m K := by
 refine .l rfl rfl hlt rfl (by simp [Op.operands, Call.operands, hx, hy]) (loud_of_aloud (v := .slice (some ⟨m.length, 0, none⟩) (n + 1) (n + 1)) (m' := (m.set s none) ++ [some { cells := c ++ [new], kind := .grow, size := 1 }]) rfl ?_ hK)
 have hsl : s < m.length := (List.getElem?_eq_some_iff.1 hq).1
 have hcell : acells (m ++ [none]) 1 1 (.slice (some ⟨r, 0, none⟩) 1 1) = some [new] := by
  have hg : (m ++ [none])[r]? = some (some { cells := [new] }) := get_old _ hr
  simp only [acells, hg]
  simp
 have hg : (m ++ [none])[s]? = some (some { cells := c, kind := .grow, size := 1 }) := get_old _ hq
 simp only [aloud, evD_of hx, evD_of hy, aappend, hE, hY, aSliceLen, hcell]
 rw [if_neg (by simp [hn1]), if_neg (by omega)]
 simp only [hg]
 rw [if_neg (by omega), if_pos ⟨hb.1, hb.2, Nat.le_refl _⟩, if_pos ⟨by simp [hc], trivial⟩]
 simp only [List.drop_zero, Option.some.injEq, Prod.mk.injEq, true_and]
 rw [List.set_append_left _ _ hsl, List.set_append_right _ _ (by simp)]
 simp [List.take_of_length_le (show c.length ≤ n by omega)]
theorem still_nilP {X e : TypeId} (hX : P.underlying X = some (.pointer e)) (n : Nat) : Sim.still P (Op.equalIn (n + 1) X (.pointer none) (.pointer none)) = some true := by
 rw [Op.equalIn]
 show Sim.still P (Sem.bind (underlying X) _) = _
 rw [still_bind]
 have : Sim.still P (underlying X) = some (.pointer e) := by
  unfold underlying
  show Sim.still P (Sem.bind program _) = _
  rw [still_bind]
  simp [program, Sim.still, hX, pure]
 rw [this]
 rfl
theorem Step.ptrNil {x y : Operand} {X Y e : TypeId} (hx : evo t x = some (.pointer none)) (hy : evo t y = some (.pointer none)) (hX : P.underlying X = some (.pointer e)) (hlt : Nat.blt d nt = true) (hK : K (put t d (.bool true)) m) : Step P nt ops ⟨some d, .binOp .eql X x y Y, T, p, af, none⟩ t m K := by
 refine .ground rfl rfl hlt (by simp [Op.operands, hx, hy, g1, g0]) (fun h => by simp only [aquiet, evD_of hx, evD_of hy, aint, anil, hX]; simpa [evD_of hx, evD_of hy] using h) ?_ (by simp [g1, g0]) hK
 have he := still_nilP hX 9999
 simp only [execOp, eqGuard, binOp, evD_of hx, evD_of hy, bind, Sem.bind, pure]
 show Sim.still P (((Op.equalIn (9999 + 1) X (.pointer none) (.pointer none)).bind _).bind _) = _
 rw [still_bind, still_bind, he]
 rfl
theorem Step.ptrNot {x y : Operand} {X Y : TypeId} {a o : Nat} {e : TypeId} (hx : evo t x = some (.pointer (some ⟨a, o, none⟩))) (hy : evo t y = some (.pointer none)) (hX : P.underlying X = some (.pointer e)) (hlt : Nat.blt d nt = true) (hK : K (put t d (.bool false)) m) : Step P nt ops ⟨some d, .binOp .eql X x y Y, T, p, af, none⟩ t m K :=
 .q rfl rfl hlt (by simp [Op.operands, hx, hy]) (by simp [aquiet, evD_of hx, evD_of hy, aint, anil, hX, bEq]) hK
end
theorem ACall.drop {P : Program} {f : FuncId} {args : Array Value} {m : AM} {r : Value} (hr : Ren rid m.length r r) (h : ACall P f args m (fun v m' => v = r ∧ ∃ N, m' = m ++ N)) : ACall P f args m (Ret r m) := by
 intro base R w args' hb hm ha
 refine (h base R w args' hb hm ha).mono ?_
 rintro e w' ⟨v, v', R', m', he, hrel, hpost, rfl, N, rfl⟩
 obtain ⟨R1, h1, h2⟩ := (Gc.drop (M := m) (L := N) (t := fr [(0, v)]) (l := [(0, v)]) ⟨⟨rfl, hr⟩, trivial⟩).ok hm hpost (nt := 1) (u := #[v']) ⟨rfl, fun i x hi => by
  by_cases e : i = 0
  ·subst e
   have : some v = some x := hi
   injection this with this; subst this
   exact hrel
  ·have : fr [(0, v)] i = none := by show put (fr []) 0 v i = none; rw [put_ne _ _ e]; rfl
   rw [this] at hi; cases hi⟩
 exact ⟨v, v', R1, m, he, h2.rel 0 v rfl, h1, rfl, rfl⟩
theorem Ren.aggI {ρ : Nat → Nat} {n : Nat} (l : List Int) : Ren ρ n (.agg (iv l).toArray) (.agg (iv l).toArray) :=
 .agg _ _ rfl fun i hi => by
  have hi' : i < l.length := by simpa [iv] using hi
  have : (iv l).toArray.getD i undef = .int .i64 l[i] := by simp [iv, hi']
  rw [this]; exact .int _ _
theorem ares_cell {P : Program} {fn : Func} {t : Fm} {m : AM} {a i n : Nat} {ty : TypeId} {c : List Value} (hr : fn.results = #[.cell a ty]) (ht : t a = some (.pointer (some ⟨i, 0, none⟩))) (hg : aggB P ty = some true) (hn : szB P ty = some n) (h1 : RdL m i 0 c) (h3 : c.length = n) (hn1 : Nat.blt 0 n = true) :
  ares P fn t m = some (.agg c.toArray) := by
 obtain ⟨b, k1, k2⟩ := h1
 simp at hn1
 have hlast := k2 (n - 1) c[n - 1] (List.getElem?_eq_getElem (by omega))
 have hlen := (List.getElem?_eq_some_iff.1 hlast).1
 have hc : (b.cells.drop 0).take n = c := by
  apply List.ext_getElem?
  intro j
  by_cases hj : j < n
  ·rw [List.getElem?_take, if_pos hj, List.getElem?_drop, k2 j c[j] (List.getElem?_eq_getElem (by omega)), List.getElem?_eq_getElem (by omega)]
  ·rw [List.getElem?_take, if_neg hj, List.getElem?_eq_none (by omega)]
 have h0 : 0 + n ≤ b.cells.length := by omega
 have hl : aload P m ty (.pointer (some ⟨i, 0, none⟩)) = some (.agg c.toArray) := by simp only [aload, k1, hg, hn]; rw [if_pos h0, hc]
 have hL : aresL P t m fn.results.toList = some [.agg c.toArray] := by rw [hr]; simp only [aresL, ares1, ht, hl]
 unfold ares
 rw [hL]
section
variable {P : Program} {nt : Nat} {ops : Array Oper} {t : Fm} {m : AM} {K : Fm → AM → Prop} {d T : Nat} {p : String} {af : Array Edge}
def byteAt (s : ByteArray) (i : Nat) : Nat := (s[i]?.getD 0).toNat
theorem Step.strIx {x y : Operand} {X : TypeId} {s : ByteArray} {kk : IntKind} {i : Nat} (hx : evo t x = some (.string s)) (hy : evo t y = some (.int kk ((i : Nat) : Int))) (hX : P.underlying X = some .string) (hi : i < s.size)
  (hlt : Nat.blt d nt = true) (hK : K (put t d (.int .u8 (byteAt s i : Nat))) m) : Step P nt ops ⟨some d, .index X x y, T, p, af, none⟩ t m K := by
 refine .ground rfl rfl hlt (by simp [Op.operands, hx, hy, g1, g0]) (fun h => by simp only [aquiet, evD_of hx]; exact h) ?_ (by simp [g1, g0]) hK
 have hb : s[i]? = some s[i] := getElem?_pos s i hi
 simp only [execOp, evD_of hx, evD_of hy, bind]
 rw [still_bind]
 unfold Instr.index
 simp only [bind]
 rw [still_bind]
 simp only [asIntOf, pure]
 rw [show Sim.still P (Sem.pure (kk, ((i : Nat) : Int))) = some (kk, ((i : Nat) : Int)) from rfl]
 simp only [Option.bind_some]
 rw [still_bind, still_und hX]
 simp only [Option.bind_some, Int.natCast_nonneg, if_true, Int.toNat_natCast, hb]
 simp [byteAt, hb, Sim.still]
theorem Step.lenS {x : Operand} {X : TypeId} {s : ByteArray} (hx : evo t x = some (.string s)) (hX : P.underlying X = some .string)
  (hlt : Nat.blt d nt = true) (hK : K (put t d (.int .i64 (s.size : Nat))) m) : Step P nt ops ⟨some d, .call ⟨.builtin .len, #[x], #[X]⟩, T, p, af, none⟩ t m K := by
 refine .ground rfl rfl hlt (by simp [Op.operands, Call.operands, hx, g1, g0]) (fun h => by simp only [aquiet, evD_of hx, alen, hX]; simpa [evD_of hx] using h) ?_ (by simp [g1, g0]) hK
 have h1 : Sim.still P (Builtin.len_ #[X] T #[.string s]) = some (.int .i64 (s.size : Nat)) := by
  unfold Builtin.len_
  show Sim.still P (Sem.bind (underlying X) _) = _
  rw [still_bind, still_und hX]
  rfl
 simp [execOp, resolve, invoke, builtin, evD_of hx, bind, Sem.bind, pure]
 rw [still_bind, h1]
 rfl
theorem Step.neqS {x y : Operand} {X Y : TypeId} {a b : ByteArray} (hx : evo t x = some (.string a)) (hy : evo t y = some (.string b)) (hX : P.underlying X = some .string) (hlt : Nat.blt d nt = true) (hK : K (put t d (.bool (!(a.toList == b.toList)))) m) : Step P nt ops ⟨some d, .binOp .neq X x y Y, T, p, af, none⟩ t m K := by
 refine .ground rfl rfl hlt (by simp [Op.operands, hx, hy, g1, g0]) (fun h => by simp only [aquiet, evD_of hx, evD_of hy, aint, anil, hX]; simpa [evD_of hx, evD_of hy] using h) ?_ (by simp [g1, g0]) hK
 simp only [execOp, eqGuard, binOp, evD_of hx, evD_of hy, bind, Sem.bind, pure]
 rfl
theorem u8_in {n : Int} (h : 0 ≤ n ∧ n ≤ 255) : IntKind.u8.wrap n = n := by
 simp only [IntKind.wrap, IntKind.signed, IntKind.bits]
 simp
 omega
theorem Step.subU {X Y : TypeId} {x y : Operand} {a b : Int} (hx : evo t x = some (.int .u8 a)) (hy : evo t y = some (.int .u8 b)) (hr : 0 ≤ a - b ∧ a - b ≤ 255) (hlt : Nat.blt d nt = true) (hK : K (put t d (.int .u8 (a - b))) m) : Step P nt ops ⟨some d, .binOp .sub X x y Y, T, p, af, none⟩ t m K :=
 .bin hx hy (by simp [aint, u8_in hr]) hlt hK
theorem Step.u8I {x : Operand} {S D : TypeId} {a : Int} (hx : evo t x = some (.int .u8 a)) (hS : P.underlying S = some (.int .u8)) (hD : P.underlying D = some (.int .i64)) (hr : 0 ≤ a ∧ a ≤ 255) (hlt : Nat.blt d nt = true) (hK : K (put t d (.int .i64 a)) m) :
  Step P nt ops ⟨some d, .convert S D x, T, p, af, none⟩ t m K := by
 refine .ground rfl rfl hlt (by simp [Op.operands, hx, g1, g0]) (fun h => by simpa [aquiet] using h) ?_ (by simp [g1, g0]) hK
 have hw : IntKind.i64.wrap a = a := IntWalk.i64_in _ (by omega)
 simp only [execOp, evD_of hx, bind]
 rw [still_bind]
 unfold convert
 simp only [bind]
 rw [still_bind, still_und hS]
 simp only
 rw [still_bind, still_und hD]
 simp [Conv.intToInt, hw, pure, Sim.still]
def mks (l : List (Int × Value)) : List (Value × Value) := l.map fun e => (.int .i64 e.1, e.2)
def mlook (l : List (Int × Value)) (k : Int) : Option Value := match l with
 | [] => none
 | e :: l => if k = e.1 then some e.2 else mlook l k
theorem keyIn_mks {k : Int} : ∀ (l : List (Int × Value)) (i : Nat),
  match mlook l k with
  | none => keyIn (.int .i64) (.int .i64 k) (mks l) i = some none
  | some v => ∃ j a, keyIn (.int .i64) (.int .i64 k) (mks l) i = some (some (i + j)) ∧ (mks l)[j]? = some (a, v)
 | [], i => rfl
 | e :: l, i => by
  by_cases h : k = e.1
  ·simp only [mlook, if_pos h]
   exact ⟨0, .int .i64 e.1, by simp [mks, keyIn, Instr.sameNow, h], rfl⟩
  ·simp only [mlook, if_neg h]
   have ih := keyIn_mks (k := k) l (i + 1)
   have hs : keyIn (.int .i64) (.int .i64 k) (mks (e :: l)) i = keyIn (.int .i64) (.int .i64 k) (mks l) (i + 1) := by
    have hq : (k == e.1) = false := by simpa using h
    simp [mks, keyIn, Instr.sameNow, hq]
   rw [hs]
   cases hl : mlook l k with
   | none => rw [hl] at ih; exact ih
   | some v =>
    rw [hl] at ih
    obtain ⟨j, a, h1, h2⟩ := ih
    exact ⟨j + 1, a, by rw [h1]; congr 2; omega, by simpa [mks] using h2⟩
theorem Step.mapGet {x y : Operand} {X kt et a : Nat} {k : Int} {b : Blk} {z : Value} {l : List (Int × Value)} (hx : evo t x = some (.map (some a))) (hy : evo t y = some (.int .i64 k)) (hb : m[a]? = some (some b)) (hk : isMapK b.kind = true) (he : b.ents = mks l)
  (hX : P.underlying X = some (.map kt et)) (hkt : P.underlying kt = some (.int .i64)) (hz : zeroG P et = some z) (hlt : Nat.blt d nt = true) (hK : K (put t d ((mlook l k).getD z)) m) : Step P nt ops ⟨some d, .lookup X x y false, T, p, af, none⟩ t m K := by
 refine .q (v := (mlook l k).getD z) rfl rfl hlt (by simp [Op.operands, hx, hy]) ?_ hK
 have hq := keyIn_mks (k := k) l 0
 simp only [aquiet, evD_of hx, evD_of hy, alookup, hX, hkt, aents, hb, hk, if_true, he]
 rw [if_pos (by simp [keyB])]
 cases hl : mlook l k with
 | none => rw [hl] at hq; simp only at hq; rw [hq]; simp [hz]
 | some v =>
  rw [hl] at hq
  obtain ⟨j, a, h1, h2⟩ := hq
  rw [h1]
  simp [h2]
theorem Step.mkMap {X : TypeId} (hlt : Nat.blt d nt = true) (hK : K (put t d (.map (some m.length))) (m ++ [some { cells := [], kind := .map }])) :
  Step P nt ops ⟨some d, .makeMap X none, T, p, af, none⟩ t m K := by
 have := loudN (P := P) (o := ⟨some d, .makeMap X none, T, p, af, none⟩) (ev := evD t) (K := fun v m' => K (put t d v) m') (v := .map (some (m.length + 0))) (M := m) (L := []) (L' := [some { cells := [], kind := .map }]) (k := 0) rfl rfl
  (by simp [aloud]) hK
 rw [List.append_nil] at this
 exact .l rfl rfl hlt rfl (by simp [Op.operands]) this
theorem Step.mapAdd {x y z : Operand} {X kt et a : Nat} {k : Int} {v : Value} {l : List (Int × Value)} (hx : evo t x = some (.map (some a))) (hy : evo t y = some (.int .i64 k)) (hz : evo t z = some v) (hb : m[a]? = some (some { cells := [], kind := .map, ents := mks l })) (hn : mlook l k = none)
  (hX : P.underlying X = some (.map kt et)) (hkt : P.underlying kt = some (.int .i64)) (hK : K t (m.set a (some { cells := [], kind := .map, ents := mks (l ++ [(k, v)]) }))) : Step P nt ops ⟨none, .mapUpdate X x y z, T, p, af, none⟩ t m K := by
 have hq := keyIn_mks (k := k) l 0
 rw [hn] at hq
 refine .l0 rfl rfl rfl (by simp [Op.operands, hx, hy, hz]) (loud_of_aloud0 (v := undef) (m' := m.set a (some { cells := [], kind := .map, ents := mks (l ++ [(k, v)]) })) rfl ?_ hK)
 simp only [aloud, evD_of hx, evD_of hy, evD_of hz, amapUpdate, hX, hkt, hb]
 rw [if_pos (by simp [keyB]), hq]
 simp [mks]
end
open Go.ChangeShapes Go.WideShapes Go.Deep
abbrev AR := Value × List Value
def Okarg (W : World) (a : AR) : Prop := g0 a.1 = true ∨ ∃ b o n cap, a.1 = .slice (some ⟨b, o, none⟩) n cap ∧ n ≤ cap ∧ b < W.heap.size ∧ (∀ j x, a.2[j]? = some x → W.cell? ⟨b, o + j, none⟩ = some x) ∧ ∀ x ∈ a.2, g0 x = true
def mkV (i : Nat) : Value → Value
 | .slice (some _) n _ => .slice (some ⟨i, 0, none⟩) n n
 | v => v
def mkP : AR → Option Sim.Place
 | (.slice (some a) n cap, _) => some ⟨a.block, a.off, cap - n⟩
 | _ => none
def mkB : AR → Option Blk
 | (.slice (some _) _ _, c) => some { cells := c, kind := .ro }
 | _ => none
def mkVs : Nat → List AR → List Value
 | _, [] => []
 | i, a :: l => mkV i a.1 :: mkVs (i + 1) l
theorem mkVs_get : ∀ (l : List AR) (i k : Nat), (mkVs i l)[k]? = (l[k]?).map fun a => mkV (i + k) a.1
 | [], i, k => by simp [mkVs]
 | a :: l, i, 0 => by simp [mkVs]
 | a :: l, i, k + 1 => by simp only [mkVs, List.getElem?_cons_succ, mkVs_get l (i + 1) k]; congr 1; funext x; congr 1; omega
theorem mkVs_len : ∀ (l : List AR) (i : Nat), (mkVs i l).length = l.length
 | [], _ => rfl
 | a :: l, i => by simp [mkVs, mkVs_len l (i + 1)]
section
variable {H : Type} {enc : TypeId × Value → H} {P : Program} {w : World} {base : Nat} {spare : Nat → Bool} {held : Bool}
theorem ok_slice {r : Reach} {b0 : Nat} {T e : TypeId} {a : Option Addr} {n c : Nat} (ht : P.underlying T = some (.slice e)) (h : Value.okWide P w r b0 T (.slice a n c)) : (a = none ∧ n = 0 ∧ c = 0) ∨ ∃ b o, a = some ⟨b, o, none⟩ ∧ n ≤ c ∧ b < w.heap.size := by
 simp only [Value.okWide, ht, Cell.okWide, Cell.ok] at h
 cases a with
 | none =>
  cases n <;> cases c <;> simp_all
 | some x =>
  obtain ⟨h1, _, h3⟩ := h
  obtain ⟨_, hs, row, cells, hsh, _⟩ := h3
  obtain ⟨b, o, s⟩ := x
  simp only at hs
  subst hs
  refine .inr ⟨b, o, rfl, h1, ?_⟩
  simp only [World.shape?] at hsh
  rcases Nat.lt_or_ge b w.heap.size with hlt | hge
  ·exact hlt
  ·rw [Array.getElem?_eq_none hge] at hsh; cases hsh
theorem open_slice_fields {t e : TypeId} {fs : Array Field} {fuel : Nat} {cs : List Value} {x : DataW H × List MemPlace} (ht : P.underlying t = some (.slice e)) (he : P.underlying e = some (.struct fs))
  (hone : oneCellFields P fs = true) (hC : P.cellsOf e = fs.size) (h : DataW.trod enc P w base spare held fuel t cs = some x) :
  (cs = [.slice none 0 0] ∧ x = (.nil, [])) ∨
  ∃ (a : Addr) (len cap m : Nat) (D : Nat → DataW H) (Pl : Nat → List MemPlace), cs = [.slice (some a) len cap] ∧ base ≤ a.block ∧ len ≤ cap ∧ cap ≤ maxLen ∧ m = (if spare a.block then cap else len) ∧
   x = (.slice ((List.range len).map D) ((List.range (m - len)).map fun j => D (len + j)), MemPlace.row a (m * fs.size) ++ (List.range m).flatMap Pl) ∧
   ∀ i, i < m → ∃ (ys : List (DataW H × List MemPlace)) (n : Nat), D i = .agg (ys.map (·.1)) ∧ Pl i = ys.flatMap (·.2) ∧ ys.length = fs.size ∧
    ∀ (j : Nat) (f : Field), fs[j]? = some f → ∃ (v : Value) (y : DataW H × List MemPlace), w.cell? (a.add (i * fs.size + j)) = some v ∧ ys[j]? = some y ∧ DataW.trod enc P w base spare held n f.type [v] = some y := by
 rcases open_slice ht h with h0 | ⟨a, len, cap, m, n, D, Pl, hcs, hb, hl, hm, hmm, hx, hi⟩
 ·exact .inl h0
 ·refine .inr ⟨a, len, cap, m, D, Pl, hcs, hb, hl, hm, hmm, by rw [hC] at hx; exact hx, fun i him => ?_⟩
  obtain ⟨cs', hc, ht'⟩ := hi i him
  rw [hC] at hc
  obtain ⟨ys, n', hn', hy, hlen, hyl, hf⟩ := DataW.trod_struct he ht'
  obtain ⟨_, hcl, hat⟩ := World.cells?_some hc
  simp only [Prod.mk.injEq] at hy
  refine ⟨ys, n', hy.1, hy.2, hyl, fun j f hj => ?_⟩
  obtain ⟨ho, hk⟩ := hone_of hone j f hj
  have hjl : j < fs.size := (Array.getElem?_eq_some_iff.1 hj).1
  have hcell := hat j hjl
  have hv : cs'[j]? = some (cs'[j]'(by omega)) := List.getElem?_eq_getElem (by omega)
  have h1 := hf j f hj
  rw [ho, hk] at h1
  have hone' : (cs'.drop j).take 1 = [cs'[j]'(by omega)] := by
   rw [List.drop_eq_getElem_cons (by omega)]
   rfl
  rw [hone'] at h1
  have hys : ys[j]? = some (ys[j]'(by omega)) := List.getElem?_eq_getElem (by omega)
  refine ⟨_, _, ?_, hys, h1.trans hys⟩
  rw [← Go.Deep.add_add, hcell, hv]
end
theorem rel_aggI (R : Pl) (l : List Int) : Rel R (.agg (iv l).toArray) (.agg (iv l).toArray) := .agg _ _ rfl fun i hi => by
 have hi' : i < l.length := by simpa [iv] using hi
 have : (iv l).toArray.getD i undef = .int .i64 l[i] := by simp [iv, hi']
 rw [this]; exact .int _ _
section
variable {H : Type} {enc : TypeId × Value → H} {P : Program} {w : World} {base : Nat} {spare : Nat → Bool} {held : Bool}
end
end Go.Proofs.YtedbjmgchfgabaaDoor.Abs
namespace Go.Proofs.YtedbjmgchfgabaaDoor.Abs
set_option linter.unusedSimpArgs false
set_option linter.unusedVariables false
open Go.RowKit
open Go.Proofs.YtedbjmgchfgabaaDoor.Sim
open Go.Proofs
theorem fit : Fit Tryd.prog := ⟨fun f fn h => by
 have key : (Tryd.prog.funcs.toList.all fun fn => !(fn.name == "runtime.NumGoroutine")) = true := by kernel_rfl
 have := List.all_eq_true.1 key fn (by simpa using Array.mem_of_getElem? h)
 simpa using this, by kernel_rfl⟩
theorem un9 : Tryd.prog.underlying 9 = some .string := by kernel_rfl
theorem ze23 : zeroB Tryd.prog 47 = some #[.int .i64 0, .int .i64 0, .int .i64 0, .int .i64 0] := by kernel_rfl
theorem take_snoc {α : Type} (l : List α) (k : Nat) (d : α) (h : k < l.length) : l.take (k + 1) = l.take k ++ [l.getD k d] := by
 rw [List.take_succ_eq_append_getElem h]; simp [h]
structure Rc where
 x : Int
 y : Int
 w : Int
 h : Int
deriving DecidableEq
instance : Inhabited Rc := ⟨⟨0, 0, 0, 0⟩⟩
def Rc.v (r : Rc) : Value := .agg #[.int .i64 r.x, .int .i64 r.y, .int .i64 r.w, .int .i64 r.h]
def Rc.cells (r : Rc) : List Value := [.int .i64 r.x, .int .i64 r.y, .int .i64 r.w, .int .i64 r.h]
def rcN (x y a b : Nat) : Rc := ⟨x, y, a, b⟩
def sidesB (w h : Int) : Bool := decide (1 ≤ w ∧ 1 ≤ h ∧ w ≤ 16 ∧ h ≤ 16)
def t2 (w : Nat) : Nat := w * (w + 1)
theorem t2_le {w : Nat} (h : w ≤ 16) : t2 w ≤ 272 := by
 unfold t2
 have := Nat.mul_le_mul h (Nat.succ_le_succ h)
 simpa using this
def numY (w h : Nat) : Nat → Int
 | 0 => 0
 | k + 1 => numY w h k + (t2 w : Int) / 2 * ((h : Int) - (k : Nat))
def numX (w h y : Nat) : Nat → Int
 | 0 => numY w h y
 | k + 1 => numX w h y k + ((w : Int) - (k : Nat)) * ((h : Int) - (y : Nat))
def num (w h x y a b : Nat) : Int := numX w h y x + ((a : Int) - 1) * ((h : Int) - (y : Nat)) + b - 1
theorem mul_in {a b m n : Int} (h1 : 0 ≤ a) (h2 : a ≤ m) (h3 : 0 ≤ b) (h4 : b ≤ n) : 0 ≤ a * b ∧ a * b ≤ m * n :=
 ⟨Int.mul_nonneg h1 h3, Int.mul_le_mul h2 h4 h3 (by omega)⟩
theorem numY_in {w h : Nat} (hw : w ≤ 16) (hh : h ≤ 16) : ∀ k, k ≤ h → 0 ≤ numY w h k ∧ numY w h k ≤ 2176 * (k : Nat)
 | 0, _ => by simp [numY]
 | k + 1, hk => by
  have ih := numY_in hw hh k (by omega)
  have ht := t2_le hw
  have := mul_in (a := (t2 w : Int) / 2) (b := (h : Int) - (k : Nat)) (m := 136) (n := 16) (by omega) (by omega) (by omega) (by omega)
  simp only [numY]
  omega
theorem numX_in {w h y : Nat} (hw : w ≤ 16) (hh : h ≤ 16) (hy : y ≤ h) : ∀ k, k ≤ w → 0 ≤ numX w h y k ∧ numX w h y k ≤ 34816 + 256 * (k : Nat)
 | 0, _ => by
  have := numY_in hw hh y hy
  simp only [numX]
  omega
 | k + 1, hk => by
  have ih := numX_in hw hh hy k (by omega)
  have := mul_in (a := (w : Int) - (k : Nat)) (b := (h : Int) - (y : Nat)) (m := 16) (n := 16) (by omega) (by omega) (by omega) (by omega)
  simp only [numX]
  omega
set_option maxRecDepth 100000 in
theorem sides_ok {m : AM} (w h : Int) : ACall Tryd.prog 62 #[.int .i64 w, .int .i64 h] m (Ret (.bool (sidesB w h)) m) := by
 refine ACall.start Tryd.func62 rfl rfl ?_
 have hs : sidesB w h = decide (1 ≤ min w h ∧ max w h ≤ 16) := by
  unfold sidesB
  rw [decide_eq_decide]
  constructor <;> intro h <;> omega
 rw [hs]
 by_cases h1 : 1 ≤ min w h
 ·by_cases h2 : max w h ≤ 16
  ·(repeat (first|(with_reducible refine AWo.cons ?_)|((with_reducible refine Step.id ?_);first|((with_reducible apply Step.gdT);exact rfl;exact rfl;(((simp only [zq1, zq2, zq3, zq4, zq5, zq6];first|assumption|omega))))|((with_reducible apply Step.move);exact rfl;exact rfl)|((with_reducible apply Step.assign);exact rfl;exact rfl)|((with_reducible apply Step.leq);exact rfl;exact rfl;exact rfl)|((with_reducible apply Step.geq);exact rfl;exact rfl;exact rfl)|((with_reducible apply Step.max);exact rfl;exact rfl;exact rfl)|((with_reducible apply Step.min);exact rfl;exact rfl;exact rfl)|((with_reducible apply Step.pickT);exact rfl;exact rfl;exact rfl;exact rfl;(((simp only [zq1, zq2, zq3, zq4, zq5, zq6];first|assumption|omega)))))|(with_reducible first|apply AWo.nil|apply AW.seq|apply Then.n|apply AW.regL)))
   (refine AW.retD (l := [(4, _)]) (by repeat (first | exact trivial | (refine And.intro ⟨rfl, by (exact .bool _)⟩ ?_))) ?_; (repeat (first | refine Then.r ?_ | refine InBlk.r ?_)))
   exact ⟨_, rfl, by simp only [h1, h2]; rfl, rfl⟩
  ·(repeat (first|(with_reducible refine AWo.cons ?_)|((with_reducible refine Step.id ?_);first|((with_reducible apply Step.gdT);exact rfl;exact rfl;(((simp only [zq1, zq2, zq3, zq4, zq5, zq6];first|assumption|omega))))|((with_reducible apply Step.move);exact rfl;exact rfl)|((with_reducible apply Step.assign);exact rfl;exact rfl)|((with_reducible apply Step.leq);exact rfl;exact rfl;exact rfl)|((with_reducible apply Step.geq);exact rfl;exact rfl;exact rfl)|((with_reducible apply Step.max);exact rfl;exact rfl;exact rfl)|((with_reducible apply Step.min);exact rfl;exact rfl;exact rfl)|((with_reducible apply Step.pickT);exact rfl;exact rfl;exact rfl;exact rfl;(((simp only [zq1, zq2, zq3, zq4, zq5, zq6];first|assumption|omega)))))|(with_reducible first|apply AWo.nil|apply AW.seq|apply Then.n|apply AW.regL)))
   (refine AW.retD (l := [(4, _)]) (by repeat (first | exact trivial | (refine And.intro ⟨rfl, by (exact .bool _)⟩ ?_))) ?_; (repeat (first | refine Then.r ?_ | refine InBlk.r ?_)))
   exact ⟨_, rfl, by simp only [h1, h2]; rfl, rfl⟩
 ·(repeat (first|(with_reducible refine AWo.cons ?_)|((with_reducible refine Step.id ?_);first|((with_reducible apply Step.gdF);exact rfl;exact rfl;(((simp only [zq1, zq2, zq3, zq4, zq5, zq6];first|assumption|omega))))|((with_reducible apply Step.move);exact rfl;exact rfl)|((with_reducible apply Step.assign);exact rfl;exact rfl)|((with_reducible apply Step.geq);exact rfl;exact rfl;exact rfl)|((with_reducible apply Step.min);exact rfl;exact rfl;exact rfl)|((with_reducible apply Step.pickF);exact rfl;exact rfl;exact rfl;exact rfl;(((simp only [zq1, zq2, zq3, zq4, zq5, zq6];first|assumption|omega)))))|(with_reducible first|apply AWo.nil|apply AW.seq|apply Then.n|apply AW.regL)))
  (refine AW.retD (l := [(4, _)]) (by repeat (first | exact trivial | (refine And.intro ⟨rfl, by (exact .bool _)⟩ ?_))) ?_; (repeat (first | refine Then.r ?_ | refine InBlk.r ?_)))
  exact ⟨_, rfl, by simp only [h1]; simp, rfl⟩
set_option maxHeartbeats 1000000 in
set_option maxRecDepth 100000 in
theorem number_ok {m : AM} {w h x y a b : Nat} (hw : w ≤ 16) (hh : h ≤ 16) (ha : 1 ≤ a) (hx : x + a ≤ w) (hb : 1 ≤ b) (hy : y + b ≤ h) :
  ACall Tryd.prog 36 #[.int .i64 (w : Nat), .int .i64 (h : Nat), (rcN x y a b).v] m (Ret (.int .i64 (num w h x y a b)) m) := by
 have e1 : (w : Int) * ((w : Int) + 1) = ((t2 w : Nat) : Int) := by simp [t2]
 have ht := t2_le hw
 refine ACall.start Tryd.func36 rfl rfl ?_
 (repeat (first|(with_reducible refine AWo.cons ?_)|((with_reducible refine Step.id ?_);first|((with_reducible apply Step.move);exact rfl;exact rfl)|((with_reducible apply Step.assign);exact rfl;exact rfl)|((with_reducible apply Step.load);exact rfl;((decide +kernel));exact rfl;((exact Rd.new rfl rfl)))|((with_reducible apply Step.field (k := 1));exact rfl;((decide +kernel));exact rfl)|((with_reducible apply Step.box 0);exact rfl;exact rfl;((kernel_rfl));exact rfl;((first|(simp only [zq7, zq8, zq9, zq0, iv_set, bv_set, iv_rep, bv_rep] <;> rfl)|rfl))))|(with_reducible first|apply AWo.nil|apply AW.seq|apply Then.n|apply AW.regL|apply AW.block)))
 refine AW.loopT (fun n t L => ∃ k : Nat, n = y - k ∧ k ≤ y ∧ L = [some { cells := [.int .i64 (x : Nat), .int .i64 (y : Nat), .int .i64 (a : Nat), .int .i64 (b : Nat)] }] ∧
  t = [(0, .int .i64 (w : Nat)), (1, .int .i64 (h : Nat)), (5, .pointer (some ⟨m.length + 0, 0, none⟩)), (7, .int .i64 (numY w h k)), (11, .int .i64 (y : Nat)), (12, .int .i64 (k : Nat))])
  ⟨_, _, _, (Or.inl ⟨rfl, (by repeat (first | exact trivial | (refine And.intro rfl ?_)))⟩), 0, rfl, Nat.zero_le _, rfl, rfl⟩ ?_
 rintro n t L ⟨k, rfl, hk, rfl, rfl⟩
 rcases Nat.lt_or_ge k y with hlt | hge
 ·have b1 := numY_in hw hh k (by omega)
  have b2 := mul_in (a := (t2 w : Int) / 2) (b := (h : Int) - (k : Nat)) (m := 136) (n := 16) (by omega) (by omega) (by omega) (by omega)
  (repeat (first|(with_reducible refine AWo.cons ?_)|((with_reducible refine Step.id ?_);first|((with_reducible apply Step.move);exact rfl;exact rfl)|((with_reducible apply Step.assign);exact rfl;exact rfl)|((with_reducible apply Step.mulE);exact rfl;exact rfl;((assumption));((omega));exact rfl)|((with_reducible apply Step.add);exact rfl;exact rfl;((omega));exact rfl)|((with_reducible apply Step.sub);exact rfl;exact rfl;((omega));exact rfl)|((with_reducible apply Step.mul);exact rfl;exact rfl;((omega));exact rfl)|((with_reducible apply Step.lss);exact rfl;exact rfl;exact rfl)|((with_reducible apply Step.quo);exact rfl;exact rfl;((omega));((omega));exact rfl))|(with_reducible first|apply AWo.nil|apply AW.seq|apply Then.n|apply AW.regL|apply AW.block|apply InBlk.n|apply AW.skip)|((with_reducible apply AW.condT);exact rfl;(((simp only [zq1, zq2, zq3, zq4, zq5, zq6];first|assumption|omega))))))
  exact ⟨_, [(0, .int .i64 (w : Nat)), (1, .int .i64 (h : Nat)), (5, .pointer (some ⟨m.length + 0, 0, none⟩)), (7, .int .i64 (numY w h (k + 1))), (11, .int .i64 (y : Nat)), (12, .int .i64 (k + 1 : Nat))], _, by omega, (Or.inl ⟨rfl, (by repeat (first | exact trivial | (refine And.intro rfl ?_)))⟩), k + 1, rfl, by omega, rfl, rfl⟩
 ·obtain rfl : k = y := by omega
  (repeat (first|(with_reducible refine AWo.cons ?_)|((with_reducible refine Step.id ?_);first|((with_reducible apply Step.move);exact rfl;exact rfl)|((with_reducible apply Step.load);exact rfl;((decide +kernel));exact rfl;((exact Rd.new rfl rfl)))|((with_reducible apply Step.field0);exact rfl;((decide +kernel));exact rfl)|((with_reducible apply Step.lss);exact rfl;exact rfl;exact rfl))|(with_reducible first|apply AWo.nil|apply AW.seq|apply Then.n|apply AW.regL|apply AW.block|apply AW.exit|apply InBlk.hit|apply Then.e)|((with_reducible apply AW.condF);exact rfl;(((simp only [zq1, zq2, zq3, zq4, zq5, zq6];first|assumption|omega))))))
  refine AW.loopT (fun n t L => ∃ i : Nat, n = x - i ∧ i ≤ x ∧ L = [some { cells := [.int .i64 (x : Nat), .int .i64 (k : Nat), .int .i64 (a : Nat), .int .i64 (b : Nat)] }] ∧
   t = [(0, .int .i64 (w : Nat)), (1, .int .i64 (h : Nat)), (5, .pointer (some ⟨m.length + 0, 0, none⟩)), (7, .int .i64 (numX w h k i)), (28, .int .i64 (x : Nat)), (29, .int .i64 (i : Nat))])
   ⟨_, _, _, (Or.inl ⟨rfl, (by repeat (first | exact trivial | (refine And.intro rfl ?_)))⟩), 0, rfl, Nat.zero_le _, rfl, rfl⟩ ?_
  rintro n t L ⟨i, rfl, hi, rfl, rfl⟩
  rcases Nat.lt_or_ge i x with hlt | hge
  ·have b1 := numX_in hw hh (y := k) (by omega) i (by omega)
   have b2 := mul_in (a := (w : Int) - (i : Nat)) (b := (h : Int) - (k : Nat)) (m := 16) (n := 16) (by omega) (by omega) (by omega) (by omega)
   (repeat (first|(with_reducible refine AWo.cons ?_)|((with_reducible refine Step.id ?_);first|((with_reducible apply Step.move);exact rfl;exact rfl)|((with_reducible apply Step.assign);exact rfl;exact rfl)|((with_reducible apply Step.load);exact rfl;((decide +kernel));exact rfl;((exact Rd.new rfl rfl)))|((with_reducible apply Step.field (k := 1));exact rfl;((decide +kernel));exact rfl)|((with_reducible apply Step.add);exact rfl;exact rfl;((omega));exact rfl)|((with_reducible apply Step.sub);exact rfl;exact rfl;((omega));exact rfl)|((with_reducible apply Step.mul);exact rfl;exact rfl;((omega));exact rfl)|((with_reducible apply Step.lss);exact rfl;exact rfl;exact rfl))|(with_reducible first|apply AWo.nil|apply AW.seq|apply Then.n|apply AW.regL|apply AW.block|apply InBlk.n|apply AW.skip)|((with_reducible apply AW.condT);exact rfl;(((simp only [zq1, zq2, zq3, zq4, zq5, zq6];first|assumption|omega))))))
   exact ⟨_, [(0, .int .i64 (w : Nat)), (1, .int .i64 (h : Nat)), (5, .pointer (some ⟨m.length + 0, 0, none⟩)), (7, .int .i64 (numX w h k (i + 1))), (28, .int .i64 (x : Nat)), (29, .int .i64 (i + 1 : Nat))], _, by omega, (Or.inl ⟨rfl, (by repeat (first | exact trivial | (refine And.intro rfl ?_)))⟩), i + 1, rfl, by omega, rfl, rfl⟩
  ·obtain rfl : i = x := by omega
   have b1 := numX_in hw hh (y := k) (by omega) i (by omega)
   have b2 := mul_in (a := (a : Int) - 1) (b := (h : Int) - (k : Nat)) (m := 16) (n := 16) (by omega) (by omega) (by omega) (by omega)
   (repeat (first|(with_reducible refine AWo.cons ?_)|((with_reducible refine Step.id ?_);first|((with_reducible apply Step.move);exact rfl;exact rfl)|((with_reducible apply Step.assign);exact rfl;exact rfl)|((with_reducible apply Step.load);exact rfl;((decide +kernel));exact rfl;((exact Rd.new rfl rfl)))|((with_reducible apply Step.field (k := 1));exact rfl;((decide +kernel));exact rfl)|((with_reducible apply Step.field (k := 2));exact rfl;((decide +kernel));exact rfl)|((with_reducible apply Step.field (k := 3));exact rfl;((decide +kernel));exact rfl)|((with_reducible apply Step.add);exact rfl;exact rfl;((omega));exact rfl)|((with_reducible apply Step.sub);exact rfl;exact rfl;((omega));exact rfl)|((with_reducible apply Step.mul);exact rfl;exact rfl;((omega));exact rfl)|((with_reducible apply Step.lss);exact rfl;exact rfl;exact rfl))|(with_reducible first|apply AWo.nil|apply AW.seq|apply Then.n|apply AW.regL|apply AW.exit|apply InBlk.hit|apply Then.e)|((with_reducible apply AW.condF);exact rfl;(((simp only [zq1, zq2, zq3, zq4, zq5, zq6];first|assumption|omega))))))
   (refine AW.retD (l := [(6, _)]) (by repeat (first | exact trivial | (refine And.intro ⟨rfl, by (exact .int _ _)⟩ ?_))) ?_; (repeat (first | refine Then.r ?_ | refine InBlk.r ?_)))
   exact ⟨_, rfl, rfl, rfl⟩
end Go.Proofs.YtedbjmgchfgabaaDoor.Abs
namespace Go.Proofs.YtedbjmgchfgabaaDoor.Abs
set_option linter.unusedSimpArgs false
set_option linter.unusedVariables false
def tri (n : Nat) : Nat → Int
 | 0 => 0
 | k + 1 => tri n k + ((n : Int) - (k : Nat))
theorem tri_full {n : Nat} (h : n ≤ 16) : tri n n = (t2 n : Int) / 2 := by
 have : ∀ n : Fin 17, tri n n = (t2 n : Int) / 2 := by decide
 exact this ⟨n, by omega⟩
theorem numY_tri (w h : Nat) : ∀ k, numY w h k = (t2 w : Int) / 2 * tri h k
 | 0 => by simp [numY, tri]
 | k + 1 => by rw [numY, tri, numY_tri w h k, Int.mul_add]
theorem numX_tri (w h y : Nat) : ∀ k, numX w h y k = numY w h y + tri w k * ((h : Int) - (y : Nat))
 | 0 => by simp [numX, tri]
 | k + 1 => by rw [numX, tri, numX_tri w h y k, Int.add_mul]; omega
structure R4 where
 x : Nat
 y : Nat
 a : Nat
 b : Nat
deriving DecidableEq
instance : Inhabited R4 := ⟨⟨0, 0, 0, 0⟩⟩
def R4.ok (w h : Nat) (r : R4) : Prop := 1 ≤ r.a ∧ 1 ≤ r.b ∧ r.x + r.a ≤ w ∧ r.y + r.b ≤ h
def R4.num (w h : Nat) (r : R4) : Int := Abs.num w h r.x r.y r.a r.b
def allB (x y a n : Nat) : List R4 := (List.range n).map fun m => ⟨x, y, a, m + 1⟩
def allA (h x y n : Nat) : List R4 := (List.range n).flatMap fun k => allB x y (k + 1) (h - y)
def allX (w h y n : Nat) : List R4 := (List.range n).flatMap fun x => allA h x y (w - x)
def allR (w h n : Nat) : List R4 := (List.range n).flatMap fun y => allX w h y w
theorem allB_succ (x y a n : Nat) : allB x y a (n + 1) = allB x y a n ++ [⟨x, y, a, n + 1⟩] := by simp [allB, List.range_succ]
theorem allA_succ (h x y n : Nat) : allA h x y (n + 1) = allA h x y n ++ allB x y (n + 1) (h - y) := by simp [allA, List.range_succ]
theorem allX_succ (w h y n : Nat) : allX w h y (n + 1) = allX w h y n ++ allA h n y (w - n) := by simp [allX, List.range_succ]
theorem allR_succ (w h n : Nat) : allR w h (n + 1) = allR w h n ++ allX w h n w := by simp [allR, List.range_succ]
theorem allB_len (x y a : Nat) (n : Nat) : ((allB x y a n).length : Int) = n := by simp [allB]
theorem allA_len {h y : Nat} (hy : y ≤ h) (x : Nat) : ∀ n, ((allA h x y n).length : Int) = (n : Int) * ((h : Int) - (y : Nat))
 | 0 => by simp [allA]
 | n + 1 => by
  rw [allA_succ, List.length_append, Int.natCast_add, allA_len hy x n, allB_len, Int.natCast_add, Int.add_mul]
  omega
theorem allX_len {w h y : Nat} (hy : y ≤ h) : ∀ n, n ≤ w → ((allX w h y n).length : Int) = tri w n * ((h : Int) - (y : Nat))
 | 0, _ => by simp [allX, tri]
 | n + 1, hn => by
  rw [allX_succ, List.length_append, Int.natCast_add, allX_len hy n (by omega), allA_len hy, tri, Int.add_mul]
  rw [show ((w - n : Nat) : Int) = (w : Int) - (n : Nat) by omega]
theorem allR_len {w h : Nat} (hw : w ≤ 16) : ∀ n, n ≤ h → ((allR w h n).length : Int) = numY w h n
 | 0, _ => by simp [allR, numY]
 | n + 1, hn => by
  rw [allR_succ, List.length_append, Int.natCast_add, allR_len hw n (by omega), allX_len (by omega) w (Nat.le_refl _), tri_full hw, numY]
def Idx (w h : Nat) (s : Int) (l : List R4) : Prop := ∀ i r, l[i]? = some r → r.num w h = s + (i : Nat) ∧ r.ok w h
theorem Idx.nil {w h : Nat} {s : Int} : Idx w h s [] := fun i r hi => by simp at hi
theorem Idx.append {w h : Nat} {s : Int} {l l' : List R4} (h1 : Idx w h s l) (h2 : Idx w h (s + (l.length : Nat)) l') : Idx w h s (l ++ l') := by
 intro i r hi
 rcases Nat.lt_or_ge i l.length with hl | hl
 ·rw [List.getElem?_append_left hl] at hi; exact h1 i r hi
 ·rw [List.getElem?_append_right hl] at hi
  obtain ⟨e, g⟩ := h2 _ r hi
  exact ⟨by omega, g⟩
theorem allB_idx {w h x y a : Nat} (ha : 1 ≤ a) (hx : x + a ≤ w) : ∀ n, y + n ≤ h → Idx w h (numX w h y x + ((a : Int) - 1) * ((h : Int) - (y : Nat))) (allB x y a n)
 | 0, _ => Idx.nil
 | n + 1, hn => by
  rw [allB_succ]
  refine (allB_idx ha hx n (by omega)).append ?_
  intro i r hi
  cases i with
  | zero =>
   simp only [List.getElem?_cons_zero, Option.some.injEq] at hi
   subst hi
   refine ⟨?_, ha, Nat.le_add_left 1 n, hx, hn⟩
   rw [allB_len]
   simp only [R4.num, Abs.num]
   omega
  | succ i => simp at hi
theorem allA_idx {w h x y : Nat} (hy : y ≤ h) : ∀ n, x + n ≤ w → Idx w h (numX w h y x) (allA h x y n)
 | 0, _ => Idx.nil
 | n + 1, hn => by
  rw [allA_succ]
  refine (allA_idx hy n (by omega)).append ?_
  rw [allA_len hy]
  have := allB_idx (w := w) (h := h) (x := x) (y := y) (a := n + 1) (by omega) (by omega) (h - y) (by omega)
  rw [show ((n + 1 : Nat) : Int) - 1 = (n : Int) by omega] at this
  exact this
theorem allX_idx {w h y : Nat} (hy : y ≤ h) : ∀ n, n ≤ w → Idx w h (numY w h y) (allX w h y n)
 | 0, _ => Idx.nil
 | n + 1, hn => by
  rw [allX_succ]
  refine (allX_idx hy n (by omega)).append ?_
  rw [allX_len hy n (by omega), ← numX_tri]
  exact allA_idx hy (w - n) (by omega)
theorem allR_idx {w h : Nat} (hw : w ≤ 16) : ∀ n, n ≤ h → Idx w h 0 (allR w h n)
 | 0, _ => Idx.nil
 | n + 1, hn => by
  rw [allR_succ]
  refine (allR_idx hw n (by omega)).append ?_
  rw [allR_len hw n (by omega), Int.zero_add]
  exact allX_idx (by omega) w (Nat.le_refl _)
theorem mem_all {w h : Nat} {r : R4} : r ∈ allR w h h ↔ r.ok w h := by
 obtain ⟨x, y, a, b⟩ := r
 simp only [allR, allX, allA, allB, List.mem_flatMap, List.mem_range, List.mem_map, R4.mk.injEq, R4.ok]
 constructor
 ·rintro ⟨y', h1, x', h2, k, h3, m, h4, rfl, rfl, rfl, rfl⟩
  omega
 ·intro hh
  exact ⟨y, by omega, x, by omega, a - 1, by omega, b - 1, by omega, rfl, rfl, by omega, by omega⟩
theorem allR_total {w h : Nat} (hw : w ≤ 16) (hh : h ≤ 16) : ((allR w h h).length : Int) = (t2 w : Int) / 2 * ((t2 h : Int) / 2) := by
 rw [allR_len hw h (Nat.le_refl _), numY_tri, tri_full hh]
def total (w h : Nat) : Nat := t2 w / 2 * (t2 h / 2)
theorem total_len {w h : Nat} (hw : w ≤ 16) (hh : h ≤ 16) : (allR w h h).length = total w h := by
 have := allR_total hw hh
 unfold total
 rw [show ((t2 w : Nat) : Int) / 2 = ((t2 w / 2 : Nat) : Int) by omega, show ((t2 h : Nat) : Int) / 2 = ((t2 h / 2 : Nat) : Int) by omega, ← Int.natCast_mul] at this
 exact Int.ofNat.inj this
theorem total_le {w h : Nat} (hw : w ≤ 16) (hh : h ≤ 16) : total w h ≤ 18496 := by
 have h1 := t2_le hw
 have h2 := t2_le hh
 unfold total
 have := Nat.mul_le_mul (show t2 w / 2 ≤ 136 by omega) (show t2 h / 2 ≤ 136 by omega)
 omega
def R4.at (w h : Nat) (r : R4) : Nat := (r.num w h).toNat
section
variable {w h : Nat} {r r' : R4}
theorem num_get (hw : w ≤ 16) (hr : r.ok w h) : ∃ i, (allR w h h)[i]? = some r ∧ r.num w h = (i : Nat) := by
 obtain ⟨i, hi⟩ := List.mem_iff_getElem?.1 (mem_all.2 hr)
 have := allR_idx hw h (Nat.le_refl _) i r hi
 exact ⟨i, hi, by omega⟩
theorem num_at (hw : w ≤ 16) (hr : r.ok w h) : r.num w h = (r.at w h : Nat) := by
 obtain ⟨i, _, h2⟩ := num_get hw hr
 unfold R4.at
 omega
theorem at_lt (hw : w ≤ 16) (hh : h ≤ 16) (hr : r.ok w h) : r.at w h < total w h := by
 obtain ⟨i, h1, h2⟩ := num_get hw hr
 have := (List.getElem?_eq_some_iff.1 h1).1
 rw [total_len hw hh] at this
 unfold R4.at
 omega
theorem at_inj (hw : w ≤ 16) (hr : r.ok w h) (hr' : r'.ok w h) (e : r.at w h = r'.at w h) : r = r' := by
 obtain ⟨i, h1, h2⟩ := num_get hw hr
 obtain ⟨j, h3, h4⟩ := num_get hw hr'
 have : i = j := by unfold R4.at at e; omega
 subst this
 rw [h1] at h3
 exact Option.some.inj h3
end
def mxc (f : Nat → Int) : Nat → Int
 | 0 => 0
 | k + 1 => max (mxc f k) (f (k + 1))
theorem mxc_nonneg (f : Nat → Int) : ∀ k, 0 ≤ mxc f k
 | 0 => Int.le_refl _
 | k + 1 => by have := mxc_nonneg f k; simp only [mxc]; omega
theorem mxc_congr {f g : Nat → Int} : ∀ k, (∀ i, 1 ≤ i → i ≤ k → f i = g i) → mxc f k = mxc g k
 | 0, _ => rfl
 | k + 1, h => by rw [mxc, mxc, mxc_congr k fun i h1 h2 => h i h1 (by omega), h (k + 1) (by omega) (Nat.le_refl _)]
theorem mxc_le {f : Nat → Int} {c : Int} (hc : 0 ≤ c) : ∀ k, (∀ i, 1 ≤ i → i ≤ k → f i ≤ c) → mxc f k ≤ c
 | 0, _ => hc
 | k + 1, h => by
  have := mxc_le hc k fun i h1 h2 => h i h1 (by omega)
  have := h (k + 1) (by omega) (Nat.le_refl _)
  simp only [mxc]; omega
theorem le_mxc {f : Nat → Int} : ∀ k i, 1 ≤ i → i ≤ k → f i ≤ mxc f k
 | 0, _, h1, h2 => by omega
 | k + 1, i, h1, h2 => by
  by_cases e : i = k + 1
  ·subst e; simp only [mxc]; omega
  ·have := le_mxc (f := f) k i h1 (by omega)
   simp only [mxc]; omega
theorem mxc_mono {f g : Nat → Int} (k : Nat) (h : ∀ i, 1 ≤ i → i ≤ k → f i ≤ g i) : mxc f k ≤ mxc g k :=
 mxc_le (mxc_nonneg _ _) k fun i h1 h2 => Int.le_trans (h i h1 h2) (le_mxc k i h1 h2)
def R4.lo (r : R4) (d : Bool) (i : Nat) : R4 := if d then ⟨r.x, r.y, i, r.b⟩ else ⟨r.x, r.y, r.a, i⟩
def R4.hi (r : R4) (d : Bool) (i : Nat) : R4 := if d then ⟨r.x + i, r.y, r.a - i, r.b⟩ else ⟨r.x, r.y + i, r.a, r.b - i⟩
def R4.len (r : R4) (d : Bool) : Nat := if d then r.a else r.b
theorem lo_ok {w h : Nat} {r : R4} {d : Bool} {i : Nat} (hr : r.ok w h) (h1 : 1 ≤ i) (h2 : i + 1 ≤ r.len d) : (r.lo d i).ok w h := by
 unfold R4.ok R4.lo R4.len at *
 cases d <;> simp at * <;> omega
theorem hi_ok {w h : Nat} {r : R4} {d : Bool} {i : Nat} (hr : r.ok w h) (h1 : 1 ≤ i) (h2 : i + 1 ≤ r.len d) : (r.hi d i).ok w h := by
 unfold R4.ok R4.hi R4.len at *
 cases d <;> simp at * <;> omega
theorem len_pos {w h : Nat} {r : R4} (d : Bool) (hr : r.ok w h) : 1 ≤ r.len d := by
 unfold R4.ok R4.len at *
 cases d <;> simp <;> omega
theorem len_le {w h : Nat} {r : R4} (d : Bool) (hw : w ≤ 16) (hh : h ≤ 16) (hr : r.ok w h) : r.len d ≤ 16 := by
 unfold R4.ok R4.len at *
 cases d <;> simp <;> omega
def R4.size (r : R4) : Nat := r.a + r.b
theorem lo_size {w h : Nat} {r : R4} {d : Bool} {i : Nat} (hr : r.ok w h) (h1 : 1 ≤ i) (h2 : i + 1 ≤ r.len d) : (r.lo d i).size + 1 ≤ r.size := by
 unfold R4.ok R4.lo R4.len R4.size at *
 cases d <;> simp at * <;> omega
theorem hi_size {w h : Nat} {r : R4} {d : Bool} {i : Nat} (hr : r.ok w h) (h1 : 1 ≤ i) (h2 : i + 1 ≤ r.len d) : (r.hi d i).size + 1 ≤ r.size := by
 unfold R4.ok R4.hi R4.len R4.size at *
 cases d <;> simp at * <;> omega
def cutM (v : R4 → Int) (r : R4) (d : Bool) : Int := mxc (fun i => v (r.lo d i) + v (r.hi d i)) (r.len d - 1)
def VV (leaf : R4 → Int) : Nat → R4 → Int
 | 0, _ => 0
 | f + 1, r => max (max (leaf r) (cutM (VV leaf f) r true)) (cutM (VV leaf f) r false)
def V (leaf : R4 → Int) (r : R4) : Int := VV leaf r.size r
section
variable {leaf : R4 → Int} {w h : Nat}
theorem cutM_congr {v v' : R4 → Int} {r : R4} {d : Bool} (hr : r.ok w h) (e : ∀ r' : R4, r'.ok w h → r'.size + 1 ≤ r.size → v r' = v' r') : cutM v r d = cutM v' r d := by
 unfold cutM
 refine mxc_congr _ fun i h1 h2 => ?_
 have h3 : i + 1 ≤ r.len d := by omega
 rw [e _ (lo_ok hr h1 h3) (lo_size hr h1 h3), e _ (hi_ok hr h1 h3) (hi_size hr h1 h3)]
theorem cutM_mono {v v' : R4 → Int} {r : R4} {d : Bool} (hr : r.ok w h) (e : ∀ r' : R4, r'.ok w h → r'.size + 1 ≤ r.size → v r' ≤ v' r') : cutM v r d ≤ cutM v' r d := by
 unfold cutM
 refine mxc_mono _ fun i h1 h2 => ?_
 have h3 : i + 1 ≤ r.len d := by omega
 have := e _ (lo_ok hr h1 h3) (lo_size hr h1 h3)
 have := e _ (hi_ok hr h1 h3) (hi_size hr h1 h3)
 omega
theorem VV_fuel : ∀ (f g : Nat) (r : R4), r.ok w h → r.size ≤ f → r.size ≤ g → VV leaf f r = VV leaf g r
 | 0, _, r, hr, hf, _ => by unfold R4.ok R4.size at *; omega
 | _ + 1, 0, r, hr, _, hg => by unfold R4.ok R4.size at *; omega
 | f + 1, g + 1, r, hr, hf, hg => by
  simp only [VV]
  rw [cutM_congr (d := true) hr fun r' h1 h2 => VV_fuel f g r' h1 (by omega) (by omega), cutM_congr (d := false) hr fun r' h1 h2 => VV_fuel f g r' h1 (by omega) (by omega)]
theorem V_eq {r : R4} (hr : r.ok w h) : V leaf r = max (max (leaf r) (cutM (V leaf) r true)) (cutM (V leaf) r false) := by
 obtain ⟨n, hn⟩ : ∃ n, r.size = n + 1 := ⟨r.size - 1, by unfold R4.ok R4.size at *; omega⟩
 conv => lhs; unfold V
 rw [hn]
 simp only [VV]
 rw [cutM_congr (d := true) hr fun r' h1 h2 => (VV_fuel n r'.size r' h1 (by omega) (Nat.le_refl _)), cutM_congr (d := false) hr fun r' h1 h2 => (VV_fuel n r'.size r' h1 (by omega) (Nat.le_refl _))]
 rfl
theorem R4.ind {p : R4 → Prop} (hs : ∀ r : R4, r.ok w h → (∀ r' : R4, r'.ok w h → r'.size + 1 ≤ r.size → p r') → p r) : ∀ r : R4, r.ok w h → p r := by
 suffices H : ∀ n (r : R4), r.ok w h → r.size ≤ n → p r from fun r hr => H _ r hr (Nat.le_refl _)
 intro n
 induction n with
 | zero => intro r hr hn; unfold R4.ok R4.size at *; omega
 | succ n ih => intro r hr hn; exact hs r hr fun r' h1 h2 => ih r' h1 (by omega)
theorem V_le {c : Int} (hl : ∀ r : R4, r.ok w h → leaf r ≤ c * ((r.a * r.b : Nat) : Int)) (hc : 0 ≤ c) : ∀ r : R4, r.ok w h → V leaf r ≤ c * ((r.a * r.b : Nat) : Int) := by
 refine R4.ind fun r hr ih => ?_
 rw [V_eq hr]
 have h1 := hl r hr
 have hp : 0 ≤ c * ((r.a * r.b : Nat) : Int) := Int.mul_nonneg hc (by omega)
 have key : ∀ d, cutM (V leaf) r d ≤ c * ((r.a * r.b : Nat) : Int) := fun d => by
  unfold cutM
  refine mxc_le hp _ fun i h2 h3 => ?_
  have h4 : i + 1 ≤ r.len d := by omega
  have e1 := ih _ (lo_ok hr h2 h4) (lo_size hr h2 h4)
  have e2 := ih _ (hi_ok hr h2 h4) (hi_size hr h2 h4)
  have e3 : (r.lo d i).a * (r.lo d i).b + (r.hi d i).a * (r.hi d i).b = r.a * r.b := by
   unfold R4.lo R4.hi R4.len at *
   cases d
   ·simp only [Bool.false_eq_true, if_false] at *
    rw [← Nat.mul_add]; congr 1; omega
   ·simp only [if_true] at *
    rw [← Nat.add_mul]; congr 1; omega
  have e4 : c * (((r.lo d i).a * (r.lo d i).b : Nat) : Int) + c * (((r.hi d i).a * (r.hi d i).b : Nat) : Int) = c * ((r.a * r.b : Nat) : Int) := by
   rw [← Int.mul_add, ← Int.natCast_add, e3]
  omega
 have := key true
 have := key false
 omega
theorem V_nonneg (hl : ∀ r : R4, 0 ≤ leaf r) {r : R4} (hr : r.ok w h) : 0 ≤ V leaf r := by
 rw [V_eq hr]; have := hl r; omega
theorem leaf_le_V {r : R4} (hr : r.ok w h) : leaf r ≤ V leaf r := by rw [V_eq hr]; omega
theorem cut_le_V {r : R4} (hr : r.ok w h) (d : Bool) : cutM (V leaf) r d ≤ V leaf r := by rw [V_eq hr]; cases d <;> omega
end
def done (w h i j y x : Nat) (r : R4) : Prop := r.ok w h ∧ (r.a ≤ i ∨ (r.a = i + 1 ∧ (r.b ≤ j ∨ (r.b = j + 1 ∧ (r.y < y ∨ (r.y = y ∧ r.x < x))))))
section
variable {w h i j y x : Nat}
theorem done_start : done w h 0 0 0 0 = fun _ => False := by
 funext r
 unfold done R4.ok
 exact propext ⟨by omega, False.elim⟩
theorem done_end : done w h w 0 0 0 = fun r => r.ok w h := by
 funext r
 unfold done R4.ok
 exact propext ⟨fun h => h.1, fun h => ⟨h, by omega⟩⟩
theorem done_row : done w h i j y (w - i) = done w h i j (y + 1) 0 := by
 funext r
 unfold done R4.ok
 exact propext ⟨fun h => ⟨h.1, by omega⟩, fun h => ⟨h.1, by omega⟩⟩
theorem done_high : done w h i j (h - j) 0 = done w h i (j + 1) 0 0 := by
 funext r
 unfold done R4.ok
 exact propext ⟨fun h => ⟨h.1, by omega⟩, fun h => ⟨h.1, by omega⟩⟩
theorem done_wide : done w h i h 0 0 = done w h (i + 1) 0 0 0 := by
 funext r
 unfold done R4.ok
 exact propext ⟨fun h => ⟨h.1, by omega⟩, fun h => ⟨h.1, by omega⟩⟩
theorem done_step {r : R4} (hr : r.ok w h) (ha : r.a = i + 1) (hb : r.b = j + 1) (hy : r.y = y) (hx : r.x = x) : done w h i j y (x + 1) = fun r' => r' = r ∨ done w h i j y x r' := by
 funext r'
 obtain ⟨x1, y1, a1, b1⟩ := r
 obtain ⟨x2, y2, a2, b2⟩ := r'
 unfold done R4.ok at *
 simp only [R4.mk.injEq] at *
 exact propext ⟨fun h => by omega, fun h => by omega⟩
theorem done_part {r r' : R4} (hr : r.ok w h) (ha : r.a = i + 1) (hb : r.b = j + 1) (hr' : r'.ok w h) (hs : (r'.a < r.a ∧ r'.b ≤ r.b) ∨ (r'.a = r.a ∧ r'.b < r.b)) : done w h i j y x r' := by
 unfold done R4.ok at *
 exact ⟨hr', by omega⟩
end
section
variable {S : Type} (step : R4 → S → S)
def fX (y a b : Nat) : Nat → S → S
 | 0, s => s
 | k + 1, s => step ⟨k, y, a, b⟩ (fX y a b k s)
def fY (w a b : Nat) : Nat → S → S
 | 0, s => s
 | k + 1, s => fX step k a b (w + 1 - a) (fY w a b k s)
def fH (w h a : Nat) : Nat → S → S
 | 0, s => s
 | k + 1, s => fY step w a (k + 1) (h + 1 - (k + 1)) (fH w h a k s)
def fW (w h : Nat) : Nat → S → S
 | 0, s => s
 | k + 1, s => fH step w h (k + 1) h (fW w h k s)
structure EachI (w h : Nat) (I : (R4 → Prop) → S → Prop) : Prop where
 go : ∀ i j y x s, i < w → j < h → y + (j + 1) ≤ h → x + (i + 1) ≤ w → I (done w h i j y x) s → I (done w h i j y (x + 1)) (step ⟨x, y, i + 1, j + 1⟩ s)
variable {step} {w h : Nat} {I : (R4 → Prop) → S → Prop}
theorem EachI.fx (H : EachI step w h I) {i j y : Nat} {s : S} (hi : i < w) (hj : j < h) (hy : y + (j + 1) ≤ h) (hs : I (done w h i j y 0) s) : ∀ k, k ≤ w - i → I (done w h i j y k) (fX step y (i + 1) (j + 1) k s)
 | 0, _ => hs
 | k + 1, hk => H.go i j y k _ hi hj hy (by omega) (H.fx hi hj hy hs k (by omega))
theorem EachI.fy (H : EachI step w h I) {i j : Nat} {s : S} (hi : i < w) (hj : j < h) (hs : I (done w h i j 0 0) s) : ∀ k, k ≤ h - j → I (done w h i j k 0) (fY step w (i + 1) (j + 1) k s)
 | 0, _ => hs
 | k + 1, hk => by
  have := H.fx hi hj (by omega) (H.fy hi hj hs k (by omega)) (w - i) (Nat.le_refl _)
  rw [done_row] at this
  rw [fY, show w + 1 - (i + 1) = w - i by omega]
  exact this
theorem EachI.fh (H : EachI step w h I) {i : Nat} {s : S} (hi : i < w) (hs : I (done w h i 0 0 0) s) : ∀ k, k ≤ h → I (done w h i k 0 0) (fH step w h (i + 1) k s)
 | 0, _ => hs
 | k + 1, hk => by
  have := H.fy hi (by omega) (H.fh hi hs k (by omega)) (h - k) (Nat.le_refl _)
  rw [done_high] at this
  rw [fH, show h + 1 - (k + 1) = h - k by omega]
  exact this
theorem EachI.fw (H : EachI step w h I) {s : S} (hs : I (done w h 0 0 0 0) s) : ∀ k, k ≤ w → I (done w h k 0 0 0) (fW step w h k s)
 | 0, _ => hs
 | k + 1, hk => by
  have := H.fh (by omega) (H.fw hs k (by omega)) h (Nat.le_refl _)
  rw [done_wide] at this
  exact this
theorem EachI.all (H : EachI step w h I) {s : S} (hs : I (fun _ => False) s) : I (fun r => r.ok w h) (fW step w h w s) := by
 rw [← done_end, ← done_start (w := w) (h := h)] at *
 rw [done_end, ← done_end]
 refine H.fw ?_ w (Nat.le_refl _)
 rw [done_start]
 rw [done_start] at hs
 exact hs
end
def tg (w h : Nat) (v : List Int) (r : R4) : Int := v.getD (r.at w h) 0
def bstep (leaf : R4 → Int) (w h : Nat) (r : R4) (v : List Int) : List Int := v.set (r.at w h) (max (max (leaf r) (cutM (tg w h v) r true)) (cutM (tg w h v) r false))
theorem part_done {w h i j y x : Nat} {r : R4} {d : Bool} {k : Nat} (hr : r.ok w h) (ha : r.a = i + 1) (hb : r.b = j + 1) (h1 : 1 ≤ k) (h2 : k + 1 ≤ r.len d) : done w h i j y x (r.lo d k) ∧ done w h i j y x (r.hi d k) := by
 refine ⟨done_part hr ha hb (lo_ok hr h1 h2) ?_, done_part hr ha hb (hi_ok hr h1 h2) ?_⟩
 ·unfold R4.lo R4.len at *; cases d <;> simp at * <;> omega
 ·unfold R4.hi R4.len at *; cases d <;> simp at * <;> omega
structure TabI (val : R4 → Int) (w h : Nat) (D : R4 → Prop) (v : List Int) : Prop where
 len : v.length = total w h
 dn : ∀ r : R4, D r → tg w h v r = val r
 out : ∀ i, v[i]? = some 0 ∨ (∃ r : R4, D r ∧ r.at w h = i) ∨ v[i]? = none
theorem tg_set {w h : Nat} (hw : w ≤ 16) (hh : h ≤ 16) {r r' : R4} (hr : r.ok w h) (hr' : r'.ok w h) {v : List Int} (hl : v.length = total w h) (z : Int) : tg w h (v.set (r.at w h) z) r' = if r' = r then z else tg w h v r' := by
 have h1 := at_lt hw hh hr
 unfold tg
 by_cases e : r' = r
 ·subst e
  simp [List.getD_eq_getElem?_getD, hl, h1]
 ·rw [if_neg e]
  simp only [List.getD_eq_getElem?_getD]
  rw [List.getElem?_set_ne fun q => e (at_inj hw hr' hr q.symm)]
section
variable {val : R4 → Int} {w h i j y x : Nat} {v : List Int}
theorem step_ok (hi : i < w) (hj : j < h) (hy : y + (j + 1) ≤ h) (hx : x + (i + 1) ≤ w) : (R4.mk x y (i + 1) (j + 1)).ok w h := ⟨by simp, by simp, hx, hy⟩
theorem TabI.cut (H : TabI val w h (done w h i j y x) v) (hr : (R4.mk x y (i + 1) (j + 1)).ok w h) (d : Bool) : cutM (tg w h v) ⟨x, y, i + 1, j + 1⟩ d = cutM val ⟨x, y, i + 1, j + 1⟩ d := by
 unfold cutM
 refine mxc_congr _ fun k h1 h2 => ?_
 have hp := len_pos d hr
 obtain ⟨p1, p2⟩ := part_done (i := i) (j := j) (y := y) (x := x) (k := k) (d := d) hr rfl rfl h1 (by omega)
 rw [H.dn _ p1, H.dn _ p2]
theorem TabI.set (hw : w ≤ 16) (hh : h ≤ 16) (H : TabI val w h (done w h i j y x) v) (hr : (R4.mk x y (i + 1) (j + 1)).ok w h) {z : Int} (hz : z = val ⟨x, y, i + 1, j + 1⟩) :
  TabI val w h (done w h i j y (x + 1)) (v.set ((R4.mk x y (i + 1) (j + 1)).at w h) z) := by
 rw [done_step (i := i) (j := j) (y := y) (x := x) hr rfl rfl rfl rfl]
 refine ⟨by simp [H.len], fun r' hd => ?_, fun k => ?_⟩
 ·have hr' : r'.ok w h := by
   rcases hd with rfl | hd
   ·exact hr
   ·exact hd.1
  rw [tg_set hw hh hr hr' H.len]
  by_cases e : r' = ⟨x, y, i + 1, j + 1⟩
  ·rw [if_pos e, e, hz]
  ·rw [if_neg e]
   rcases hd with e' | hd
   ·exact absurd e' e
   ·exact H.dn _ hd
 ·by_cases e : (R4.mk x y (i + 1) (j + 1)).at w h = k
  ·exact .inr (.inl ⟨_, .inl rfl, e⟩)
  ·rw [List.getElem?_set_ne e]
   rcases H.out k with h1 | ⟨r, h1, h2⟩ | h1
   ·exact .inl h1
   ·exact .inr (.inl ⟨r, .inr h1, h2⟩)
   ·exact .inr (.inr h1)
theorem TabI.zero : TabI val w h (fun _ => False) (List.replicate (total w h) 0) := by
 refine ⟨by simp, fun r h => h.elim, fun i => ?_⟩
 rcases Nat.lt_or_ge i (total w h) with h1 | h1
 ·exact .inl (by simp [h1])
 ·exact .inr (.inr (by simp [h1]))
theorem TabI.all {D : R4 → Prop} {p : Int → Prop} (H : TabI val w h D v) (h0 : p 0) (hv : ∀ r, D r → p (val r)) : ∀ i, p (v.getD i 0) := by
 intro i
 rcases H.out i with h1 | ⟨r, h1, h2⟩ | h1
 ·rw [List.getD_eq_getElem?_getD, h1]; exact h0
 ·have := H.dn r h1
  unfold tg at this
  rw [h2] at this
  rw [this]
  exact hv r h1
 ·rw [List.getD_eq_getElem?_getD, h1]; exact h0
end
theorem bstep_each {leaf : R4 → Int} {w h : Nat} (hw : w ≤ 16) (hh : h ≤ 16) : EachI (bstep leaf w h) w h (TabI (V leaf) w h) := by
 refine ⟨fun i j y x v hi hj hy hx H => ?_⟩
 have hr := step_ok hi hj hy hx
 unfold bstep
 refine H.set hw hh hr ?_
 rw [H.cut hr, H.cut hr, V_eq hr]
def bestT (leaf : R4 → Int) (w h : Nat) : List Int := fW (bstep leaf w h) w h w (List.replicate (total w h) 0)
theorem bestT_ok {leaf : R4 → Int} {w h : Nat} (hw : w ≤ 16) (hh : h ≤ 16) : TabI (V leaf) w h (fun r => r.ok w h) (bestT leaf w h) := by
 exact (bstep_each hw hh).all TabI.zero
abbrev Brd := List ByteArray
def rowOf (B : Brd) (y : Nat) : ByteArray := B.getD y ByteArray.empty
def gr (B : Brd) (x y : Nat) : Int := (byteAt (rowOf B y) x : Int) - 48
def rowc (B : Brd) (g : Int) (y x : Nat) : Nat → Nat
 | 0 => 0
 | k + 1 => rowc B g y x k + (if g ≤ gr B (x + k) y then 1 else 0)
def cnt (B : Brd) (g : Int) (x y a : Nat) : Nat → Nat
 | 0 => 0
 | k + 1 => cnt B g x y a k + rowc B g (y + k) x a
theorem rowc_le (B : Brd) (g : Int) (y x : Nat) : ∀ k, rowc B g y x k ≤ k
 | 0 => Nat.le_refl _
 | k + 1 => by have := rowc_le B g y x k; simp only [rowc]; split <;> omega
theorem rowc_add (B : Brd) (g : Int) (y x a : Nat) : ∀ k, rowc B g y x (a + k) = rowc B g y x a + rowc B g y (x + a) k
 | 0 => rfl
 | k + 1 => by rw [← Nat.add_assoc, rowc, rowc_add B g y x a k, rowc, ← Nat.add_assoc, Nat.add_assoc]
theorem cnt_le (B : Brd) (g : Int) (x y a : Nat) : ∀ k, cnt B g x y a k ≤ a * k
 | 0 => Nat.le_refl _
 | k + 1 => by
  have := cnt_le B g x y a k
  have := rowc_le B g (y + k) x a
  simp only [cnt, Nat.mul_succ]; omega
theorem cnt_addY (B : Brd) (g : Int) (x y a b : Nat) : ∀ k, cnt B g x y a (b + k) = cnt B g x y a b + cnt B g x (y + b) a k
 | 0 => rfl
 | k + 1 => by rw [← Nat.add_assoc, cnt, cnt_addY B g x y a b k, cnt, ← Nat.add_assoc, Nat.add_assoc]
theorem cnt_addX (B : Brd) (g : Int) (x y a c : Nat) : ∀ k, cnt B g x y (a + c) k = cnt B g x y a k + cnt B g (x + a) y c k
 | 0 => rfl
 | k + 1 => by rw [cnt, cnt_addX B g x y a c k, cnt, cnt, rowc_add]; omega
theorem cnt_corners (B : Brd) (g : Int) (x y a b : Nat) : (cnt B g x y a b : Int) = (cnt B g 0 0 (x + a) (y + b) : Int) - cnt B g 0 0 x (y + b) - cnt B g 0 0 (x + a) y + cnt B g 0 0 x y := by
 have h1 := cnt_addY B g 0 0 (x + a) y b
 have h2 := cnt_addY B g 0 0 x y b
 have h3 := cnt_addX B g 0 (0 + y) x a b
 simp only [Nat.zero_add] at h1 h2 h3
 omega
theorem getD_in {α : Type} (l : List α) (d : α) {i : Nat} (h : i < l.length) : l.getD i d = l[i] := by simp [List.getD_eq_getElem?_getD, h]
structure Kd where
 w : Int
 h : Int
 g : Int
 worth : Int
 turn : Bool
deriving DecidableEq
instance : Inhabited Kd := ⟨⟨0, 0, 0, 0, false⟩⟩
def Kd.cells (k : Kd) : List Value := [.int .i64 k.w, .int .i64 k.h, .int .i64 k.g, .int .i64 k.worth, .bool k.turn]
def Kd.v (k : Kd) : Value := .agg #[.int .i64 k.w, .int .i64 k.h, .int .i64 k.g, .int .i64 k.worth, .bool k.turn]
def kdB (k : Kd) : Bool := decide (1 ≤ k.w ∧ k.w ≤ 16 ∧ 1 ≤ k.h ∧ k.h ≤ 16 ∧ 1 ≤ k.g ∧ k.g ≤ 9 ∧ 1 ≤ k.worth ∧ k.worth ≤ 1000000)
def kindsB (K : List Kd) : Bool := decide (K.length ≤ 12) && K.all kdB
def rowB (n : Nat) (s : ByteArray) : Bool := decide (s.size = n) && (List.range s.size).all fun i => decide (48 ≤ byteAt s i ∧ byteAt s i ≤ 57)
def skinB (B : Brd) : Bool := decide (1 ≤ B.length ∧ B.length ≤ 48 ∧ 1 ≤ (rowOf B 0).size ∧ (rowOf B 0).size ≤ 48) && B.all (rowB (rowOf B 0).size)
def boardB (B : Brd) : Bool := skinB B && decide (B.length ≤ 16 ∧ (rowOf B 0).size ≤ 16)
def goodB (B : Brd) (K : List Kd) : Bool := boardB B && kindsB K
def bw (B : Brd) : Nat := (rowOf B 0).size
def bh (B : Brd) : Nat := B.length
def fitsM (B : Brd) (k : Kd) (r : R4) : Option Bool :=
 if k.w = r.a ∧ k.h = r.b then (if cnt B k.g r.x r.y r.a r.b = r.a * r.b then some false else none)
 else if k.turn = true ∧ k.w = r.b ∧ k.h = r.a then (if cnt B k.g r.x r.y r.a r.b = r.a * r.b then some true else none)
 else none
def leafN (B : Brd) (K : List Kd) (r : R4) : Nat → Int
 | 0 => 0
 | i + 1 => if (fitsM B (K.getD i default) r).isSome = true ∧ leafN B K r i < (K.getD i default).worth then (K.getD i default).worth else leafN B K r i
def leafM (B : Brd) (K : List Kd) (r : R4) : Int := leafN B K r K.length
theorem kinds_get {K : List Kd} (h : kindsB K = true) {i : Nat} (hi : i < K.length) : kdB (K.getD i default) = true := by
 unfold kindsB at h
 simp only [Bool.and_eq_true, List.all_eq_true] at h
 rw [getD_in _ _ hi]
 exact h.2 _ (List.getElem_mem hi)
theorem kdB_in {k : Kd} (h : kdB k = true) : 1 ≤ k.w ∧ k.w ≤ 16 ∧ 1 ≤ k.h ∧ k.h ≤ 16 ∧ 1 ≤ k.g ∧ k.g ≤ 9 ∧ 1 ≤ k.worth ∧ k.worth ≤ 1000000 := by simpa [kdB] using h
theorem leafN_in {B : Brd} {K : List Kd} (hK : kindsB K = true) (r : R4) : ∀ n, n ≤ K.length → 0 ≤ leafN B K r n ∧ leafN B K r n ≤ 1000000
 | 0, _ => by simp [leafN]
 | n + 1, hn => by
  have := leafN_in (B := B) hK r n (by omega)
  have := kdB_in (kinds_get hK (show n < K.length by omega))
  simp only [leafN]; split <;> omega
theorem leafN_nonneg (B : Brd) (K : List Kd) (r : R4) : ∀ n, 0 ≤ leafN B K r n
 | 0 => Int.le_refl _
 | n + 1 => by have := leafN_nonneg B K r n; simp only [leafN]; split <;> omega
theorem leafN_step (B : Brd) (K : List Kd) (r : R4) (i : Nat) : leafN B K r i ≤ leafN B K r (i + 1) := by simp only [leafN]; split <;> omega
theorem leafN_mono (B : Brd) (K : List Kd) (r : R4) {i j : Nat} (h : i ≤ j) : leafN B K r i ≤ leafN B K r j := by
 induction h with
 | refl => exact Int.le_refl _
 | step _ ih => exact Int.le_trans ih (leafN_step ..)
theorem le_leafN {B : Brd} {K : List Kd} {r : R4} {n i : Nat} (hi : i < n) (hf : (fitsM B (K.getD i default) r).isSome = true) : (K.getD i default).worth ≤ leafN B K r n := by
 refine Int.le_trans ?_ (leafN_mono B K r (show i + 1 ≤ n from hi))
 simp only [leafN, hf, true_and]; split <;> omega
theorem leafN_wit {B : Brd} {K : List Kd} {r : R4} : ∀ n, leafN B K r n = 0 ∨ ∃ i, i < n ∧ (fitsM B (K.getD i default) r).isSome = true ∧ leafN B K r n = (K.getD i default).worth
 | 0 => .inl rfl
 | n + 1 => by
  simp only [leafN]
  split
  ·rename_i h; exact .inr ⟨n, by omega, h.1, rfl⟩
  ·rcases leafN_wit (B := B) (K := K) (r := r) n with h | ⟨i, h1, h2, h3⟩
   ·exact .inl h
   ·exact .inr ⟨i, by omega, h2, h3⟩
theorem good_in {B : Brd} (h : boardB B = true) : 1 ≤ bh B ∧ bh B ≤ 16 ∧ 1 ≤ bw B ∧ bw B ≤ 16 := by
 simp only [boardB, skinB, Bool.and_eq_true, decide_eq_true_eq] at h
 unfold bh bw
 omega
theorem skin_row {B : Brd} (h : skinB B = true) {y : Nat} (hy : y < B.length) : (rowOf B y).size = bw B ∧ ∀ x, x < bw B → 48 ≤ byteAt (rowOf B y) x ∧ byteAt (rowOf B y) x ≤ 57 := by
 simp only [skinB, Bool.and_eq_true, List.all_eq_true] at h
 have := h.2 (rowOf B y) (by unfold rowOf; rw [getD_in _ _ hy]; exact List.getElem_mem hy)
 simp only [rowB, Bool.and_eq_true, decide_eq_true_eq, List.all_eq_true, List.mem_range] at this
 refine ⟨this.1, fun x hx => this.2 x ?_⟩
 unfold bw at hx
 omega
def boardT (B : Brd) (K : List Kd) : List Int := bestT (leafM B K) (bw B) (bh B)
def wholeR (B : Brd) : R4 := ⟨0, 0, bw B, bh B⟩
def bestM (B : Brd) (K : List Kd) : Int := tg (bw B) (bh B) (boardT B K) (wholeR B)
section
variable {leaf leaf' : R4 → Int} {w h : Nat}
theorem V_mono (hl : ∀ r : R4, r.ok w h → leaf r ≤ leaf' r) : ∀ r : R4, r.ok w h → V leaf r ≤ V leaf' r := by
 refine R4.ind fun r hr ih => ?_
 rw [V_eq hr, V_eq hr]
 have := hl r hr
 have := cutM_mono (d := true) hr ih
 have := cutM_mono (d := false) hr ih
 omega
end
section
variable {B B' : Brd} {K : List Kd} {g : Int}
theorem rowc_mono {y x : Nat} : ∀ k, (∀ i, i < k → gr B (x + i) y ≤ gr B' (x + i) y) → rowc B g y x k ≤ rowc B' g y x k
 | 0, _ => Nat.le_refl _
 | k + 1, h => by
  have h1 := rowc_mono k fun i hi => h i (by omega)
  have h2 := h k (by omega)
  simp only [rowc]
  split <;> split <;> omega
theorem cnt_mono {x y a : Nat} : ∀ k, (∀ i j, i < a → j < k → gr B (x + i) (y + j) ≤ gr B' (x + i) (y + j)) → cnt B g x y a k ≤ cnt B' g x y a k
 | 0, _ => Nat.le_refl _
 | k + 1, h => by
  have h1 := cnt_mono k fun i j hi hj => h i j hi (by omega)
  have h2 := rowc_mono (g := g) a fun i hi => h i k hi (by omega)
  simp only [cnt]; omega
theorem fits_mono {k : Kd} {r : R4} (h : ∀ i j, i < r.a → j < r.b → gr B (r.x + i) (r.y + j) ≤ gr B' (r.x + i) (r.y + j)) (hf : (fitsM B k r).isSome = true) : (fitsM B' k r).isSome = true := by
 have h1 := cnt_mono (g := k.g) r.b h
 have h2 := cnt_le B' k.g r.x r.y r.a r.b
 unfold fitsM at *
 split at hf
 ·rename_i hc
  rw [if_pos hc]
  split at hf
  ·rw [if_pos (by omega)]; rfl
  ·simp at hf
 ·rename_i hc
  rw [if_neg hc]
  split at hf
  ·rename_i hc'
   rw [if_pos hc']
   split at hf
   ·rw [if_pos (by omega)]; rfl
   ·simp at hf
  ·simp at hf
theorem leafN_better {r : R4} (h : ∀ k, (fitsM B k r).isSome = true → (fitsM B' k r).isSome = true) (n : Nat) : leafN B K r n ≤ leafN B' K r n := by
 rcases leafN_wit (B := B) (K := K) (r := r) n with e | ⟨i, h1, h2, h3⟩
 ·rw [e]; exact leafN_nonneg ..
 ·rw [h3]; exact le_leafN h1 (h _ h2)
theorem leafM_better {r : R4} (h : ∀ i j, i < r.a → j < r.b → gr B (r.x + i) (r.y + j) ≤ gr B' (r.x + i) (r.y + j)) : leafM B K r ≤ leafM B' K r :=
 leafN_better (fun k hk => fits_mono h hk) _
end
open Go.RowKit
open Go.Proofs.YtedbjmgchfgabaaDoor.Sim
open Go.Proofs
def I64 (x : Int) : Prop := -9223372036854775808 ≤ x ∧ x ≤ 9223372036854775807
def Rc.i64 (r : Rc) : Prop := I64 r.x ∧ I64 r.y ∧ I64 r.w ∧ I64 r.h
def rightB (r : Rc) : Bool := decide (1 ≤ r.w ∧ 1 ≤ r.h ∧ 0 ≤ r.x ∧ 0 ≤ r.y)
def liesB (r : Rc) (w h : Int) : Bool := decide (r.w ≤ w ∧ r.x ≤ w - r.w ∧ r.h ≤ h ∧ r.y ≤ h - r.h)
def pairV (x : Int × Int) : Value := .tuple #[.int .i64 x.1, .int .i64 x.2]
def rectsM (w h : Int) : Int × Int := if sidesB w h then (w * (w + 1) / 2 * (h * (h + 1) / 2), 0) else (0, 2)
set_option maxRecDepth 100000 in
theorem Rects_ok {m : AM} (w h : Int) : ACall Tryd.prog 49 #[.int .i64 w, .int .i64 h] m (Ret (pairV (rectsM w h)) m) := by
 refine ACall.start Tryd.func49 rfl rfl ?_
 cases hs : sidesB w h with
 | true =>
  have c1 := fun m => sides_ok (m := m) w h
  rw [hs] at c1
  have hs' := hs
  simp only [sidesB, decide_eq_true_eq] at hs'
  have h1 := mul_in (a := w) (b := w + 1) (m := 16) (n := 17) (by omega) (by omega) (by omega) (by omega)
  have h2 := mul_in (a := h) (b := h + 1) (m := 16) (n := 17) (by omega) (by omega) (by omega) (by omega)
  have h3 := mul_in (a := w * (w + 1) / 2) (b := h * (h + 1) / 2) (m := 136) (n := 136) (by omega) (by omega) (by omega) (by omega)
  (repeat (first|(with_reducible refine AWo.cons ?_)|((with_reducible refine Step.id ?_);first|((with_reducible apply Step.move);exact rfl;exact rfl)|((with_reducible apply Step.assign);exact rfl;exact rfl)|((with_reducible apply Step.add);exact rfl;exact rfl;((omega));exact rfl)|((with_reducible apply Step.mul);exact rfl;exact rfl;((omega));exact rfl)|((with_reducible apply Step.quo);exact rfl;exact rfl;((omega));((omega));exact rfl)|((with_reducible apply Step.not);exact rfl;exact rfl)|((with_reducible apply Step.callR fit);exact rfl;exact Tryd.func62;exact rfl;exact rfl;exact (c1 _)))|(with_reducible first|apply AWo.nil|apply AW.seq|apply Then.n|apply AW.regL|apply AW.skip)|((with_reducible apply AW.condF);exact rfl;((rfl)))))
  (refine AW.retD (l := [(4, _), (5, _)]) (by repeat (first | exact trivial | (refine And.intro ⟨rfl, by (exact .int _ _)⟩ ?_))) ?_; (repeat (first | refine Then.r ?_ | refine InBlk.r ?_)))
  exact ⟨_, rfl, by simp only [rectsM, hs, if_true]; rfl, rfl⟩
 | false =>
  have c1 := fun m => sides_ok (m := m) w h
  rw [hs] at c1
  (repeat (first|(with_reducible refine AWo.cons ?_)|((with_reducible refine Step.id ?_);first|((with_reducible apply Step.move);exact rfl;exact rfl)|((with_reducible apply Step.assign);exact rfl;exact rfl)|((with_reducible apply Step.not);exact rfl;exact rfl)|((with_reducible apply Step.callR fit);exact rfl;exact Tryd.func62;exact rfl;exact rfl;exact (c1 _)))|(with_reducible first|apply AWo.nil|apply AW.seq|apply Then.n|apply AW.regL)|((with_reducible apply AW.condT);exact rfl;((rfl)))))
  (refine AW.retD (l := [(4, _), (5, _)]) (by repeat (first | exact trivial | (refine And.intro ⟨rfl, by (exact .int _ _)⟩ ?_))) ?_; (repeat (first | refine Then.r ?_ | refine InBlk.r ?_)))
  exact ⟨_, rfl, by simp only [rectsM, hs]; rfl, rfl⟩
set_option maxRecDepth 100000 in
theorem right_ok {m : AM} (r : Rc) : ACall Tryd.prog 120 #[r.v] m (Ret (.bool (rightB r)) m) := by
 obtain ⟨x, y, w, h⟩ := r
 refine ACall.start Tryd.func120 rfl rfl ?_
 by_cases a1 : 1 ≤ w
 ·by_cases a2 : 1 ≤ h
  ·by_cases a3 : 0 ≤ x
   ·(repeat (first|(with_reducible refine AWo.cons ?_)|((with_reducible refine Step.id ?_);first|((with_reducible apply Step.gdT);exact rfl;exact rfl;(((simp only [zq1, zq2, zq3, zq4, zq5, zq6];first|assumption|omega))))|((with_reducible apply Step.move);exact rfl;exact rfl)|((with_reducible apply Step.assign);exact rfl;exact rfl)|((with_reducible apply Step.load);exact rfl;((decide +kernel));exact rfl;((exact Rd.new rfl rfl)))|((with_reducible apply Step.field0);exact rfl;((decide +kernel));exact rfl)|((with_reducible apply Step.field (k := 1));exact rfl;((decide +kernel));exact rfl)|((with_reducible apply Step.field (k := 2));exact rfl;((decide +kernel));exact rfl)|((with_reducible apply Step.field (k := 3));exact rfl;((decide +kernel));exact rfl)|((with_reducible apply Step.geq);exact rfl;exact rfl;exact rfl)|((with_reducible apply Step.pickT);exact rfl;exact rfl;exact rfl;exact rfl;(((simp only [zq1, zq2, zq3, zq4, zq5, zq6];first|assumption|omega))))|((with_reducible apply Step.box 0);exact rfl;exact rfl;((kernel_rfl));exact rfl;((first|(simp only [zq7, zq8, zq9, zq0, iv_set, bv_set, iv_rep, bv_rep] <;> rfl)|rfl))))|(with_reducible first|apply AWo.nil|apply AW.seq|apply Then.n|apply AW.regL)))
    (refine AW.retD (l := [(2, _)]) (by repeat (first | exact trivial | (refine And.intro ⟨rfl, by (exact .bool _)⟩ ?_))) ?_; (repeat (first | refine Then.r ?_ | refine InBlk.r ?_)))
    exact ⟨_, rfl, by simp [rightB, a1, a2, a3], rfl⟩
   ·(repeat (first|(with_reducible refine AWo.cons ?_)|((with_reducible refine Step.id ?_);first|((with_reducible apply Step.gdT);exact rfl;exact rfl;(((simp only [zq1, zq2, zq3, zq4, zq5, zq6];first|assumption|omega))))|((with_reducible apply Step.gdF);exact rfl;exact rfl;(((simp only [zq1, zq2, zq3, zq4, zq5, zq6];first|assumption|omega))))|((with_reducible apply Step.move);exact rfl;exact rfl)|((with_reducible apply Step.assign);exact rfl;exact rfl)|((with_reducible apply Step.load);exact rfl;((decide +kernel));exact rfl;((exact Rd.new rfl rfl)))|((with_reducible apply Step.field0);exact rfl;((decide +kernel));exact rfl)|((with_reducible apply Step.field (k := 2));exact rfl;((decide +kernel));exact rfl)|((with_reducible apply Step.field (k := 3));exact rfl;((decide +kernel));exact rfl)|((with_reducible apply Step.geq);exact rfl;exact rfl;exact rfl)|((with_reducible apply Step.pickT);exact rfl;exact rfl;exact rfl;exact rfl;(((simp only [zq1, zq2, zq3, zq4, zq5, zq6];first|assumption|omega))))|((with_reducible apply Step.pickF);exact rfl;exact rfl;exact rfl;exact rfl;(((simp only [zq1, zq2, zq3, zq4, zq5, zq6];first|assumption|omega))))|((with_reducible apply Step.box 0);exact rfl;exact rfl;((kernel_rfl));exact rfl;((first|(simp only [zq7, zq8, zq9, zq0, iv_set, bv_set, iv_rep, bv_rep] <;> rfl)|rfl))))|(with_reducible first|apply AWo.nil|apply AW.seq|apply Then.n|apply AW.regL)))
    (refine AW.retD (l := [(2, _)]) (by repeat (first | exact trivial | (refine And.intro ⟨rfl, by (exact .bool _)⟩ ?_))) ?_; (repeat (first | refine Then.r ?_ | refine InBlk.r ?_)))
    exact ⟨_, rfl, by simp [rightB, a1, a2, a3], rfl⟩
  ·(repeat (first|(with_reducible refine AWo.cons ?_)|((with_reducible refine Step.id ?_);first|((with_reducible apply Step.gdT);exact rfl;exact rfl;(((simp only [zq1, zq2, zq3, zq4, zq5, zq6];first|assumption|omega))))|((with_reducible apply Step.gdF);exact rfl;exact rfl;((first|rfl|(simp only [zq1, zq2, zq3, zq4, zq5, zq6];first|assumption|omega))))|((with_reducible apply Step.move);exact rfl;exact rfl)|((with_reducible apply Step.assign);exact rfl;exact rfl)|((with_reducible apply Step.load);exact rfl;((decide +kernel));exact rfl;((exact Rd.new rfl rfl)))|((with_reducible apply Step.field (k := 2));exact rfl;((decide +kernel));exact rfl)|((with_reducible apply Step.field (k := 3));exact rfl;((decide +kernel));exact rfl)|((with_reducible apply Step.geq);exact rfl;exact rfl;exact rfl)|((with_reducible apply Step.pickT);exact rfl;exact rfl;exact rfl;exact rfl;(((simp only [zq1, zq2, zq3, zq4, zq5, zq6];first|assumption|omega))))|((with_reducible apply Step.pickF);exact rfl;exact rfl;exact rfl;exact rfl;((first|rfl|(simp only [zq1, zq2, zq3, zq4, zq5, zq6];first|assumption|omega))))|((with_reducible apply Step.box 0);exact rfl;exact rfl;((kernel_rfl));exact rfl;((first|(simp only [zq7, zq8, zq9, zq0, iv_set, bv_set, iv_rep, bv_rep] <;> rfl)|rfl))))|(with_reducible first|apply AWo.nil|apply AW.seq|apply Then.n|apply AW.regL)))
   (refine AW.retD (l := [(2, _)]) (by repeat (first | exact trivial | (refine And.intro ⟨rfl, by (exact .bool _)⟩ ?_))) ?_; (repeat (first | refine Then.r ?_ | refine InBlk.r ?_)))
   exact ⟨_, rfl, by simp [rightB, a1, a2], rfl⟩
 ·(repeat (first|(with_reducible refine AWo.cons ?_)|((with_reducible refine Step.id ?_);first|((with_reducible apply Step.gdF);exact rfl;exact rfl;((first|rfl|(simp only [zq1, zq2, zq3, zq4, zq5, zq6];first|assumption|omega))))|((with_reducible apply Step.move);exact rfl;exact rfl)|((with_reducible apply Step.assign);exact rfl;exact rfl)|((with_reducible apply Step.load);exact rfl;((decide +kernel));exact rfl;((exact Rd.new rfl rfl)))|((with_reducible apply Step.field (k := 2));exact rfl;((decide +kernel));exact rfl)|((with_reducible apply Step.geq);exact rfl;exact rfl;exact rfl)|((with_reducible apply Step.pickF);exact rfl;exact rfl;exact rfl;exact rfl;((first|rfl|(simp only [zq1, zq2, zq3, zq4, zq5, zq6];first|assumption|omega))))|((with_reducible apply Step.box 0);exact rfl;exact rfl;((kernel_rfl));exact rfl;((first|(simp only [zq7, zq8, zq9, zq0, iv_set, bv_set, iv_rep, bv_rep] <;> rfl)|rfl))))|(with_reducible first|apply AWo.nil|apply AW.seq|apply Then.n|apply AW.regL)))
  (refine AW.retD (l := [(2, _)]) (by repeat (first | exact trivial | (refine And.intro ⟨rfl, by (exact .bool _)⟩ ?_))) ?_; (repeat (first | refine Then.r ?_ | refine InBlk.r ?_)))
  exact ⟨_, rfl, by simp [rightB, a1], rfl⟩
set_option maxRecDepth 100000 in
theorem inside_ok {m : AM} (r : Rc) (w h : Int) (hr : rightB r = true) (hw : 0 ≤ w ∧ w ≤ 100) (hh : 0 ≤ h ∧ h ≤ 100) : ACall Tryd.prog 121 #[r.v, .int .i64 w, .int .i64 h] m (Ret (.bool (liesB r w h)) m) := by
 obtain ⟨x, y, a, b⟩ := r
 simp only [rightB, decide_eq_true_eq] at hr
 simp only [Rc.v]
 refine ACall.start Tryd.func121 rfl rfl ?_
 by_cases a1 : a ≤ w
 ·by_cases a2 : x ≤ w - a
  ·by_cases a3 : b ≤ h
   ·(repeat (first|(with_reducible refine AWo.cons ?_)|((with_reducible refine Step.id ?_);first|((with_reducible apply Step.gdT);exact rfl;exact rfl;(((simp only [zq1, zq2, zq3, zq4, zq5, zq6];first|assumption|omega))))|((with_reducible apply Step.move);exact rfl;exact rfl)|((with_reducible apply Step.assign);exact rfl;exact rfl)|((with_reducible apply Step.load);exact rfl;((decide +kernel));exact rfl;((exact Rd.new rfl rfl)))|((with_reducible apply Step.field0);exact rfl;((decide +kernel));exact rfl)|((with_reducible apply Step.field (k := 1));exact rfl;((decide +kernel));exact rfl)|((with_reducible apply Step.field (k := 2));exact rfl;((decide +kernel));exact rfl)|((with_reducible apply Step.field (k := 3));exact rfl;((decide +kernel));exact rfl)|((with_reducible apply Step.sub);exact rfl;exact rfl;((omega));exact rfl)|((with_reducible apply Step.leq);exact rfl;exact rfl;exact rfl)|((with_reducible apply Step.pickT);exact rfl;exact rfl;exact rfl;exact rfl;(((simp only [zq1, zq2, zq3, zq4, zq5, zq6];first|assumption|omega))))|((with_reducible apply Step.box 0);exact rfl;exact rfl;((kernel_rfl));exact rfl;((first|(simp only [zq7, zq8, zq9, zq0, iv_set, bv_set, iv_rep, bv_rep] <;> rfl)|rfl))))|(with_reducible first|apply AWo.nil|apply AW.seq|apply Then.n|apply AW.regL)))
    (refine AW.retD (l := [(6, _)]) (by repeat (first | exact trivial | (refine And.intro ⟨rfl, by (exact .bool _)⟩ ?_))) ?_; (repeat (first | refine Then.r ?_ | refine InBlk.r ?_)))
    exact ⟨_, rfl, by simp [liesB, a1, a2, a3], rfl⟩
   ·(repeat (first|(with_reducible refine AWo.cons ?_)|((with_reducible refine Step.id ?_);first|((with_reducible apply Step.gdT);exact rfl;exact rfl;(((simp only [zq1, zq2, zq3, zq4, zq5, zq6];first|assumption|omega))))|((with_reducible apply Step.gdF);exact rfl;exact rfl;(((simp only [zq1, zq2, zq3, zq4, zq5, zq6];first|assumption|omega))))|((with_reducible apply Step.move);exact rfl;exact rfl)|((with_reducible apply Step.assign);exact rfl;exact rfl)|((with_reducible apply Step.load);exact rfl;((decide +kernel));exact rfl;((exact Rd.new rfl rfl)))|((with_reducible apply Step.field0);exact rfl;((decide +kernel));exact rfl)|((with_reducible apply Step.field (k := 2));exact rfl;((decide +kernel));exact rfl)|((with_reducible apply Step.field (k := 3));exact rfl;((decide +kernel));exact rfl)|((with_reducible apply Step.sub);exact rfl;exact rfl;((omega));exact rfl)|((with_reducible apply Step.leq);exact rfl;exact rfl;exact rfl)|((with_reducible apply Step.pickT);exact rfl;exact rfl;exact rfl;exact rfl;(((simp only [zq1, zq2, zq3, zq4, zq5, zq6];first|assumption|omega))))|((with_reducible apply Step.pickF);exact rfl;exact rfl;exact rfl;exact rfl;(((simp only [zq1, zq2, zq3, zq4, zq5, zq6];first|assumption|omega))))|((with_reducible apply Step.box 0);exact rfl;exact rfl;((kernel_rfl));exact rfl;((first|(simp only [zq7, zq8, zq9, zq0, iv_set, bv_set, iv_rep, bv_rep] <;> rfl)|rfl))))|(with_reducible first|apply AWo.nil|apply AW.seq|apply Then.n|apply AW.regL)))
    (refine AW.retD (l := [(6, _)]) (by repeat (first | exact trivial | (refine And.intro ⟨rfl, by (exact .bool _)⟩ ?_))) ?_; (repeat (first | refine Then.r ?_ | refine InBlk.r ?_)))
    exact ⟨_, rfl, by simp [liesB, a1, a2, a3], rfl⟩
  ·(repeat (first|(with_reducible refine AWo.cons ?_)|((with_reducible refine Step.id ?_);first|((with_reducible apply Step.gdT);exact rfl;exact rfl;(((simp only [zq1, zq2, zq3, zq4, zq5, zq6];first|assumption|omega))))|((with_reducible apply Step.gdF);exact rfl;exact rfl;((first|rfl|(simp only [zq1, zq2, zq3, zq4, zq5, zq6];first|assumption|omega))))|((with_reducible apply Step.move);exact rfl;exact rfl)|((with_reducible apply Step.assign);exact rfl;exact rfl)|((with_reducible apply Step.load);exact rfl;((decide +kernel));exact rfl;((exact Rd.new rfl rfl)))|((with_reducible apply Step.field0);exact rfl;((decide +kernel));exact rfl)|((with_reducible apply Step.field (k := 2));exact rfl;((decide +kernel));exact rfl)|((with_reducible apply Step.sub);exact rfl;exact rfl;((omega));exact rfl)|((with_reducible apply Step.leq);exact rfl;exact rfl;exact rfl)|((with_reducible apply Step.pickT);exact rfl;exact rfl;exact rfl;exact rfl;(((simp only [zq1, zq2, zq3, zq4, zq5, zq6];first|assumption|omega))))|((with_reducible apply Step.pickF);exact rfl;exact rfl;exact rfl;exact rfl;((first|rfl|(simp only [zq1, zq2, zq3, zq4, zq5, zq6];first|assumption|omega))))|((with_reducible apply Step.box 0);exact rfl;exact rfl;((kernel_rfl));exact rfl;((first|(simp only [zq7, zq8, zq9, zq0, iv_set, bv_set, iv_rep, bv_rep] <;> rfl)|rfl))))|(with_reducible first|apply AWo.nil|apply AW.seq|apply Then.n|apply AW.regL)))
   (refine AW.retD (l := [(6, _)]) (by repeat (first | exact trivial | (refine And.intro ⟨rfl, by (exact .bool _)⟩ ?_))) ?_; (repeat (first | refine Then.r ?_ | refine InBlk.r ?_)))
   exact ⟨_, rfl, by simp [liesB, a1, a2], rfl⟩
 ·(repeat (first|(with_reducible refine AWo.cons ?_)|((with_reducible refine Step.id ?_);first|((with_reducible apply Step.gdF);exact rfl;exact rfl;((first|rfl|(simp only [zq1, zq2, zq3, zq4, zq5, zq6];first|assumption|omega))))|((with_reducible apply Step.move);exact rfl;exact rfl)|((with_reducible apply Step.assign);exact rfl;exact rfl)|((with_reducible apply Step.load);exact rfl;((decide +kernel));exact rfl;((exact Rd.new rfl rfl)))|((with_reducible apply Step.field (k := 2));exact rfl;((decide +kernel));exact rfl)|((with_reducible apply Step.leq);exact rfl;exact rfl;exact rfl)|((with_reducible apply Step.pickF);exact rfl;exact rfl;exact rfl;exact rfl;((first|rfl|(simp only [zq1, zq2, zq3, zq4, zq5, zq6];first|assumption|omega))))|((with_reducible apply Step.box 0);exact rfl;exact rfl;((kernel_rfl));exact rfl;((first|(simp only [zq7, zq8, zq9, zq0, iv_set, bv_set, iv_rep, bv_rep] <;> rfl)|rfl))))|(with_reducible first|apply AWo.nil|apply AW.seq|apply Then.n|apply AW.regL)))
  (refine AW.retD (l := [(6, _)]) (by repeat (first | exact trivial | (refine And.intro ⟨rfl, by (exact .bool _)⟩ ?_))) ?_; (repeat (first | refine Then.r ?_ | refine InBlk.r ?_)))
  exact ⟨_, rfl, by simp [liesB, a1], rfl⟩
end Go.Proofs.YtedbjmgchfgabaaDoor.Abs
namespace Go.Proofs
set_option linter.unusedSimpArgs false
set_option linter.unusedVariables false
open Go.Shelf
def trimD_ren : Go.Shelf.Ren := ⟨fun | 160 => 61 | 232 => 90 | 231 => 89 | 227 => 91 | 234 => 93 | 233 => 92 | 236 => 95 | 235 => 94 | 228 => 107 | 271 => 110 | 151 => 109 | 197 => 108 | 120 => 138 | 152 => 137 | 260 => 136 | 137 => 153 | 119 => 154 | 224 => 145 | 225 => 144 | 217 => 143 | 266 => 157 | n => n, fun | 9 => 9 | 4 => 4 | 3 => 3 | 5 => 5 | 117 => 159 | 116 => 158 | 0 => 0 | 124 => 162 | 21 => 21 | 105 => 177 | 46 => 175 | 119 => 216 | 139 => 219 | 138 => 218 | n => n, fun | 3 => 2 | 4 => 3 | n => n⟩
theorem trimD : Go.Proofs.Lays.n160 Tryd.prog trimD_ren := {
 mixed := by kernel_rfl
 f119 := Tryd.func154.trans (congrArg some (by kernel_rfl))
 f120 := Tryd.func138.trans (congrArg some (by kernel_rfl))
 f137 := Tryd.func153.trans (congrArg some (by kernel_rfl))
 f151 := Tryd.func109.trans (congrArg some (by kernel_rfl))
 f152 := Tryd.func137.trans (congrArg some (by kernel_rfl))
 f160 := Tryd.func61.trans (congrArg some (by kernel_rfl))
 f197 := Tryd.func108.trans (congrArg some (by kernel_rfl))
 f217 := Tryd.func143.trans (congrArg some (by kernel_rfl))
 f224 := Tryd.func145.trans (congrArg some (by kernel_rfl))
 f225 := Tryd.func144.trans (congrArg some (by kernel_rfl))
 f227 := Tryd.func91.trans (congrArg some (by kernel_rfl))
 f228 := Tryd.func107.trans (congrArg some (by kernel_rfl))
 f231 := Tryd.func89.trans (congrArg some (by kernel_rfl))
 f232 := Tryd.func90.trans (congrArg some (by kernel_rfl))
 f233 := Tryd.func92.trans (congrArg some (by kernel_rfl))
 f234 := Tryd.func93.trans (congrArg some (by kernel_rfl))
 f235 := Tryd.func94.trans (congrArg some (by kernel_rfl))
 f236 := Tryd.func95.trans (congrArg some (by kernel_rfl))
 f260 := Tryd.func136.trans (congrArg some (by kernel_rfl))
 f266 := Tryd.func157.trans (congrArg some (by kernel_rfl))
 f271 := Tryd.func110.trans (congrArg some (by kernel_rfl))
 t0 := Tryd.underlying0
 a0 := Tryd.isAgg0
 z0 := Tryd.sizeOf0
 v0 := Tryd.zeroValue0
 t3 := Tryd.underlying3
 a3 := Tryd.isAgg3
 z3 := Tryd.sizeOf3
 v3 := Tryd.zeroValue3
 t4 := Tryd.underlying4
 a4 := Tryd.isAgg4
 z4 := Tryd.sizeOf4
 v4 := Tryd.zeroValue4
 t5 := Tryd.underlying5
 a5 := Tryd.isAgg5
 z5 := Tryd.sizeOf5
 v5 := Tryd.zeroValue5
 t9 := Tryd.underlying9
 a9 := Tryd.isAgg9
 z9 := Tryd.sizeOf9
 v9 := Tryd.zeroValue9
 t21 := Tryd.underlying21
 a21 := Tryd.isAgg21
 z21 := Tryd.sizeOf21
 v21 := Tryd.zeroValue21
 t46 := Tryd.underlying175
 a46 := Tryd.isAgg175
 z46 := Tryd.sizeOf175
 v46 := Tryd.zeroValue175
 t105 := Tryd.underlying177
 a105 := Tryd.isAgg177
 z105 := Tryd.sizeOf177
 v105 := Tryd.zeroValue177
 t116 := Tryd.underlying158
 a116 := Tryd.isAgg158
 z116 := Tryd.sizeOf158
 t117 := Tryd.underlying159
 a117 := Tryd.isAgg159
 z117 := Tryd.sizeOf159
 v117 := Tryd.zeroValue159
 t119 := Tryd.underlying216
 a119 := Tryd.isAgg216
 z119 := Tryd.sizeOf216
 t124 := Tryd.underlying162
 a124 := Tryd.isAgg162
 z124 := Tryd.sizeOf162
 v124 := Tryd.zeroValue162
 t138 := Tryd.underlying218
 a138 := Tryd.isAgg218
 z138 := Tryd.sizeOf218
 v138 := Tryd.zeroValue218
 t139 := Tryd.underlying219
 a139 := Tryd.isAgg219
 z139 := Tryd.sizeOf219
 v139 := Tryd.zeroValue219
 g3 := by kernel_rfl
 g4 := by kernel_rfl }
end Go.Proofs
namespace Go.Proofs.YtedbjmgchfgabaaDoor.Abs
set_option linter.unusedSimpArgs false
set_option linter.unusedVariables false
open Go.RowKit
open Go.Proofs.YtedbjmgchfgabaaDoor.Sim
open Go.Proofs
theorem post_below {base : Nat} {R : Pl} {m : AM} {w w' : World} (h : MRep base R m w) (hb : Below w.heap.size w w') : Post base m m R R w w' :=
 ⟨.refl R, h.kept hb.block, hb.os, hb.tape, hb.output, hb.size, fun k hk _ => hb.block k hk, fun _ h => .inr h⟩
def digits : ByteArray := ⟨#[48, 49, 50, 51, 52, 53, 54, 55, 56, 57]⟩
def trimB (s : ByteArray) : ByteArray := ⟨(Lib.trimS s.data.toList digits.data.toList).toArray⟩
theorem dw_nil {p : UInt8 → Bool} : ∀ (l : List UInt8), l.dropWhile p = [] ↔ ∀ x ∈ l, p x = true
 | [] => by simp
 | a :: l => by
  rw [List.dropWhile_cons]
  by_cases h : p a = true
  ·rw [if_pos h, dw_nil l]; simp [h]
  ·rw [if_neg h]; simp [h]
theorem dw_head {p : UInt8 → Bool} : ∀ (l : List UInt8) (h : l.dropWhile p ≠ []), p ((l.dropWhile p).head h) = false
 | [], h => absurd rfl h
 | a :: l, h => by
  by_cases hp : p a = true
  ·have e : (a :: l).dropWhile p = l.dropWhile p := by rw [List.dropWhile_cons, if_pos hp]
   simp only [e] at h ⊢
   exact dw_head l h
  ·have e : (a :: l).dropWhile p = a :: l := by rw [List.dropWhile_cons, if_neg hp]
   simp only [e, List.head_cons]
   simpa using hp
theorem trimS_nil (l cs : List UInt8) : Lib.trimS l cs = [] ↔ ∀ x ∈ l, cs.contains x = true := by
 unfold Lib.trimS Lib.trimLeftS Lib.trimRightS
 rw [dw_nil]
 constructor
 ·intro h x hx
  by_cases hn : l.reverse.dropWhile (cs.contains ·) = []
  ·exact (dw_nil _).1 hn x (by simpa using hx)
  ·exfalso
   have h1 := dw_head (p := fun x => cs.contains x) l.reverse hn
   have h2 := h ((l.reverse.dropWhile (cs.contains ·)).head hn) (by simp)
   simp only [h2] at h1
   simp at h1
 ·intro h x hx
  have := List.dropWhile_sublist (cs.contains ·) (l := l.reverse) |>.subset (by simpa using hx)
  exact h x (by simpa using this)
theorem dig_iff (x : UInt8) : digits.data.toList.contains x = decide (48 ≤ x.toNat ∧ x.toNat ≤ 57) := by
 have : ∀ n : Fin 256, digits.data.toList.contains (UInt8.ofNat n.val) = decide (48 ≤ n.val ∧ n.val ≤ 57) := by decide +kernel
 have h := this ⟨x.toNat, x.toNat_lt⟩
 simpa using h
theorem trimB_nil (s : ByteArray) : ((trimB s).toList == (⟨#[]⟩ : ByteArray).toList) = (List.range s.size).all fun i => decide (48 ≤ byteAt s i ∧ byteAt s i ≤ 57) := by
 rw [Bool.eq_iff_iff]
 simp only [beq_iff_eq, List.all_eq_true, List.mem_range, decide_eq_true_eq]
 rw [ByteArray.toList_eq, ByteArray.toList_eq]
 have e0 : (⟨#[]⟩ : ByteArray).data.toList = [] := rfl
 rw [e0]
 unfold trimB
 simp only [List.toList_toArray]
 rw [trimS_nil]
 constructor
 ·intro h i hi
  have hi' : i < s.data.toList.length := by rw [← Lib.size_eq]; exact hi
  have := h s.data.toList[i] (List.getElem_mem hi')
  rw [dig_iff] at this
  have e : s[i]? = some s.data.toList[i] := by
   rw [getElem?_pos s i hi]; rfl
  simp only [byteAt, e, Option.getD_some]
  simpa using this
 ·intro h x hx
  obtain ⟨i, hi, rfl⟩ := List.getElem_of_mem hx
  have hi' : i < s.size := by rw [Lib.size_eq]; exact hi
  have := h i hi'
  have e : s[i]? = some s.data.toList[i] := by
   rw [getElem?_pos s i hi']; rfl
  simp only [byteAt, e, Option.getD_some] at this
  rw [dig_iff]
  simpa using this
theorem trim_ok {m : AM} (s : ByteArray) (hs : s.size ≤ 1000) : ACall Tryd.prog 61 #[.string s, .string digits] m (Ret (.string (trimB s)) m) := by
 intro base R w args' hbase hm hargs
 have h1 := hargs.1
 have h2 := hargs.2 0 (by simp)
 have h3 := hargs.2 1 (by simp)
 obtain ⟨x, y, rfl⟩ : ∃ x y, args' = #[x, y] := ⟨args'[0]'(by simp at h1; omega), args'[1]'(by simp at h1; omega), by
  apply Array.ext
  ·simp at h1; simp; omega
  ·intro j a b
   simp at b
   rcases (show j = 0 ∨ j = 1 by omega) with rfl | rfl <;> rfl⟩
 simp at h2 h3
 cases h2
 cases h3
 have key := Any.strings_Trim_laid trimD (by kernel_rfl) s digits w (by omega) (by decide) (ascii_of_all (by decide))
 refine key.mono ?_
 rintro e w' ⟨rfl, hb⟩
 exact ⟨_, _, R, _, rfl, .string _, post_below hm hb, rfl, rfl⟩
def Strs (m : AM) (v : Value) (B : Brd) : Prop := ∃ a o, Sl v a o B.length ∧ a < m.length ∧ ∀ y, y < B.length → Rd m a (o + y) (.string (rowOf B y))
theorem Strs.old {m : AM} {v : Value} {B : Brd} (h : Strs m v B) (L : AM) : Strs (m ++ L) v B := by
 obtain ⟨a, o, h1, h2, h3⟩ := h
 exact ⟨a, o, h1, by rw [List.length_append]; omega, fun y hy => (h3 y hy).old L⟩
theorem rowB_trim {n : Nat} {s : ByteArray} (hs : s.size = n) : rowB n s = ((trimB s).toList == (⟨#[]⟩ : ByteArray).toList) := by
 unfold rowB
 rw [trimB_nil]
 simp [hs]
theorem skinB_rows {B : Brd} (h : 1 ≤ B.length ∧ B.length ≤ 48 ∧ 1 ≤ (rowOf B 0).size ∧ (rowOf B 0).size ≤ 48) : skinB B = B.all (rowB (rowOf B 0).size) := by simp [skinB, h]
theorem all_rows {p : ByteArray → Bool} {B : Brd} (h : ∀ y, y < B.length → p (rowOf B y) = true) : B.all p = true := by
 rw [List.all_eq_true]
 intro x hx
 obtain ⟨i, hi, rfl⟩ := List.getElem_of_mem hx
 have := h i hi
 unfold rowOf at this
 rwa [getD_in _ _ hi] at this
theorem not_rows {p : ByteArray → Bool} {B : Brd} {y : Nat} (hy : y < B.length) (h : p (rowOf B y) = false) : B.all p = false := by
 rw [Bool.eq_false_iff]
 intro hc
 rw [List.all_eq_true] at hc
 have := hc (rowOf B y) (by unfold rowOf; rw [getD_in _ _ hy]; exact List.getElem_mem hy)
 rw [h] at this
 cases this
set_option maxRecDepth 100000 in
theorem Valid_ok {m : AM} {sv : Value} {B : Brd} (hs : Strs m sv B) : ACall Tryd.prog 28 #[sv] m (Ret (.bool (skinB B)) m) := by
 obtain ⟨A, O, sl, la, rd⟩ := hs
 refine ACall.start Tryd.func28 rfl rfl ?_
 by_cases h1 : B.length < 1
 ·have e : skinB B = false := by simp [skinB]; omega
  (repeat (first|(with_reducible refine AWo.cons ?_)|((with_reducible refine Step.id ?_);first|((with_reducible apply Step.gdF);exact rfl;exact rfl;((first|rfl|(simp only [zq1, zq2, zq3, zq4, zq5, zq6];first|assumption|omega))))|((with_reducible apply Step.move);exact rfl;exact rfl)|((with_reducible apply Step.assign);exact rfl;exact rfl)|((with_reducible apply Step.lss);exact rfl;exact rfl;exact rfl)|((with_reducible apply Step.len);exact rfl;((assumption));((decide +kernel));exact rfl)|((with_reducible apply Step.pickT);exact rfl;exact rfl;exact rfl;exact rfl;((first|rfl|(simp only [zq1, zq2, zq3, zq4, zq5, zq6];first|assumption|omega)))))|(with_reducible first|apply AWo.nil|apply AW.seq|apply Then.n|apply AW.regL)|((with_reducible apply AW.condT);exact rfl;((rfl)))))
  (refine AW.retD (l := [(2, _)]) (by repeat (first | exact trivial | (refine And.intro ⟨rfl, by (exact .bool _)⟩ ?_))) ?_; (repeat (first | refine Then.r ?_ | refine InBlk.r ?_)))
  exact ⟨_, rfl, by rw [e], rfl⟩
 by_cases h2 : 48 < B.length
 ·have e : skinB B = false := by simp [skinB]; omega
  (repeat (first|(with_reducible refine AWo.cons ?_)|((with_reducible refine Step.id ?_);first|((with_reducible apply Step.gdT);exact rfl;exact rfl;(((simp only [zq1, zq2, zq3, zq4, zq5, zq6];first|assumption|omega))))|((with_reducible apply Step.gdF);exact rfl;exact rfl;((first|rfl|(simp only [zq1, zq2, zq3, zq4, zq5, zq6];first|assumption|omega))))|((with_reducible apply Step.move);exact rfl;exact rfl)|((with_reducible apply Step.assign);exact rfl;exact rfl)|((with_reducible apply Step.lss);exact rfl;exact rfl;exact rfl)|((with_reducible apply Step.gtr);exact rfl;exact rfl;exact rfl)|((with_reducible apply Step.len);exact rfl;((assumption));((decide +kernel));exact rfl)|((with_reducible apply Step.pickT);exact rfl;exact rfl;exact rfl;exact rfl;((first|rfl|(simp only [zq1, zq2, zq3, zq4, zq5, zq6];first|assumption|omega))))|((with_reducible apply Step.pickF);exact rfl;exact rfl;exact rfl;exact rfl;(((simp only [zq1, zq2, zq3, zq4, zq5, zq6];first|assumption|omega)))))|(with_reducible first|apply AWo.nil|apply AW.seq|apply Then.n|apply AW.regL)|((with_reducible apply AW.condT);exact rfl;((rfl)))))
  (refine AW.retD (l := [(2, _)]) (by repeat (first | exact trivial | (refine And.intro ⟨rfl, by (exact .bool _)⟩ ?_))) ?_; (repeat (first | refine Then.r ?_ | refine InBlk.r ?_)))
  exact ⟨_, rfl, by rw [e], rfl⟩
 have r0 := rd 0 (by omega)
 by_cases h3 : (rowOf B 0).size < 1
 ·have e : skinB B = false := by simp [skinB]; omega
  (repeat (first|(with_reducible refine AWo.cons ?_)|((with_reducible refine Step.id ?_);first|((with_reducible apply Step.gdT);exact rfl;exact rfl;(((simp only [zq1, zq2, zq3, zq4, zq5, zq6];first|assumption|omega))))|((with_reducible apply Step.gdF);exact rfl;exact rfl;(((simp only [zq1, zq2, zq3, zq4, zq5, zq6];first|assumption|omega))))|((with_reducible apply Step.move);exact rfl;exact rfl)|((with_reducible apply Step.assign);exact rfl;exact rfl)|((with_reducible apply Step.load);exact rfl;((decide +kernel));exact rfl;((exact Rd.old _ (by assumption))))|((with_reducible apply Step.ix1 (k := 0));exact rfl;((assumption));exact rfl;((decide +kernel));exact rfl;((omega)))|((with_reducible apply Step.lenS);exact rfl;exact un9;exact rfl)|((with_reducible apply Step.lss);exact rfl;exact rfl;exact rfl)|((with_reducible apply Step.gtr);exact rfl;exact rfl;exact rfl)|((with_reducible apply Step.len);exact rfl;((assumption));((decide +kernel));exact rfl)|((with_reducible apply Step.pickT);exact rfl;exact rfl;exact rfl;exact rfl;(((simp only [zq1, zq2, zq3, zq4, zq5, zq6];first|assumption|omega))))|((with_reducible apply Step.pickF);exact rfl;exact rfl;exact rfl;exact rfl;(((simp only [zq1, zq2, zq3, zq4, zq5, zq6];first|assumption|omega)))))|(with_reducible first|apply AWo.nil|apply AW.seq|apply Then.n|apply AW.regL)|((with_reducible apply AW.condT);exact rfl;((rfl)))))
  (refine AW.retD (l := [(2, _)]) (by repeat (first | exact trivial | (refine And.intro ⟨rfl, by (exact .bool _)⟩ ?_))) ?_; (repeat (first | refine Then.r ?_ | refine InBlk.r ?_)))
  exact ⟨_, rfl, by rw [e], rfl⟩
 by_cases h4 : 48 < (rowOf B 0).size
 ·have e : skinB B = false := by simp [skinB]; omega
  (repeat (first|(with_reducible refine AWo.cons ?_)|((with_reducible refine Step.id ?_);first|((with_reducible apply Step.gdT);exact rfl;exact rfl;(((simp only [zq1, zq2, zq3, zq4, zq5, zq6];first|assumption|omega))))|((with_reducible apply Step.move);exact rfl;exact rfl)|((with_reducible apply Step.assign);exact rfl;exact rfl)|((with_reducible apply Step.load);exact rfl;((decide +kernel));exact rfl;((exact Rd.old _ (by assumption))))|((with_reducible apply Step.ix1 (k := 0));exact rfl;((assumption));exact rfl;((decide +kernel));exact rfl;((omega)))|((with_reducible apply Step.lenS);exact rfl;exact un9;exact rfl)|((with_reducible apply Step.lss);exact rfl;exact rfl;exact rfl)|((with_reducible apply Step.gtr);exact rfl;exact rfl;exact rfl)|((with_reducible apply Step.len);exact rfl;((assumption));((decide +kernel));exact rfl)|((with_reducible apply Step.pickF);exact rfl;exact rfl;exact rfl;exact rfl;(((simp only [zq1, zq2, zq3, zq4, zq5, zq6];first|assumption|omega)))))|(with_reducible first|apply AWo.nil|apply AW.seq|apply Then.n|apply AW.regL)|((with_reducible apply AW.condT);exact rfl;(((simp only [zq1, zq2, zq3, zq4, zq5, zq6];first|assumption|omega))))))
  (refine AW.retD (l := [(2, _)]) (by repeat (first | exact trivial | (refine And.intro ⟨rfl, by (exact .bool _)⟩ ?_))) ?_; (repeat (first | refine Then.r ?_ | refine InBlk.r ?_)))
  exact ⟨_, rfl, by rw [e], rfl⟩
 have hk := skinB_rows (B := B) (by omega)
 (repeat (first|(with_reducible refine AWo.cons ?_)|((with_reducible refine Step.id ?_);first|((with_reducible apply Step.gdT);exact rfl;exact rfl;(((simp only [zq1, zq2, zq3, zq4, zq5, zq6];first|assumption|omega))))|((with_reducible apply Step.move);exact rfl;exact rfl)|((with_reducible apply Step.assign);exact rfl;exact rfl)|((with_reducible apply Step.load);exact rfl;((decide +kernel));exact rfl;((exact Rd.old _ (by assumption))))|((with_reducible apply Step.ix1 (k := 0));exact rfl;((assumption));exact rfl;((decide +kernel));exact rfl;((omega)))|((with_reducible apply Step.lenS);exact rfl;exact un9;exact rfl)|((with_reducible apply Step.lss);exact rfl;exact rfl;exact rfl)|((with_reducible apply Step.gtr);exact rfl;exact rfl;exact rfl)|((with_reducible apply Step.len);exact rfl;((assumption));((decide +kernel));exact rfl)|((with_reducible apply Step.pickF);exact rfl;exact rfl;exact rfl;exact rfl;(((simp only [zq1, zq2, zq3, zq4, zq5, zq6];first|assumption|omega)))))|(with_reducible first|apply AWo.nil|apply AW.seq|apply Then.n|apply AW.regL|apply AW.block|apply AW.skip)|((with_reducible apply AW.condF);exact rfl;(((simp only [zq1, zq2, zq3, zq4, zq5, zq6];first|assumption|omega))))))
 refine AW.loopT (fun n t L => ∃ k : Nat, n = B.length - k ∧ k ≤ B.length ∧ L = [] ∧ (∀ y, y < k → rowB (rowOf B 0).size (rowOf B y) = true) ∧
  t = [(0, sv), (27, sv), (28, .int .i64 (B.length : Nat)), (29, .int .i64 (k : Nat))])
  ⟨_, _, _, (Or.inl ⟨rfl, (by repeat (first | exact trivial | (refine And.intro rfl ?_)))⟩), 0, rfl, Nat.zero_le _, rfl, fun y hy => by omega, rfl⟩ ?_
 rintro n t L ⟨k, rfl, hkk, rfl, hr, rfl⟩
 rcases Nat.lt_or_ge k B.length with hlt | hge
 ·have rk := rd k hlt
  by_cases h5 : (rowOf B k).size = (rowOf B 0).size
  ·have hb := rowB_trim h5
   cases h6 : rowB (rowOf B 0).size (rowOf B k) with
   | true =>
    rw [h6] at hb
    have hb' := hb.symm
    (repeat (first|(with_reducible refine AWo.cons ?_)|((with_reducible refine Step.id ?_);first|((with_reducible apply Step.gdT);exact rfl;exact rfl;(((simp only [zq1, zq2, zq3, zq4, zq5, zq6];first|assumption|omega))))|((with_reducible apply Step.move);exact rfl;exact rfl)|((with_reducible apply Step.assign);exact rfl;exact rfl)|((with_reducible apply Step.load);exact rfl;((decide +kernel));exact rfl;((exact Rd.old _ (by assumption))))|((with_reducible apply Step.ix1);exact rfl;((assumption));exact rfl;((decide +kernel));exact rfl;((omega)))|((with_reducible apply Step.ix1 (k := 0));exact rfl;((assumption));exact rfl;((decide +kernel));exact rfl;((omega)))|((with_reducible apply Step.lenS);exact rfl;exact un9;exact rfl)|((with_reducible apply Step.neqS);exact rfl;exact rfl;exact un9;exact rfl)|((with_reducible apply Step.add);exact rfl;exact rfl;((omega));exact rfl)|((with_reducible apply Step.lss);exact rfl;exact rfl;exact rfl)|((with_reducible apply Step.neq);exact rfl;exact rfl;exact rfl)|((with_reducible apply Step.pickF);exact rfl;exact rfl;exact rfl;exact rfl;(((simp only [zq1, zq2, zq3, zq4, zq5, zq6];first|assumption|omega))))|((with_reducible apply Step.callR fit);exact rfl;exact Tryd.func61;exact rfl;exact rfl;exact (trim_ok (rowOf B k) (by omega))))|(with_reducible first|apply AWo.nil|apply AW.seq|apply Then.n|apply AW.regL|apply AW.block|apply InBlk.n|apply AW.skip)|((with_reducible apply AW.condT);exact rfl;(((simp only [zq1, zq2, zq3, zq4, zq5, zq6];first|assumption|omega))))|((with_reducible apply AW.condF);exact rfl;(((simp only [zq1, zq2, zq3, zq4, zq5, zq6];first|assumption|omega))))))
    exact ⟨_, _, _, by omega, (Or.inl ⟨rfl, (by repeat (first | exact trivial | (refine And.intro rfl ?_)))⟩), k + 1, rfl, by omega, rfl, fun y hy => by
     rcases Nat.lt_succ_iff_lt_or_eq.1 hy with h | h
     ·exact hr y h
     ·rw [h]; exact h6, rfl⟩
   | false =>
    rw [h6] at hb
    have hb' := hb.symm
    (repeat (first|(with_reducible refine AWo.cons ?_)|((with_reducible refine Step.id ?_);first|((with_reducible apply Step.gdT);exact rfl;exact rfl;(((simp only [zq1, zq2, zq3, zq4, zq5, zq6];first|assumption|omega))))|((with_reducible apply Step.move);exact rfl;exact rfl)|((with_reducible apply Step.assign);exact rfl;exact rfl)|((with_reducible apply Step.load);exact rfl;((decide +kernel));exact rfl;((exact Rd.old _ (by assumption))))|((with_reducible apply Step.ix1);exact rfl;((assumption));exact rfl;((decide +kernel));exact rfl;((omega)))|((with_reducible apply Step.ix1 (k := 0));exact rfl;((assumption));exact rfl;((decide +kernel));exact rfl;((omega)))|((with_reducible apply Step.lenS);exact rfl;exact un9;exact rfl)|((with_reducible apply Step.neqS);exact rfl;exact rfl;exact un9;exact rfl)|((with_reducible apply Step.lss);exact rfl;exact rfl;exact rfl)|((with_reducible apply Step.neq);exact rfl;exact rfl;exact rfl)|((with_reducible apply Step.pickF);exact rfl;exact rfl;exact rfl;exact rfl;(((simp only [zq1, zq2, zq3, zq4, zq5, zq6];first|assumption|omega))))|((with_reducible apply Step.callR fit);exact rfl;exact Tryd.func61;exact rfl;exact rfl;exact (trim_ok (rowOf B k) (by omega))))|(with_reducible first|apply AWo.nil|apply AW.seq|apply Then.n|apply AW.regL|apply AW.block|apply AW.skip)|((with_reducible apply AW.condT);exact rfl;(((simp only [zq1, zq2, zq3, zq4, zq5, zq6];first|assumption|omega))))))
    (refine AW.retD (l := [(2, _)]) (by repeat (first | exact trivial | (refine And.intro ⟨rfl, by (exact .bool _)⟩ ?_))) ?_; (repeat (first | refine Then.r ?_ | refine InBlk.r ?_)))
    exact ⟨_, rfl, by rw [hk, not_rows hlt h6], rfl⟩
  ·(repeat (first|(with_reducible refine AWo.cons ?_)|((with_reducible refine Step.id ?_);first|((with_reducible apply Step.gdF);exact rfl;exact rfl;(((simp only [zq1, zq2, zq3, zq4, zq5, zq6];first|assumption|omega))))|((with_reducible apply Step.move);exact rfl;exact rfl)|((with_reducible apply Step.assign);exact rfl;exact rfl)|((with_reducible apply Step.load);exact rfl;((decide +kernel));exact rfl;((exact Rd.old _ (by assumption))))|((with_reducible apply Step.ix1);exact rfl;((assumption));exact rfl;((decide +kernel));exact rfl;((omega)))|((with_reducible apply Step.ix1 (k := 0));exact rfl;((assumption));exact rfl;((decide +kernel));exact rfl;((omega)))|((with_reducible apply Step.lenS);exact rfl;exact un9;exact rfl)|((with_reducible apply Step.lss);exact rfl;exact rfl;exact rfl)|((with_reducible apply Step.neq);exact rfl;exact rfl;exact rfl)|((with_reducible apply Step.pickT);exact rfl;exact rfl;exact rfl;exact rfl;(((simp only [zq1, zq2, zq3, zq4, zq5, zq6];first|assumption|omega)))))|(with_reducible first|apply AWo.nil|apply AW.seq|apply Then.n|apply AW.regL|apply AW.block|apply AW.skip)|((with_reducible apply AW.condT);exact rfl;((first|rfl|(simp only [zq1, zq2, zq3, zq4, zq5, zq6];first|assumption|omega))))))
   (refine AW.retD (l := [(2, _)]) (by repeat (first | exact trivial | (refine And.intro ⟨rfl, by (exact .bool _)⟩ ?_))) ?_; (repeat (first | refine Then.r ?_ | refine InBlk.r ?_)))
   exact ⟨_, rfl, by rw [hk, not_rows hlt (by simp [rowB, h5])], rfl⟩
 ·obtain rfl : k = B.length := by omega
  (repeat (first|(with_reducible refine AWo.cons ?_)|((with_reducible refine Step.id ?_);first|((with_reducible apply Step.assign);exact rfl;exact rfl)|((with_reducible apply Step.lss);exact rfl;exact rfl;exact rfl))|(with_reducible first|apply AWo.nil|apply AW.seq|apply Then.n|apply AW.regL|apply AW.exit|apply InBlk.hit|apply Then.e)|((with_reducible apply AW.condF);exact rfl;(((simp only [zq1, zq2, zq3, zq4, zq5, zq6];first|assumption|omega))))))
  (refine AW.retD (l := [(2, _)]) (by repeat (first | exact trivial | (refine And.intro ⟨rfl, by (exact .bool _)⟩ ?_))) ?_; (repeat (first | refine Then.r ?_ | refine InBlk.r ?_)))
  exact ⟨_, rfl, by rw [hk, all_rows hr], rfl⟩
end Go.Proofs.YtedbjmgchfgabaaDoor.Abs
namespace Go.Proofs.YtedbjmgchfgabaaDoor.Abs
set_option linter.unusedSimpArgs false
set_option linter.unusedVariables false
open Go.RowKit
open Go.Proofs.YtedbjmgchfgabaaDoor.Sim
section
variable {P : Program} {nt : Nat} {ops : Array Oper} {t : Fm} {m : AM} {K : Fm → AM → Prop} {d T : Nat} {p : String} {af : Array Edge}
theorem Step.appOG {x y : Operand} {X Y e e' : TypeId} {by_ : Nat} {z : Array Value} {s r n : Nat} {c : List Value} {new : Value} (hx : evo t x = some (.slice (some ⟨s, 0, none⟩) n n)) (hy : evo t y = some (.slice (some ⟨r, 0, none⟩) 1 1)) (hE : elemB P X = some (e, 1, by_, z)) (hY : P.underlying Y = some (.slice e'))
  (hq : m[s]? = some (some { cells := c })) (hc : c.length = n) (hr : m[r]? = some (some { cells := [new] })) (hn1 : new.oneCell' = true) (hb : (n + 1) * by_ ≤ 1099511627776 ∧ n + 1 ≤ 1099511627776) (hlt : Nat.blt d nt = true)
  (hK : K (put t d (.slice (some ⟨m.length, 0, none⟩) (n + 1) (n + 1))) (m ++ [some { cells := c ++ [new], kind := .grow, size := 1 }])) :
  Step P nt ops ⟨some d, .call ⟨.builtin .append, #[x, y], #[X, Y]⟩, T, p, af, none⟩ t m K := by
 have := Step.appO (P := P) (nt := nt) (ops := ops) (T := T) (p := p) (af := af) (M := []) (L := m) (k := m.length) (q := s) (r := r) (K := K) rfl (by simpa using hx) (by simpa using hy) hE hY hq hc hr hn1 hb hlt rfl (by simpa using hK)
 simpa using this
end
theorem aload_cell {P : Program} {m : AM} {i n : Nat} {ty : TypeId} {c : List Value} (hg : aggB P ty = some true) (hn : szB P ty = some n) (h1 : RdL m i 0 c) (h3 : c.length = n) (hn1 : Nat.blt 0 n = true) : aload P m ty (.pointer (some ⟨i, 0, none⟩)) = some (.agg c.toArray) := by
 obtain ⟨b, k1, k2⟩ := h1
 simp at hn1
 have hlast := k2 (n - 1) c[n - 1] (List.getElem?_eq_getElem (by omega))
 have hlen := (List.getElem?_eq_some_iff.1 hlast).1
 have hc : (b.cells.drop 0).take n = c := by
  apply List.ext_getElem?
  intro j
  by_cases hj : j < n
  ·rw [List.getElem?_take, if_pos hj, List.getElem?_drop, k2 j c[j] (List.getElem?_eq_getElem (by omega)), List.getElem?_eq_getElem (by omega)]
  ·rw [List.getElem?_take, if_neg hj, List.getElem?_eq_none (by omega)]
 have h0 : 0 + n ≤ b.cells.length := by omega
 simp only [aload, k1, hg, hn]; rw [if_pos h0, hc]
theorem ares_cell2 {P : Program} {fn : Func} {t : Fm} {m : AM} {a1 a2 i1 i2 : Nat} {n1 n2 : Nat} {t1 t2 : TypeId} {c1 c2 : List Value} (hr : fn.results = #[.cell a1 t1, .cell a2 t2]) (e1 : t a1 = some (.pointer (some ⟨i1, 0, none⟩))) (e2 : t a2 = some (.pointer (some ⟨i2, 0, none⟩)))
  (g1 : aggB P t1 = some true) (s1 : szB P t1 = some n1) (l1 : RdL m i1 0 c1) (k1 : c1.length = n1) (p1 : Nat.blt 0 n1 = true)
  (g2 : aggB P t2 = some true) (s2 : szB P t2 = some n2) (l2 : RdL m i2 0 c2) (k2 : c2.length = n2) (p2 : Nat.blt 0 n2 = true) :
  ares P fn t m = some (.tuple #[.agg c1.toArray, .agg c2.toArray]) := by
 have hL : aresL P t m fn.results.toList = some [.agg c1.toArray, .agg c2.toArray] := by rw [hr]; simp only [aresL, ares1, e1, e2, aload_cell g1 s1 l1 k1 p1, aload_cell g2 s2 l2 k2 p2]
 unfold ares
 rw [hL]
theorem set_high {m0 N : AM} {a : Nat} (h : m0.length ≤ a) (x : Option Blk) : ∃ N', (m0 ++ N).set a x = m0 ++ N' := ⟨N.set (a - m0.length) x, by rw [List.set_append_right _ _ h]⟩
open Go.Proofs
theorem un5 : Tryd.prog.underlying 5 = some (.int .u8) := by kernel_rfl
theorem un3 : Tryd.prog.underlying 3 = some (.int .i64) := by kernel_rfl
theorem el47 : elemB Tryd.prog 59 = some (3, 1, 8, #[.int .i64 0]) := by kernel_rfl
theorem el122 : elemB Tryd.prog 163 = some (59, 1, 24, #[.slice none 0 0]) := by kernel_rfl
theorem bs122 {m : AM} {k n c : Nat} {q : Option Addr} : abuildSlice Tryd.prog m k 163 1 [(0, .slice q n c)] = some (.slice (some ⟨k, 0, none⟩) 1 1, m.set k (some { cells := [.slice q n c] })) := by kernel_rfl
theorem bl160 {w h : Int} {n c : Nat} {q : Option Addr} : abuild Tryd.prog 165 [(0, .int .i64 w), (1, .int .i64 h), (2, .slice q n c)] = some (.agg #[.int .i64 w, .int .i64 h, .slice q n c]) := by kernel_rfl
set_option maxRecDepth 100000 in
theorem least_ok {m : AM} {g : Int} (h : 1 ≤ g ∧ g ≤ 9) : ACall Tryd.prog 38 #[.int .i64 g] m (Ret (.bool true) m) := by
 refine ACall.start Tryd.func38 rfl rfl ?_
 (repeat (first|(with_reducible refine AWo.cons ?_)|((with_reducible refine Step.id ?_);first|((with_reducible apply Step.gdT);exact rfl;exact rfl;(((simp only [zq1, zq2, zq3, zq4, zq5, zq6];first|assumption|omega))))|((with_reducible apply Step.move);exact rfl;exact rfl)|((with_reducible apply Step.assign);exact rfl;exact rfl)|((with_reducible apply Step.leq);exact rfl;exact rfl;exact rfl)|((with_reducible apply Step.geq);exact rfl;exact rfl;exact rfl)|((with_reducible apply Step.pickT);exact rfl;exact rfl;exact rfl;exact rfl;(((simp only [zq1, zq2, zq3, zq4, zq5, zq6];first|assumption|omega)))))|(with_reducible first|apply AWo.nil|apply AW.seq|apply Then.n|apply AW.regL)))
 (refine AW.retD (l := [(2, _)]) (by repeat (first | exact trivial | (refine And.intro ⟨rfl, by (exact .bool _)⟩ ?_))) ?_; (repeat (first | refine Then.r ?_ | refine InBlk.r ?_)))
 exact ⟨_, rfl, by congr 1; simp [h], rfl⟩
set_option maxRecDepth 100000 in
theorem grade_ok {m : AM} {sv : Value} {B : Brd} (hs : Strs m sv B) (hv : skinB B = true) {x y : Nat} (hy : y < bh B) (hx : x < bw B) :
  ACall Tryd.prog 40 #[sv, .int .i64 (x : Nat), .int .i64 (y : Nat)] m (Ret (.int .i64 (gr B x y)) m) := by
 obtain ⟨A, O, sl, la, rd⟩ := hs
 obtain ⟨z1, z2⟩ := skin_row hv hy
 have z3 := z2 x hx
 have rk := rd y hy
 unfold bh at hy
 refine ACall.start Tryd.func40 rfl rfl ?_
 (repeat (first|(with_reducible refine AWo.cons ?_)|((with_reducible refine Step.id ?_);first|((with_reducible apply Step.gdT);exact rfl;exact rfl;((first|rfl|(simp only [zq1, zq2, zq3, zq4, zq5, zq6];first|assumption|omega))))|((with_reducible apply Step.move);exact rfl;exact rfl)|((with_reducible apply Step.assign);exact rfl;exact rfl)|((with_reducible apply Step.load);exact rfl;((decide +kernel));exact rfl;((exact Rd.old _ (by assumption))))|((with_reducible apply Step.ix1);exact rfl;((assumption));exact rfl;((decide +kernel));exact rfl;((omega)))|((with_reducible apply Step.strIx);exact rfl;exact rfl;exact un9;((omega));exact rfl)|((with_reducible apply Step.lenS);exact rfl;exact un9;exact rfl)|((with_reducible apply Step.subU);exact rfl;exact rfl;((omega));exact rfl)|((with_reducible apply Step.u8I);exact rfl;exact un5;exact un3;((omega));exact rfl)|((with_reducible apply Step.lss);exact rfl;exact rfl;exact rfl)|((with_reducible apply Step.geq);exact rfl;exact rfl;exact rfl)|((with_reducible apply Step.len);exact rfl;((assumption));((decide +kernel));exact rfl)|((with_reducible apply Step.pickF);exact rfl;exact rfl;exact rfl;exact rfl;((first|rfl|(simp only [zq1, zq2, zq3, zq4, zq5, zq6];first|assumption|omega)))))|(with_reducible first|apply AWo.nil|apply AW.seq|apply Then.n|apply AW.regL|apply AW.skip)|((with_reducible apply AW.condF);exact rfl;(((simp only [zq1, zq2, zq3, zq4, zq5, zq6];first|assumption|omega))))))
 (refine AW.retD (l := [(6, _)]) (by repeat (first | exact trivial | (refine And.intro ⟨rfl, by (exact .int _ _)⟩ ?_))) ?_; (repeat (first | refine Then.r ?_ | refine InBlk.r ?_)))
 exact ⟨_, rfl, rfl, rfl⟩
def tabRow (B : Brd) (g : Int) (y : Nat) : List Int := (List.range (bw B + 1)).map fun x => (cnt B g 0 0 x y : Int)
def TabAt (m : AM) (tp : Nat) (B : Brd) (g : Int) : Prop := Rd m tp 0 (.int .i64 (bw B : Nat)) ∧ Rd m tp 1 (.int .i64 (bh B : Nat)) ∧ ∃ S, Rd m tp 2 (.slice (some ⟨S, 0, none⟩) (bh B + 1) (bh B + 1)) ∧
 ∀ y, y ≤ bh B → ∃ R, Rd m S y (.slice (some ⟨R, 0, none⟩) (bw B + 1) (bw B + 1)) ∧ ∀ x, x ≤ bw B → Rd m R x (.int .i64 (cnt B g 0 0 x y : Nat))
theorem TabAt.old {m : AM} {tp : Nat} {B : Brd} {g : Int} (h : TabAt m tp B g) (L : AM) : TabAt (m ++ L) tp B g := by
 obtain ⟨h1, h2, S, h3, h4⟩ := h
 refine ⟨h1.old L, h2.old L, S, h3.old L, fun y hy => ?_⟩
 obtain ⟨R, h5, h6⟩ := h4 y hy
 exact ⟨R, h5.old L, fun x hx => (h6 x hx).old L⟩
structure TabP (m0 m : AM) (tp S : Nat) (B : Brd) (g : Int) (y : Nat) : Prop where
 low : ∃ N, m = m0 ++ N
 tl : m0.length ≤ tp
 sl : m0.length ≤ S
 ne : S ≠ tp
 tb : m[tp]? = some (some { cells := [.int .i64 (bw B : Nat), .int .i64 (bh B : Nat), .slice (some ⟨S, 0, none⟩) (y + 1) (y + 1)] })
 sb : ∃ cs : List Value, cs.length = y + 1 ∧ (m[S]? = some (some { cells := cs }) ∨ m[S]? = some (some { cells := cs, kind := .grow, size := 1 })) ∧
  ∀ j, j ≤ y → ∃ R, R ≠ tp ∧ R ≠ S ∧ m0.length ≤ R ∧ cs[j]? = some (.slice (some ⟨R, 0, none⟩) (bw B + 1) (bw B + 1)) ∧ m[R]? = some (some { cells := iv (tabRow B g j) })
def rowP (B : Brd) (g : Int) (y k : Nat) : List Int := (List.range (bw B + 1)).map fun x => if x ≤ k then (cnt B g 0 0 x (y + 1) : Int) else 0
theorem cnt_zero (B : Brd) (g : Int) (x y : Nat) : ∀ k, cnt B g x y 0 k = 0
 | 0 => rfl
 | k + 1 => by simp only [cnt, rowc, cnt_zero B g x y k]
theorem rowP_zero (B : Brd) (g : Int) (y : Nat) : rowP B g y 0 = List.replicate (bw B + 1) 0 := by
 unfold rowP
 rw [List.eq_replicate_iff]
 refine ⟨by simp, fun b hb => ?_⟩
 simp only [List.mem_map, List.mem_range] at hb
 obtain ⟨x, _, rfl⟩ := hb
 split
 ·rename_i h
  obtain rfl : x = 0 := by omega
  rw [cnt_zero]; rfl
 ·rfl
theorem rowP_full (B : Brd) (g : Int) (y : Nat) : rowP B g y (bw B) = tabRow B g (y + 1) := by
 unfold rowP tabRow
 apply List.map_congr_left
 intro x hx
 rw [if_pos (by have := List.mem_range.1 hx; omega)]
theorem rowP_set (B : Brd) (g : Int) (y k : Nat) {z : Int} (hz : z = (cnt B g 0 0 (k + 1) (y + 1) : Int)) : (rowP B g y k).set (k + 1) z = rowP B g y (k + 1) := by
 apply List.ext_getElem?
 intro x
 unfold rowP
 by_cases hx : x < bw B + 1
 ·by_cases e : k + 1 = x
  ·subst e; simp [hx, hz]
  ·rw [List.getElem?_set_ne e]
   simp only [List.getElem?_map, List.getElem?_range hx, Option.map_some]
   by_cases h : x ≤ k
   ·rw [if_pos h, if_pos (by omega)]
   ·rw [if_neg h, if_neg (by omega)]
 ·rw [List.getElem?_eq_none (by simp; omega), List.getElem?_eq_none (by simp; omega)]
theorem tabRow_zero (B : Brd) (g : Int) : tabRow B g 0 = List.replicate (bw B + 1) 0 := by
 unfold tabRow
 rw [List.eq_replicate_iff]
 refine ⟨by simp, fun b hb => ?_⟩
 simp only [List.mem_map, List.mem_range] at hb
 obtain ⟨x, _, rfl⟩ := hb
 rfl
theorem rd_iv {m : AM} {R k : Nat} {l : List Int} {b : Blk} (h : m[R]? = some (some b)) (hb : b.cells = iv l) (hk : k < l.length) : Rd m R k (.int .i64 (l.getD k 0)) := ⟨b, h, by rw [hb]; exact iv_get hk⟩
theorem tabRow_rd {m : AM} {R : Nat} {B : Brd} {g : Int} {y x : Nat} (h : m[R]? = some (some { cells := iv (tabRow B g y) })) (hx : x ≤ bw B) : Rd m R x (.int .i64 (cnt B g 0 0 x y : Nat)) := by
 have := rd_iv h rfl (k := x) (by simp [tabRow]; omega)
 have e : (tabRow B g y).getD x 0 = (cnt B g 0 0 x y : Int) := by
  unfold tabRow
  simp [List.getD_eq_getElem?_getD, show x < bw B + 1 by omega]
 rwa [e] at this
theorem TabP.done {m0 m : AM} {tp S : Nat} {B : Brd} {g : Int} (h : TabP m0 m tp S B g (bh B)) : TabAt m tp B g := by
 obtain ⟨cs, h1, h2, h3⟩ := h.sb
 refine ⟨⟨_, h.tb, rfl⟩, ⟨_, h.tb, rfl⟩, S, ⟨_, h.tb, rfl⟩, fun y hy => ?_⟩
 obtain ⟨R, _, _, _, h4, h5⟩ := h3 y hy
 refine ⟨R, ?_, fun x hx => tabRow_rd h5 hx⟩
 rcases h2 with h2 | h2 <;> exact ⟨_, h2, h4⟩
theorem cnt_cell {B : Brd} {g : Int} (y k : Nat) : (cnt B g 0 0 (k + 1) (y + 1) : Int) = (cnt B g 0 0 (k + 1) y : Int) + (rowc B g y 0 (k + 1) : Int) := by
 have : cnt B g 0 0 (k + 1) (y + 1) = cnt B g 0 0 (k + 1) y + rowc B g (0 + y) 0 (k + 1) := rfl
 rw [Nat.zero_add] at this
 omega
@[simp] theorem rowP_len (B : Brd) (g : Int) (y k : Nat) : (rowP B g y k).length = bw B + 1 := by simp [rowP]
theorem TabP.next {m M' X : AM} {tp S S' : Nat} {B : Brd} {g : Int} {y : Nat} (h : TabP m M' tp S B g y) {cs : List Value} (hl : cs.length = y + 1) (hc : ∀ j, j ≤ y → ∃ R, R ≠ tp ∧ R ≠ S ∧ m.length ≤ R ∧ cs[j]? = some (.slice (some ⟨R, 0, none⟩) (bw B + 1) (bw B + 1)) ∧ M'[R]? = some (some { cells := iv (tabRow B g j) }))
  (h1 : ∀ i, i < M'.length → i ≠ S → X[i]? = M'[i]?) (h2 : X[M'.length]? = some (some { cells := iv (tabRow B g (y + 1)) })) (h3 : X[S']? = some (some { cells := cs ++ [.slice (some ⟨M'.length, 0, none⟩) (bw B + 1) (bw B + 1)], kind := .grow, size := 1 })) (h4 : M'.length < S') (h5 : ∃ N, X = m ++ N) :
  TabP m (X.set tp (some { cells := [.int .i64 (bw B : Nat), .int .i64 (bh B : Nat), .slice (some ⟨S', 0, none⟩) (y + 1 + 1) (y + 1 + 1)] })) tp S' B g (y + 1) := by
 have htp : tp < M'.length := (List.getElem?_eq_some_iff.1 h.tb).1
 obtain ⟨N0, hN0⟩ := h.low
 have hlm : m.length ≤ M'.length := by rw [hN0]; simp
 have htx : tp < X.length := by
  have := (List.getElem?_eq_some_iff.1 h3).1
  omega
 obtain ⟨N, hN⟩ := h5
 refine ⟨?_, h.tl, by omega, by omega, by rw [List.getElem?_set_self htx], cs ++ [.slice (some ⟨M'.length, 0, none⟩) (bw B + 1) (bw B + 1)], by rw [List.length_append, hl]; rfl, .inr (by rw [List.getElem?_set_ne (by omega)]; exact h3), fun j hj => ?_⟩
 ·rw [hN]; exact set_high h.tl _
 ·rcases Nat.lt_or_ge j (y + 1) with hlt | hge
  ·obtain ⟨R, r1, r2, r3, r4, r5⟩ := hc j (by omega)
   have hR := (List.getElem?_eq_some_iff.1 r5).1
   refine ⟨R, r1, by omega, r3, by rw [List.getElem?_append_left (by omega)]; exact r4, ?_⟩
   rw [List.getElem?_set_ne (fun e => r1 e.symm), h1 R hR r2]
   exact r5
  ·obtain rfl : j = y + 1 := by omega
   refine ⟨M'.length, by omega, by omega, hlm, by rw [List.getElem?_append_right (by omega), hl, Nat.sub_self]; rfl, ?_⟩
   rw [List.getElem?_set_ne (by omega)]
   exact h2
set_option maxHeartbeats 2000000 in
set_option maxRecDepth 100000 in
theorem NewTable_ok {m : AM} {sv : Value} {B : Brd} {g : Int} (hs : Strs m sv B) (hv : skinB B = true) (hg : 1 ≤ g ∧ g ≤ 9) :
  ACall Tryd.prog 63 #[sv, .int .i64 g] m (More (fun m' v => ∃ tp, m.length ≤ tp ∧ v = .tuple #[.pointer (some ⟨tp, 0, none⟩), .int .i64 0] ∧ TabAt m' tp B g) m) := by
 have hV := fun T => Valid_ok (hs.old T)
 rw [hv] at hV
 obtain ⟨A, O, sl, la, rd⟩ := id hs
 have hvv := hv
 simp only [skinB, Bool.and_eq_true, decide_eq_true_eq] at hvv
 have r0 := rd 0 (by omega)
 refine ACall.start Tryd.func63 rfl rfl ?_
 (repeat (first|(with_reducible refine AWo.cons ?_)|((with_reducible refine Step.id ?_);first|((with_reducible apply Step.gdT);exact rfl;exact rfl;((rfl)))|((with_reducible apply Step.move);exact rfl;exact rfl)|((with_reducible apply Step.assign);exact rfl;exact rfl)|((with_reducible apply Step.not);exact rfl;exact rfl)|((with_reducible apply Step.pickF);exact rfl;exact rfl;exact rfl;exact rfl;((rfl)))|((with_reducible apply Step.callR fit);exact rfl;exact Tryd.func28;exact rfl;exact rfl;exact (hV _))|((with_reducible apply Step.callR fit);exact rfl;exact Tryd.func38;exact rfl;exact rfl;exact (least_ok hg)))|(with_reducible apply AWo.nil)|((fail_if_success (with_reducible refine AW.atR (id := 3) ?_));(with_reducible apply AW.seq))|(with_reducible first|apply Then.n|apply AW.regL|apply AW.skip)|((with_reducible apply AW.condF);exact rfl;((rfl)))))
 have e1 : ((rowOf B 0).size : Int) + 1 = (((rowOf B 0).size + 1 : Nat) : Int) := by omega
 refine AW.joinS [(0, sv), (1, .int .i64 g), (6, .pointer (some ⟨m.length + 2, 0, none⟩))] (m ++ [some { cells := iv (List.replicate ((rowOf B 0).size + 1) 0) }, some { cells := [.slice (some ⟨m.length + 0, 0, none⟩) ((rowOf B 0).size + 1) ((rowOf B 0).size + 1)] }, some { cells := [.int .i64 ((rowOf B 0).size : Nat), .int .i64 (B.length : Nat), .slice (some ⟨m.length + 1, 0, none⟩) 1 1] }]) ?_ ?_
 ·(repeat' (first|((with_reducible refine Step.id ?_);first|((with_reducible apply Step.move);exact rfl;exact rfl)|((with_reducible apply Step.assign);exact rfl;exact rfl)|((with_reducible apply Step.load);exact rfl;((decide +kernel));exact rfl;((exact Rd.old _ (by assumption))))|((with_reducible apply Step.ix1 (k := 0));exact rfl;((assumption));exact rfl;((decide +kernel));exact rfl;((omega)))|((with_reducible apply Step.addE);exact rfl;exact rfl;((assumption));((omega));exact rfl)|((with_reducible apply Step.lenS);exact rfl;exact un9;exact rfl)|((with_reducible apply Step.len);exact rfl;((assumption));((decide +kernel));exact rfl)|((with_reducible apply Step.make1 0);exact rfl;exact rfl;exact rfl;exact el47;((omega));exact rfl;((first|(simp only [zq7, zq8, zq9, zq0, iv_set, bv_set, iv_rep, bv_rep] <;> rfl)|rfl)))|((with_reducible apply Step.buildS 1);exact rfl;exact rfl;exact (fun _ _ => bs122);exact rfl;((first|(simp only [zq7, zq8, zq9, zq0, iv_set, bv_set, iv_rep, bv_rep] <;> rfl)|rfl)))|((with_reducible apply Step.box 2);exact rfl;exact rfl;((kernel_rfl));exact rfl;((first|(simp only [zq7, zq8, zq9, zq0, iv_set, bv_set, iv_rep, bv_rep] <;> rfl)|rfl)))|((with_reducible apply Step.build);exact rfl;exact bl160;exact rfl))|(with_reducible apply Then.n)|((with_reducible apply AW.drawT fit (T := (.step 0 (.step 1 (.step 4 (.step 5 (.step 6 (.step 7 (.step 8 (.step 9 (.step 10 (.both (.step 2 (.step 3 (.step 11 (.step 12 (.step 13 (.step 14 (.step 15 .done))))))) (.step 11 (.both (.step 2 (.step 3 (.step 12 (.step 13 (.step 14 (.step 15 .done)))))) (.step 12 (.step 2 (.step 3 (.step 13 (.step 14 (.step 15 .done))))))))))))))))))));((decide +kernel)))|((with_reducible apply AWt.step);exact rfl)|(with_reducible apply AWt.done)|refine AWt.both ?_ ?_))
  all_goals exact ⟨rfl, (by repeat (first | exact trivial | (refine And.intro rfl ?_)))⟩
 have hP : TabP m (m ++ [some { cells := iv (tabRow B g 0) }, some { cells := [.slice (some ⟨m.length + 0, 0, none⟩) (bw B + 1) (bw B + 1)] }, some { cells := [.int .i64 (bw B : Nat), .int .i64 (bh B : Nat), .slice (some ⟨m.length + 1, 0, none⟩) 1 1] }]) (m.length + 2) (m.length + 1) B g 0 := by
  refine ⟨⟨_, rfl⟩, by omega, by omega, by omega, by rw [get_app]; rfl, _, rfl, .inl (by rw [get_app]; rfl), fun j hj => ?_⟩
  obtain rfl : j = 0 := by omega
  exact ⟨m.length + 0, by omega, by omega, by omega, rfl, by rw [get_app]; rfl⟩
 rw [tabRow_zero] at hP
 change TabP m (m ++ [some { cells := iv (List.replicate ((rowOf B 0).size + 1) 0) }, some { cells := [.slice (some ⟨m.length + 0, 0, none⟩) ((rowOf B 0).size + 1) ((rowOf B 0).size + 1)] }, some { cells := [.int .i64 ((rowOf B 0).size : Nat), .int .i64 (B.length : Nat), .slice (some ⟨m.length + 1, 0, none⟩) 1 1] }]) _ _ B g 0 at hP
 generalize (m ++ _ : AM) = M at hP ⊢
 generalize m.length + 2 = tp at hP ⊢
 generalize m.length + 1 = S0 at hP
 have tb := hP.tb
 have t1 : Rd M tp 1 (.int .i64 (bh B : Nat)) := ⟨_, tb, rfl⟩
 (repeat (first|(with_reducible refine AWo.cons ?_)|((with_reducible refine Step.id ?_);first|((with_reducible apply Step.move);exact rfl;exact rfl)|((with_reducible apply Step.load);exact rfl;((decide +kernel));exact rfl;((assumption)))|((with_reducible apply Step.field (k := 1));exact rfl;((decide +kernel));exact rfl)|((with_reducible apply Step.nilp);exact rfl;exact rfl))|(with_reducible first|apply AWo.nil|apply AW.seq|apply Then.n|apply AW.regL|apply AW.block)))
 clear t1 tb
 refine AW.loopW (fun n t M' => ∃ (y S : Nat), n = bh B - y ∧ y ≤ bh B ∧ TabP m M' tp S B g y ∧ t = fr [(0, sv), (1, .int .i64 g), (6, .pointer (some ⟨tp, 0, none⟩)), (37, .int .i64 (bh B : Nat)), (38, .int .i64 (y : Nat))])
  ⟨_, _, (by repeat (first | exact trivial | (refine And.intro rfl ?_))), 0, S0, rfl, Nat.zero_le _, hP, rfl⟩ ?_
 clear hP
 rintro n t M' ⟨y, S, rfl, hy, hP, rfl⟩
 have tb := hP.tb
 have t0 : Rd M' tp 0 (.int .i64 (bw B : Nat)) := ⟨_, tb, rfl⟩
 have t1 : Rd M' tp 1 (.int .i64 (bh B : Nat)) := ⟨_, tb, rfl⟩
 have t2 : Rd M' tp 2 (.slice (some ⟨S, 0, none⟩) (y + 1) (y + 1)) := ⟨_, tb, rfl⟩
 rcases Nat.lt_or_ge y (bh B) with hlt | hge
 ·refine AW.rebase ?_
  have hsM : Strs M' sv B := by obtain ⟨N, hN⟩ := hP.low; rw [hN]; exact hs.old N
  have e2 : (bw B : Int) + 1 = ((bw B + 1 : Nat) : Int) := by omega
  have hbw : bw B ≤ 48 := by unfold bw; omega
  have hbh : bh B ≤ 48 := by unfold bh; omega
  (repeat (first|(with_reducible refine AWo.cons ?_)|((with_reducible refine Step.id ?_);first|((with_reducible apply Step.move);exact rfl;exact rfl)|((with_reducible apply Step.assign);exact rfl;exact rfl)|((with_reducible apply Step.load);exact rfl;((decide +kernel));exact rfl;((exact Rd.old _ (by assumption))))|((with_reducible apply Step.field0);exact rfl;((decide +kernel));exact rfl)|((with_reducible apply Step.addE);exact rfl;exact rfl;((assumption));((omega));exact rfl)|((with_reducible apply Step.lss);exact rfl;exact rfl;exact rfl)|((with_reducible apply Step.nilp);exact rfl;exact rfl)|((with_reducible apply Step.make1 0);exact rfl;exact rfl;exact rfl;exact el47;((omega));exact rfl;((first|(simp only [zq7, zq8, zq9, zq0, iv_set, bv_set, iv_rep, bv_rep] <;> rfl)|rfl))))|(with_reducible first|apply AWo.nil|apply AW.seq|apply Then.n|apply AW.regL|apply AW.block|apply AW.skip)|((with_reducible apply AW.condT);exact rfl;(((simp only [zq1, zq2, zq3, zq4, zq5, zq6];first|assumption|omega))))))
  rw [← rowP_zero B g y]
  refine AW.loopT (fun n t L => ∃ x : Nat, n = bw B - x ∧ x ≤ bw B ∧ L = [some { cells := iv (rowP B g y x) }] ∧
   t = [(0, sv), (1, .int .i64 g), (6, .pointer (some ⟨tp, 0, none⟩)), (7, .int .i64 (y : Nat)), (8, .slice (some ⟨M'.length + 0, 0, none⟩) (bw B + 1) (bw B + 1)), (9, .int .i64 (rowc B g y 0 x : Nat)), (37, .int .i64 (bh B : Nat)), (38, .int .i64 (y : Nat)), (50, .int .i64 (bw B : Nat)), (51, .int .i64 (x : Nat))])
   ⟨_, _, _, (Or.inl ⟨rfl, (by repeat (first | exact trivial | (refine And.intro rfl ?_)))⟩), 0, rfl, Nat.zero_le _, rfl, rfl⟩ ?_
  rintro n t L ⟨x, rfl, hx, rfl, rfl⟩
  obtain ⟨cs, hcl, hcs, hrow⟩ := hP.sb
  obtain ⟨R, r1, r2, r3, r4, r5⟩ := hrow y (Nat.le_refl _)
  have tS : Rd M' S y (.slice (some ⟨R, 0, none⟩) (bw B + 1) (bw B + 1)) := by rcases hcs with h | h <;> exact ⟨_, h, r4⟩
  rcases Nat.lt_or_ge x (bw B) with hxl | hxg
  ·have hG := fun T => grade_ok (hsM.old T) hv hlt hxl
   have e3 : (x : Int) + 1 = ((x + 1 : Nat) : Int) := by omega
   have tR := tabRow_rd (x := x + 1) r5 (by omega)
   have hcc := (cnt_cell (B := B) (g := g) y x).symm
   have hb : cnt B g 0 0 (x + 1) (y + 1) ≤ 48 * 48 := Nat.le_trans (cnt_le ..) (Nat.mul_le_mul (by omega) (by omega))
   by_cases hgr : g ≤ gr B x y
   ·have er : (rowc B g y 0 x : Int) + 1 = ((rowc B g y 0 (x + 1) : Nat) : Int) := by simp [rowc, hgr]
    (repeat (first|(with_reducible refine AWo.cons ?_)|((with_reducible refine Step.id ?_);first|((with_reducible apply Step.move);exact rfl;exact rfl)|((with_reducible apply Step.assign);exact rfl;exact rfl)|((with_reducible apply Step.load);exact rfl;((decide +kernel));exact rfl;((exact Rd.old _ (by assumption))))|((with_reducible apply Step.ix1z);exact rfl;((exact Sl.mk (by omega)));exact rfl;((decide +kernel));exact rfl;((omega)))|((with_reducible apply Step.field (k := 2));exact rfl;((decide +kernel));exact rfl)|((with_reducible apply Step.addE);exact rfl;exact rfl;((assumption));((omega));exact rfl)|((with_reducible apply Step.lss);exact rfl;exact rfl;exact rfl)|((with_reducible apply Step.geq);exact rfl;exact rfl;exact rfl)|((with_reducible apply Step.nilp);exact rfl;exact rfl)|((with_reducible apply Step.callR fit);exact rfl;exact Tryd.func40;exact rfl;exact rfl;exact (hG _))|((with_reducible apply Step.store (k := 0));exact rfl;exact rfl;exact rfl;exact rfl;((decide +kernel));exact rfl;exact rfl;(focus (first|omega|(simp [iv, bv];done)|(simp [iv, bv];omega)));((first|(simp only [zq7, zq8, zq9, zq0, iv_set, bv_set, iv_rep, bv_rep] <;> rfl)|rfl))))|(with_reducible first|apply AWo.nil|apply AW.seq|apply Then.n|apply AW.regL|apply AW.block|apply InBlk.n|apply AW.skip)|((with_reducible apply AW.condT);exact rfl;(((simp only [zq1, zq2, zq3, zq4, zq5, zq6];first|assumption|omega))))))
    exact ⟨_, _, [some { cells := iv (rowP B g y (x + 1)) }], by omega, by rw [← rowP_set B g y x rfl]; exact (Or.inl ⟨rfl, (by repeat (first | exact trivial | (refine And.intro rfl ?_)))⟩), x + 1, rfl, by omega, rfl, rfl⟩
   ·have er : rowc B g y 0 (x + 1) = rowc B g y 0 x := by simp [rowc, hgr]
    rw [er] at hcc
    (repeat (first|(with_reducible refine AWo.cons ?_)|((with_reducible refine Step.id ?_);first|((with_reducible apply Step.move);exact rfl;exact rfl)|((with_reducible apply Step.assign);exact rfl;exact rfl)|((with_reducible apply Step.load);exact rfl;((decide +kernel));exact rfl;((exact Rd.old _ (by assumption))))|((with_reducible apply Step.ix1z);exact rfl;((exact Sl.mk (by omega)));exact rfl;((decide +kernel));exact rfl;((omega)))|((with_reducible apply Step.field (k := 2));exact rfl;((decide +kernel));exact rfl)|((with_reducible apply Step.addE);exact rfl;exact rfl;((assumption));((omega));exact rfl)|((with_reducible apply Step.lss);exact rfl;exact rfl;exact rfl)|((with_reducible apply Step.geq);exact rfl;exact rfl;exact rfl)|((with_reducible apply Step.nilp);exact rfl;exact rfl)|((with_reducible apply Step.callR fit);exact rfl;exact Tryd.func40;exact rfl;exact rfl;exact (hG _))|((with_reducible apply Step.store (k := 0));exact rfl;exact rfl;exact rfl;exact rfl;((decide +kernel));exact rfl;exact rfl;(focus (first|omega|(simp [iv, bv];done)|(simp [iv, bv];omega)));((first|(simp only [zq7, zq8, zq9, zq0, iv_set, bv_set, iv_rep, bv_rep] <;> rfl)|rfl))))|(with_reducible first|apply AWo.nil|apply AW.seq|apply Then.n|apply AW.regL|apply AW.block|apply InBlk.n|apply AW.skip)|((with_reducible apply AW.condT);exact rfl;(((simp only [zq1, zq2, zq3, zq4, zq5, zq6];first|assumption|omega))))|((with_reducible apply AW.condF);exact rfl;(((simp only [zq1, zq2, zq3, zq4, zq5, zq6];first|assumption|omega))))))
    exact ⟨_, [(0, sv), (1, .int .i64 g), (6, .pointer (some ⟨tp, 0, none⟩)), (7, .int .i64 (y : Nat)), (8, .slice (some ⟨M'.length + 0, 0, none⟩) (bw B + 1) (bw B + 1)), (9, .int .i64 (rowc B g y 0 x : Nat)), (37, .int .i64 (bh B : Nat)), (38, .int .i64 (y : Nat)), (50, .int .i64 (bw B : Nat)), (51, .int .i64 (x + 1 : Nat))], [some { cells := iv (rowP B g y (x + 1)) }], by omega, by rw [← rowP_set B g y x rfl]; exact (Or.inl ⟨rfl, (by repeat (first | exact trivial | (refine And.intro rfl ?_)))⟩), x + 1, rfl, by omega, rfl, by rw [er]⟩
  ·obtain rfl : x = bw B := by omega
   rw [rowP_full]
   (repeat (first|(with_reducible refine AWo.cons ?_)|((with_reducible refine Step.id ?_);first|((with_reducible apply Step.move);exact rfl;exact rfl)|((with_reducible apply Step.load);exact rfl;((decide +kernel));exact rfl;((exact Rd.old _ (by assumption))))|((with_reducible apply Step.field (k := 2));exact rfl;((decide +kernel));exact rfl)|((with_reducible apply Step.lss);exact rfl;exact rfl;exact rfl)|((with_reducible apply Step.nilp);exact rfl;exact rfl)|((with_reducible apply Step.buildS 1);exact rfl;exact rfl;exact (fun _ _ => bs122);exact rfl;((first|(simp only [zq7, zq8, zq9, zq0, iv_set, bv_set, iv_rep, bv_rep] <;> rfl)|rfl))))|(with_reducible first|apply AWo.nil|apply AW.seq|apply Then.n|apply AW.regL|apply AW.exit|apply InBlk.hit|apply Then.e)|((with_reducible apply AW.condF);exact rfl;(((simp only [zq1, zq2, zq3, zq4, zq5, zq6];first|assumption|omega))))))
   obtain ⟨N, hN⟩ := hP.low
   have hSl : S < M'.length := by rcases hcs with h | h <;> exact (List.getElem?_eq_some_iff.1 h).1
   have htl : tp < M'.length := (List.getElem?_eq_some_iff.1 tb).1
   rcases hcs with hcs | hcs
   ·((with_reducible apply Step.appOG);exact rfl;exact rfl;exact el122;exact rfl;exact (get_old _ hcs);exact hcl;((rw [get_app];rfl));exact rfl;((omega));exact rfl)
    (repeat (first|(with_reducible refine AWo.cons ?_)|((with_reducible refine Step.id ?_);first|((with_reducible apply Step.field (k := 2));exact rfl;((decide +kernel));exact rfl)|((with_reducible apply Step.nilp);exact rfl;exact rfl))))
    ((with_reducible apply Step.storeC);exact rfl;exact rfl;exact (get_old _ (get_old _ tb));exact rfl;((decide +kernel));exact rfl;exact rfl;((simp)))
    (repeat (first|(with_reducible refine AWo.cons ?_)|((with_reducible refine Step.id ?_);first|((with_reducible apply Step.move);exact rfl;exact rfl)|((with_reducible apply Step.add);exact rfl;exact rfl;((omega));exact rfl))|(with_reducible first|apply AWo.nil|apply Then.n|apply AW.regL|apply InBlk.n)))
    refine ⟨_, _, ?_, (by repeat (first | exact trivial | (refine And.intro rfl ?_))), y + 1, (M' ++ ([some { cells := iv (tabRow B g (y + 1)) }, some { cells := [.slice (some ⟨M'.length + 0, 0, none⟩) (bw B + 1) (bw B + 1)] }] : AM) : AM).length, rfl, hlt, ?_, rfl⟩
    ·omega
    refine hP.next hcl hrow (fun i hi _ => ?_) ?_ ?_ ?_ ?_
    ·rw [List.append_assoc, List.getElem?_append_left hi]
    ·rw [List.append_assoc, List.getElem?_append_right (Nat.le_refl _), Nat.sub_self]; rfl
    ·rw [List.getElem?_append_right (Nat.le_refl _), Nat.sub_self]; rfl
    ·simp
    ·rw [hN]; exact ⟨_, by rw [List.append_assoc, List.append_assoc]⟩
   ·((with_reducible apply Step.appB);exact rfl;exact rfl;exact el122;exact rfl;exact (get_old _ hcs);exact hcl;((rw [get_app];rfl));exact rfl;((omega));exact rfl)
    (repeat (first|(with_reducible refine AWo.cons ?_)|((with_reducible refine Step.id ?_);first|((with_reducible apply Step.field (k := 2));exact rfl;((decide +kernel));exact rfl)|((with_reducible apply Step.nilp);exact rfl;exact rfl))))
    ((with_reducible apply Step.storeC (b := { cells := [.int .i64 (bw B : Nat), .int .i64 (bh B : Nat), .slice (some ⟨S, 0, none⟩) (y + 1) (y + 1)] }));exact rfl;exact rfl;exact (get_old _ (by rw [List.getElem?_set_ne hP.ne];exact get_old _ tb));exact rfl;((decide +kernel));exact rfl;exact rfl;((simp)))
    (repeat (first|(with_reducible refine AWo.cons ?_)|((with_reducible refine Step.id ?_);first|((with_reducible apply Step.move);exact rfl;exact rfl)|((with_reducible apply Step.add);exact rfl;exact rfl;((omega));exact rfl))|(with_reducible first|apply AWo.nil|apply Then.n|apply AW.regL|apply InBlk.n)))
    refine ⟨_, _, ?_, (by repeat (first | exact trivial | (refine And.intro rfl ?_))), y + 1, (M' ++ ([some { cells := iv (tabRow B g (y + 1)) }, some { cells := [.slice (some ⟨M'.length + 0, 0, none⟩) (bw B + 1) (bw B + 1)] }] : AM) : AM).length, rfl, hlt, ?_, rfl⟩
    ·omega
    rw [List.set_append_left _ _ hSl]
    refine hP.next hcl hrow (fun i hi hne => ?_) ?_ ?_ ?_ ?_
    ·rw [List.append_assoc, List.getElem?_append_left (by simpa using hi), List.getElem?_set_ne (fun e => hne e.symm)]
    ·rw [List.append_assoc, List.getElem?_append_right (by simp)]; simp
    ·rw [List.append_assoc, List.getElem?_append_right (by simp)]; simp
    ·simp
    ·rw [hN]
     obtain ⟨N', hN'⟩ := set_high (N := N) hP.sl none
     exact ⟨_, by rw [hN', List.append_assoc, List.append_assoc]⟩
 ·obtain rfl : y = bh B := by omega
  (repeat (first|(with_reducible refine AWo.cons ?_)|((with_reducible refine Step.id ?_);first|((with_reducible apply Step.move);exact rfl;exact rfl)|((with_reducible apply Step.assign);exact rfl;exact rfl)|((with_reducible apply Step.lss);exact rfl;exact rfl;exact rfl))|(with_reducible first|apply AWo.nil|apply AW.seq|apply Then.n|apply AW.regL|apply AW.exit|apply InBlk.hit|apply Then.e)|((with_reducible apply AW.condF);exact rfl;(((simp only [zq1, zq2, zq3, zq4, zq5, zq6];first|assumption|omega))))))
  (refine AW.ret ?_; (repeat (first | refine Then.r ?_ | refine InBlk.r ?_)))
  obtain ⟨N, hN⟩ := hP.low
  exact ⟨_, rfl, N, hN, tp, hP.tl, rfl, hP.done⟩
theorem un122s : Tryd.prog.underlying 163 = some (.slice 59) := by kernel_rfl
theorem un141 : Tryd.prog.underlying 122 = some (.pointer 165) := by kernel_rfl
def R4.rc (r : R4) : Rc := rcN r.x r.y r.a r.b
theorem cnt_le' {B : Brd} {g : Int} {a b : Nat} (ha : a ≤ 48) (hb : b ≤ 48) : cnt B g 0 0 a b ≤ 2304 := Nat.le_trans (cnt_le ..) (Nat.mul_le_mul ha hb)
set_option maxHeartbeats 2000000 in
set_option maxRecDepth 100000 in
theorem count_ok {m : AM} {tp : Nat} {B : Brd} {g : Int} (hT : TabAt m tp B g) (hw : bw B ≤ 48) (hh : bh B ≤ 48) {r : R4} (hr : r.ok (bw B) (bh B)) :
  ACall Tryd.prog 122 #[.pointer (some ⟨tp, 0, none⟩), r.rc.v] m (Ret (.int .i64 (cnt B g r.x r.y r.a r.b : Nat)) m) := by
 obtain ⟨x, y, a, b⟩ := r
 simp only [R4.ok] at hr
 obtain ⟨h1, h2, S, t2, hrow⟩ := hT
 obtain ⟨R1, s1, c1⟩ := hrow y (by omega)
 obtain ⟨R2, s2, c2⟩ := hrow (y + b) (by omega)
 have e1 : (y : Int) + (b : Int) = ((y + b : Nat) : Int) := by omega
 have e2 : (x : Int) + (a : Int) = ((x + a : Nat) : Int) := by omega
 have d1 := c1 x (by omega)
 have d2 := c1 (x + a) (by omega)
 have d3 := c2 x (by omega)
 have d4 := c2 (x + a) (by omega)
 have b1 := cnt_le' (B := B) (g := g) (a := x) (b := y) (by omega) (by omega)
 have b2 := cnt_le' (B := B) (g := g) (a := x + a) (b := y) (by omega) (by omega)
 have b3 := cnt_le' (B := B) (g := g) (a := x) (b := y + b) (by omega) (by omega)
 have b4 := cnt_le' (B := B) (g := g) (a := x + a) (b := y + b) (by omega) (by omega)
 have hc := cnt_corners B g x y a b
 change ACall Tryd.prog 122 #[.pointer (some ⟨tp, 0, none⟩), .agg #[.int .i64 (x : Nat), .int .i64 (y : Nat), .int .i64 (a : Nat), .int .i64 (b : Nat)]] m (Ret (.int .i64 (cnt B g x y a b : Nat)) m)
 refine ACall.start Tryd.func122 rfl rfl ?_
 (repeat (first|(with_reducible refine AWo.cons ?_)|((with_reducible refine Step.id ?_);first|((with_reducible apply Step.move);exact rfl;exact rfl)|((with_reducible apply Step.assign);exact rfl;exact rfl)|((with_reducible apply Step.load);exact rfl;((decide +kernel));exact rfl;((first|exact Rd.new rfl rfl|exact Rd.old _ (by assumption))))|((with_reducible apply Step.ix1z);exact rfl;((exact Sl.mk (by omega)));exact rfl;((decide +kernel));exact rfl;((omega)))|((with_reducible apply Step.field0);exact rfl;((decide +kernel));exact rfl)|((with_reducible apply Step.field (k := 1));exact rfl;((decide +kernel));exact rfl)|((with_reducible apply Step.field (k := 2));exact rfl;((decide +kernel));exact rfl)|((with_reducible apply Step.field (k := 3));exact rfl;((decide +kernel));exact rfl)|((with_reducible apply Step.addE);exact rfl;exact rfl;((assumption));((omega));exact rfl)|((with_reducible apply Step.add);exact rfl;exact rfl;((omega));exact rfl)|((with_reducible apply Step.sub);exact rfl;exact rfl;((omega));exact rfl)|((with_reducible apply Step.nilp);exact rfl;exact rfl)|((with_reducible apply Step.box 0);exact rfl;exact rfl;((kernel_rfl));exact rfl;((first|(simp only [zq7, zq8, zq9, zq0, iv_set, bv_set, iv_rep, bv_rep] <;> rfl)|rfl))))|(with_reducible first|apply AWo.nil|apply AW.seq|apply Then.n|apply AW.regL)|((with_reducible apply AW.drawL fit);((decide +kernel)))))
 (refine AW.retD (l := [(4, _)]) (by repeat (first | exact trivial | (refine And.intro ⟨rfl, by (exact .int _ _)⟩ ?_))) ?_; (repeat (first | refine Then.r ?_ | refine InBlk.r ?_)))
 exact ⟨_, rfl, by rw [hc], rfl⟩
theorem rc_right {w h : Nat} {r : R4} (hr : r.ok w h) : rightB r.rc = true := by
 obtain ⟨x, y, a, b⟩ := r
 simp only [R4.ok] at hr
 have : 1 ≤ (a : Int) ∧ 1 ≤ (b : Int) ∧ 0 ≤ (x : Int) ∧ 0 ≤ (y : Int) := by omega
 exact decide_eq_true this
theorem rc_lies {w h : Nat} {r : R4} (hr : r.ok w h) : liesB r.rc (w : Nat) (h : Nat) = true := by
 obtain ⟨x, y, a, b⟩ := r
 simp only [R4.ok] at hr
 have : (a : Int) ≤ (w : Int) ∧ (x : Int) ≤ (w : Int) - (a : Int) ∧ (b : Int) ≤ (h : Int) ∧ (y : Int) ≤ (h : Int) - (b : Int) := by omega
 exact decide_eq_true this
set_option maxHeartbeats 2000000 in
set_option maxRecDepth 100000 in
theorem Count_ok {m : AM} {tp : Nat} {B : Brd} {g : Int} (hT : TabAt m tp B g) (hw : bw B ≤ 48) (hh : bh B ≤ 48) {r : R4} (hr : r.ok (bw B) (bh B)) :
  ACall Tryd.prog 102 #[.pointer (some ⟨tp, 0, none⟩), r.rc.v] m (Ret (.tuple #[.int .i64 (cnt B g r.x r.y r.a r.b : Nat), .int .i64 0]) m) := by
 have f1 := fun T => count_ok (hT.old T) hw hh hr
 have f2 := fun m => right_ok (m := m) r.rc
 have f3 := fun m => inside_ok (m := m) r.rc (bw B : Nat) (bh B : Nat) (rc_right hr) (by omega) (by omega)
 rw [rc_right hr] at f2
 rw [rc_lies hr] at f3
 obtain ⟨h1, h2, S, t2, hrow⟩ := hT
 refine ACall.start Tryd.func102 rfl rfl ?_
 (repeat (first|(with_reducible refine AWo.cons ?_)|((with_reducible refine Step.id ?_);first|((with_reducible apply Step.gdT);exact rfl;exact rfl;((rfl)))|((with_reducible apply Step.move);exact rfl;exact rfl)|((with_reducible apply Step.assign);exact rfl;exact rfl)|((with_reducible apply Step.load);exact rfl;((decide +kernel));exact rfl;((exact Rd.old _ (by assumption))))|((with_reducible apply Step.loadL (n := 4));exact rfl;((decide +kernel));((decide +kernel));exact rfl;((exact RdL.new rfl rfl));exact rfl;exact rfl)|((with_reducible apply Step.field0);exact rfl;((decide +kernel));exact rfl)|((with_reducible apply Step.field (k := 1));exact rfl;((decide +kernel));exact rfl)|((with_reducible apply Step.field (k := 2));exact rfl;((decide +kernel));exact rfl)|((with_reducible apply Step.ptrNot);exact rfl;exact rfl;exact un141;exact rfl)|((with_reducible apply Step.eqNil);exact rfl;exact rfl;exact un122s;exact rfl)|((with_reducible apply Step.not);exact rfl;exact rfl)|((with_reducible apply Step.nilp);exact rfl;exact rfl)|((with_reducible apply Step.pickF);exact rfl;exact rfl;exact rfl;exact rfl;((rfl)))|((with_reducible apply Step.callR fit);exact rfl;exact Tryd.func120;exact rfl;exact rfl;exact (f2 _))|((with_reducible apply Step.callR fit);exact rfl;exact Tryd.func121;exact rfl;exact rfl;exact (f3 _))|((with_reducible apply Step.callR fit);exact rfl;exact Tryd.func122;exact rfl;exact rfl;exact (f1 _))|((with_reducible apply Step.box 0);exact rfl;exact rfl;((kernel_rfl));exact rfl;((first|(simp only [zq7, zq8, zq9, zq0, iv_set, bv_set, iv_rep, bv_rep] <;> rfl)|rfl))))|(with_reducible first|apply AWo.nil|apply AW.seq|apply Then.n|apply AW.regL|apply AW.block)|((with_reducible apply AW.drawL fit);((decide +kernel)))|(with_reducible first|apply InBlk.n|apply AW.skip)|((with_reducible apply AW.condF);exact rfl;((rfl)))))
 (refine AW.retD (l := [(4, _), (5, _)]) (by repeat (first | exact trivial | (refine And.intro ⟨rfl, by (exact .int _ _)⟩ ?_))) ?_; (repeat (first | refine Then.r ?_ | refine InBlk.r ?_)))
 exact ⟨_, rfl, rfl, rfl⟩
def Kds (m : AM) (v : Value) (K : List Kd) : Prop := ∃ a o, Sl v a o K.length ∧ a < m.length ∧ ∀ i, i < K.length → RdL m a (o + i * 5) (K.getD i default).cells
theorem Kds.old {m : AM} {v : Value} {K : List Kd} (h : Kds m v K) (L : AM) : Kds (m ++ L) v K := by
 obtain ⟨a, o, h1, h2, h3⟩ := h
 exact ⟨a, o, h1, by rw [List.length_append]; omega, fun i hi => (h3 i hi).old L⟩
theorem Sl.shape {v : Value} {a o n : Nat} (h : Sl v a o n) : ∃ q c, v = .slice q n c := by
 rcases h with ⟨rfl, rfl⟩ | ⟨c, _, rfl⟩ | ⟨rfl, _, _, rfl⟩
 ·exact ⟨_, _, rfl⟩
 ·exact ⟨_, _, rfl⟩
 ·exact ⟨_, _, rfl⟩
theorem rd_set {m : AM} {a o q : Nat} {v : Value} {b : Blk} (h : Rd m a o v) (hq : m[q]? = some (some b)) (hb : b.cells = []) (X : Option Blk) : Rd (m.set q X) a o v := by
 obtain ⟨c, h1, h2⟩ := h
 refine ⟨c, ?_, h2⟩
 rw [List.getElem?_set_ne]
 ·exact h1
 ·rintro rfl
  rw [hq] at h1
  injection h1 with h1
  injection h1 with h1
  subst h1
  rw [hb] at h2
  simp at h2
theorem TabAt.set {m : AM} {tp q : Nat} {B : Brd} {g : Int} {b : Blk} (h : TabAt m tp B g) (hq : m[q]? = some (some b)) (hb : b.cells = []) (X : Option Blk) : TabAt (m.set q X) tp B g := by
 obtain ⟨h1, h2, S, h3, h4⟩ := h
 refine ⟨rd_set h1 hq hb X, rd_set h2 hq hb X, S, rd_set h3 hq hb X, fun y hy => ?_⟩
 obtain ⟨R, h5, h6⟩ := h4 y hy
 exact ⟨R, rd_set h5 hq hb X, fun x hx => rd_set (h6 x hx) hq hb X⟩
structure BoardAt (m : AM) (p : Nat) (B : Brd) (K : List Kd) : Prop where
 rows : ∃ v, Rd m p 0 v ∧ Strs m v B
 kinds : ∃ v, Rd m p 1 v ∧ Kds m v K
 w : Rd m p 2 (.int .i64 (bw B : Nat))
 h : Rd m p 3 (.int .i64 (bh B : Nat))
 tabs : ∃ q l b, Rd m p 4 (.map (some q)) ∧ m[q]? = some (some b) ∧ isMapK b.kind = true ∧ b.ents = mks l ∧ ∀ i, i < K.length → ∃ tp, mlook l (K.getD i default).g = some (.pointer (some ⟨tp, 0, none⟩)) ∧ TabAt m tp B (K.getD i default).g
theorem BoardAt.old {m : AM} {p : Nat} {B : Brd} {K : List Kd} (h : BoardAt m p B K) (L : AM) : BoardAt (m ++ L) p B K := by
 obtain ⟨⟨v, h1, h2⟩, ⟨u, h3, h4⟩, h5, h6, q, l, b, h7, h8, h9, h10, h11⟩ := h
 refine ⟨⟨v, h1.old L, h2.old L⟩, ⟨u, h3.old L, h4.old L⟩, h5.old L, h6.old L, q, l, b, h7.old L, get_old _ h8, h9, h10, fun i hi => ?_⟩
 obtain ⟨tp, h12, h13⟩ := h11 i hi
 exact ⟨tp, h12, h13.old L⟩
structure BrdP (m0 m : AM) (p q : Nat) (sv kv : Value) (B : Brd) (K : List Kd) (i : Nat) : Prop where
 low : ∃ N, m = m0 ++ N
 ql : m0.length ≤ q
 pb : m[p]? = some (some { cells := [sv, kv, .int .i64 (bw B : Nat), .int .i64 (bh B : Nat), .map (some q)] })
 qb : ∃ l, m[q]? = some (some { cells := [], kind := .map, ents := mks l }) ∧ (∀ g v, mlook l g = some v → ∃ tp, v = .pointer (some ⟨tp, 0, none⟩) ∧ TabAt m tp B g) ∧ ∀ j, j < i → (mlook l (K.getD j default).g).isSome = true
theorem BrdP.done {m0 m : AM} {p q : Nat} {sv kv : Value} {B : Brd} {K : List Kd} (h : BrdP m0 m p q sv kv B K K.length) (hs : Strs m0 sv B) (hk : Kds m0 kv K) : BoardAt m p B K := by
 obtain ⟨N, hN⟩ := h.low
 obtain ⟨l, h1, h2, h3⟩ := h.qb
 refine ⟨⟨sv, ⟨_, h.pb, rfl⟩, by rw [hN]; exact hs.old N⟩, ⟨kv, ⟨_, h.pb, rfl⟩, by rw [hN]; exact hk.old N⟩, ⟨_, h.pb, rfl⟩, ⟨_, h.pb, rfl⟩, q, l, _, ⟨_, h.pb, rfl⟩, h1, rfl, rfl, fun i hi => ?_⟩
 have := h3 i hi
 obtain ⟨v, hv⟩ := Option.isSome_iff_exists.1 this
 obtain ⟨tp, rfl, ht⟩ := h2 _ _ hv
 exact ⟨tp, hv, ht⟩
theorem mlook_app (l : List (Int × Value)) (g : Int) (v : Value) (k : Int) : mlook (l ++ [(g, v)]) k = match mlook l k with | some x => some x | none => if k = g then some v else none := by
 induction l with
 | nil => simp [mlook]
 | cons e l ih =>
  simp only [List.cons_append, mlook]
  by_cases h : k = e.1
  ·simp [h]
  ·simp only [if_neg h, ih]
theorem BrdP.same {m0 m : AM} {p q : Nat} {sv kv : Value} {B : Brd} {K : List Kd} {i : Nat} {l : List (Int × Value)} (h : BrdP m0 m p q sv kv B K i) (L : AM) (h1 : m[q]? = some (some { cells := [], kind := .map, ents := mks l })) (h2 : ∀ g v, mlook l g = some v → ∃ tp, v = .pointer (some ⟨tp, 0, none⟩) ∧ TabAt m tp B g)
  (h3 : ∀ j, j < i → (mlook l (K.getD j default).g).isSome = true) (hn : (mlook l (K.getD i default).g).isSome = true) : BrdP m0 (m ++ L) p q sv kv B K (i + 1) := by
 obtain ⟨N, hN⟩ := h.low
 refine ⟨⟨N ++ L, by rw [hN, List.append_assoc]⟩, h.ql, get_old _ h.pb, l, get_old _ h1, fun g v hv => ?_, fun j hj => ?_⟩
 ·obtain ⟨tp, e, ht⟩ := h2 g v hv
  exact ⟨tp, e, ht.old L⟩
 ·rcases Nat.lt_succ_iff_lt_or_eq.1 hj with hj | rfl
  ·exact h3 j hj
  ·exact hn
theorem BrdP.more {m0 m m1 : AM} {p q tp : Nat} {sv kv : Value} {B : Brd} {K : List Kd} {i : Nat} {l : List (Int × Value)} (h : BrdP m0 m p q sv kv B K i) (hpq : p ≠ q) (hm : ∃ L, m1 = m ++ L) (h1 : m[q]? = some (some { cells := [], kind := .map, ents := mks l })) (hT : TabAt m1 tp B (K.getD i default).g)
  (h2 : ∀ g v, mlook l g = some v → ∃ tp, v = .pointer (some ⟨tp, 0, none⟩) ∧ TabAt m tp B g) (h3 : ∀ j, j < i → (mlook l (K.getD j default).g).isSome = true) :
  BrdP m0 (m1.set q (some { cells := [], kind := .map, ents := mks (l ++ [((K.getD i default).g, .pointer (some ⟨tp, 0, none⟩))]) })) p q sv kv B K (i + 1) := by
 obtain ⟨L, rfl⟩ := hm
 obtain ⟨N, hN⟩ := h.low
 have hq := get_old L h1
 have hql := (List.getElem?_eq_some_iff.1 hq).1
 refine ⟨?_, h.ql, by rw [List.getElem?_set_ne (fun e => hpq e.symm)]; exact get_old _ h.pb, _, List.getElem?_set_self hql, fun g v hv => ?_, fun j hj => ?_⟩
 ·rw [hN, List.append_assoc]; exact set_high h.ql _
 ·rw [mlook_app] at hv
  cases hl : mlook l g with
  | some x =>
   rw [hl] at hv
   simp only [Option.some.injEq] at hv
   subst hv
   obtain ⟨tp', e, ht⟩ := h2 g _ hl
   exact ⟨tp', e, (ht.old L).set hq rfl _⟩
  | none =>
   rw [hl] at hv
   simp only at hv
   split at hv
   ·rename_i e
    subst e
    simp only [Option.some.injEq] at hv
    exact ⟨tp, hv.symm, hT.set hq rfl _⟩
   ·cases hv
 ·rw [mlook_app]
  cases hl : mlook l (K.getD j default).g with
  | some x => rfl
  | none =>
   rcases Nat.lt_succ_iff_lt_or_eq.1 hj with hj | rfl
   ·have := h3 j hj; rw [hl] at this; cases this
   ·simp
theorem un100 : Tryd.prog.underlying 78 = some (.pointer 84) := by kernel_rfl
theorem un103 : Tryd.prog.underlying 82 = some (.map 3 122) := by kernel_rfl
theorem zr141 : zeroG Tryd.prog 122 = some (.pointer none) := by kernel_rfl
theorem bl105 {w h : Int} {n c n' c' : Nat} {q q' : Option Addr} {mp : Option Nat} : abuild Tryd.prog 84 [(0, .slice q n c), (1, .slice q' n' c'), (2, .int .i64 w), (3, .int .i64 h), (4, .map mp)] = some (.agg #[.slice q n c, .slice q' n' c', .int .i64 w, .int .i64 h, .map mp]) := by kernel_rfl
theorem ze99 : zeroB Tryd.prog 77 = some #[.int .i64 0, .int .i64 0, .int .i64 0, .int .i64 0, .bool false] := by kernel_rfl
theorem kinds_no {K : List Kd} {i : Nat} (hi : i < K.length) (h : kdB (K.getD i default) = false) : kindsB K = false := by
 rw [Bool.eq_false_iff]
 intro hc
 rw [kinds_get hc hi] at h
 cases h
theorem kinds_all {K : List Kd} (h1 : K.length ≤ 12) (h : ∀ i, i < K.length → kdB (K.getD i default) = true) : kindsB K = true := by
 unfold kindsB
 simp only [Bool.and_eq_true, decide_eq_true_eq, List.all_eq_true]
 refine ⟨h1, fun x hx => ?_⟩
 obtain ⟨i, hi, rfl⟩ := List.getElem_of_mem hx
 have := h i hi
 rwa [getD_in _ _ hi] at this
set_option maxHeartbeats 4000000 in
set_option maxRecDepth 100000 in
theorem newBoard_any {m : AM} {sv kv : Value} {B : Brd} {K : List Kd} (hs : Strs m sv B) (hk : Kds m kv K) :
  ACall Tryd.prog 34 #[sv, kv] m (More (fun m' v => (goodB B K = false ∧ v = .pointer none) ∨ (goodB B K = true ∧ ∃ p, m.length ≤ p ∧ v = .pointer (some ⟨p, 0, none⟩) ∧ BoardAt m' p B K)) m) := by
 have hV := fun T => Valid_ok (hs.old T)
 have hs' := hs
 have hk' := hk
 obtain ⟨A, O, sl, la, rd⟩ := hs'
 obtain ⟨A2, O2, sl2, la2, rd2⟩ := hk'
 obtain ⟨q1, c1, rfl⟩ := sl.shape
 obtain ⟨q2, c2, rfl⟩ := sl2.shape
 refine ACall.start Tryd.func34 rfl rfl ?_
 cases hv : skinB B with
 | false =>
  rw [hv] at hV
  have e : goodB B K = false := by simp [goodB, boardB, hv]
  (repeat (first|(with_reducible refine AWo.cons ?_)|((with_reducible refine Step.id ?_);first|((with_reducible apply Step.gdF);exact rfl;exact rfl;((rfl)))|((with_reducible apply Step.move);exact rfl;exact rfl)|((with_reducible apply Step.assign);exact rfl;exact rfl)|((with_reducible apply Step.not);exact rfl;exact rfl)|((with_reducible apply Step.pickT);exact rfl;exact rfl;exact rfl;exact rfl;((rfl)))|((with_reducible apply Step.callR fit);exact rfl;exact Tryd.func28;exact rfl;exact rfl;exact (hV _)))|(with_reducible first|apply AWo.nil|apply AW.seq|apply Then.n|apply AW.regL)|((with_reducible apply AW.condT);exact rfl;((rfl)))))
  (refine AW.retD (l := [(4, _)]) (by repeat (first | exact trivial | (refine And.intro ⟨rfl, by (exact Ren.of_g0 rfl)⟩ ?_))) ?_; (repeat (first | refine Then.r ?_ | refine InBlk.r ?_)))
  exact ⟨_, rfl, [], (List.append_nil m).symm, .inl ⟨e, rfl⟩⟩
 | true =>
 rw [hv] at hV
 have hvv := hv
 simp only [skinB, Bool.and_eq_true, decide_eq_true_eq] at hvv
 have r0 := rd 0 (by omega)
 have hS := fun m => sides_ok (m := m) ((rowOf B 0).size : Nat) (B.length : Nat)
 by_cases hb : B.length ≤ 16 ∧ (rowOf B 0).size ≤ 16
 case neg =>
  have e : goodB B K = false := by simp [goodB, boardB]; omega
  have e2 : sidesB ((rowOf B 0).size : Nat) (B.length : Nat) = false := by simp [sidesB]; omega
  rw [e2] at hS
  (repeat (first|(with_reducible refine AWo.cons ?_)|((with_reducible refine Step.id ?_);first|((with_reducible apply Step.gdT);exact rfl;exact rfl;((rfl)))|((with_reducible apply Step.gdF);exact rfl;exact rfl;((rfl)))|((with_reducible apply Step.move);exact rfl;exact rfl)|((with_reducible apply Step.assign);exact rfl;exact rfl)|((with_reducible apply Step.load);exact rfl;((decide +kernel));exact rfl;((exact Rd.old _ (by assumption))))|((with_reducible apply Step.ix1 (k := 0));exact rfl;((assumption));exact rfl;((decide +kernel));exact rfl;((omega)))|((with_reducible apply Step.lenS);exact rfl;exact un9;exact rfl)|((with_reducible apply Step.len);exact rfl;((assumption));((decide +kernel));exact rfl)|((with_reducible apply Step.not);exact rfl;exact rfl)|((with_reducible apply Step.pickT);exact rfl;exact rfl;exact rfl;exact rfl;((rfl)))|((with_reducible apply Step.pickF);exact rfl;exact rfl;exact rfl;exact rfl;((rfl)))|((with_reducible apply Step.callR fit);exact rfl;exact Tryd.func28;exact rfl;exact rfl;exact (hV _))|((with_reducible apply Step.callR fit);exact rfl;exact Tryd.func62;exact rfl;exact rfl;exact (hS _)))|(with_reducible first|apply AWo.nil|apply AW.seq|apply Then.n|apply AW.regL)|((with_reducible apply AW.condT);exact rfl;((rfl)))))
  (refine AW.retD (l := [(4, _)]) (by repeat (first | exact trivial | (refine And.intro ⟨rfl, by (exact Ren.of_g0 rfl)⟩ ?_))) ?_; (repeat (first | refine Then.r ?_ | refine InBlk.r ?_)))
  exact ⟨_, rfl, [], (List.append_nil m).symm, .inl ⟨e, rfl⟩⟩
 have e2 : sidesB ((rowOf B 0).size : Nat) (B.length : Nat) = true := by simp [sidesB]; omega
 rw [e2] at hS
 by_cases hl : 12 < K.length
 ·have e : goodB B K = false := by simp [goodB, kindsB]; omega
  (repeat (first|(with_reducible refine AWo.cons ?_)|((with_reducible refine Step.id ?_);first|((with_reducible apply Step.gdT);exact rfl;exact rfl;((rfl)))|((with_reducible apply Step.move);exact rfl;exact rfl)|((with_reducible apply Step.assign);exact rfl;exact rfl)|((with_reducible apply Step.load);exact rfl;((decide +kernel));exact rfl;((exact Rd.old _ (by assumption))))|((with_reducible apply Step.ix1 (k := 0));exact rfl;((assumption));exact rfl;((decide +kernel));exact rfl;((omega)))|((with_reducible apply Step.lenS);exact rfl;exact un9;exact rfl)|((with_reducible apply Step.gtr);exact rfl;exact rfl;exact rfl)|((with_reducible apply Step.len);exact rfl;((assumption));((decide +kernel));exact rfl)|((with_reducible apply Step.not);exact rfl;exact rfl)|((with_reducible apply Step.pickF);exact rfl;exact rfl;exact rfl;exact rfl;((rfl)))|((with_reducible apply Step.callR fit);exact rfl;exact Tryd.func28;exact rfl;exact rfl;exact (hV _))|((with_reducible apply Step.callR fit);exact rfl;exact Tryd.func62;exact rfl;exact rfl;exact (hS _)))|(with_reducible first|apply AWo.nil|apply AW.seq|apply Then.n|apply AW.regL)|((with_reducible apply AW.condT);exact rfl;(((simp only [zq1, zq2, zq3, zq4, zq5, zq6];first|assumption|omega))))))
  (refine AW.retD (l := [(4, _)]) (by repeat (first | exact trivial | (refine And.intro ⟨rfl, by (exact Ren.of_g0 rfl)⟩ ?_))) ?_; (repeat (first | refine Then.r ?_ | refine InBlk.r ?_)))
  exact ⟨_, rfl, [], (List.append_nil m).symm, .inl ⟨e, rfl⟩⟩
 (repeat (first|(with_reducible refine AWo.cons ?_)|((with_reducible refine Step.id ?_);first|((with_reducible apply Step.gdT);exact rfl;exact rfl;((rfl)))|((with_reducible apply Step.move);exact rfl;exact rfl)|((with_reducible apply Step.assign);exact rfl;exact rfl)|((with_reducible apply Step.load);exact rfl;((decide +kernel));exact rfl;((exact Rd.old _ (by assumption))))|((with_reducible apply Step.ix1 (k := 0));exact rfl;((assumption));exact rfl;((decide +kernel));exact rfl;((omega)))|((with_reducible apply Step.lenS);exact rfl;exact un9;exact rfl)|((with_reducible apply Step.gtr);exact rfl;exact rfl;exact rfl)|((with_reducible apply Step.len);exact rfl;((assumption));((decide +kernel));exact rfl)|((with_reducible apply Step.not);exact rfl;exact rfl)|((with_reducible apply Step.pickF);exact rfl;exact rfl;exact rfl;exact rfl;((rfl)))|((with_reducible apply Step.callR fit);exact rfl;exact Tryd.func28;exact rfl;exact rfl;exact (hV _))|((with_reducible apply Step.callR fit);exact rfl;exact Tryd.func62;exact rfl;exact rfl;exact (hS _)))|(with_reducible first|apply AWo.nil|apply AW.seq|apply Then.n|apply AW.regL|apply AW.skip)|((with_reducible apply AW.condF);exact rfl;(((simp only [zq1, zq2, zq3, zq4, zq5, zq6];first|assumption|omega))))))
 rw [List.append_nil]
 ((with_reducible apply Step.mkMap);exact rfl)
 (repeat (first|(with_reducible refine AWo.cons ?_)|((with_reducible refine Step.id ?_);first|((with_reducible apply Step.move);exact rfl;exact rfl)|((with_reducible apply Step.assign);exact rfl;exact rfl)|((with_reducible apply Step.len);exact rfl;((assumption));((decide +kernel));exact rfl)|((with_reducible apply Step.box 1);exact rfl;exact rfl;((kernel_rfl));exact rfl;((first|(simp only [zq7, zq8, zq9, zq0, iv_set, bv_set, iv_rep, bv_rep] <;> rfl)|rfl)))|((with_reducible apply Step.build);exact rfl;exact bl105;exact rfl))|(with_reducible first|apply AWo.nil|apply AW.seq|apply Then.n|apply AW.regL|apply AW.block)))
 have hP : BrdP m (m ++ [some { cells := [], kind := .map }, some { cells := [.slice q1 B.length c1, .slice q2 K.length c2, .int .i64 ((rowOf B 0).size : Nat), .int .i64 (B.length : Nat), .map (some m.length)] }]) (m.length + 1) m.length (.slice q1 B.length c1) (.slice q2 K.length c2) B K 0 :=
  ⟨⟨_, rfl⟩, Nat.le_refl _, by rw [get_app]; rfl, [], (by rw [List.getElem?_append_right (Nat.le_refl _), Nat.sub_self]; rfl), fun g v hv => (by cases hv), fun j hj => (by omega)⟩
 have hpq : m.length + 1 ≠ m.length := by omega
 have hpm : m.length ≤ m.length + 1 := by omega
 generalize m.length + 1 = p at hP hpq hpm ⊢
 generalize hqm : m.length = q at hP hpq
 clear r0
 refine AW.loopW (fun n t M' => ∃ (i : Nat), n = K.length - i ∧ i ≤ K.length ∧ (∀ j, j < i → kdB (K.getD j default) = true) ∧ BrdP m M' p q (.slice q1 B.length c1) (.slice q2 K.length c2) B K i ∧
   t = fr [(0, .slice q1 B.length c1), (5, .pointer (some ⟨p, 0, none⟩)), (37, .slice q2 K.length c2), (38, .int .i64 (K.length : Nat)), (39, .int .i64 (i : Nat))])
  ⟨_, _, (by repeat (first | exact trivial | (refine And.intro rfl ?_))), 0, rfl, Nat.zero_le _, fun j hj => by omega, by exact hP, rfl⟩ ?_
 clear hP
 rintro n t M' ⟨i, rfl, hi, hd, hP, rfl⟩
 obtain ⟨N, hN⟩ := hP.low
 rcases Nat.lt_or_ge i K.length with hlt | hge
 ·obtain ⟨l, hq, hl1, hl2⟩ := hP.qb
  have hkm : Kds M' (.slice q2 K.length c2) K := by rw [hN]; exact hk.old N
  have hsm : Strs M' (.slice q1 B.length c1) B := by rw [hN]; exact hs.old N
  have rk := (rd2 i hlt).old N
  rw [← hN] at rk
  refine AW.rebase ?_
  cases hkd : kdB (K.getD i default) with
  | false =>
   have e : goodB B K = false := by simp [goodB, kinds_no hlt hkd]
   generalize K.getD i default = k at rk hkd
   obtain ⟨kw, kh, kg, ko, kt⟩ := k
   simp only [kdB, decide_eq_false_iff_not] at hkd
   simp only [Kd.cells] at rk
   have hS := fun m => sides_ok (m := m) kw kh
   by_cases h1 : 1 ≤ kw ∧ 1 ≤ kh ∧ kw ≤ 16 ∧ kh ≤ 16
   ·have e3 : sidesB kw kh = true := decide_eq_true h1
    rw [e3] at hS
    by_cases h2 : kg < 1
    ·(repeat (first|(with_reducible refine AWo.cons ?_)|((with_reducible refine Step.id ?_);first|((with_reducible apply Step.gdT);exact rfl;exact rfl;((rfl)))|((with_reducible apply Step.gdF);exact rfl;exact rfl;((first|rfl|(simp only [zq1, zq2, zq3, zq4, zq5, zq6];first|assumption|omega))))|((with_reducible apply Step.move);exact rfl;exact rfl)|((with_reducible apply Step.assign);exact rfl;exact rfl)|((with_reducible apply Step.load);exact rfl;((decide +kernel));exact rfl;((exact Rd.new rfl rfl)))|((with_reducible apply Step.loadL (n := 5));exact rfl;((decide +kernel));((decide +kernel));exact rfl;((exact RdL.old _ (by assumption)));exact rfl;exact rfl)|((with_reducible apply Step.ix (s := 5));exact rfl;((assumption));exact rfl;((decide +kernel));exact rfl;((omega)))|((with_reducible apply Step.field0);exact rfl;((decide +kernel));exact rfl)|((with_reducible apply Step.field (k := 1));exact rfl;((decide +kernel));exact rfl)|((with_reducible apply Step.field (k := 2));exact rfl;((decide +kernel));exact rfl)|((with_reducible apply Step.lss);exact rfl;exact rfl;exact rfl)|((with_reducible apply Step.not);exact rfl;exact rfl)|((with_reducible apply Step.pickT);exact rfl;exact rfl;exact rfl;exact rfl;((first|rfl|(simp only [zq1, zq2, zq3, zq4, zq5, zq6];first|assumption|omega))))|((with_reducible apply Step.pickF);exact rfl;exact rfl;exact rfl;exact rfl;((rfl)))|((with_reducible apply Step.callR fit);exact rfl;exact Tryd.func62;exact rfl;exact rfl;exact (hS _))|((with_reducible apply Step.alloc 0);exact rfl;exact ze99;exact rfl;((first|(simp only [zq7, zq8, zq9, zq0, iv_set, bv_set, iv_rep, bv_rep] <;> rfl)|rfl)))|((with_reducible apply Step.storeA (k := 0) (n := 5));exact rfl;exact rfl;exact rfl;exact rfl;((decide +kernel));exact rfl;((kernel_rfl));exact rfl;((first|(simp only [zq7, zq8, zq9, zq0, iv_set, bv_set, iv_rep, bv_rep] <;> rfl)|rfl))))|(with_reducible first|apply AWo.nil|apply AW.seq|apply Then.n|apply AW.regL|apply AW.block|apply AW.skip)|((with_reducible apply AW.condT);exact rfl;((first|rfl|(simp only [zq1, zq2, zq3, zq4, zq5, zq6];first|assumption|omega))))))
     (refine AW.ret ?_; (repeat (first | refine Then.r ?_ | refine InBlk.r ?_)))
     exact ⟨_, rfl, _, by rw [hN, List.append_assoc], .inl ⟨e, rfl⟩⟩
    by_cases h3 : 9 < kg
    ·(repeat (first|(with_reducible refine AWo.cons ?_)|((with_reducible refine Step.id ?_);first|((with_reducible apply Step.gdT);exact rfl;exact rfl;((first|rfl|(simp only [zq1, zq2, zq3, zq4, zq5, zq6];first|assumption|omega))))|((with_reducible apply Step.gdF);exact rfl;exact rfl;((first|rfl|(simp only [zq1, zq2, zq3, zq4, zq5, zq6];first|assumption|omega))))|((with_reducible apply Step.move);exact rfl;exact rfl)|((with_reducible apply Step.assign);exact rfl;exact rfl)|((with_reducible apply Step.load);exact rfl;((decide +kernel));exact rfl;((exact Rd.new rfl rfl)))|((with_reducible apply Step.loadL (n := 5));exact rfl;((decide +kernel));((decide +kernel));exact rfl;((exact RdL.old _ (by assumption)));exact rfl;exact rfl)|((with_reducible apply Step.ix (s := 5));exact rfl;((assumption));exact rfl;((decide +kernel));exact rfl;((omega)))|((with_reducible apply Step.field0);exact rfl;((decide +kernel));exact rfl)|((with_reducible apply Step.field (k := 1));exact rfl;((decide +kernel));exact rfl)|((with_reducible apply Step.field (k := 2));exact rfl;((decide +kernel));exact rfl)|((with_reducible apply Step.lss);exact rfl;exact rfl;exact rfl)|((with_reducible apply Step.gtr);exact rfl;exact rfl;exact rfl)|((with_reducible apply Step.not);exact rfl;exact rfl)|((with_reducible apply Step.pickT);exact rfl;exact rfl;exact rfl;exact rfl;((first|rfl|(simp only [zq1, zq2, zq3, zq4, zq5, zq6];first|assumption|omega))))|((with_reducible apply Step.pickF);exact rfl;exact rfl;exact rfl;exact rfl;((first|rfl|(simp only [zq1, zq2, zq3, zq4, zq5, zq6];first|assumption|omega))))|((with_reducible apply Step.callR fit);exact rfl;exact Tryd.func62;exact rfl;exact rfl;exact (hS _))|((with_reducible apply Step.alloc 0);exact rfl;exact ze99;exact rfl;((first|(simp only [zq7, zq8, zq9, zq0, iv_set, bv_set, iv_rep, bv_rep] <;> rfl)|rfl)))|((with_reducible apply Step.storeA (k := 0) (n := 5));exact rfl;exact rfl;exact rfl;exact rfl;((decide +kernel));exact rfl;((kernel_rfl));exact rfl;((first|(simp only [zq7, zq8, zq9, zq0, iv_set, bv_set, iv_rep, bv_rep] <;> rfl)|rfl))))|(with_reducible first|apply AWo.nil|apply AW.seq|apply Then.n|apply AW.regL|apply AW.block|apply AW.skip)|((with_reducible apply AW.condT);exact rfl;((first|rfl|(simp only [zq1, zq2, zq3, zq4, zq5, zq6];first|assumption|omega))))))
     (refine AW.ret ?_; (repeat (first | refine Then.r ?_ | refine InBlk.r ?_)))
     exact ⟨_, rfl, _, by rw [hN, List.append_assoc], .inl ⟨e, rfl⟩⟩
    by_cases h4 : ko < 1
    ·(repeat (first|(with_reducible refine AWo.cons ?_)|((with_reducible refine Step.id ?_);first|((with_reducible apply Step.gdT);exact rfl;exact rfl;((first|rfl|(simp only [zq1, zq2, zq3, zq4, zq5, zq6];first|assumption|omega))))|((with_reducible apply Step.gdF);exact rfl;exact rfl;(((simp only [zq1, zq2, zq3, zq4, zq5, zq6];first|assumption|omega))))|((with_reducible apply Step.move);exact rfl;exact rfl)|((with_reducible apply Step.assign);exact rfl;exact rfl)|((with_reducible apply Step.load);exact rfl;((decide +kernel));exact rfl;((exact Rd.new rfl rfl)))|((with_reducible apply Step.loadL (n := 5));exact rfl;((decide +kernel));((decide +kernel));exact rfl;((exact RdL.old _ (by assumption)));exact rfl;exact rfl)|((with_reducible apply Step.ix (s := 5));exact rfl;((assumption));exact rfl;((decide +kernel));exact rfl;((omega)))|((with_reducible apply Step.field0);exact rfl;((decide +kernel));exact rfl)|((with_reducible apply Step.field (k := 1));exact rfl;((decide +kernel));exact rfl)|((with_reducible apply Step.field (k := 2));exact rfl;((decide +kernel));exact rfl)|((with_reducible apply Step.field (k := 3));exact rfl;((decide +kernel));exact rfl)|((with_reducible apply Step.lss);exact rfl;exact rfl;exact rfl)|((with_reducible apply Step.gtr);exact rfl;exact rfl;exact rfl)|((with_reducible apply Step.not);exact rfl;exact rfl)|((with_reducible apply Step.pickT);exact rfl;exact rfl;exact rfl;exact rfl;(((simp only [zq1, zq2, zq3, zq4, zq5, zq6];first|assumption|omega))))|((with_reducible apply Step.pickF);exact rfl;exact rfl;exact rfl;exact rfl;((first|rfl|(simp only [zq1, zq2, zq3, zq4, zq5, zq6];first|assumption|omega))))|((with_reducible apply Step.callR fit);exact rfl;exact Tryd.func62;exact rfl;exact rfl;exact (hS _))|((with_reducible apply Step.alloc 0);exact rfl;exact ze99;exact rfl;((first|(simp only [zq7, zq8, zq9, zq0, iv_set, bv_set, iv_rep, bv_rep] <;> rfl)|rfl)))|((with_reducible apply Step.storeA (k := 0) (n := 5));exact rfl;exact rfl;exact rfl;exact rfl;((decide +kernel));exact rfl;((kernel_rfl));exact rfl;((first|(simp only [zq7, zq8, zq9, zq0, iv_set, bv_set, iv_rep, bv_rep] <;> rfl)|rfl))))|(with_reducible first|apply AWo.nil|apply AW.seq|apply Then.n|apply AW.regL|apply AW.block|apply AW.skip)|((with_reducible apply AW.condT);exact rfl;((first|rfl|(simp only [zq1, zq2, zq3, zq4, zq5, zq6];first|assumption|omega))))))
     (refine AW.ret ?_; (repeat (first | refine Then.r ?_ | refine InBlk.r ?_)))
     exact ⟨_, rfl, _, by rw [hN, List.append_assoc], .inl ⟨e, rfl⟩⟩
    have h5 : 1000000 < ko := by omega
    (repeat (first|(with_reducible refine AWo.cons ?_)|((with_reducible refine Step.id ?_);first|((with_reducible apply Step.gdT);exact rfl;exact rfl;((first|rfl|(simp only [zq1, zq2, zq3, zq4, zq5, zq6];first|assumption|omega))))|((with_reducible apply Step.move);exact rfl;exact rfl)|((with_reducible apply Step.assign);exact rfl;exact rfl)|((with_reducible apply Step.load);exact rfl;((decide +kernel));exact rfl;((exact Rd.new rfl rfl)))|((with_reducible apply Step.loadL (n := 5));exact rfl;((decide +kernel));((decide +kernel));exact rfl;((exact RdL.old _ (by assumption)));exact rfl;exact rfl)|((with_reducible apply Step.ix (s := 5));exact rfl;((assumption));exact rfl;((decide +kernel));exact rfl;((omega)))|((with_reducible apply Step.field0);exact rfl;((decide +kernel));exact rfl)|((with_reducible apply Step.field (k := 1));exact rfl;((decide +kernel));exact rfl)|((with_reducible apply Step.field (k := 2));exact rfl;((decide +kernel));exact rfl)|((with_reducible apply Step.field (k := 3));exact rfl;((decide +kernel));exact rfl)|((with_reducible apply Step.lss);exact rfl;exact rfl;exact rfl)|((with_reducible apply Step.gtr);exact rfl;exact rfl;exact rfl)|((with_reducible apply Step.not);exact rfl;exact rfl)|((with_reducible apply Step.pickF);exact rfl;exact rfl;exact rfl;exact rfl;((first|rfl|(simp only [zq1, zq2, zq3, zq4, zq5, zq6];first|assumption|omega))))|((with_reducible apply Step.callR fit);exact rfl;exact Tryd.func62;exact rfl;exact rfl;exact (hS _))|((with_reducible apply Step.alloc 0);exact rfl;exact ze99;exact rfl;((first|(simp only [zq7, zq8, zq9, zq0, iv_set, bv_set, iv_rep, bv_rep] <;> rfl)|rfl)))|((with_reducible apply Step.storeA (k := 0) (n := 5));exact rfl;exact rfl;exact rfl;exact rfl;((decide +kernel));exact rfl;((kernel_rfl));exact rfl;((first|(simp only [zq7, zq8, zq9, zq0, iv_set, bv_set, iv_rep, bv_rep] <;> rfl)|rfl))))|(with_reducible first|apply AWo.nil|apply AW.seq|apply Then.n|apply AW.regL|apply AW.block|apply AW.skip)|((with_reducible apply AW.condT);exact rfl;(((simp only [zq1, zq2, zq3, zq4, zq5, zq6];first|assumption|omega))))))
    (refine AW.ret ?_; (repeat (first | refine Then.r ?_ | refine InBlk.r ?_)))
    exact ⟨_, rfl, _, by rw [hN, List.append_assoc], .inl ⟨e, rfl⟩⟩
   ·have e3 : sidesB kw kh = false := decide_eq_false h1
    rw [e3] at hS
    (repeat (first|(with_reducible refine AWo.cons ?_)|((with_reducible refine Step.id ?_);first|((with_reducible apply Step.gdF);exact rfl;exact rfl;((rfl)))|((with_reducible apply Step.move);exact rfl;exact rfl)|((with_reducible apply Step.assign);exact rfl;exact rfl)|((with_reducible apply Step.load);exact rfl;((decide +kernel));exact rfl;((exact Rd.new rfl rfl)))|((with_reducible apply Step.loadL (n := 5));exact rfl;((decide +kernel));((decide +kernel));exact rfl;((exact RdL.old _ (by assumption)));exact rfl;exact rfl)|((with_reducible apply Step.ix (s := 5));exact rfl;((assumption));exact rfl;((decide +kernel));exact rfl;((omega)))|((with_reducible apply Step.field0);exact rfl;((decide +kernel));exact rfl)|((with_reducible apply Step.field (k := 1));exact rfl;((decide +kernel));exact rfl)|((with_reducible apply Step.lss);exact rfl;exact rfl;exact rfl)|((with_reducible apply Step.not);exact rfl;exact rfl)|((with_reducible apply Step.pickT);exact rfl;exact rfl;exact rfl;exact rfl;((rfl)))|((with_reducible apply Step.callR fit);exact rfl;exact Tryd.func62;exact rfl;exact rfl;exact (hS _))|((with_reducible apply Step.alloc 0);exact rfl;exact ze99;exact rfl;((first|(simp only [zq7, zq8, zq9, zq0, iv_set, bv_set, iv_rep, bv_rep] <;> rfl)|rfl)))|((with_reducible apply Step.storeA (k := 0) (n := 5));exact rfl;exact rfl;exact rfl;exact rfl;((decide +kernel));exact rfl;((kernel_rfl));exact rfl;((first|(simp only [zq7, zq8, zq9, zq0, iv_set, bv_set, iv_rep, bv_rep] <;> rfl)|rfl))))|(with_reducible first|apply AWo.nil|apply AW.seq|apply Then.n|apply AW.regL|apply AW.block|apply AW.skip)|((with_reducible apply AW.condT);exact rfl;((first|rfl|(simp only [zq1, zq2, zq3, zq4, zq5, zq6];first|assumption|omega))))))
    (refine AW.ret ?_; (repeat (first | refine Then.r ?_ | refine InBlk.r ?_)))
    exact ⟨_, rfl, _, by rw [hN, List.append_assoc], .inl ⟨e, rfl⟩⟩
  | true =>
   have hkk := kdB_in hkd
   have hT : ∀ T, Strs (M' ++ T) (.slice q1 B.length c1) B := fun T => hsm.old T
   have hd' : ∀ j, j < i + 1 → kdB (K.getD j default) = true := fun j hj => by
    rcases Nat.lt_succ_iff_lt_or_eq.1 hj with h | rfl
    ·exact hd j h
    ·exact hkd
   have hmore := fun tp m1 => hP.more (tp := tp) (m1 := m1) (l := l) hpq
   have hsame := fun L => hP.same (l := l) L
   have hpb : Rd M' p 4 (.map (some q)) := ⟨_, hP.pb, rfl⟩
   generalize K.getD i default = k at rk hkk hmore hsame
   obtain ⟨kw, kh, kg, ko, kt⟩ := k
   simp only [Kd.cells] at rk
   simp only at hkk hmore hsame
   have hS := fun m => sides_ok (m := m) kw kh
   have e3 : sidesB kw kh = true := decide_eq_true (by omega)
   rw [e3] at hS
   (repeat (first|(with_reducible refine AWo.cons ?_)|((with_reducible refine Step.id ?_);first|((with_reducible apply Step.gdT);exact rfl;exact rfl;((first|rfl|(simp only [zq1, zq2, zq3, zq4, zq5, zq6];first|assumption|omega))))|((with_reducible apply Step.move);exact rfl;exact rfl)|((with_reducible apply Step.load);exact rfl;((decide +kernel));exact rfl;((first|exact Rd.new rfl rfl|exact Rd.old _ (by assumption))))|((with_reducible apply Step.loadL (n := 5));exact rfl;((decide +kernel));((decide +kernel));exact rfl;((exact RdL.old _ (by assumption)));exact rfl;exact rfl)|((with_reducible apply Step.ix (s := 5));exact rfl;((assumption));exact rfl;((decide +kernel));exact rfl;((omega)))|((with_reducible apply Step.field0);exact rfl;((decide +kernel));exact rfl)|((with_reducible apply Step.field (k := 1));exact rfl;((decide +kernel));exact rfl)|((with_reducible apply Step.field (k := 2));exact rfl;((decide +kernel));exact rfl)|((with_reducible apply Step.field (k := 3));exact rfl;((decide +kernel));exact rfl)|((with_reducible apply Step.field (k := 4));exact rfl;((decide +kernel));exact rfl)|((with_reducible apply Step.lss);exact rfl;exact rfl;exact rfl)|((with_reducible apply Step.gtr);exact rfl;exact rfl;exact rfl)|((with_reducible apply Step.not);exact rfl;exact rfl)|((with_reducible apply Step.nilp);exact rfl;exact rfl)|((with_reducible apply Step.pickF);exact rfl;exact rfl;exact rfl;exact rfl;((first|rfl|(simp only [zq1, zq2, zq3, zq4, zq5, zq6];first|assumption|omega))))|((with_reducible apply Step.callR fit);exact rfl;exact Tryd.func62;exact rfl;exact rfl;exact (hS _))|((with_reducible apply Step.alloc 0);exact rfl;exact ze99;exact rfl;((first|(simp only [zq7, zq8, zq9, zq0, iv_set, bv_set, iv_rep, bv_rep] <;> rfl)|rfl)))|((with_reducible apply Step.storeA (k := 0) (n := 5));exact rfl;exact rfl;exact rfl;exact rfl;((decide +kernel));exact rfl;((kernel_rfl));exact rfl;((first|(simp only [zq7, zq8, zq9, zq0, iv_set, bv_set, iv_rep, bv_rep] <;> rfl)|rfl))))|(with_reducible first|apply AWo.nil|apply AW.seq|apply Then.n|apply AW.regL|apply AW.block)|((with_reducible apply AW.drawL fit);((decide +kernel)))|(with_reducible apply AW.skip)|((with_reducible apply AW.condT);exact rfl;(((simp only [zq1, zq2, zq3, zq4, zq5, zq6];first|assumption|omega))))|((with_reducible apply AW.condF);exact rfl;(((simp only [zq1, zq2, zq3, zq4, zq5, zq6];first|assumption|omega))))))
   ((with_reducible apply Step.mapGet);exact rfl;exact rfl;exact (get_old _ hq);exact rfl;exact rfl;exact un103;exact un3;exact zr141;exact rfl)
   cases hlk : mlook l kg with
   | some v =>
    obtain ⟨tp, rfl, _⟩ := hl1 _ _ hlk
    simp only [Option.getD_some]
    (repeat (first|(with_reducible refine AWo.cons ?_)|((with_reducible refine Step.id ?_);first|((with_reducible apply Step.move);exact rfl;exact rfl)|((with_reducible apply Step.ptrNot);exact rfl;exact rfl;exact un141;exact rfl)|((with_reducible apply Step.add);exact rfl;exact rfl;((omega));exact rfl))|(with_reducible first|apply AWo.nil|apply Then.n|apply AW.regL|apply InBlk.n|apply AW.skip)|((with_reducible apply AW.condF);exact rfl;((rfl)))))
    exact ⟨_, _, by omega, (by repeat (first | exact trivial | (refine And.intro rfl ?_))), i + 1, rfl, hlt, hd', hsame _ hq hl1 hl2 (by rw [hlk]; rfl), rfl⟩
   | none =>
    simp only [Option.getD_none]
    (repeat (first|(with_reducible refine AWo.cons ?_)|((with_reducible refine Step.id ?_);first|((with_reducible apply Step.move);exact rfl;exact rfl)|((with_reducible apply Step.load);exact rfl;((decide +kernel));exact rfl;((exact Rd.new rfl rfl)))|((with_reducible apply Step.field (k := 2));exact rfl;((decide +kernel));exact rfl)|((with_reducible apply Step.field (k := 4));exact rfl;((decide +kernel));exact rfl)|((with_reducible apply Step.ptrNil);exact rfl;exact rfl;exact un141;exact rfl)|((with_reducible apply Step.nilp);exact rfl;exact rfl))|(with_reducible first|apply AWo.nil|apply Then.n)|((with_reducible apply AW.drawT fit (T := (.step 0 (.step 1 (.step 2 (.step 4 (.step 6 (.step 7 (.step 8 (.both (.step 3 (.both (.step 5 (.step 9 (.step 10 (.step 11 (.step 12 (.step 13 .done)))))) (.step 9 (.step 5 (.step 10 (.step 11 (.step 12 (.step 13 .done)))))))) (.both (.step 5 (.both (.step 3 (.step 9 (.step 10 (.step 11 (.step 12 (.step 13 .done)))))) (.step 9 (.step 3 (.step 10 (.step 11 (.step 12 (.step 13 .done)))))))) (.step 9 (.step 3 (.step 5 (.step 10 (.step 11 (.step 12 (.step 13 .done))))))))))))))))));((decide +kernel)))|((with_reducible apply AWt.step);exact rfl)|((with_reducible apply AW.condT);exact rfl;((rfl)))))
    (repeat' (first|((with_reducible refine Step.id ?_);((with_reducible apply Step.load);exact rfl;((decide +kernel));exact rfl;((first|exact Rd.new rfl rfl|exact Rd.old _ (by assumption)))))|((with_reducible apply AWt.step);exact rfl)|refine AWt.both ?_ ?_))
    all_goals
     ((with_reducible apply Step.callX fit);exact rfl;exact Tryd.func63;exact rfl;exact rfl;exact (NewTable_ok (hT _) hv (by omega)))
     rintro v m1 ⟨L1, hL1⟩ ⟨tp, htl, rfl, hTab⟩
     have z1 : Rd m1 (M'.length + 0) 2 (.int .i64 kg) := by rw [hL1]; exact Rd.old _ (Rd.new rfl rfl)
     have z2 : Rd m1 p 4 (.map (some q)) := by rw [hL1, List.append_assoc]; exact hpb.old _
     have z3 : m1[q]? = some (some { cells := [], kind := .map, ents := mks l }) := by rw [hL1, List.append_assoc]; exact get_old _ hq
     have z4 := hmore tp m1 ⟨_, by rw [hL1, List.append_assoc]⟩ hq hTab hl1 hl2
     clear hL1 hTab
     rw [List.append_nil]
     (repeat' (first|((with_reducible refine Step.id ?_);first|((with_reducible apply Step.move);exact rfl;exact rfl)|((with_reducible apply Step.load);exact rfl;((decide +kernel));exact rfl;((assumption)))|((with_reducible apply Step.extract);exact rfl;exact rfl;exact rfl))|((with_reducible apply AWt.step);exact rfl)))
     all_goals
      ((with_reducible apply Step.mapAdd);exact rfl;exact rfl;exact rfl;exact z3;exact hlk;exact un103;exact un3)
      (repeat' (first|(with_reducible refine AWo.cons ?_)|((with_reducible refine Step.id ?_);first|((with_reducible apply Step.move);exact rfl;exact rfl)|((with_reducible apply Step.add);exact rfl;exact rfl;((omega));exact rfl))|(with_reducible first|apply AWo.nil|apply Then.n|apply AW.regL|apply AWt.done|apply InBlk.n)))
      all_goals exact ⟨_, _, by omega, (by repeat (first | exact trivial | (refine And.intro rfl ?_))), i + 1, rfl, hlt, hd', z4, rfl⟩
 ·obtain rfl : i = K.length := by omega
  (repeat (first|(with_reducible refine AWo.cons ?_)|((with_reducible refine Step.id ?_);first|((with_reducible apply Step.move);exact rfl;exact rfl)|((with_reducible apply Step.assign);exact rfl;exact rfl)|((with_reducible apply Step.lss);exact rfl;exact rfl;exact rfl))|(with_reducible first|apply AWo.nil|apply AW.seq|apply Then.n|apply AW.regL|apply AW.exit|apply InBlk.hit|apply Then.e)|((with_reducible apply AW.condF);exact rfl;(((simp only [zq1, zq2, zq3, zq4, zq5, zq6];first|assumption|omega))))))
  (refine AW.ret ?_; (repeat (first | refine Then.r ?_ | refine InBlk.r ?_)))
  have hg : goodB B K = true := by simp [goodB, boardB, hv, hb, kinds_all (by omega) hd]
  exact ⟨_, rfl, N, hN, .inr ⟨hg, p, by omega, rfl, hP.done hs hk⟩⟩
theorem newBoard_ok {m : AM} {sv kv : Value} {B : Brd} {K : List Kd} (hs : Strs m sv B) (hk : Kds m kv K) (hg : goodB B K = true) :
  ACall Tryd.prog 34 #[sv, kv] m (More (fun m' v => ∃ p, m.length ≤ p ∧ v = .pointer (some ⟨p, 0, none⟩) ∧ BoardAt m' p B K) m) :=
 (newBoard_any hs hk).mono fun v m' ⟨N, hN, h⟩ => ⟨N, hN, by
  rcases h with ⟨h1, _⟩ | ⟨_, h⟩
  ·rw [hg] at h1; cases h1
  ·exact h⟩
theorem newBoard_no {m : AM} {sv kv : Value} {B : Brd} {K : List Kd} (hs : Strs m sv B) (hk : Kds m kv K) (hg : goodB B K = false) : ACall Tryd.prog 34 #[sv, kv] m (Ret (.pointer none) m) :=
 ACall.drop (Ren.of_g0 rfl) ((newBoard_any hs hk).mono fun v m' ⟨N, hN, h⟩ => by
  rcases h with ⟨_, h⟩ | ⟨h1, _⟩
  ·exact ⟨h, N, hN⟩
  ·rw [hg] at h1; cases h1)
def upB (k : Kd) (r : R4) : Bool := decide (k.w = r.a ∧ k.h = r.b)
def tnB (k : Kd) (r : R4) : Bool := k.turn && decide (k.w = r.b ∧ k.h = r.a)
def turnedB (k : Kd) (r : R4) : Bool := !upB k r && tnB k r
def okB (B : Brd) (k : Kd) (r : R4) : Bool := (upB k r || tnB k r) && decide (cnt B k.g r.x r.y r.a r.b = r.a * r.b)
theorem fits_aux (A C D : Prop) [Decidable A] [Decidable C] [Decidable D] (t : Bool) :
  (if A then (if D then some false else none) else if t = true ∧ C then (if D then some true else none) else none) = if ((decide A || (t && decide C)) && decide D) = true then some (!decide A && (t && decide C)) else none := by
 by_cases A <;> by_cases C <;> by_cases D <;> cases t <;> simp [*]
theorem fitsM_eq (B : Brd) (k : Kd) (r : R4) : fitsM B k r = if okB B k r = true then some (turnedB k r) else none :=
 fits_aux (k.w = r.a ∧ k.h = r.b) (k.w = r.b ∧ k.h = r.a) (cnt B k.g r.x r.y r.a r.b = r.a * r.b) k.turn
theorem fitsM_some (B : Brd) (k : Kd) (r : R4) : (fitsM B k r).isSome = okB B k r := by
 rw [fitsM_eq]; cases okB B k r <;> rfl
theorem area_le {w h : Nat} {r : R4} (hw : w ≤ 16) (hh : h ≤ 16) (hr : r.ok w h) : r.a * r.b ≤ 256 := by
 unfold R4.ok at hr
 exact Nat.le_trans (Nat.mul_le_mul (show r.a ≤ 16 by omega) (show r.b ≤ 16 by omega)) (by omega)
set_option maxHeartbeats 4000000 in
set_option maxRecDepth 100000 in
theorem fits_ok {m : AM} {p : Nat} {B : Brd} {K : List Kd} (hB : BoardAt m p B K) (hg : goodB B K = true) {k : Nat} (hk : k < K.length) {r : R4} (hr : r.ok (bw B) (bh B)) :
  ACall Tryd.prog 78 #[.pointer (some ⟨p, 0, none⟩), .int .i64 (k : Nat), r.rc.v] m (Ret (.tuple #[.bool (turnedB (K.getD k default) r), .bool (okB B (K.getD k default) r)]) m) := by
 have hgb : boardB B = true := by simp only [goodB, Bool.and_eq_true] at hg; exact hg.1
 have hin := good_in hgb
 have hab := area_le hin.2.2.2 hin.2.1 hr
 obtain ⟨_, ⟨kv, k1, A, O, sl, la, rd⟩, _, _, q, l, b, h7, h8, h9, h10, h11⟩ := hB
 obtain ⟨tp, h12, h13⟩ := h11 k hk
 have rk := rd k hk
 generalize K.getD k default = kd at *
 obtain ⟨kw, kh, kg, ko, kt⟩ := kd
 simp only [Kd.cells] at rk h12 h13
 obtain ⟨q', c', rfl⟩ := sl.shape
 have hC := fun T => Count_ok (h13.old T) (by omega) (by omega) hr
 obtain ⟨x, y, a, bb⟩ := r
 simp only at hab hC
 have e1 : (a : Int) * (bb : Int) = ((a * bb : Nat) : Int) := by simp
 have e2 : ((cnt B kg x y a bb : Nat) : Int) = ((a * bb : Nat) : Int) ↔ cnt B kg x y a bb = a * bb := by omega
 change ACall Tryd.prog 78 #[.pointer (some ⟨p, 0, none⟩), .int .i64 (k : Nat), .agg #[.int .i64 (x : Nat), .int .i64 (y : Nat), .int .i64 (a : Nat), .int .i64 (bb : Nat)]] m (Ret (.tuple #[.bool (turnedB ⟨kw, kh, kg, ko, kt⟩ ⟨x, y, a, bb⟩), .bool (okB B ⟨kw, kh, kg, ko, kt⟩ ⟨x, y, a, bb⟩)]) m)
 refine ACall.start Tryd.func78 rfl rfl ?_
 have fin : ∀ (T : AM) (tn : Bool), tn = turnedB ⟨kw, kh, kg, ko, kt⟩ ⟨x, y, a, bb⟩ → (upB ⟨kw, kh, kg, ko, kt⟩ ⟨x, y, a, bb⟩ || tnB ⟨kw, kh, kg, ko, kt⟩ ⟨x, y, a, bb⟩) = true →
   Ret (.tuple #[.bool (turnedB ⟨kw, kh, kg, ko, kt⟩ ⟨x, y, a, bb⟩), .bool (okB B ⟨kw, kh, kg, ko, kt⟩ ⟨x, y, a, bb⟩)]) m (.tuple #[.bool tn, .bool (decide (((cnt B kg x y a bb : Nat) : Int) = ((a * bb : Nat) : Int)))]) m := fun T tn h1 h2 => by
  refine ⟨?_, rfl⟩
  have e3 : decide (((cnt B kg x y a bb : Nat) : Int) = ((a * bb : Nat) : Int)) = decide (cnt B kg x y a bb = a * bb) := decide_eq_decide.2 e2
  unfold okB
  rw [h1, h2, Bool.true_and, e3]
 have no : (upB ⟨kw, kh, kg, ko, kt⟩ ⟨x, y, a, bb⟩ || tnB ⟨kw, kh, kg, ko, kt⟩ ⟨x, y, a, bb⟩) = false →
   Ret (.tuple #[.bool (turnedB ⟨kw, kh, kg, ko, kt⟩ ⟨x, y, a, bb⟩), .bool (okB B ⟨kw, kh, kg, ko, kt⟩ ⟨x, y, a, bb⟩)]) m (.tuple #[.bool false, .bool false]) m := fun h2 => by
  refine ⟨?_, rfl⟩
  have h3 : tnB ⟨kw, kh, kg, ko, kt⟩ ⟨x, y, a, bb⟩ = false := (Bool.or_eq_false_iff.1 h2).2
  unfold okB turnedB
  rw [h2, h3, Bool.false_and, Bool.and_false]
 by_cases u : kw = (a : Int) ∧ kh = (bb : Int)
 ·obtain ⟨u1, u2⟩ := u
  (repeat' (first|(with_reducible refine AWo.cons ?_)|((with_reducible refine Step.id ?_);first|((with_reducible apply Step.gdT);exact rfl;exact rfl;(((simp only [zq1, zq2, zq3, zq4, zq5, zq6];first|assumption|omega))))|((with_reducible apply Step.move);exact rfl;exact rfl)|((with_reducible apply Step.assign);exact rfl;exact rfl)|((with_reducible apply Step.load);exact rfl;((decide +kernel));exact rfl;((first|exact Rd.new rfl rfl|exact Rd.old _ (by assumption))))|((with_reducible apply Step.loadL (n := 5));exact rfl;((decide +kernel));((decide +kernel));exact rfl;((exact RdL.old _ (by assumption)));exact rfl;exact rfl)|((with_reducible apply Step.ix (s := 5));exact rfl;((assumption));exact rfl;((decide +kernel));exact rfl;((omega)))|((with_reducible apply Step.field0);exact rfl;((decide +kernel));exact rfl)|((with_reducible apply Step.field (k := 1));exact rfl;((decide +kernel));exact rfl)|((with_reducible apply Step.field (k := 2));exact rfl;((decide +kernel));exact rfl)|((with_reducible apply Step.field (k := 3));exact rfl;((decide +kernel));exact rfl)|((with_reducible apply Step.field (k := 4));exact rfl;((decide +kernel));exact rfl)|((with_reducible apply Step.eql);exact rfl;exact rfl;exact rfl)|((with_reducible apply Step.nilp);exact rfl;exact rfl)|((with_reducible apply Step.pickT);exact rfl;exact rfl;exact rfl;exact rfl;(((simp only [zq1, zq2, zq3, zq4, zq5, zq6];first|assumption|omega))))|((with_reducible apply Step.box 0);exact rfl;exact rfl;((kernel_rfl));exact rfl;((first|(simp only [zq7, zq8, zq9, zq0, iv_set, bv_set, iv_rep, bv_rep] <;> rfl)|rfl)))|((with_reducible apply Step.alloc 1);exact rfl;exact ze99;exact rfl;((first|(simp only [zq7, zq8, zq9, zq0, iv_set, bv_set, iv_rep, bv_rep] <;> rfl)|rfl)))|((with_reducible apply Step.storeA (k := 1) (n := 5));exact rfl;exact rfl;exact rfl;exact rfl;((decide +kernel));exact rfl;((kernel_rfl));exact rfl;((first|(simp only [zq7, zq8, zq9, zq0, iv_set, bv_set, iv_rep, bv_rep] <;> rfl)|rfl))))|(with_reducible first|apply AWo.nil|apply AW.seq|apply Then.n|apply AW.regL|apply AW.block)|((with_reducible apply AW.drawL fit);((decide +kernel)))|(with_reducible first|apply InBlk.n|apply AW.skip)|((with_reducible apply AW.condT);exact rfl;(((simp only [zq1, zq2, zq3, zq4, zq5, zq6];first|assumption|omega))))))
  all_goals
   ((with_reducible apply Step.mapGet);exact rfl;exact rfl;exact (get_old _ h8);exact h9;exact h10;exact un103;exact un3;exact zr141;exact rfl)
   rw [h12]
   simp only [Option.getD_some]
   (repeat' (first|(with_reducible refine AWo.cons ?_)|((with_reducible refine Step.id ?_);first|((with_reducible apply Step.move);exact rfl;exact rfl)|((with_reducible apply Step.assign);exact rfl;exact rfl)|((with_reducible apply Step.load);exact rfl;((decide +kernel));exact rfl;((exact Rd.new rfl rfl)))|((with_reducible apply Step.loadL (n := 4));exact rfl;((decide +kernel));((decide +kernel));exact rfl;((exact RdL.new rfl rfl));exact rfl;exact rfl)|((with_reducible apply Step.field (k := 2));exact rfl;((decide +kernel));exact rfl)|((with_reducible apply Step.field (k := 3));exact rfl;((decide +kernel));exact rfl)|((with_reducible apply Step.mulE);exact rfl;exact rfl;((assumption));((omega));exact rfl)|((with_reducible apply Step.eql);exact rfl;exact rfl;exact rfl)|((with_reducible apply Step.extract);exact rfl;exact rfl;exact rfl)|((with_reducible apply Step.callR fit);exact rfl;exact Tryd.func102;exact rfl;exact rfl;exact (hC _)))|(with_reducible first|apply AWo.nil|apply AW.seq|apply Then.n)|((with_reducible apply AW.drawL fit);((decide +kernel)))))
   all_goals
    (refine AW.retD (l := [(6, _), (7, _)]) (by repeat (first | exact trivial | (refine And.intro ⟨rfl, by (exact .bool _)⟩ ?_))) ?_; (repeat (first | refine Then.r ?_ | refine InBlk.r ?_)))
    exact ⟨_, rfl, fin [] _ (by simp [turnedB, upB, u1, u2]) (by simp [upB, u1, u2])⟩
 have hup : upB ⟨kw, kh, kg, ko, kt⟩ ⟨x, y, a, bb⟩ = false := decide_eq_false u
 by_cases v : kt = true ∧ kw = (bb : Int) ∧ kh = (a : Int)
 ·obtain ⟨v0, v1, v2⟩ := v
  subst v0
  have htn : tnB ⟨kw, kh, kg, ko, true⟩ ⟨x, y, a, bb⟩ = true := decide_eq_true (p := kw = (bb : Int) ∧ kh = (a : Int)) ⟨v1, v2⟩
  by_cases u1 : kw = (a : Int)
  ·exact absurd ⟨u1, by omega⟩ u
  ·(repeat' (first|(with_reducible refine AWo.cons ?_)|((with_reducible refine Step.id ?_);first|((with_reducible apply Step.gdT);exact rfl;exact rfl;((first|rfl|(simp only [zq1, zq2, zq3, zq4, zq5, zq6];first|assumption|omega))))|((with_reducible apply Step.gdF);exact rfl;exact rfl;(((simp only [zq1, zq2, zq3, zq4, zq5, zq6];first|assumption|omega))))|((with_reducible apply Step.move);exact rfl;exact rfl)|((with_reducible apply Step.assign);exact rfl;exact rfl)|((with_reducible apply Step.load);exact rfl;((decide +kernel));exact rfl;((first|exact Rd.new rfl rfl|exact Rd.old _ (by assumption))))|((with_reducible apply Step.loadL (n := 5));exact rfl;((decide +kernel));((decide +kernel));exact rfl;((exact RdL.old _ (by assumption)));exact rfl;exact rfl)|((with_reducible apply Step.ix (s := 5));exact rfl;((assumption));exact rfl;((decide +kernel));exact rfl;((omega)))|((with_reducible apply Step.field0);exact rfl;((decide +kernel));exact rfl)|((with_reducible apply Step.field (k := 1));exact rfl;((decide +kernel));exact rfl)|((with_reducible apply Step.field (k := 2));exact rfl;((decide +kernel));exact rfl)|((with_reducible apply Step.field (k := 3));exact rfl;((decide +kernel));exact rfl)|((with_reducible apply Step.field (k := 4));exact rfl;((decide +kernel));exact rfl)|((with_reducible apply Step.eql);exact rfl;exact rfl;exact rfl)|((with_reducible apply Step.nilp);exact rfl;exact rfl)|((with_reducible apply Step.pickT);exact rfl;exact rfl;exact rfl;exact rfl;((first|rfl|(simp only [zq1, zq2, zq3, zq4, zq5, zq6];first|assumption|omega))))|((with_reducible apply Step.pickF);exact rfl;exact rfl;exact rfl;exact rfl;(((simp only [zq1, zq2, zq3, zq4, zq5, zq6];first|assumption|omega))))|((with_reducible apply Step.box 0);exact rfl;exact rfl;((kernel_rfl));exact rfl;((first|(simp only [zq7, zq8, zq9, zq0, iv_set, bv_set, iv_rep, bv_rep] <;> rfl)|rfl)))|((with_reducible apply Step.alloc 1);exact rfl;exact ze99;exact rfl;((first|(simp only [zq7, zq8, zq9, zq0, iv_set, bv_set, iv_rep, bv_rep] <;> rfl)|rfl)))|((with_reducible apply Step.storeA (k := 1) (n := 5));exact rfl;exact rfl;exact rfl;exact rfl;((decide +kernel));exact rfl;((kernel_rfl));exact rfl;((first|(simp only [zq7, zq8, zq9, zq0, iv_set, bv_set, iv_rep, bv_rep] <;> rfl)|rfl))))|(with_reducible first|apply AWo.nil|apply AW.seq|apply Then.n|apply AW.regL|apply AW.block)|((with_reducible apply AW.drawL fit);((decide +kernel)))|(with_reducible apply InBlk.n)|((with_reducible apply AW.condT);exact rfl;(((simp only [zq1, zq2, zq3, zq4, zq5, zq6];first|assumption|omega))))|((with_reducible apply AW.condF);exact rfl;((rfl)))))
   all_goals
    ((with_reducible apply Step.mapGet);exact rfl;exact rfl;exact (get_old _ h8);exact h9;exact h10;exact un103;exact un3;exact zr141;exact rfl)
    rw [h12]
    simp only [Option.getD_some]
    (repeat' (first|(with_reducible refine AWo.cons ?_)|((with_reducible refine Step.id ?_);first|((with_reducible apply Step.move);exact rfl;exact rfl)|((with_reducible apply Step.assign);exact rfl;exact rfl)|((with_reducible apply Step.load);exact rfl;((decide +kernel));exact rfl;((exact Rd.new rfl rfl)))|((with_reducible apply Step.loadL (n := 4));exact rfl;((decide +kernel));((decide +kernel));exact rfl;((exact RdL.new rfl rfl));exact rfl;exact rfl)|((with_reducible apply Step.field (k := 2));exact rfl;((decide +kernel));exact rfl)|((with_reducible apply Step.field (k := 3));exact rfl;((decide +kernel));exact rfl)|((with_reducible apply Step.mulE);exact rfl;exact rfl;((assumption));((omega));exact rfl)|((with_reducible apply Step.eql);exact rfl;exact rfl;exact rfl)|((with_reducible apply Step.extract);exact rfl;exact rfl;exact rfl)|((with_reducible apply Step.callR fit);exact rfl;exact Tryd.func102;exact rfl;exact rfl;exact (hC _)))|(with_reducible first|apply AWo.nil|apply AW.seq|apply Then.n)|((with_reducible apply AW.drawL fit);((decide +kernel)))))
    all_goals
     (refine AW.retD (l := [(6, _), (7, _)]) (by repeat (first | exact trivial | (refine And.intro ⟨rfl, by (exact .bool _)⟩ ?_))) ?_; (repeat (first | refine Then.r ?_ | refine InBlk.r ?_)))
     exact ⟨_, rfl, fin [] _ (by unfold turnedB; rw [hup, htn]; rfl) (by rw [htn, Bool.or_true])⟩
 ·have htn : tnB ⟨kw, kh, kg, ko, kt⟩ ⟨x, y, a, bb⟩ = false := by
   unfold tnB
   cases kt with
   | false => rfl
   | true => exact decide_eq_false fun h => v ⟨rfl, h⟩
  have hn : (upB ⟨kw, kh, kg, ko, kt⟩ ⟨x, y, a, bb⟩ || tnB ⟨kw, kh, kg, ko, kt⟩ ⟨x, y, a, bb⟩) = false := by rw [hup, htn]; rfl
  cases kt with
  | false =>
   by_cases u1 : kw = (a : Int)
   ·have u2 : ¬ kh = (bb : Int) := fun h => u ⟨u1, h⟩
    (repeat (first|(with_reducible refine AWo.cons ?_)|((with_reducible refine Step.id ?_);first|((with_reducible apply Step.gdT);exact rfl;exact rfl;(((simp only [zq1, zq2, zq3, zq4, zq5, zq6];first|assumption|omega))))|((with_reducible apply Step.gdF);exact rfl;exact rfl;((rfl)))|((with_reducible apply Step.move);exact rfl;exact rfl)|((with_reducible apply Step.assign);exact rfl;exact rfl)|((with_reducible apply Step.load);exact rfl;((decide +kernel));exact rfl;((first|exact Rd.new rfl rfl|exact Rd.old _ (by assumption))))|((with_reducible apply Step.loadL (n := 5));exact rfl;((decide +kernel));((decide +kernel));exact rfl;((exact RdL.old _ (by assumption)));exact rfl;exact rfl)|((with_reducible apply Step.ix (s := 5));exact rfl;((assumption));exact rfl;((decide +kernel));exact rfl;((omega)))|((with_reducible apply Step.field0);exact rfl;((decide +kernel));exact rfl)|((with_reducible apply Step.field (k := 1));exact rfl;((decide +kernel));exact rfl)|((with_reducible apply Step.field (k := 2));exact rfl;((decide +kernel));exact rfl)|((with_reducible apply Step.field (k := 3));exact rfl;((decide +kernel));exact rfl)|((with_reducible apply Step.field (k := 4));exact rfl;((decide +kernel));exact rfl)|((with_reducible apply Step.eql);exact rfl;exact rfl;exact rfl)|((with_reducible apply Step.nilp);exact rfl;exact rfl)|((with_reducible apply Step.pickT);exact rfl;exact rfl;exact rfl;exact rfl;(((simp only [zq1, zq2, zq3, zq4, zq5, zq6];first|assumption|omega))))|((with_reducible apply Step.pickF);exact rfl;exact rfl;exact rfl;exact rfl;((rfl)))|((with_reducible apply Step.box 0);exact rfl;exact rfl;((kernel_rfl));exact rfl;((first|(simp only [zq7, zq8, zq9, zq0, iv_set, bv_set, iv_rep, bv_rep] <;> rfl)|rfl)))|((with_reducible apply Step.alloc 1);exact rfl;exact ze99;exact rfl;((first|(simp only [zq7, zq8, zq9, zq0, iv_set, bv_set, iv_rep, bv_rep] <;> rfl)|rfl)))|((with_reducible apply Step.storeA (k := 1) (n := 5));exact rfl;exact rfl;exact rfl;exact rfl;((decide +kernel));exact rfl;((kernel_rfl));exact rfl;((first|(simp only [zq7, zq8, zq9, zq0, iv_set, bv_set, iv_rep, bv_rep] <;> rfl)|rfl))))|(with_reducible first|apply AWo.nil|apply AW.seq|apply Then.n|apply AW.regL|apply AW.block)|((with_reducible apply AW.condF);exact rfl;((first|rfl|(simp only [zq1, zq2, zq3, zq4, zq5, zq6];first|assumption|omega))))))
    (refine AW.retD (l := [(6, _), (7, _)]) (by repeat (first | exact trivial | (refine And.intro ⟨rfl, by (exact .bool _)⟩ ?_))) ?_; (repeat (first | refine Then.r ?_ | refine InBlk.r ?_)))
    exact ⟨_, rfl, no hn⟩
   ·(repeat (first|(with_reducible refine AWo.cons ?_)|((with_reducible refine Step.id ?_);first|((with_reducible apply Step.gdF);exact rfl;exact rfl;((first|rfl|(simp only [zq1, zq2, zq3, zq4, zq5, zq6];first|assumption|omega))))|((with_reducible apply Step.move);exact rfl;exact rfl)|((with_reducible apply Step.assign);exact rfl;exact rfl)|((with_reducible apply Step.load);exact rfl;((decide +kernel));exact rfl;((first|exact Rd.new rfl rfl|exact Rd.old _ (by assumption))))|((with_reducible apply Step.loadL (n := 5));exact rfl;((decide +kernel));((decide +kernel));exact rfl;((exact RdL.old _ (by assumption)));exact rfl;exact rfl)|((with_reducible apply Step.ix (s := 5));exact rfl;((assumption));exact rfl;((decide +kernel));exact rfl;((omega)))|((with_reducible apply Step.field0);exact rfl;((decide +kernel));exact rfl)|((with_reducible apply Step.field (k := 1));exact rfl;((decide +kernel));exact rfl)|((with_reducible apply Step.field (k := 2));exact rfl;((decide +kernel));exact rfl)|((with_reducible apply Step.field (k := 4));exact rfl;((decide +kernel));exact rfl)|((with_reducible apply Step.eql);exact rfl;exact rfl;exact rfl)|((with_reducible apply Step.nilp);exact rfl;exact rfl)|((with_reducible apply Step.pickF);exact rfl;exact rfl;exact rfl;exact rfl;((first|rfl|(simp only [zq1, zq2, zq3, zq4, zq5, zq6];first|assumption|omega))))|((with_reducible apply Step.box 0);exact rfl;exact rfl;((kernel_rfl));exact rfl;((first|(simp only [zq7, zq8, zq9, zq0, iv_set, bv_set, iv_rep, bv_rep] <;> rfl)|rfl)))|((with_reducible apply Step.alloc 1);exact rfl;exact ze99;exact rfl;((first|(simp only [zq7, zq8, zq9, zq0, iv_set, bv_set, iv_rep, bv_rep] <;> rfl)|rfl)))|((with_reducible apply Step.storeA (k := 1) (n := 5));exact rfl;exact rfl;exact rfl;exact rfl;((decide +kernel));exact rfl;((kernel_rfl));exact rfl;((first|(simp only [zq7, zq8, zq9, zq0, iv_set, bv_set, iv_rep, bv_rep] <;> rfl)|rfl))))|(with_reducible first|apply AWo.nil|apply AW.seq|apply Then.n|apply AW.regL|apply AW.block)|((with_reducible apply AW.condF);exact rfl;((rfl)))))
    (refine AW.retD (l := [(6, _), (7, _)]) (by repeat (first | exact trivial | (refine And.intro ⟨rfl, by (exact .bool _)⟩ ?_))) ?_; (repeat (first | refine Then.r ?_ | refine InBlk.r ?_)))
    exact ⟨_, rfl, no hn⟩
  | true =>
   by_cases u1 : kw = (a : Int)
   ·have u2 : ¬ kh = (bb : Int) := fun h => u ⟨u1, h⟩
    by_cases v1 : kw = (bb : Int)
    ·have v2 : ¬ kh = (a : Int) := fun h => v ⟨rfl, v1, h⟩
     (repeat (first|(with_reducible refine AWo.cons ?_)|((with_reducible refine Step.id ?_);first|((with_reducible apply Step.gdT);exact rfl;exact rfl;((first|rfl|(simp only [zq1, zq2, zq3, zq4, zq5, zq6];first|assumption|omega))))|((with_reducible apply Step.move);exact rfl;exact rfl)|((with_reducible apply Step.assign);exact rfl;exact rfl)|((with_reducible apply Step.load);exact rfl;((decide +kernel));exact rfl;((first|exact Rd.new rfl rfl|exact Rd.old _ (by assumption))))|((with_reducible apply Step.loadL (n := 5));exact rfl;((decide +kernel));((decide +kernel));exact rfl;((exact RdL.old _ (by assumption)));exact rfl;exact rfl)|((with_reducible apply Step.ix (s := 5));exact rfl;((assumption));exact rfl;((decide +kernel));exact rfl;((omega)))|((with_reducible apply Step.field0);exact rfl;((decide +kernel));exact rfl)|((with_reducible apply Step.field (k := 1));exact rfl;((decide +kernel));exact rfl)|((with_reducible apply Step.field (k := 2));exact rfl;((decide +kernel));exact rfl)|((with_reducible apply Step.field (k := 3));exact rfl;((decide +kernel));exact rfl)|((with_reducible apply Step.field (k := 4));exact rfl;((decide +kernel));exact rfl)|((with_reducible apply Step.eql);exact rfl;exact rfl;exact rfl)|((with_reducible apply Step.nilp);exact rfl;exact rfl)|((with_reducible apply Step.pickT);exact rfl;exact rfl;exact rfl;exact rfl;((first|rfl|(simp only [zq1, zq2, zq3, zq4, zq5, zq6];first|assumption|omega))))|((with_reducible apply Step.box 0);exact rfl;exact rfl;((kernel_rfl));exact rfl;((first|(simp only [zq7, zq8, zq9, zq0, iv_set, bv_set, iv_rep, bv_rep] <;> rfl)|rfl)))|((with_reducible apply Step.alloc 1);exact rfl;exact ze99;exact rfl;((first|(simp only [zq7, zq8, zq9, zq0, iv_set, bv_set, iv_rep, bv_rep] <;> rfl)|rfl)))|((with_reducible apply Step.storeA (k := 1) (n := 5));exact rfl;exact rfl;exact rfl;exact rfl;((decide +kernel));exact rfl;((kernel_rfl));exact rfl;((first|(simp only [zq7, zq8, zq9, zq0, iv_set, bv_set, iv_rep, bv_rep] <;> rfl)|rfl))))|(with_reducible first|apply AWo.nil|apply AW.seq|apply Then.n|apply AW.regL|apply AW.block)|((with_reducible apply AW.condF);exact rfl;(((simp only [zq1, zq2, zq3, zq4, zq5, zq6];first|assumption|omega))))))
     (refine AW.retD (l := [(6, _), (7, _)]) (by repeat (first | exact trivial | (refine And.intro ⟨rfl, by (exact .bool _)⟩ ?_))) ?_; (repeat (first | refine Then.r ?_ | refine InBlk.r ?_)))
     exact ⟨_, rfl, no hn⟩
    ·(repeat (first|(with_reducible refine AWo.cons ?_)|((with_reducible refine Step.id ?_);first|((with_reducible apply Step.gdT);exact rfl;exact rfl;((first|rfl|(simp only [zq1, zq2, zq3, zq4, zq5, zq6];first|assumption|omega))))|((with_reducible apply Step.gdF);exact rfl;exact rfl;(((simp only [zq1, zq2, zq3, zq4, zq5, zq6];first|assumption|omega))))|((with_reducible apply Step.move);exact rfl;exact rfl)|((with_reducible apply Step.assign);exact rfl;exact rfl)|((with_reducible apply Step.load);exact rfl;((decide +kernel));exact rfl;((first|exact Rd.new rfl rfl|exact Rd.old _ (by assumption))))|((with_reducible apply Step.loadL (n := 5));exact rfl;((decide +kernel));((decide +kernel));exact rfl;((exact RdL.old _ (by assumption)));exact rfl;exact rfl)|((with_reducible apply Step.ix (s := 5));exact rfl;((assumption));exact rfl;((decide +kernel));exact rfl;((omega)))|((with_reducible apply Step.field0);exact rfl;((decide +kernel));exact rfl)|((with_reducible apply Step.field (k := 1));exact rfl;((decide +kernel));exact rfl)|((with_reducible apply Step.field (k := 2));exact rfl;((decide +kernel));exact rfl)|((with_reducible apply Step.field (k := 3));exact rfl;((decide +kernel));exact rfl)|((with_reducible apply Step.field (k := 4));exact rfl;((decide +kernel));exact rfl)|((with_reducible apply Step.eql);exact rfl;exact rfl;exact rfl)|((with_reducible apply Step.nilp);exact rfl;exact rfl)|((with_reducible apply Step.pickT);exact rfl;exact rfl;exact rfl;exact rfl;((first|rfl|(simp only [zq1, zq2, zq3, zq4, zq5, zq6];first|assumption|omega))))|((with_reducible apply Step.pickF);exact rfl;exact rfl;exact rfl;exact rfl;(((simp only [zq1, zq2, zq3, zq4, zq5, zq6];first|assumption|omega))))|((with_reducible apply Step.box 0);exact rfl;exact rfl;((kernel_rfl));exact rfl;((first|(simp only [zq7, zq8, zq9, zq0, iv_set, bv_set, iv_rep, bv_rep] <;> rfl)|rfl)))|((with_reducible apply Step.alloc 1);exact rfl;exact ze99;exact rfl;((first|(simp only [zq7, zq8, zq9, zq0, iv_set, bv_set, iv_rep, bv_rep] <;> rfl)|rfl)))|((with_reducible apply Step.storeA (k := 1) (n := 5));exact rfl;exact rfl;exact rfl;exact rfl;((decide +kernel));exact rfl;((kernel_rfl));exact rfl;((first|(simp only [zq7, zq8, zq9, zq0, iv_set, bv_set, iv_rep, bv_rep] <;> rfl)|rfl))))|(with_reducible first|apply AWo.nil|apply AW.seq|apply Then.n|apply AW.regL|apply AW.block)|((with_reducible apply AW.condF);exact rfl;((first|rfl|(simp only [zq1, zq2, zq3, zq4, zq5, zq6];first|assumption|omega))))))
     (refine AW.retD (l := [(6, _), (7, _)]) (by repeat (first | exact trivial | (refine And.intro ⟨rfl, by (exact .bool _)⟩ ?_))) ?_; (repeat (first | refine Then.r ?_ | refine InBlk.r ?_)))
     exact ⟨_, rfl, no hn⟩
   ·by_cases v1 : kw = (bb : Int)
    ·have v2 : ¬ kh = (a : Int) := fun h => v ⟨rfl, v1, h⟩
     (repeat (first|(with_reducible refine AWo.cons ?_)|((with_reducible refine Step.id ?_);first|((with_reducible apply Step.gdT);exact rfl;exact rfl;((first|rfl|(simp only [zq1, zq2, zq3, zq4, zq5, zq6];first|assumption|omega))))|((with_reducible apply Step.gdF);exact rfl;exact rfl;(((simp only [zq1, zq2, zq3, zq4, zq5, zq6];first|assumption|omega))))|((with_reducible apply Step.move);exact rfl;exact rfl)|((with_reducible apply Step.assign);exact rfl;exact rfl)|((with_reducible apply Step.load);exact rfl;((decide +kernel));exact rfl;((first|exact Rd.new rfl rfl|exact Rd.old _ (by assumption))))|((with_reducible apply Step.loadL (n := 5));exact rfl;((decide +kernel));((decide +kernel));exact rfl;((exact RdL.old _ (by assumption)));exact rfl;exact rfl)|((with_reducible apply Step.ix (s := 5));exact rfl;((assumption));exact rfl;((decide +kernel));exact rfl;((omega)))|((with_reducible apply Step.field0);exact rfl;((decide +kernel));exact rfl)|((with_reducible apply Step.field (k := 1));exact rfl;((decide +kernel));exact rfl)|((with_reducible apply Step.field (k := 2));exact rfl;((decide +kernel));exact rfl)|((with_reducible apply Step.field (k := 3));exact rfl;((decide +kernel));exact rfl)|((with_reducible apply Step.field (k := 4));exact rfl;((decide +kernel));exact rfl)|((with_reducible apply Step.eql);exact rfl;exact rfl;exact rfl)|((with_reducible apply Step.nilp);exact rfl;exact rfl)|((with_reducible apply Step.pickT);exact rfl;exact rfl;exact rfl;exact rfl;((first|rfl|(simp only [zq1, zq2, zq3, zq4, zq5, zq6];first|assumption|omega))))|((with_reducible apply Step.pickF);exact rfl;exact rfl;exact rfl;exact rfl;(((simp only [zq1, zq2, zq3, zq4, zq5, zq6];first|assumption|omega))))|((with_reducible apply Step.box 0);exact rfl;exact rfl;((kernel_rfl));exact rfl;((first|(simp only [zq7, zq8, zq9, zq0, iv_set, bv_set, iv_rep, bv_rep] <;> rfl)|rfl)))|((with_reducible apply Step.alloc 1);exact rfl;exact ze99;exact rfl;((first|(simp only [zq7, zq8, zq9, zq0, iv_set, bv_set, iv_rep, bv_rep] <;> rfl)|rfl)))|((with_reducible apply Step.storeA (k := 1) (n := 5));exact rfl;exact rfl;exact rfl;exact rfl;((decide +kernel));exact rfl;((kernel_rfl));exact rfl;((first|(simp only [zq7, zq8, zq9, zq0, iv_set, bv_set, iv_rep, bv_rep] <;> rfl)|rfl))))|(with_reducible first|apply AWo.nil|apply AW.seq|apply Then.n|apply AW.regL|apply AW.block)|((with_reducible apply AW.condF);exact rfl;((first|rfl|(simp only [zq1, zq2, zq3, zq4, zq5, zq6];first|assumption|omega))))))
     (refine AW.retD (l := [(6, _), (7, _)]) (by repeat (first | exact trivial | (refine And.intro ⟨rfl, by (exact .bool _)⟩ ?_))) ?_; (repeat (first | refine Then.r ?_ | refine InBlk.r ?_)))
     exact ⟨_, rfl, no hn⟩
    ·(repeat (first|(with_reducible refine AWo.cons ?_)|((with_reducible refine Step.id ?_);first|((with_reducible apply Step.gdT);exact rfl;exact rfl;((rfl)))|((with_reducible apply Step.gdF);exact rfl;exact rfl;(((simp only [zq1, zq2, zq3, zq4, zq5, zq6];first|assumption|omega))))|((with_reducible apply Step.move);exact rfl;exact rfl)|((with_reducible apply Step.assign);exact rfl;exact rfl)|((with_reducible apply Step.load);exact rfl;((decide +kernel));exact rfl;((first|exact Rd.new rfl rfl|exact Rd.old _ (by assumption))))|((with_reducible apply Step.loadL (n := 5));exact rfl;((decide +kernel));((decide +kernel));exact rfl;((exact RdL.old _ (by assumption)));exact rfl;exact rfl)|((with_reducible apply Step.ix (s := 5));exact rfl;((assumption));exact rfl;((decide +kernel));exact rfl;((omega)))|((with_reducible apply Step.field0);exact rfl;((decide +kernel));exact rfl)|((with_reducible apply Step.field (k := 1));exact rfl;((decide +kernel));exact rfl)|((with_reducible apply Step.field (k := 2));exact rfl;((decide +kernel));exact rfl)|((with_reducible apply Step.field (k := 3));exact rfl;((decide +kernel));exact rfl)|((with_reducible apply Step.field (k := 4));exact rfl;((decide +kernel));exact rfl)|((with_reducible apply Step.eql);exact rfl;exact rfl;exact rfl)|((with_reducible apply Step.nilp);exact rfl;exact rfl)|((with_reducible apply Step.pickT);exact rfl;exact rfl;exact rfl;exact rfl;((rfl)))|((with_reducible apply Step.pickF);exact rfl;exact rfl;exact rfl;exact rfl;(((simp only [zq1, zq2, zq3, zq4, zq5, zq6];first|assumption|omega))))|((with_reducible apply Step.box 0);exact rfl;exact rfl;((kernel_rfl));exact rfl;((first|(simp only [zq7, zq8, zq9, zq0, iv_set, bv_set, iv_rep, bv_rep] <;> rfl)|rfl)))|((with_reducible apply Step.alloc 1);exact rfl;exact ze99;exact rfl;((first|(simp only [zq7, zq8, zq9, zq0, iv_set, bv_set, iv_rep, bv_rep] <;> rfl)|rfl)))|((with_reducible apply Step.storeA (k := 1) (n := 5));exact rfl;exact rfl;exact rfl;exact rfl;((decide +kernel));exact rfl;((kernel_rfl));exact rfl;((first|(simp only [zq7, zq8, zq9, zq0, iv_set, bv_set, iv_rep, bv_rep] <;> rfl)|rfl))))|(with_reducible first|apply AWo.nil|apply AW.seq|apply Then.n|apply AW.regL|apply AW.block)|((with_reducible apply AW.condF);exact rfl;((rfl)))))
     (refine AW.retD (l := [(6, _), (7, _)]) (by repeat (first | exact trivial | (refine And.intro ⟨rfl, by (exact .bool _)⟩ ?_))) ?_; (repeat (first | refine Then.r ?_ | refine InBlk.r ?_)))
     exact ⟨_, rfl, no hn⟩
theorem BoardAt.lt {m : AM} {p : Nat} {B : Brd} {K : List Kd} (h : BoardAt m p B K) : p < m.length := by
 obtain ⟨b, h1, _⟩ := h.w
 exact (List.getElem?_eq_some_iff.1 h1).1
set_option maxHeartbeats 4000000 in
set_option maxRecDepth 100000 in
theorem leaf_ok {m : AM} {p : Nat} {B : Brd} {K : List Kd} (hB : BoardAt m p B K) (hg : goodB B K = true) {r : R4} (hr : r.ok (bw B) (bh B)) :
  ACall Tryd.prog 52 #[.pointer (some ⟨p, 0, none⟩), r.rc.v] m (Ret (.int .i64 (leafM B K r)) m) := by
 have hp := hB.lt
 have hf := fun T k hk => fits_ok (hB.old T) hg (k := k) hk hr
 have hkl : K.length ≤ 12 := by simp only [goodB, kindsB, Bool.and_eq_true, decide_eq_true_eq] at hg; exact hg.2.1
 obtain ⟨_, ⟨kv, k1, A, O, sl, la, rd⟩, _, _, _⟩ := hB
 obtain ⟨q', c', rfl⟩ := sl.shape
 obtain ⟨x, y, a, b⟩ := r
 have r0 : ∀ T : AM, RdL (m ++ (some { cells := [.int .i64 (x : Nat), .int .i64 (y : Nat), .int .i64 (a : Nat), .int .i64 (b : Nat)] } :: T)) (m.length + 0) 0 [.int .i64 (x : Nat), .int .i64 (y : Nat), .int .i64 (a : Nat), .int .i64 (b : Nat)] := fun T => RdL.new rfl rfl
 change ACall Tryd.prog 52 #[.pointer (some ⟨p, 0, none⟩), .agg #[.int .i64 (x : Nat), .int .i64 (y : Nat), .int .i64 (a : Nat), .int .i64 (b : Nat)]] m _
 change ∀ T k, k < K.length → ACall Tryd.prog 78 #[.pointer (some ⟨p, 0, none⟩), .int .i64 (k : Nat), .agg #[.int .i64 (x : Nat), .int .i64 (y : Nat), .int .i64 (a : Nat), .int .i64 (b : Nat)]] (m ++ T) _ at hf
 generalize (⟨x, y, a, b⟩ : R4) = r at hf ⊢
 refine ACall.start Tryd.func52 rfl rfl ?_
 (repeat (first|(with_reducible refine AWo.cons ?_)|((with_reducible refine Step.id ?_);first|((with_reducible apply Step.move);exact rfl;exact rfl)|((with_reducible apply Step.assign);exact rfl;exact rfl)|((with_reducible apply Step.load);exact rfl;((decide +kernel));exact rfl;((exact Rd.old _ (by assumption))))|((with_reducible apply Step.field (k := 1));exact rfl;((decide +kernel));exact rfl)|((with_reducible apply Step.len);exact rfl;((assumption));((decide +kernel));exact rfl)|((with_reducible apply Step.nilp);exact rfl;exact rfl)|((with_reducible apply Step.box 0);exact rfl;exact rfl;((kernel_rfl));exact rfl;((first|(simp only [zq7, zq8, zq9, zq0, iv_set, bv_set, iv_rep, bv_rep] <;> rfl)|rfl))))|(with_reducible first|apply AWo.nil|apply AW.seq|apply Then.n|apply AW.regL|apply AW.block)))
 refine AW.loopT (fun n t L => ∃ i : Nat, n = K.length - i ∧ i ≤ K.length ∧ L = [some { cells := [.int .i64 (x : Nat), .int .i64 (y : Nat), .int .i64 (a : Nat), .int .i64 (b : Nat)] }] ∧
  t = [(0, .pointer (some ⟨p, 0, none⟩)), (3, .pointer (some ⟨m.length + 0, 0, none⟩)), (5, .int .i64 (leafN B K r i)), (13, .slice q' K.length c'), (14, .int .i64 (K.length : Nat)), (15, .int .i64 (i : Nat))])
  ⟨_, _, _, (Or.inl ⟨rfl, (by repeat (first | exact trivial | (refine And.intro rfl ?_)))⟩), 0, rfl, Nat.zero_le _, rfl, rfl⟩ ?_
 rintro n t L ⟨i, rfl, hi, rfl, rfl⟩
 rcases Nat.lt_or_ge i K.length with hlt | hge
 ·have rk := rd i hlt
  have hfi := fun T => hf T i hlt
  have hst : leafN B K r (i + 1) = if okB B (K.getD i default) r = true ∧ leafN B K r i < (K.getD i default).worth then (K.getD i default).worth else leafN B K r i := by rw [← fitsM_some]; rfl
  generalize K.getD i default = kd at *
  obtain ⟨kw, kh, kg, ko, kt⟩ := kd
  simp only [Kd.cells] at rk
  simp only at hst
  have wl : Low m.length (.slice q' K.length c') := Low.of_sl sl la
  by_cases h1 : ko ≤ leafN B K r i
  ·have e : leafN B K r (i + 1) = leafN B K r i := by rw [hst, if_neg (by omega)]
   (repeat (first|(with_reducible refine AWo.cons ?_)|((with_reducible refine Step.id ?_);first|((with_reducible apply Step.move);exact rfl;exact rfl)|((with_reducible apply Step.assign);exact rfl;exact rfl)|((with_reducible apply Step.load);exact rfl;((decide +kernel));exact rfl;((exact Rd.new rfl rfl)))|((with_reducible apply Step.loadL (n := 5));exact rfl;((decide +kernel));((decide +kernel));exact rfl;((exact RdL.old _ (by assumption)));exact rfl;exact rfl)|((with_reducible apply Step.ix (s := 5));exact rfl;((assumption));exact rfl;((decide +kernel));exact rfl;((omega)))|((with_reducible apply Step.field (k := 3));exact rfl;((decide +kernel));exact rfl)|((with_reducible apply Step.add);exact rfl;exact rfl;((omega));exact rfl)|((with_reducible apply Step.lss);exact rfl;exact rfl;exact rfl)|((with_reducible apply Step.leq);exact rfl;exact rfl;exact rfl)|((with_reducible apply Step.alloc 1);exact rfl;exact ze99;exact rfl;((first|(simp only [zq7, zq8, zq9, zq0, iv_set, bv_set, iv_rep, bv_rep] <;> rfl)|rfl)))|((with_reducible apply Step.storeA (k := 1) (n := 5));exact rfl;exact rfl;exact rfl;exact rfl;((decide +kernel));exact rfl;((kernel_rfl));exact rfl;((first|(simp only [zq7, zq8, zq9, zq0, iv_set, bv_set, iv_rep, bv_rep] <;> rfl)|rfl))))|(with_reducible first|apply AWo.nil|apply AW.seq|apply Then.n|apply AW.regL|apply AW.block|apply AW.exit|apply InBlk.hit|apply Then.e|apply AW.skip)|((with_reducible apply AW.condT);exact rfl;(((simp only [zq1, zq2, zq3, zq4, zq5, zq6];first|assumption|omega))))))
   exact ⟨_, [(0, .pointer (some ⟨p, 0, none⟩)), (3, .pointer (some ⟨m.length + 0, 0, none⟩)), (5, .int .i64 (leafN B K r i)), (13, .slice q' K.length c'), (14, .int .i64 (K.length : Nat)), (15, .int .i64 (i + 1 : Nat))], [some { cells := [.int .i64 (x : Nat), .int .i64 (y : Nat), .int .i64 (a : Nat), .int .i64 (b : Nat)] }], by omega, (Back.trim rfl rfl (by repeat (first | exact CellsOk.nil | refine CellsOk.cons (by (intro v hv; simp at hv; first | (subst hv; rfl) | (rcases hv with rfl | rfl <;> rfl) | (rcases hv with rfl | rfl | rfl <;> rfl) | (rcases hv with rfl | rfl | rfl | rfl <;> rfl))) ?_)) (by repeat (first | exact trivial | (refine And.intro ⟨rfl, by (first | exact Low.rid (by assumption) (by simp) | exact .int _ _ | exact .ptr _ _ (by first | (simp; done) | omega | (simp; omega)))⟩ ?_)))), i + 1, rfl, by omega, rfl, by rw [e]⟩
  ·cases h2 : okB B ⟨kw, kh, kg, ko, kt⟩ r with
   | true =>
    have e : leafN B K r (i + 1) = ko := by rw [hst, if_pos ⟨h2, by omega⟩]
    rw [h2] at hfi
    (repeat (first|(with_reducible refine AWo.cons ?_)|((with_reducible refine Step.id ?_);first|((with_reducible apply Step.move);exact rfl;exact rfl)|((with_reducible apply Step.assign);exact rfl;exact rfl)|((with_reducible apply Step.load);exact rfl;((decide +kernel));exact rfl;((exact Rd.new rfl rfl)))|((with_reducible apply Step.loadL (n := 4));exact rfl;((decide +kernel));((decide +kernel));exact rfl;((exact RdL.new rfl rfl));exact rfl;exact rfl)|((with_reducible apply Step.loadL (n := 5));exact rfl;((decide +kernel));((decide +kernel));exact rfl;((exact RdL.old _ (by assumption)));exact rfl;exact rfl)|((with_reducible apply Step.ix (s := 5));exact rfl;((assumption));exact rfl;((decide +kernel));exact rfl;((omega)))|((with_reducible apply Step.field (k := 3));exact rfl;((decide +kernel));exact rfl)|((with_reducible apply Step.add);exact rfl;exact rfl;((omega));exact rfl)|((with_reducible apply Step.lss);exact rfl;exact rfl;exact rfl)|((with_reducible apply Step.leq);exact rfl;exact rfl;exact rfl)|((with_reducible apply Step.extract);exact rfl;exact rfl;exact rfl)|((with_reducible apply Step.callR fit);exact rfl;exact Tryd.func78;exact rfl;exact rfl;exact (hfi _))|((with_reducible apply Step.alloc 1);exact rfl;exact ze99;exact rfl;((first|(simp only [zq7, zq8, zq9, zq0, iv_set, bv_set, iv_rep, bv_rep] <;> rfl)|rfl)))|((with_reducible apply Step.storeA (k := 1) (n := 5));exact rfl;exact rfl;exact rfl;exact rfl;((decide +kernel));exact rfl;((kernel_rfl));exact rfl;((first|(simp only [zq7, zq8, zq9, zq0, iv_set, bv_set, iv_rep, bv_rep] <;> rfl)|rfl))))|(with_reducible first|apply AWo.nil|apply AW.seq|apply Then.n|apply AW.regL|apply AW.block|apply InBlk.n|apply AW.skip)|((with_reducible apply AW.condT);exact rfl;((first|rfl|(simp only [zq1, zq2, zq3, zq4, zq5, zq6];first|assumption|omega))))|((with_reducible apply AW.condF);exact rfl;(((simp only [zq1, zq2, zq3, zq4, zq5, zq6];first|assumption|omega))))))
    exact ⟨_, [(0, .pointer (some ⟨p, 0, none⟩)), (3, .pointer (some ⟨m.length + 0, 0, none⟩)), (5, .int .i64 ko), (13, .slice q' K.length c'), (14, .int .i64 (K.length : Nat)), (15, .int .i64 (i + 1 : Nat))], [some { cells := [.int .i64 (x : Nat), .int .i64 (y : Nat), .int .i64 (a : Nat), .int .i64 (b : Nat)] }], by omega, (Back.trim rfl rfl (by repeat (first | exact CellsOk.nil | refine CellsOk.cons (by (intro v hv; simp at hv; first | (subst hv; rfl) | (rcases hv with rfl | rfl <;> rfl) | (rcases hv with rfl | rfl | rfl <;> rfl) | (rcases hv with rfl | rfl | rfl | rfl <;> rfl))) ?_)) (by repeat (first | exact trivial | (refine And.intro ⟨rfl, by (first | exact Low.rid (by assumption) (by simp) | exact .int _ _ | exact .ptr _ _ (by first | (simp; done) | omega | (simp; omega)))⟩ ?_)))), i + 1, rfl, by omega, rfl, by rw [e]⟩
   | false =>
    have e : leafN B K r (i + 1) = leafN B K r i := by rw [hst, if_neg (by simp [h2])]
    rw [h2] at hfi
    (repeat (first|(with_reducible refine AWo.cons ?_)|((with_reducible refine Step.id ?_);first|((with_reducible apply Step.move);exact rfl;exact rfl)|((with_reducible apply Step.assign);exact rfl;exact rfl)|((with_reducible apply Step.load);exact rfl;((decide +kernel));exact rfl;((exact Rd.new rfl rfl)))|((with_reducible apply Step.loadL (n := 4));exact rfl;((decide +kernel));((decide +kernel));exact rfl;((exact RdL.new rfl rfl));exact rfl;exact rfl)|((with_reducible apply Step.loadL (n := 5));exact rfl;((decide +kernel));((decide +kernel));exact rfl;((exact RdL.old _ (by assumption)));exact rfl;exact rfl)|((with_reducible apply Step.ix (s := 5));exact rfl;((assumption));exact rfl;((decide +kernel));exact rfl;((omega)))|((with_reducible apply Step.field (k := 3));exact rfl;((decide +kernel));exact rfl)|((with_reducible apply Step.add);exact rfl;exact rfl;((omega));exact rfl)|((with_reducible apply Step.lss);exact rfl;exact rfl;exact rfl)|((with_reducible apply Step.leq);exact rfl;exact rfl;exact rfl)|((with_reducible apply Step.extract);exact rfl;exact rfl;exact rfl)|((with_reducible apply Step.callR fit);exact rfl;exact Tryd.func78;exact rfl;exact rfl;exact (hfi _))|((with_reducible apply Step.alloc 1);exact rfl;exact ze99;exact rfl;((first|(simp only [zq7, zq8, zq9, zq0, iv_set, bv_set, iv_rep, bv_rep] <;> rfl)|rfl)))|((with_reducible apply Step.storeA (k := 1) (n := 5));exact rfl;exact rfl;exact rfl;exact rfl;((decide +kernel));exact rfl;((kernel_rfl));exact rfl;((first|(simp only [zq7, zq8, zq9, zq0, iv_set, bv_set, iv_rep, bv_rep] <;> rfl)|rfl))))|(with_reducible first|apply AWo.nil|apply AW.seq|apply Then.n|apply AW.regL|apply AW.block|apply InBlk.n|apply AW.skip)|((with_reducible apply AW.condT);exact rfl;(((simp only [zq1, zq2, zq3, zq4, zq5, zq6];first|assumption|omega))))|((with_reducible apply AW.condF);exact rfl;((first|rfl|(simp only [zq1, zq2, zq3, zq4, zq5, zq6];first|assumption|omega))))))
    exact ⟨_, [(0, .pointer (some ⟨p, 0, none⟩)), (3, .pointer (some ⟨m.length + 0, 0, none⟩)), (5, .int .i64 (leafN B K r i)), (13, .slice q' K.length c'), (14, .int .i64 (K.length : Nat)), (15, .int .i64 (i + 1 : Nat))], [some { cells := [.int .i64 (x : Nat), .int .i64 (y : Nat), .int .i64 (a : Nat), .int .i64 (b : Nat)] }], by omega, (Back.trim rfl rfl (by repeat (first | exact CellsOk.nil | refine CellsOk.cons (by (intro v hv; simp at hv; first | (subst hv; rfl) | (rcases hv with rfl | rfl <;> rfl) | (rcases hv with rfl | rfl | rfl <;> rfl) | (rcases hv with rfl | rfl | rfl | rfl <;> rfl))) ?_)) (by repeat (first | exact trivial | (refine And.intro ⟨rfl, by (first | exact Low.rid (by assumption) (by simp) | exact .int _ _ | exact .ptr _ _ (by first | (simp; done) | omega | (simp; omega)))⟩ ?_)))), i + 1, rfl, by omega, rfl, by rw [e]⟩
 ·obtain rfl : i = K.length := by omega
  (repeat (first|(with_reducible refine AWo.cons ?_)|((with_reducible refine Step.id ?_);first|((with_reducible apply Step.move);exact rfl;exact rfl)|((with_reducible apply Step.assign);exact rfl;exact rfl)|((with_reducible apply Step.lss);exact rfl;exact rfl;exact rfl))|(with_reducible first|apply AWo.nil|apply AW.seq|apply Then.n|apply AW.regL|apply AW.exit|apply InBlk.hit|apply Then.e)|((with_reducible apply AW.condF);exact rfl;(((simp only [zq1, zq2, zq3, zq4, zq5, zq6];first|assumption|omega))))))
  (refine AW.retD (l := [(4, _)]) (by repeat (first | exact trivial | (refine And.intro ⟨rfl, by (exact .int _ _)⟩ ?_))) ?_; (repeat (first | refine Then.r ?_ | refine InBlk.r ?_)))
  exact ⟨_, rfl, rfl, rfl⟩
theorem num_ok {m : AM} {w h : Nat} {r : R4} (hw : w ≤ 16) (hh : h ≤ 16) (hr : r.ok w h) : ACall Tryd.prog 36 #[.int .i64 (w : Nat), .int .i64 (h : Nat), r.rc.v] m (Ret (.int .i64 (r.at w h : Nat)) m) := by
 have := num_at hw hr
 rw [← this]
 exact number_ok hw hh hr.1 hr.2.2.1 hr.2.1 hr.2.2.2
def opI (d : Bool) : Int := if d then 2 else 3
set_option maxRecDepth 100000 in
theorem length_ok {m : AM} (r : R4) (d : Bool) : ACall Tryd.prog 53 #[r.rc.v, .int .i64 (opI d)] m (Ret (.int .i64 (r.len d : Nat)) m) := by
 obtain ⟨x, y, a, b⟩ := r
 change ACall Tryd.prog 53 #[.agg #[.int .i64 (x : Nat), .int .i64 (y : Nat), .int .i64 (a : Nat), .int .i64 (b : Nat)], _] m _
 cases d with
 | true =>
  change ACall Tryd.prog 53 #[_, .int .i64 2] m (Ret (.int .i64 (a : Nat)) m)
  refine ACall.start Tryd.func53 rfl rfl ?_
  (repeat (first|(with_reducible refine AWo.cons ?_)|((with_reducible refine Step.id ?_);first|((with_reducible apply Step.move);exact rfl;exact rfl)|((with_reducible apply Step.assign);exact rfl;exact rfl)|((with_reducible apply Step.load);exact rfl;((decide +kernel));exact rfl;((exact Rd.new rfl rfl)))|((with_reducible apply Step.field (k := 2));exact rfl;((decide +kernel));exact rfl)|((with_reducible apply Step.eql);exact rfl;exact rfl;exact rfl)|((with_reducible apply Step.box 0);exact rfl;exact rfl;((kernel_rfl));exact rfl;((first|(simp only [zq7, zq8, zq9, zq0, iv_set, bv_set, iv_rep, bv_rep] <;> rfl)|rfl))))|(with_reducible first|apply AWo.nil|apply AW.seq|apply Then.n|apply AW.regL)|((with_reducible apply AW.condT);exact rfl;((rfl)))))
  (refine AW.retD (l := [(4, _)]) (by repeat (first | exact trivial | (refine And.intro ⟨rfl, by (exact .int _ _)⟩ ?_))) ?_; (repeat (first | refine Then.r ?_ | refine InBlk.r ?_)))
  exact ⟨_, rfl, rfl, rfl⟩
 | false =>
  change ACall Tryd.prog 53 #[_, .int .i64 3] m (Ret (.int .i64 (b : Nat)) m)
  refine ACall.start Tryd.func53 rfl rfl ?_
  (repeat (first|(with_reducible refine AWo.cons ?_)|((with_reducible refine Step.id ?_);first|((with_reducible apply Step.move);exact rfl;exact rfl)|((with_reducible apply Step.assign);exact rfl;exact rfl)|((with_reducible apply Step.load);exact rfl;((decide +kernel));exact rfl;((exact Rd.new rfl rfl)))|((with_reducible apply Step.field (k := 3));exact rfl;((decide +kernel));exact rfl)|((with_reducible apply Step.eql);exact rfl;exact rfl;exact rfl)|((with_reducible apply Step.box 0);exact rfl;exact rfl;((kernel_rfl));exact rfl;((first|(simp only [zq7, zq8, zq9, zq0, iv_set, bv_set, iv_rep, bv_rep] <;> rfl)|rfl))))|(with_reducible first|apply AWo.nil|apply AW.seq|apply Then.n|apply AW.regL|apply AW.skip)|((with_reducible apply AW.condF);exact rfl;((rfl)))))
  (refine AW.retD (l := [(4, _)]) (by repeat (first | exact trivial | (refine And.intro ⟨rfl, by (exact .int _ _)⟩ ?_))) ?_; (repeat (first | refine Then.r ?_ | refine InBlk.r ?_)))
  exact ⟨_, rfl, rfl, rfl⟩
theorem Ren.tup2 {ρ : Nat → Nat} {n : Nat} {a b : Value} (ha : Ren ρ n a a) (hb : Ren ρ n b b) : Ren ρ n (.tuple #[a, b]) (.tuple #[a, b]) := .tuple _ _ rfl fun i hi => by
 simp at hi
 rcases (show i = 0 ∨ i = 1 by omega) with rfl | rfl
 ·exact ha
 ·exact hb
set_option maxHeartbeats 8000000 in
set_option maxRecDepth 100000 in
theorem part_ok {m : AM} (r : R4) (d : Bool) {i : Nat} (h1 : 1 ≤ i) (h2 : i + 1 ≤ r.len d) (hx : r.x ≤ 16 ∧ r.y ≤ 16 ∧ r.a ≤ 16 ∧ r.b ≤ 16) :
  ACall Tryd.prog 54 #[r.rc.v, .int .i64 (opI d), .int .i64 (i : Nat)] m (Ret (.tuple #[(r.lo d i).rc.v, (r.hi d i).rc.v]) m) := by
 refine ACall.drop (Ren.tup2 (Ren.aggI [_, _, _, _]) (Ren.aggI [_, _, _, _])) ?_
 obtain ⟨x, y, a, b⟩ := r
 simp only at hx
 change ACall Tryd.prog 54 #[.agg #[.int .i64 (x : Nat), .int .i64 (y : Nat), .int .i64 (a : Nat), .int .i64 (b : Nat)], _, _] m _
 refine ACall.start Tryd.func54 rfl rfl ?_
 (repeat (first|(with_reducible refine AWo.cons ?_)|((with_reducible refine Step.id ?_);first|((with_reducible apply Step.box 0);exact rfl;exact rfl;((kernel_rfl));exact rfl;((first|(simp only [zq7, zq8, zq9, zq0, iv_set, bv_set, iv_rep, bv_rep] <;> rfl)|rfl)))|((with_reducible apply Step.alloc 1);exact rfl;exact ze23;exact rfl;((first|(simp only [zq7, zq8, zq9, zq0, iv_set, bv_set, iv_rep, bv_rep] <;> rfl)|rfl)))|((with_reducible apply Step.alloc 2);exact rfl;exact ze23;exact rfl;((first|(simp only [zq7, zq8, zq9, zq0, iv_set, bv_set, iv_rep, bv_rep] <;> rfl)|rfl))))|(with_reducible apply AWo.nil)|((fail_if_success (with_reducible refine AW.atR (id := 1) ?_));(with_reducible apply AW.seq))|(with_reducible first|apply Then.n|apply AW.regL)))
 refine AW.joinG (fr [(1, .int .i64 (opI d)), (2, .int .i64 (i : Nat)), (3, .pointer (some ⟨m.length + 0, 0, none⟩)), (6, .pointer (some ⟨m.length + 1, 0, none⟩)), (7, .pointer (some ⟨m.length + 2, 0, none⟩)), (8, .pointer (some ⟨m.length + 3, 0, none⟩)), (9, .pointer (some ⟨m.length + 4, 0, none⟩))])
  (m ++ [some { cells := [.int .i64 (x : Nat), .int .i64 (y : Nat), .int .i64 (a : Nat), .int .i64 (b : Nat)] }, some { cells := iv [0, 0, 0, 0] }, some { cells := iv [0, 0, 0, 0] }, some { cells := [.int .i64 (x : Nat), .int .i64 (y : Nat), .int .i64 (a : Nat), .int .i64 (b : Nat)] }, some { cells := [.int .i64 (x : Nat), .int .i64 (y : Nat), .int .i64 (a : Nat), .int .i64 (b : Nat)] }]) ?_ ?_
 ·(repeat' (first|((with_reducible refine Step.id ?_);first|((with_reducible apply Step.loadL (n := 4));exact rfl;((decide +kernel));((decide +kernel));exact rfl;((exact RdL.new rfl rfl));exact rfl;exact rfl)|((with_reducible apply Step.alloc 3);exact rfl;exact ze23;exact rfl;((first|(simp only [zq7, zq8, zq9, zq0, iv_set, bv_set, iv_rep, bv_rep] <;> rfl)|rfl)))|((with_reducible apply Step.storeA (k := 3) (n := 4));exact rfl;exact rfl;exact rfl;exact rfl;((decide +kernel));exact rfl;((kernel_rfl));exact rfl;((first|(simp only [zq7, zq8, zq9, zq0, iv_set, bv_set, iv_rep, bv_rep] <;> rfl)|rfl)))|((with_reducible apply Step.alloc 4);exact rfl;exact ze23;exact rfl;((first|(simp only [zq7, zq8, zq9, zq0, iv_set, bv_set, iv_rep, bv_rep] <;> rfl)|rfl)))|((with_reducible apply Step.storeA (k := 4) (n := 4));exact rfl;exact rfl;exact rfl;exact rfl;((decide +kernel));exact rfl;((kernel_rfl));exact rfl;((first|(simp only [zq7, zq8, zq9, zq0, iv_set, bv_set, iv_rep, bv_rep] <;> rfl)|rfl))))|(with_reducible apply Then.n)|((with_reducible apply AW.drawT fit (T := (.both (.step 0 (.both (.step 1 (.both (.step 2 (.step 3 (.step 4 (.step 5 .done)))) (.step 3 (.step 2 (.step 4 (.step 5 .done)))))) (.both (.step 2 (.both (.step 1 (.step 3 (.step 4 (.step 5 .done)))) (.step 3 (.both (.step 1 (.step 4 (.step 5 .done))) (.step 4 (.step 1 (.step 5 .done))))))) (.step 3 (.both (.step 1 (.step 2 (.step 4 (.step 5 .done)))) (.step 2 (.both (.step 1 (.step 4 (.step 5 .done))) (.step 4 (.step 1 (.step 5 .done)))))))))) (.both (.step 1 (.both (.step 0 (.both (.step 2 (.step 3 (.step 4 (.step 5 .done)))) (.step 3 (.step 2 (.step 4 (.step 5 .done)))))) (.both (.step 2 (.both (.step 0 (.step 3 (.step 4 (.step 5 .done)))) (.step 3 (.step 0 (.step 4 (.step 5 .done)))))) (.step 3 (.both (.step 0 (.step 2 (.step 4 (.step 5 .done)))) (.step 2 (.step 0 (.step 4 (.step 5 .done))))))))) (.both (.step 2 (.both (.step 0 (.both (.step 1 (.step 3 (.step 4 (.step 5 .done)))) (.step 3 (.both (.step 1 (.step 4 (.step 5 .done))) (.step 4 (.step 1 (.step 5 .done))))))) (.both (.step 1 (.both (.step 0 (.step 3 (.step 4 (.step 5 .done)))) (.step 3 (.step 0 (.step 4 (.step 5 .done)))))) (.step 3 (.step 0 (.both (.step 1 (.step 4 (.step 5 .done))) (.step 4 (.step 1 (.step 5 .done))))))))) (.step 3 (.both (.step 0 (.both (.step 1 (.step 2 (.step 4 (.step 5 .done)))) (.step 2 (.both (.step 1 (.step 4 (.step 5 .done))) (.step 4 (.step 1 (.step 5 .done))))))) (.both (.step 1 (.both (.step 0 (.step 2 (.step 4 (.step 5 .done)))) (.step 2 (.step 0 (.step 4 (.step 5 .done)))))) (.step 2 (.step 0 (.both (.step 1 (.step 4 (.step 5 .done))) (.step 4 (.step 1 (.step 5 .done))))))))))))));((decide +kernel)))|((with_reducible apply AWt.step);exact rfl)|(with_reducible apply AWt.done)|refine AWt.both ?_ ?_))
  all_goals first | (refine Gc.perm [0,1,2,3,4] rfl (by decide) ?_ (CellsOk.ren ?_) ?_; (focus (intro p hp; rcases p with _ | _ | _ | _ | _ | p <;> first | rfl | exact absurd hp (lenB (n := 5) rfl))); (focus (repeat (first | exact CellsOk.nil | refine CellsOk.cons (by first | exact g0_iv _ | (intro v hv; simp at hv; first | (subst hv; rfl) | (rcases hv with rfl | rfl <;> rfl) | (rcases hv with rfl | rfl | rfl <;> rfl) | (rcases hv with rfl | rfl | rfl | rfl <;> rfl))) ?_))); (focus ((repeat (first | exact trivial | (refine And.intro ⟨_, rfl, ?_⟩ ?_; (focus (first | exact .int _ _ | (refine Ren.ptr_sg ?_; (focus (first | (simp; done) | omega | (simp; omega))))))))); done))) | (refine Gc.perm [0,1,2,4,3] rfl (by decide) ?_ (CellsOk.ren ?_) ?_; (focus (intro p hp; rcases p with _ | _ | _ | _ | _ | p <;> first | rfl | exact absurd hp (lenB (n := 5) rfl))); (focus (repeat (first | exact CellsOk.nil | refine CellsOk.cons (by first | exact g0_iv _ | (intro v hv; simp at hv; first | (subst hv; rfl) | (rcases hv with rfl | rfl <;> rfl) | (rcases hv with rfl | rfl | rfl <;> rfl) | (rcases hv with rfl | rfl | rfl | rfl <;> rfl))) ?_))); (focus ((repeat (first | exact trivial | (refine And.intro ⟨_, rfl, ?_⟩ ?_; (focus (first | exact .int _ _ | (refine Ren.ptr_sg ?_; (focus (first | (simp; done) | omega | (simp; omega))))))))); done)))
 cases d with
 | true =>
  change i + 1 ≤ a at h2
  change AW _ _ _ _ (fr ((1, .int .i64 2) :: _)) _ (Ends _ _ fun v m' => v = .tuple #[.agg #[.int .i64 (x : Nat), .int .i64 (y : Nat), .int .i64 (i : Nat), .int .i64 (b : Nat)], .agg #[.int .i64 ((x + i : Nat)), .int .i64 (y : Nat), .int .i64 ((a - i : Nat)), .int .i64 (b : Nat)]] ∧ ∃ N, m' = m ++ N)
  have e1 : ((x + i : Nat) : Int) = (x : Int) + (i : Int) := by omega
  have e2 : ((a - i : Nat) : Int) = (a : Int) - (i : Int) := by omega
  rw [e1, e2]
  (repeat' (first|(with_reducible refine AWo.cons ?_)|((with_reducible refine Step.id ?_);first|((with_reducible apply Step.move);exact rfl;exact rfl)|((with_reducible apply Step.load);exact rfl;((decide +kernel));exact rfl;((exact Rd.new rfl rfl)))|((with_reducible apply Step.loadL (n := 4));exact rfl;((decide +kernel));((decide +kernel));exact rfl;((exact RdL.new rfl rfl));exact rfl;exact rfl)|((with_reducible apply Step.field0);exact rfl;((decide +kernel));exact rfl)|((with_reducible apply Step.field (k := 2));exact rfl;((decide +kernel));exact rfl)|((with_reducible apply Step.add);exact rfl;exact rfl;((omega));exact rfl)|((with_reducible apply Step.sub);exact rfl;exact rfl;((omega));exact rfl)|((with_reducible apply Step.eql);exact rfl;exact rfl;exact rfl)|((with_reducible apply Step.storeA (k := 1) (n := 4));exact rfl;exact rfl;exact rfl;exact rfl;((decide +kernel));exact rfl;((kernel_rfl));exact rfl;((first|(simp only [zq7, zq8, zq9, zq0, iv_set, bv_set, iv_rep, bv_rep] <;> rfl)|rfl)))|((with_reducible apply Step.storeA (k := 2) (n := 4));exact rfl;exact rfl;exact rfl;exact rfl;((decide +kernel));exact rfl;((kernel_rfl));exact rfl;((first|(simp only [zq7, zq8, zq9, zq0, iv_set, bv_set, iv_rep, bv_rep] <;> rfl)|rfl)))|((with_reducible apply Step.store (k := 3));exact rfl;exact rfl;exact rfl;exact rfl;((decide +kernel));exact rfl;exact rfl;(focus (first|omega|(simp [iv, bv];done)|(simp [iv, bv];omega)));((first|(simp only [zq7, zq8, zq9, zq0, iv_set, bv_set, iv_rep, bv_rep] <;> rfl)|rfl)))|((with_reducible apply Step.store (k := 4));exact rfl;exact rfl;exact rfl;exact rfl;((decide +kernel));exact rfl;exact rfl;(focus (first|omega|(simp [iv, bv];done)|(simp [iv, bv];omega)));((first|(simp only [zq7, zq8, zq9, zq0, iv_set, bv_set, iv_rep, bv_rep] <;> rfl)|rfl))))|(with_reducible first|apply AWo.nil|apply AW.seq|apply Then.n|apply AW.regL)|((with_reducible apply AW.drawT fit (T := (.step 0 (.step 1 (.step 3 (.step 5 (.step 7 (.step 9 (.both (.step 2 (.step 4 (.both (.step 6 (.step 8 (.step 10 (.step 11 (.step 12 (.step 13 (.step 14 .done))))))) (.step 10 (.step 11 (.both (.step 6 (.step 8 (.step 12 (.step 13 (.step 14 .done))))) (.step 12 (.step 6 (.step 8 (.step 13 (.step 14 .done))))))))))) (.both (.step 6 (.step 8 (.both (.step 2 (.step 4 (.step 10 (.step 11 (.step 12 (.step 13 (.step 14 .done))))))) (.step 10 (.step 2 (.step 4 (.step 11 (.step 12 (.step 13 (.step 14 .done)))))))))) (.step 10 (.step 2 (.step 4 (.step 11 (.both (.step 6 (.step 8 (.step 12 (.step 13 (.step 14 .done))))) (.step 12 (.step 6 (.step 8 (.step 13 (.step 14 .done))))))))))))))))))));((decide +kernel)))|((with_reducible apply AW.drawT fit (T := (.step 0 (.both (.step 1 (.step 2 (.step 3 .done))) (.step 2 (.step 1 (.step 3 .done)))))));((decide +kernel)))|((with_reducible apply AWt.step);exact rfl)|(with_reducible apply AWt.done)|((with_reducible apply AW.condT);exact rfl;((rfl)))|refine AWt.both ?_ ?_))
  all_goals
   (refine AW.ret ?_; (repeat (first | refine Then.r ?_ | refine InBlk.r ?_)))
   exact ⟨_, ares_cell2 rfl rfl rfl (by decide +kernel) (n1 := 4) (by decide +kernel) (RdL.new rfl rfl) rfl rfl (by decide +kernel) (n2 := 4) (by decide +kernel) (RdL.new rfl rfl) rfl rfl, rfl, _, rfl⟩
 | false =>
  change i + 1 ≤ b at h2
  change AW _ _ _ _ (fr ((1, .int .i64 3) :: _)) _ (Ends _ _ fun v m' => v = .tuple #[.agg #[.int .i64 (x : Nat), .int .i64 (y : Nat), .int .i64 (a : Nat), .int .i64 (i : Nat)], .agg #[.int .i64 (x : Nat), .int .i64 ((y + i : Nat)), .int .i64 (a : Nat), .int .i64 ((b - i : Nat))]] ∧ ∃ N, m' = m ++ N)
  have e1 : ((y + i : Nat) : Int) = (y : Int) + (i : Int) := by omega
  have e2 : ((b - i : Nat) : Int) = (b : Int) - (i : Int) := by omega
  rw [e1, e2]
  (repeat' (first|(with_reducible refine AWo.cons ?_)|((with_reducible refine Step.id ?_);first|((with_reducible apply Step.move);exact rfl;exact rfl)|((with_reducible apply Step.load);exact rfl;((decide +kernel));exact rfl;((exact Rd.new rfl rfl)))|((with_reducible apply Step.loadL (n := 4));exact rfl;((decide +kernel));((decide +kernel));exact rfl;((exact RdL.new rfl rfl));exact rfl;exact rfl)|((with_reducible apply Step.field (k := 1));exact rfl;((decide +kernel));exact rfl)|((with_reducible apply Step.field (k := 3));exact rfl;((decide +kernel));exact rfl)|((with_reducible apply Step.add);exact rfl;exact rfl;((omega));exact rfl)|((with_reducible apply Step.sub);exact rfl;exact rfl;((omega));exact rfl)|((with_reducible apply Step.eql);exact rfl;exact rfl;exact rfl)|((with_reducible apply Step.storeA (k := 1) (n := 4));exact rfl;exact rfl;exact rfl;exact rfl;((decide +kernel));exact rfl;((kernel_rfl));exact rfl;((first|(simp only [zq7, zq8, zq9, zq0, iv_set, bv_set, iv_rep, bv_rep] <;> rfl)|rfl)))|((with_reducible apply Step.storeA (k := 2) (n := 4));exact rfl;exact rfl;exact rfl;exact rfl;((decide +kernel));exact rfl;((kernel_rfl));exact rfl;((first|(simp only [zq7, zq8, zq9, zq0, iv_set, bv_set, iv_rep, bv_rep] <;> rfl)|rfl)))|((with_reducible apply Step.store (k := 3));exact rfl;exact rfl;exact rfl;exact rfl;((decide +kernel));exact rfl;exact rfl;(focus (first|omega|(simp [iv, bv];done)|(simp [iv, bv];omega)));((first|(simp only [zq7, zq8, zq9, zq0, iv_set, bv_set, iv_rep, bv_rep] <;> rfl)|rfl)))|((with_reducible apply Step.store (k := 4));exact rfl;exact rfl;exact rfl;exact rfl;((decide +kernel));exact rfl;exact rfl;(focus (first|omega|(simp [iv, bv];done)|(simp [iv, bv];omega)));((first|(simp only [zq7, zq8, zq9, zq0, iv_set, bv_set, iv_rep, bv_rep] <;> rfl)|rfl))))|(with_reducible first|apply AWo.nil|apply AW.seq|apply Then.n|apply AW.regL)|((with_reducible apply AW.drawT fit (T := (.step 0 (.step 1 (.step 3 (.step 5 (.step 7 (.step 9 (.both (.step 2 (.step 4 (.both (.step 6 (.step 8 (.step 10 (.step 11 (.step 12 (.step 13 (.step 14 .done))))))) (.step 10 (.step 11 (.both (.step 6 (.step 8 (.step 12 (.step 13 (.step 14 .done))))) (.step 12 (.step 6 (.step 8 (.step 13 (.step 14 .done))))))))))) (.both (.step 6 (.step 8 (.both (.step 2 (.step 4 (.step 10 (.step 11 (.step 12 (.step 13 (.step 14 .done))))))) (.step 10 (.step 2 (.step 4 (.step 11 (.step 12 (.step 13 (.step 14 .done)))))))))) (.step 10 (.step 2 (.step 4 (.step 11 (.both (.step 6 (.step 8 (.step 12 (.step 13 (.step 14 .done))))) (.step 12 (.step 6 (.step 8 (.step 13 (.step 14 .done))))))))))))))))))));((decide +kernel)))|((with_reducible apply AW.drawT fit (T := (.step 0 (.both (.step 1 (.step 2 (.step 3 .done))) (.step 2 (.step 1 (.step 3 .done)))))));((decide +kernel)))|((with_reducible apply AWt.step);exact rfl)|(with_reducible apply AWt.done)|((with_reducible apply AW.condF);exact rfl;((rfl)))|refine AWt.both ?_ ?_))
  all_goals
   (refine AW.ret ?_; (repeat (first | refine Then.r ?_ | refine InBlk.r ?_)))
   exact ⟨_, ares_cell2 rfl rfl rfl (by decide +kernel) (n1 := 4) (by decide +kernel) (RdL.new rfl rfl) rfl rfl (by decide +kernel) (n2 := 4) (by decide +kernel) (RdL.new rfl rfl) rfl rfl, rfl, _, rfl⟩
end Go.Proofs.YtedbjmgchfgabaaDoor.Abs
