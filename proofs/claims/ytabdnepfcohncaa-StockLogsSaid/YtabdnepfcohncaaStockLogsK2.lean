/- Proved here: what the proof of StockLogs rests on, part 2 of 6. Conditions: those that each theorem names. -/
import Derived.Test.YtabdnepfcohncaaStockLogsK1
namespace Go.Proofs.Ytabdnepfcohncaa.Abs
set_option linter.unusedSimpArgs false
set_option linter.unusedVariables false
open Go.RowKit
open Go.Proofs.Ytabdnepfcohncaa.Sim
section
variable {P : Program} {nt : Nat} {ops : Array Oper} {t : Fm} {m : AM} {K : Fm → AM → Prop} {d T : Nat} {p : String} {af : Array Edge}
theorem still_bind {α β : Type} (s : Sem α) (f : α → Sem β) : Sim.still P (s.bind f) = match Sim.still P s with
 | some a => Sim.still P (f a)
 | none => none := by
 induction s with
 | pure a => rfl
 | program k ih => simp only [Sem.bind, Sim.still]; exact ih _
 | _ => rfl
theorem still_nil {X e : TypeId} (hX : P.underlying X = some (.slice e)) (n : Nat) : Sim.still P (Op.equalIn (n + 1) X (.slice none 0 0) (.slice none 0 0)) = some true := by
 rw [Op.equalIn]
 show Sim.still P (Sem.bind (underlying X) _) = _
 rw [still_bind]
 have : Sim.still P (underlying X) = some (.slice e) := by
  unfold underlying
  show Sim.still P (Sem.bind program _) = _
  rw [still_bind]
  simp [program, Sim.still, hX, pure]
 rw [this]
 rfl
theorem Step.nilNil {x y : Operand} {X Y e : TypeId} (hx : evo t x = some (.slice none 0 0)) (hy : evo t y = some (.slice none 0 0)) (hX : P.underlying X = some (.slice e)) (hlt : Nat.blt d nt = true) (hK : K (put t d (.bool true)) m) : Step P nt ops ⟨some d, .binOp .eql X x y Y, T, p, af, none⟩ t m K := by
 refine .ground rfl rfl hlt (by simp [Op.operands, hx, hy, g1, g0]) (fun h => by simp only [aquiet, evD_of hx, evD_of hy, aint, anil, hX]; simpa [evD_of hx, evD_of hy] using h) ?_ (by simp [g1, g0]) hK
 have he := still_nil hX 9999
 simp only [execOp, eqGuard, binOp, evD_of hx, evD_of hy, bind, Sem.bind, pure]
 show Sim.still P (((Op.equalIn (9999 + 1) X (.slice none 0 0) (.slice none 0 0)).bind _).bind _) = _
 rw [still_bind, still_bind, he]
 rfl
end
theorem Back.pad {M L : AM} {t : Fm} {l : List (Nat × Value)} (h : All (fun i v => t i = some v ∧ Ren rid (M.length + (L ++ [none]).length) v v) l) (hc : CellsOk L) : Back M t (M ++ L) l (L ++ [none]) := by
 refine .inr ⟨rid, by simp, fun _ _ => rfl, fun _ _ _ _ _ _ e => e, fun j b hj => ?_, fun i v hi => by
  obtain ⟨h1, h2⟩ := fr_all h i v hi
  exact ⟨v, h1, by simpa using h2⟩⟩
 have hj2 : (M ++ L)[j]? = some (some b) := by
  rw [← List.append_assoc] at hj
  rcases Nat.lt_or_ge j (M ++ L).length with hlt | hge
  ·rwa [List.getElem?_append_left hlt] at hj
  ·rw [List.getElem?_append_right hge] at hj
   cases q : j - (M ++ L).length with
   | zero => rw [q] at hj; simp at hj
   | succ q' => rw [q] at hj; simp at hj
 rcases Nat.lt_or_ge j M.length with hlt | hge
 ·refine .inl ⟨hlt, hj2, ?_⟩
  rwa [List.getElem?_append_left hlt] at hj2
 ·have hj3 := hj2
  rw [List.getElem?_append_right hge] at hj3
  exact .inr ⟨(hc b (List.mem_of_getElem? hj3)).1, b, hj2, rfl, rfl, rfl, fun k v hk => ⟨v, hk, .of_g0 ((hc b (List.mem_of_getElem? hj3)).2 v (List.mem_of_getElem? hk))⟩⟩
def St (m : AM) (a : Nat) (kd : Kind) (s : Nat) (l : List Int) : AM := m.set a (some { cells := iv l, kind := kd, size := s })
section
variable {m : AM} {a s : Nat} {kd : Kind} {l k : List Int}
theorem St.len : (St m a kd s l).length = m.length := by simp [St]
theorem St.get (h : a < m.length) : (St m a kd s l)[a]? = some (some { cells := iv l, kind := kd, size := s }) := by simp [St, h]
theorem St.ne {b : Nat} (h : b ≠ a) : (St m a kd s l)[b]? = m[b]? := by simp [St, List.getElem?_set_ne (Ne.symm h)]
theorem St.set : (St m a kd s l).set a (some { cells := iv k, kind := kd, size := s }) = St m a kd s k := by simp [St]
theorem St.st : St (St m a kd s l) a kd s k = St m a kd s k := by simp [St]
theorem St.rd {o : Nat} (h : a < m.length) (ho : o < l.length) : Rd (St m a kd s l) a o (.int .i64 (l.getD o 0)) := ⟨_, St.get h, iv_get ho⟩
end
theorem AW.join {P : Program} {nt : Nat} {m0 m : AM} {t : Fm} {c : Code} {K : Fm → AM → Prop} {Q : AEx → Fm → AM → Prop} (Mid : Fm → AM → Prop) (h : AW P nt m0 c t m (Then Mid Q)) (h2 : ∀ t m, Mid t m → K t m) : AW P nt m0 c t m (Then K Q) :=
 h.mono fun e t m => by cases e <;> first | exact h2 t m | exact id
section
variable {P : Program} {nt : Nat} {ops : Array Oper} {t : Fm} {m : AM} {K : Fm → AM → Prop} {d T : Nat} {p : String} {af : Array Edge}
theorem still_under {X : TypeId} {T : TypeDesc} (hX : P.underlying X = some T) : Sim.still P (underlying X) = some T := by
 unfold underlying
 show Sim.still P (Sem.bind program _) = _
 rw [still_bind]
 simp [program, Sim.still, hX, pure]
theorem Step.conv {x : Operand} {S D : TypeId} {k ks k' : IntKind} {a b : Int} (hx : evo t x = some (.int k a)) (hS : P.underlying S = some (.int ks)) (hD : P.underlying D = some (.int k')) (hw : k'.wrap a = b) (hlt : Nat.blt d nt = true) (hK : K (put t d (.int k' b)) m) :
  Step P nt ops ⟨some d, .convert S D x, T, p, af, none⟩ t m K := by
 refine .ground rfl rfl hlt (by simp [Op.operands, hx, g1, g0]) (fun h => by simpa [aquiet] using h) ?_ (by simp [g1, g0]) hK
 subst hw
 simp only [execOp, evD_of hx, bind]
 rw [still_bind]
 unfold convert
 simp only [bind]
 rw [still_bind, still_under hS]
 simp only
 rw [still_bind, still_under hD]
 rfl
theorem Step.toI {x : Operand} {S D : TypeId} {a : Int} (hx : evo t x = some (.int .u64 a)) (hS : P.underlying S = some (.int .u64)) (hD : P.underlying D = some (.int .i64)) (hr : 0 ≤ a ∧ a ≤ 9223372036854775807) (hlt : Nat.blt d nt = true) (hK : K (put t d (.int .i64 a)) m) :
  Step P nt ops ⟨some d, .convert S D x, T, p, af, none⟩ t m K := .conv hx hS hD (IntWalk.i64_in _ (by omega)) hlt hK
section
variable {X Y : TypeId} {x y : Operand} {a b : Int} {c : Nat}
theorem Step.mulE (hx : evo t x = some (.int .i64 a)) (hy : evo t y = some (.int .i64 b)) (he : a * b = ((c : Nat) : Int)) (hr : c ≤ 9223372036854775807) (hlt : Nat.blt d nt = true) (hK : K (put t d (.int .i64 ((c : Nat) : Int))) m) : Step P nt ops ⟨some d, .binOp .mul X x y Y, T, p, af, none⟩ t m K := by
 rw [← he] at hK; exact .mul hx hy (by omega) hlt hK
end
theorem Sl.cells {v : Value} {a o n : Nat} (h : Sl v a o n) : v.cells = #[v] ∧ v.oneCell' = true := by
 rcases h with ⟨rfl, _⟩ | ⟨c, _, rfl⟩ | ⟨_, o', k, rfl⟩ <;> exact ⟨rfl, rfl⟩
end
theorem bv_nat {a : Nat} : BitVec.ofInt 64 (a : Int) = BitVec.ofNat 64 a := by
 apply BitVec.eq_of_toNat_eq
 simp
theorem i64_nat {a : Nat} (h : a ≤ 9223372036854775807) : IntKind.i64.wrap ((a : Nat) : Int) = a := IntWalk.i64_in _ (by omega)
section
variable {P : Program} {nt : Nat} {ops : Array Oper} {t : Fm} {m : AM} {K : Fm → AM → Prop} {d T : Nat} {p : String} {af : Array Edge} {X Y : TypeId} {x y : Operand} {a b n : Nat} {kk : IntKind}
theorem Step.shrN (hx : evo t x = some (.int .i64 ((a : Nat) : Int))) (hy : evo t y = some (.int kk ((n : Nat) : Int))) (hn : n ≤ 64) (hlt : Nat.blt d nt = true) (hK : K (put t d (.int .i64 ((a / 2 ^ n : Nat) : Int))) m) : Step P nt ops ⟨some d, .binOp .shr X x y Y, T, p, af, none⟩ t m K := by
 refine .ground rfl rfl hlt (by simp [Op.operands, hx, hy, g1, g0]) (fun h => by simp only [aquiet, evD_of hx, evD_of hy, aint, anil]; simpa [evD_of hx, evD_of hy] using h) ?_ (by simp [g1, g0]) hK
 have h3 : Min.min n 64 = n := by omega
 have h4 : ((a : Nat) : Int).fdiv (2 ^ n) = ((a / 2 ^ n : Nat) : Int) := by
  rw [Int.fdiv_eq_ediv_of_nonneg _ (Int.pow_nonneg (by omega))]; push_cast; rfl
 simp [execOp, eqGuard, binOp, evD_of hx, evD_of hy, Op.shift, IntKind.bits, h3, h4, bind, Sem.bind, pure, Sim.still, show ¬ (n : Int) < 0 by omega]
end
inductive PT where
 | done
 | step (i : Nat) (rest : PT)
 | both (a b : PT)
deriving DecidableEq
def forkT (g : Nat → Option PT) : List Nat → Option PT
 | [] => none
 | [i] => (g i).map (.step i)
 | i :: rs => match g i, forkT g rs with
  | some a, some b => some (.both (.step i a) b)
  | _, _ => none
def planT (P : Program) (ops : Array Oper) : Nat → Array Bool → Option PT
 | 0, listed => match Region.ready .any ops listed with
  | [] => some .done
  | _ => none
 | f + 1, listed => match Region.ready .any ops listed with
  | [] => some .done
  | rs => match rs.find? (takeB P ops listed) with
   | some i => (planT P ops f (listed.setIfInBounds i true)).map (.step i)
   | none => forkT (fun i => planT P ops f (listed.setIfInBounds i true)) rs
def AWt (P : Program) (nt : Nat) (l : List Oper) (Q : Fm → AM → Prop) : PT → Fm → AM → Prop
 | .done, t, m => Q t m
 | .step i rest, t, m => ∃ o, l[i]? = some o ∧ Step P nt l.toArray o t m (fun t m => AWt P nt l Q rest t m)
 | .both a b, t, m => AWt P nt l Q a t m ∧ AWt P nt l Q b t m
section
variable {P : Program} {nt : Nat} {t : Fm} {m m0 : AM} {Q : Fm → AM → Prop} {l : List Oper}
theorem forkT_ok {g : Nat → Option PT} : ∀ {rs : List Nat} {T : PT}, forkT g rs = some T → AWt P nt l Q T t m → ∀ i ∈ rs, ∃ a, g i = some a ∧ AWt P nt l Q (.step i a) t m
 | [], _, h, _, i, hi => by cases hi
 | [j], T, h, H, i, hi => by
  simp only [forkT, Option.map_eq_some_iff] at h
  obtain ⟨a, h1, rfl⟩ := h
  obtain rfl : i = j := by simpa using hi
  exact ⟨a, h1, H⟩
 | j :: k :: rs, T, h, H, i, hi => by
  simp only [forkT] at h
  split at h
  ·rename_i a b h1 h2
   injection h with h; subst h
   rcases List.mem_cons.1 hi with rfl | hi
   ·exact ⟨a, h1, H.1⟩
   ·exact forkT_ok h2 H.2 i hi
  ·cases h
theorem planT_ok : ∀ (f : Nat) (listed : Array Bool) (T : PT) (t : Fm) (m : AM), listed.size = l.toArray.size → planT P l.toArray f listed = some T → AWt P nt l Q T t m → AWd P nt l.toArray Q f listed t m
 | 0, listed, T, t, m, hsz, h, H => by
  unfold planT at h
  split at h
  ·rename_i hr
   injection h with h; subst h
   exact ⟨hr, H⟩
  ·cases h
 | f + 1, listed, T, t, m, hsz, h, H => by
  unfold planT at h
  split at h
  ·rename_i hr
   injection h with h; subst h
   exact ⟨fun _ => H, fun i hi => by rw [hr] at hi; cases hi⟩
  ·rename_i hne
   split at h
   ·rename_i i hfind
    cases hp : planT P l.toArray f (listed.setIfInBounds i true) with
    | none => rw [hp] at h; cases h
    | some T' =>
     rw [hp] at h
     simp only [Option.map_some, Option.some.injEq] at h
     subst h
     obtain ⟨o, ho', hs⟩ := H
     have ho : l.toArray[i]? = some o := by simpa using ho'
     have hr := List.mem_of_find?_eq_some hfind
     have ht := List.find?_some hfind
     unfold takeB at ht
     rw [ho] at ht
     simp only [Bool.and_eq_true] at ht
     obtain ⟨t1, t2⟩ := ht
     obtain ⟨v, hy, hk⟩ := hs.still t1
     have hih := planT_ok f _ _ _ _ (by simpa using hsz) hp hk
     generalize closeC l.toArray i l.toArray.size listed = C at t2
     unfold takeC at t2
     rw [List.all_eq_true] at t2
     have each : ∀ (j : Nat) (oj : Oper), l.toArray[j]? = some oj → _ := fun j oj hj => by
      have := t2 j (List.mem_range.2 (Array.getElem?_eq_some_iff.1 hj).1)
      rw [hj] at this
      exact this
     simp only [Bool.and_eq_true, Bool.or_eq_true] at each
     refine AWd.take ho hs.1 C listed (fun j oj hj hc hne => ?_) (fun j oj hj hc hl hne => ?_) f listed t m (fun j hj => ?_) (fun _ h => h) hr hy hih
     ·have h1 := (each j oj hj).2
      rcases h1 with h1 | h1
      ·exact absurd (Nat.eq_of_beq_eq_true h1) hne
      ·rw [hc] at h1
       simp only at h1
       obtain ⟨e, he, hb⟩ := Array.any_eq_true'.1 h1
       simp only [Bool.and_eq_true, Bool.not_eq_true'] at hb
       exact ⟨e, he, hb.1, hb.2⟩
     ·have h1 := (each j oj hj).2
      rcases h1 with h1 | h1
      ·exact absurd (Nat.eq_of_beq_eq_true h1) hne
      ·rw [hc] at h1
       simp only [hl, Bool.false_or, Bool.and_eq_true, Bool.or_eq_true] at h1
       exact h1
     ·have hlt : j < l.toArray.size := by
       rw [← hsz]
       rcases Nat.lt_or_ge j listed.size with h' | h'
       ·exact h'
       ·simp [Array.getElem?_eq_none h'] at hj
      have h1 := (each j l.toArray[j] (Array.getElem?_eq_getElem hlt)).1
      rw [hj] at h1
      simpa using h1
   ·refine ⟨fun h0 => absurd h0 hne, fun j hj oj hoj => ?_⟩
    obtain ⟨a, ha, o, ho', hs⟩ := forkT_ok h H j hj
    have ho : l.toArray[j]? = some o := by simpa using ho'
    rw [ho] at hoj; injection hoj with hoj; subst hoj
    exact hs.mono fun v m' hk => planT_ok f _ _ _ _ (by simpa using hsz) ha hk
def treeB (P : Program) (ops : Array Oper) (T : PT) : Bool := match planT P ops ops.size (Array.replicate ops.size false) with
 | some T' => decide (T' = T)
 | none => false
theorem AW.drawT (hP : Fit P) (T : PT) {id : Nat} {Q : AEx → Fm → AM → Prop} (hl : treeB P l.toArray T = true) (h : AWt P nt l (fun t m => Q .normal t m) T t m) : AW P nt m0 (.region id l.toArray true) t m Q := by
 unfold treeB at hl
 split at hl
 ·rename_i T' hq
  have e := of_decide_eq_true hl
  subst e
  exact .all hP (planT_ok _ _ _ _ _ (by simp) hq h)
 ·cases hl
theorem AWt.step {i : Nat} {rest : PT} {o : Oper} (ho : l[i]? = some o) (h : Step P nt l.toArray o t m (fun t m => AWt P nt l Q rest t m)) : AWt P nt l Q (.step i rest) t m := ⟨o, ho, h⟩
theorem AWt.both {a b : PT} (h1 : AWt P nt l Q a t m) (h2 : AWt P nt l Q b t m) : AWt P nt l Q (.both a b) t m := ⟨h1, h2⟩
theorem AWt.done (h : Q t m) : AWt P nt l Q .done t m := h
theorem AW.atR {id : Nat} {ops : Array Oper} {b : Bool} {rest : Code} {Q : AEx → Fm → AM → Prop} (h : AW P nt m0 (.seq (.region id ops b) rest) t m Q) : AW P nt m0 (.seq (.region id ops b) rest) t m Q := h
end
section
variable {P : Program} {nt : Nat} {ops : Array Oper} {t : Fm} {m : AM} {K : Fm → AM → Prop} {d T : Nat} {p : String} {af : Array Edge}
theorem still_und {X : TypeId} {u : TypeDesc} (hX : P.underlying X = some u) : Sim.still P (underlying X) = some u := by
 unfold underlying
 show Sim.still P (Sem.bind program _) = _
 rw [still_bind]
 simp [program, Sim.still, hX, pure]
theorem still_eqB {X : TypeId} (hX : P.underlying X = some .bool) (n : Nat) (a b : Bool) : Sim.still P (Op.equalIn (n + 1) X (.bool a) (.bool b)) = some (a == b) := by
 rw [Op.equalIn]
 show Sim.still P (Sem.bind (underlying X) _) = _
 rw [still_bind, still_und hX]
 rfl
theorem Step.neqB {x y : Operand} {X Y : TypeId} {a b : Bool} (hx : evo t x = some (.bool a)) (hy : evo t y = some (.bool b)) (hX : P.underlying X = some .bool) (hlt : Nat.blt d nt = true) (hK : K (put t d (.bool (!(a == b)))) m) : Step P nt ops ⟨some d, .binOp .neq X x y Y, T, p, af, none⟩ t m K := by
 refine .ground rfl rfl hlt (by simp [Op.operands, hx, hy, g1, g0]) (fun h => by simp only [aquiet, evD_of hx, evD_of hy, aint, anil, hX]; simpa [evD_of hx, evD_of hy] using h) ?_ (by simp [g1, g0]) hK
 have he := still_eqB hX 9999 a b
 simp only [execOp, eqGuard, binOp, evD_of hx, evD_of hy, bind, Sem.bind, pure]
 show Sim.still P (((Op.equalIn (9999 + 1) X (.bool a) (.bool b)).bind _).bind _) = _
 rw [still_bind, still_bind, he]
 rfl
end
def CellsP (p : Value → Prop) (L : AM) : Prop := ∀ b, some b ∈ L → isMapK b.kind = false ∧ ∀ v ∈ b.cells, p v
theorem CellsP.nil {p : Value → Prop} : CellsP p [] := fun b h => by simp at h
theorem CellsP.none {p : Value → Prop} {L : AM} (h : CellsP p L) : CellsP p (none :: L) := fun b hb => h b (by simpa using hb)
theorem CellsP.cons {p : Value → Prop} {b : Blk} {L : AM} (hb : ∀ v ∈ b.cells, p v) (h : CellsP p L) (hk : isMapK b.kind = false := by rfl) : CellsP p (some b :: L) := fun c hc => by
 rcases List.mem_cons.1 hc with e | e
 ·injection e with e; subst e; exact ⟨hk, hb⟩
 ·exact h c e
section
variable {P : Program} {nt : Nat} {m m0 : AM} {t : Fm} {Q : AEx → Fm → AM → Prop}
theorem stepR_scope {b : Frame} {a : Act} {k : List Item} {cs : List Frame} {w : World} {c : Code} : step P (lone (b.atR a (.code (.scope c) :: k)) cs w) = .next (lone (b.atR a (.code c :: .inScope c :: k)) cs w) :=
 step_lone_go (by simp [stepG, stepG.exec, Frame.atR])
theorem stepR_inScope {b : Frame} {a : Act} {k : List Item} {cs : List Frame} {w : World} {c : Code} : step P (lone (b.atR a (.inScope c :: k)) cs w) = .next (lone (b.atR a k) cs w) :=
 step_lone_go (by simp [stepG, stepG.exec, Frame.atR])
theorem wpIn_scope {F : Fence} {n : Nat} {c : Code} {QQ : Exit → Act → World → Prop} {a : Act} {w : World} (h : c.wpIn F n P (Exit.noGoto QQ) a w) : (Code.scope c).wpIn F n P QQ a w := by
 intro b k cs hro hb hr
 have h0 : (lone (b.atR a (.code (.scope c) :: k)) cs w).fenced P F := fenced_calm hb hr rfl
 obtain ⟨e, a₁, w₁, hq, harr⟩ := h b (.inScope c :: k) cs hro hb hr
 cases e with
 | normal => exact ⟨.normal, a₁, w₁, hq, .head h0 stepR_scope (StepsIn.trans harr (.one (fenced_calm hb hr rfl) stepR_inScope))⟩
 | exit id =>
  have hx : exitTo id (.inScope c :: k) = exitTo id k := by simp [exitTo]
  exact ⟨.exit id, a₁, w₁, hq, fun k' hk => .head h0 stepR_scope (harr.1 k' (by rw [hx]; exact hk)), fun hr' hk => let ⟨k₁, h1, h2⟩ := harr.2 hr' (by rw [hx]; exact hk); ⟨k₁, h1, .head h0 stepR_scope h2⟩⟩
 | goto l => exact hq.elim
 | ret => exact ⟨_, a₁, w₁, hq, .of_steps (.one h0 stepR_scope) harr⟩
 | panic ch => exact ⟨_, a₁, w₁, hq, .of_steps (.one h0 stepR_scope) harr⟩
 | outgrown => exact ⟨_, a₁, w₁, hq, .of_steps (.one h0 stepR_scope) harr⟩
theorem AW.scope {c : Code} (h : AW P nt m0 c t m Q) : AW P nt m0 (.scope c) t m Q := by
 intro ro hro base R0 w0 R a w hb h0 hp ht
 refine wpIn_scope (wpIn_mono (h ro hro base R0 w0 R a w hb h0 hp ht) ?_)
 rintro ex a' w' ⟨e, t', m', R', rfl, h2, h3, h4, h5⟩
 cases e <;> exact ⟨_, t', m', R', rfl, h2, h3, h4, h5⟩
end
section
variable {P : Program} {nt : Nat} {ops : Array Oper} {t : Fm} {m : AM} {K : Fm → AM → Prop} {d T : Nat} {p : String} {af : Array Edge}
def More (S : AM → Value → Prop) (m : AM) : Value → AM → Prop := fun v m' => ∃ N, m' = m ++ N ∧ S m' v
theorem Step.callX {args : Array Operand} {tys : Array TypeId} {g : FuncId} {vs : List Value} {fn : Func} {b : Code} {S : AM → Value → Prop} (hP : Fit P) (ha : evL t args.toList = some vs) (hf : P.funcs[g]? = some fn) (hb : fn.body = some b)
  (hlt : Nat.blt d nt = true) (h : ACall P g vs.toArray m (More S m)) (hK : ∀ (v : Value) (M : AM), (∃ N, M = m ++ N) → S M v → K (put t d v) (M ++ [])) : Step P nt ops ⟨some d, .call ⟨.value (.func g), args, tys⟩, T, p, af, none⟩ t m K :=
 .callF hP ha hf hb hlt h (by
  rintro v m' ⟨N, rfl, hS⟩
  have := hK v (m ++ N) ⟨N, rfl⟩ hS
  rwa [List.append_nil] at this)
def bndO (t : Fm) (d : Nat) : Option Operand → Option Nat
 | none => some d
 | some x => match evo t x with
  | some (.int _ k) => if 0 ≤ k then some k.toNat else none
  | _ => none
theorem bndO_ev {d k : Nat} {x : Option Operand} (h : bndO t d x = some k) : bnd d (x.map (evD t)) = some k := by
 cases x with
 | none => exact h
 | some x =>
  simp only [bndO] at h
  simp only [Option.map_some]
  cases hx : evo t x with
  | none => rw [hx] at h; cases h
  | some v =>
   rw [hx] at h
   rw [evD_of hx]
   cases v <;> first | exact h | cases h
theorem bndO_kn {d k : Nat} {x : Option Operand} (h : bndO t d x = some k) : ∀ y, x = some y → ∃ v, evo t y = some v := by
 rintro y rfl
 simp only [bndO] at h
 cases hx : evo t y with
 | none => rw [hx] at h; cases h
 | some v => exact ⟨v, rfl⟩
theorem bndO_nat {d k : Nat} {kk : IntKind} {x : Operand} (h : evo t x = some (.int kk ((k : Nat) : Int))) : bndO t d (some x) = some k := by
 simp only [bndO, h]
 rw [if_pos (by omega)]; simp
theorem Step.sliceS {x : Operand} {lo hi : Option Operand} {X e s a o n l h : Nat} {v : Value} (hx : evo t x = some v) (hs : Sl v a o n) (hX : P.underlying X = some (.slice e)) (hsz : szB P e = some s) (hlo : bndO t 0 lo = some l) (hhi : bndO t n hi = some h) (hlh : l ≤ h) (hhn : h ≤ n) (hl : l < n ∨ l = 0)
  (hlt : Nat.blt d nt = true) (hK : ∀ v', Sl v' a (o + l * s) (h - l) → (∀ c, v = .slice (some ⟨a, o, none⟩) n c → v' = .slice (some ⟨a, o + l * s, none⟩) (h - l) (c - l)) → K (put t d v') m) : Step P nt ops ⟨some d, .slice X x lo hi none, T, p, af, none⟩ t m K := by
 have hops : ∀ y ∈ (Op.slice X x lo hi none).operands.toList, ∃ v, evo t y = some v := fun y hy => by
  simp only [Op.operands] at hy
  simp at hy
  rcases hy with rfl | hy | hy
  ·exact ⟨v, hx⟩
  ·exact bndO_kn hlo y hy
  ·exact bndO_kn hhi y hy
 have b1 := bndO_ev hlo
 have b2 := bndO_ev hhi
 rcases hs with ⟨rfl, rfl⟩ | ⟨c, hc, rfl⟩ | ⟨rfl, o', k', rfl⟩
 ·have h0 : h = 0 := by omega
  have l0 : l = 0 := by omega
  subst h0 l0
  refine .q (v := .slice none 0 0) rfl rfl hlt hops ?_ (hK _ (.inl ⟨rfl, by omega⟩) (fun c e => by cases e))
  simp [aquiet, evD_of hx, aslice0, hX, hsz, b1, b2]
 ·refine .q (v := .slice (some ⟨a, o + l * s, none⟩) (h - l) (c - l)) rfl rfl hlt hops ?_ (hK _ (.inr (.inl ⟨c - l, by omega, rfl⟩)) (fun c' e => by cases e; rfl))
  simp only [aquiet, evD_of hx, aslice0, hX, hsz, b1, b2]
  rw [if_pos ⟨hlh, by omega, by omega⟩]
 ·have h0 : h = 0 := by omega
  have l0 : l = 0 := by omega
  subst h0 l0
  refine .q (v := .slice (some ⟨a, o', some k'⟩) 0 0) rfl rfl hlt hops ?_ (hK _ (.inr (.inr ⟨by omega, o', k', rfl⟩)) (fun c e => by cases e))
  simp [aquiet, evD_of hx, aslice0, hX, hsz, b1, b2]
end
theorem Back.padC {M L : AM} {t : Fm} {m : AM} {l : List (Nat × Value)} (hm : m = M ++ L) (h : All (fun i v => t i = some v ∧ Ren rid (M.length + (L ++ [none]).length) v v) l) (hc : CellsP (fun v => Ren rid (M.length + (L ++ [none]).length) v v) L) : Back M t m l (L ++ [none]) := by
 subst hm
 refine .inr ⟨rid, by simp, fun _ _ => rfl, fun _ _ _ _ _ _ e => e, fun j b hj => ?_, fun i v hi => by
  obtain ⟨h1, h2⟩ := fr_all h i v hi
  exact ⟨v, h1, by simpa using h2⟩⟩
 have hj2 : (M ++ L)[j]? = some (some b) := by
  rw [← List.append_assoc] at hj
  rcases Nat.lt_or_ge j (M ++ L).length with hlt | hge
  ·rwa [List.getElem?_append_left hlt] at hj
  ·rw [List.getElem?_append_right hge] at hj
   cases q : j - (M ++ L).length with
   | zero => rw [q] at hj; simp at hj
   | succ q' => rw [q] at hj; simp at hj
 rcases Nat.lt_or_ge j M.length with hlt | hge
 ·refine .inl ⟨hlt, hj2, ?_⟩
  rwa [List.getElem?_append_left hlt] at hj2
 ·have hj3 := hj2
  rw [List.getElem?_append_right hge] at hj3
  refine .inr ⟨(hc b (List.mem_of_getElem? hj3)).1, b, hj2, rfl, rfl, rfl, fun k v hk => ⟨v, hk, ?_⟩⟩
  have := (hc b (List.mem_of_getElem? hj3)).2 v (List.mem_of_getElem? hk)
  simpa using this
theorem AW.pad {P : Program} {nt : Nat} {M L : AM} {t : Fm} {c : Code} {Q : AEx → Fm → AM → Prop} (l : List (Nat × Value)) (h : All (fun i v => t i = some v ∧ Ren rid (M.length + (L ++ [none]).length) v v) l) (hc : CellsP (fun v => Ren rid (M.length + (L ++ [none]).length) v v) L)
  (hk : AW P nt M c (fr l) (M ++ (L ++ [none])) Q) : AW P nt M c t (M ++ L) Q := by
 intro ro hro base R0 w0 R a w hb h0 hp ht
 obtain ⟨R1, k1, k2⟩ := (Back.padC rfl h hc).ok h0 hp ht
 exact hk ro hro base R0 w0 R1 a w hb h0 k1 k2
section
variable {P : Program} {nt : Nat} {ops : Array Oper} {t : Fm} {m : AM} {K : Fm → AM → Prop} {d T : Nat} {p : String} {af : Array Edge}
theorem Step.slTo {x y : Operand} {X e s a o n c h : Nat} {i : Int} {kk : IntKind} (hx : evo t x = some (.slice (some ⟨a, o, none⟩) n c)) (hy : evo t y = some (.int kk i)) (he : i = ((h : Nat) : Int)) (hc : h ≤ c) (hX : P.underlying X = some (.slice e)) (hsz : szB P e = some s)
  (hlt : Nat.blt d nt = true) (hK : K (put t d (.slice (some ⟨a, o, none⟩) h c)) m) : Step P nt ops ⟨some d, .slice X x none (some y) none, T, p, af, none⟩ t m K := by
 subst he
 refine .q (v := .slice (some ⟨a, o, none⟩) h c) rfl rfl hlt ?_ ?_ hK
 ·simp [Op.operands, hx, hy]
 ·have b2 : bnd n (some (evD t y)) = some h := by rw [evD_of hy]; simp [bnd]
  simp only [aquiet, evD_of hx, aslice0, hX, hsz, Option.map_some, Option.map_none, b2]
  simp [bnd, hc]
theorem Step.slToNil {x y : Operand} {X e s : Nat} {i : Int} {kk : IntKind} (hx : evo t x = some (.slice none 0 0)) (hy : evo t y = some (.int kk i)) (he : i = ((0 : Nat) : Int)) (hX : P.underlying X = some (.slice e)) (hsz : szB P e = some s)
  (hlt : Nat.blt d nt = true) (hK : K (put t d (.slice none 0 0)) m) : Step P nt ops ⟨some d, .slice X x none (some y) none, T, p, af, none⟩ t m K := by
 subst he
 refine .q (v := .slice none 0 0) rfl rfl hlt ?_ ?_ hK
 ·simp [Op.operands, hx, hy]
 ·have b2 : bnd 0 (some (evD t y)) = some 0 := by rw [evD_of hy]; simp [bnd]
  simp only [aquiet, evD_of hx, aslice0, hX, hsz, Option.map_some, Option.map_none, b2]
  simp [bnd]
end
section
variable {P : Program} {nt : Nat} {ops : Array Oper} {t : Fm} {m : AM} {K : Fm → AM → Prop} {d T : Nat} {p : String} {af : Array Edge}
theorem Step.slFrom {x y : Operand} {X e s a o n c l : Nat} {i : Int} {kk : IntKind} (hx : evo t x = some (.slice (some ⟨a, o, none⟩) n c)) (hy : evo t y = some (.int kk i)) (he : i = ((l : Nat) : Int)) (hl : l ≤ n) (hn : n ≤ c) (hc : l < c) (hX : P.underlying X = some (.slice e)) (hsz : szB P e = some s)
  (hlt : Nat.blt d nt = true) (hK : K (put t d (.slice (some ⟨a, o + l * s, none⟩) (n - l) (c - l))) m) : Step P nt ops ⟨some d, .slice X x (some y) none none, T, p, af, none⟩ t m K := by
 subst he
 refine .q (v := .slice (some ⟨a, o + l * s, none⟩) (n - l) (c - l)) rfl rfl hlt ?_ ?_ hK
 ·simp [Op.operands, hx, hy]
 ·have b2 : bnd 0 (some (evD t y)) = some l := by rw [evD_of hy]; simp [bnd]
  simp only [aquiet, evD_of hx, aslice0, hX, hsz, Option.map_some, Option.map_none, b2]
  simp only [bnd]
  rw [if_pos ⟨hl, hn, .inl hc⟩]
end
theorem AW.rebase {P : Program} {nt : Nat} {m0 m : AM} {c : Code} {t : Fm} {Q : AEx → Fm → AM → Prop} (h : AW P nt m c t (m ++ []) Q) : AW P nt m0 c t m Q := by
 rw [List.append_nil] at h
 intro ro hro base R0 w0 R a w hb h0 hp ht
 refine wpIn_mono (h ro hro base R w R a w (Nat.le_trans hb hp.size) hp.rep (.refl hp.rep) ht) ?_
 rintro ex a' w' ⟨e, t', m', R', h1, h2, h3, h4, h5⟩
 exact ⟨e, t', m', R', h1, h2, hp.trans h3, h4, h5⟩
section
variable {P : Program} {nt : Nat} {ops : Array Oper} {t : Fm} {m : AM} {K : Fm → AM → Prop} {d T : Nat} {p : String} {af : Array Edge}
def tailV (a o n c : Nat) : Value := if n = 0 then .slice (some ⟨a, o, none⟩) 0 0 else .slice (some ⟨a, o + 1, none⟩) n c
def OwnAt (M : AM) (a : Nat) (L : AM) : Prop := ∃ b, (M ++ L)[a]? = some (some b) ∧ b.kind = .own
theorem OwnAt.new {M L : AM} {k : Nat} {b : Blk} (h : L[k]? = some (some b)) (hk : b.kind = .own) : OwnAt M (M.length + k) L := ⟨b, by rw [get_app]; exact h, hk⟩
theorem Step.tail {x y : Operand} {X e a o n : Nat} {kk : IntKind} {M L L' : AM} (hx : evo t x = some (.slice (some ⟨a, o, none⟩) (n + 1) (n + 1))) (hy : evo t y = some (.int kk 1)) (ho : OwnAt M a L) (hX : P.underlying X = some (.slice e)) (hsz : szB P e = some 1)
  (hlt : Nat.blt d nt = true) (hL : L ++ [none] = L') (hK : K (put t d (tailV a o n n)) (M ++ L')) : Step P nt ops ⟨some d, .slice X x (some y) none none, T, p, af, none⟩ t (M ++ L) K := by
 subst hL
 obtain ⟨b, hb, hk⟩ := ho
 refine .l rfl rfl hlt (by simp [stillB, hX]) (by simp [Op.operands, hx, hy]) (loudN (L := L) rfl rfl (v := tailV a o n n) ?_ hK)
 have b2 : bnd 0 (some (evD t y)) = some 1 := by rw [evD_of hy]; simp [bnd]
 have hb' : ((M ++ L) ++ [none])[a]? = some (some b) := get_old _ hb
 simp only [aloud, evD_of hx, aslice, hX, hsz, Option.map_some, Option.map_none, b2, hb']
 simp only [bnd]
 rw [if_pos (by omega), List.append_assoc]
 by_cases h : n = 0
 ·subst h
  rw [if_neg (by omega)]
  simp [hk, tailV]
 ·rw [if_pos (by omega)]
  simp [tailV, h]
end
def Low (N : Nat) (v : Value) : Prop := ∀ (ρ : Nat → Nat) (n : Nat), (∀ i, i < N → ρ i = i) → N ≤ n → Ren ρ n v v
theorem Low.ptr {N a o : Nat} (h : a < N) : Low N (.pointer (some ⟨a, o, none⟩)) := fun ρ n hρ hn => by
 have := Ren.ptr (ρ := ρ) (n := n) a o (by omega)
 rwa [hρ a h] at this
theorem Low.slice {N a o l c : Nat} (h : a < N) : Low N (.slice (some ⟨a, o, none⟩) l c) := fun ρ n hρ hn => by
 have := Ren.slice (ρ := ρ) (n := n) a o l c (by omega)
 rwa [hρ a h] at this
theorem Low.spot {N a o k : Nat} (h : a < N) : Low N (.slice (some ⟨a, o, some k⟩) 0 0) := fun ρ n hρ hn => by
 have := Ren.sliceSpot (ρ := ρ) (n := n) a o k (by omega)
 rwa [hρ a h] at this
theorem Low.of_sl {N a o k : Nat} {v : Value} (h : Sl v a o k) (ha : a < N) : Low N v := by
 rcases h with ⟨rfl, _⟩ | ⟨c, _, rfl⟩ | ⟨_, o', k', rfl⟩
 ·exact fun _ _ _ _ => .sliceNil
 ·exact .slice ha
 ·exact .spot ha
theorem Low.func {N : Nat} {fn : Fn} {c : List Value} (h : ∀ v ∈ c, Low N v) : Low N (.func fn #[] c.toArray) := fun ρ n hρ hn => by
 refine .func fn #[] c.toArray #[] c.toArray rfl (fun i hi => by simp at hi) rfl fun i hi => ?_
 have hi' : i < c.length := by simpa using hi
 have := h c[i] (List.getElem_mem hi') ρ n hρ hn
 simpa [hi'] using this
theorem Low.rid {N n : Nat} {v : Value} (h : Low N v) (hn : N ≤ n) : Ren rid n v v := h _ _ (fun _ _ => rfl) hn
theorem Low.ne {N n p q : Nat} {v : Value} (h : Low N v) (hn : N ≤ n) : Ren (fun i => if i = N + p then N + q else i) n v v := h _ _ (fun _ hi => if_neg (by omega)) hn
def NoMap (M : AM) : Prop := ∀ b, some b ∈ M → isMapK b.kind = false
theorem NoMap.at_ {M : AM} (h : NoMap M) {i : Nat} {b : Blk} (hi : M[i]? = some (some b)) : isMapK b.kind = false := h b (List.mem_of_getElem? hi)
structure Asg (P : Program) (nt : Nat) (asg : Code) (A : Act → Act) (At : Fm → Fm) : Prop where
 run : ∀ (l : Nat) (a : Act) (W : World) (K : Act → World → Prop), K (A a) W → asg.wpIn (Fence.wide.inRound l) (2 - 1 - 1) P (Exit.then K (fun _ _ _ => False)) a W
 rel : ∀ (R : Pl) (t : Fm) (a : Act), FR R nt t a.tmps → FR R nt (At t) (A a).tmps
theorem Asg.skip {P : Program} {nt : Nat} : Asg P nt .skip id id := ⟨fun _ _ _ _ hK => wpIn_skip hK, fun _ _ _ h => h⟩
def atOne (d p : Nat) (t : Fm) : Fm := match t p with
 | some v => put t d v
 | none => fun i => if i = d then none else t i
theorem Asg.one {P : Program} {nt id d p T : Nat} {pos : String} {af : Array Edge} (hd : Nat.blt d nt = true) : Asg P nt (.region id #[⟨some d, .assign (.tmp p), T, pos, af, none⟩] false) (fun a => a.put (some d) (a.eval (.tmp p))) (atOne d p) := by
 refine ⟨fun l a W K hK => ?_, fun R t a h => ?_⟩
 ·refine wpIn_region ?_
  have e : List.range (#[(⟨some d, .assign (.tmp p), T, pos, af, none⟩ : Oper)]).size = [0] := rfl
  rw [e]
  simp only [wpOpsIn, List.getElem?_toArray, List.getElem?_cons_zero]
  rw [if_pos (show Region.wanted _ _ = true from rfl)]
  refine ⟨fun _ _ => trivial, ?_⟩
  rw [Oper.semAt_eq _ _ _ (by intro c; simp)]
  exact hK
 ·have hd' : d < nt := by simpa using hd
  unfold atOne
  cases hp : t p with
  | some v => exact h.put hd' (h.rel p v hp)
  | none =>
   have hs := h.size
   refine ⟨by show (a.tmps.setIfInBounds d _).size = nt; simpa using hs, fun i v hi => ?_⟩
   by_cases e : i = d
   ·simp [e] at hi
   ·simp only [if_neg e] at hi
    have := h.rel i v hi
    show Rel R v ((a.tmps.setIfInBounds d _).getD i undef)
    simp only [Array.getD_eq_getD_getElem?, Array.getElem?_setIfInBounds_ne (Ne.symm e)] at this ⊢
    exact this
section
variable {P : Program} {nt : Nat} {M m0 : AM} {t : Fm} {Q : AEx → Fm → AM → Prop}
end
def upL (L : Nat → Bool) (i : Nat) : Nat → Bool := fun j => cond (Nat.beq j i) true (L j)
theorem upL_same (L : Nat → Bool) (i : Nat) : upL L i i = true := by simp [upL]
theorem upL_ne (L : Nat → Bool) {i j : Nat} (h : j ≠ i) : upL L i j = L j := by
 have : Nat.beq j i = false := by
  cases e : Nat.beq j i with
  | false => rfl
  | true => exact absurd (Nat.eq_of_beq_eq_true e) h
 simp [upL, this]
def cntL (L : Nat → Bool) : Nat → Nat
 | 0 => 0
 | n + 1 => cntL L n + cond (L n) 0 1
theorem cntL_eq (L L' : Nat → Bool) : ∀ n, (∀ j, j < n → L j = L' j) → cntL L n = cntL L' n
 | 0, _ => rfl
 | n + 1, h => by simp only [cntL]; rw [h n (by omega), cntL_eq L L' n fun j hj => h j (by omega)]
theorem cntL_up (L : Nat → Bool) (i : Nat) (hi : L i = false) : ∀ n, i < n → cntL (upL L i) n + 1 = cntL L n
 | 0, h => by omega
 | n + 1, h => by
  simp only [cntL]
  by_cases e : i = n
  ·subst e
   rw [upL_same, hi, cntL_eq (upL L i) L i fun j hj => upL_ne L (by omega)]; simp
  ·rw [upL_ne L (show n ≠ i by omega), ← cntL_up L i hi n (by omega)]; omega
theorem cntL_zero (L : Nat → Bool) : ∀ n, cntL L n = 0 → ∀ j, j < n → L j = true
 | 0, _, j, hj => by omega
 | n + 1, h, j, hj => by
  simp only [cntL] at h
  by_cases e : j = n
  ·subst e
   cases hl : L j with
   | true => rfl
   | false => rw [hl] at h; simp at h
  ·exact cntL_zero L n (by omega) j (by omega)
theorem cntL_le (L : Nat → Bool) : ∀ n, cntL L n ≤ n
 | 0 => Nat.le_refl _
 | n + 1 => by
  have := cntL_le L n
  simp only [cntL]
  cases L n <;> simp <;> omega
def depsO (o : Oper) : List Nat := (o.after.toList.filter fun e => Region.binds .any e).map (·.on)
def backB (l : List Oper) : Bool := (List.range l.length).all fun i => match l[i]? with
 | some o => (depsO o).all fun j => Nat.blt j i
 | none => true
section
variable {P : Program} {nt : Nat} {t : Fm} {m m0 : AM} {l : List Oper}
theorem AWd.inv {Q : Fm → AM → Prop} (Inv : (Nat → Bool) → Fm → AM → Prop) (hb : backB l = true)
  (hs : ∀ (i : Nat) (o : Oper), l[i]? = some o → ∀ (L : Nat → Bool) (t : Fm) (m : AM), Inv L t m → L i = false → (∀ j ∈ depsO o, L j = true) → Step P nt l.toArray o t m (fun t m => Inv (upL L i) t m))
  (he : ∀ (L : Nat → Bool) (t : Fm) (m : AM), (∀ i, i < l.length → L i = true) → Inv L t m → Q t m) :
  ∀ (f : Nat) (listed : Array Bool) (L : Nat → Bool) (t : Fm) (m : AM), listed.size = l.length → (∀ i, i < l.length → listed.getD i false = L i) → cntL L l.length ≤ f → Inv L t m → AWd P nt l.toArray Q f listed t m := by
 have hend : ∀ (listed : Array Bool) (L : Nat → Bool), listed.size = l.length → (∀ i, i < l.length → listed.getD i false = L i) → Region.ready .any l.toArray listed = [] → ∀ i, i < l.length → L i = true := by
  intro listed L hsz hL hr i
  induction i using Nat.strongRecOn with
  | _ i ih =>
   intro hi
   cases hl : L i with
   | true => rfl
   | false =>
    have hlt : i < listed.size := by omega
    have hli : listed.getD i false = false := by rw [hL i hi]; exact hl
    have hmem : i ∈ Region.ready .any l.toArray listed := mem_ready.2 ⟨by
     simp only [Array.getD_eq_getD_getElem?, Array.getElem?_eq_getElem hlt, Option.getD_some] at hli ⊢
     exact hli, l[i], by simp [hi], fun e he hb' => by
      have h1 := List.all_eq_true.1 hb i (List.mem_range.2 hi)
      rw [List.getElem?_eq_getElem hi] at h1
      have h2 := List.all_eq_true.1 h1 e.on (List.mem_map.2 ⟨e, List.mem_filter.2 ⟨by simpa using he, hb'⟩, rfl⟩)
      have h3 : e.on < i := by simpa using h2
      rw [hL e.on (by omega)]
      exact ih e.on h3 (by omega)⟩
    rw [hr] at hmem; cases hmem
 intro f
 induction f with
 | zero =>
  intro listed L t m hsz hL hc hI
  have hall := cntL_zero L l.length (by omega)
  refine ⟨?_, he L t m hall hI⟩
  cases hr : Region.ready .any l.toArray listed with
  | nil => rfl
  | cons i r =>
   obtain ⟨h1, o, h2, _⟩ := mem_ready.1 (show i ∈ Region.ready .any l.toArray listed by rw [hr]; simp)
   have hi : i < l.length := by have := (Array.getElem?_eq_some_iff.1 h2).1; simpa using this
   have h3 := hL i hi
   rw [hall i hi] at h3
   have hlt : i < listed.size := by omega
   simp only [Array.getD_eq_getD_getElem?, Array.getElem?_eq_getElem hlt, Option.getD_some] at h3 h1
   rw [h3] at h1; cases h1
 | succ f ih =>
  intro listed L t m hsz hL hc hI
  refine ⟨fun hr => he L t m (hend listed L hsz hL hr) hI, fun i hi o ho => ?_⟩
  obtain ⟨h1, o', h2, h3⟩ := mem_ready.1 hi
  rw [ho] at h2; injection h2 with h2; subst h2
  have ho' : l[i]? = some o := by simpa using ho
  have hil : i < l.length := (List.getElem?_eq_some_iff.1 ho').1
  have hlt : i < listed.size := by omega
  have hLi : L i = false := by
   rw [← hL i hil]
   simp only [Array.getD_eq_getD_getElem?, Array.getElem?_eq_getElem hlt, Option.getD_some] at h1 ⊢
   exact h1
  refine (hs i o ho' L t m hI hLi fun j hj => ?_).mono fun v m' hk => ?_
  ·obtain ⟨e, e1, e2⟩ := List.mem_map.1 hj
   obtain ⟨e3, e4⟩ := List.mem_filter.1 e1
   have := h3 e (by simpa using e3) e4
   subst e2
   have hd := List.all_eq_true.1 hb i (List.mem_range.2 hil)
   rw [List.getElem?_eq_getElem hil] at hd
   have hoi : l[i] = o := by rw [List.getElem?_eq_getElem hil] at ho'; injection ho'
   rw [hoi] at hd
   have h5 := List.all_eq_true.1 hd e.on hj
   have h6 : e.on < i := by simpa using h5
   rw [← hL e.on (by omega)]; exact this
  ·refine ih _ (upL L i) _ m' (by simpa using hsz) (fun j hj => ?_) (by have := cntL_up L i hLi l.length hil; omega) hk
   by_cases e : j = i
   ·subst e
    rw [upL_same]; simp [hlt]
   ·rw [upL_ne L e, ← hL j hj]
    simp only [Array.getD_eq_getD_getElem?]
    rw [Array.getElem?_setIfInBounds_ne (Ne.symm e)]
theorem AW.anyI (hP : Fit P) {id : Nat} {Q : AEx → Fm → AM → Prop} (Inv : (Nat → Bool) → Fm → AM → Prop) (hb : backB l = true) (h0 : Inv (fun _ => false) t m)
  (hs : ∀ (i : Nat) (o : Oper), l[i]? = some o → ∀ (L : Nat → Bool) (t : Fm) (m : AM), Inv L t m → L i = false → (∀ j ∈ depsO o, L j = true) → Step P nt l.toArray o t m (fun t m => Inv (upL L i) t m))
  (he : ∀ (L : Nat → Bool) (t : Fm) (m : AM), (∀ i, i < l.length → L i = true) → Inv L t m → Q .normal t m) : AW P nt m0 (.region id l.toArray true) t m Q :=
 .all hP (AWd.inv Inv hb hs he _ _ (fun _ => false) t m (by simp) (fun i hi => by simp [hi]) (by simpa using cntL_le (fun _ => false) l.length) h0)
end
section
variable {P : Program} {nt : Nat} {ops : Array Oper} {t : Fm} {m : AM} {K : Fm → AM → Prop} {d T : Nat} {p : String} {af : Array Edge}
theorem Step.allocG {ty : TypeId} {z : Array Value} (hz : zeroB P ty = some z) (hlt : Nat.blt d nt = true) (hK : K (put t d (.pointer (some ⟨m.length, 0, none⟩))) (m ++ [some { cells := z.toList }])) :
  Step P nt ops ⟨some d, .alloc ty, T, p, af, none⟩ t m K := by
 rw [← List.append_nil m]
 exact Step.alloc (M := m) (L := []) 0 rfl hz hlt rfl (by simpa using hK)
theorem Step.storeC {x y : Operand} {ty : TypeId} {a o : Nat} {v : Value} {b : Blk} (hx : evo t x = some (.pointer (some ⟨a, o, none⟩))) (hy : evo t y = some v) (hb : m[a]? = some (some b)) (hs : b.kind.solid = true) (hz : szB P ty = some 1) (hc : v.cells = #[v]) (h1 : v.oneCell' = true) (ho : o < b.cells.length)
  (hK : K t (m.set a (some { b with cells := b.cells.set o v }))) : Step P nt ops ⟨none, .store ty x y, T, p, af, none⟩ t m K := by
 have := Step.store (P := P) (nt := nt) (ops := ops) (T := T) (p := p) (af := af) (M := []) (L := m) (k := a) (ty := ty) (K := K) (by simpa using hx) hy hb hs hz hc h1 ho rfl (by simpa using hK)
 simpa using this
theorem Step.indexV {x y : Operand} {X e n k : Nat} {c : Array Value} {v : Value} {kk : IntKind} (hx : evo t x = some (.agg c)) (hy : evo t y = some (.int kk ((k : Nat) : Int))) (hX : P.underlying X = some (.array n e)) (hsz : szB P e = some 1) (hg : aggB P e = some false) (hk : k < n) (hv : c[k]? = some v)
  (hlt : Nat.blt d nt = true) (hK : K (put t d v) m) : Step P nt ops ⟨some d, .index X x y, T, p, af, none⟩ t m K := by
 refine .q (v := v) rfl rfl hlt (by simp [Op.operands, hx, hy]) ?_ hK
 simp only [aquiet, evD_of hx, evD_of hy, aindexOf, hX, hsz]
 rw [if_pos (by omega)]
 simp [apart_, hg, hv]
theorem still_nilP {X e : TypeId} (hX : P.underlying X = some (.pointer e)) (n : Nat) : Sim.still P (Op.equalIn (n + 1) X (.pointer none) (.pointer none)) = some true := by
 rw [Op.equalIn]
 show Sim.still P (Sem.bind (underlying X) _) = _
 rw [still_bind]
 have : Sim.still P (underlying X) = some (.pointer e) := by
  unfold underlying
  show Sim.still P (Sem.bind program _) = _
  rw [still_bind]
  simp [program, Sim.still, hX, pure]
 rw [this]
 rfl
theorem Step.ptrNil {x y : Operand} {X Y e : TypeId} (hx : evo t x = some (.pointer none)) (hy : evo t y = some (.pointer none)) (hX : P.underlying X = some (.pointer e)) (hlt : Nat.blt d nt = true) (hK : K (put t d (.bool true)) m) : Step P nt ops ⟨some d, .binOp .eql X x y Y, T, p, af, none⟩ t m K := by
 refine .ground rfl rfl hlt (by simp [Op.operands, hx, hy, g1, g0]) (fun h => by simp only [aquiet, evD_of hx, evD_of hy, aint, anil, hX]; simpa [evD_of hx, evD_of hy] using h) ?_ (by simp [g1, g0]) hK
 have he := still_nilP hX 9999
 simp only [execOp, eqGuard, binOp, evD_of hx, evD_of hy, bind, Sem.bind, pure]
 show Sim.still P (((Op.equalIn (9999 + 1) X (.pointer none) (.pointer none)).bind _).bind _) = _
 rw [still_bind, still_bind, he]
 rfl
theorem Step.ptrNot {x y : Operand} {X Y : TypeId} {a o : Nat} {e : TypeId} (hx : evo t x = some (.pointer (some ⟨a, o, none⟩))) (hy : evo t y = some (.pointer none)) (hX : P.underlying X = some (.pointer e)) (hlt : Nat.blt d nt = true) (hK : K (put t d (.bool false)) m) : Step P nt ops ⟨some d, .binOp .eql X x y Y, T, p, af, none⟩ t m K :=
 .q rfl rfl hlt (by simp [Op.operands, hx, hy]) (by simp [aquiet, evD_of hx, evD_of hy, aint, anil, hX, bEq]) hK
theorem Step.arr {x : Operand} {X e a len : Nat} {M L L' : AM} (hx : evo t x = some (.pointer (some ⟨a, 0, none⟩))) (ho : OwnAt M a L) (hX : P.underlying X = some (.array len e)) (hsz : szB P e = some 1) (h0 : Nat.blt 0 len = true)
  (hlt : Nat.blt d nt = true) (hL : L ++ [none] = L') (hK : K (put t d (.slice (some ⟨a, 0, none⟩) len len)) (M ++ L')) : Step P nt ops ⟨some d, .slice X x none none none, T, p, af, none⟩ t (M ++ L) K := by
 subst hL
 obtain ⟨b, hb, hk⟩ := ho
 have h0' : 0 < len := by simpa using h0
 refine .l rfl rfl hlt (by simp [stillB, hX]) (by simp [Op.operands, hx]) (loudN (L := L) rfl rfl (v := .slice (some ⟨a, 0, none⟩) len len) ?_ hK)
 have hb' : ((M ++ L) ++ [none])[a]? = some (some b) := get_old _ hb
 simp only [aloud, evD_of hx, aslice, hX, hsz, Option.map_none, hb']
 simp only [bnd]
 rw [if_pos ⟨Nat.zero_le _, Nat.le_refl _, .inl hk⟩, List.append_assoc]
 simp
end
theorem ACall.drop {P : Program} {f : FuncId} {args : Array Value} {m : AM} {r : Value} (hr : Ren rid m.length r r) (h : ACall P f args m (fun v m' => v = r ∧ ∃ N, m' = m ++ N)) : ACall P f args m (Ret r m) := by
 intro base R w args' hb hm ha
 refine (h base R w args' hb hm ha).mono ?_
 rintro e w' ⟨v, v', R', m', he, hrel, hpost, rfl, N, rfl⟩
 obtain ⟨R1, h1, h2⟩ := (Gc.drop (M := m) (L := N) (t := fr [(0, v)]) (l := [(0, v)]) ⟨⟨rfl, hr⟩, trivial⟩).ok hm hpost (nt := 1) (u := #[v']) ⟨rfl, fun i x hi => by
  by_cases e : i = 0
  ·subst e
   have : some v = some x := hi
   injection this with this; subst this
   exact hrel
  ·have : fr [(0, v)] i = none := by show put (fr []) 0 v i = none; rw [put_ne _ _ e]; rfl
   rw [this] at hi; cases hi⟩
 exact ⟨v, v', R1, m, he, h2.rel 0 v rfl, h1, rfl, rfl⟩
theorem Ren.aggI {ρ : Nat → Nat} {n : Nat} (l : List Int) : Ren ρ n (.agg (iv l).toArray) (.agg (iv l).toArray) :=
 .agg _ _ rfl fun i hi => by
  have hi' : i < l.length := by simpa [iv] using hi
  have : (iv l).toArray.getD i undef = .int .i64 l[i] := by simp [iv, hi']
  rw [this]; exact .int _ _
theorem ares_cell {P : Program} {fn : Func} {t : Fm} {m : AM} {a i n : Nat} {ty : TypeId} {c : List Value} (hr : fn.results = #[.cell a ty]) (ht : t a = some (.pointer (some ⟨i, 0, none⟩))) (hg : aggB P ty = some true) (hn : szB P ty = some n) (h1 : RdL m i 0 c) (h3 : c.length = n) (hn1 : Nat.blt 0 n = true) :
  ares P fn t m = some (.agg c.toArray) := by
 obtain ⟨b, k1, k2⟩ := h1
 simp at hn1
 have hlast := k2 (n - 1) c[n - 1] (List.getElem?_eq_getElem (by omega))
 have hlen := (List.getElem?_eq_some_iff.1 hlast).1
 have hc : (b.cells.drop 0).take n = c := by
  apply List.ext_getElem?
  intro j
  by_cases hj : j < n
  ·rw [List.getElem?_take, if_pos hj, List.getElem?_drop, k2 j c[j] (List.getElem?_eq_getElem (by omega)), List.getElem?_eq_getElem (by omega)]
  ·rw [List.getElem?_take, if_neg hj, List.getElem?_eq_none (by omega)]
 have h0 : 0 + n ≤ b.cells.length := by omega
 have hl : aload P m ty (.pointer (some ⟨i, 0, none⟩)) = some (.agg c.toArray) := by simp only [aload, k1, hg, hn]; rw [if_pos h0, hc]
 have hL : aresL P t m fn.results.toList = some [.agg c.toArray] := by rw [hr]; simp only [aresL, ares1, ht, hl]
 unfold ares
 rw [hL]
section
variable {P : Program} {nt : Nat} {ops : Array Oper} {t : Fm} {m : AM} {K : Fm → AM → Prop} {d T : Nat} {p : String} {af : Array Edge}
theorem Step.buildG {X : TypeId} {len : Nat} {parts : Array (Nat × Operand)} {ws : List Value} {c : List Value} (hv : evL t (parts.toList.map (·.2)) = some ws)
  (hb : ∀ (m : AM) (n : Nat), abuildSlice P m n X len ((parts.toList.map (·.1)).zip ws) = some (.slice (some ⟨n, 0, none⟩) len len, m.set n (some { cells := c }))) (hlt : Nat.blt d nt = true) (hK : K (put t d (.slice (some ⟨m.length, 0, none⟩) len len)) (m ++ [some { cells := c }])) :
  Step P nt ops ⟨some d, .buildSlice X len parts, T, p, af, none⟩ t m K := by
 have := Step.buildS (P := P) (nt := nt) (ops := ops) (T := T) (p := p) (af := af) (M := m) (L := []) (K := K) 0 rfl hv hb hlt rfl (by simpa using hK)
 simpa using this
end
theorem aload_cell {P : Program} {m : AM} {i n : Nat} {ty : TypeId} {c : List Value} (hg : aggB P ty = some true) (hn : szB P ty = some n) (h1 : RdL m i 0 c) (h3 : c.length = n) (hn1 : Nat.blt 0 n = true) : aload P m ty (.pointer (some ⟨i, 0, none⟩)) = some (.agg c.toArray) := by
 obtain ⟨b, k1, k2⟩ := h1
 simp at hn1
 have hlast := k2 (n - 1) c[n - 1] (List.getElem?_eq_getElem (by omega))
 have hlen := (List.getElem?_eq_some_iff.1 hlast).1
 have hc : (b.cells.drop 0).take n = c := by
  apply List.ext_getElem?
  intro j
  by_cases hj : j < n
  ·rw [List.getElem?_take, if_pos hj, List.getElem?_drop, k2 j c[j] (List.getElem?_eq_getElem (by omega)), List.getElem?_eq_getElem (by omega)]
  ·rw [List.getElem?_take, if_neg hj, List.getElem?_eq_none (by omega)]
 have h0 : 0 + n ≤ b.cells.length := by omega
 simp only [aload, k1, hg, hn]; rw [if_pos h0, hc]
theorem set_high {m0 N : AM} {a : Nat} (h : m0.length ≤ a) (x : Option Blk) : ∃ N', (m0 ++ N).set a x = m0 ++ N' := ⟨N.set (a - m0.length) x, by rw [List.set_append_right _ _ h]⟩
def depL (acc : List (Nat × Value)) (D : List Nat) : List (Nat × Value) := D.map fun j => acc.getD j (0, undef)
def AWf (P : Program) (nt : Nat) (m : AM) (ops : Array Oper) (bs : List (Nat × Value)) : List Oper → List (List Nat) → List (Nat × Value) → (List (Nat × Value) → Prop) → Prop
 | [], _, acc, Q => Q acc
 | o :: rest, D, acc, Q => ∃ d v, o.dst = some d ∧ Step P nt ops o (fr (depL acc (D.headD []) ++ bs)) m (fun t' m' => t' d = some v ∧ m' = m) ∧ AWf P nt m ops bs rest D.tail ((d, v) :: acc) Q
section
variable {P : Program} {nt : Nat} {t : Fm} {m m0 : AM} {l : List Oper} {bs : List (Nat × Value)}
theorem AWf.cons {ops : Array Oper} {o : Oper} {rest : List Oper} {dd : List Nat} {D : List (List Nat)} {acc : List (Nat × Value)} {Q : List (Nat × Value) → Prop} {d : Nat} {v : Value} (hd : o.dst = some d) (h : Step P nt ops o (fr (depL acc dd ++ bs)) m (fun t' m' => t' d = some v ∧ m' = m)) (hr : AWf P nt m ops bs rest D ((d, v) :: acc) Q) :
  AWf P nt m ops bs (o :: rest) (dd :: D) acc Q := ⟨d, v, hd, h, hr⟩
theorem AWf.nil {ops : Array Oper} {D : List (List Nat)} {acc : List (Nat × Value)} {Q : List (Nat × Value) → Prop} (h : Q acc) : AWf P nt m ops bs [] D acc Q := h
theorem AWf.get {ops : Array Oper} : ∀ {rest : List Oper} {D : List (List Nat)} {acc : List (Nat × Value)} {Q : List (Nat × Value) → Prop}, AWf P nt m ops bs rest D acc Q → ∃ a1 : List (Nat × Value), a1.length = rest.length ∧ Q (a1.reverse ++ acc) ∧ ∀ i o, rest[i]? = some o → ∃ d v, a1[i]? = some (d, v) ∧ o.dst = some d ∧ Step P nt ops o (fr (depL ((a1.take i).reverse ++ acc) (D.getD i []) ++ bs)) m (fun t' m' => t' d = some v ∧ m' = m)
 | [], _, acc, Q, h => ⟨[], rfl, h, fun i o ho => by simp at ho⟩
 | o :: rest, D, acc, Q, h => by
  obtain ⟨d, v, hd, h1, h2⟩ := h
  obtain ⟨a1, g1, g2, g3⟩ := AWf.get h2
  refine ⟨(d, v) :: a1, by simp [g1], by rw [List.reverse_cons, List.append_assoc]; exact g2, fun i o' ho => ?_⟩
  cases i with
  | zero =>
   simp only [List.getElem?_cons_zero, Option.some.injEq] at ho
   subst ho
   refine ⟨d, v, rfl, hd, ?_⟩
   rw [List.take_zero, List.reverse_nil, List.nil_append]
   cases D <;> exact h1
  | succ i =>
   simp only [List.getElem?_cons_succ] at ho ⊢
   obtain ⟨d', v', k1, k2, k3⟩ := g3 i o' ho
   refine ⟨d', v', k1, k2, ?_⟩
   rw [List.take_succ_cons, List.reverse_cons, List.append_assoc]
   have : D.tail.getD i [] = D.getD (i + 1) [] := by cases D <;> simp
   rw [this] at k3
   exact k3
end
def AWfL (P : Program) (nt : Nat) (m : AM) (ops : Array Oper) (bs : List (Nat × Value)) (K : Fm → AM → Prop) : List Oper → List (List Nat) → List (Nat × Value) → Prop
 | [], _, _ => False
 | [o], _, acc => Step P nt ops o (fr (acc ++ bs)) m K
 | o :: o' :: rest, D, acc => ∃ d v, o.dst = some d ∧ Step P nt ops o (fr (depL acc (D.headD []) ++ bs)) m (fun t' m' => t' d = some v ∧ m' = m) ∧ AWfL P nt m ops bs K (o' :: rest) D.tail ((d, v) :: acc)
section
variable {P : Program} {nt : Nat} {t : Fm} {m m0 : AM} {l : List Oper} {bs : List (Nat × Value)} {K : Fm → AM → Prop}
theorem AWfL.cons {ops : Array Oper} {o o' : Oper} {rest : List Oper} {dd : List Nat} {D : List (List Nat)} {acc : List (Nat × Value)} {d : Nat} {v : Value} (hd : o.dst = some d) (h : Step P nt ops o (fr (depL acc dd ++ bs)) m (fun t' m' => t' d = some v ∧ m' = m)) (hr : AWfL P nt m ops bs K (o' :: rest) D ((d, v) :: acc)) :
  AWfL P nt m ops bs K (o :: o' :: rest) (dd :: D) acc := ⟨d, v, hd, h, hr⟩
theorem AWfL.last {ops : Array Oper} {o : Oper} {D : List (List Nat)} {acc : List (Nat × Value)} (h : Step P nt ops o (fr (acc ++ bs)) m K) : AWfL P nt m ops bs K [o] D acc := h
theorem AWfL.split {ops : Array Oper} : ∀ {l : List Oper} {D : List (List Nat)} {acc : List (Nat × Value)}, AWfL P nt m ops bs K l D acc → ∃ l' last, l = l' ++ [last] ∧ AWf P nt m ops bs l' D acc (fun acc => Step P nt ops last (fr (acc ++ bs)) m K)
 | [], _, _, h => h.elim
 | [o], D, acc, h => ⟨[], o, rfl, h⟩
 | o :: o' :: rest, D, acc, h => by
  obtain ⟨d, v, hd, h1, h2⟩ := h
  obtain ⟨l', last, e, h3⟩ := AWfL.split h2
  exact ⟨o :: l', last, by rw [e]; rfl, d, v, hd, h1, h3⟩
end
theorem Gc.cut {t : Fm} {m0 M L : AM} {l : List (Nat × Value)} (hl : m0.length ≤ M.length) (hM : ∀ (j : Nat) (b : Blk), M[j]? = some (some b) → (j < m0.length ∧ m0[j]? = some (some b)) ∨ (isMapK b.kind = false ∧ ∀ v ∈ b.cells, Ren rid M.length v v)) (h : All (fun i v => t i = some v ∧ Ren rid M.length v v) l) : Gc m0 t (M ++ L) (fr l) M :=
 ⟨rid, hl, fun _ _ => rfl, fun _ _ _ _ _ _ e => e, fun j b hj => by
  rcases hM j b hj with ⟨h1, h2⟩ | ⟨h1, h2⟩
  ·exact .inl ⟨h1, get_old L hj, h2⟩
  ·exact .inr ⟨h1, b, get_old L hj, rfl, rfl, rfl, fun k v hk => ⟨v, hk, h2 v (List.mem_of_getElem? hk)⟩⟩, fun i v hi => by
  obtain ⟨h1, h2⟩ := fr_all h i v hi
  exact ⟨v, h1, h2⟩⟩
inductive Ent | val (d : Nat) (v : Value) | cp (d k : Nat) (f : Nat → Value) | mk (d : Nat) (f : Nat → Value) (b : Option Blk) | fill (k : Nat) (b : Option Blk)
def Ent.pr (p : Nat → Nat) (i : Nat) : Ent → List (Nat × Value)
 | .val d v => [(d, v)]
 | .cp d k f => [(d, f (p k))]
 | .mk d f _ => [(d, f (p i))]
 | .fill .. => []
def depG (p : Nat → Nat) (acc : List Ent) (D : List Nat) : List (Nat × Value) := D.flatMap fun j => (acc.getD j (.fill 0 none)).pr p (acc.length - 1 - j)
def fillOf (k : Nat) : List Ent → Option (Option Blk)
 | [] => none
 | .fill j b :: acc => if j = k then some b else fillOf k acc
 | _ :: acc => fillOf k acc
section
variable (P : Program) (nt : Nat) (m : AM) (ops : Array Oper) (bs : List (Nat × Value))
def EntOk (o : Oper) (dd : List Nat) (acc : List Ent) : Ent → Prop
 | .val d v => o.dst = some d ∧ ∀ p : Nat → Nat, (∀ k, m.length ≤ p k) → ∀ N : AM, Step P nt ops o (fr (depG p acc dd ++ bs)) (m ++ N) (fun t' m' => t' d = some v ∧ m' = m ++ N)
 | .cp d k f => o.dst = some d ∧ k < acc.length ∧ acc.length - 1 - k ∈ dd ∧ ∀ p : Nat → Nat, (∀ k, m.length ≤ p k) → ∀ N : AM, Step P nt ops o (fr (depG p acc dd ++ bs)) (m ++ N) (fun t' m' => t' d = some (f (p k)) ∧ m' = m ++ N)
 | .mk d f b => o.dst = some d ∧ ∀ p : Nat → Nat, (∀ k, m.length ≤ p k) → ∀ N : AM, Step P nt ops o (fr (depG p acc dd ++ bs)) (m ++ N) (fun t' m' => t' d = some (f (m ++ N).length) ∧ m' = (m ++ N) ++ [b])
 | .fill k b => o.dst = none ∧ fillOf k acc = none ∧ k < acc.length ∧ acc.length - 1 - k ∈ dd ∧ ∃ d f b0, acc[acc.length - 1 - k]? = some (.mk d f b0) ∧
   ∀ p : Nat → Nat, (∀ k, m.length ≤ p k) → ∀ M : AM, M[p k]? = some b0 → Step P nt ops o (fr (depG p acc dd ++ bs)) M (fun _ m' => m' = M.set (p k) b)
def AWg : List Oper → List (List Nat) → List Ent → (List Ent → Prop) → Prop
 | [], _, acc, Q => Q acc
 | o :: rest, D, acc, Q => ∃ e, EntOk P nt m ops bs o (D.headD []) acc e ∧ AWg rest D.tail (e :: acc) Q
end
section
variable {P : Program} {nt : Nat} {t : Fm} {m m0 : AM} {ops : Array Oper} {l : List Oper} {bs : List (Nat × Value)} {o : Oper} {rest : List Oper} {dd : List Nat} {D : List (List Nat)} {acc : List Ent} {Q : List Ent → Prop} {d : Nat} {v : Value}
theorem AWg.val (hd : o.dst = some d) (h : ∀ p : Nat → Nat, (∀ k, m.length ≤ p k) → ∀ N : AM, Step P nt ops o (fr (depG p acc dd ++ bs)) (m ++ N) (fun t' m' => t' d = some v ∧ m' = m ++ N)) (hr : AWg P nt m ops bs rest D (.val d v :: acc) Q) : AWg P nt m ops bs (o :: rest) (dd :: D) acc Q := ⟨.val d v, ⟨hd, h⟩, hr⟩
theorem AWg.ptr {b : Option Blk} (hd : o.dst = some d) (h : ∀ p : Nat → Nat, (∀ k, m.length ≤ p k) → ∀ N : AM, Step P nt ops o (fr (depG p acc dd ++ bs)) (m ++ N) (fun t' m' => t' d = some (.pointer (some ⟨(m ++ N).length, 0, none⟩)) ∧ m' = (m ++ N) ++ [b])) (hr : AWg P nt m ops bs rest D (.mk d (fun a => .pointer (some ⟨a, 0, none⟩)) b :: acc) Q) : AWg P nt m ops bs (o :: rest) (dd :: D) acc Q := ⟨.mk d (fun a => .pointer (some ⟨a, 0, none⟩)) b, ⟨hd, h⟩, hr⟩
theorem AWg.new (f : Nat → Value) {b : Option Blk} (hd : o.dst = some d) (h : ∀ p : Nat → Nat, (∀ k, m.length ≤ p k) → ∀ N : AM, Step P nt ops o (fr (depG p acc dd ++ bs)) (m ++ N) (fun t' m' => t' d = some (f (m ++ N).length) ∧ m' = (m ++ N) ++ [b])) (hr : AWg P nt m ops bs rest D (.mk d f b :: acc) Q) : AWg P nt m ops bs (o :: rest) (dd :: D) acc Q := ⟨.mk d f b, ⟨hd, h⟩, hr⟩
theorem AWg.fill (k : Nat) {d0 : Nat} {f0 : Nat → Value} {b b0 : Option Blk} (hd : o.dst = none) (h1 : fillOf k acc = none) (h2 : k < acc.length) (h3 : acc.length - 1 - k ∈ dd) (h4 : acc[acc.length - 1 - k]? = some (.mk d0 f0 b0))
  (h : ∀ p : Nat → Nat, (∀ k, m.length ≤ p k) → ∀ M : AM, M[p k]? = some b0 → Step P nt ops o (fr (depG p acc dd ++ bs)) M (fun _ m' => m' = M.set (p k) b)) (hr : AWg P nt m ops bs rest D (.fill k b :: acc) Q) : AWg P nt m ops bs (o :: rest) (dd :: D) acc Q := ⟨.fill k b, ⟨hd, h1, h2, h3, d0, f0, b0, h4, h⟩, hr⟩
section
variable {T : Nat} {pos : String} {af : Array Edge} {ty : TypeId} {b b0 : Option Blk}
end
theorem AWg.nil (h : Q acc) : AWg P nt m ops bs [] D acc Q := h
theorem AWg.get : ∀ {rest : List Oper} {D : List (List Nat)} {acc : List Ent} {Q : List Ent → Prop}, AWg P nt m ops bs rest D acc Q → ∃ a1 : List Ent, a1.length = rest.length ∧ Q (a1.reverse ++ acc) ∧ ∀ i o, rest[i]? = some o → ∃ e, a1[i]? = some e ∧ EntOk P nt m ops bs o (D.getD i []) ((a1.take i).reverse ++ acc) e
 | [], _, acc, Q, h => ⟨[], rfl, h, fun i o ho => by simp at ho⟩
 | o :: rest, D, acc, Q, h => by
  obtain ⟨e, h1, h2⟩ := h
  obtain ⟨a1, g1, g2, g3⟩ := AWg.get h2
  refine ⟨e :: a1, by simp [g1], by rw [List.reverse_cons, List.append_assoc]; exact g2, fun i o' ho => ?_⟩
  cases i with
  | zero =>
   simp only [List.getElem?_cons_zero, Option.some.injEq] at ho
   subst ho
   refine ⟨e, rfl, ?_⟩
   rw [List.take_zero, List.reverse_nil, List.nil_append]
   cases D <;> exact h1
  | succ i =>
   simp only [List.getElem?_cons_succ] at ho ⊢
   obtain ⟨e', k1, k2⟩ := g3 i o' ho
   refine ⟨e', k1, ?_⟩
   rw [List.take_succ_cons, List.reverse_cons, List.append_assoc]
   have : D.tail.getD i [] = D.getD (i + 1) [] := by cases D <;> simp
   rw [this] at k2
   exact k2
end
def Row (M : AM) (b0 s : Nat) (u : Value) (c : List Value) (n : Nat) : Prop :=
 (u = .slice none 0 0 ∧ c = [] ∧ n = 0) ∨ ∃ (a : Nat) (kd : Kind) (sz : Nat), b0 ≤ a ∧ u = .slice (some ⟨a, 0, none⟩) n n ∧ M[a]? = some (some { cells := c, kind := kd, size := sz }) ∧ c.length = n * s ∧ (kd = .own ∨ kd = .grow ∧ sz = s)
theorem Row.len {M : AM} {b0 s : Nat} {u : Value} {c : List Value} {n : Nat} (h : Row M b0 s u c n) : c.length = n * s := by
 rcases h with ⟨_, rfl, rfl⟩ | ⟨a, kd, sz, _, _, _, h, _⟩
 ·simp
 ·exact h
theorem Row.nil {M : AM} {b0 s : Nat} : Row M b0 s (.slice none 0 0) [] 0 := .inl ⟨rfl, rfl, rfl⟩
theorem Row.low {M : AM} {b0 b1 s : Nat} {u : Value} {c : List Value} {n : Nat} (h : Row M b0 s u c n) (hb : b1 ≤ b0) : Row M b1 s u c n := by
 rcases h with h | ⟨a, kd, sz, h1, h2⟩
 ·exact .inl h
 ·exact .inr ⟨a, kd, sz, by omega, h2⟩
theorem Row.old {M : AM} {b0 s : Nat} {u : Value} {c : List Value} {n : Nat} (h : Row M b0 s u c n) (T : AM) : Row (M ++ T) b0 s u c n := by
 rcases h with h | ⟨a, kd, sz, h1, h2, h3, h4⟩
 ·exact .inl h
 ·exact .inr ⟨a, kd, sz, h1, h2, get_old _ h3, h4⟩
theorem Row.sl {M : AM} {b0 s : Nat} {u : Value} {c : List Value} {n : Nat} (h : Row M b0 s u c n) (hM : 0 < M.length) : ∃ a, Sl u a 0 n ∧ a < M.length ∧ (0 < n → RdL M a 0 c) := by
 rcases h with ⟨rfl, rfl, rfl⟩ | ⟨a, kd, sz, h1, rfl, h3, h4, _⟩
 ·exact ⟨0, .inl ⟨rfl, rfl⟩, hM, fun h => absurd h (by omega)⟩
 ·exact ⟨a, Sl.mk (Nat.le_refl _), (List.getElem?_eq_some_iff.1 h3).1, fun _ => ⟨_, h3, fun j v hj => by simpa using hj⟩⟩
def NotOf (u : Value) (j : Nat) : Prop := ∀ n c, u ≠ .slice (some ⟨j, 0, none⟩) n c
theorem NotOf.row {M : AM} {b0 s : Nat} {u : Value} {c : List Value} {n j : Nat} (h : Row M b0 s u c n) (hj : j < b0) : NotOf u j := by
 intro n' c' e
 rcases h with ⟨h, _⟩ | ⟨a, kd, sz, h1, h2, _⟩
 ·rw [e] at h; cases h
 ·rw [e] at h2
  simp only [Value.slice.injEq, Option.some.injEq, Addr.mk.injEq] at h2
  omega
theorem pre_keep {m0 M M' : AM} (h : ∃ N, M = m0 ++ N) (hl : M.length ≤ M'.length) (hk : ∀ j, j < m0.length → M'[j]? = M[j]?) : ∃ N, M' = m0 ++ N := by
 obtain ⟨N, rfl⟩ := h
 refine ⟨M'.drop m0.length, ?_⟩
 rw [List.length_append] at hl
 have e : M'.take m0.length = m0 := by
  apply List.ext_getElem?
  intro j
  by_cases hj : j < m0.length
  ·rw [List.getElem?_take, if_pos hj, hk j hj, List.getElem?_append_left hj]
  ·rw [List.getElem?_eq_none (by rw [List.length_take]; omega), List.getElem?_eq_none (by omega)]
 have h2 := List.take_append_drop m0.length M'
 rw [e] at h2
 exact h2.symm
section
variable {P : Program} {nt : Nat} {ops : Array Oper} {t : Fm} {m : AM} {K : Fm → AM → Prop} {d T : Nat} {p : String} {af : Array Edge}
theorem acells_sl {m : AM} {s n a o : Nat} {v : Value} {new : List Value} (hs : Sl v a o n) (hr : 0 < n → RdL m a o new) (hn : new.length = n * s) (h0 : 0 < s) : acells (m ++ [none]) s n v = some new ∧ aSliceLen v = some n := by
 rcases hs with ⟨rfl, rfl⟩ | ⟨c, hc, rfl⟩ | ⟨rfl, o', k, rfl⟩
 ·obtain rfl : new = [] := List.eq_nil_of_length_eq_zero (by simpa using hn)
  exact ⟨by simp [acells], rfl⟩
 ·refine ⟨?_, rfl⟩
  by_cases hz : n = 0
  ·subst hz
   obtain rfl : new = [] := List.eq_nil_of_length_eq_zero (by simpa using hn)
   simp [acells]
  ·obtain ⟨b, r1, r2⟩ := hr (by omega)
   have hr' : (m ++ [none])[a]? = some (some b) := get_old _ r1
   have hns : 0 < n * s := Nat.mul_pos (by omega) h0
   have hlast := r2 (n * s - 1) new[n * s - 1] (List.getElem?_eq_getElem (by omega))
   have hlen := (List.getElem?_eq_some_iff.1 hlast).1
   have htake : (b.cells.drop o).take (n * s) = new := by
    apply List.ext_getElem?
    intro j
    by_cases hj : j < n * s
    ·rw [List.getElem?_take, if_pos hj, List.getElem?_drop, r2 j new[j] (List.getElem?_eq_getElem (by omega)), List.getElem?_eq_getElem (by omega)]
    ·rw [List.getElem?_take, if_neg hj, List.getElem?_eq_none (by omega)]
   simp only [acells, hr']
   rw [if_neg hz, if_pos ⟨Nat.le_refl _, by omega⟩, htake]
 ·obtain rfl : new = [] := List.eq_nil_of_length_eq_zero (by simpa using hn)
  exact ⟨by simp [acells], rfl⟩
end
theorem NotOf.new {a j n c : Nat} (h : j < a) : NotOf (.slice (some ⟨a, 0, none⟩) n c) j := by
 intro n' c' e
 simp only [Value.slice.injEq, Option.some.injEq, Addr.mk.injEq] at e
 omega
theorem NotOf.nil {j : Nat} : NotOf (.slice none 0 0) j := fun n c e => by
 simp only [Value.slice.injEq] at e
 cases e.1
section
variable {P : Program} {nt : Nat} {ops : Array Oper} {t : Fm} {m : AM} {K : Fm → AM → Prop} {d T : Nat} {p : String} {af : Array Edge}
theorem Step.appRow2 {x y : Operand} {X Y e e' : TypeId} {by_ s a o n xl b0 : Nat} {z : Array Value} {c new : List Value} {u yv : Value} (hx : evo t x = some u) (hy : evo t y = some yv) (hr : Row m b0 s u c n) (hs : Sl yv a o xl) (hrd : 0 < xl → RdL m a o new) (hE : elemB P X = some (e, s, by_, z)) (hY : P.underlying Y = some (.slice e'))
  (hn : new.length = xl * s) (hn1 : new.all (·.oneCell') = true) (h0 : Nat.blt 0 s = true) (hb : (n + xl) * by_ ≤ 1099511627776 ∧ n + xl ≤ 1099511627776) (hlt : Nat.blt d nt = true) (hbm : b0 ≤ m.length)
  (hK : ∀ u' M', Row M' b0 s u' (c ++ new) (n + xl) → m.length ≤ M'.length → (∀ j, j < m.length → NotOf u j → M'[j]? = m[j]?) → (∀ j, j < m.length → NotOf u j → NotOf u' j) → K (put t d u') M') :
  Step P nt ops ⟨some d, .call ⟨.builtin .append, #[x, y], #[X, Y]⟩, T, p, af, none⟩ t m K := by
 have h0 : 0 < s := Nat.le_of_ble_eq_true h0
 obtain ⟨hc1, hc2⟩ := acells_sl hs hrd hn h0
 have fin : ∀ v m', aloud P ⟨some d, .call ⟨.builtin .append, #[x, y], #[X, Y]⟩, T, p, af, none⟩ (evD t) (m ++ [none]) m.length = some (v, m') → K (put t d v) m' → Step P nt ops ⟨some d, .call ⟨.builtin .append, #[x, y], #[X, Y]⟩, T, p, af, none⟩ t m K :=
  fun v m' h hk => .l rfl rfl hlt rfl (by simp [Op.operands, Call.operands, hx, hy]) (loud_of_aloud rfl h hk)
 have hnone : ¬ ((!(new.all (·.oneCell')) || s == 0) = true) := by simp [hn1]; omega
 have set1 : ∀ (M : AM) (b : Blk), M.length = m.length → (M ++ [none]).set m.length (some b) = M ++ [some b] := fun M b h => by
  rw [List.set_append_right _ _ (by omega), h]
  simp
 rcases hr with ⟨rfl, rfl, rfl⟩ | ⟨q, kd, sz, hq0, rfl, hq, hcl, hkd⟩
 ·by_cases hx0 : xl = 0
  ·subst hx0
   obtain rfl : new = [] := List.eq_nil_of_length_eq_zero (by simpa using hn)
   refine fin (.slice none 0 0) (m ++ [none]) ?_ (hK _ _ Row.nil (by simp) (fun j hj _ => List.getElem?_append_left hj) fun j hj h => h)
   simp only [aloud, evD_of hx, evD_of hy, aappend, hE, hY, hc1, hc2]
   rw [if_neg hnone, if_pos trivial]
  ·refine fin (.slice (some ⟨m.length, 0, none⟩) xl xl) (m ++ [some { cells := new, kind := .grow, size := s }]) ?_ (hK _ _ (.inr ⟨m.length, .grow, s, hbm, by rw [Nat.zero_add], by simp, by simpa using hn, .inr ⟨rfl, rfl⟩⟩) (by simp) (fun j hj _ => List.getElem?_append_left hj) fun j hj h => NotOf.new hj)
   simp only [aloud, evD_of hx, evD_of hy, aappend, hE, hY, hc1, hc2]
   rw [if_neg hnone, if_neg hx0, if_pos (by simpa using hb), set1 m _ rfl]
 ·have hg : (m ++ [none])[q]? = some (some { cells := c, kind := kd, size := sz }) := get_old _ hq
  have hql := (List.getElem?_eq_some_iff.1 hq).1
  by_cases hx0 : xl = 0
  ·subst hx0
   obtain rfl : new = [] := List.eq_nil_of_length_eq_zero (by simpa using hn)
   refine fin (.slice (some ⟨q, 0, none⟩) n n) (m ++ [none]) ?_ (hK _ _ (.inr ⟨q, kd, sz, hq0, rfl, by rw [List.append_nil]; exact hg, by rw [List.append_nil]; exact hcl, hkd⟩) (by simp) (fun j hj _ => List.getElem?_append_left hj) fun j hj h => h)
   simp only [aloud, evD_of hx, evD_of hy, aappend, hE, hY, hc1, hc2]
   rw [if_neg hnone, if_pos trivial]
  ·have hcn : (c ++ new).length = (n + xl) * s := by rw [List.length_append, hcl, hn, Nat.add_mul]
   rcases hkd with rfl | ⟨rfl, rfl⟩
   ·refine fin (.slice (some ⟨m.length, 0, none⟩) (n + xl) (n + xl)) (m ++ [some { cells := c ++ new, kind := .grow, size := s }]) ?_ (hK _ _ (.inr ⟨m.length, .grow, s, hbm, rfl, by simp, hcn, .inr ⟨rfl, rfl⟩⟩) (by simp) (fun j hj _ => List.getElem?_append_left hj) fun j hj h => NotOf.new hj)
    simp only [aloud, evD_of hx, evD_of hy, aappend, hE, hY, hc1, hc2]
    rw [if_neg hnone, if_neg hx0]
    simp only [hg]
    rw [if_neg (by omega), if_pos ⟨hb.1, hb.2, Nat.le_refl _⟩, if_pos (by omega), set1 m _ rfl]
    simp [List.take_of_length_le (show c.length ≤ n * s by omega)]
   ·refine fin (.slice (some ⟨m.length, 0, none⟩) (n + xl) (n + xl)) ((m.set q none) ++ [some { cells := c ++ new, kind := .grow, size := sz }]) ?_ (hK _ _ (.inr ⟨m.length, .grow, sz, hbm, rfl, by simp, hcn, .inr ⟨rfl, rfl⟩⟩) (by simp) (fun j hj hne => ?_) fun j hj h => NotOf.new hj)
    ·simp only [aloud, evD_of hx, evD_of hy, aappend, hE, hY, hc1, hc2]
     rw [if_neg hnone, if_neg hx0]
     simp only [hg]
     rw [if_neg (by omega), if_pos ⟨hb.1, hb.2, Nat.le_refl _⟩, if_pos ⟨by omega, trivial⟩, List.set_append_left _ _ hql, set1 (m.set q none) _ (by simp)]
     simp [List.take_of_length_le (show c.length ≤ n * sz by omega)]
    ·rw [List.getElem?_append_left (by simpa using hj), List.getElem?_set_ne]
     rintro rfl
     exact hne n n rfl
end
section
variable {P : Program} {nt : Nat} {ops : Array Oper} {t : Fm} {m : AM} {K : Fm → AM → Prop} {d T : Nat} {p : String} {af : Array Edge}
theorem Step.ixR0 {x y : Operand} {s i n k X : Nat} {kk : IntKind} (hx : evo t x = some (.pointer (some ⟨i, 0, none⟩))) (hy : evo t y = some (.int kk ((k : Nat) : Int))) (he : arB P X = some (n, s)) (hlt : Nat.blt d nt = true) (hk : k < n) (hK : K (put t d (.pointer (some ⟨i, k * s, none⟩))) m) : Step P nt ops ⟨some d, .indexAddr X x y, T, p, af, none⟩ t m K :=
 .ixA hx hy he hlt hk (by simpa using hK)
theorem Step.ixC {x y : Operand} {i o n k X : Nat} {kk : IntKind} (hx : evo t x = some (.pointer (some ⟨i, o, none⟩))) (hy : evo t y = some (.int kk ((k : Nat) : Int))) (he : arB P X = some (n, 1)) (hlt : Nat.blt d nt = true) (hk : k < n) (hK : K (put t d (.pointer (some ⟨i, o + k, none⟩))) m) : Step P nt ops ⟨some d, .indexAddr X x y, T, p, af, none⟩ t m K :=
 .ixA hx hy he hlt hk (by simpa using hK)
theorem Step.max3 {x y z : Operand} {X Y Z : TypeId} {a b c : Int} {k : IntKind} (hx : evo t x = some (.int k a)) (hy : evo t y = some (.int k b)) (hz : evo t z = some (.int k c)) (hlt : Nat.blt d nt = true) (hK : K (put t d (.int k (Max.max (Max.max a b) c))) m) :
  Step P nt ops ⟨some d, .call ⟨.builtin .max, #[x, y, z], #[X, Y, Z]⟩, T, p, af, none⟩ t m K := by
 refine .ground rfl rfl hlt (by simp [Op.operands, Call.operands, hx, hy, hz, g1, g0]) (fun h => by simpa [aquiet] using h) ?_ (by simp [g1, g0]) hK
 have h1 : (if b > a then b else a) = Max.max a b := by rw [Int.max_def]; split <;> split <;> omega
 have h2 : (if c > Max.max a b then c else Max.max a b) = Max.max (Max.max a b) c := by rw [Int.max_def (Max.max a b) c]; split <;> split <;> omega
 simp [execOp, resolve, invoke, builtin, Builtin.max_, Builtin.max2, evD_of hx, evD_of hy, evD_of hz, h1, h2, bind, Sem.bind, pure, Sim.still]
theorem Step.min3 {x y z : Operand} {X Y Z : TypeId} {a b c : Int} {k : IntKind} (hx : evo t x = some (.int k a)) (hy : evo t y = some (.int k b)) (hz : evo t z = some (.int k c)) (hlt : Nat.blt d nt = true) (hK : K (put t d (.int k (Min.min (Min.min a b) c))) m) :
  Step P nt ops ⟨some d, .call ⟨.builtin .min, #[x, y, z], #[X, Y, Z]⟩, T, p, af, none⟩ t m K := by
 refine .ground rfl rfl hlt (by simp [Op.operands, Call.operands, hx, hy, hz, g1, g0]) (fun h => by simpa [aquiet] using h) ?_ (by simp [g1, g0]) hK
 have h1 : (if b < a then b else a) = Min.min a b := by rw [Int.min_def]; split <;> split <;> omega
 have h2 : (if c < Min.min a b then c else Min.min a b) = Min.min (Min.min a b) c := by rw [Int.min_def (Min.min a b) c]; split <;> split <;> omega
 simp [execOp, resolve, invoke, builtin, Builtin.min_, Builtin.min2, evD_of hx, evD_of hy, evD_of hz, h1, h2, bind, Sem.bind, pure, Sim.still]
theorem Step.indexW {x y : Operand} {X e n k s : Nat} {c v : List Value} {kk : IntKind} (hx : evo t x = some (.agg c.toArray)) (hy : evo t y = some (.int kk ((k : Nat) : Int))) (hX : P.underlying X = some (.array n e)) (hsz : szB P e = some s) (hg : aggB P e = some true) (hk : k < n) (hv : (c.drop (k * s)).take s = v)
  (hlt : Nat.blt d nt = true) (hK : K (put t d (.agg v.toArray)) m) : Step P nt ops ⟨some d, .index X x y, T, p, af, none⟩ t m K := by
 subst hv
 refine .q (v := .agg ((c.drop (k * s)).take s).toArray) rfl rfl hlt (by simp [Op.operands, hx, hy]) ?_ hK
 simp only [aquiet, evD_of hx, evD_of hy, aindexOf, hX, hsz]
 rw [if_pos (by omega)]
 have : c.toArray.extract (k * s) (k * s + s) = ((c.drop (k * s)).take s).toArray := by
  apply Array.ext'
  simp [List.extract_eq_take_drop]
 simp [apart_, hg, hsz, this]
theorem Step.storeL {x y : Operand} {ty : TypeId} {a o n sz : Nat} {c v : List Value} {kd : Kind} (hx : evo t x = some (.pointer (some ⟨a, o, none⟩))) (hy : evo t y = some (.agg v.toArray)) (hb : m[a]? = some (some { cells := c, kind := kd, size := sz })) (hs : kd.solid = true) (hz : szB P ty = some n) (hc : v.length = n) (h1 : v.all (·.oneCell') = true) (ho : o + n ≤ c.length)
  (hK : K t (m.set a (some { cells := splice c o v, kind := kd, size := sz }))) : Step P nt ops ⟨none, .store ty x y, T, p, af, none⟩ t m K := by
 have hv : (Value.agg v.toArray).cells = v.toArray := rfl
 have := Step.stores (P := P) (nt := nt) (ops := ops) (T := T) (p := p) (af := af) (M := []) (L := m) (k := a) (ty := ty) (K := K) (n := n) (by simpa using hx) hy hb hs hz (by rw [hv]; simpa using hc) (by rw [hv]; simpa using h1) ho rfl (by simpa [hv] using hK)
 simpa using this
theorem Step.storeAt {x y : Operand} {ty : TypeId} {a o sz : Nat} {c : List Value} {kd : Kind} {v : Value} (hx : evo t x = some (.pointer (some ⟨a, o, none⟩))) (hy : evo t y = some v) (hb : m[a]? = some (some { cells := c, kind := kd, size := sz })) (hz : szB P ty = some 1) (hs : kd.solid = true) (ho : o < c.length) (hv : v.cells = #[v]) (hv1 : v.oneCell' = true)
  (hK : K t (m.set a (some { cells := c.set o v, kind := kd, size := sz }))) : Step P nt ops ⟨none, .store ty x y, T, p, af, none⟩ t m K := by
 exact Step.storeC hx hy hb hs hz hv hv1 ho hK
theorem Step.shlN {x y : Operand} {X Y : TypeId} {a n : Nat} {kk : IntKind} (hx : evo t x = some (.int .i64 ((a : Nat) : Int))) (hy : evo t y = some (.int kk ((n : Nat) : Int))) (hn : n ≤ 62) (hr : a * 2 ^ n ≤ 9223372036854775807) (hlt : Nat.blt d nt = true) (hK : K (put t d (.int .i64 ((a * 2 ^ n : Nat) : Int))) m) : Step P nt ops ⟨some d, .binOp .shl X x y Y, T, p, af, none⟩ t m K := by
 refine .ground rfl rfl hlt (by simp [Op.operands, hx, hy, g1, g0]) (fun h => by simp only [aquiet, evD_of hx, evD_of hy, aint, anil]; simpa [evD_of hx, evD_of hy] using h) ?_ (by simp [g1, g0]) hK
 have h2 := i64_nat (a := a * 2 ^ n) (by omega)
 have h3 : Min.min n 64 = n := by omega
 push_cast at h2 ⊢
 simp [execOp, eqGuard, binOp, evD_of hx, evD_of hy, Op.shift, IntKind.bits, h2, h3, bind, Sem.bind, pure, Sim.still, show ¬ (n : Int) < 0 by omega]
theorem or_bits {a b : Nat} (ha : a ≤ 9223372036854775807) (hb : b ≤ 9223372036854775807) : (BitVec.ofNat 64 a ||| BitVec.ofNat 64 b).toNat = a ||| b := by
 rw [BitVec.toNat_or, BitVec.toNat_ofNat, BitVec.toNat_ofNat, Nat.mod_eq_of_lt (by omega), Nat.mod_eq_of_lt (by omega)]
theorem or_add {a b n : Nat} (hb : b < 2 ^ n) : (a * 2 ^ n) ||| b = a * 2 ^ n + b := by
 have := Nat.two_pow_add_eq_or_of_lt hb a
 rw [Nat.mul_comm] at this
 exact this.symm
theorem Step.orN {x y : Operand} {X Y : TypeId} {a b c : Nat} (hx : evo t x = some (.int .i64 ((a : Nat) : Int))) (hy : evo t y = some (.int .i64 ((b : Nat) : Int))) (ha : a ≤ 9223372036854775807) (hb : b ≤ 9223372036854775807) (hc : a ||| b = c) (hc1 : c ≤ 9223372036854775807) (hlt : Nat.blt d nt = true) (hK : K (put t d (.int .i64 ((c : Nat) : Int))) m) : Step P nt ops ⟨some d, .binOp .or X x y Y, T, p, af, none⟩ t m K := by
 refine .ground rfl rfl hlt (by simp [Op.operands, hx, hy, g1, g0]) (fun h => by simp only [aquiet, evD_of hx, evD_of hy, aint, anil]; simpa [evD_of hx, evD_of hy] using h) ?_ (by simp [g1, g0]) hK
 have h1 : IntKind.i64.wrap ((BitVec.ofInt IntKind.i64.bits (a : Int) ||| BitVec.ofInt IntKind.i64.bits (b : Int)).toNat : Int) = ((c : Nat) : Int) := by
  show IntKind.i64.wrap ((BitVec.ofInt 64 (a : Int) ||| BitVec.ofInt 64 (b : Int)).toNat : Int) = _
  rw [bv_nat, bv_nat, or_bits ha hb, hc]
  exact i64_nat hc1
 simp only [execOp, eqGuard, binOp, evD_of hx, evD_of hy, Op.intBits, bind, Sem.bind, pure, Sim.still, h1]
 rfl
theorem u64_nat {a : Nat} (h : a < 18446744073709551616) : IntKind.u64.wrap ((a : Nat) : Int) = a := by
 rw [show IntKind.u64.wrap ((a : Nat) : Int) = ((a : Nat) : Int) % 18446744073709551616 from rfl]
 omega
theorem Step.shlU {x y : Operand} {X Y : TypeId} {a n : Nat} {kk : IntKind} (hx : evo t x = some (.int .u64 ((a : Nat) : Int))) (hy : evo t y = some (.int kk ((n : Nat) : Int))) (hn : n ≤ 62) (hr : a * 2 ^ n ≤ 9223372036854775807) (hlt : Nat.blt d nt = true) (hK : K (put t d (.int .u64 ((a * 2 ^ n : Nat) : Int))) m) : Step P nt ops ⟨some d, .binOp .shl X x y Y, T, p, af, none⟩ t m K := by
 refine .ground rfl rfl hlt (by simp [Op.operands, hx, hy, g1, g0]) (fun h => by simp only [aquiet, evD_of hx, evD_of hy, aint, anil]; simpa [evD_of hx, evD_of hy] using h) ?_ (by simp [g1, g0]) hK
 have h2 := u64_nat (a := a * 2 ^ n) (by omega)
 have h3 : Min.min n 64 = n := by omega
 push_cast at h2 ⊢
 simp [execOp, eqGuard, binOp, evD_of hx, evD_of hy, Op.shift, IntKind.bits, h2, h3, bind, Sem.bind, pure, Sim.still, show ¬ (n : Int) < 0 by omega]
theorem Step.orU {x y : Operand} {X Y : TypeId} {a b c : Nat} (hx : evo t x = some (.int .u64 ((a : Nat) : Int))) (hy : evo t y = some (.int .u64 ((b : Nat) : Int))) (ha : a ≤ 9223372036854775807) (hb : b ≤ 9223372036854775807) (hc : a ||| b = c) (hc1 : c ≤ 9223372036854775807) (hlt : Nat.blt d nt = true) (hK : K (put t d (.int .u64 ((c : Nat) : Int))) m) : Step P nt ops ⟨some d, .binOp .or X x y Y, T, p, af, none⟩ t m K := by
 refine .ground rfl rfl hlt (by simp [Op.operands, hx, hy, g1, g0]) (fun h => by simp only [aquiet, evD_of hx, evD_of hy, aint, anil]; simpa [evD_of hx, evD_of hy] using h) ?_ (by simp [g1, g0]) hK
 have h1 : IntKind.u64.wrap ((BitVec.ofInt IntKind.u64.bits (a : Int) ||| BitVec.ofInt IntKind.u64.bits (b : Int)).toNat : Int) = ((c : Nat) : Int) := by
  show IntKind.u64.wrap ((BitVec.ofInt 64 (a : Int) ||| BitVec.ofInt 64 (b : Int)).toNat : Int) = _
  rw [bv_nat, bv_nat, or_bits ha hb, hc]
  exact u64_nat (by omega)
 simp only [execOp, eqGuard, binOp, evD_of hx, evD_of hy, Op.intBits, bind, Sem.bind, pure, Sim.still, h1]
 rfl
end
open Go.Proofs
theorem fit : Fit Try.prog := ⟨fun f fn h => by
 have key : (Try.prog.funcs.toList.all fun fn => !(fn.name == "runtime.NumGoroutine")) = true := by kernel_rfl
 have := List.all_eq_true.1 key fn (by simpa using Array.mem_of_getElem? h)
 simpa using this, by kernel_rfl⟩
theorem un4 : Try.prog.underlying 4 = some .bool := by kernel_rfl
theorem ze63 : zeroB Try.prog 63 = some #[.int .i64 0, .int .i64 0, .int .i64 0, .int .i64 0] := by kernel_rfl
structure Tr where
 i : Int
 f : Int
 t : Int
 n : Int
deriving DecidableEq
instance : Inhabited Tr := ⟨⟨0, 0, 0, 0⟩⟩
def Tr.c (x : Tr) : List Value := [.int .i64 x.i, .int .i64 x.f, .int .i64 x.t, .int .i64 x.n]
def Tr.v (x : Tr) : Value := .agg #[.int .i64 x.i, .int .i64 x.f, .int .i64 x.t, .int .i64 x.n]
def tcs (l : List Tr) : List Value := l.flatMap Tr.c
theorem tcs_len (l : List Tr) : (tcs l).length = l.length * 4 := by
 induction l with
 | nil => rfl
 | cons k l ih =>
  have : tcs (k :: l) = k.c ++ tcs l := rfl
  rw [this, List.length_append, ih]
  simp [Tr.c]
  omega
theorem tcs_get : ∀ (l : List Tr) (i : Nat), i < l.length → ∀ (j : Nat) (v : Value), (l.getD i default).c[j]? = some v → (tcs l)[i * 4 + j]? = some v
 | [], i, hi, _, _, _ => by simp at hi
 | k :: l, 0, _, j, v, hj => by
  have e : tcs (k :: l) = k.c ++ tcs l := rfl
  have hj' : k.c[j]? = some v := by simpa using hj
  have hlt := (List.getElem?_eq_some_iff.1 hj').1
  rw [e, Nat.zero_mul, Nat.zero_add, List.getElem?_append_left hlt]
  exact hj'
 | k :: l, i + 1, hi, j, v, hj => by
  have e : tcs (k :: l) = k.c ++ tcs l := rfl
  have e3 : k.c.length = 4 := rfl
  rw [e, List.getElem?_append_right (by rw [e3]; omega), e3, show (i + 1) * 4 + j - 4 = i * 4 + j by omega]
  exact tcs_get l i (by simpa using hi) j v (by simpa using hj)
theorem tcs_app (a b : List Tr) : tcs (a ++ b) = tcs a ++ tcs b := by simp [tcs]
theorem tcs_one (l : List Tr) : (tcs l).all (·.oneCell') = true := by
 rw [List.all_eq_true]
 intro v hv
 obtain ⟨x, _, hx⟩ := List.mem_flatMap.1 hv
 simp only [Tr.c, List.mem_cons, List.not_mem_nil, or_false] at hx
 rcases hx with rfl | rfl | rfl | rfl <;> rfl
theorem take_snocT (l : List Tr) (k : Nat) (h : k < l.length) : l.take (k + 1) = l.take k ++ [l.getD k default] := by
 rw [List.take_succ_eq_append_getElem h]; simp [h]
def Trs (m : AM) (v : Value) (l : List Tr) : Prop := ∃ a o, Sl v a o l.length ∧ a < m.length ∧ ∀ k, k < l.length → RdL m a (o + k * 4) (l.getD k default).c
theorem Trs.old {m : AM} {v : Value} {l : List Tr} (L : AM) (h : Trs m v l) : Trs (m ++ L) v l := by
 obtain ⟨a, o, h1, h2, h3⟩ := h
 exact ⟨a, o, h1, by simp; omega, fun k hk => (h3 k hk).old L⟩
theorem Trs.all {m : AM} {v : Value} {l : List Tr} (h : Trs m v l) : ∃ a o, Sl v a o l.length ∧ a < m.length ∧ (0 < l.length → RdL m a o (tcs l)) := by
 obtain ⟨a, o, h1, h2, h3⟩ := h
 refine ⟨a, o, h1, h2, fun h0 => ?_⟩
 obtain ⟨b, k1, _⟩ := h3 0 h0
 refine ⟨b, k1, fun j v hj => ?_⟩
 have hj1 := (List.getElem?_eq_some_iff.1 hj).1
 rw [tcs_len] at hj1
 obtain ⟨b', q1, q2⟩ := h3 (j / 4) (by omega)
 rw [k1] at q1; injection q1 with q1; injection q1 with q1; subst q1
 have hc : (l.getD (j / 4) default).c[j % 4]? = some ((l.getD (j / 4) default).c[j % 4]'(show j % 4 < 4 by omega)) := List.getElem?_eq_getElem _
 have e := tcs_get l (j / 4) (by omega) (j % 4) _ hc
 rw [show j / 4 * 4 + j % 4 = j by omega, hj] at e
 have := q2 (j % 4) _ hc
 rw [← e, show o + j / 4 * 4 + j % 4 = o + j by omega] at this
 exact this
theorem Trs.nil {m : AM} (h : 0 < m.length) : Trs m (.slice none 0 0) [] := ⟨0, 0, .inl ⟨rfl, rfl⟩, h, fun k hk => by simp at hk⟩
def okT (x : Tr) : Bool := decide (0 ≤ x.i ∧ x.i < 16 ∧ 0 ≤ x.f ∧ x.f < 16 ∧ 0 ≤ x.t ∧ x.t < 16 ∧ x.f ≠ x.t ∧ 1 ≤ x.n ∧ x.n ≤ 1000000)
def postB (l : List Tr) : Bool := decide (1 ≤ l.length) && decide (l.length ≤ 16) && l.all okT
set_option maxRecDepth 100000 in
theorem right_ok {m : AM} (x : Tr) {b : Bool} (hb : okT x = b) : ACall Try.prog 86 #[x.v] m (Ret (.bool b) m) := by
 subst hb
 obtain ⟨i, f, t, n⟩ := x
 refine ACall.start Try.func86 rfl rfl ?_
 unfold Tr.v okT
 simp only
 rw [show decide (0 ≤ i ∧ i < 16 ∧ 0 ≤ f ∧ f < 16 ∧ 0 ≤ t ∧ t < 16 ∧ f ≠ t ∧ 1 ≤ n ∧ n ≤ 1000000) = decide (0 ≤ Min.min (Min.min i f) t ∧ Max.max (Max.max i f) t < 16 ∧ f ≠ t ∧ 1 ≤ n ∧ n ≤ 1000000) from decide_eq_decide.2 (by omega)]
 (repeat (first|(with_reducible refine AWo.cons ?_)|((with_reducible refine Step.id ?_);first|((with_reducible apply Step.assign);exact rfl;exact rfl)|((with_reducible apply Step.load);exact rfl;((decide +kernel));exact rfl;((exact Rd.new rfl rfl)))|((with_reducible apply Step.field0);exact rfl;((decide +kernel));exact rfl)|((with_reducible apply Step.field (k := 1));exact rfl;((decide +kernel));exact rfl)|((with_reducible apply Step.field (k := 2));exact rfl;((decide +kernel));exact rfl)|((with_reducible apply Step.box 0);exact rfl;exact rfl;((kernel_rfl));exact rfl;((first|(simp only [zq7, zq8, zq9, zq0, iv_set, bv_set, iv_rep, bv_rep] <;> rfl)|rfl))))|(with_reducible first|apply AWo.nil|apply AW.seq|apply Then.n|apply AW.regL)))
 ((with_reducible apply Step.min3);exact rfl;exact rfl;exact rfl;exact rfl)
 generalize Min.min (Min.min i f) t = mn
 by_cases c1 : 0 ≤ mn
 ·(repeat (first|(with_reducible refine AWo.cons ?_)|((with_reducible refine Step.id ?_);first|((with_reducible apply Step.gdT);exact rfl;exact rfl;(((simp only [zq1, zq2, zq3, zq4, zq5, zq6];first|assumption|omega))))|((with_reducible apply Step.move);exact rfl;exact rfl)|((with_reducible apply Step.load);exact rfl;((decide +kernel));exact rfl;((exact Rd.new rfl rfl)))|((with_reducible apply Step.field0);exact rfl;((decide +kernel));exact rfl)|((with_reducible apply Step.field (k := 1));exact rfl;((decide +kernel));exact rfl)|((with_reducible apply Step.field (k := 2));exact rfl;((decide +kernel));exact rfl)|((with_reducible apply Step.geq);exact rfl;exact rfl;exact rfl))))
  ((with_reducible apply Step.max3);exact rfl;exact rfl;exact rfl;exact rfl)
  generalize Max.max (Max.max i f) t = mx
  by_cases c2 : mx < 16
  ·by_cases c3 : f = t
   ·(repeat (first|(with_reducible refine AWo.cons ?_)|((with_reducible refine Step.id ?_);first|((with_reducible apply Step.gdT);exact rfl;exact rfl;(((simp only [zq1, zq2, zq3, zq4, zq5, zq6];first|assumption|omega))))|((with_reducible apply Step.gdF);exact rfl;exact rfl;((first|rfl|(simp only [zq1, zq2, zq3, zq4, zq5, zq6];first|assumption|omega))))|((with_reducible apply Step.move);exact rfl;exact rfl)|((with_reducible apply Step.assign);exact rfl;exact rfl)|((with_reducible apply Step.load);exact rfl;((decide +kernel));exact rfl;((exact Rd.new rfl rfl)))|((with_reducible apply Step.field (k := 1));exact rfl;((decide +kernel));exact rfl)|((with_reducible apply Step.field (k := 2));exact rfl;((decide +kernel));exact rfl)|((with_reducible apply Step.lss);exact rfl;exact rfl;exact rfl)|((with_reducible apply Step.neq);exact rfl;exact rfl;exact rfl)|((with_reducible apply Step.pickT);exact rfl;exact rfl;exact rfl;exact rfl;(((simp only [zq1, zq2, zq3, zq4, zq5, zq6];first|assumption|omega))))|((with_reducible apply Step.pickF);exact rfl;exact rfl;exact rfl;exact rfl;((first|rfl|(simp only [zq1, zq2, zq3, zq4, zq5, zq6];first|assumption|omega)))))|(with_reducible first|apply AWo.nil|apply Then.n)))
    (refine AW.retD (l := [(2, _)]) (by repeat (first | exact trivial | (refine And.intro ⟨rfl, by (exact .bool _)⟩ ?_))) ?_; (repeat (first | refine Then.r ?_ | refine InBlk.r ?_)))
    exact ⟨_, rfl, by simp [c3], rfl⟩
   ·by_cases c4 : 1 ≤ n
    ·by_cases c5 : n ≤ 1000000
     ·(repeat (first|(with_reducible refine AWo.cons ?_)|((with_reducible refine Step.id ?_);first|((with_reducible apply Step.gdT);exact rfl;exact rfl;(((simp only [zq1, zq2, zq3, zq4, zq5, zq6];first|assumption|omega))))|((with_reducible apply Step.move);exact rfl;exact rfl)|((with_reducible apply Step.assign);exact rfl;exact rfl)|((with_reducible apply Step.load);exact rfl;((decide +kernel));exact rfl;((exact Rd.new rfl rfl)))|((with_reducible apply Step.field (k := 1));exact rfl;((decide +kernel));exact rfl)|((with_reducible apply Step.field (k := 2));exact rfl;((decide +kernel));exact rfl)|((with_reducible apply Step.field (k := 3));exact rfl;((decide +kernel));exact rfl)|((with_reducible apply Step.lss);exact rfl;exact rfl;exact rfl)|((with_reducible apply Step.leq);exact rfl;exact rfl;exact rfl)|((with_reducible apply Step.geq);exact rfl;exact rfl;exact rfl)|((with_reducible apply Step.neq);exact rfl;exact rfl;exact rfl)|((with_reducible apply Step.pickT);exact rfl;exact rfl;exact rfl;exact rfl;(((simp only [zq1, zq2, zq3, zq4, zq5, zq6];first|assumption|omega)))))|(with_reducible first|apply AWo.nil|apply Then.n)))
      (refine AW.retD (l := [(2, _)]) (by repeat (first | exact trivial | (refine And.intro ⟨rfl, by (exact .bool _)⟩ ?_))) ?_; (repeat (first | refine Then.r ?_ | refine InBlk.r ?_)))
      exact ⟨_, rfl, by simp [c1, c2, c3, c4, c5], rfl⟩
     ·(repeat (first|(with_reducible refine AWo.cons ?_)|((with_reducible refine Step.id ?_);first|((with_reducible apply Step.gdT);exact rfl;exact rfl;(((simp only [zq1, zq2, zq3, zq4, zq5, zq6];first|assumption|omega))))|((with_reducible apply Step.move);exact rfl;exact rfl)|((with_reducible apply Step.assign);exact rfl;exact rfl)|((with_reducible apply Step.load);exact rfl;((decide +kernel));exact rfl;((exact Rd.new rfl rfl)))|((with_reducible apply Step.field (k := 1));exact rfl;((decide +kernel));exact rfl)|((with_reducible apply Step.field (k := 2));exact rfl;((decide +kernel));exact rfl)|((with_reducible apply Step.field (k := 3));exact rfl;((decide +kernel));exact rfl)|((with_reducible apply Step.lss);exact rfl;exact rfl;exact rfl)|((with_reducible apply Step.leq);exact rfl;exact rfl;exact rfl)|((with_reducible apply Step.geq);exact rfl;exact rfl;exact rfl)|((with_reducible apply Step.neq);exact rfl;exact rfl;exact rfl)|((with_reducible apply Step.pickT);exact rfl;exact rfl;exact rfl;exact rfl;(((simp only [zq1, zq2, zq3, zq4, zq5, zq6];first|assumption|omega)))))|(with_reducible first|apply AWo.nil|apply Then.n)))
      (refine AW.retD (l := [(2, _)]) (by repeat (first | exact trivial | (refine And.intro ⟨rfl, by (exact .bool _)⟩ ?_))) ?_; (repeat (first | refine Then.r ?_ | refine InBlk.r ?_)))
      exact ⟨_, rfl, by simp [c5], rfl⟩
    ·(repeat (first|(with_reducible refine AWo.cons ?_)|((with_reducible refine Step.id ?_);first|((with_reducible apply Step.gdT);exact rfl;exact rfl;(((simp only [zq1, zq2, zq3, zq4, zq5, zq6];first|assumption|omega))))|((with_reducible apply Step.gdF);exact rfl;exact rfl;(((simp only [zq1, zq2, zq3, zq4, zq5, zq6];first|assumption|omega))))|((with_reducible apply Step.move);exact rfl;exact rfl)|((with_reducible apply Step.assign);exact rfl;exact rfl)|((with_reducible apply Step.load);exact rfl;((decide +kernel));exact rfl;((exact Rd.new rfl rfl)))|((with_reducible apply Step.field (k := 1));exact rfl;((decide +kernel));exact rfl)|((with_reducible apply Step.field (k := 2));exact rfl;((decide +kernel));exact rfl)|((with_reducible apply Step.field (k := 3));exact rfl;((decide +kernel));exact rfl)|((with_reducible apply Step.lss);exact rfl;exact rfl;exact rfl)|((with_reducible apply Step.geq);exact rfl;exact rfl;exact rfl)|((with_reducible apply Step.neq);exact rfl;exact rfl;exact rfl)|((with_reducible apply Step.pickT);exact rfl;exact rfl;exact rfl;exact rfl;(((simp only [zq1, zq2, zq3, zq4, zq5, zq6];first|assumption|omega))))|((with_reducible apply Step.pickF);exact rfl;exact rfl;exact rfl;exact rfl;(((simp only [zq1, zq2, zq3, zq4, zq5, zq6];first|assumption|omega)))))|(with_reducible first|apply AWo.nil|apply Then.n)))
     (refine AW.retD (l := [(2, _)]) (by repeat (first | exact trivial | (refine And.intro ⟨rfl, by (exact .bool _)⟩ ?_))) ?_; (repeat (first | refine Then.r ?_ | refine InBlk.r ?_)))
     exact ⟨_, rfl, by simp [c4], rfl⟩
  ·(repeat (first|(with_reducible refine AWo.cons ?_)|((with_reducible refine Step.id ?_);first|((with_reducible apply Step.gdT);exact rfl;exact rfl;(((simp only [zq1, zq2, zq3, zq4, zq5, zq6];first|assumption|omega))))|((with_reducible apply Step.gdF);exact rfl;exact rfl;((first|rfl|(simp only [zq1, zq2, zq3, zq4, zq5, zq6];first|assumption|omega))))|((with_reducible apply Step.move);exact rfl;exact rfl)|((with_reducible apply Step.assign);exact rfl;exact rfl)|((with_reducible apply Step.lss);exact rfl;exact rfl;exact rfl)|((with_reducible apply Step.pickT);exact rfl;exact rfl;exact rfl;exact rfl;(((simp only [zq1, zq2, zq3, zq4, zq5, zq6];first|assumption|omega))))|((with_reducible apply Step.pickF);exact rfl;exact rfl;exact rfl;exact rfl;((first|rfl|(simp only [zq1, zq2, zq3, zq4, zq5, zq6];first|assumption|omega)))))|(with_reducible first|apply AWo.nil|apply Then.n)))
   (refine AW.retD (l := [(2, _)]) (by repeat (first | exact trivial | (refine And.intro ⟨rfl, by (exact .bool _)⟩ ?_))) ?_; (repeat (first | refine Then.r ?_ | refine InBlk.r ?_)))
   exact ⟨_, rfl, by simp [c2], rfl⟩
 ·(repeat (first|(with_reducible refine AWo.cons ?_)|((with_reducible refine Step.id ?_);first|((with_reducible apply Step.gdF);exact rfl;exact rfl;((first|rfl|(simp only [zq1, zq2, zq3, zq4, zq5, zq6];first|assumption|omega))))|((with_reducible apply Step.move);exact rfl;exact rfl)|((with_reducible apply Step.assign);exact rfl;exact rfl)|((with_reducible apply Step.geq);exact rfl;exact rfl;exact rfl)|((with_reducible apply Step.pickF);exact rfl;exact rfl;exact rfl;exact rfl;((first|rfl|(simp only [zq1, zq2, zq3, zq4, zq5, zq6];first|assumption|omega)))))|(with_reducible first|apply AWo.nil|apply Then.n)))
  (refine AW.retD (l := [(2, _)]) (by repeat (first | exact trivial | (refine And.intro ⟨rfl, by (exact .bool _)⟩ ?_))) ?_; (repeat (first | refine Then.r ?_ | refine InBlk.r ?_)))
  exact ⟨_, rfl, by simp [c1], rfl⟩
set_option maxRecDepth 100000 in
theorem f85_ok {m : AM} (x : Tr) : ACall Try.prog 85 #[x.v] m (Ret (.bool (!okT x)) m) := by
 have c := fun T => right_ok (m := m ++ T) x rfl
 obtain ⟨i, f, t, n⟩ := x
 refine ACall.start Try.func85 rfl rfl ?_
 (repeat (first|(with_reducible refine AWo.cons ?_)|((with_reducible refine Step.id ?_);first|((with_reducible apply Step.assign);exact rfl;exact rfl)|((with_reducible apply Step.loadL (n := 4));exact rfl;((decide +kernel));((decide +kernel));exact rfl;((exact RdL.new rfl rfl));exact rfl;exact rfl)|((with_reducible apply Step.not);exact rfl;exact rfl)|((with_reducible apply Step.callR fit);exact rfl;exact Try.func86;exact rfl;exact rfl;exact (c _))|((with_reducible apply Step.box 0);exact rfl;exact rfl;((kernel_rfl));exact rfl;((first|(simp only [zq7, zq8, zq9, zq0, iv_set, bv_set, iv_rep, bv_rep] <;> rfl)|rfl))))|(with_reducible first|apply AWo.nil|apply AW.seq|apply Then.n|apply AW.regL)))
 (refine AW.retD (l := [(2, _)]) (by repeat (first | exact trivial | (refine And.intro ⟨rfl, by (exact .bool _)⟩ ?_))) ?_; (repeat (first | refine Then.r ?_ | refine InBlk.r ?_)))
 exact ⟨_, rfl, rfl, rfl⟩
set_option maxRecDepth 100000 in
theorem f126_ok {m : AM} {v : Value} {l : List Tr} {g : FuncId} {cap : Array Value} {fn : Func} {bd : Code} (hl : Trs m v l) (hf : Try.prog.funcs[g]? = some fn) (hb : fn.body = some bd) (pr : Tr → Bool)
  (hlen : l.length ≤ 9223372036854775807) (hg : ∀ x, ACall Try.prog g (#[] ++ #[x.v] ++ cap) m (Ret (.bool (pr x)) m)) : ACall Try.prog 126 #[v, .func (.func g) #[] cap] m (fun r m' => (∃ q : Int, r = .int .i64 q ∧ (0 ≤ q ↔ l.any pr = true)) ∧ m' = m) := by
 obtain ⟨a, o, h1, h2, h3⟩ := hl
 refine ACall.start Try.func126 rfl rfl ?_
 (repeat (first|(with_reducible refine AWo.cons ?_)|((with_reducible refine Step.id ?_);first|((with_reducible apply Step.move);exact rfl;exact rfl)|((with_reducible apply Step.assign);exact rfl;exact rfl)|((with_reducible apply Step.len);exact rfl;((assumption));((decide +kernel));exact rfl))|(with_reducible first|apply AWo.nil|apply AW.seq|apply Then.n|apply AW.regL|apply AW.block)))
 refine AW.loopT (fun n t L => ∃ k : Nat, n = l.length - k ∧ k ≤ l.length ∧ (l.take k).any pr = false ∧ L = [] ∧
  t = [(0, v), (1, .func (.func g) #[] cap), (7, .int .i64 (l.length : Nat)), (8, .int .i64 (k : Nat))]) ⟨_, _, _, (Or.inl ⟨rfl, (by repeat (first | exact trivial | (refine And.intro rfl ?_)))⟩), 0, rfl, Nat.zero_le _, by simp, rfl, rfl⟩ ?_
 rintro n t L ⟨k, rfl, hk, hz, rfl, rfl⟩
 rcases Nat.lt_or_ge k l.length with hlt | hge
 ·have hr := h3 k hlt
  have ts := take_snocT l k hlt
  have hmem : l.getD k default ∈ l := by rw [List.getD_eq_getElem?_getD, List.getElem?_eq_getElem hlt]; exact List.getElem_mem hlt
  generalize l.getD k default = x at hr ts hmem
  have hgk := hg x
  obtain ⟨xi, xf, xt, xn⟩ := x
  cases hp : pr ⟨xi, xf, xt, xn⟩ with
  | true =>
   rw [hp] at hgk
   (repeat (first|(with_reducible refine AWo.cons ?_)|((with_reducible refine Step.id ?_);first|((with_reducible apply Step.move);exact rfl;exact rfl)|((with_reducible apply Step.assign);exact rfl;exact rfl)|((with_reducible apply Step.loadL (n := 4));exact rfl;((decide +kernel));((decide +kernel));exact rfl;((exact RdL.old _ (by assumption)));exact rfl;exact rfl)|((with_reducible apply Step.ix (s := 4));exact rfl;((assumption));exact rfl;((decide +kernel));exact rfl;((omega)))|((with_reducible apply Step.lss);exact rfl;exact rfl;exact rfl)|((with_reducible apply Step.callV fit);exact rfl;exact rfl;exact hf;exact hb;exact rfl;exact ((by rw [List.append_nil];exact hgk))))|(with_reducible first|apply AWo.nil|apply AW.seq|apply Then.n|apply AW.regL|apply AW.block|apply AW.skip)|((with_reducible apply AW.condT);exact rfl;((first|rfl|(simp only [zq1, zq2, zq3, zq4, zq5, zq6];first|assumption|omega))))))
   (refine AW.retD (l := [(4, _)]) (by repeat (first | exact trivial | (refine And.intro ⟨rfl, by (exact .int _ _)⟩ ?_))) ?_; (repeat (first | refine Then.r ?_ | refine InBlk.r ?_)))
   exact ⟨_, rfl, ⟨_, rfl, by simp only [Int.natCast_nonneg, true_iff]; rw [List.any_eq_true]; exact ⟨_, hmem, hp⟩⟩, rfl⟩
  | false =>
   rw [hp] at hgk
   (repeat (first|(with_reducible refine AWo.cons ?_)|((with_reducible refine Step.id ?_);first|((with_reducible apply Step.move);exact rfl;exact rfl)|((with_reducible apply Step.assign);exact rfl;exact rfl)|((with_reducible apply Step.loadL (n := 4));exact rfl;((decide +kernel));((decide +kernel));exact rfl;((exact RdL.old _ (by assumption)));exact rfl;exact rfl)|((with_reducible apply Step.ix (s := 4));exact rfl;((assumption));exact rfl;((decide +kernel));exact rfl;((omega)))|((with_reducible apply Step.add);exact rfl;exact rfl;((omega));exact rfl)|((with_reducible apply Step.lss);exact rfl;exact rfl;exact rfl)|((with_reducible apply Step.callV fit);exact rfl;exact rfl;exact hf;exact hb;exact rfl;exact ((by rw [List.append_nil];exact hgk))))|(with_reducible first|apply AWo.nil|apply AW.seq|apply Then.n|apply AW.regL|apply AW.block|apply InBlk.n|apply AW.skip)|((with_reducible apply AW.condT);exact rfl;(((simp only [zq1, zq2, zq3, zq4, zq5, zq6];first|assumption|omega))))|((with_reducible apply AW.condF);exact rfl;((rfl)))))
   exact ⟨_, _, _, by omega, (Or.inl ⟨rfl, (by repeat (first | exact trivial | (refine And.intro rfl ?_)))⟩), k + 1, rfl, by omega, by rw [ts, List.any_append, hz]; simp [hp], rfl, rfl⟩
 ·(repeat (first|(with_reducible refine AWo.cons ?_)|((with_reducible refine Step.id ?_);first|((with_reducible apply Step.assign);exact rfl;exact rfl)|((with_reducible apply Step.lss);exact rfl;exact rfl;exact rfl))|(with_reducible first|apply AWo.nil|apply AW.seq|apply Then.n|apply AW.regL|apply AW.exit|apply InBlk.hit|apply Then.e)|((with_reducible apply AW.condF);exact rfl;(((simp only [zq1, zq2, zq3, zq4, zq5, zq6];first|assumption|omega))))))
  obtain rfl : k = l.length := by omega
  (refine AW.retD (l := [(4, _)]) (by repeat (first | exact trivial | (refine And.intro ⟨rfl, by (exact .int _ _)⟩ ?_))) ?_; (repeat (first | refine Then.r ?_ | refine InBlk.r ?_)))
  rw [List.take_length] at hz
  exact ⟨_, rfl, ⟨_, rfl, by rw [hz]; simp⟩, rfl⟩
set_option maxRecDepth 100000 in
theorem f84_ok {m : AM} {v : Value} {l : List Tr} (hl : Trs m v l) (hlen : l.length ≤ 9223372036854775807) {b : Bool} (hbb : (!l.all okT) = b) : ACall Try.prog 84 #[v, .func (.func 85) #[] #[]] m (Ret (.bool b) m) := by
 subst hbb
 have hg := f126_ok hl Try.func85 rfl (fun x => !okT x) (cap := #[]) hlen fun x => by simpa using f85_ok x
 refine ACall.start Try.func84 rfl rfl ?_
 (repeat (first|(with_reducible refine AWo.cons ?_)|((with_reducible refine Step.id ?_);first|((with_reducible apply Step.move);exact rfl;exact rfl)|((with_reducible apply Step.assign);exact rfl;exact rfl))|(with_reducible first|apply AWo.nil|apply AW.seq|apply Then.n|apply AW.regL)))
 ((with_reducible apply Step.callF fit);exact rfl;exact Try.func126;exact rfl;exact rfl;((rw [List.append_nil];exact hg)))
 rintro r m' ⟨⟨q, rfl, hq⟩, hm⟩
 obtain rfl : m' = m ++ [] := by rw [hm, List.append_nil]
 (repeat (first|(with_reducible refine AWo.cons ?_)|((with_reducible refine Step.id ?_);first|((with_reducible apply Step.assign);exact rfl;exact rfl)|((with_reducible apply Step.geq);exact rfl;exact rfl;exact rfl))|(with_reducible first|apply AWo.nil|apply Then.n)))
 (refine AW.retD (l := [(4, _)]) (by repeat (first | exact trivial | (refine And.intro ⟨rfl, by (exact .bool _)⟩ ?_))) ?_; (repeat (first | refine Then.r ?_ | refine InBlk.r ?_)))
 refine ⟨_, rfl, ?_, rfl⟩
 congr 1
 rw [Bool.eq_iff_iff, decide_eq_true_eq, hq]
 simp
def wth1 (H : List Int) (x : Tr) : List Int :=
 (H.set (x.f.toNat * 16 + x.i.toNat) (H.getD (x.f.toNat * 16 + x.i.toNat) 0 - x.n)).set (x.t.toNat * 16 + x.i.toNat)
  ((H.set (x.f.toNat * 16 + x.i.toNat) (H.getD (x.f.toNat * 16 + x.i.toNat) 0 - x.n)).getD (x.t.toNat * 16 + x.i.toNat) 0 + x.n)
def wth (H : List Int) (l : List Tr) : List Int := l.foldl wth1 H
theorem wth1_len (H : List Int) (x : Tr) : (wth1 H x).length = H.length := by simp [wth1]
theorem wth_len : ∀ (l : List Tr) (H : List Int), (wth H l).length = H.length
 | [], _ => rfl
 | x :: l, H => by
  show (wth (wth1 H x) l).length = _
  rw [wth_len l, wth1_len]
theorem wth_snoc (H : List Int) (l : List Tr) (x : Tr) : wth H (l ++ [x]) = wth1 (wth H l) x := by simp [wth]
def Bd (H : List Int) (b : Int) : Prop := ∀ k, -b ≤ H.getD k 0 ∧ H.getD k 0 ≤ b
theorem getD_set (H : List Int) (i k : Nat) (x : Int) : (H.set i x).getD k 0 = if i = k ∧ k < H.length then x else H.getD k 0 := by
 simp only [List.getD_eq_getElem?_getD, List.getElem?_set]
 by_cases e : i = k
 ·subst e
  by_cases h : i < H.length
  ·simp [h]
  ·simp [h]
 ·simp [e]
theorem Bd.set {H : List Int} {b : Int} (h : Bd H b) (i : Nat) {x : Int} (hx : -b ≤ x ∧ x ≤ b) : Bd (H.set i x) b := fun k => by
 rw [getD_set]
 split
 ·exact hx
 ·exact h k
theorem Bd.le {H : List Int} {b c : Int} (h : Bd H b) (hc : b ≤ c) : Bd H c := fun k => by have := h k; omega
theorem Bd.wth1 {H : List Int} {b : Int} (h : Bd H b) {x : Tr} (hx : okT x = true) : Bd (wth1 H x) (b + 2000000) := by
 simp only [okT, decide_eq_true_eq] at hx
 have h1 : Bd (H.set (x.f.toNat * 16 + x.i.toNat) (H.getD (x.f.toNat * 16 + x.i.toNat) 0 - x.n)) (b + 1000000) :=
  (h.le (by omega)).set _ (by have := h (x.f.toNat * 16 + x.i.toNat); omega)
 refine (h1.le (by omega)).set _ ?_
 have := h1 (x.t.toNat * 16 + x.i.toNat)
 omega
theorem Bd.wth : ∀ {l : List Tr} {H : List Int} {b : Int}, Bd H b → l.all okT = true → Bd (wth H l) (b + 2000000 * l.length)
 | [], H, b, h, _ => by simpa [Abs.wth] using h
 | x :: l, H, b, h, hl => by
  simp only [List.all_cons, Bool.and_eq_true] at hl
  have := Bd.wth (h.wth1 hl.1) hl.2
  rw [List.length_cons]
  exact this.le (by push_cast; omega)
theorem ze130 : zeroB Try.prog 130 = some (iv (List.replicate 256 0)).toArray := by kernel_rfl
theorem sz130 : szB Try.prog 130 = some 256 := by kernel_rfl
theorem sz3 : szB Try.prog 3 = some 1 := by kernel_rfl
theorem ag130 : aggB Try.prog 130 = some true := by kernel_rfl
theorem iv_all1 (l : List Int) : (iv l).all (·.oneCell') = true := by
 rw [List.all_eq_true]
 intro v hv
 obtain ⟨x, _, rfl⟩ := List.mem_map.1 hv
 rfl
theorem iv_cells (l : List Int) : (Value.agg (iv l).toArray).cells.all (·.oneCell') = true := by
 have : (Value.agg (iv l).toArray).cells = (iv l).toArray := rfl
 rw [this, List.all_toArray]
 exact iv_all1 l
theorem ar130 : arB Try.prog 130 = some (16, 16) := by kernel_rfl
theorem ar128 : arB Try.prog 128 = some (16, 1) := by kernel_rfl
set_option maxHeartbeats 4000000 in
set_option maxRecDepth 100000 in
theorem with_ok {m : AM} {v : Value} {l : List Tr} {H : List Int} {b : Int} (hl : Trs m v l) (hlen : l.length ≤ 1000) (hok : l.all okT = true) (hH : H.length = 256) (hb : Bd H b) (hb1 : b ≤ 1000000000000) :
  ACall Try.prog 87 #[.agg (iv H).toArray, v] m (Ret (.agg (iv (wth H l)).toArray) m) := by
 refine ACall.drop (Ren.aggI _) ?_
 obtain ⟨a, o, h1, h2, h3⟩ := hl
 refine ACall.start Try.func87 rfl rfl ?_
 have hw1 := iv_cells H
 (repeat (first|(with_reducible refine AWo.cons ?_)|((with_reducible refine Step.id ?_);first|((with_reducible apply Step.move);exact rfl;exact rfl)|((with_reducible apply Step.len);exact rfl;((assumption));((decide +kernel));exact rfl)|((with_reducible apply Step.box 0);exact rfl;exact rfl;((first|assumption|exact hw1));exact rfl;((first|(simp only [zq7, zq8, zq9, zq0, iv_set, bv_set, iv_rep, bv_rep] <;> rfl)|rfl)))|((with_reducible apply Step.alloc 1);exact rfl;exact ze130;exact rfl;((first|(simp only [zq7, zq8, zq9, zq0, iv_set, bv_set, iv_rep, bv_rep] <;> rfl)|rfl))))|(with_reducible first|apply AWo.nil|apply AW.seq|apply Then.n|apply AW.regL|apply AW.block)))
 clear hw1
 refine AW.loopT (fun n t L => ∃ k : Nat, n = l.length - k ∧ k ≤ l.length ∧ L = [some { cells := iv (wth H (l.take k)) }, some { cells := iv (List.replicate 256 0) }] ∧
  t = [(2, .pointer (some ⟨m.length + 0, 0, none⟩)), (4, .pointer (some ⟨m.length + 1, 0, none⟩)), (7, v), (8, .int .i64 (l.length : Nat)), (9, .int .i64 (k : Nat))]) ⟨_, _, _, (Or.inl ⟨rfl, (by repeat (first | exact trivial | (refine And.intro rfl ?_)))⟩), 0, rfl, Nat.zero_le _, rfl, rfl⟩ ?_
 rintro n t L ⟨k, rfl, hk, rfl, rfl⟩
 have hlw := wth_len (l.take k) H
 rw [hH] at hlw
 rcases Nat.lt_or_ge k l.length with hlt | hge
 ·have hr := h3 k hlt
  have ts := take_snocT l k hlt
  have hmem : l.getD k default ∈ l := by rw [List.getD_eq_getElem?_getD, List.getElem?_eq_getElem hlt]; exact List.getElem_mem hlt
  have hx := List.all_eq_true.1 hok _ hmem
  have hbd := Bd.wth (l := l.take k) hb (by rw [List.all_eq_true]; exact fun x hx => List.all_eq_true.1 hok x (List.mem_of_mem_take hx))
  have hw := wth_snoc H (l.take k) (l.getD k default)
  rw [← ts] at hw
  rw [List.length_take] at hbd
  have hbd1 : Bd (wth H (l.take k)) 2000000000000 := hbd.le (by have : min k l.length ≤ 1000 := (by omega); omega)
  clear hbd
  generalize l.getD k default = x at hr hx hw
  generalize wth H (l.take k) = H' at *
  obtain ⟨xi, xf, xt, xn⟩ := x
  simp only [Tr.c] at hr
  simp only [okT, decide_eq_true_eq] at hx
  obtain ⟨x1, x2, x3, x4, x5, x6, x7, x8, x9⟩ := hx
  obtain ⟨i, rfl⟩ := Int.eq_ofNat_of_zero_le x1
  obtain ⟨f, rfl⟩ := Int.eq_ofNat_of_zero_le x3
  obtain ⟨t, rfl⟩ := Int.eq_ofNat_of_zero_le x5
  have b1 := hbd1 (f * 16 + i)
  have hbd2 : Bd (H'.set (f * 16 + i) (H'.getD (f * 16 + i) 0 - xn)) 3000000000000 := (hbd1.le (by omega)).set _ (by omega)
  have b2 := hbd2 (t * 16 + i)
  have l2 : (H'.set (f * 16 + i) (H'.getD (f * 16 + i) 0 - xn)).length = 256 := by rw [List.length_set, hlw]
  simp only [wth1, Int.toNat_natCast] at hw
  clear hbd1 hbd2
  (repeat (first|(with_reducible refine AWo.cons ?_)|((with_reducible refine Step.id ?_);first|((with_reducible apply Step.move);exact rfl;exact rfl)|((with_reducible apply Step.load);exact rfl;((decide +kernel));exact rfl;((first|exact Rd.new rfl (iv_get (by first|omega|(simp;omega)))|exact Rd.new rfl rfl)))|((with_reducible apply Step.loadL (n := 4));exact rfl;((decide +kernel));((decide +kernel));exact rfl;((exact RdL.old _ (by assumption)));exact rfl;exact rfl)|((with_reducible apply Step.ix (s := 4));exact rfl;((assumption));exact rfl;((decide +kernel));exact rfl;((omega)))|((with_reducible apply Step.field0);exact rfl;((decide +kernel));exact rfl)|((with_reducible apply Step.field (k := 1));exact rfl;((decide +kernel));exact rfl)|((with_reducible apply Step.field (k := 2));exact rfl;((decide +kernel));exact rfl)|((with_reducible apply Step.field (k := 3));exact rfl;((decide +kernel));exact rfl)|((with_reducible apply Step.ixR0 (s := 16) (n := 16));exact rfl;exact rfl;exact ar130;exact rfl;((omega)))|((with_reducible apply Step.ixC (n := 16));exact rfl;exact rfl;exact ar128;exact rfl;((omega)))|((with_reducible apply Step.add);exact rfl;exact rfl;((omega));exact rfl)|((with_reducible apply Step.sub);exact rfl;exact rfl;((omega));exact rfl)|((with_reducible apply Step.lss);exact rfl;exact rfl;exact rfl)|((with_reducible apply Step.store (k := 0));exact rfl;exact rfl;exact rfl;exact rfl;((decide +kernel));exact rfl;exact rfl;(focus (first|omega|(simp [iv, bv];done)|(simp [iv, bv];omega)));((first|(simp only [zq7, zq8, zq9, zq0, iv_set, bv_set, iv_rep, bv_rep] <;> rfl)|rfl)))|((with_reducible apply Step.alloc 2);exact rfl;exact ze63;exact rfl;((first|(simp only [zq7, zq8, zq9, zq0, iv_set, bv_set, iv_rep, bv_rep] <;> rfl)|rfl)))|((with_reducible apply Step.storeA (k := 2) (n := 4));exact rfl;exact rfl;exact rfl;exact rfl;((decide +kernel));exact rfl;((kernel_rfl));exact rfl;((first|(simp only [zq7, zq8, zq9, zq0, iv_set, bv_set, iv_rep, bv_rep] <;> rfl)|rfl))))|(with_reducible first|apply AWo.nil|apply AW.seq|apply Then.n|apply AW.regL|apply AW.block)|((with_reducible apply AW.drawL fit);((decide +kernel)))|(with_reducible first|apply InBlk.n|apply AW.skip)|((with_reducible apply AW.condT);exact rfl;(((simp only [zq1, zq2, zq3, zq4, zq5, zq6];first|assumption|omega))))))
  rw [← hw]
  exact ⟨_, _, _, by omega, (Back.trim rfl rfl (by repeat (first | exact CellsOk.nil | refine CellsOk.cons (by exact g0_iv _) ?_)) (by repeat (first | exact trivial | (refine And.intro ⟨rfl, by (first | exact .int _ _ | exact .ptr _ _ (by first | (simp; done) | omega | (simp; omega)) | exact Ren.of_sl (by assumption) (by first | omega | (simp; omega)))⟩ ?_)))), k + 1, rfl, by omega, rfl, rfl⟩
 ·obtain rfl : k = l.length := by omega
  rw [List.take_length] at *
  (repeat (first|(with_reducible refine AWo.cons ?_)|((with_reducible refine Step.id ?_);((with_reducible apply Step.lss);exact rfl;exact rfl;exact rfl))|(with_reducible first|apply AWo.nil|apply AW.seq|apply Then.n|apply AW.regL|apply AW.exit|apply InBlk.hit|apply Then.e)|((with_reducible apply AW.condF);exact rfl;(((simp only [zq1, zq2, zq3, zq4, zq5, zq6];first|assumption|omega))))))
  ((with_reducible apply Step.loadL (n := 256));exact rfl;exact ag130;exact sz130;exact rfl;exact (RdL.new rfl rfl);((rw [iv_len, hlw]));exact rfl)
  refine AWo.cons ?_
  ((with_reducible apply Step.storeA (k := 1) (n := 256));exact rfl;exact rfl;exact rfl;exact rfl;exact sz130;((show (iv _).toArray.size = _;rw [List.size_toArray, iv_len, hlw]));exact (iv_cells _);exact rfl;((first|(simp only [zq7, zq8, zq9, zq0, iv_set, bv_set, iv_rep, bv_rep] <;> rfl)|rfl)))
  (repeat (first|(with_reducible first|apply AWo.nil|apply Then.n)))
  (refine AW.ret ?_; (repeat (first | refine Then.r ?_ | refine InBlk.r ?_)))
  exact ⟨_, ares_cell rfl rfl ag130 (n := 256) sz130 (RdL.new rfl rfl) (by show (iv _).length = _; rw [iv_len, hlw]) rfl, rfl, _, rfl⟩
theorem take_snocI (l : List Int) (k : Nat) (h : k < l.length) : l.take (k + 1) = l.take k ++ [l.getD k 0] := by
 rw [List.take_succ_eq_append_getElem h]; simp [h]
def minF (l : List Int) : Int := l.foldl min (l.getD 0 0)
def maxF (l : List Int) : Int := l.foldl max (l.getD 0 0)
theorem foldl_min_lt : ∀ (l : List Int) (x c : Int), l.foldl min x < c ↔ x < c ∨ ∃ y ∈ l, y < c
 | [], x, c => by simp
 | y :: l, x, c => by
  rw [List.foldl_cons, foldl_min_lt l]
  simp only [List.mem_cons, exists_eq_or_imp]
  constructor
  ·rintro (h | h)
   ·rcases Int.min_def x y ▸ h with h
    by_cases e : x ≤ y
    ·left; omega
    ·right; left; omega
   ·exact .inr (.inr h)
  ·rintro (h | h | h)
   ·left; omega
   ·left; omega
   ·exact .inr h
theorem foldl_max_gt : ∀ (l : List Int) (x c : Int), c < l.foldl max x ↔ c < x ∨ ∃ y ∈ l, c < y
 | [], x, c => by simp
 | y :: l, x, c => by
  rw [List.foldl_cons, foldl_max_gt l]
  simp only [List.mem_cons, exists_eq_or_imp]
  constructor
  ·rintro (h | h)
   ·by_cases e : x ≤ y
    ·right; left; omega
    ·left; omega
   ·exact .inr (.inr h)
  ·rintro (h | h | h)
   ·left; omega
   ·left; omega
   ·exact .inr h
theorem minF_lt {l : List Int} (h : 0 < l.length) (c : Int) : minF l < c ↔ ∃ y ∈ l, y < c := by
 unfold minF
 rw [foldl_min_lt]
 have : l.getD 0 0 ∈ l := by simp [h]
 constructor
 ·rintro (h | h)
  ·exact ⟨_, this, h⟩
  ·exact h
 ·exact .inr
theorem maxF_gt {l : List Int} (h : 0 < l.length) (c : Int) : c < maxF l ↔ ∃ y ∈ l, c < y := by
 unfold maxF
 rw [foldl_max_gt]
 have : l.getD 0 0 ∈ l := by simp [h]
 constructor
 ·rintro (h | h)
  ·exact ⟨_, this, h⟩
  ·exact h
 ·exact .inr
set_option maxRecDepth 100000 in
theorem Min_ok {m : AM} {v : Value} {l : List Int} (hl : Ints m v l) (hn : 0 < l.length) (hlen : l.length ≤ 1000000) : ACall Try.prog 88 #[v] m (Ret (.int .i64 (minF l)) m) := by
 obtain ⟨a, o, h1, h2, h3⟩ := hl
 have h0 := h3 0 hn
 refine ACall.start Try.func88 rfl rfl ?_
 (repeat (first|(with_reducible refine AWo.cons ?_)|((with_reducible refine Step.id ?_);first|((with_reducible apply Step.move);exact rfl;exact rfl)|((with_reducible apply Step.assign);exact rfl;exact rfl)|((with_reducible apply Step.load);exact rfl;((decide +kernel));exact rfl;((exact Rd.old _ (by assumption))))|((with_reducible apply Step.ix1);exact rfl;((assumption));exact rfl;((decide +kernel));exact rfl;((omega)))|((with_reducible apply Step.lss);exact rfl;exact rfl;exact rfl)|((with_reducible apply Step.len);exact rfl;((assumption));((decide +kernel));exact rfl))|(with_reducible first|apply AWo.nil|apply AW.seq|apply Then.n|apply AW.regL|apply AW.block|apply AW.skip)|((with_reducible apply AW.condF);exact rfl;(((simp only [zq1, zq2, zq3, zq4, zq5, zq6];first|assumption|omega))))))
 refine AW.loopT (fun n t L => ∃ (k : Nat) (q : Int), n = l.length - k ∧ k ≤ l.length ∧ q = (l.take k).foldl min (l.getD 0 0) ∧ L = [] ∧
  t = [(0, v), (3, .int .i64 q), (4, .int .i64 (k : Nat))]) ⟨_, _, _, (Or.inl ⟨rfl, (by repeat (first | exact trivial | (refine And.intro rfl ?_)))⟩), 1, l.getD 0 0, rfl, by omega, by rw [take_snocI l 0 hn]; simp, rfl, rfl⟩ ?_
 rintro n t L ⟨k, q, rfl, hk, hq, rfl, rfl⟩
 rcases Nat.lt_or_ge k l.length with hlt | hge
 ·have hr := h3 k hlt
  have ts := take_snocI l k hlt
  (repeat (first|(with_reducible refine AWo.cons ?_)|((with_reducible refine Step.id ?_);first|((with_reducible apply Step.move);exact rfl;exact rfl)|((with_reducible apply Step.assign);exact rfl;exact rfl)|((with_reducible apply Step.load);exact rfl;((decide +kernel));exact rfl;((exact Rd.old _ (by assumption))))|((with_reducible apply Step.ix1);exact rfl;((assumption));exact rfl;((decide +kernel));exact rfl;((omega)))|((with_reducible apply Step.add);exact rfl;exact rfl;((omega));exact rfl)|((with_reducible apply Step.lss);exact rfl;exact rfl;exact rfl)|((with_reducible apply Step.len);exact rfl;((assumption));((decide +kernel));exact rfl)|((with_reducible apply Step.min);exact rfl;exact rfl;exact rfl))|(with_reducible first|apply AWo.nil|apply AW.seq|apply Then.n|apply AW.regL|apply AW.block|apply InBlk.n|apply AW.skip)|((with_reducible apply AW.condT);exact rfl;(((simp only [zq1, zq2, zq3, zq4, zq5, zq6];first|assumption|omega))))))
  exact ⟨_, _, _, by omega, (Or.inl ⟨rfl, (by repeat (first | exact trivial | (refine And.intro rfl ?_)))⟩), k + 1, _, rfl, by omega, by rw [ts, List.foldl_append, ← hq]; rfl, rfl, rfl⟩
 ·obtain rfl : k = l.length := by omega
  rw [List.take_length] at hq
  (repeat (first|(with_reducible refine AWo.cons ?_)|((with_reducible refine Step.id ?_);first|((with_reducible apply Step.move);exact rfl;exact rfl)|((with_reducible apply Step.assign);exact rfl;exact rfl)|((with_reducible apply Step.lss);exact rfl;exact rfl;exact rfl)|((with_reducible apply Step.len);exact rfl;((assumption));((decide +kernel));exact rfl))|(with_reducible first|apply AWo.nil|apply AW.seq|apply Then.n|apply AW.regL|apply AW.exit|apply InBlk.hit|apply Then.e)|((with_reducible apply AW.condF);exact rfl;(((simp only [zq1, zq2, zq3, zq4, zq5, zq6];first|assumption|omega))))))
  (refine AW.retD (l := [(2, _)]) (by repeat (first | exact trivial | (refine And.intro ⟨rfl, by (exact .int _ _)⟩ ?_))) ?_; (repeat (first | refine Then.r ?_ | refine InBlk.r ?_)))
  exact ⟨_, rfl, by rw [hq]; rfl, rfl⟩
set_option maxRecDepth 100000 in
theorem Max_ok {m : AM} {v : Value} {l : List Int} (hl : Ints m v l) (hn : 0 < l.length) (hlen : l.length ≤ 1000000) : ACall Try.prog 89 #[v] m (Ret (.int .i64 (maxF l)) m) := by
 obtain ⟨a, o, h1, h2, h3⟩ := hl
 have h0 := h3 0 hn
 refine ACall.start Try.func89 rfl rfl ?_
 (repeat (first|(with_reducible refine AWo.cons ?_)|((with_reducible refine Step.id ?_);first|((with_reducible apply Step.move);exact rfl;exact rfl)|((with_reducible apply Step.assign);exact rfl;exact rfl)|((with_reducible apply Step.load);exact rfl;((decide +kernel));exact rfl;((exact Rd.old _ (by assumption))))|((with_reducible apply Step.ix1);exact rfl;((assumption));exact rfl;((decide +kernel));exact rfl;((omega)))|((with_reducible apply Step.lss);exact rfl;exact rfl;exact rfl)|((with_reducible apply Step.len);exact rfl;((assumption));((decide +kernel));exact rfl))|(with_reducible first|apply AWo.nil|apply AW.seq|apply Then.n|apply AW.regL|apply AW.block|apply AW.skip)|((with_reducible apply AW.condF);exact rfl;(((simp only [zq1, zq2, zq3, zq4, zq5, zq6];first|assumption|omega))))))
 refine AW.loopT (fun n t L => ∃ (k : Nat) (q : Int), n = l.length - k ∧ k ≤ l.length ∧ q = (l.take k).foldl max (l.getD 0 0) ∧ L = [] ∧
  t = [(0, v), (3, .int .i64 q), (4, .int .i64 (k : Nat))]) ⟨_, _, _, (Or.inl ⟨rfl, (by repeat (first | exact trivial | (refine And.intro rfl ?_)))⟩), 1, l.getD 0 0, rfl, by omega, by rw [take_snocI l 0 hn]; simp, rfl, rfl⟩ ?_
 rintro n t L ⟨k, q, rfl, hk, hq, rfl, rfl⟩
 rcases Nat.lt_or_ge k l.length with hlt | hge
 ·have hr := h3 k hlt
  have ts := take_snocI l k hlt
  (repeat (first|(with_reducible refine AWo.cons ?_)|((with_reducible refine Step.id ?_);first|((with_reducible apply Step.move);exact rfl;exact rfl)|((with_reducible apply Step.assign);exact rfl;exact rfl)|((with_reducible apply Step.load);exact rfl;((decide +kernel));exact rfl;((exact Rd.old _ (by assumption))))|((with_reducible apply Step.ix1);exact rfl;((assumption));exact rfl;((decide +kernel));exact rfl;((omega)))|((with_reducible apply Step.add);exact rfl;exact rfl;((omega));exact rfl)|((with_reducible apply Step.lss);exact rfl;exact rfl;exact rfl)|((with_reducible apply Step.len);exact rfl;((assumption));((decide +kernel));exact rfl)|((with_reducible apply Step.max);exact rfl;exact rfl;exact rfl))|(with_reducible first|apply AWo.nil|apply AW.seq|apply Then.n|apply AW.regL|apply AW.block|apply InBlk.n|apply AW.skip)|((with_reducible apply AW.condT);exact rfl;(((simp only [zq1, zq2, zq3, zq4, zq5, zq6];first|assumption|omega))))))
  exact ⟨_, _, _, by omega, (Or.inl ⟨rfl, (by repeat (first | exact trivial | (refine And.intro rfl ?_)))⟩), k + 1, _, rfl, by omega, by rw [ts, List.foldl_append, ← hq]; rfl, rfl, rfl⟩
 ·obtain rfl : k = l.length := by omega
  rw [List.take_length] at hq
  (repeat (first|(with_reducible refine AWo.cons ?_)|((with_reducible refine Step.id ?_);first|((with_reducible apply Step.move);exact rfl;exact rfl)|((with_reducible apply Step.assign);exact rfl;exact rfl)|((with_reducible apply Step.lss);exact rfl;exact rfl;exact rfl)|((with_reducible apply Step.len);exact rfl;((assumption));((decide +kernel));exact rfl))|(with_reducible first|apply AWo.nil|apply AW.seq|apply Then.n|apply AW.regL|apply AW.exit|apply InBlk.hit|apply Then.e)|((with_reducible apply AW.condF);exact rfl;(((simp only [zq1, zq2, zq3, zq4, zq5, zq6];first|assumption|omega))))))
  (refine AW.retD (l := [(2, _)]) (by repeat (first | exact trivial | (refine And.intro ⟨rfl, by (exact .int _ _)⟩ ?_))) ?_; (repeat (first | refine Then.r ?_ | refine InBlk.r ?_)))
  exact ⟨_, rfl, by rw [hq]; rfl, rfl⟩
theorem el55 : elemB Try.prog 55 = some (63, 4, 32, #[.int .i64 0, .int .i64 0, .int .i64 0, .int .i64 0]) := by kernel_rfl
theorem un55 : Try.prog.underlying 55 = some (.slice 63) := by kernel_rfl
theorem set_hit {m : AM} {a : Nat} {b c : Option Blk} (h : m[a]? = some b) : (m.set a c)[a]? = some c := List.getElem?_set_self (List.getElem?_eq_some_iff.1 h).1
theorem Trs.row {m : AM} {v : Value} {l : List Tr} (h : Trs m v l) : ∃ a o, Sl v a o l.length ∧ (0 < l.length → RdL m a o (tcs l)) := by
 obtain ⟨a, o, h1, _, h3⟩ := h.all
 exact ⟨a, o, h1, h3⟩
theorem bs55z {m : AM} {k : Nat} : abuildSlice Try.prog m k 55 0 [] = some (.slice (some ⟨k, 0, none⟩) 0 0, m.set k (some { cells := [] })) := by kernel_rfl
set_option maxRecDepth 100000 in
theorem Clone_ok {m : AM} {v : Value} {l : List Tr} (hl : Trs m v l) (hn : 0 < l.length) (hlen : l.length ≤ 1000000) : ACall Try.prog 90 #[v] m (More (fun M u => Row M m.length 4 u (tcs l) l.length) m) := by
 obtain ⟨a, o, h1, h3⟩ := hl.row
 obtain ⟨q, c, rfl⟩ : ∃ q c, v = .slice (some q) l.length c := by
  rcases h1 with ⟨_, h⟩ | ⟨c, _, rfl⟩ | ⟨h, _⟩
  ·omega
  ·exact ⟨_, _, rfl⟩
  ·omega
 refine ACall.start Try.func90 rfl rfl ?_
 (repeat (first|(with_reducible refine AWo.cons ?_)|((with_reducible refine Step.id ?_);first|((with_reducible apply Step.move);exact rfl;exact rfl)|((with_reducible apply Step.assign);exact rfl;exact rfl)|((with_reducible apply Step.eqNil);exact rfl;exact rfl;exact un55;exact rfl)|((with_reducible apply Step.buildS 0);exact rfl;exact rfl;exact (fun _ _ => bs55z);exact rfl;((first|(simp only [zq7, zq8, zq9, zq0, iv_set, bv_set, iv_rep, bv_rep] <;> rfl)|rfl))))|(with_reducible first|apply AWo.nil|apply AW.seq|apply Then.n|apply AW.regL|apply AW.skip)|((with_reducible apply AW.condF);exact rfl;((rfl)))))
 ((with_reducible apply Step.appRow2 (b0 := m.length) (n := 0) (c := []));exact rfl;exact rfl;exact (.inr ⟨m.length + 0, .own, 1, by omega, rfl, by rw [get_app];rfl, by simp, .inl rfl⟩);exact h1;exact (fun h => (h3 h).old _);exact el55;exact un55;exact (tcs_len l);exact (tcs_one l);exact rfl;((omega));exact rfl;((simp)))
 intro u M hr hml hk hk2
 rw [List.nil_append, Nat.zero_add] at hr
 (repeat (first|(with_reducible refine AWo.cons ?_)|((with_reducible refine Step.id ?_);((with_reducible apply Step.assign);exact rfl;exact rfl))|(with_reducible first|apply AWo.nil|apply Then.n)))
 (refine AW.ret ?_; (repeat (first | refine Then.r ?_ | refine InBlk.r ?_)))
 obtain ⟨N, hN⟩ := pre_keep (m0 := m) ⟨_, rfl⟩ hml fun j hj => hk j (by simp; omega) (by intro n' c' e; simp only [Value.slice.injEq, Option.some.injEq, Addr.mk.injEq] at e; omega)
 exact ⟨_, rfl, N, hN, hr⟩
structure Bk where
 H : List Int
 C : List Int
 P : List (List Tr)
def Bk.new : Bk := ⟨List.replicate 256 0, List.replicate 256 0, []⟩
def bkc (H C : List Int) (pv : Value) : List Value := .bool true :: (iv H ++ (iv C ++ [pv]))
theorem bkc_len {H C : List Int} {pv : Value} (hH : H.length = 256) (hC : C.length = 256) : (bkc H C pv).length = 514 := by
 simp [bkc, iv_len, hH, hC]
theorem bkc_0 {H C : List Int} {pv : Value} : (bkc H C pv)[0]? = some (.bool true) := rfl
theorem bkc_H {H C : List Int} {pv : Value} {k : Nat} (hk : k < H.length) : (bkc H C pv)[1 + k]? = some (.int .i64 (H.getD k 0)) := by
 unfold bkc
 rw [show 1 + k = k + 1 by omega, List.getElem?_cons_succ, List.getElem?_append_left (by rw [iv_len]; exact hk)]
 exact iv_get hk
theorem bkc_P {H C : List Int} {pv : Value} (hH : H.length = 256) (hC : C.length = 256) : (bkc H C pv)[513]? = some pv := by
 unfold bkc
 rw [show 513 = 512 + 1 by omega, List.getElem?_cons_succ, List.getElem?_append_right (by rw [iv_len]; omega), iv_len, hH, List.getElem?_append_right (by rw [iv_len]; omega), iv_len, hC]
 rfl
theorem bkc_setP {H C : List Int} {pv u : Value} (hH : H.length = 256) (hC : C.length = 256) : (bkc H C pv).set 513 u = bkc H C u := by
 unfold bkc
 rw [show 513 = 512 + 1 by omega, List.set_cons_succ, List.set_append_right _ _ (by rw [iv_len]; omega), iv_len, hH, List.set_append_right _ _ (by rw [iv_len]; omega), iv_len, hC]
 rfl
theorem bkc_setC {H C : List Int} {pv : Value} {k : Nat} {x : Int} (hH : H.length = 256) (hk : k < C.length) : (bkc H C pv).set (257 + k) (.int .i64 x) = bkc H (C.set k x) pv := by
 unfold bkc
 rw [show 257 + k = (256 + k) + 1 by omega, List.set_cons_succ, List.set_append_right _ _ (by rw [iv_len]; omega), iv_len, hH, show 256 + k - 256 = k by omega, List.set_append_left _ _ (by rw [iv_len]; exact hk), iv_set]
theorem bkc_setH {H H' C : List Int} {pv : Value} (hH : H.length = 256) (hH' : H'.length = 256) : splice (bkc H C pv) 1 (iv H') = bkc H' C pv := by
 unfold bkc splice
 rw [iv_len, hH']
 show [Value.bool true] ++ iv H' ++ (iv H ++ (iv C ++ [pv])).drop 256 = _
 rw [List.drop_append, List.drop_eq_nil_of_le (by rw [iv_len]; omega), iv_len, hH]
 simp
def PostAt (M : AM) (b0 : Nat) (u : Value) (l : List Tr) : Prop := ∃ a, b0 ≤ a ∧ a < M.length ∧ u = .slice (some ⟨a, 0, none⟩) l.length l.length ∧ (∃ b, M[a]? = some (some b) ∧ b.kind.mine = true ∧ ∀ (j : Nat) (v : Value), (tcs l)[j]? = some v → b.cells[0 + j]? = some v) ∧ 0 < l.length
theorem PostAt.keep {M M' : AM} {b0 : Nat} {u : Value} {l : List Tr} (h : PostAt M b0 u l) (hl : M.length ≤ M'.length) (hk : ∀ a, a < M.length → Rd M a 0 (.int .i64 (l.getD 0 default).i) → M'[a]? = M[a]?) : PostAt M' b0 u l := by
 obtain ⟨a, h1, h2, h3, ⟨b, h4, hm, h5⟩, h6⟩ := h
 have hr : Rd M a 0 (.int .i64 (l.getD 0 default).i) := ⟨b, h4, by
  have := h5 0 (.int .i64 (l.getD 0 default).i) (by simpa using tcs_get l 0 h6 0 _ rfl)
  simpa using this⟩
 exact ⟨a, h1, by omega, h3, ⟨b, by rw [hk a h2 hr]; exact h4, hm, h5⟩, h6⟩
structure BookAt (M : AM) (b0 bk : Nat) (B : Bk) (pv : Value) : Prop where
 lo : b0 ≤ bk
 cells : M[bk]? = some (some { cells := bkc B.H B.C pv })
 lH : B.H.length = 256
 lC : B.C.length = 256
 row : ∃ pc, Row M b0 1 pv pc B.P.length ∧ ∀ k, k < B.P.length → ∃ u, pc[k]? = some u ∧ PostAt M b0 u (B.P.getD k [])
theorem BookAt.old {M : AM} {b0 bk : Nat} {B : Bk} {pv : Value} (h : BookAt M b0 bk B pv) (T : AM) : BookAt (M ++ T) b0 bk B pv := by
 obtain ⟨h1, h2, h3, h4, pc, h5, h6⟩ := h
 refine ⟨h1, get_old _ h2, h3, h4, pc, h5.old T, fun k hk => ?_⟩
 obtain ⟨u, k1, a, k2, k3, k4, ⟨b, k5, k7, k8⟩, k6⟩ := h6 k hk
 exact ⟨u, k1, a, k2, by rw [List.length_append]; omega, k4, ⟨b, get_old T k5, k7, k8⟩, k6⟩
theorem BookAt.lt {M : AM} {b0 bk : Nat} {B : Bk} {pv : Value} (h : BookAt M b0 bk B pv) : bk < M.length := (List.getElem?_eq_some_iff.1 h.cells).1
def Fr (m M : AM) (bk : Nat) (pv : Value) : Prop := m.length ≤ M.length ∧ ∀ j, j < m.length → j ≠ bk → NotOf pv j → M[j]? = m[j]?
theorem Fr.refl (m : AM) (bk : Nat) (pv : Value) : Fr m m bk pv := ⟨Nat.le_refl _, fun _ _ _ _ => rfl⟩
theorem BookAt.sep {M : AM} {b0 bk : Nat} {B : Bk} {pv : Value} (h : BookAt M b0 bk B pv) {a : Nat} {x : Int} (hr : Rd M a 0 (.int .i64 x)) : a ≠ bk ∧ (0 < B.P.length → NotOf pv a) := by
 obtain ⟨b, r1, r2⟩ := hr
 constructor
 ·rintro rfl
  have := h.cells
  rw [r1] at this
  injection this with this; injection this with this; subst this
  rw [bkc_0] at r2
  injection r2 with r2
  cases r2
 ·intro hp n c e
  obtain ⟨pc, hrow, hps⟩ := h.row
  rcases hrow with ⟨_, _, h0⟩ | ⟨a', kd, sz, k1, k2, k3, k4, k5⟩
  ·omega
  ·rw [k2] at e
   simp only [Value.slice.injEq, Option.some.injEq, Addr.mk.injEq] at e
   obtain ⟨rfl, _⟩ := e.1
   rw [r1] at k3
   injection k3 with k3; injection k3 with k3; subst k3
   obtain ⟨u, q1, a'', _, _, q4, _⟩ := hps 0 hp
   simp only at r2
   rw [r2] at q1
   injection q1 with q1
   rw [q4] at q1
   cases q1
theorem un49 : Try.prog.underlying 49 = some (.pointer 133) := by kernel_rfl
theorem un130 : Try.prog.underlying 130 = some (.array 16 128) := by kernel_rfl
theorem un128 : Try.prog.underlying 128 = some (.array 16 3) := by kernel_rfl
theorem sz128 : szB Try.prog 128 = some 16 := by kernel_rfl
theorem ag128 : aggB Try.prog 128 = some true := by kernel_rfl
theorem ze128 : zeroB Try.prog 128 = some (iv (List.replicate 16 0)).toArray := by kernel_rfl
set_option maxRecDepth 100000 in
theorem none_ok {m : AM} {bk : Nat} (h : Rd m bk 0 (.bool true)) : ACall Try.prog 83 #[.pointer (some ⟨bk, 0, none⟩)] m (Ret (.bool false) m) := by
 have hr := fun T => h.old T
 refine ACall.start Try.func83 rfl rfl ?_
 (repeat (first|(with_reducible refine AWo.cons ?_)|((with_reducible refine Step.id ?_);first|((with_reducible apply Step.gdT);exact rfl;exact rfl;((rfl)))|((with_reducible apply Step.move);exact rfl;exact rfl)|((with_reducible apply Step.assign);exact rfl;exact rfl)|((with_reducible apply Step.load);exact rfl;((decide +kernel));exact rfl;((exact hr _)))|((with_reducible apply Step.field0);exact rfl;((decide +kernel));exact rfl)|((with_reducible apply Step.ptrNot);exact rfl;exact rfl;exact un49;exact rfl)|((with_reducible apply Step.not);exact rfl;exact rfl)|((with_reducible apply Step.nilp);exact rfl;exact rfl)|((with_reducible apply Step.pickF);exact rfl;exact rfl;exact rfl;exact rfl;((rfl))))|(with_reducible first|apply AWo.nil|apply AW.seq|apply Then.n|apply AW.regL)))
 (refine AW.retD (l := [(2, _)]) (by repeat (first | exact trivial | (refine And.intro ⟨rfl, by (exact .bool _)⟩ ?_))) ?_; (repeat (first | refine Then.r ?_ | refine InBlk.r ?_)))
 exact ⟨_, rfl, rfl, rfl⟩
def rowH (H : List Int) (k : Nat) : List Int := (H.drop (k * 16)).take 16
theorem rowH_len {H : List Int} {k : Nat} (hH : H.length = 256) (hk : k < 16) : (rowH H k).length = 16 := by
 unfold rowH
 rw [List.length_take, List.length_drop, hH]
 omega
theorem iv_row (H : List Int) (k : Nat) : ((iv H).drop (k * 16)).take 16 = iv (rowH H k) := by
 unfold iv rowH
 rw [List.map_take, List.map_drop]
theorem rowH_get (H : List Int) (k j : Nat) (hj : j < 16) : (rowH H k).getD j 0 = H.getD (k * 16 + j) 0 := by
 unfold rowH
 simp only [List.getD_eq_getElem?_getD, List.getElem?_take, List.getElem?_drop, if_pos hj]
theorem rowH_mem {H : List Int} {k : Nat} (hH : H.length = 256) (hk : k < 16) {y : Int} : y ∈ rowH H k ↔ ∃ j, j < 16 ∧ y = H.getD (k * 16 + j) 0 := by
 constructor
 ·intro h
  obtain ⟨j, hj, rfl⟩ := List.getElem_of_mem h
  have hj' := hj
  rw [rowH_len hH hk] at hj'
  refine ⟨j, hj', ?_⟩
  rw [← rowH_get H k j hj', List.getD_eq_getElem?_getD, List.getElem?_eq_getElem hj]
  rfl
 ·rintro ⟨j, hj, rfl⟩
  rw [← rowH_get H k j hj, List.getD_eq_getElem?_getD, List.getElem?_eq_getElem (by rw [rowH_len hH hk]; exact hj)]
  exact List.getElem_mem _
def shortB (H : List Int) : Bool := (List.range 256).any fun k => decide (16 ≤ k ∧ H.getD k 0 < 0)
theorem shortB_iff {H : List Int} : shortB H = true ↔ ∃ k, k < 256 ∧ 16 ≤ k ∧ H.getD k 0 < 0 := by
 unfold shortB
 simp only [List.any_eq_true, List.mem_range, decide_eq_true_eq]
def farB (H : List Int) : Bool := (List.range 256).any fun k => decide (1000000000 < H.getD k 0 ∨ H.getD k 0 < -1000000000)
theorem farB_iff {H : List Int} : farB H = true ↔ ∃ k, k < 256 ∧ (1000000000 < H.getD k 0 ∨ H.getD k 0 < -1000000000) := by
 unfold farB
 simp only [List.any_eq_true, List.mem_range, decide_eq_true_eq]
theorem short_row {H : List Int} (hH : H.length = 256) : shortB H = true ↔ ∃ k, k < 16 ∧ 0 < k ∧ minF (rowH H k) < 0 := by
 rw [shortB_iff]
 constructor
 ·rintro ⟨q, h1, h2, h3⟩
  refine ⟨q / 16, by omega, by omega, (minF_lt (by rw [rowH_len hH (by omega)]; omega) 0).2 ⟨_, (rowH_mem hH (by omega)).2 ⟨q % 16, by omega, rfl⟩, ?_⟩⟩
  rw [show q / 16 * 16 + q % 16 = q by omega]
  exact h3
 ·rintro ⟨k, h1, h2, h3⟩
  obtain ⟨y, hy, h4⟩ := (minF_lt (by rw [rowH_len hH (by omega)]; omega) 0).1 h3
  obtain ⟨j, hj, rfl⟩ := (rowH_mem hH h1).1 hy
  exact ⟨k * 16 + j, by omega, by omega, h4⟩
theorem far_row {H : List Int} (hH : H.length = 256) : farB H = true ↔ ∃ k, k < 16 ∧ (1000000000 < maxF (rowH H k) ∨ minF (rowH H k) < -1000000000) := by
 rw [farB_iff]
 constructor
 ·rintro ⟨q, h1, h3⟩
  refine ⟨q / 16, by omega, ?_⟩
  have hm : H.getD q 0 ∈ rowH H (q / 16) := (rowH_mem hH (by omega)).2 ⟨q % 16, by omega, by rw [show q / 16 * 16 + q % 16 = q by omega]⟩
  rcases h3 with h3 | h3
  ·exact .inl ((maxF_gt (by rw [rowH_len hH (by omega)]; omega) _).2 ⟨_, hm, h3⟩)
  ·exact .inr ((minF_lt (by rw [rowH_len hH (by omega)]; omega) _).2 ⟨_, hm, h3⟩)
 ·rintro ⟨k, h1, h3⟩
  rcases h3 with h3 | h3
  ·obtain ⟨y, hy, h4⟩ := (maxF_gt (by rw [rowH_len hH (by omega)]; omega) _).1 h3
   obtain ⟨j, hj, rfl⟩ := (rowH_mem hH h1).1 hy
   exact ⟨k * 16 + j, by omega, .inl h4⟩
  ·obtain ⟨y, hy, h4⟩ := (minF_lt (by rw [rowH_len hH (by omega)]; omega) _).1 h3
   obtain ⟨j, hj, rfl⟩ := (rowH_mem hH h1).1 hy
   exact ⟨k * 16 + j, by omega, .inr h4⟩
def chg1 (C : List Int) (n : Int) (x : Tr) : List Int := (C.set (x.f.toNat * 16 + x.i.toNat) n).set (x.t.toNat * 16 + x.i.toNat) n
def chg (C : List Int) (n : Int) (l : List Tr) : List Int := l.foldl (fun C x => chg1 C n x) C
theorem chg_len (n : Int) : ∀ (l : List Tr) (C : List Int), (chg C n l).length = C.length
 | [], _ => rfl
 | x :: l, C => by
  show (chg (chg1 C n x) n l).length = _
  rw [chg_len n l]
  simp [chg1]
def postF (B : Bk) (l : List Tr) : Bk × Int × Int :=
 if postB l = false then (B, 0, 2)
 else if shortB (wth B.H l) = true then (B, 0, 11)
 else if farB (wth B.H l) = true then (B, 0, 5)
 else (⟨wth B.H l, chg B.C ((B.P.length + 1 : Nat) : Int) l, B.P ++ [l]⟩, (B.P.length + 1 : Nat), 0)
set_option maxHeartbeats 8000000 in
set_option maxRecDepth 100000 in
theorem Post_bad {m : AM} {b0 bk : Nat} {B : Bk} {pv v : Value} {l : List Tr} (h : BookAt m b0 bk B pv) (hl : Trs m v l) (hb : Bd B.H 1000000000) (hlen : l.length ≤ 1000000) (hbad : (postF B l).2.2 ≠ 0) :
  ACall Try.prog 28 #[.pointer (some ⟨bk, 0, none⟩), v] m (Ret (.tuple #[.int .i64 0, .int .i64 (postF B l).2.2]) m) := by
 have hnone := fun T => none_ok (m := m ++ T) (bk := bk) (Rd.old T ⟨_, h.cells, bkc_0⟩)
 have hf84 := fun T b e => f84_ok (hl.old T) (by omega) (b := b) e
 obtain ⟨a, o, h1, h2, h3⟩ := id hl
 cases hp : postB l with
 | false =>
  have e : postF B l = (B, 0, 2) := by unfold postF; rw [if_pos hp]
  rw [e]
  refine ACall.start Try.func28 rfl rfl ?_
  by_cases c1 : l.length < 1
  ·(repeat (first|(with_reducible refine AWo.cons ?_)|((with_reducible refine Step.id ?_);first|((with_reducible apply Step.gdF);exact rfl;exact rfl;((first|rfl|(simp only [zq1, zq2, zq3, zq4, zq5, zq6];first|assumption|omega))))|((with_reducible apply Step.move);exact rfl;exact rfl)|((with_reducible apply Step.assign);exact rfl;exact rfl)|((with_reducible apply Step.lss);exact rfl;exact rfl;exact rfl)|((with_reducible apply Step.len);exact rfl;((assumption));((decide +kernel));exact rfl)|((with_reducible apply Step.pickT);exact rfl;exact rfl;exact rfl;exact rfl;((first|rfl|(simp only [zq1, zq2, zq3, zq4, zq5, zq6];first|assumption|omega))))|((with_reducible apply Step.callR fit);exact rfl;exact Try.func83;exact rfl;exact rfl;exact (hnone _)))|(with_reducible first|apply AWo.nil|apply AW.seq|apply Then.n|apply AW.regL|apply AW.block)|((with_reducible apply AW.condT);exact rfl;((rfl)))|((with_reducible apply AW.condF);exact rfl;((rfl)))))
   (refine AW.retD (l := [(4, _), (5, _)]) (by repeat (first | exact trivial | (refine And.intro ⟨rfl, by (exact .int _ _)⟩ ?_))) ?_; (repeat (first | refine Then.r ?_ | refine InBlk.r ?_)))
   exact ⟨_, rfl, rfl, rfl⟩
  ·by_cases c2 : 16 < l.length
   ·(repeat (first|(with_reducible refine AWo.cons ?_)|((with_reducible refine Step.id ?_);first|((with_reducible apply Step.gdT);exact rfl;exact rfl;(((simp only [zq1, zq2, zq3, zq4, zq5, zq6];first|assumption|omega))))|((with_reducible apply Step.gdF);exact rfl;exact rfl;(((simp only [zq1, zq2, zq3, zq4, zq5, zq6];first|assumption|omega))))|((with_reducible apply Step.move);exact rfl;exact rfl)|((with_reducible apply Step.assign);exact rfl;exact rfl)|((with_reducible apply Step.lss);exact rfl;exact rfl;exact rfl)|((with_reducible apply Step.gtr);exact rfl;exact rfl;exact rfl)|((with_reducible apply Step.len);exact rfl;((assumption));((decide +kernel));exact rfl)|((with_reducible apply Step.pickT);exact rfl;exact rfl;exact rfl;exact rfl;(((simp only [zq1, zq2, zq3, zq4, zq5, zq6];first|assumption|omega))))|((with_reducible apply Step.pickF);exact rfl;exact rfl;exact rfl;exact rfl;(((simp only [zq1, zq2, zq3, zq4, zq5, zq6];first|assumption|omega))))|((with_reducible apply Step.callR fit);exact rfl;exact Try.func83;exact rfl;exact rfl;exact (hnone _)))|(with_reducible first|apply AWo.nil|apply AW.seq|apply Then.n|apply AW.regL|apply AW.block)|((with_reducible apply AW.condT);exact rfl;((rfl)))|((with_reducible apply AW.condF);exact rfl;((rfl)))))
    (refine AW.retD (l := [(4, _), (5, _)]) (by repeat (first | exact trivial | (refine And.intro ⟨rfl, by (exact .int _ _)⟩ ?_))) ?_; (repeat (first | refine Then.r ?_ | refine InBlk.r ?_)))
    exact ⟨_, rfl, rfl, rfl⟩
   ·have hall : (!l.all okT) = true := by
     simp only [postB, Bool.and_eq_false_iff, decide_eq_false_iff_not] at hp
     rcases hp with (hp | hp) | hp
     ·omega
     ·omega
     ·rw [hp]; rfl
    (repeat (first|(with_reducible refine AWo.cons ?_)|((with_reducible refine Step.id ?_);first|((with_reducible apply Step.gdT);exact rfl;exact rfl;(((simp only [zq1, zq2, zq3, zq4, zq5, zq6];first|assumption|omega))))|((with_reducible apply Step.move);exact rfl;exact rfl)|((with_reducible apply Step.assign);exact rfl;exact rfl)|((with_reducible apply Step.lss);exact rfl;exact rfl;exact rfl)|((with_reducible apply Step.gtr);exact rfl;exact rfl;exact rfl)|((with_reducible apply Step.len);exact rfl;((assumption));((decide +kernel));exact rfl)|((with_reducible apply Step.pickF);exact rfl;exact rfl;exact rfl;exact rfl;(((simp only [zq1, zq2, zq3, zq4, zq5, zq6];first|assumption|omega))))|((with_reducible apply Step.callR fit);exact rfl;exact Try.func83;exact rfl;exact rfl;exact (hnone _))|((with_reducible apply Step.callR fit);exact rfl;exact Try.func84;exact rfl;exact rfl;exact (hf84 _ _ hall)))|(with_reducible first|apply AWo.nil|apply AW.seq|apply Then.n|apply AW.regL|apply AW.block)|((with_reducible apply AW.condT);exact rfl;((rfl)))|((with_reducible apply AW.condF);exact rfl;((rfl)))))
    (refine AW.retD (l := [(4, _), (5, _)]) (by repeat (first | exact trivial | (refine And.intro ⟨rfl, by (exact .int _ _)⟩ ?_))) ?_; (repeat (first | refine Then.r ?_ | refine InBlk.r ?_)))
    exact ⟨_, rfl, rfl, rfl⟩
 | true =>
  simp only [postB, Bool.and_eq_true, decide_eq_true_eq] at hp
  obtain ⟨⟨p1, p2⟩, p3⟩ := hp
  have hall : (!l.all okT) = false := by rw [p3]; rfl
  have hw := fun T => with_ok (hl.old T) (by omega) p3 h.lH hb (by omega)
  have hH' : (wth B.H l).length = 256 := by rw [wth_len]; exact h.lH
  have hrd : ∀ T, RdL (m ++ T) bk 1 (iv B.H) := fun T => RdL.old T ⟨_, h.cells, fun j x hj => by
   have hj1 := (List.getElem?_eq_some_iff.1 hj).1
   rw [iv_len] at hj1
   rw [iv_get hj1] at hj
   rw [bkc_H hj1]
   exact hj⟩
  have hpb : postB l = true := by simp [postB, p3]; omega
  have hlH := h.lH
  have hbl := h.lt
  generalize hWg : wth B.H l = W at *
  refine ACall.start Try.func28 rfl rfl ?_
  (repeat (first|(with_reducible refine AWo.cons ?_)|((with_reducible refine Step.id ?_);first|((with_reducible apply Step.gdT);exact rfl;exact rfl;(((simp only [zq1, zq2, zq3, zq4, zq5, zq6];first|assumption|omega))))|((with_reducible apply Step.move);exact rfl;exact rfl)|((with_reducible apply Step.assign);exact rfl;exact rfl)|((with_reducible apply Step.field (k := 1));exact rfl;((decide +kernel));exact rfl)|((with_reducible apply Step.lss);exact rfl;exact rfl;exact rfl)|((with_reducible apply Step.gtr);exact rfl;exact rfl;exact rfl)|((with_reducible apply Step.len);exact rfl;((assumption));((decide +kernel));exact rfl)|((with_reducible apply Step.nilp);exact rfl;exact rfl)|((with_reducible apply Step.pickF);exact rfl;exact rfl;exact rfl;exact rfl;(((simp only [zq1, zq2, zq3, zq4, zq5, zq6];first|assumption|omega))))|((with_reducible apply Step.callR fit);exact rfl;exact Try.func83;exact rfl;exact rfl;exact (hnone _))|((with_reducible apply Step.callR fit);exact rfl;exact Try.func84;exact rfl;exact rfl;exact (hf84 _ _ hall)))|(with_reducible first|apply AWo.nil|apply AW.seq|apply Then.n|apply AW.regL|apply AW.block|apply InBlk.n|apply AW.skip)|((with_reducible apply AW.condF);exact rfl;((rfl)))))
  ((with_reducible apply Step.loadL (n := 256));exact rfl;exact ag130;exact sz130;exact rfl;exact (hrd _);((rw [iv_len, hlH]));exact rfl)
  (repeat (first|(with_reducible refine AWo.cons ?_)|((with_reducible refine Step.id ?_);first|((with_reducible apply Step.move);exact rfl;exact rfl)|((with_reducible apply Step.callR fit);exact rfl;exact Try.func87;exact rfl;exact rfl;exact (hw _))|((with_reducible apply Step.alloc 0);exact rfl;exact ze130;exact rfl;((first|(simp only [zq7, zq8, zq9, zq0, iv_set, bv_set, iv_rep, bv_rep] <;> rfl)|rfl))))))
  ((with_reducible apply Step.storeA (k := 0) (n := 256));exact rfl;exact rfl;exact rfl;exact rfl;exact sz130;((show (iv _).toArray.size = _;rw [List.size_toArray, iv_len, hH']));exact (iv_cells _);exact rfl;((first|(simp only [zq7, zq8, zq9, zq0, iv_set, bv_set, iv_rep, bv_rep] <;> rfl)|rfl)))
  (repeat (first|(with_reducible refine AWo.cons ?_)|(with_reducible first|apply AWo.nil|apply AW.seq|apply Then.n|apply AW.regL)))
  ((with_reducible apply Step.loadL (n := 256) (c := iv W));exact rfl;exact ag130;exact sz130;exact rfl;exact (RdL.new rfl rfl);((rw [iv_len, hH']));exact rfl)
  (repeat (first|(with_reducible refine AWo.cons ?_)|((with_reducible refine Step.id ?_);((with_reducible apply Step.move);exact rfl;exact rfl))|(with_reducible first|apply AWo.nil|apply Then.n|apply AW.block)))
  refine AW.loopT (fun n t L => ∃ k : Nat, n = 16 - k ∧ k ≤ 16 ∧ (∀ j, j < k → 0 < j → ¬ minF (rowH W j) < 0) ∧ L = [some { cells := iv W }] ∧
   t = [(0, .pointer (some ⟨bk, 0, none⟩)), (1, v), (6, .pointer (some ⟨m.length + 0, 0, none⟩)), (35, .agg (iv W).toArray), (36, .int .i64 (k : Nat))]) ⟨_, _, _, (Or.inl ⟨rfl, (by repeat (first | exact trivial | (refine And.intro rfl ?_)))⟩), 0, rfl, Nat.zero_le _, by omega, rfl, rfl⟩ ?_
  ·rintro n t L ⟨k, rfl, hk, hz, rfl, rfl⟩
   rcases Nat.lt_or_ge k 16 with hlt | hge
   ·have hrl := rowH_len hH' hlt
    have hmin := fun T (w : Value) (hw : Ints (m ++ T) w (rowH W k)) => Min_ok hw (by omega) (by omega)
    (repeat (first|(with_reducible refine AWo.cons ?_)|((with_reducible refine Step.id ?_);first|((with_reducible apply Step.move);exact rfl;exact rfl)|((with_reducible apply Step.lss);exact rfl;exact rfl;exact rfl))|(with_reducible first|apply AWo.nil|apply AW.seq|apply Then.n|apply AW.regL|apply AW.block|apply AW.skip)|((with_reducible apply AW.condT);exact rfl;(((simp only [zq1, zq2, zq3, zq4, zq5, zq6];first|assumption|omega))))))
    ((with_reducible apply Step.indexW (s := 16));exact rfl;exact rfl;exact un130;exact sz128;exact ag128;((omega));exact (iv_row W k);exact rfl)
    (repeat (first|(with_reducible refine AWo.cons ?_)|((with_reducible refine Step.id ?_);first|((with_reducible apply Step.assign);exact rfl;exact rfl)|((with_reducible apply Step.alloc 1);exact rfl;exact ze128;exact rfl;((first|(simp only [zq7, zq8, zq9, zq0, iv_set, bv_set, iv_rep, bv_rep] <;> rfl)|rfl))))))
    ((with_reducible apply Step.storeA (k := 1) (n := 16));exact rfl;exact rfl;exact rfl;exact rfl;exact sz128;((show (iv _).toArray.size = _;rw [List.size_toArray, iv_len, hrl]));exact (iv_cells _);exact rfl;((first|(simp only [zq7, zq8, zq9, zq0, iv_set, bv_set, iv_rep, bv_rep] <;> rfl)|rfl)))
    by_cases c0 : 0 < k
    ·by_cases c1 : minF (rowH W k) < 0
     ·have hsh : shortB W = true := (short_row hH').2 ⟨k, hlt, c0, c1⟩
      have e : postF B l = (B, 0, 11) := by unfold postF; rw [if_neg (by rw [hpb]; simp), hWg, if_pos hsh]
      rw [e]
      (repeat (first|(with_reducible refine AWo.cons ?_)|((with_reducible refine Step.id ?_);first|((with_reducible apply Step.gdT);exact rfl;exact rfl;(((simp only [zq1, zq2, zq3, zq4, zq5, zq6];first|assumption|omega))))|((with_reducible apply Step.move);exact rfl;exact rfl)|((with_reducible apply Step.assign);exact rfl;exact rfl)|((with_reducible apply Step.arr);exact rfl;((first|assumption|exact OwnAt.new rfl rfl));exact un128;exact sz3;exact rfl;exact rfl;((first|(simp only [zq7, zq8, zq9, zq0, iv_set, bv_set, iv_rep, bv_rep] <;> rfl)|rfl)))|((with_reducible apply Step.lss);exact rfl;exact rfl;exact rfl)|((with_reducible apply Step.gtr);exact rfl;exact rfl;exact rfl)|((with_reducible apply Step.pickT);exact rfl;exact rfl;exact rfl;exact rfl;(((simp only [zq1, zq2, zq3, zq4, zq5, zq6];first|assumption|omega))))|((with_reducible apply Step.callR fit);exact rfl;exact Try.func88;exact rfl;exact rfl;exact (hmin _ _ (ints_new (k := 1) rfl rfl 16 hrl.symm))))|(with_reducible first|apply AWo.nil|apply AW.seq|apply Then.n|apply AW.regL)|((with_reducible apply AW.condT);exact rfl;(((simp only [zq1, zq2, zq3, zq4, zq5, zq6];first|assumption|omega))))))
      (refine AW.retD (l := [(4, _), (5, _)]) (by repeat (first | exact trivial | (refine And.intro ⟨rfl, by (exact .int _ _)⟩ ?_))) ?_; (repeat (first | refine Then.r ?_ | refine InBlk.r ?_)))
      exact ⟨_, rfl, rfl, rfl⟩
     ·(repeat (first|(with_reducible refine AWo.cons ?_)|((with_reducible refine Step.id ?_);first|((with_reducible apply Step.gdT);exact rfl;exact rfl;(((simp only [zq1, zq2, zq3, zq4, zq5, zq6];first|assumption|omega))))|((with_reducible apply Step.move);exact rfl;exact rfl)|((with_reducible apply Step.arr);exact rfl;((first|assumption|exact OwnAt.new rfl rfl));exact un128;exact sz3;exact rfl;exact rfl;((first|(simp only [zq7, zq8, zq9, zq0, iv_set, bv_set, iv_rep, bv_rep] <;> rfl)|rfl)))|((with_reducible apply Step.add);exact rfl;exact rfl;((omega));exact rfl)|((with_reducible apply Step.lss);exact rfl;exact rfl;exact rfl)|((with_reducible apply Step.gtr);exact rfl;exact rfl;exact rfl)|((with_reducible apply Step.pickT);exact rfl;exact rfl;exact rfl;exact rfl;(((simp only [zq1, zq2, zq3, zq4, zq5, zq6];first|assumption|omega))))|((with_reducible apply Step.callR fit);exact rfl;exact Try.func88;exact rfl;exact rfl;exact (hmin _ _ (ints_new (k := 1) rfl rfl 16 hrl.symm))))|(with_reducible first|apply AWo.nil|apply AW.seq|apply Then.n|apply AW.regL|apply InBlk.n|apply AW.skip)|((with_reducible apply AW.condF);exact rfl;(((simp only [zq1, zq2, zq3, zq4, zq5, zq6];first|assumption|omega))))))
      exact ⟨_, _, _, by omega, (Back.trim rfl rfl (by repeat (first | exact CellsOk.nil | refine CellsOk.cons (by exact g0_iv _) ?_)) (by repeat (first | exact trivial | (refine And.intro ⟨rfl, by (first | exact .int _ _ | exact .ptr _ _ (by first | (simp; done) | omega | (simp; omega)) | exact Ren.of_sl (by assumption) (by first | omega | (simp; omega)) | exact Ren.aggI _)⟩ ?_)))), k + 1, rfl, by omega, by intro j h1 h2; rcases Nat.lt_succ_iff_lt_or_eq.1 h1 with h | h; exact hz j h h2; rw [h]; exact c1, rfl, rfl⟩
    ·(repeat (first|(with_reducible refine AWo.cons ?_)|((with_reducible refine Step.id ?_);first|((with_reducible apply Step.gdF);exact rfl;exact rfl;(((simp only [zq1, zq2, zq3, zq4, zq5, zq6];first|assumption|omega))))|((with_reducible apply Step.move);exact rfl;exact rfl)|((with_reducible apply Step.add);exact rfl;exact rfl;((omega));exact rfl)|((with_reducible apply Step.gtr);exact rfl;exact rfl;exact rfl)|((with_reducible apply Step.pickF);exact rfl;exact rfl;exact rfl;exact rfl;(((simp only [zq1, zq2, zq3, zq4, zq5, zq6];first|assumption|omega)))))|(with_reducible first|apply AWo.nil|apply AW.seq|apply Then.n|apply AW.regL|apply InBlk.n|apply AW.skip)|((with_reducible apply AW.condF);exact rfl;((rfl)))))
     exact ⟨_, _, _, by omega, (Back.trim rfl rfl (by repeat (first | exact CellsOk.nil | refine CellsOk.cons (by exact g0_iv _) ?_)) (by repeat (first | exact trivial | (refine And.intro ⟨rfl, by (first | exact .int _ _ | exact .ptr _ _ (by first | (simp; done) | omega | (simp; omega)) | exact Ren.of_sl (by assumption) (by first | omega | (simp; omega)) | exact Ren.aggI _)⟩ ?_)))), k + 1, rfl, by omega, by intro j h1 h2; omega, rfl, rfl⟩
   ·obtain rfl : k = 16 := by omega
    have hns : shortB W = false := by
     cases hs : shortB W with
     | false => rfl
     | true => obtain ⟨k, k1, k2, k3⟩ := (short_row hH').1 hs; exact absurd k3 (hz k k1 k2)
    have e5 : postF B l = (B, 0, 5) ∧ farB W = true := by
     cases hf : farB W with
     | true => exact ⟨by unfold postF; rw [if_neg (by rw [hpb]; simp), hWg, if_neg (by rw [hns]; simp), if_pos hf], rfl⟩
     | false => exact absurd (by unfold postF; rw [if_neg (by rw [hpb]; simp), hWg, if_neg (by rw [hns]; simp), if_neg (by rw [hf]; simp)]) hbad
    clear hz
    rw [e5.1]
    (repeat (first|(with_reducible refine AWo.cons ?_)|((with_reducible refine Step.id ?_);((with_reducible apply Step.lss);exact rfl;exact rfl;exact rfl))|(with_reducible first|apply AWo.nil|apply AW.seq|apply Then.n|apply AW.regL|apply AW.exit|apply InBlk.hit|apply Then.e)|((with_reducible apply AW.condF);exact rfl;((rfl)))))
    ((with_reducible apply Step.loadL (n := 256) (c := iv W));exact rfl;exact ag130;exact sz130;exact rfl;exact (RdL.new rfl rfl);((rw [iv_len, hH']));exact rfl)
    (repeat (first|(with_reducible refine AWo.cons ?_)|((with_reducible refine Step.id ?_);((with_reducible apply Step.move);exact rfl;exact rfl))|(with_reducible first|apply AWo.nil|apply Then.n|apply AW.block)))
    refine AW.loopT (fun n t L => ∃ k : Nat, n = 16 - k ∧ k ≤ 16 ∧ (∀ j, j < k → ¬ (1000000000 < maxF (rowH W j) ∨ minF (rowH W j) < -1000000000)) ∧ L = [some { cells := iv W }] ∧
     t = [(0, .pointer (some ⟨bk, 0, none⟩)), (1, v), (6, .pointer (some ⟨m.length + 0, 0, none⟩)), (48, .agg (iv W).toArray), (49, .int .i64 (k : Nat))]) ⟨_, _, _, (Or.inl ⟨rfl, (by repeat (first | exact trivial | (refine And.intro rfl ?_)))⟩), 0, rfl, Nat.zero_le _, by omega, rfl, rfl⟩ ?_
    rintro n t L ⟨k, rfl, hk, hz, rfl, rfl⟩
    rcases Nat.lt_or_ge k 16 with hlt | hge
    ·have hrl := rowH_len hH' hlt
     have hmin := fun T (w : Value) (hw : Ints (m ++ T) w (rowH W k)) => Min_ok hw (by omega) (by omega)
     have hmax := fun T (w : Value) (hw : Ints (m ++ T) w (rowH W k)) => Max_ok hw (by omega) (by omega)
     (repeat (first|(with_reducible refine AWo.cons ?_)|((with_reducible refine Step.id ?_);((with_reducible apply Step.lss);exact rfl;exact rfl;exact rfl))|(with_reducible first|apply AWo.nil|apply AW.seq|apply Then.n|apply AW.regL|apply AW.block|apply AW.skip)|((with_reducible apply AW.condT);exact rfl;(((simp only [zq1, zq2, zq3, zq4, zq5, zq6];first|assumption|omega))))))
     ((with_reducible apply Step.indexW (s := 16));exact rfl;exact rfl;exact un130;exact sz128;exact ag128;((omega));exact (iv_row W k);exact rfl)
     (repeat (first|(with_reducible refine AWo.cons ?_)|((with_reducible refine Step.id ?_);((with_reducible apply Step.alloc 1);exact rfl;exact ze128;exact rfl;((first|(simp only [zq7, zq8, zq9, zq0, iv_set, bv_set, iv_rep, bv_rep] <;> rfl)|rfl))))))
     ((with_reducible apply Step.storeA (k := 1) (n := 16));exact rfl;exact rfl;exact rfl;exact rfl;exact sz128;((show (iv _).toArray.size = _;rw [List.size_toArray, iv_len, hrl]));exact (iv_cells _);exact rfl;((first|(simp only [zq7, zq8, zq9, zq0, iv_set, bv_set, iv_rep, bv_rep] <;> rfl)|rfl)))
     by_cases c0 : 1000000000 < maxF (rowH W k)
     ·(repeat (first|(with_reducible refine AWo.cons ?_)|((with_reducible refine Step.id ?_);first|((with_reducible apply Step.gdF);exact rfl;exact rfl;(((simp only [zq1, zq2, zq3, zq4, zq5, zq6];first|assumption|omega))))|((with_reducible apply Step.move);exact rfl;exact rfl)|((with_reducible apply Step.assign);exact rfl;exact rfl)|((with_reducible apply Step.arr);exact rfl;((first|assumption|exact OwnAt.new rfl rfl));exact un128;exact sz3;exact rfl;exact rfl;((first|(simp only [zq7, zq8, zq9, zq0, iv_set, bv_set, iv_rep, bv_rep] <;> rfl)|rfl)))|((with_reducible apply Step.gtr);exact rfl;exact rfl;exact rfl)|((with_reducible apply Step.pickT);exact rfl;exact rfl;exact rfl;exact rfl;(((simp only [zq1, zq2, zq3, zq4, zq5, zq6];first|assumption|omega))))|((with_reducible apply Step.callR fit);exact rfl;exact Try.func89;exact rfl;exact rfl;exact (hmax _ _ (ints_new (k := 1) rfl rfl 16 hrl.symm))))|(with_reducible first|apply AWo.nil|apply AW.seq|apply Then.n|apply AW.regL)|((with_reducible apply AW.condT);exact rfl;((rfl)))))
      (refine AW.retD (l := [(4, _), (5, _)]) (by repeat (first | exact trivial | (refine And.intro ⟨rfl, by (exact .int _ _)⟩ ?_))) ?_; (repeat (first | refine Then.r ?_ | refine InBlk.r ?_)))
      exact ⟨_, rfl, rfl, rfl⟩
     ·by_cases c1 : minF (rowH W k) < -1000000000
      ·(repeat (first|(with_reducible refine AWo.cons ?_)|((with_reducible refine Step.id ?_);first|((with_reducible apply Step.gdT);exact rfl;exact rfl;(((simp only [zq1, zq2, zq3, zq4, zq5, zq6];first|assumption|omega))))|((with_reducible apply Step.move);exact rfl;exact rfl)|((with_reducible apply Step.assign);exact rfl;exact rfl)|((with_reducible apply Step.arr);exact rfl;((first|assumption|exact OwnAt.new rfl rfl));exact un128;exact sz3;exact rfl;exact rfl;((first|(simp only [zq7, zq8, zq9, zq0, iv_set, bv_set, iv_rep, bv_rep] <;> rfl)|rfl)))|((with_reducible apply Step.lss);exact rfl;exact rfl;exact rfl)|((with_reducible apply Step.gtr);exact rfl;exact rfl;exact rfl)|((with_reducible apply Step.pickF);exact rfl;exact rfl;exact rfl;exact rfl;(((simp only [zq1, zq2, zq3, zq4, zq5, zq6];first|assumption|omega))))|((with_reducible apply Step.callR fit);exact rfl;exact Try.func89;exact rfl;exact rfl;exact (hmax _ _ (ints_new (k := 1) rfl rfl 16 hrl.symm)))|((with_reducible apply Step.callR fit);exact rfl;exact Try.func88;exact rfl;exact rfl;exact (hmin _ _ (ints_new (k := 1) rfl rfl 16 hrl.symm))))|(with_reducible first|apply AWo.nil|apply AW.seq|apply Then.n|apply AW.regL)|((with_reducible apply AW.condT);exact rfl;(((simp only [zq1, zq2, zq3, zq4, zq5, zq6];first|assumption|omega))))))
       (refine AW.retD (l := [(4, _), (5, _)]) (by repeat (first | exact trivial | (refine And.intro ⟨rfl, by (exact .int _ _)⟩ ?_))) ?_; (repeat (first | refine Then.r ?_ | refine InBlk.r ?_)))
       exact ⟨_, rfl, rfl, rfl⟩
      ·(repeat (first|(with_reducible refine AWo.cons ?_)|((with_reducible refine Step.id ?_);first|((with_reducible apply Step.gdT);exact rfl;exact rfl;(((simp only [zq1, zq2, zq3, zq4, zq5, zq6];first|assumption|omega))))|((with_reducible apply Step.move);exact rfl;exact rfl)|((with_reducible apply Step.arr);exact rfl;((first|assumption|exact OwnAt.new rfl rfl));exact un128;exact sz3;exact rfl;exact rfl;((first|(simp only [zq7, zq8, zq9, zq0, iv_set, bv_set, iv_rep, bv_rep] <;> rfl)|rfl)))|((with_reducible apply Step.add);exact rfl;exact rfl;((omega));exact rfl)|((with_reducible apply Step.lss);exact rfl;exact rfl;exact rfl)|((with_reducible apply Step.gtr);exact rfl;exact rfl;exact rfl)|((with_reducible apply Step.pickF);exact rfl;exact rfl;exact rfl;exact rfl;(((simp only [zq1, zq2, zq3, zq4, zq5, zq6];first|assumption|omega))))|((with_reducible apply Step.callR fit);exact rfl;exact Try.func89;exact rfl;exact rfl;exact (hmax _ _ (ints_new (k := 1) rfl rfl 16 hrl.symm)))|((with_reducible apply Step.callR fit);exact rfl;exact Try.func88;exact rfl;exact rfl;exact (hmin _ _ (ints_new (k := 1) rfl rfl 16 hrl.symm))))|(with_reducible first|apply AWo.nil|apply AW.seq|apply Then.n|apply AW.regL|apply InBlk.n|apply AW.skip)|((with_reducible apply AW.condF);exact rfl;(((simp only [zq1, zq2, zq3, zq4, zq5, zq6];first|assumption|omega))))))
       exact ⟨_, _, _, by omega, (Back.trim rfl rfl (by repeat (first | exact CellsOk.nil | refine CellsOk.cons (by exact g0_iv _) ?_)) (by repeat (first | exact trivial | (refine And.intro ⟨rfl, by (first | exact .int _ _ | exact .ptr _ _ (by first | (simp; done) | omega | (simp; omega)) | exact Ren.of_sl (by assumption) (by first | omega | (simp; omega)) | exact Ren.aggI _)⟩ ?_)))), k + 1, rfl, by omega, by intro j h1; rcases Nat.lt_succ_iff_lt_or_eq.1 h1 with h | h; exact hz j h; rw [h]; omega, rfl, rfl⟩
    ·exfalso
     obtain ⟨k', k1, k2⟩ := (far_row hH').1 e5.2
     exact hz k' (by omega) k2
theorem chg_snoc (C : List Int) (n : Int) (l : List Tr) (x : Tr) : chg C n (l ++ [x]) = chg1 (chg C n l) n x := by simp [chg]
theorem Row.set {M : AM} {b0 s : Nat} {u : Value} {c : List Value} {n j : Nat} {b : Option Blk} (h : Row M b0 s u c n) (hj : NotOf u j) : Row (M.set j b) b0 s u c n := by
 rcases h with h | ⟨a, kd, sz, h1, h2, h3, h4⟩
 ·exact .inl h
 ·refine .inr ⟨a, kd, sz, h1, h2, ?_, h4⟩
  rw [List.getElem?_set_ne]
  ·exact h3
  ·rintro rfl
   exact hj _ _ h2
theorem Row.keep {M M' : AM} {b0 s : Nat} {u : Value} {c : List Value} {n : Nat} (h : Row M b0 s u c n) (hk : ∀ j, j < M.length → ¬ NotOf u j → M'[j]? = M[j]?) : Row M' b0 s u c n := by
 rcases h with h | ⟨a, kd, sz, h1, h2, h3, h4⟩
 ·exact .inl h
 ·exact .inr ⟨a, kd, sz, h1, h2, by rw [hk a (List.getElem?_eq_some_iff.1 h3).1 (fun e => e _ _ h2)]; exact h3, h4⟩
theorem Row.pos {M : AM} {b0 s : Nat} {u : Value} {c : List Value} {n : Nat} (h : Row M b0 s u c n) (hn : 0 < n) : ∃ a kd sz, b0 ≤ a ∧ a < M.length ∧ u = .slice (some ⟨a, 0, none⟩) n n ∧ M[a]? = some (some { cells := c, kind := kd, size := sz }) := by
 rcases h with ⟨_, _, h0⟩ | ⟨a1, kd1, sz1, q1, q2, q3, q4, q5⟩
 ·omega
 ·exact ⟨a1, kd1, sz1, q1, (List.getElem?_eq_some_iff.1 q3).1, q2, q3⟩
theorem Row.pos2 {M : AM} {b0 s : Nat} {u : Value} {c : List Value} {n : Nat} (h : Row M b0 s u c n) (hn : 0 < n) : ∃ a kd sz, b0 ≤ a ∧ a < M.length ∧ u = .slice (some ⟨a, 0, none⟩) n n ∧ M[a]? = some (some { cells := c, kind := kd, size := sz }) ∧ kd.mine = true := by
 rcases h with ⟨_, _, h⟩ | ⟨a, kd, sz, h1, h2, h3, _, h5⟩
 ·omega
 ·exact ⟨a, kd, sz, h1, (List.getElem?_eq_some_iff.1 h3).1, h2, h3, by rcases h5 with rfl | ⟨rfl, _⟩ <;> rfl⟩
theorem Row.far {M : AM} {b0 s : Nat} {u : Value} {c : List Value} {n j : Nat} (h : Row M b0 s u c n) (hj : M.length ≤ j) : NotOf u j := by
 intro n' c' e
 rcases h with ⟨h, _⟩ | ⟨a, kd, sz, h1, h2, h3, _⟩
 ·rw [e] at h; cases h
 ·rw [e] at h2
  simp only [Value.slice.injEq, Option.some.injEq, Addr.mk.injEq] at h2
  have := (List.getElem?_eq_some_iff.1 h3).1
  omega
theorem BookAt.notbk {M : AM} {b0 bk : Nat} {B : Bk} {pv : Value} (h : BookAt M b0 bk B pv) : NotOf pv bk := by
 intro n c e
 obtain ⟨pc, hrow, hps⟩ := h.row
 rcases hrow with ⟨h0, _⟩ | ⟨a', kd, sz, k1, k2, k3, k4, k5⟩
 ·rw [e] at h0; cases h0
 ·rw [k2] at e
  simp only [Value.slice.injEq, Option.some.injEq, Addr.mk.injEq] at e
  obtain ⟨rfl, _⟩ := e.1
  rw [h.cells] at k3
  injection k3 with k3; injection k3 with k3
  injection k3 with k3 _ _
  subst k3
  by_cases hp : 0 < B.P.length
  ·obtain ⟨u, q1, a'', _, _, q4, _⟩ := hps 0 hp
   rw [bkc_0] at q1
   injection q1 with q1
   rw [q4] at q1
   cases q1
  ·rw [bkc_len h.lH h.lC] at k4
   omega
theorem BookAt.upd {m M : AM} {b0 bk : Nat} {B : Bk} {pv : Value} {H C : List Int} (h : BookAt m b0 bk B pv) (hH : H.length = 256) (hC : C.length = 256) (hc : M[bk]? = some (some { cells := bkc H C pv })) (hl : m.length ≤ M.length) (hk : ∀ j, j < m.length → j ≠ bk → M[j]? = m[j]?) : BookAt M b0 bk ⟨H, C, B.P⟩ pv := by
 have hn := h.notbk
 have hsep := fun a x (hr : Rd m a 0 (.int .i64 x)) => h.sep hr
 obtain ⟨h1, h2, h3, h4, pc, h5, h6⟩ := h
 refine ⟨h1, hc, hH, hC, pc, h5.keep fun j hj hnj => hk j hj (fun e => hnj (e ▸ hn)), fun k hkl => ?_⟩
 obtain ⟨u, k1, k2⟩ := h6 k hkl
 exact ⟨u, k1, k2.keep hl fun a ha hr => hk a ha (hsep a _ hr).1⟩
theorem el131 : elemB Try.prog 131 = some (55, 1, 24, #[.slice none 0 0]) := by kernel_rfl
theorem un131 : Try.prog.underlying 131 = some (.slice 55) := by kernel_rfl
theorem bs131 {m : AM} {k a n : Nat} : abuildSlice Try.prog m k 131 1 [(0, .slice (some ⟨a, 0, none⟩) n n)] = some (.slice (some ⟨k, 0, none⟩) 1 1, m.set k (some { cells := [.slice (some ⟨a, 0, none⟩) n n] })) := by kernel_rfl
theorem Rd.setl {M L : AM} {bk k o : Nat} {b : Option Blk} {blk : Blk} {v : Value} (hb : bk < M.length) (h : L[k]? = some (some blk)) (hc : blk.cells[o]? = some v) : Rd (List.set (M ++ L) bk b) (M.length + k) o v :=
 ⟨blk, by rw [List.getElem?_set_ne (by omega), get_app]; exact h, hc⟩
theorem BookAt.push {X M2 M' : AM} {b0 bk : Nat} {W C : List Int} {P : List (List Tr)} {pv u' : Value} {pc : List Value} {l : List Tr} {a1 sz1 : Nat} {kd1 : Kind} (hB : BookAt X b0 bk ⟨W, C, P⟩ pv) (hM : ∃ N, M2 = X ++ N) (hrow : Row X b0 1 pv pc P.length)
  (hps : ∀ k, k < P.length → ∃ u, pc[k]? = some u ∧ PostAt X b0 u (P.getD k [])) (hr : Row M' b0 1 u' (pc ++ [.slice (some ⟨a1, 0, none⟩) l.length l.length]) (P.length + 1)) (hml : M2.length ≤ M'.length) (hk : ∀ j, j < M2.length → NotOf pv j → M'[j]? = M2[j]?)
  (hk2 : ∀ j, j < M2.length → NotOf pv j → NotOf u' j) (e1 : X.length ≤ a1) (e4 : M2[a1]? = some (some { cells := tcs l, kind := kd1, size := sz1 })) (hl0 : 0 < l.length) (hkm : kd1.mine = true) :
  ∃ u, BookAt (M'.set bk (some { cells := (bkc W C pv).set 513 u' })) b0 bk ⟨W, C, P ++ [l]⟩ u ∧ X.length ≤ (M'.set bk (some { cells := (bkc W C pv).set 513 u' })).length ∧ (∀ j, j < X.length → j ≠ bk → NotOf pv j → (M'.set bk (some { cells := (bkc W C pv).set 513 u' }))[j]? = X[j]?) ∧ (∀ j, j < X.length → NotOf pv j → NotOf u j) := by
 have hH := hB.lH
 have hC := hB.lC
 have hnb := hB.notbk
 have hbl := hB.lt
 obtain ⟨N, rfl⟩ := hM
 rw [List.length_append] at hml hk hk2
 have hM'b : M'[bk]? = some (some { cells := bkc W C pv }) := by
  rw [hk bk (by omega) hnb, List.getElem?_append_left hbl]; exact hB.cells
 have hnbu : NotOf u' bk := hk2 bk (by omega) hnb
 have ha1l := (List.getElem?_eq_some_iff.1 e4).1
 rw [List.length_append] at ha1l
 have hM'a : M'[a1]? = some (some { cells := tcs l, kind := kd1, size := sz1 }) := by rw [hk a1 ha1l (hrow.far e1)]; exact e4
 have keepX : ∀ j, j < X.length → j ≠ bk → NotOf pv j → (M'.set bk (some { cells := (bkc W C pv).set 513 u' }))[j]? = X[j]? := fun j hj hne hn => by
  rw [List.getElem?_set_ne (Ne.symm hne), hk j (by omega) hn, List.getElem?_append_left hj]
 refine ⟨u', ⟨hB.lo, ?_, hH, hC, pc ++ [.slice (some ⟨a1, 0, none⟩) l.length l.length], ?_, ?_⟩, by rw [List.length_set]; omega, keepX, fun j hj hn => hk2 j (by omega) hn⟩
 ·rw [set_hit hM'b, bkc_setP hH hC]
 ·rw [List.length_append]
  exact hr.set hnbu
 ·intro k hkl
  rw [List.length_append, List.length_singleton] at hkl
  have hpcl : pc.length = P.length := by rw [hrow.len, Nat.mul_one]
  rcases Nat.lt_or_ge k P.length with h1 | h1
  ·obtain ⟨u, q1, q2⟩ := hps k h1
   refine ⟨u, by rw [List.getElem?_append_left (by omega)]; exact q1, ?_⟩
   have : (P ++ [l]).getD k [] = P.getD k [] := by
    simp only [List.getD_eq_getElem?_getD]; rw [List.getElem?_append_left h1]
   rw [this]
   refine q2.keep (by rw [List.length_set]; omega) fun a ha hrd => ?_
   have hs := hB.sep hrd
   exact keepX a ha hs.1 (hs.2 (show 0 < P.length by omega))
  ·obtain rfl : k = P.length := by omega
   refine ⟨.slice (some ⟨a1, 0, none⟩) l.length l.length, by rw [List.getElem?_append_right (by omega), hpcl]; simp, ?_⟩
   have : (P ++ [l]).getD P.length [] = l := by simp
   rw [this]
   have hlo := hB.lo
   refine ⟨a1, by omega, by rw [List.length_set]; omega, rfl, ⟨_, by rw [List.getElem?_set_ne (by omega)]; exact hM'a, hkm, fun j v hj => by simpa using hj⟩, hl0⟩
set_option maxHeartbeats 16000000 in
set_option maxRecDepth 100000 in
theorem Post_good {m : AM} {b0 bk : Nat} {B : Bk} {pv v : Value} {l : List Tr} (h : BookAt m b0 bk B pv) (hl : ∀ M, Fr m M bk pv → Trs M v l) (hb : Bd B.H 1000000000) (hlen : B.P.length ≤ 1000000) (hgood : (postF B l).2.2 = 0) :
  ACall Try.prog 28 #[.pointer (some ⟨bk, 0, none⟩), v] m (fun r M => ∃ u, r = .tuple #[.int .i64 (B.P.length + 1 : Nat), .int .i64 0] ∧ BookAt M b0 bk (postF B l).1 u ∧ Fr m M bk pv ∧ ∀ j, j < m.length → NotOf pv j → NotOf u j) := by
 have hnone := fun T => none_ok (m := m ++ T) (bk := bk) (Rd.old T ⟨_, h.cells, bkc_0⟩)
 have hlm := hl m (Fr.refl _ _ _)
 have hf84 := fun T b (hle : l.length ≤ 9223372036854775807) e => f84_ok (hlm.old T) hle (b := b) e
 obtain ⟨a, o, h1, h2, h3⟩ := id hlm
 cases hp : postB l with
 | false => exact absurd hgood (by unfold postF; rw [if_pos hp]; simp)
 | true =>
  simp only [postB, Bool.and_eq_true, decide_eq_true_eq] at hp
  obtain ⟨⟨p1, p2⟩, p3⟩ := hp
  have hall : (!l.all okT) = false := by rw [p3]; rfl
  have hw := fun T => with_ok (hlm.old T) (by omega) p3 h.lH hb (by omega)
  have hH' : (wth B.H l).length = 256 := by rw [wth_len]; exact h.lH
  have hrd : ∀ T, RdL (m ++ T) bk 1 (iv B.H) := fun T => RdL.old T ⟨_, h.cells, fun j x hj => by
   have hj1 := (List.getElem?_eq_some_iff.1 hj).1
   rw [iv_len] at hj1
   rw [iv_get hj1] at hj
   rw [bkc_H hj1]
   exact hj⟩
  have hpb : postB l = true := by simp [postB, p3]; omega
  have hlH := h.lH
  have hlC := h.lC
  have hbl := h.lt
  have hns : shortB (wth B.H l) = false := by
   cases hs : shortB (wth B.H l) with
   | false => rfl
   | true => exact absurd hgood (by unfold postF; rw [if_neg (by rw [hpb]; simp), if_pos hs]; simp)
  have hnf : farB (wth B.H l) = false := by
   cases hs : farB (wth B.H l) with
   | false => rfl
   | true => exact absurd hgood (by unfold postF; rw [if_neg (by rw [hpb]; simp), if_neg (by rw [hns]; simp), if_pos hs]; simp)
  have epost : (postF B l).1 = ⟨wth B.H l, chg B.C ((B.P.length + 1 : Nat) : Int) l, B.P ++ [l]⟩ := by unfold postF; rw [if_neg (by rw [hpb]; simp), if_neg (by rw [hns]; simp), if_neg (by rw [hnf]; simp)]
  rw [epost]
  generalize wth B.H l = W at *
  clear epost hgood
  refine ACall.start Try.func28 rfl rfl ?_
  (repeat (first|(with_reducible refine AWo.cons ?_)|((with_reducible refine Step.id ?_);first|((with_reducible apply Step.gdT);exact rfl;exact rfl;(((simp only [zq1, zq2, zq3, zq4, zq5, zq6];first|assumption|omega))))|((with_reducible apply Step.move);exact rfl;exact rfl)|((with_reducible apply Step.assign);exact rfl;exact rfl)|((with_reducible apply Step.field (k := 1));exact rfl;((decide +kernel));exact rfl)|((with_reducible apply Step.lss);exact rfl;exact rfl;exact rfl)|((with_reducible apply Step.gtr);exact rfl;exact rfl;exact rfl)|((with_reducible apply Step.len);exact rfl;((assumption));((decide +kernel));exact rfl)|((with_reducible apply Step.nilp);exact rfl;exact rfl)|((with_reducible apply Step.pickF);exact rfl;exact rfl;exact rfl;exact rfl;(((simp only [zq1, zq2, zq3, zq4, zq5, zq6];first|assumption|omega))))|((with_reducible apply Step.callR fit);exact rfl;exact Try.func83;exact rfl;exact rfl;exact (hnone _))|((with_reducible apply Step.callR fit);exact rfl;exact Try.func84;exact rfl;exact rfl;exact (hf84 _ _ (by omega) hall)))|(with_reducible first|apply AWo.nil|apply AW.seq|apply Then.n|apply AW.regL|apply AW.block|apply InBlk.n|apply AW.skip)|((with_reducible apply AW.condF);exact rfl;((rfl)))))
  ((with_reducible apply Step.loadL (n := 256));exact rfl;exact ag130;exact sz130;exact rfl;exact (hrd _);((rw [iv_len, hlH]));exact rfl)
  (repeat (first|(with_reducible refine AWo.cons ?_)|((with_reducible refine Step.id ?_);first|((with_reducible apply Step.move);exact rfl;exact rfl)|((with_reducible apply Step.callR fit);exact rfl;exact Try.func87;exact rfl;exact rfl;exact (hw _))|((with_reducible apply Step.alloc 0);exact rfl;exact ze130;exact rfl;((first|(simp only [zq7, zq8, zq9, zq0, iv_set, bv_set, iv_rep, bv_rep] <;> rfl)|rfl))))))
  ((with_reducible apply Step.storeA (k := 0) (n := 256));exact rfl;exact rfl;exact rfl;exact rfl;exact sz130;((show (iv _).toArray.size = _;rw [List.size_toArray, iv_len, hH']));exact (iv_cells _);exact rfl;((first|(simp only [zq7, zq8, zq9, zq0, iv_set, bv_set, iv_rep, bv_rep] <;> rfl)|rfl)))
  (repeat (first|(with_reducible refine AWo.cons ?_)|(with_reducible first|apply AWo.nil|apply AW.seq|apply Then.n|apply AW.regL)))
  ((with_reducible apply Step.loadL (n := 256) (c := iv W));exact rfl;exact ag130;exact sz130;exact rfl;exact (RdL.new rfl rfl);((rw [iv_len, hH']));exact rfl)
  (repeat (first|(with_reducible refine AWo.cons ?_)|((with_reducible refine Step.id ?_);((with_reducible apply Step.move);exact rfl;exact rfl))|(with_reducible first|apply AWo.nil|apply Then.n|apply AW.block)))
  refine AW.loopT (fun n t L => ∃ k : Nat, n = 16 - k ∧ k ≤ 16 ∧ L = [some { cells := iv W }] ∧
   t = [(0, .pointer (some ⟨bk, 0, none⟩)), (1, v), (6, .pointer (some ⟨m.length + 0, 0, none⟩)), (35, .agg (iv W).toArray), (36, .int .i64 (k : Nat))]) ⟨_, _, _, (Or.inl ⟨rfl, (by repeat (first | exact trivial | (refine And.intro rfl ?_)))⟩), 0, rfl, Nat.zero_le _, rfl, rfl⟩ ?_
  rintro n t L ⟨k, rfl, hk, rfl, rfl⟩
  rcases Nat.lt_or_ge k 16 with hlt | hge
  ·have hrl := rowH_len hH' hlt
   have hmin := fun T (w : Value) (hw : Ints (m ++ T) w (rowH W k)) => Min_ok hw (by omega) (by omega)
   have c1 : 0 < k → ¬ minF (rowH W k) < 0 := fun c0 c1 => by rw [(short_row hH').2 ⟨k, hlt, c0, c1⟩] at hns; cases hns
   (repeat (first|(with_reducible refine AWo.cons ?_)|((with_reducible refine Step.id ?_);first|((with_reducible apply Step.move);exact rfl;exact rfl)|((with_reducible apply Step.lss);exact rfl;exact rfl;exact rfl))|(with_reducible first|apply AWo.nil|apply AW.seq|apply Then.n|apply AW.regL|apply AW.block|apply AW.skip)|((with_reducible apply AW.condT);exact rfl;(((simp only [zq1, zq2, zq3, zq4, zq5, zq6];first|assumption|omega))))))
   ((with_reducible apply Step.indexW (s := 16));exact rfl;exact rfl;exact un130;exact sz128;exact ag128;((omega));exact (iv_row W k);exact rfl)
   (repeat (first|(with_reducible refine AWo.cons ?_)|((with_reducible refine Step.id ?_);first|((with_reducible apply Step.assign);exact rfl;exact rfl)|((with_reducible apply Step.alloc 1);exact rfl;exact ze128;exact rfl;((first|(simp only [zq7, zq8, zq9, zq0, iv_set, bv_set, iv_rep, bv_rep] <;> rfl)|rfl))))))
   ((with_reducible apply Step.storeA (k := 1) (n := 16));exact rfl;exact rfl;exact rfl;exact rfl;exact sz128;((show (iv _).toArray.size = _;rw [List.size_toArray, iv_len, hrl]));exact (iv_cells _);exact rfl;((first|(simp only [zq7, zq8, zq9, zq0, iv_set, bv_set, iv_rep, bv_rep] <;> rfl)|rfl)))
   by_cases c0 : 0 < k
   ·have c1 := c1 c0
    (repeat (first|(with_reducible refine AWo.cons ?_)|((with_reducible refine Step.id ?_);first|((with_reducible apply Step.gdT);exact rfl;exact rfl;(((simp only [zq1, zq2, zq3, zq4, zq5, zq6];first|assumption|omega))))|((with_reducible apply Step.move);exact rfl;exact rfl)|((with_reducible apply Step.arr);exact rfl;((first|assumption|exact OwnAt.new rfl rfl));exact un128;exact sz3;exact rfl;exact rfl;((first|(simp only [zq7, zq8, zq9, zq0, iv_set, bv_set, iv_rep, bv_rep] <;> rfl)|rfl)))|((with_reducible apply Step.add);exact rfl;exact rfl;((omega));exact rfl)|((with_reducible apply Step.lss);exact rfl;exact rfl;exact rfl)|((with_reducible apply Step.gtr);exact rfl;exact rfl;exact rfl)|((with_reducible apply Step.pickT);exact rfl;exact rfl;exact rfl;exact rfl;(((simp only [zq1, zq2, zq3, zq4, zq5, zq6];first|assumption|omega))))|((with_reducible apply Step.callR fit);exact rfl;exact Try.func88;exact rfl;exact rfl;exact (hmin _ _ (ints_new (k := 1) rfl rfl 16 hrl.symm))))|(with_reducible first|apply AWo.nil|apply AW.seq|apply Then.n|apply AW.regL|apply InBlk.n|apply AW.skip)|((with_reducible apply AW.condF);exact rfl;(((simp only [zq1, zq2, zq3, zq4, zq5, zq6];first|assumption|omega))))))
    exact ⟨_, _, _, by omega, (Back.trim rfl rfl (by repeat (first | exact CellsOk.nil | refine CellsOk.cons (by exact g0_iv _) ?_)) (by repeat (first | exact trivial | (refine And.intro ⟨rfl, by (first | exact .int _ _ | exact .ptr _ _ (by first | (simp; done) | omega | (simp; omega)) | exact Ren.of_sl (by assumption) (by first | omega | (simp; omega)) | exact Ren.aggI _)⟩ ?_)))), k + 1, rfl, by omega, rfl, rfl⟩
   ·(repeat (first|(with_reducible refine AWo.cons ?_)|((with_reducible refine Step.id ?_);first|((with_reducible apply Step.gdF);exact rfl;exact rfl;(((simp only [zq1, zq2, zq3, zq4, zq5, zq6];first|assumption|omega))))|((with_reducible apply Step.move);exact rfl;exact rfl)|((with_reducible apply Step.add);exact rfl;exact rfl;((omega));exact rfl)|((with_reducible apply Step.gtr);exact rfl;exact rfl;exact rfl)|((with_reducible apply Step.pickF);exact rfl;exact rfl;exact rfl;exact rfl;(((simp only [zq1, zq2, zq3, zq4, zq5, zq6];first|assumption|omega)))))|(with_reducible first|apply AWo.nil|apply AW.seq|apply Then.n|apply AW.regL|apply InBlk.n|apply AW.skip)|((with_reducible apply AW.condF);exact rfl;((rfl)))))
    exact ⟨_, _, _, by omega, (Back.trim rfl rfl (by repeat (first | exact CellsOk.nil | refine CellsOk.cons (by exact g0_iv _) ?_)) (by repeat (first | exact trivial | (refine And.intro ⟨rfl, by (first | exact .int _ _ | exact .ptr _ _ (by first | (simp; done) | omega | (simp; omega)) | exact Ren.of_sl (by assumption) (by first | omega | (simp; omega)) | exact Ren.aggI _)⟩ ?_)))), k + 1, rfl, by omega, rfl, rfl⟩
  obtain rfl : k = 16 := by omega
  (repeat (first|(with_reducible refine AWo.cons ?_)|((with_reducible refine Step.id ?_);((with_reducible apply Step.lss);exact rfl;exact rfl;exact rfl))|(with_reducible first|apply AWo.nil|apply AW.seq|apply Then.n|apply AW.regL|apply AW.exit|apply InBlk.hit|apply Then.e)|((with_reducible apply AW.condF);exact rfl;((rfl)))))
  ((with_reducible apply Step.loadL (n := 256) (c := iv W));exact rfl;exact ag130;exact sz130;exact rfl;exact (RdL.new rfl rfl);((rw [iv_len, hH']));exact rfl)
  (repeat (first|(with_reducible refine AWo.cons ?_)|((with_reducible refine Step.id ?_);((with_reducible apply Step.move);exact rfl;exact rfl))|(with_reducible first|apply AWo.nil|apply Then.n|apply AW.block)))
  refine AW.loopT (fun n t L => ∃ k : Nat, n = 16 - k ∧ k ≤ 16 ∧ L = [some { cells := iv W }] ∧
   t = [(0, .pointer (some ⟨bk, 0, none⟩)), (1, v), (6, .pointer (some ⟨m.length + 0, 0, none⟩)), (48, .agg (iv W).toArray), (49, .int .i64 (k : Nat))]) ⟨_, _, _, (Or.inl ⟨rfl, (by repeat (first | exact trivial | (refine And.intro rfl ?_)))⟩), 0, rfl, Nat.zero_le _, rfl, rfl⟩ ?_
  rintro n t L ⟨k, rfl, hk, rfl, rfl⟩
  rcases Nat.lt_or_ge k 16 with hlt | hge
  ·have hrl := rowH_len hH' hlt
   have hmin := fun T (w : Value) (hw : Ints (m ++ T) w (rowH W k)) => Min_ok hw (by omega) (by omega)
   have hmax := fun T (w : Value) (hw : Ints (m ++ T) w (rowH W k)) => Max_ok hw (by omega) (by omega)
   have c01 : ¬ (1000000000 < maxF (rowH W k) ∨ minF (rowH W k) < -1000000000) := fun c => by rw [(far_row hH').2 ⟨k, hlt, c⟩] at hnf; cases hnf
   have c0 : ¬ 1000000000 < maxF (rowH W k) := fun e => c01 (.inl e)
   have c1 : ¬ minF (rowH W k) < -1000000000 := fun e => c01 (.inr e)
   (repeat (first|(with_reducible refine AWo.cons ?_)|((with_reducible refine Step.id ?_);((with_reducible apply Step.lss);exact rfl;exact rfl;exact rfl))|(with_reducible first|apply AWo.nil|apply AW.seq|apply Then.n|apply AW.regL|apply AW.block|apply AW.skip)|((with_reducible apply AW.condT);exact rfl;(((simp only [zq1, zq2, zq3, zq4, zq5, zq6];first|assumption|omega))))))
   ((with_reducible apply Step.indexW (s := 16));exact rfl;exact rfl;exact un130;exact sz128;exact ag128;((omega));exact (iv_row W k);exact rfl)
   (repeat (first|(with_reducible refine AWo.cons ?_)|((with_reducible refine Step.id ?_);((with_reducible apply Step.alloc 1);exact rfl;exact ze128;exact rfl;((first|(simp only [zq7, zq8, zq9, zq0, iv_set, bv_set, iv_rep, bv_rep] <;> rfl)|rfl))))))
   ((with_reducible apply Step.storeA (k := 1) (n := 16));exact rfl;exact rfl;exact rfl;exact rfl;exact sz128;((show (iv _).toArray.size = _;rw [List.size_toArray, iv_len, hrl]));exact (iv_cells _);exact rfl;((first|(simp only [zq7, zq8, zq9, zq0, iv_set, bv_set, iv_rep, bv_rep] <;> rfl)|rfl)))
   (repeat (first|(with_reducible refine AWo.cons ?_)|((with_reducible refine Step.id ?_);first|((with_reducible apply Step.gdT);exact rfl;exact rfl;(((simp only [zq1, zq2, zq3, zq4, zq5, zq6];first|assumption|omega))))|((with_reducible apply Step.move);exact rfl;exact rfl)|((with_reducible apply Step.arr);exact rfl;((first|assumption|exact OwnAt.new rfl rfl));exact un128;exact sz3;exact rfl;exact rfl;((first|(simp only [zq7, zq8, zq9, zq0, iv_set, bv_set, iv_rep, bv_rep] <;> rfl)|rfl)))|((with_reducible apply Step.add);exact rfl;exact rfl;((omega));exact rfl)|((with_reducible apply Step.lss);exact rfl;exact rfl;exact rfl)|((with_reducible apply Step.gtr);exact rfl;exact rfl;exact rfl)|((with_reducible apply Step.pickF);exact rfl;exact rfl;exact rfl;exact rfl;(((simp only [zq1, zq2, zq3, zq4, zq5, zq6];first|assumption|omega))))|((with_reducible apply Step.callR fit);exact rfl;exact Try.func89;exact rfl;exact rfl;exact (hmax _ _ (ints_new (k := 1) rfl rfl 16 hrl.symm)))|((with_reducible apply Step.callR fit);exact rfl;exact Try.func88;exact rfl;exact rfl;exact (hmin _ _ (ints_new (k := 1) rfl rfl 16 hrl.symm))))|(with_reducible first|apply AWo.nil|apply AW.seq|apply Then.n|apply AW.regL|apply InBlk.n|apply AW.skip)|((with_reducible apply AW.condF);exact rfl;(((simp only [zq1, zq2, zq3, zq4, zq5, zq6];first|assumption|omega))))))
   exact ⟨_, _, _, by omega, (Back.trim rfl rfl (by repeat (first | exact CellsOk.nil | refine CellsOk.cons (by exact g0_iv _) ?_)) (by repeat (first | exact trivial | (refine And.intro ⟨rfl, by (first | exact .int _ _ | exact .ptr _ _ (by first | (simp; done) | omega | (simp; omega)) | exact Ren.of_sl (by assumption) (by first | omega | (simp; omega)) | exact Ren.aggI _)⟩ ?_)))), k + 1, rfl, by omega, rfl, rfl⟩
  obtain rfl : k = 16 := by omega
  clear hw hf84 hnone hrd
  (repeat (first|(with_reducible refine AWo.cons ?_)|((with_reducible refine Step.id ?_);first|((with_reducible apply Step.move);exact rfl;exact rfl)|((with_reducible apply Step.lss);exact rfl;exact rfl;exact rfl))|(with_reducible first|apply AWo.nil|apply AW.seq|apply Then.n|apply AW.regL|apply AW.exit|apply InBlk.hit|apply Then.e)|((with_reducible apply AW.condF);exact rfl;((rfl)))))
  ((with_reducible apply Step.loadL (n := 256) (c := iv W));exact rfl;exact ag130;exact sz130;exact rfl;exact (RdL.new rfl rfl);((rw [iv_len, hH']));exact rfl)
  (repeat (first|(with_reducible refine AWo.cons ?_)|((with_reducible refine Step.id ?_);first|((with_reducible apply Step.field (k := 1));exact rfl;((decide +kernel));exact rfl)|((with_reducible apply Step.nilp);exact rfl;exact rfl))))
  ((with_reducible apply Step.storeL);exact rfl;exact rfl;exact (get_old _ h.cells);exact rfl;exact sz130;((rw [iv_len, hH']));exact (iv_all1 _);((rw [bkc_len hlH hlC];omega)))
  rw [bkc_setH hlH hH']
  (repeat (first|(with_reducible first|apply AWo.nil|apply Then.n)))
  obtain ⟨X, hX⟩ : ∃ X : AM, X = List.set (m ++ ([some { cells := iv W }] : AM)) bk (some { cells := bkc W B.C pv }) := ⟨_, rfl⟩
  rw [← hX]
  have hXl : X.length = m.length + 1 := by rw [hX]; simp
  have hXb : X[bk]? = some (some { cells := bkc W B.C pv }) := by rw [hX]; exact set_hit (get_old _ h.cells)
  have hXk : ∀ j, j < m.length → j ≠ bk → X[j]? = m[j]? := fun j hj hne => by rw [hX, List.getElem?_set_ne (Ne.symm hne), List.getElem?_append_left hj]
  have hBX := h.upd hH' hlC hXb (by omega) hXk
  have hlX := hl X ⟨by omega, fun j hj hne _ => hXk j hj hne⟩
  clear hX
  refine AW.rebase ?_
  refine AW.seq ?_
  refine AW.join (fun t' M' => ∃ u, BookAt M' b0 bk ⟨W, B.C, B.P ++ [l]⟩ u ∧ X.length ≤ M'.length ∧ (∀ j, j < X.length → j ≠ bk → NotOf pv j → M'[j]? = X[j]?) ∧ (∀ j, j < X.length → NotOf pv j → NotOf u j) ∧
   All (fun i v => t' i = some v) [(0, .pointer (some ⟨bk, 0, none⟩)), (1, v)]) ?_ ?_
  ·obtain ⟨pc, hrow, hps⟩ := hBX.row
   have hnbX := hBX.notbk
   have rp : Rd X bk 513 pv := ⟨_, hXb, bkc_P hH' hlC⟩
   have hC := fun T => Clone_ok (hlX.old T) (by omega) (by omega)
   (repeat' (first|((with_reducible refine Step.id ?_);first|((with_reducible apply Step.move);exact rfl;exact rfl)|((with_reducible apply Step.load);exact rfl;((decide +kernel));exact rfl;((exact Rd.old _ (by assumption))))|((with_reducible apply Step.field (k := 513));exact rfl;((decide +kernel));exact rfl)|((with_reducible apply Step.nilp);exact rfl;exact rfl))|((with_reducible apply AW.drawT fit (T := (.step 0 (.step 1 (.step 2 (.step 3 (.step 5 (.both (.step 4 (.step 6 (.step 7 (.step 8 (.step 9 (.step 10 (.step 11 .done))))))) (.step 6 (.both (.step 4 (.step 7 (.step 8 (.step 9 (.step 10 (.step 11 .done)))))) (.step 7 (.step 4 (.step 8 (.step 9 (.step 10 (.step 11 .done))))))))))))))));((decide +kernel)))|((with_reducible apply AWt.step);exact rfl)|refine AWt.both ?_ ?_))
   all_goals ((with_reducible apply Step.callX fit);exact rfl;exact Try.func90;exact rfl;exact rfl;exact (hC _))
   all_goals rintro uc M1 ⟨N1, hN1⟩ hrc
   all_goals have hM1 : ∃ N, M1 = X ++ N := by rw [hN1, List.append_assoc]; exact ⟨_, rfl⟩
   all_goals have rp1 : ∀ T, Rd (M1 ++ T) bk 513 pv := fun T => by obtain ⟨N, rfl⟩ := hM1; exact (rp.old N).old T
   all_goals obtain ⟨a1, kd1, sz1, e1, e2, rfl, e4, hkm⟩ := hrc.pos2 (by omega)
   all_goals have e1' : X.length ≤ a1 := by rw [List.length_append] at e1; omega
   all_goals (repeat' (first|((with_reducible refine Step.id ?_);first|((with_reducible apply Step.load);exact rfl;((decide +kernel));exact rfl;((exact rp1 _)))|((with_reducible apply Step.buildS 0);exact rfl;exact rfl;exact (fun _ _ => bs131);exact rfl;((first|(simp only [zq7, zq8, zq9, zq0, iv_set, bv_set, iv_rep, bv_rep] <;> rfl)|rfl))))|((with_reducible apply AWt.step);exact rfl)|refine AWt.both ?_ ?_))
   all_goals ((with_reducible apply Step.appRow2 (n := B.P.length) (xl := 1) (b0 := b0) (new := [.slice (some ⟨a1, 0, none⟩) l.length l.length]));exact rfl;exact rfl;exact ((show Row M1 b0 1 pv pc B.P.length by obtain ⟨N, rfl⟩ := hM1;exact hrow.old N).old _);exact (Sl.mk (Nat.le_refl _));exact (fun _ => RdL.new rfl rfl);exact el131;exact un131;exact rfl;exact rfl;exact rfl;((omega));exact rfl;((have := hBX.lo;obtain ⟨N, rfl⟩ := hM1;simp only [List.length_append];omega)))
   all_goals intro u' M' hr hml hk hk2
   all_goals obtain ⟨a9, kd9, sz9, _, _, rfl, _⟩ := hr.pos (by omega)
   all_goals have hpush := BookAt.push hBX (by obtain ⟨N, rfl⟩ := hM1; rw [List.append_assoc]; exact ⟨_, rfl⟩) hrow hps hr hml hk hk2 e1' (get_old _ e4) (by omega) hkm
   all_goals have hM'b : M'[bk]? = some (some { cells := bkc W B.C pv }) := by rw [hk bk (by obtain ⟨N, rfl⟩ := hM1; simp only [List.length_append]; omega) hnbX]; obtain ⟨N, rfl⟩ := hM1; exact get_old _ (get_old _ hXb)
   all_goals (repeat' (first|((with_reducible refine Step.id ?_);first|((with_reducible apply Step.field (k := 513));exact rfl;((decide +kernel));exact rfl)|((with_reducible apply Step.nilp);exact rfl;exact rfl)|((with_reducible apply Step.storeAt);exact rfl;exact rfl;((first|assumption|exact get_old _ (by assumption)|exact set_hit (get_old _ (by assumption))|exact set_hit (by assumption)));exact sz3;exact rfl;(focus ((try simp only [List.length_set]);first|omega|(rw [bkc_len (by assumption) (by assumption)];omega)|(simp;done)|(simp;omega)));exact rfl;exact rfl))|(with_reducible apply Then.n)|((with_reducible apply AWt.step);exact rfl)|(with_reducible apply AWt.done)))
   all_goals obtain ⟨u, w1, w2, w3, w4⟩ := hpush
   all_goals exact ⟨u, w1, w2, w3, w4, (by repeat (first | exact trivial | (refine And.intro rfl ?_)))⟩
  ·rintro t' M2 ⟨u, hB2, hM2l, hM2k, hu2, hsl⟩
   refine AW.weak (fr_all hsl) ?_
   clear hsl
   have hF2 : Fr m M2 bk pv := ⟨by omega, fun j hj hne hn => by rw [hM2k j (by omega) hne hn, hXk j hj hne]⟩
   have hlB : ∀ M, M2.length ≤ M.length → (∀ j, j < M2.length → j ≠ bk → M[j]? = M2[j]?) → Trs M v l := fun M h1 h2 => hl M ⟨by omega, fun j hj hne hn => by rw [h2 j (by omega) hne]; exact hF2.2 j hj hne hn⟩
   refine AW.rebase ?_
   have hl2 := hlB M2 (Nat.le_refl _) fun _ _ _ => rfl
   obtain ⟨a2, o2, s1, s2, s3⟩ := id hl2
   (repeat (first|(with_reducible refine AWo.cons ?_)|((with_reducible refine Step.id ?_);first|((with_reducible apply Step.move);exact rfl;exact rfl)|((with_reducible apply Step.len);exact rfl;((assumption));((decide +kernel));exact rfl))|(with_reducible first|apply AWo.nil|apply AW.seq|apply Then.n|apply AW.regL|apply AW.block)))
   refine AW.loopW (fun n t M => ∃ k : Nat, n = l.length - k ∧ k ≤ l.length ∧ BookAt M b0 bk ⟨W, chg B.C ((B.P.length + 1 : Nat) : Int) (l.take k), B.P ++ [l]⟩ u ∧ M2.length ≤ M.length ∧ (∀ j, j < M2.length → j ≠ bk → M[j]? = M2[j]?) ∧
    t = fr [(0, .pointer (some ⟨bk, 0, none⟩)), (76, v), (77, .int .i64 (l.length : Nat)), (78, .int .i64 (k : Nat))]) ⟨_, _, (by repeat (first | exact trivial | (refine And.intro rfl ?_))), 0, rfl, Nat.zero_le _, by rw [List.append_nil]; exact hB2, by rw [List.append_nil]; exact Nat.le_refl _, fun _ _ _ => by rw [List.append_nil], rfl⟩ ?_
   rintro n t M ⟨k, rfl, hk, hBM, hMl, hMk, rfl⟩
   have hBl := hBM.lt
   have rp : Rd M bk 513 u := ⟨_, hBM.cells, bkc_P hBM.lH hBM.lC⟩
   obtain ⟨ar, q1, q2, q3⟩ : ∃ ar, Sl u ar 0 (B.P.length + 1) ∧ True ∧ True := by
    obtain ⟨pc, hrow, _⟩ := hBM.row
    obtain ⟨ar, q1, _⟩ := hrow.sl (by omega)
    exact ⟨ar, by simpa using q1, trivial, trivial⟩
   rcases Nat.lt_or_ge k l.length with hlt | hge
   ·have htr := hlB M hMl hMk
    obtain ⟨a3, o3, s4, s5, s6⟩ := htr
    obtain ⟨c3, hc3, hv3⟩ : ∃ c, l.length ≤ c ∧ v = .slice (some ⟨a3, o3, none⟩) l.length c := by
     rcases s4 with ⟨_, e⟩ | e | ⟨e, _⟩
     ·omega
     ·exact e
     ·omega
    subst hv3
    have hr := s6 k hlt
    have ts := take_snocT l k hlt
    have hmem : l.getD k default ∈ l := by rw [List.getD_eq_getElem?_getD, List.getElem?_eq_getElem hlt]; exact List.getElem_mem hlt
    have hx := List.all_eq_true.1 p3 _ hmem
    have hw := chg_snoc B.C ((B.P.length + 1 : Nat) : Int) (l.take k) (l.getD k default)
    rw [← ts] at hw
    have hlw : (chg B.C ((B.P.length + 1 : Nat) : Int) (l.take k)).length = 256 := by rw [chg_len]; exact hlC
    generalize l.getD k default = x at hr hx hw
    generalize chg B.C ((B.P.length + 1 : Nat) : Int) (l.take k) = C' at *
    obtain ⟨xi, xf, xt, xn⟩ := x
    simp only [Tr.c] at hr
    simp only [okT, decide_eq_true_eq] at hx
    obtain ⟨x1, x2, x3, x4, x5, x6, x7, x8, x9⟩ := hx
    obtain ⟨i, rfl⟩ := Int.eq_ofNat_of_zero_le x1
    obtain ⟨f, rfl⟩ := Int.eq_ofNat_of_zero_le x3
    obtain ⟨t, rfl⟩ := Int.eq_ofNat_of_zero_le x5
    have hcl := hBM.cells
    simp only at hcl
    have hfin : ∀ T : AM, BookAt (List.set (List.set (M ++ T) bk (some { cells := (bkc W C' u).set (0 + 257 + f * 16 + i) (.int .i64 (B.P.length + 1 : Nat)) })) bk (some { cells := ((bkc W C' u).set (0 + 257 + f * 16 + i) (.int .i64 (B.P.length + 1 : Nat))).set (0 + 257 + t * 16 + i) (.int .i64 (B.P.length + 1 : Nat)) })) b0 bk ⟨W, chg1 C' ((B.P.length + 1 : Nat) : Int) ⟨i, f, t, xn⟩, B.P ++ [l]⟩ u ∧
      M2.length ≤ (List.set (List.set (M ++ T) bk (some { cells := (bkc W C' u).set (0 + 257 + f * 16 + i) (.int .i64 (B.P.length + 1 : Nat)) })) bk (some { cells := ((bkc W C' u).set (0 + 257 + f * 16 + i) (.int .i64 (B.P.length + 1 : Nat))).set (0 + 257 + t * 16 + i) (.int .i64 (B.P.length + 1 : Nat)) })).length ∧
      (∀ j, j < M2.length → j ≠ bk → (List.set (List.set (M ++ T) bk (some { cells := (bkc W C' u).set (0 + 257 + f * 16 + i) (.int .i64 (B.P.length + 1 : Nat)) })) bk (some { cells := ((bkc W C' u).set (0 + 257 + f * 16 + i) (.int .i64 (B.P.length + 1 : Nat))).set (0 + 257 + t * 16 + i) (.int .i64 (B.P.length + 1 : Nat)) }))[j]? = M2[j]?) := fun T => by
     have hkeep : ∀ j, j < M.length → j ≠ bk → (List.set (List.set (M ++ T) bk (some { cells := (bkc W C' u).set (0 + 257 + f * 16 + i) (.int .i64 (B.P.length + 1 : Nat)) })) bk (some { cells := ((bkc W C' u).set (0 + 257 + f * 16 + i) (.int .i64 (B.P.length + 1 : Nat))).set (0 + 257 + t * 16 + i) (.int .i64 (B.P.length + 1 : Nat)) }))[j]? = M[j]? := fun j hj hne => by
      rw [List.getElem?_set_ne (Ne.symm hne), List.getElem?_set_ne (Ne.symm hne), List.getElem?_append_left hj]
     refine ⟨?_, by simp only [List.length_set, List.length_append]; omega, fun j hj hne => by rw [hkeep j (by omega) hne, hMk j hj hne]⟩
     refine hBM.upd (H := W) (C := chg1 C' ((B.P.length + 1 : Nat) : Int) ⟨i, f, t, xn⟩) hH' (by simp [chg1, hlw]) ?_ (by simp only [List.length_set, List.length_append]; omega) hkeep
     rw [set_hit (set_hit (get_old _ hcl))]
     rw [show 0 + 257 + f * 16 + i = 257 + (f * 16 + i) by omega, show 0 + 257 + t * 16 + i = 257 + (t * 16 + i) by omega, bkc_setC hH' (by omega), bkc_setC hH' (by rw [List.length_set]; omega)]
     rfl
    refine AW.rebase ?_
    (repeat' (first|(with_reducible refine AWo.cons ?_)|((with_reducible refine Step.id ?_);first|((with_reducible apply Step.move);exact rfl;exact rfl)|((with_reducible apply Step.load);exact rfl;((decide +kernel));exact rfl;((first|exact Rd.setl hBl rfl rfl|exact Rd.new rfl rfl|exact Rd.old _ (by assumption))))|((with_reducible apply Step.loadL (n := 4));exact rfl;((decide +kernel));((decide +kernel));exact rfl;((exact RdL.old _ (by assumption)));exact rfl;exact rfl)|((with_reducible apply Step.ix (s := 4));exact rfl;((assumption));exact rfl;((decide +kernel));exact rfl;((omega)))|((with_reducible apply Step.field0);exact rfl;((decide +kernel));exact rfl)|((with_reducible apply Step.field (k := 1));exact rfl;((decide +kernel));exact rfl)|((with_reducible apply Step.field (k := 2));exact rfl;((decide +kernel));exact rfl)|((with_reducible apply Step.field (k := 257));exact rfl;((decide +kernel));exact rfl)|((with_reducible apply Step.field (k := 513));exact rfl;((decide +kernel));exact rfl)|((with_reducible apply Step.ixA (s := 16) (n := 16));exact rfl;exact rfl;exact ar130;exact rfl;((omega)))|((with_reducible apply Step.ixC (n := 16));exact rfl;exact rfl;exact ar128;exact rfl;((omega)))|((with_reducible apply Step.add);exact rfl;exact rfl;((omega));exact rfl)|((with_reducible apply Step.lss);exact rfl;exact rfl;exact rfl)|((with_reducible apply Step.len);exact rfl;((assumption));((decide +kernel));exact rfl)|((with_reducible apply Step.nilp);exact rfl;exact rfl)|((with_reducible apply Step.alloc 0);exact rfl;exact ze63;exact rfl;((first|(simp only [zq7, zq8, zq9, zq0, iv_set, bv_set, iv_rep, bv_rep] <;> rfl)|rfl)))|((with_reducible apply Step.storeA (k := 0) (n := 4));exact rfl;exact rfl;exact rfl;exact rfl;((decide +kernel));exact rfl;((kernel_rfl));exact rfl;((first|(simp only [zq7, zq8, zq9, zq0, iv_set, bv_set, iv_rep, bv_rep] <;> rfl)|rfl)))|((with_reducible apply Step.storeAt);exact rfl;exact rfl;((first|assumption|exact get_old _ (by assumption)|exact set_hit (get_old _ (by assumption))|exact set_hit (by assumption)));exact sz3;exact rfl;(focus ((try simp only [List.length_set]);first|omega|(rw [bkc_len (by assumption) (by assumption)];omega)|(simp;done)|(simp;omega)));exact rfl;exact rfl))|(with_reducible first|apply AWo.nil|apply AW.seq|apply Then.n|apply AW.regL|apply AW.block)|((with_reducible apply AW.drawT fit (T := (.step 0 (.step 1 (.step 2 (.step 3 (.step 4 (.step 5 (.step 6 (.step 8 (.step 10 (.step 11 (.step 12 (.step 13 (.step 14 (.step 15 (.step 16 (.step 17 (.step 18 (.step 19 (.step 20 (.step 21 (.step 22 (.step 23 (.step 25 (.step 26 (.both (.step 7 (.step 27 (.both (.step 9 (.step 24 (.step 28 (.step 29 .done)))) (.step 24 (.step 9 (.step 28 (.step 29 .done))))))) (.both (.step 9 (.both (.step 7 (.step 27 (.step 24 (.step 28 (.step 29 .done))))) (.step 24 (.step 7 (.step 27 (.step 28 (.step 29 .done))))))) (.step 24 (.step 7 (.step 9 (.step 27 (.step 28 (.step 29 .done))))))))))))))))))))))))))))))))));((decide +kernel)))|((with_reducible apply AWt.step);exact rfl)|(with_reducible first|apply AWt.done|apply InBlk.n|apply AW.skip)|((with_reducible apply AW.condT);exact rfl;(((simp only [zq1, zq2, zq3, zq4, zq5, zq6];first|assumption|omega))))|refine AWt.both ?_ ?_))
    all_goals obtain ⟨g1, g2, g3⟩ := hfin _
    all_goals exact ⟨_, [(0, .pointer (some ⟨bk, 0, none⟩)), (76, .slice (some ⟨a3, o3, none⟩) l.length c3), (77, .int .i64 (l.length : Nat)), (78, .int .i64 (k + 1 : Nat))], by omega, (by repeat (first | exact trivial | (refine And.intro rfl ?_))), k + 1, rfl, by omega, by rw [hw]; exact g1, g2, g3, rfl⟩
   ·obtain rfl : k = l.length := by omega
    rw [List.take_length] at hBM
    refine AW.rebase ?_
    (repeat (first|(with_reducible refine AWo.cons ?_)|((with_reducible refine Step.id ?_);first|((with_reducible apply Step.move);exact rfl;exact rfl)|((with_reducible apply Step.assign);exact rfl;exact rfl)|((with_reducible apply Step.load);exact rfl;((decide +kernel));exact rfl;((exact Rd.old _ (by assumption))))|((with_reducible apply Step.field (k := 513));exact rfl;((decide +kernel));exact rfl)|((with_reducible apply Step.lss);exact rfl;exact rfl;exact rfl)|((with_reducible apply Step.len);exact rfl;((assumption));((decide +kernel));exact rfl)|((with_reducible apply Step.nilp);exact rfl;exact rfl))|(with_reducible first|apply AWo.nil|apply AW.seq|apply Then.n|apply AW.regL|apply AW.exit|apply InBlk.hit|apply Then.e)|((with_reducible apply AW.condF);exact rfl;(((simp only [zq1, zq2, zq3, zq4, zq5, zq6];first|assumption|omega))))))
    (refine AW.ret ?_; (repeat (first | refine Then.r ?_ | refine InBlk.r ?_)))
    refine ⟨_, rfl, u, rfl, by rw [List.append_nil]; exact hBM, ?_, fun j hj hn => hu2 j (by omega) hn⟩
    rw [List.append_nil]
    exact ⟨by omega, fun j hj hne hn => by rw [hMk j (by omega) hne]; exact hF2.2 j hj hne hn⟩
def dl (p i : Int) (x : Tr) : Int := (if x.i = i ∧ x.t = p then x.n else 0) - (if x.i = i ∧ x.f = p then x.n else 0)
def hsum (p i : Int) : List Tr → Int
 | [] => 0
 | x :: l => dl p i x + hsum p i l
theorem hsum_app (p i : Int) : ∀ (a b : List Tr), hsum p i (a ++ b) = hsum p i a + hsum p i b
 | [], b => by simp [hsum]
 | x :: a, b => by
  show dl p i x + hsum p i (a ++ b) = dl p i x + hsum p i a + hsum p i b
  rw [hsum_app p i a b]; omega
theorem hsum_one (p i : Int) (x : Tr) : hsum p i [x] = dl p i x := by simp [hsum]
def PostsAt (M : AM) (b0 : Nat) (pv : Value) (P : List (List Tr)) : Prop := ∃ pc, Row M b0 1 pv pc P.length ∧ ∀ k, k < P.length → ∃ u, pc[k]? = some u ∧ PostAt M b0 u (P.getD k [])
theorem PostAt.old {M : AM} {b0 : Nat} {u : Value} {l : List Tr} (h : PostAt M b0 u l) (T : AM) : PostAt (M ++ T) b0 u l := by
 obtain ⟨a, k2, k3, k4, ⟨b, k5, k7, k8⟩, k6⟩ := h
 exact ⟨a, k2, by rw [List.length_append]; omega, k4, ⟨b, get_old T k5, k7, k8⟩, k6⟩
theorem PostsAt.old {M : AM} {b0 : Nat} {pv : Value} {P : List (List Tr)} (h : PostsAt M b0 pv P) (T : AM) : PostsAt (M ++ T) b0 pv P := by
 obtain ⟨pc, h5, h6⟩ := h
 refine ⟨pc, h5.old T, fun k hk => ?_⟩
 obtain ⟨u, k1, k2⟩ := h6 k hk
 exact ⟨u, k1, k2.old T⟩
structure RBook (M : AM) (b0 xk : Nat) (P : List (List Tr)) (pv : Value) : Prop where
 lo : b0 ≤ xk
 cells : M[xk]? = some (some { cells := [pv] })
 posts : PostsAt M b0 pv P
theorem RBook.old {M : AM} {b0 xk : Nat} {P : List (List Tr)} {pv : Value} (h : RBook M b0 xk P pv) (T : AM) : RBook (M ++ T) b0 xk P pv := ⟨h.lo, get_old _ h.cells, h.posts.old T⟩
theorem RBook.lt {M : AM} {b0 xk : Nat} {P : List (List Tr)} {pv : Value} (h : RBook M b0 xk P pv) : xk < M.length := (List.getElem?_eq_some_iff.1 h.cells).1
def SlV (v : Value) : Prop := v = .slice none 0 0 ∨ ∃ q n c, v = .slice (some q) n c
theorem PostAt.slv {M : AM} {b0 : Nat} {u : Value} {l : List Tr} (h : PostAt M b0 u l) : SlV u := by
 obtain ⟨a, _, _, rfl, _⟩ := h
 exact .inr ⟨_, _, _, rfl⟩
theorem SlV.one {v : Value} (h : SlV v) : v.oneCell' = true ∧ v.cells = #[v] := by
 rcases h with rfl | ⟨q, n, c, rfl⟩ <;> exact ⟨rfl, rfl⟩
theorem un145 : Try.prog.underlying 145 = some (.array 2 3) := by kernel_rfl
theorem bl145 {a b : Int} : abuild Try.prog 145 [(0, .int .i64 a), (1, .int .i64 b)] = some (.agg #[.int .i64 a, .int .i64 b]) := by kernel_rfl
theorem Trs.slv {m : AM} {v : Value} {l : List Tr} (h : Trs m v l) (hl : 0 < l.length) : SlV v := by
 obtain ⟨a, o, h1, _⟩ := h
 rcases h1 with ⟨_, e⟩ | ⟨c, _, rfl⟩ | ⟨e, _⟩
 ·omega
 ·exact .inr ⟨_, _, _, rfl⟩
 ·omega
theorem RBook.sep {M : AM} {b0 xk : Nat} {P : List (List Tr)} {pv : Value} (h : RBook M b0 xk P pv) {a : Nat} {x : Int} (hr : Rd M a 0 (.int .i64 x)) : (SlV pv → a ≠ xk) ∧ (0 < P.length → NotOf pv a) := by
 obtain ⟨b, r1, r2⟩ := hr
 constructor
 ·rintro hs rfl
  have := h.cells
  rw [r1] at this
  injection this with this; injection this with this; subst this
  have e : some pv = some (Value.int .i64 x) := r2
  injection e with e
  rcases hs with rfl | ⟨_, _, _, rfl⟩ <;> cases e
 ·intro hp n c e
  obtain ⟨pc, hrow, hps⟩ := h.posts
  rcases hrow with ⟨_, _, h0⟩ | ⟨a', kd, sz, k1, k2, k3, k4, k5⟩
  ·omega
  ·rw [k2] at e
   simp only [Value.slice.injEq, Option.some.injEq, Addr.mk.injEq] at e
   obtain ⟨rfl, _⟩ := e.1
   rw [r1] at k3
   injection k3 with k3; injection k3 with k3; subst k3
   obtain ⟨u, q1, a'', _, _, q4, _⟩ := hps 0 hp
   simp only at r2
   rw [r2] at q1
   injection q1 with q1
   rw [q4] at q1
   cases q1
theorem Row.slv {M : AM} {b0 s : Nat} {u : Value} {c : List Value} {n : Nat} (h : Row M b0 s u c n) : SlV u := by
 rcases h with ⟨rfl, _⟩ | ⟨_, _, _, _, rfl, _⟩
 ·exact .inl rfl
 ·exact .inr ⟨_, _, _, rfl⟩
theorem RBook.slv {M : AM} {b0 xk : Nat} {P : List (List Tr)} {pv : Value} (h : RBook M b0 xk P pv) : SlV pv := by
 obtain ⟨pc, hrow, _⟩ := h.posts
 exact hrow.slv
theorem RBook.notbk {M : AM} {b0 xk : Nat} {P : List (List Tr)} {pv : Value} (h : RBook M b0 xk P pv) : NotOf pv xk := by
 intro n c e
 obtain ⟨pc, hrow, hps⟩ := h.posts
 rcases hrow with ⟨h0, _⟩ | ⟨a', kd, sz, k1, k2, k3, k4, k5⟩
 ·rw [e] at h0; cases h0
 ·have e' := e
  rw [k2] at e
  simp only [Value.slice.injEq, Option.some.injEq, Addr.mk.injEq] at e
  obtain ⟨rfl, _⟩ := e.1
  rw [h.cells] at k3
  injection k3 with k3; injection k3 with k3
  injection k3 with k3 _ _
  subst k3
  have hp : 0 < P.length := by simp at k4; omega
  obtain ⟨u, q1, a'', _, _, q4, ⟨b, q5, _, q6⟩, q7⟩ := hps 0 hp
  have q1' : some pv = some u := q1
  injection q1' with q1'
  rw [← q1', e'] at q4
  simp only [Value.slice.injEq, Option.some.injEq, Addr.mk.injEq] at q4
  obtain ⟨rfl, _⟩ := q4.1
  rw [h.cells] at q5
  injection q5 with q5; injection q5 with q5; subst q5
  have := q6 0 (.int .i64 ((P.getD 0 []).getD 0 default).i) (by simpa using tcs_get (P.getD 0 []) 0 q7 0 _ rfl)
  have this : some pv = some (Value.int .i64 ((P.getD 0 []).getD 0 default).i) := this
  injection this with this
  rw [e'] at this
  cases this
theorem RBook.push {X M2 M' : AM} {b0 xk : Nat} {P : List (List Tr)} {pv u' : Value} {pc : List Value} {l : List Tr} {a1 sz1 : Nat} {kd1 : Kind} (hB : RBook X b0 xk P pv) (hM : ∃ N, M2 = X ++ N) (hrow : Row X b0 1 pv pc P.length)
  (hps : ∀ k, k < P.length → ∃ u, pc[k]? = some u ∧ PostAt X b0 u (P.getD k [])) (hr : Row M' b0 1 u' (pc ++ [.slice (some ⟨a1, 0, none⟩) l.length l.length]) (P.length + 1)) (hml : M2.length ≤ M'.length) (hk : ∀ j, j < M2.length → NotOf pv j → M'[j]? = M2[j]?)
  (hk2 : ∀ j, j < M2.length → NotOf pv j → NotOf u' j) (e1 : X.length ≤ a1) (e4 : M2[a1]? = some (some { cells := tcs l, kind := kd1, size := sz1 })) (hl0 : 0 < l.length) (hkm : kd1.mine = true) :
  ∃ u, RBook (M'.set xk (some { cells := [u'] })) b0 xk (P ++ [l]) u ∧ X.length ≤ (M'.set xk (some { cells := [u'] })).length ∧ (∀ j, j < X.length → j ≠ xk → NotOf pv j → (M'.set xk (some { cells := [u'] }))[j]? = X[j]?) ∧ (∀ j, j < X.length → NotOf pv j → NotOf u j) := by
 have hnb := hB.notbk
 have hbl := hB.lt
 have hsv := hB.slv
 obtain ⟨N, rfl⟩ := hM
 rw [List.length_append] at hml hk hk2
 have hM'b : M'[xk]? = some (some { cells := [pv] }) := by
  rw [hk xk (by omega) hnb, List.getElem?_append_left hbl]; exact hB.cells
 have hnbu : NotOf u' xk := hk2 xk (by omega) hnb
 have ha1l := (List.getElem?_eq_some_iff.1 e4).1
 rw [List.length_append] at ha1l
 have hM'a : M'[a1]? = some (some { cells := tcs l, kind := kd1, size := sz1 }) := by rw [hk a1 ha1l (hrow.far e1)]; exact e4
 have keepX : ∀ j, j < X.length → j ≠ xk → NotOf pv j → (M'.set xk (some { cells := [u'] }))[j]? = X[j]? := fun j hj hne hn => by
  rw [List.getElem?_set_ne (Ne.symm hne), hk j (by omega) hn, List.getElem?_append_left hj]
 refine ⟨u', ⟨hB.lo, set_hit hM'b, pc ++ [.slice (some ⟨a1, 0, none⟩) l.length l.length], ?_, ?_⟩, by rw [List.length_set]; omega, keepX, fun j hj hn => hk2 j (by omega) hn⟩
 ·rw [List.length_append]
  exact hr.set hnbu
 ·intro k hkl
  rw [List.length_append, List.length_singleton] at hkl
  have hpcl : pc.length = P.length := by rw [hrow.len, Nat.mul_one]
  rcases Nat.lt_or_ge k P.length with h1 | h1
  ·obtain ⟨u, q1, q2⟩ := hps k h1
   refine ⟨u, by rw [List.getElem?_append_left (by omega)]; exact q1, ?_⟩
   have : (P ++ [l]).getD k [] = P.getD k [] := by
    simp only [List.getD_eq_getElem?_getD]; rw [List.getElem?_append_left h1]
   rw [this]
   refine q2.keep (by rw [List.length_set]; omega) fun a ha hrd => ?_
   have hs := hB.sep hrd
   exact keepX a ha (hs.1 hsv) (hs.2 (by omega))
  ·obtain rfl : k = P.length := by omega
   refine ⟨.slice (some ⟨a1, 0, none⟩) l.length l.length, by rw [List.getElem?_append_right (by omega), hpcl]; simp, ?_⟩
   have : (P ++ [l]).getD P.length [] = l := by simp
   rw [this]
   have hlo := hB.lo
   refine ⟨a1, by omega, by rw [List.length_set]; omega, rfl, ⟨_, by rw [List.getElem?_set_ne (by omega)]; exact hM'a, hkm, fun j v hj => by simpa using hj⟩, hl0⟩
def inB (p i : Int) : Bool := decide (0 ≤ p ∧ p < 16 ∧ 0 ≤ i ∧ i < 16)
theorem bl155 {a b : Int} : abuild Try.prog 155 [(0, .int .i64 a), (1, .int .i64 b)] = some (.agg #[.int .i64 a, .int .i64 b]) := by kernel_rfl
set_option maxRecDepth 100000 in
theorem there_ok {m : AM} (p i : Int) {b : Bool} (hb : inB p i = b) : ACall Try.prog 92 #[.agg #[.int .i64 p, .int .i64 i]] m (Ret (.bool b) m) := by
 subst hb
 refine ACall.start Try.func92 rfl rfl ?_
 rw [show inB p i = decide (0 ≤ Min.min p i ∧ Max.max p i < 16) from decide_eq_decide.2 (by omega)]
 (repeat (first|(with_reducible refine AWo.cons ?_)|((with_reducible refine Step.id ?_);first|((with_reducible apply Step.move);exact rfl;exact rfl)|((with_reducible apply Step.assign);exact rfl;exact rfl)|((with_reducible apply Step.load);exact rfl;((decide +kernel));exact rfl;((exact Rd.new rfl rfl)))|((with_reducible apply Step.field0);exact rfl;((decide +kernel));exact rfl)|((with_reducible apply Step.field (k := 1));exact rfl;((decide +kernel));exact rfl)|((with_reducible apply Step.geq);exact rfl;exact rfl;exact rfl)|((with_reducible apply Step.min);exact rfl;exact rfl;exact rfl)|((with_reducible apply Step.box 0);exact rfl;exact rfl;((kernel_rfl));exact rfl;((first|(simp only [zq7, zq8, zq9, zq0, iv_set, bv_set, iv_rep, bv_rep] <;> rfl)|rfl))))|(with_reducible first|apply AWo.nil|apply AW.seq|apply Then.n|apply AW.regL)))
 generalize Min.min p i = mn
 by_cases c1 : 0 ≤ mn
 ·(repeat (first|(with_reducible refine AWo.cons ?_)|((with_reducible refine Step.id ?_);first|((with_reducible apply Step.gdT);exact rfl;exact rfl;(((simp only [zq1, zq2, zq3, zq4, zq5, zq6];first|assumption|omega))))|((with_reducible apply Step.assign);exact rfl;exact rfl)|((with_reducible apply Step.load);exact rfl;((decide +kernel));exact rfl;((exact Rd.new rfl rfl)))|((with_reducible apply Step.field0);exact rfl;((decide +kernel));exact rfl)|((with_reducible apply Step.field (k := 1));exact rfl;((decide +kernel));exact rfl)|((with_reducible apply Step.lss);exact rfl;exact rfl;exact rfl)|((with_reducible apply Step.max);exact rfl;exact rfl;exact rfl)|((with_reducible apply Step.pickT);exact rfl;exact rfl;exact rfl;exact rfl;(((simp only [zq1, zq2, zq3, zq4, zq5, zq6];first|assumption|omega)))))|(with_reducible first|apply AWo.nil|apply Then.n)))
  generalize Max.max p i = mx
  (refine AW.retD (l := [(2, _)]) (by repeat (first | exact trivial | (refine And.intro ⟨rfl, by (exact .bool _)⟩ ?_))) ?_; (repeat (first | refine Then.r ?_ | refine InBlk.r ?_)))
  exact ⟨_, rfl, by simp [c1], rfl⟩
 ·(repeat (first|(with_reducible refine AWo.cons ?_)|((with_reducible refine Step.id ?_);first|((with_reducible apply Step.gdF);exact rfl;exact rfl;(((simp only [zq1, zq2, zq3, zq4, zq5, zq6];first|assumption|omega))))|((with_reducible apply Step.assign);exact rfl;exact rfl)|((with_reducible apply Step.pickF);exact rfl;exact rfl;exact rfl;exact rfl;(((simp only [zq1, zq2, zq3, zq4, zq5, zq6];first|assumption|omega)))))|(with_reducible first|apply AWo.nil|apply Then.n)))
  (refine AW.retD (l := [(2, _)]) (by repeat (first | exact trivial | (refine And.intro ⟨rfl, by (exact .bool _)⟩ ?_))) ?_; (repeat (first | refine Then.r ?_ | refine InBlk.r ?_)))
  exact ⟨_, rfl, by simp [c1], rfl⟩
def tchB (p i : Int) (x : Tr) : Bool := decide (x.i = i) && (decide (x.f = p) || decide (x.t = p))
def lcK (p i : Int) (P : List (List Tr)) : Nat → Nat
 | 0 => 0
 | k + 1 => if (P.getD k []).any (tchB p i) = true then k + 1 else lcK p i P k
theorem wth1_get {H : List Int} (hH : H.length = 256) {x : Tr} (hx : okT x = true) {p i : Nat} (hp : p < 16) (hi : i < 16) : (wth1 H x).getD (p * 16 + i) 0 = H.getD (p * 16 + i) 0 + dl p i x := by
 obtain ⟨xi, f, t, n⟩ := x
 simp only [okT, decide_eq_true_eq] at hx
 obtain ⟨x1, x2, x3, x4, x5, x6, x7, x8, x9⟩ := hx
 obtain ⟨xi, rfl⟩ := Int.eq_ofNat_of_zero_le x1
 obtain ⟨f, rfl⟩ := Int.eq_ofNat_of_zero_le x3
 obtain ⟨t, rfl⟩ := Int.eq_ofNat_of_zero_le x5
 unfold wth1 dl
 simp only [Int.toNat_natCast]
 rw [getD_set, getD_set, getD_set, List.length_set, hH]
 by_cases e1 : xi = i
 ·subst e1
  by_cases e2 : t = p
  ·subst e2
   rw [if_pos ⟨rfl, by omega⟩, if_neg (by omega), if_pos ⟨rfl, rfl⟩, if_neg (by omega)]
   omega
  ·rw [if_neg (by omega)]
   by_cases e3 : f = p
   ·subst e3
    rw [if_pos ⟨rfl, by omega⟩, if_neg (by omega), if_pos ⟨rfl, rfl⟩]
    omega
   ·rw [if_neg (by omega), if_neg (by omega), if_neg (by omega)]
    omega
 ·rw [if_neg (by omega), if_neg (by omega), if_neg (by omega), if_neg (by omega)]
  omega
theorem wth_get {p i : Nat} (hp : p < 16) (hi : i < 16) : ∀ (l : List Tr) (H : List Int), H.length = 256 → l.all okT = true → (wth H l).getD (p * 16 + i) 0 = H.getD (p * 16 + i) 0 + hsum p i l
 | [], H, _, _ => by simp [wth, hsum]
 | x :: l, H, hH, hl => by
  simp only [List.all_cons, Bool.and_eq_true] at hl
  show (wth (wth1 H x) l).getD _ 0 = _
  rw [wth_get hp hi l (wth1 H x) (by rw [wth1_len, hH]) hl.2, wth1_get hH hl.1 hp hi]
  show _ = _ + (dl p i x + hsum p i l)
  omega
theorem chg1_get {C : List Int} (hC : C.length = 256) {x : Tr} (hx : okT x = true) {n : Int} {p i : Nat} (hp : p < 16) (hi : i < 16) : (chg1 C n x).getD (p * 16 + i) 0 = if tchB p i x = true then n else C.getD (p * 16 + i) 0 := by
 obtain ⟨xi, f, t, k⟩ := x
 simp only [okT, decide_eq_true_eq] at hx
 obtain ⟨x1, x2, x3, x4, x5, x6, x7, x8, x9⟩ := hx
 obtain ⟨xi, rfl⟩ := Int.eq_ofNat_of_zero_le x1
 obtain ⟨f, rfl⟩ := Int.eq_ofNat_of_zero_le x3
 obtain ⟨t, rfl⟩ := Int.eq_ofNat_of_zero_le x5
 unfold chg1 tchB
 simp only [Int.toNat_natCast, Bool.and_eq_true, Bool.or_eq_true, decide_eq_true_eq]
 rw [getD_set, getD_set, List.length_set, hC]
 by_cases e1 : xi = i
 ·subst e1
  by_cases e2 : t = p
  ·subst e2
   rw [if_pos ⟨rfl, by omega⟩, if_pos ⟨rfl, .inr rfl⟩]
  ·rw [if_neg (by omega)]
   by_cases e3 : f = p
   ·subst e3
    rw [if_pos ⟨rfl, by omega⟩, if_pos ⟨rfl, .inl rfl⟩]
   ·rw [if_neg (by omega), if_neg (by omega)]
 ·rw [if_neg (by omega), if_neg (by omega), if_neg (by omega)]
theorem chg_get {n : Int} {p i : Nat} (hp : p < 16) (hi : i < 16) : ∀ (l : List Tr) (C : List Int), C.length = 256 → l.all okT = true → (chg C n l).getD (p * 16 + i) 0 = if l.any (tchB p i) = true then n else C.getD (p * 16 + i) 0
 | [], C, _, _ => by simp [chg]
 | x :: l, C, hC, hl => by
  simp only [List.all_cons, Bool.and_eq_true] at hl
  show (chg (chg1 C n x) n l).getD _ 0 = _
  rw [chg_get hp hi l (chg1 C n x) (by simp [chg1, hC]) hl.2, chg1_get hC hl.1 hp hi, List.any_cons]
  generalize l.any (tchB p i) = A
  generalize tchB p i x = D
  cases A <;> cases D <;> simp
theorem hsum_zero {p i : Int} : ∀ {l : List Tr}, l.any (tchB p i) = false → hsum p i l = 0
 | [], _ => rfl
 | x :: l, h => by
  rw [List.any_cons, Bool.or_eq_false_iff] at h
  show dl p i x + hsum p i l = 0
  rw [hsum_zero h.2]
  have := h.1
  simp only [tchB, Bool.and_eq_false_iff, Bool.or_eq_false_iff, decide_eq_false_iff_not] at this
  unfold dl
  rcases this with e | ⟨e1, e2⟩
  ·rw [if_neg (fun h => e h.1), if_neg (fun h => e h.1)]; rfl
  ·rw [if_neg (fun h => e2 h.2), if_neg (fun h => e1 h.2)]; rfl
structure Good (B : Bk) : Prop where
 lH : B.H.length = 256
 lC : B.C.length = 256
 H : ∀ p i : Nat, p < 16 → i < 16 → B.H.getD (p * 16 + i) 0 = hsum p i B.P.flatten
 C : ∀ p i : Nat, p < 16 → i < 16 → B.C.getD (p * 16 + i) 0 = lcK p i B.P B.P.length
 bd : Bd B.H 1000000000
 nn : ∀ k, 16 ≤ k → 0 ≤ B.H.getD k 0
 ok : ∀ l ∈ B.P, postB l = true
theorem getD_rep (n k : Nat) : (List.replicate n (0 : Int)).getD k 0 = 0 := by
 simp only [List.getD_eq_getElem?_getD, List.getElem?_replicate]
 split <;> rfl
theorem Good.new : Good Bk.new where
 lH := List.length_replicate
 lC := List.length_replicate
 H := fun p i _ _ => getD_rep _ _
 C := fun p i _ _ => getD_rep _ _
 bd := fun k => by rw [show Bk.new.H = List.replicate 256 0 from rfl, getD_rep]; omega
 nn := fun k _ => by rw [show Bk.new.H = List.replicate 256 0 from rfl, getD_rep]; omega
 ok := fun l hl => absurd hl List.not_mem_nil
theorem postB_all {l : List Tr} (h : postB l = true) : 1 ≤ l.length ∧ l.length ≤ 16 ∧ l.all okT = true := by
 simp only [postB, Bool.and_eq_true, decide_eq_true_eq] at h
 exact ⟨h.1.1, h.1.2, h.2⟩
theorem lcK_app (p i : Int) (P : List (List Tr)) (l : List Tr) : ∀ k, k ≤ P.length → lcK p i (P ++ [l]) k = lcK p i P k
 | 0, _ => rfl
 | k + 1, h => by
  have : (P ++ [l]).getD k [] = P.getD k [] := by simp only [List.getD_eq_getElem?_getD]; rw [List.getElem?_append_left (by omega)]
  unfold lcK
  rw [this, lcK_app p i P l k (by omega)]
theorem Good.post {B : Bk} (h : Good B) (l : List Tr) : Good (postF B l).1 := by
 unfold postF
 split
 ·exact h
 ·rename_i hp
  split
  ·exact h
  ·rename_i hs
   split
   ·exact h
   ·rename_i hf
    obtain ⟨p1, p2, p3⟩ := postB_all (by simpa using hp)
    have hlw : (wth B.H l).length = 256 := by rw [wth_len, h.lH]
    refine ⟨hlw, by rw [chg_len, h.lC], fun p i hpp hi => ?_, fun p i hpp hi => ?_, fun k => ?_, fun k hk => ?_, fun q hq => ?_⟩
    ·show (wth B.H l).getD _ 0 = hsum p i (B.P ++ [l]).flatten
     rw [wth_get hpp hi l B.H h.lH p3, h.H p i hpp hi, List.flatten_append, hsum_app]
     simp
    ·show (chg B.C _ l).getD _ 0 = ((lcK p i (B.P ++ [l]) (B.P ++ [l]).length : Nat) : Int)
     rw [chg_get hpp hi l B.C h.lC p3, h.C p i hpp hi, List.length_append, List.length_singleton]
     have e : lcK p i (B.P ++ [l]) (B.P.length + 1) = if l.any (tchB p i) = true then B.P.length + 1 else lcK p i B.P B.P.length := by
      show (if ((B.P ++ [l]).getD B.P.length []).any (tchB p i) = true then B.P.length + 1 else lcK p i (B.P ++ [l]) B.P.length) = _
      rw [lcK_app p i B.P l _ (Nat.le_refl _)]
      simp
     rw [e]
     split <;> rfl
    ·show -1000000000 ≤ (wth B.H l).getD k 0 ∧ (wth B.H l).getD k 0 ≤ 1000000000
     by_cases hk : k < 256
     ·have := mt (fun e => farB_iff.2 ⟨k, hk, e⟩) hf
      omega
     ·rw [List.getD_eq_getElem?_getD, List.getElem?_eq_none (by omega)]
      exact ⟨by decide, by decide⟩
    ·show 0 ≤ (wth B.H l).getD k 0
     by_cases hk2 : k < 256
     ·have := mt (fun e => shortB_iff.2 ⟨k, hk2, hk, e⟩) hs
      omega
     ·rw [List.getD_eq_getElem?_getD, List.getElem?_eq_none (by omega)]
      exact Int.le_refl _
    ·rcases List.mem_append.1 hq with hq | hq
     ·exact h.ok q hq
     ·simp only [List.mem_singleton] at hq
      subst hq
      simpa using hp
theorem tch_of {p i : Int} {l : List Tr} (h : l.any (tchB p i) = true) : ∃ x ∈ l, x.i = i ∧ (x.f = p ∨ x.t = p) := by
 obtain ⟨x, hx, h⟩ := List.any_eq_true.1 h
 simp only [tchB, Bool.and_eq_true, Bool.or_eq_true, decide_eq_true_eq] at h
 exact ⟨x, hx, h⟩
theorem Good.hit {B : Bk} (h : Good B) {l : List Tr} (hl : l.all okT = true) {k : Nat} (hk : k < 256) (hne : (wth B.H l).getD k 0 ≠ B.H.getD k 0) : ∃ x ∈ l, ∃ p ∈ [x.f, x.t], p = ((k / 16 : Nat) : Int) ∧ (wth B.H l).getD k 0 = hsum p x.i (B.P.flatten ++ l) := by
 have e : k = k / 16 * 16 + k % 16 := by omega
 have hw := wth_get (p := k / 16) (i := k % 16) (by omega) (by omega) l B.H h.lH hl
 rw [← e] at hw
 have ht : l.any (tchB (k / 16 : Nat) (k % 16 : Nat)) = true := by
  cases ha : l.any (tchB (k / 16 : Nat) (k % 16 : Nat)) with
  | true => rfl
  | false => rw [hsum_zero ha] at hw; omega
 obtain ⟨x, hx, q1, q2⟩ := tch_of ht
 have hH := h.H (k / 16) (k % 16) (by omega) (by omega)
 rw [← e] at hH
 refine ⟨x, hx, ((k / 16 : Nat) : Int), by rcases q2 with q2 | q2 <;> simp [q2], rfl, ?_⟩
 rw [hsum_app, hw, hH, q1]
theorem Good.val {B : Bk} (h : Good B) {l : List Tr} (hl : l.all okT = true) {p i : Nat} (hp : p < 16) (hi : i < 16) : (wth B.H l).getD (p * 16 + i) 0 = hsum p i (B.P.flatten ++ l) := by
 rw [wth_get hp hi l B.H h.lH hl, h.H p i hp hi, hsum_app]
end Go.Proofs.Ytabdnepfcohncaa.Abs
namespace Go.Proofs.Ytabdnepfcohncaa.Abs
set_option linter.unusedSimpArgs false
set_option linter.unusedVariables false
open Go.RowKit
open Go.Proofs.Ytabdnepfcohncaa.Sim
section
variable {P : Program} {nt : Nat} {ops : Array Oper} {t : Fm} {m : AM} {K : Fm → AM → Prop} {d T : Nat} {p : String} {af : Array Edge}
theorem Step.u8I {x : Operand} {S D : TypeId} {a : Int} (hx : evo t x = some (.int .u8 a)) (hS : P.underlying S = some (.int .u8)) (hD : P.underlying D = some (.int .i64)) (hr : 0 ≤ a ∧ a ≤ 255) (hlt : Nat.blt d nt = true) (hK : K (put t d (.int .i64 a)) m) :
  Step P nt ops ⟨some d, .convert S D x, T, p, af, none⟩ t m K := by
 refine .ground rfl rfl hlt (by simp [Op.operands, hx, g1, g0]) (fun h => by simpa [aquiet] using h) ?_ (by simp [g1, g0]) hK
 have hw : IntKind.i64.wrap a = a := IntWalk.i64_in _ (by omega)
 simp only [execOp, evD_of hx, bind]
 rw [still_bind]
 unfold convert
 simp only [bind]
 rw [still_bind, still_und hS]
 simp only
 rw [still_bind, still_und hD]
 simp [Conv.intToInt, hw, pure, Sim.still]
end
def by8 (l : List UInt8) : List Value := l.map fun b => .int .u8 (b.toNat : Int)
theorem by8_len (l : List UInt8) : (by8 l).length = l.length := by simp [by8]
theorem by8_get {l : List UInt8} {j : Nat} (h : j < l.length) : (by8 l)[j]? = some (.int .u8 ((l[j]).toNat : Int)) := by simp [by8, h]
theorem by8_app (a b : List UInt8) : by8 (a ++ b) = by8 a ++ by8 b := by simp [by8]
section
variable {P : Program} {nt : Nat} {ops : Array Oper} {t : Fm} {m : AM} {K : Fm → AM → Prop} {d T : Nat} {p : String} {af : Array Edge}
end
open Go.Proofs
theorem un5 : Try.prog.underlying 5 = some (.int .u8) := by kernel_rfl
theorem un3 : Try.prog.underlying 3 = some (.int .i64) := by kernel_rfl
theorem un193 : Try.prog.underlying 193 = some (.int .u64) := by kernel_rfl
theorem un22 : Try.prog.underlying 22 = some (.slice 5) := by kernel_rfl
theorem el22 : elemB Try.prog 22 = some (5, 1, 1, #[.int .u8 0]) := by kernel_rfl
def Byts (m : AM) (v : Value) (l : List UInt8) : Prop := ∃ a o, Sl v a o l.length ∧ a < m.length ∧ ∀ k, k < l.length → Rd m a (o + k) (.int .u8 ((l.getD k 0).toNat : Nat))
theorem Byts.old {m : AM} {v : Value} {l : List UInt8} (T : AM) (h : Byts m v l) : Byts (m ++ T) v l := by
 obtain ⟨a, o, h1, h2, h3⟩ := h
 exact ⟨a, o, h1, by simp; omega, fun k hk => (h3 k hk).old T⟩
def numB (l : List UInt8) : Nat := l.foldl (fun n c => n * 256 + c.toNat) 0
theorem numB_snoc (l : List UInt8) (x : UInt8) : numB (l ++ [x]) = numB l * 256 + x.toNat := by simp [numB]
theorem fold_lt : ∀ (l : List UInt8) (n : Nat), l.foldl (fun n c => n * 256 + c.toNat) n < (n + 1) * 2 ^ (8 * l.length)
 | [], n => by simp
 | x :: l, n => by
  have hx := x.toNat_lt
  have := fold_lt l (n * 256 + x.toNat)
  rw [List.foldl_cons, List.length_cons, show 8 * (l.length + 1) = 8 * l.length + 8 by omega, Nat.pow_add]
  refine Nat.lt_of_lt_of_le this ?_
  rw [Nat.mul_comm (2 ^ (8 * l.length)), ← Nat.mul_assoc]
  exact Nat.mul_le_mul_right _ (by omega)
theorem numB_lt (l : List UInt8) : numB l < 2 ^ (8 * l.length) := by
 have := fold_lt l 0
 simpa [numB] using this
theorem take_snocB (l : List UInt8) (k : Nat) (h : k < l.length) : l.take (k + 1) = l.take k ++ [l.getD k 0] := by
 rw [List.take_succ_eq_append_getElem h]; simp [h]
theorem or8 {a b : Nat} (hb : b < 256) : (a * 2 ^ 8) ||| b = a * 256 + b := by
 have := or_add (a := a) (b := b) (n := 8) hb
 simpa using this
set_option maxRecDepth 100000 in
theorem get_ok {m : AM} {v : Value} {l : List UInt8} (h : Byts m v l) (hl : l.length ≤ 7) : ACall Try.prog 71 #[v] m (Ret (.int .i64 (numB l : Nat)) m) := by
 obtain ⟨a, o, h1, h2, h3⟩ := h
 refine ACall.start Try.func71 rfl rfl ?_
 (repeat (first|(with_reducible refine AWo.cons ?_)|((with_reducible refine Step.id ?_);first|((with_reducible apply Step.move);exact rfl;exact rfl)|((with_reducible apply Step.assign);exact rfl;exact rfl)|((with_reducible apply Step.len);exact rfl;((assumption));((decide +kernel));exact rfl))|(with_reducible first|apply AWo.nil|apply AW.seq|apply Then.n|apply AW.regL|apply AW.block)))
 refine AW.loopT (fun q t L => ∃ k : Nat, q = l.length - k ∧ k ≤ l.length ∧ L = [] ∧
  t = [(3, .int .i64 (numB (l.take k) : Nat)), (6, v), (7, .int .i64 (l.length : Nat)), (8, .int .i64 (k : Nat))]) ⟨_, _, _, (Or.inl ⟨rfl, (by repeat (first | exact trivial | (refine And.intro rfl ?_)))⟩), 0, rfl, Nat.zero_le _, rfl, rfl⟩ ?_
 rintro q t L ⟨k, rfl, hk, rfl, rfl⟩
 rcases Nat.lt_or_ge k l.length with hlt | hge
 ·have hr := h3 k hlt
  have hx := (l.getD k 0).toNat_lt
  have e := numB_snoc (l.take k) (l.getD k 0)
  rw [← take_snocB l k hlt] at e
  have hb := numB_lt (l.take k)
  have hb2 : 2 ^ (8 * (l.take k).length) ≤ 2 ^ 48 := Nat.pow_le_pow_right (by omega) (by rw [List.length_take]; omega)
  rw [show (2 : Nat) ^ 48 = 281474976710656 by decide] at hb2
  generalize (l.getD k 0).toNat = x at *
  generalize numB (l.take k) = N at *
  (repeat (first|(with_reducible refine AWo.cons ?_)|((with_reducible refine Step.id ?_);first|((with_reducible apply Step.move);exact rfl;exact rfl)|((with_reducible apply Step.assign);exact rfl;exact rfl)|((with_reducible apply Step.load);exact rfl;((decide +kernel));exact rfl;((exact Rd.old _ (by assumption))))|((with_reducible apply Step.ix1);exact rfl;((assumption));exact rfl;((decide +kernel));exact rfl;((omega)))|((with_reducible apply Step.lss);exact rfl;exact rfl;exact rfl))|(with_reducible first|apply AWo.nil|apply AW.seq|apply Then.n|apply AW.regL|apply AW.block|apply AW.skip)|((with_reducible apply AW.condT);exact rfl;(((simp only [zq1, zq2, zq3, zq4, zq5, zq6];first|assumption|omega))))))
  ((with_reducible apply Step.shlN (n := 8));exact rfl;exact rfl;((omega));((omega));exact rfl)
  (repeat (first|(with_reducible refine AWo.cons ?_)|((with_reducible refine Step.id ?_);first|((with_reducible apply Step.move);exact rfl;exact rfl)|((with_reducible apply Step.u8I);exact rfl;exact un5;exact un3;((omega));exact rfl))))
  ((with_reducible apply Step.orN);exact rfl;exact rfl;((omega));((omega));exact (or8 (by omega));((omega));exact rfl)
  rw [← e]
  (repeat (first|(with_reducible refine AWo.cons ?_)|((with_reducible refine Step.id ?_);first|((with_reducible apply Step.move);exact rfl;exact rfl)|((with_reducible apply Step.assign);exact rfl;exact rfl)|((with_reducible apply Step.add);exact rfl;exact rfl;((omega));exact rfl))|(with_reducible first|apply AWo.nil|apply Then.n|apply AW.regL|apply InBlk.n)))
  exact ⟨_, _, _, by omega, (Or.inl ⟨rfl, (by repeat (first | exact trivial | (refine And.intro rfl ?_)))⟩), k + 1, rfl, by omega, rfl, rfl⟩
 ·obtain rfl : k = l.length := by omega
  (repeat (first|(with_reducible refine AWo.cons ?_)|((with_reducible refine Step.id ?_);first|((with_reducible apply Step.move);exact rfl;exact rfl)|((with_reducible apply Step.assign);exact rfl;exact rfl)|((with_reducible apply Step.lss);exact rfl;exact rfl;exact rfl))|(with_reducible first|apply AWo.nil|apply AW.seq|apply Then.n|apply AW.regL|apply AW.exit|apply InBlk.hit|apply Then.e)|((with_reducible apply AW.condF);exact rfl;(((simp only [zq1, zq2, zq3, zq4, zq5, zq6];first|assumption|omega))))))
  (refine AW.retD (l := [(2, _)]) (by repeat (first | exact trivial | (refine And.intro ⟨rfl, by (exact .int _ _)⟩ ?_))) ?_; (repeat (first | refine Then.r ?_ | refine InBlk.r ?_)))
  exact ⟨_, rfl, by rw [List.take_length], rfl⟩
section
variable {P : Program} {nt : Nat} {ops : Array Oper} {t : Fm} {m : AM} {K : Fm → AM → Prop} {d T : Nat} {p : String} {af : Array Edge}
theorem Step.u8U {x : Operand} {S D : TypeId} {a : Int} (hx : evo t x = some (.int .u8 a)) (hS : P.underlying S = some (.int .u8)) (hD : P.underlying D = some (.int .u64)) (hr : 0 ≤ a ∧ a ≤ 255) (hlt : Nat.blt d nt = true) (hK : K (put t d (.int .u64 a)) m) :
  Step P nt ops ⟨some d, .convert S D x, T, p, af, none⟩ t m K := by
 refine .ground rfl rfl hlt (by simp [Op.operands, hx, g1, g0]) (fun h => by simpa [aquiet] using h) ?_ (by simp [g1, g0]) hK
 have hw : IntKind.u64.wrap a = a := by
  rw [show IntKind.u64.wrap a = a % 18446744073709551616 from rfl]; omega
 simp only [execOp, evD_of hx, bind]
 rw [still_bind]
 unfold convert
 simp only [bind]
 rw [still_bind, still_und hS]
 simp only
 rw [still_bind, still_und hD]
 simp [Conv.intToInt, hw, pure, Sim.still]
end
set_option maxRecDepth 100000 in
theorem value_ok {m : AM} {v : Value} {l : List UInt8} (h : Byts m v l) (hl : l.length ≤ 7) : ACall Try.prog 75 #[v] m (Ret (.int .i64 (numB l : Nat)) m) := by
 obtain ⟨a, o, h1, h2, h3⟩ := h
 refine ACall.start Try.func75 rfl rfl ?_
 (repeat (first|(with_reducible refine AWo.cons ?_)|((with_reducible refine Step.id ?_);first|((with_reducible apply Step.move);exact rfl;exact rfl)|((with_reducible apply Step.assign);exact rfl;exact rfl)|((with_reducible apply Step.len);exact rfl;((assumption));((decide +kernel));exact rfl))|(with_reducible first|apply AWo.nil|apply AW.seq|apply Then.n|apply AW.regL|apply AW.block)))
 refine AW.loopT (fun q t L => ∃ k : Nat, q = l.length - k ∧ k ≤ l.length ∧ L = [] ∧
  t = [(3, .int .u64 (numB (l.take k) : Nat)), (6, v), (7, .int .i64 (l.length : Nat)), (8, .int .i64 (k : Nat))]) ⟨_, _, _, (Or.inl ⟨rfl, (by repeat (first | exact trivial | (refine And.intro rfl ?_)))⟩), 0, rfl, Nat.zero_le _, rfl, rfl⟩ ?_
 rintro q t L ⟨k, rfl, hk, rfl, rfl⟩
 have hb := numB_lt (l.take k)
 have hb2 : 2 ^ (8 * (l.take k).length) ≤ 2 ^ 56 := Nat.pow_le_pow_right (by omega) (by rw [List.length_take]; omega)
 rw [show (2 : Nat) ^ 56 = 72057594037927936 by decide] at hb2
 rcases Nat.lt_or_ge k l.length with hlt | hge
 ·have hr := h3 k hlt
  have hx := (l.getD k 0).toNat_lt
  have e := numB_snoc (l.take k) (l.getD k 0)
  rw [← take_snocB l k hlt] at e
  generalize (l.getD k 0).toNat = x at *
  have hb3 : 2 ^ (8 * (l.take k).length) ≤ 2 ^ 48 := Nat.pow_le_pow_right (by omega) (by rw [List.length_take]; omega)
  rw [show (2 : Nat) ^ 48 = 281474976710656 by decide] at hb3
  generalize numB (l.take k) = N at *
  (repeat (first|(with_reducible refine AWo.cons ?_)|((with_reducible refine Step.id ?_);first|((with_reducible apply Step.move);exact rfl;exact rfl)|((with_reducible apply Step.assign);exact rfl;exact rfl)|((with_reducible apply Step.load);exact rfl;((decide +kernel));exact rfl;((exact Rd.old _ (by assumption))))|((with_reducible apply Step.ix1);exact rfl;((assumption));exact rfl;((decide +kernel));exact rfl;((omega)))|((with_reducible apply Step.lss);exact rfl;exact rfl;exact rfl))|(with_reducible first|apply AWo.nil|apply AW.seq|apply Then.n|apply AW.regL|apply AW.block|apply AW.skip)|((with_reducible apply AW.condT);exact rfl;(((simp only [zq1, zq2, zq3, zq4, zq5, zq6];first|assumption|omega))))))
  ((with_reducible apply Step.shlU (n := 8));exact rfl;exact rfl;((omega));((omega));exact rfl)
  (repeat (first|(with_reducible refine AWo.cons ?_)|((with_reducible refine Step.id ?_);((with_reducible apply Step.move);exact rfl;exact rfl))))
  ((with_reducible apply Step.u8U);exact rfl;exact un5;exact un193;((omega));exact rfl)
  (repeat ((with_reducible refine AWo.cons ?_)))
  ((with_reducible apply Step.orU);exact rfl;exact rfl;((omega));((omega));exact (or8 (by omega));((omega));exact rfl)
  rw [← e]
  (repeat (first|(with_reducible refine AWo.cons ?_)|((with_reducible refine Step.id ?_);first|((with_reducible apply Step.move);exact rfl;exact rfl)|((with_reducible apply Step.assign);exact rfl;exact rfl)|((with_reducible apply Step.add);exact rfl;exact rfl;((omega));exact rfl))|(with_reducible first|apply AWo.nil|apply Then.n|apply AW.regL|apply InBlk.n)))
  exact ⟨_, _, _, by omega, (Or.inl ⟨rfl, (by repeat (first | exact trivial | (refine And.intro rfl ?_)))⟩), k + 1, rfl, by omega, rfl, rfl⟩
 ·obtain rfl : k = l.length := by omega
  rw [List.take_length] at *
  have e : min ((numB l : Nat) : Int) 4611686018427387905 = (numB l : Nat) := Int.min_eq_left (by omega)
  (repeat (first|(with_reducible refine AWo.cons ?_)|((with_reducible refine Step.id ?_);first|((with_reducible apply Step.move);exact rfl;exact rfl)|((with_reducible apply Step.assign);exact rfl;exact rfl)|((with_reducible apply Step.toI);exact rfl;exact un193;exact un3;((omega));exact rfl)|((with_reducible apply Step.lss);exact rfl;exact rfl;exact rfl)|((with_reducible apply Step.min);exact rfl;exact rfl;exact rfl))|(with_reducible first|apply AWo.nil|apply AW.seq|apply Then.n|apply AW.regL|apply AW.exit|apply InBlk.hit|apply Then.e)|((with_reducible apply AW.condF);exact rfl;(((simp only [zq1, zq2, zq3, zq4, zq5, zq6];first|assumption|omega))))))
  rw [e]
  (repeat ((with_reducible refine AWo.cons ?_)))
  (refine AW.retD (l := [(2, _)]) (by repeat (first | exact trivial | (refine And.intro ⟨rfl, by (exact .int _ _)⟩ ?_))) ?_; (repeat (first | refine Then.r ?_ | refine InBlk.r ?_)))
  exact ⟨_, rfl, rfl, rfl⟩
section
variable {P : Program} {nt : Nat} {ops : Array Oper} {t : Fm} {m : AM} {K : Fm → AM → Prop} {d T : Nat} {p : String} {af : Array Edge}
theorem Step.toB {x : Operand} {S D : TypeId} {a : Nat} (hx : evo t x = some (.int .i64 ((a : Nat) : Int))) (hS : P.underlying S = some (.int .i64)) (hD : P.underlying D = some (.int .u8)) (hlt : Nat.blt d nt = true) (hK : K (put t d (.int .u8 ((UInt8.ofNat a).toNat : Nat))) m) :
  Step P nt ops ⟨some d, .convert S D x, T, p, af, none⟩ t m K := by
 refine .ground rfl rfl hlt (by simp [Op.operands, hx, g1, g0]) (fun h => by simpa [aquiet] using h) ?_ (by simp [g1, g0]) hK
 have hw : IntKind.u8.wrap ((a : Nat) : Int) = ((UInt8.ofNat a).toNat : Nat) := by
  rw [show IntKind.u8.wrap ((a : Nat) : Int) = ((a : Nat) : Int) % 256 from rfl, UInt8.toNat_ofNat']
  omega
 simp only [execOp, evD_of hx, bind]
 rw [still_bind]
 unfold convert
 simp only [bind]
 rw [still_bind, still_und hS]
 simp only
 rw [still_bind, still_und hD]
 simp [Conv.intToInt, hw, pure, Sim.still]
end
def be (n : Nat) : Nat → List UInt8
 | 0 => []
 | k + 1 => UInt8.ofNat (n / 2 ^ (8 * k)) :: be n k
theorem be_len (n : Nat) : ∀ k, (be n k).length = k
 | 0 => rfl
 | k + 1 => by simp [be, be_len n k]
theorem bs22 {m : AM} {k : Nat} {a : Int} : abuildSlice Try.prog m k 22 1 [(0, .int .u8 a)] = some (.slice (some ⟨k, 0, none⟩) 1 1, m.set k (some { cells := [.int .u8 a] })) := by kernel_rfl
def Add (m M : AM) (v r : Value) : Prop := m.length ≤ M.length ∧ (∀ j, j < m.length → NotOf v j → M[j]? = m[j]?) ∧ ∀ j, j < m.length → NotOf v j → NotOf r j
theorem Add.trans {m M M' : AM} {v r w : Value} (h : Add m M v r) (h' : Add M M' r w) : Add m M' v w :=
 ⟨Nat.le_trans h.1 h'.1, fun j hj hn => by rw [h'.2.1 j (by have := h.1; omega) (h.2.2 j hj hn), h.2.1 j hj hn], fun j hj hn => h'.2.2 j (by have := h.1; omega) (h.2.2 j hj hn)⟩
theorem Add.refl (m : AM) (v : Value) : Add m m v v := ⟨Nat.le_refl _, fun _ _ _ => rfl, fun _ _ h => h⟩
theorem Add.low {m M : AM} {v r : Value} (T : AM) (h : Add (m ++ T) M v r) : Add m M v r :=
 ⟨by have := h.1; rw [List.length_append] at this; omega, fun j hj hn => by rw [h.2.1 j (by rw [List.length_append]; omega) hn, List.getElem?_append_left hj], fun j hj hn => h.2.2 j (by rw [List.length_append]; omega) hn⟩
set_option maxHeartbeats 4000000 in
set_option maxRecDepth 100000 in
theorem put_ok {m : AM} {b0 : Nat} {v : Value} {l : List UInt8} {n s : Nat} (h : Row m b0 1 v (by8 l) l.length) (hb0 : b0 ≤ m.length) (hl : l.length ≤ 1000000000) (hn : n ≤ 9223372036854775807) (hs : s ≤ 8) :
  ACall Try.prog 96 #[v, .int .i64 (n : Nat), .int .i64 (s : Nat)] m (fun r M => Row M b0 1 r (by8 (l ++ be n s)) (l ++ be n s).length ∧ Add m M v r) := by
 refine ACall.start Try.func96 rfl rfl ?_
 (repeat (first|(with_reducible refine AWo.cons ?_)|((with_reducible refine Step.id ?_);first|((with_reducible apply Step.move);exact rfl;exact rfl)|((with_reducible apply Step.assign);exact rfl;exact rfl)|((with_reducible apply Step.sub);exact rfl;exact rfl;((omega));exact rfl))|(with_reducible first|apply AWo.nil|apply AW.seq|apply Then.n|apply AW.regL|apply AW.block)))
 refine AW.loopW (fun q t M => ∃ (k : Nat) (z : Int) (pre : List UInt8) (r : Value), q = k ∧ k ≤ s ∧ z = (k : Int) - 1 ∧ pre ++ be n k = be n s ∧ pre.length + k = s ∧ Row M b0 1 r (by8 (l ++ pre)) (l ++ pre).length ∧ Add m M v r ∧
  t = fr [(0, r), (1, .int .i64 (n : Nat)), (7, .int .i64 z)]) ⟨_, _, (by repeat (first | exact trivial | (refine And.intro rfl ?_))), s, _, [], v, rfl, Nat.le_refl _, rfl, rfl, by simp, by rw [List.append_nil, List.append_nil]; exact h, by rw [List.append_nil]; exact Add.refl _ _, rfl⟩ ?_
 rintro q t M ⟨k, z, pre, r, rfl, hk, hz, hpre, hpl, hrow, hadd, rfl⟩
 have hbM : b0 ≤ M.length := by have := hadd.1; omega
 rcases q with _ | k
 ·subst hz
  refine AW.rebase ?_
  (repeat (first|(with_reducible refine AWo.cons ?_)|((with_reducible refine Step.id ?_);first|((with_reducible apply Step.move);exact rfl;exact rfl)|((with_reducible apply Step.assign);exact rfl;exact rfl)|((with_reducible apply Step.geq);exact rfl;exact rfl;exact rfl))|(with_reducible first|apply AWo.nil|apply AW.seq|apply Then.n|apply AW.regL|apply AW.exit|apply InBlk.hit|apply Then.e)|((with_reducible apply AW.condF);exact rfl;((rfl)))))
  (refine AW.ret ?_; (repeat (first | refine Then.r ?_ | refine InBlk.r ?_)))
  rw [show be n 0 = [] from rfl, List.append_nil] at hpre
  subst hpre
  exact ⟨_, rfl, by rw [List.append_nil]; exact hrow, by rw [List.append_nil]; exact hadd⟩
 ·obtain rfl : z = (k : Int) := by omega
  have h8 : (8 : Int) * (k : Int) = ((8 * k : Nat) : Int) := by omega
  have hprl : (l ++ pre).length = l.length + pre.length := List.length_append
  refine AW.rebase ?_
  (repeat (first|(with_reducible refine AWo.cons ?_)|((with_reducible refine Step.id ?_);first|((with_reducible apply Step.move);exact rfl;exact rfl)|((with_reducible apply Step.mulE);exact rfl;exact rfl;((assumption));((omega));exact rfl)|((with_reducible apply Step.shrN);exact rfl;exact rfl;((omega));exact rfl)|((with_reducible apply Step.geq);exact rfl;exact rfl;exact rfl))|(with_reducible first|apply AWo.nil|apply AW.seq|apply Then.n|apply AW.regL|apply AW.block|apply AW.skip)|((with_reducible apply AW.condT);exact rfl;((rfl)))))
  ((with_reducible apply Step.toB);exact rfl;exact un3;exact un5;exact rfl)
  (repeat (first|(with_reducible refine AWo.cons ?_)|((with_reducible refine Step.id ?_);((with_reducible apply Step.buildS 0);exact rfl;exact rfl;exact (fun _ _ => bs22);exact rfl;((first|(simp only [zq7, zq8, zq9, zq0, iv_set, bv_set, iv_rep, bv_rep] <;> rfl)|rfl))))))
  ((with_reducible apply Step.appRow2 (n := (l ++ pre).length) (xl := 1) (b0 := b0) (new := [.int .u8 ((UInt8.ofNat (n / 2 ^ (8 * k))).toNat : Nat)]));exact rfl;exact rfl;exact (hrow.old _);exact (Sl.mk (Nat.le_refl _));exact (fun _ => RdL.new rfl rfl);exact el22;exact un22;exact rfl;exact rfl;exact rfl;((omega));exact rfl;((rw [List.length_append];omega)))
  intro r' M' hr' hml' hk' hk2'
  have hr2 : Row M' b0 1 r' (by8 (l ++ (pre ++ [UInt8.ofNat (n / 2 ^ (8 * k))]))) (l ++ (pre ++ [UInt8.ofNat (n / 2 ^ (8 * k))])).length := by
   have e1 : by8 (l ++ (pre ++ [UInt8.ofNat (n / 2 ^ (8 * k))])) = by8 (l ++ pre) ++ [.int .u8 ((UInt8.ofNat (n / 2 ^ (8 * k))).toNat : Nat)] := by simp [by8]
   have e2 : (l ++ (pre ++ [UInt8.ofNat (n / 2 ^ (8 * k))])).length = (l ++ pre).length + 1 := by simp; omega
   rw [e1, e2]
   exact hr'
  have hadd2 : Add m M' v r' := hadd.trans (Add.low _ ⟨hml', hk', hk2'⟩)
  (repeat (first|(with_reducible refine AWo.cons ?_)|((with_reducible refine Step.id ?_);first|((with_reducible apply Step.move);exact rfl;exact rfl)|((with_reducible apply Step.assign);exact rfl;exact rfl)|((with_reducible apply Step.sub);exact rfl;exact rfl;((omega));exact rfl))|(with_reducible first|apply AWo.nil|apply Then.n|apply AW.regL|apply InBlk.n)))
  exact ⟨_, [(0, r'), (1, .int .i64 (n : Nat)), (7, .int .i64 ((k : Int) - 1))], by omega, (by repeat (first | exact trivial | (refine And.intro rfl ?_))), k, _, _, _, rfl, by omega, rfl, by rw [List.append_assoc]; exact hpre, by rw [List.length_append]; simp; omega, hr2, hadd2, rfl⟩
theorem Row.byts {M : AM} {b0 : Nat} {u : Value} {l : List UInt8} (h : Row M b0 1 u (by8 l) l.length) (hM : 0 < M.length) : Byts M u l := by
 obtain ⟨a, h1, h2, h3⟩ := h.sl hM
 refine ⟨a, 0, h1, h2, fun k hk => ?_⟩
 obtain ⟨b, q1, q2⟩ := h3 (by omega)
 refine ⟨b, q1, q2 k _ ?_⟩
 rw [by8_get hk, List.getD_eq_getElem?_getD, List.getElem?_eq_getElem hk]
 rfl
theorem Row.app8 {M : AM} {b0 : Nat} {r : Value} {a b : List UInt8} (h : Row M b0 1 r (by8 a ++ by8 b) (a.length + b.length)) : Row M b0 1 r (by8 (a ++ b)) (a ++ b).length := by
 rw [by8_app, List.length_append]; exact h
section
variable {P : Program} {nt : Nat} {ops : Array Oper} {t : Fm} {m : AM} {K : Fm → AM → Prop} {d T : Nat} {p : String} {af : Array Edge}
end
theorem upL_noT {L : Nat → Bool} {i j : Nat} (h : upL L i j = false) : L j = false := by
 by_cases e : j = i
 ·subst e; rw [upL_same] at h; cases h
 ·rwa [upL_ne L e] at h
structure TI (m0 : AM) (b0 q s : Nat) (base : List (Nat × Value)) (pv : Nat → Option Value) (u0 : Value) (c new : List Value) (n : Nat) (L : Nat → Bool) (t : Fm) (M : AM) : Prop where
 len : m0.length ≤ M.length
 old : ∀ e ∈ base, t e.1 = some e.2
 pure : ∀ j v, pv j = some v → L j = true → t (s + j) = some v
 keep : ∀ j, j < m0.length → j ≠ q → NotOf u0 j → M[j]? = m0[j]?
 row : L 20 = false → Row M b0 4 u0 c n
 cell : q < m0.length → L 21 = false → M[q]? = some (some { cells := [u0] })
 six : m0.length ≤ q → L 21 = false → t 6 = some u0
 lit : L 19 = true → ∃ a, t (s + 19) = some (.slice (some ⟨a, 0, none⟩) 1 1) ∧ (L 20 = false → RdL M a 0 new)
 app : L 20 = true → ∃ u, t (s + 20) = some u ∧ SlV u ∧ Row M b0 4 u (c ++ new) (n + 1) ∧ ∀ j, j < m0.length → NotOf u0 j → NotOf u j
 map : ∀ (i : Nat) (b : Blk), M[i]? = some (some b) → isMapK b.kind = true → m0[i]? = some (some b)
 c0 : L 20 = true → L 0 = true
 c21 : L 21 = true → L 20 = true
 fin : L 21 = true → ∃ u, Row M b0 4 u (c ++ new) (n + 1) ∧ (∀ j, j < m0.length → NotOf u0 j → NotOf u j) ∧ (q < m0.length → M[q]? = some (some { cells := [u] })) ∧ (m0.length ≤ q → t 6 = some u)
section
variable {m0 M : AM} {b0 q s : Nat} {base : List (Nat × Value)} {pv : Nat → Option Value} {u0 : Value} {c new : List Value} {n : Nat} {L : Nat → Bool} {t : Fm}
theorem TI.start (h : ∀ e ∈ base, t e.1 = some e.2) (hr : Row m0 b0 4 u0 c n) (hc : q < m0.length → m0[q]? = some (some { cells := [u0] })) (h6 : m0.length ≤ q → t 6 = some u0) : TI m0 b0 q s base pv u0 c new n (fun _ => false) t m0 :=
 ⟨Nat.le_refl _, h, fun _ _ _ q => (by cases q), fun _ _ _ _ => rfl, fun _ => hr, fun h _ => hc h, fun h _ => h6 h, fun q => (by cases q), fun q => (by cases q), fun i b hi _ => hi, fun q => (by cases q), fun q => (by cases q), fun q => (by cases q)⟩
theorem TI.put (h : TI m0 b0 q s base pv u0 c new n L t M) (hb : ∀ e ∈ base, e.1 < s) (hs : 6 < s) {j : Nat} {v : Value} (hv : pv j = some v) (hj : j < 19) : TI m0 b0 q s base pv u0 c new n (upL L j) (Abs.put t (s + j) v) M where
 len := h.len
 old := fun e he => by rw [put_ne t v (by have := hb e he; omega)]; exact h.old e he
 pure := fun k w hw hk => by
  by_cases e : k = j
  ·subst e
   rw [hv] at hw
   injection hw with hw
   rw [put_same, hw]
  ·rw [upL_ne L e] at hk
   rw [put_ne t v (by omega)]
   exact h.pure k w hw hk
 keep := h.keep
 row := fun r => h.row (upL_noT r)
 cell := fun r r2 => h.cell r (upL_noT r2)
 six := fun r r2 => by rw [put_ne t v (by omega)]; exact h.six r (upL_noT r2)
 lit := fun r => by
  rw [upL_ne L (by omega)] at r
  obtain ⟨a, a1, a2⟩ := h.lit r
  exact ⟨a, by rw [put_ne t v (by omega)]; exact a1, fun r => a2 (upL_noT r)⟩
 app := fun r => by
  rw [upL_ne L (by omega)] at r
  obtain ⟨a, a1, a2⟩ := h.app r
  exact ⟨a, by rw [put_ne t v (by omega)]; exact a1, a2⟩
 map := h.map
 c0 := fun r => by
  rw [upL_ne L (by omega)] at r
  by_cases e : 0 = j
  ·rw [← e]; exact upL_same _ _
  ·rw [upL_ne L e]; exact h.c0 r
 c21 := fun r => by rw [upL_ne L (by omega)] at r ⊢; exact h.c21 r
 fin := fun r => by
  rw [upL_ne L (by omega)] at r
  obtain ⟨a, a1, a2, a3, a4⟩ := h.fin r
  exact ⟨a, a1, a2, a3, fun r => by rw [put_ne t v (by omega)]; exact a4 r⟩
theorem TI.setLit (h : TI m0 b0 q s base pv u0 c new n L t M) (hb : ∀ e ∈ base, e.1 < s) (hs : 6 < s) (hp : pv 19 = none) : TI m0 b0 q s base pv u0 c new n (upL L 19) (Abs.put t (s + 19) (.slice (some ⟨M.length, 0, none⟩) 1 1)) (M ++ [some { cells := new }]) where
 len := by have := h.len; rw [List.length_append]; omega
 old := fun e he => by rw [put_ne t _ (by have := hb e he; omega)]; exact h.old e he
 pure := fun k w hw hk => by
  have e : k ≠ 19 := fun e => by rw [e, hp] at hw; cases hw
  rw [upL_ne L e] at hk
  rw [put_ne t _ (by omega)]
  exact h.pure k w hw hk
 keep := fun j hj hne hn => by rw [List.getElem?_append_left (by have := h.len; omega)]; exact h.keep j hj hne hn
 row := fun r => (h.row (upL_noT r)).old _
 cell := fun r r2 => get_old _ (h.cell r (upL_noT r2))
 six := fun r r2 => by rw [put_ne t _ (by omega)]; exact h.six r (upL_noT r2)
 lit := fun _ => ⟨M.length, put_same .., fun _ => ⟨{ cells := new }, by simp, fun j v hj => by rw [Nat.zero_add]; exact hj⟩⟩
 app := fun r => by
  rw [upL_ne L (by omega)] at r
  obtain ⟨a, a1, a2, a3, a4⟩ := h.app r
  exact ⟨a, by rw [put_ne t _ (by omega)]; exact a1, a2, a3.old _, a4⟩
 map := fun i b hi hb => by
  rcases Nat.lt_or_ge i M.length with hl | hl
  ·rw [List.getElem?_append_left hl] at hi; exact h.map i b hi hb
  ·rw [List.getElem?_append_right hl] at hi
   rcases Nat.eq_zero_or_pos (i - M.length) with e | e
   ·rw [e] at hi
    simp at hi
    subst hi
    cases hb
   ·rw [List.getElem?_eq_none (by simp; omega)] at hi; cases hi
 c0 := fun r => by rw [upL_ne L (by omega)] at r ⊢; exact h.c0 r
 c21 := fun r => by rw [upL_ne L (by omega)] at r ⊢; exact h.c21 r
 fin := fun r => by
  rw [upL_ne L (by omega)] at r
  obtain ⟨a, a1, a2, a3, a4⟩ := h.fin r
  exact ⟨a, a1.old _, a2, fun r => get_old _ (a3 r), fun r => by rw [put_ne t _ (by omega)]; exact a4 r⟩
theorem TI.setApp (h : TI m0 b0 q s base pv u0 c new n L t M) (hb : ∀ e ∈ base, e.1 < s) (hs : 6 < s) (hp : pv 20 = none) (h0 : L 0 = true) (h20 : L 20 = false) (hq : q < m0.length → NotOf u0 q) {u : Value} {M' : AM} (hr : Row M' b0 4 u (c ++ new) (n + 1)) (hml : M.length ≤ M'.length) (hk : ∀ j, j < M.length → NotOf u0 j → M'[j]? = M[j]?) (hk2 : ∀ j, j < M.length → NotOf u0 j → NotOf u j) (hk3 : ∀ (i : Nat) (b : Blk), M'[i]? = some (some b) → isMapK b.kind = true → M[i]? = some (some b)) : TI m0 b0 q s base pv u0 c new n (upL L 20) (Abs.put t (s + 20) u) M' where
 len := by have := h.len; omega
 old := fun e he => by rw [put_ne t _ (by have := hb e he; omega)]; exact h.old e he
 pure := fun k w hw hk => by
  have e : k ≠ 20 := fun e => by rw [e, hp] at hw; cases hw
  rw [upL_ne L e] at hk
  rw [put_ne t _ (by omega)]
  exact h.pure k w hw hk
 keep := fun j hj hne hn => by rw [hk j (by have := h.len; omega) hn]; exact h.keep j hj hne hn
 row := fun r => by rw [upL_same] at r; cases r
 cell := fun r r2 => by rw [hk q (by have := h.len; omega) (hq r)]; exact h.cell r (upL_noT r2)
 six := fun r r2 => by rw [put_ne t _ (by omega)]; exact h.six r (upL_noT r2)
 lit := fun r => by
  rw [upL_ne L (by omega)] at r
  obtain ⟨a, a1, a2⟩ := h.lit r
  exact ⟨a, by rw [put_ne t _ (by omega)]; exact a1, fun r => by rw [upL_same] at r; cases r⟩
 app := fun r => ⟨u, put_same .., hr.slv, hr, fun j hj hn => hk2 j (by have := h.len; omega) hn⟩
 map := fun i b hi hb => h.map i b (hk3 i b hi hb) hb
 c0 := fun _ => by rw [upL_ne L (by omega)]; exact h0
 c21 := fun _ => upL_same _ _
 fin := fun r => by
  rw [upL_ne L (by omega)] at r
  rw [h.c21 r] at h20
  cases h20
theorem TI.setSto (h : TI m0 b0 q s base pv u0 c new n L t M) (h20 : L 20 = true) (hp : pv 21 = none) (hqm : q < m0.length) (hq : NotOf u0 q) : ∃ u, t (s + 20) = some u ∧ SlV u ∧ TI m0 b0 q s base pv u0 c new n (upL L 21) t (M.set q (some { cells := [u] })) := by
 obtain ⟨u, a1, a2, a3, a4⟩ := h.app h20
 have hlen := h.len
 refine ⟨u, a1, a2, ?_⟩
 exact
 {len := by rw [List.length_set]; exact hlen
  old := h.old
  pure := fun k w hw hk => by
   have e : k ≠ 21 := fun e => by rw [e, hp] at hw; cases hw
   rw [upL_ne L e] at hk
   exact h.pure k w hw hk
  keep := fun j hj hne hn => by rw [List.getElem?_set_ne (Ne.symm hne)]; exact h.keep j hj hne hn
  row := fun r => by rw [upL_ne L (by omega), h20] at r; cases r
  cell := fun r r2 => by rw [upL_same] at r2; cases r2
  six := fun r r2 => by omega
  lit := fun r => by
   rw [upL_ne L (by omega)] at r
   obtain ⟨a, b1, b2⟩ := h.lit r
   exact ⟨a, b1, fun r => by rw [upL_ne L (by omega), h20] at r; cases r⟩
  app := fun r => ⟨u, a1, a2, a3.set (a4 q hqm hq), a4⟩
  map := fun i b hi hb => by
   by_cases e : q = i
   ·subst e
    rw [List.getElem?_set_self (by omega)] at hi
    injection hi with hi; injection hi with hi; subst hi
    cases hb
   ·rw [List.getElem?_set_ne e] at hi; exact h.map i b hi hb
  c0 := fun r => by rw [upL_ne L (by omega)] at r ⊢; exact h.c0 r
  c21 := fun _ => by rw [upL_ne L (by omega)]; exact h20
  fin := fun _ => ⟨u, a3.set (a4 q hqm hq), a4, fun _ => List.getElem?_set_self (by omega), fun r => by omega⟩ }
end
theorem Post.none_put {base : Nat} {R : Pl} {m : AM} {w : World} (h : MRep base R m w) (q : Sim.Place) : Post base m (m ++ [none]) R (R.put m.length q) w w := by
 have hle := Pl.le_put R m.length q (h.none_ _ (Nat.le_refl _))
 have old : ∀ (i : Nat) (b : Blk), (m ++ [none])[i]? = some (some b) → m[i]? = some (some b) := by
  intro i b hi
  rcases Nat.lt_or_ge i m.length with hl | hl
  ·rwa [List.getElem?_append_left hl] at hi
  ·rw [List.getElem?_append_right hl] at hi
   rcases Nat.eq_zero_or_pos (i - m.length) with e | e
   ·rw [e] at hi; simp at hi
   ·rw [List.getElem?_eq_none (by simp; omega)] at hi; cases hi
 have ne : ∀ (i : Nat) (b : Blk), m[i]? = some (some b) → i ≠ m.length := fun i b hi => by
  have := (List.getElem?_eq_some_iff.1 hi).1
  omega
 refine ⟨hle, ⟨fun j hj => ?_, fun j d hj => ?_, fun i j b c p r hi hj hb hc hij hp hr => ?_⟩, rfl, rfl, rfl, Nat.le_refl _, fun _ _ _ => rfl, fun k ho => .inr ?_⟩
 ·simp at hj
  rw [Pl.put_other _ _ (by omega)]
  exact h.none_ j (by omega)
 ·obtain ⟨r, h1, h2⟩ := h.rep j d (old j d hj)
  exact ⟨r, hle _ _ h1, h2.mono hle⟩
 ·rw [Pl.put_other _ _ (ne i b (old i b hi))] at hp
  rw [Pl.put_other _ _ (ne j c (old j c hj))] at hr
  exact h.apart i j b c p r (old i b hi) (old j c hj) hb hc hij hp hr
 ·obtain ⟨i, b, p, h1, h2, h3, h4⟩ := ho
  rw [Pl.put_other _ _ (ne i b (old i b h1))] at h3
  exact ⟨i, b, p, old i b h1, h2, h3, h4⟩
section
variable {P : Program} {nt : Nat} {ops : Array Oper} {t : Fm} {m : AM} {K : Fm → AM → Prop} {d T : Nat} {p : String} {af : Array Edge}
theorem Step.restN {x y : Operand} {X e s a o n c l : Nat} {kk : IntKind} {i : Int} (hx : evo t x = some (.slice (some ⟨a, o, none⟩) n c)) (hy : evo t y = some (.int kk i)) (hi : i = ((l : Nat) : Int)) (hl : l ≤ n) (hn : n ≤ c) (hX : P.underlying X = some (.slice e)) (hsz : szB P e = some s)
  (hlt : Nat.blt d nt = true) (hK : ∀ a' o', a' < m.length + 1 ∨ a' = a → (l < n → a' = a ∧ o' = o + l * s) → K (put t d (.slice (some ⟨a', o', none⟩) (n - l) (c - l))) (m ++ [none])) : Step P nt ops ⟨some d, .slice X x (some y) none none, T, p, af, none⟩ t m K := by
 subst hi
 refine .l rfl rfl hlt (by simp [stillB, hX]) (by simp [Op.operands, hx, hy]) ?_
 intro base R w b Q next hb hm hev hn'
 have h1 := hev x (by simp [Op.operands])
 have h2 := hev y (by simp [Op.operands])
 rw [evD_of hx] at h1
 rw [evD_of hy] at h2
 obtain ⟨q, hq, ex⟩ : ∃ q, R a = some q ∧ b.eval x = .slice (some ⟨q.block, q.off + o, none⟩) n (c + q.extra) := by
  generalize b.eval x = x' at h1
  cases h1 with
  | slice _ _ _ _ q hq hle => exact ⟨q, hq, rfl⟩
 have ey : b.eval y = .int kk ((l : Nat) : Int) := by
  generalize b.eval y = y' at h2
  cases h2
  rfl
 have b1 : bnd 0 (some (.int kk ((l : Nat) : Int))) = some l := by simp [bnd]
 have b2 : bnd n none = some n := by simp [bnd]
 obtain ⟨u, hu⟩ : ∃ u, u = (if c + q.extra = l then (⟨q.block, q.off + o, none⟩ : Addr) else (⟨q.block, q.off + o, none⟩ : Addr).add (l * s)) := ⟨_, rfl⟩
 have hr : (Instr.sliceAt X (b.eval x) (some (b.eval y)) none none).run P w = .ok (.slice (some u) (n - l) (c + q.extra - l)) w := by
  rw [ex, ey, hu]
  simp [Instr.sliceAt, Instr.slice, run_underlying hX, run_bounds (P := P) b1 b2 hl (show n ≤ c + q.extra by omega), run_sizeOf' hsz]
  split <;> rfl
 have hx' : (execOp b.eval ⟨some d, .slice X x (some y) none none, T, p, af, none⟩).run P w = .ok (.value (.slice (some u) (n - l) (c + q.extra - l))) w := by simp [execOp, hr]
 by_cases hc : c = l
 ·obtain rfl : n = l := by omega
  subst hc
  have hrel : ∃ z : Sim.Place, u = ⟨z.block, z.off, none⟩ ∧ z.extra = q.extra := by
   by_cases hz : c + q.extra = c
   ·rw [if_pos hz] at hu
    exact ⟨⟨q.block, q.off + o, q.extra⟩, hu, rfl⟩
   ·rw [if_neg hz, Addr.add_lit] at hu
    exact ⟨⟨q.block, q.off + o + c * s, q.extra⟩, hu, rfl⟩
  obtain ⟨z, hz, hze⟩ := hrel
  refine wp_of_does rfl (.inl hx') (hn' (R.put m.length z) (.slice (some ⟨m.length, 0, none⟩) (c - c) (c - c)) _ _ w ?_ (Post.none_put hm z) (hK m.length 0 (.inl (by omega)) (fun h => by omega)))
  have := Rel.slice (R := R.put m.length z) m.length 0 0 0 z (Pl.put_same _ _ _) (Nat.le_refl _)
  rw [hze] at this
  rw [hz, show c + q.extra - c = q.extra by omega, Nat.sub_self]
  simpa using this
 ·refine wp_of_does rfl (.inl hx') (hn' (R.put m.length q) (.slice (some ⟨a, o + l * s, none⟩) (n - l) (c - l)) _ _ w ?_ (Post.none_put hm q) (hK a (o + l * s) (.inr rfl) (fun _ => ⟨rfl, rfl⟩)))
  have hle := Pl.le_put R m.length q (hm.none_ _ (Nat.le_refl _))
  have := Rel.slice (R := R.put m.length q) a (o + l * s) (n - l) (c - l) q (hle _ _ hq) (by omega)
  rw [if_neg (by omega), Addr.add_lit] at hu
  rw [hu, show c + q.extra - l = c - l + q.extra by omega]
  simpa [Nat.add_assoc] using this
end
theorem sz5 : szB Try.prog 5 = some 1 := by kernel_rfl
def BytsAt (m : AM) (v : Value) (a o : Nat) (l : List UInt8) : Prop := Sl v a o l.length ∧ ∀ k, k < l.length → Rd m a (o + k) (.int .u8 ((l.getD k 0).toNat : Nat))
theorem BytsAt.keep {m M : AM} {v : Value} {a o : Nat} {l : List UInt8} (h : BytsAt m v a o l) (hk : M[a]? = m[a]?) : BytsAt M v a o l := ⟨h.1, fun k hk' => by
 obtain ⟨b, q1, q2⟩ := h.2 k hk'
 exact ⟨b, by rw [hk]; exact q1, q2⟩⟩
theorem PostsAt.notOf {M : AM} {b0 a sz : Nat} {kd : Kind} {pv : Value} {P : List (List Tr)} {l : List Tr} (h : PostsAt M b0 pv P) (ha : M[a]? = some (some { cells := tcs l, kind := kd, size := sz })) (hl : 0 < l.length) : NotOf pv a := by
 intro n c e
 obtain ⟨pc, hrow, hps⟩ := h
 rcases hrow with ⟨h0, _⟩ | ⟨a', kd', sz', k1, k2, k3, k4, k5⟩
 ·rw [e] at h0; cases h0
 ·rw [k2] at e
  simp only [Value.slice.injEq, Option.some.injEq, Addr.mk.injEq] at e
  obtain ⟨rfl, _⟩ := e.1
  rw [ha] at k3
  injection k3 with k3; injection k3 with k3
  injection k3 with k3 _ _
  subst k3
  rw [tcs_len] at k4
  obtain ⟨u, q1, a'', _, _, q4, _⟩ := hps 0 (by omega)
  have := tcs_get l 0 hl 0 _ rfl
  simp only [Nat.zero_mul, Nat.zero_add] at this
  rw [this] at q1
  injection q1 with q1
  rw [q4] at q1
  cases q1
theorem Row.trsKeep {M M' : AM} {b0 b1 xk : Nat} {pv u : Value} {P : List (List Tr)} {l : List Tr} (hX : PostsAt M b1 pv P) (hne : ∀ a x, Rd M a 0 (.int .i64 x) → a ≠ xk) (hr : Row M b0 4 u (tcs l) l.length) (h0 : 0 < M.length) (hF : Fr M M' xk pv) : Trs M' u l := by
 rcases hr with ⟨rfl, h1, h2⟩ | ⟨a, kd, sz, k1, rfl, k3, k4, k5⟩
 ·obtain rfl := List.eq_nil_of_length_eq_zero h2
  exact Trs.nil (by have := hF.1; omega)
 ·have hal := (List.getElem?_eq_some_iff.1 k3).1
  by_cases hl : 0 < l.length
  ·have hrd : Rd M a 0 (.int .i64 (l.getD 0 default).i) := ⟨_, k3, by simpa using tcs_get l 0 hl 0 _ rfl⟩
   have e : M'[a]? = M[a]? := hF.2 a hal (hne a _ hrd) (hX.notOf k3 hl)
   exact ⟨a, 0, Sl.mk (Nat.le_refl _), by have := hF.1; omega, fun k hk => ⟨_, by rw [e]; exact k3, fun j v hj => by rw [Nat.zero_add]; exact tcs_get l k hk j v hj⟩⟩
  ·obtain rfl := List.eq_nil_of_length_eq_zero (show l.length = 0 by omega)
   exact ⟨a, 0, Sl.mk (Nat.le_refl _), by have := hF.1; omega, fun k hk => by simp at hk⟩
section
variable {P : Program} {nt : Nat} {ops : Array Oper} {t : Fm} {m : AM} {K : Fm → AM → Prop} {d T : Nat} {p : String} {af : Array Edge}
theorem Step.toStrB {x : Operand} {S D e a o n : Nat} {v : Value} {l : List UInt8} (hx : evo t x = some v) (hs : Sl v a o n) (hn : l.length = n) (hrd : 0 < n → RdL m a o (by8 l)) (hS : P.underlying S = some (.slice e)) (he : P.underlying e = some (.int .u8)) (hD : P.underlying D = some .string)
  (hlt : Nat.blt d nt = true) (hK : K (put t d (.string ⟨l.toArray⟩)) m) : Step P nt ops ⟨some d, .convert S D x, T, p, af, none⟩ t m K := by
 refine .l rfl rfl hlt (by simp [stillB, hS]) (by simp [Op.operands, hx]) ?_
 intro base R w b Q next hb hm hev hn'
 have h1 := hev x (by simp [Op.operands])
 rw [evD_of hx] at h1
 have hrun : (convert S D (b.eval x)).run P w = .ok (.string ⟨l.toArray⟩) w := by
  generalize b.eval x = x' at h1
  rcases hs with ⟨rfl, h0⟩ | ⟨c, hc, rfl⟩ | ⟨h0, o', k, rfl⟩
  ·obtain rfl : l = [] := List.eq_nil_of_length_eq_zero (by omega)
   cases h1
   rw [run_convert_bytes_string w S D e none 0 0 hS he hD]
   simp [Conv.bytesToString]
   rfl
  ·cases h1 with
   | slice _ _ _ _ q hq hle =>
   subst hn
   refine run_convert_bytes_back w S D e _ _ l hS he hD fun j hj => ?_
   obtain ⟨blk, k1, k2⟩ := hrd (by omega)
   obtain ⟨v', r1, r2⟩ := (hm.of k1 hq).cell (k2 j _ (by8_get hj))
   rw [Addr.add_lit]
   cases r2
   rw [Nat.add_assoc]
   exact r1
  ·obtain rfl : l = [] := List.eq_nil_of_length_eq_zero (by omega)
   subst h0
   cases h1 with
   | sliceSpot _ _ _ q hq => exact run_convert_bytes_back w S D e _ _ [] hS he hD fun j hj => by simp at hj
 exact wp_of_does rfl (.inl (by simp [execOp, hrun])) (hn' R (.string ⟨l.toArray⟩) _ m w (.string _) (.refl hm) hK)
theorem Step.eqlS {x y : Operand} {X Y : TypeId} {a b : ByteArray} (hx : evo t x = some (.string a)) (hy : evo t y = some (.string b)) (hX : P.underlying X = some .string) (hlt : Nat.blt d nt = true) (hK : K (put t d (.bool (a.toList == b.toList))) m) : Step P nt ops ⟨some d, .binOp .eql X x y Y, T, p, af, none⟩ t m K := by
 refine .ground rfl rfl hlt (by simp [Op.operands, hx, hy, g1, g0]) (fun h => by simp only [aquiet, evD_of hx, evD_of hy, aint, anil, hX]; simpa [evD_of hx, evD_of hy] using h) ?_ (by simp [g1, g0]) hK
 simp only [execOp, eqGuard, binOp, evD_of hx, evD_of hy, bind, Sem.bind, pure]
 rfl
end
theorem un9 : Try.prog.underlying 9 = some .string := by kernel_rfl
theorem Byts.row {m : AM} {v : Value} {l : List UInt8} (h : Byts m v l) : ∃ a o, Sl v a o l.length ∧ (0 < l.length → RdL m a o (by8 l)) := by
 obtain ⟨a, o, h1, h2, h3⟩ := h
 refine ⟨a, o, h1, fun h0 => ?_⟩
 obtain ⟨b, q1, _⟩ := h3 0 h0
 refine ⟨b, q1, fun j v hj => ?_⟩
 have hj1 := (List.getElem?_eq_some_iff.1 hj).1
 rw [by8_len] at hj1
 obtain ⟨b', r1, r2⟩ := h3 j hj1
 rw [q1] at r1; injection r1 with r1; injection r1 with r1; subst r1
 rw [by8_get hj1] at hj
 injection hj with hj
 rw [← hj, r2, List.getD_eq_getElem?_getD, List.getElem?_eq_getElem hj1]
 rfl
set_option maxRecDepth 100000 in
theorem Equal_ok {m : AM} {v w : Value} {l k : List UInt8} (hv : Byts m v l) (hw : Byts m w k) : ACall Try.prog 19 #[v, w] m (Ret (.bool (l == k)) m) := by
 obtain ⟨a1, o1, s1, r1⟩ := hv.row
 obtain ⟨a2, o2, s2, r2⟩ := hw.row
 refine ACall.start Try.func19 rfl rfl ?_
 (repeat (first|(with_reducible refine AWo.cons ?_)|((with_reducible refine Step.id ?_);first|((with_reducible apply Step.move);exact rfl;exact rfl)|((with_reducible apply Step.assign);exact rfl;exact rfl))|(with_reducible first|apply AWo.nil|apply AW.seq|apply Then.n|apply AW.regL)))
 ((with_reducible apply Step.toStrB);exact rfl;exact s1;exact rfl;exact (fun h => (r1 h).old _);exact un22;exact un5;exact un9;exact rfl)
 (repeat (first|(with_reducible refine AWo.cons ?_)|((with_reducible refine Step.id ?_);((with_reducible apply Step.move);exact rfl;exact rfl))))
 ((with_reducible apply Step.toStrB);exact rfl;exact s2;exact rfl;exact (fun h => (r2 h).old _);exact un22;exact un5;exact un9;exact rfl)
 (repeat ((with_reducible refine AWo.cons ?_)))
 ((with_reducible apply Step.eqlS);exact rfl;exact rfl;exact un9;exact rfl)
 (repeat (first|(with_reducible refine AWo.cons ?_)|((with_reducible refine Step.id ?_);((with_reducible apply Step.assign);exact rfl;exact rfl))|(with_reducible first|apply AWo.nil|apply Then.n)))
 (refine AW.retD (l := [(4, _)]) (by repeat (first | exact trivial | (refine And.intro ⟨rfl, by (exact .bool _)⟩ ?_))) ?_; (repeat (first | refine Then.r ?_ | refine InBlk.r ?_)))
 exact ⟨_, rfl, by simp, rfl⟩
theorem fold_eq : ∀ (l : List UInt8) (n : Nat), l.foldl (fun n c => n * 256 + c.toNat) n = n * 2 ^ (8 * l.length) + numB l
 | [], n => by simp [numB]
 | x :: l, n => by
  have h1 := fold_eq l (n * 256 + x.toNat)
  have h2 := fold_eq l (0 * 256 + x.toNat)
  have e : numB (x :: l) = l.foldl (fun n c => n * 256 + c.toNat) (0 * 256 + x.toNat) := rfl
  rw [e, h2, List.foldl_cons, h1, List.length_cons, show 8 * (l.length + 1) = 8 * l.length + 8 by omega, Nat.pow_add]
  generalize 2 ^ (8 * l.length) = Q
  rw [show (2 : Nat) ^ 8 = 256 by decide, Nat.add_mul, Nat.zero_mul, Nat.zero_add, Nat.mul_assoc, Nat.mul_comm 256 Q]
  omega
theorem be_fold : ∀ (l : List UInt8) (n : Nat), be (l.foldl (fun n c => n * 256 + c.toNat) n) l.length = l
 | [], n => rfl
 | x :: l, n => by
  have h1 := be_fold l (n * 256 + x.toNat)
  rw [List.foldl_cons, List.length_cons]
  show UInt8.ofNat (_ / 2 ^ (8 * l.length)) :: be _ l.length = _
  rw [h1]
  congr 1
  have hb := numB_lt l
  rw [fold_eq, Nat.mul_comm, Nat.mul_add_div (Nat.pow_pos (by decide)), Nat.div_eq_of_lt hb, Nat.add_zero]
  apply UInt8.toNat_inj.1
  have := x.toNat_lt
  rw [UInt8.toNat_ofNat']
  omega
theorem BytsAt.byts {m : AM} {v : Value} {a o : Nat} {l : List UInt8} (h : BytsAt m v a o l) (ha : a < m.length) : Byts m v l := ⟨a, o, h.1, ha, h.2⟩
section
variable {P : Program}
theorem still_eqI {X : TypeId} (hX : P.underlying X = some (.int .i64)) (n : Nat) (a b : Int) : Sim.still P (Op.equalIn (n + 1) X (.int .i64 a) (.int .i64 b)) = some (a == b) := by
 rw [Op.equalIn]
 show Sim.still P (Sem.bind (underlying X) _) = _
 rw [still_bind, still_und hX]
 rfl
end
theorem part_tr {c : Array Value} {x : Int} {k : Nat} (hk : c[k]? = some (.int .i64 x)) : Sim.still Try.prog (part 3 c k) = some (.int .i64 x) := by
 unfold part
 have ha : Sim.still Try.prog (isAgg 3) = some false := by kernel_rfl
 show Sim.still Try.prog (Sem.bind (isAgg 3) _) = _
 rw [still_bind, ha]
 simp only [hk]
 rfl
section
variable {nt : Nat} {ops : Array Oper} {t : Fm} {m : AM} {K : Fm → AM → Prop} {d T : Nat} {p : String} {af : Array Edge}
end
section
variable {nt : Nat} {ops : Array Oper} {t : Fm} {m : AM} {K : Fm → AM → Prop} {d T : Nat} {p : String} {af : Array Edge}
end
theorem by8_all (l : List UInt8) : (by8 l).all (·.oneCell') = true := by
 rw [List.all_eq_true]
 intro v hv
 obtain ⟨x, _, rfl⟩ := List.mem_map.1 hv
 rfl
theorem AW.joinQ {P : Program} {nt : Nat} {m m0 : AM} {t : Fm} {c : Code} {Q : AEx → Fm → AM → Prop} (Mid : Fm → AM → Prop) (h : AW P nt m0 c t m (fun e t' m' => e = .normal ∧ Mid t' m')) (h2 : ∀ t' m', Mid t' m' → Q .normal t' m') : AW P nt m0 c t m Q :=
 h.mono fun e t' m' ⟨e1, e2⟩ => by subst e1; exact h2 _ _ e2
set_option maxHeartbeats 4000000 in
set_option maxRecDepth 100000 in
theorem number_ok {m : AM} {n s : Nat} (hn : n ≤ 9223372036854775807) (hs : s ≤ 8) :
  ACall Try.prog 104 #[.int .i64 (n : Nat), .int .i64 (s : Nat)] m (More (fun M r => Row M m.length 1 r (by8 (be n s)) (be n s).length) m) := by
 refine ACall.start Try.func104 rfl rfl ?_
 (repeat (first|(with_reducible refine AWo.cons ?_)|((with_reducible refine Step.id ?_);first|((with_reducible apply Step.move);exact rfl;exact rfl)|((with_reducible apply Step.assign);exact rfl;exact rfl)|((with_reducible apply Step.sub);exact rfl;exact rfl;((omega));exact rfl))|(with_reducible first|apply AWo.nil|apply AW.seq|apply Then.n|apply AW.regL|apply AW.block)))
 refine AW.loopW (fun q t M => ∃ (k : Nat) (z : Int) (pre : List UInt8) (r : Value), q = k ∧ k ≤ s ∧ z = (k : Int) - 1 ∧ pre ++ be n k = be n s ∧ pre.length + k = s ∧ Row M m.length 1 r (by8 pre) pre.length ∧ (∃ N, M = m ++ N) ∧
  t = fr [(0, .int .i64 (n : Nat)), (5, r), (6, .int .i64 z)]) ⟨_, _, (by repeat (first | exact trivial | (refine And.intro rfl ?_))), s, _, [], _, rfl, Nat.le_refl _, rfl, rfl, by simp, Row.nil, ⟨_, rfl⟩, rfl⟩ ?_
 rintro q t M ⟨k, z, pre, r, rfl, hk, hz, hpre, hpl, hrow, ⟨N, rfl⟩, rfl⟩
 rcases q with _ | k
 ·subst hz
  refine AW.rebase ?_
  (repeat (first|(with_reducible refine AWo.cons ?_)|((with_reducible refine Step.id ?_);first|((with_reducible apply Step.move);exact rfl;exact rfl)|((with_reducible apply Step.assign);exact rfl;exact rfl)|((with_reducible apply Step.geq);exact rfl;exact rfl;exact rfl))|(with_reducible first|apply AWo.nil|apply AW.seq|apply Then.n|apply AW.regL|apply AW.exit|apply InBlk.hit|apply Then.e)|((with_reducible apply AW.condF);exact rfl;((rfl)))))
  (refine AW.ret ?_; (repeat (first | refine Then.r ?_ | refine InBlk.r ?_)))
  rw [show be n 0 = [] from rfl, List.append_nil] at hpre
  subst hpre
  exact ⟨_, rfl, N, by rw [List.append_nil], by rw [List.append_nil]; exact hrow⟩
 ·obtain rfl : z = (k : Int) := by omega
  have h8 : (8 : Int) * (k : Int) = ((8 * k : Nat) : Int) := by omega
  refine AW.rebase ?_
  (repeat (first|(with_reducible refine AWo.cons ?_)|((with_reducible refine Step.id ?_);first|((with_reducible apply Step.move);exact rfl;exact rfl)|((with_reducible apply Step.mulE);exact rfl;exact rfl;((assumption));((omega));exact rfl)|((with_reducible apply Step.shrN);exact rfl;exact rfl;((omega));exact rfl)|((with_reducible apply Step.geq);exact rfl;exact rfl;exact rfl))|(with_reducible first|apply AWo.nil|apply AW.seq|apply Then.n|apply AW.regL|apply AW.block|apply AW.skip)|((with_reducible apply AW.condT);exact rfl;((rfl)))))
  ((with_reducible apply Step.toB);exact rfl;exact un3;exact un5;exact rfl)
  (repeat (first|(with_reducible refine AWo.cons ?_)|((with_reducible refine Step.id ?_);((with_reducible apply Step.buildS 0);exact rfl;exact rfl;exact (fun _ _ => bs22);exact rfl;((first|(simp only [zq7, zq8, zq9, zq0, iv_set, bv_set, iv_rep, bv_rep] <;> rfl)|rfl))))))
  ((with_reducible apply Step.appRow2 (n := pre.length) (xl := 1) (b0 := m.length) (new := [.int .u8 ((UInt8.ofNat (n / 2 ^ (8 * k))).toNat : Nat)]));exact rfl;exact rfl;exact (hrow.old _);exact (Sl.mk (Nat.le_refl _));exact (fun _ => RdL.new rfl rfl);exact el22;exact un22;exact rfl;exact rfl;exact rfl;((omega));exact rfl;((simp only [List.length_append];omega)))
  intro r' M' hr' hml' hk' _
  have hM' := pre_keep (m0 := m) ⟨N ++ _, (List.append_assoc _ _ _)⟩ hml' fun j hj => hk' j (by simp only [List.length_append]; omega) (NotOf.row hrow hj)
  have hr2 : Row M' m.length 1 r' (by8 (pre ++ [UInt8.ofNat (n / 2 ^ (8 * k))])) (pre ++ [UInt8.ofNat (n / 2 ^ (8 * k))]).length := by
   have e1 : by8 (pre ++ [UInt8.ofNat (n / 2 ^ (8 * k))]) = by8 pre ++ [.int .u8 ((UInt8.ofNat (n / 2 ^ (8 * k))).toNat : Nat)] := by simp [by8]
   have e2 : (pre ++ [UInt8.ofNat (n / 2 ^ (8 * k))]).length = pre.length + 1 := by simp
   rw [e1, e2]
   exact hr'
  (repeat (first|(with_reducible refine AWo.cons ?_)|((with_reducible refine Step.id ?_);first|((with_reducible apply Step.move);exact rfl;exact rfl)|((with_reducible apply Step.assign);exact rfl;exact rfl)|((with_reducible apply Step.sub);exact rfl;exact rfl;((omega));exact rfl))|(with_reducible first|apply AWo.nil|apply Then.n|apply AW.regL|apply InBlk.n)))
  exact ⟨_, [(0, .int .i64 (n : Nat)), (5, r'), (6, .int .i64 ((k : Int) - 1))], by omega, (by repeat (first | exact trivial | (refine And.intro rfl ?_))), k, _, _, _, rfl, by omega, rfl, by rw [List.append_assoc]; exact hpre, by rw [List.length_append]; simp; omega, hr2, hM', rfl⟩
end Go.Proofs.Ytabdnepfcohncaa.Abs
