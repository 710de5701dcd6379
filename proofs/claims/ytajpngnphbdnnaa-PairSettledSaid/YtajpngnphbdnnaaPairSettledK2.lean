/- Proved here: what the proof of PairSettled rests on, part 2 of 5. Conditions: those that each theorem names. -/
import Derived.Test.YtajpngnphbdnnaaPairSettledK1
namespace Go.Proofs.Ytajpngnphbdnnaa.Abs
set_option linter.unusedSimpArgs false
set_option linter.unusedVariables false
open Go.RowKit
open Go.Proofs.Ytajpngnphbdnnaa.Sim
/-- The memory in which block a holds the row l. -/
def St (m : AM) (a : Nat) (kd : Kind) (s : Nat) (l : List Int) : AM := m.set a (some { cells := iv l, kind := kd, size := s })
section
variable {m : AM} {a s : Nat} {kd : Kind} {l k : List Int}
theorem St.len : (St m a kd s l).length = m.length := by simp [St]
theorem St.get (h : a < m.length) : (St m a kd s l)[a]? = some (some { cells := iv l, kind := kd, size := s }) := by simp [St, h]
theorem St.ne {b : Nat} (h : b ≠ a) : (St m a kd s l)[b]? = m[b]? := by simp [St, List.getElem?_set_ne (Ne.symm h)]
theorem St.set : (St m a kd s l).set a (some { cells := iv k, kind := kd, size := s }) = St m a kd s k := by simp [St]
theorem St.st : St (St m a kd s l) a kd s k = St m a kd s k := by simp [St]
theorem St.rd {o : Nat} (h : a < m.length) (ho : o < l.length) : Rd (St m a kd s l) a o (.int .i64 (l.getD o 0)) := ⟨_, St.get h, iv_get ho⟩
theorem St.self (h : m[a]? = some (some { cells := iv l, kind := kd, size := s })) : St m a kd s l = m := by
  apply List.ext_getElem?
  intro i
  by_cases e : i = a
  · subst e; rw [St.get (List.getElem?_eq_some_iff.1 h).1, h]
  · rw [St.ne e]
theorem St.rd_ne {b o : Nat} {v : Value} (h : Rd m b o v) (e : b ≠ a) : Rd (St m a kd s l) b o v := by
  obtain ⟨x, h1, h2⟩ := h
  exact ⟨x, by rw [St.ne e]; exact h1, h2⟩
end
/-- Behind a piece of code one goes on from what holds on all ways. -/
theorem AW.join {P : Program} {nt : Nat} {m0 m : AM} {t : Fm} {c : Code} {K : Fm → AM → Prop} {Q : AEx → Fm → AM → Prop} (Mid : Fm → AM → Prop) (h : AW P nt m0 c t m (Then Mid Q)) (h2 : ∀ t m, Mid t m → K t m) : AW P nt m0 c t m (Then K Q) :=
  h.mono fun e t m => by cases e <;> first | exact h2 t m | exact id
section
variable {P : Program} {nt : Nat} {ops : Array Oper} {t : Fm} {m : AM} {K : Fm → AM → Prop} {d T : Nat} {p : String} {af : Array Edge}
theorem Step.storeR {x y : Operand} {ty : TypeId} {a s o : Nat} {kd : Kind} {l l' : List Int} {v : Int} (hx : evo t x = some (.pointer (some ⟨a, o, none⟩))) (hy : evo t y = some (.int .i64 v)) (hz : szB P ty = some 1) (ha : a < m.length) (hs : kd.solid = true) (ho : o < l.length)
    (hl : l.set o v = l') (hK : K t (St m a kd s l')) : Step P nt ops ⟨none, .store ty x y, T, p, af, none⟩ t (St m a kd s l) K := by
  subst hl
  refine .l0 rfl rfl rfl (by simp [Op.operands, hx, hy]) (loud_of_aloud0 (v := undef) (m' := St m a kd s (l.set o v)) rfl ?_ hK)
  have hsp : splice (iv l) o [.int .i64 v] = iv (l.set o v) := by
    rw [← iv_set]
    unfold splice
    rw [List.set_eq_take_append_cons_drop]
    simp [iv_len, ho]
  simp only [aloud, evD_of hx, evD_of hy, astore, St.get ha, hz]
  rw [if_pos (by simp [hs, iv_len, Value.cells, Value.oneCell']; omega)]
  simp [St.set, hsp, Value.cells]
theorem Step.half {x y : Operand} {X Y : TypeId} {a : Int} (hx : evo t x = some (.int .u64 a)) (hy : evo t y = some (.int .u64 1)) (ha : 0 ≤ a) (hlt : Nat.blt d nt = true) (hK : K (put t d (.int .u64 (a / 2))) m) : Step P nt ops ⟨some d, .binOp .shr X x y Y, T, p, af, none⟩ t m K := by
  refine .ground rfl rfl hlt (by simp [Op.operands, hx, hy, g1, g0]) (fun h => by simp only [aquiet, evD_of hx, evD_of hy, aint, anil]; simpa [evD_of hx, evD_of hy] using h) ?_ (by simp [g1, g0]) hK
  have : a.fdiv 2 = a / 2 := Int.fdiv_eq_ediv_of_nonneg a (by omega)
  simp [execOp, eqGuard, binOp, evD_of hx, evD_of hy, Op.shift, IntKind.bits, this, bind, Sem.bind, pure, Sim.still]
section
variable {X Y : TypeId} {x y : Operand} {a b : Int} {c : Nat}
theorem Step.addE (hx : evo t x = some (.int .i64 a)) (hy : evo t y = some (.int .i64 b)) (he : a + b = ((c : Nat) : Int)) (hr : c ≤ 9223372036854775807) (hlt : Nat.blt d nt = true) (hK : K (put t d (.int .i64 ((c : Nat) : Int))) m) : Step P nt ops ⟨some d, .binOp .add X x y Y, T, p, af, none⟩ t m K := by
  rw [← he] at hK; exact .add hx hy (by omega) hlt hK
theorem Step.subE (hx : evo t x = some (.int .i64 a)) (hy : evo t y = some (.int .i64 b)) (he : a - b = ((c : Nat) : Int)) (hr : c ≤ 9223372036854775807) (hlt : Nat.blt d nt = true) (hK : K (put t d (.int .i64 ((c : Nat) : Int))) m) : Step P nt ops ⟨some d, .binOp .sub X x y Y, T, p, af, none⟩ t m K := by
  rw [← he] at hK; exact .sub hx hy (by omega) hlt hK
end
theorem Sl.cells {v : Value} {a o n : Nat} (h : Sl v a o n) : v.cells = #[v] ∧ v.oneCell' = true := by
  rcases h with ⟨rfl, _⟩ | ⟨c, _, rfl⟩ | ⟨_, o', k, rfl⟩ <;> exact ⟨rfl, rfl⟩
/-- A new variable with a slice. -/
theorem Step.boxV {x : Operand} {ty : TypeId} {v : Value} {M L L' : AM} (k : Nat) (hk : L.length = k) (hx : evo t x = some v) (hv : v.cells = #[v] ∧ v.oneCell' = true) (hlt : Nat.blt d nt = true) (hL : L ++ [some { cells := [v] }] = L') (hK : K (put t d (.pointer (some ⟨M.length + k, 0, none⟩))) (M ++ L')) :
    Step P nt ops ⟨some d, .box ty x, T, p, af, none⟩ t (M ++ L) K :=
  .box k hk hx (by rw [hv.1]; simp [hv.2]) hlt (by rw [hv.1]; exact hL) hK
/-- A call for what it does to the memory. -/
theorem Step.callM {args : Array Operand} {tys : Array TypeId} {g : FuncId} {vs : List Value} {fn : Func} {b : Code} {m m' : AM} {r : Value} (hP : Fit P) (ha : evL t args.toList = some vs) (hf : P.funcs[g]? = some fn) (hb : fn.body = some b)
    (hlt : Nat.blt d nt = true) (h : ACall P g vs.toArray m (Ret r m')) (hK : K (put t d r) m') : Step P nt ops ⟨some d, .call ⟨.value (.func g), args, tys⟩, T, p, af, none⟩ t m K :=
  .callF hP ha hf hb hlt h (by rintro v m1 ⟨rfl, rfl⟩; exact hK)
end
end Go.Proofs.Ytajpngnphbdnnaa.Abs
namespace Go.Proofs.Ytajpngnphbdnnaa.Abs
set_option linter.unusedSimpArgs false
set_option linter.unusedVariables false
open Go.RowKit
open Go.Proofs.Ytajpngnphbdnnaa.Sim
/-- A tree of orders. -/
inductive PT where
  | done
  | step (i : Nat) (rest : PT)
  | both (a b : PT)
deriving DecidableEq
def forkT (g : Nat → Option PT) : List Nat → Option PT
  | [] => none
  | [i] => (g i).map (.step i)
  | i :: rs => match g i, forkT g rs with
    | some a, some b => some (.both (.step i a) b)
    | _, _ => none
def planT (P : Program) (ops : Array Oper) : Nat → Array Bool → Option PT
  | 0, listed => match Region.ready .any ops listed with
    | [] => some .done
    | _ => none
  | f + 1, listed => match Region.ready .any ops listed with
    | [] => some .done
    | rs => match rs.find? (takeB P ops listed) with
      | some i => (planT P ops f (listed.setIfInBounds i true)).map (.step i)
      | none => forkT (fun i => planT P ops f (listed.setIfInBounds i true)) rs
def AWt (P : Program) (nt : Nat) (l : List Oper) (Q : Fm → AM → Prop) : PT → Fm → AM → Prop
  | .done, t, m => Q t m
  | .step i rest, t, m => ∃ o, l[i]? = some o ∧ Step P nt l.toArray o t m (fun t m => AWt P nt l Q rest t m)
  | .both a b, t, m => AWt P nt l Q a t m ∧ AWt P nt l Q b t m
section
variable {P : Program} {nt : Nat} {t : Fm} {m m0 : AM} {Q : Fm → AM → Prop} {l : List Oper}
theorem forkT_ok {g : Nat → Option PT} : ∀ {rs : List Nat} {T : PT}, forkT g rs = some T → AWt P nt l Q T t m → ∀ i ∈ rs, ∃ a, g i = some a ∧ AWt P nt l Q (.step i a) t m
  | [], _, h, _, i, hi => by cases hi
  | [j], T, h, H, i, hi => by
    simp only [forkT, Option.map_eq_some_iff] at h
    obtain ⟨a, h1, rfl⟩ := h
    obtain rfl : i = j := by simpa using hi
    exact ⟨a, h1, H⟩
  | j :: k :: rs, T, h, H, i, hi => by
    simp only [forkT] at h
    split at h
    · rename_i a b h1 h2
      injection h with h; subst h
      rcases List.mem_cons.1 hi with rfl | hi
      · exact ⟨a, h1, H.1⟩
      · exact forkT_ok h2 H.2 i hi
    · cases h
theorem planT_ok : ∀ (f : Nat) (listed : Array Bool) (T : PT) (t : Fm) (m : AM), listed.size = l.toArray.size → planT P l.toArray f listed = some T → AWt P nt l Q T t m → AWd P nt l.toArray Q f listed t m
  | 0, listed, T, t, m, hsz, h, H => by
    unfold planT at h
    split at h
    · rename_i hr
      injection h with h; subst h
      exact ⟨hr, H⟩
    · cases h
  | f + 1, listed, T, t, m, hsz, h, H => by
    unfold planT at h
    split at h
    · rename_i hr
      injection h with h; subst h
      exact ⟨fun _ => H, fun i hi => by rw [hr] at hi; cases hi⟩
    · rename_i hne
      split at h
      · rename_i i hfind
        cases hp : planT P l.toArray f (listed.setIfInBounds i true) with
        | none => rw [hp] at h; cases h
        | some T' =>
          rw [hp] at h
          simp only [Option.map_some, Option.some.injEq] at h
          subst h
          obtain ⟨o, ho', hs⟩ := H
          have ho : l.toArray[i]? = some o := by simpa using ho'
          have hr := List.mem_of_find?_eq_some hfind
          have ht := List.find?_some hfind
          unfold takeB at ht
          rw [ho] at ht
          simp only [Bool.and_eq_true] at ht
          obtain ⟨t1, t2⟩ := ht
          obtain ⟨v, hy, hk⟩ := hs.still t1
          have hih := planT_ok f _ _ _ _ (by simpa using hsz) hp hk
          generalize closeC l.toArray i l.toArray.size listed = C at t2
          unfold takeC at t2
          rw [List.all_eq_true] at t2
          have each : ∀ (j : Nat) (oj : Oper), l.toArray[j]? = some oj → _ := fun j oj hj => by
            have := t2 j (List.mem_range.2 (Array.getElem?_eq_some_iff.1 hj).1)
            rw [hj] at this
            exact this
          simp only [Bool.and_eq_true, Bool.or_eq_true] at each
          refine AWd.take ho hs.1 C listed (fun j oj hj hc hne => ?_) (fun j oj hj hc hl hne => ?_) f listed t m (fun j hj => ?_) (fun _ h => h) hr hy hih
          · have h1 := (each j oj hj).2
            rcases h1 with h1 | h1
            · exact absurd (Nat.eq_of_beq_eq_true h1) hne
            · rw [hc] at h1
              simp only at h1
              obtain ⟨e, he, hb⟩ := Array.any_eq_true'.1 h1
              simp only [Bool.and_eq_true, Bool.not_eq_true'] at hb
              exact ⟨e, he, hb.1, hb.2⟩
          · have h1 := (each j oj hj).2
            rcases h1 with h1 | h1
            · exact absurd (Nat.eq_of_beq_eq_true h1) hne
            · rw [hc] at h1
              simp only [hl, Bool.false_or, Bool.and_eq_true, Bool.or_eq_true] at h1
              exact h1
          · have hlt : j < l.toArray.size := by
              rw [← hsz]
              rcases Nat.lt_or_ge j listed.size with h' | h'
              · exact h'
              · simp [Array.getElem?_eq_none h'] at hj
            have h1 := (each j l.toArray[j] (Array.getElem?_eq_getElem hlt)).1
            rw [hj] at h1
            simpa using h1
      · refine ⟨fun h0 => absurd h0 hne, fun j hj oj hoj => ?_⟩
        obtain ⟨a, ha, o, ho', hs⟩ := forkT_ok h H j hj
        have ho : l.toArray[j]? = some o := by simpa using ho'
        rw [ho] at hoj; injection hoj with hoj; subst hoj
        exact hs.mono fun v m' hk => planT_ok f _ _ _ _ (by simpa using hsz) ha hk
def treeB (P : Program) (ops : Array Oper) (T : PT) : Bool := match planT P ops ops.size (Array.replicate ops.size false) with
  | some T' => decide (T' = T)
  | none => false
/-- A region that draws, in all orders that count. -/
theorem AW.drawT (hP : Fit P) (T : PT) {id : Nat} {Q : AEx → Fm → AM → Prop} (hl : treeB P l.toArray T = true) (h : AWt P nt l (fun t m => Q .normal t m) T t m) : AW P nt m0 (.region id l.toArray true) t m Q := by
  unfold treeB at hl
  split at hl
  · rename_i T' hq
    have e := of_decide_eq_true hl
    subst e
    exact .all hP (planT_ok _ _ _ _ _ (by simp) hq h)
  · cases hl
theorem AWt.step {i : Nat} {rest : PT} {o : Oper} (ho : l[i]? = some o) (h : Step P nt l.toArray o t m (fun t m => AWt P nt l Q rest t m)) : AWt P nt l Q (.step i rest) t m := ⟨o, ho, h⟩
theorem AWt.both {a b : PT} (h1 : AWt P nt l Q a t m) (h2 : AWt P nt l Q b t m) : AWt P nt l Q (.both a b) t m := ⟨h1, h2⟩
theorem AWt.done (h : Q t m) : AWt P nt l Q .done t m := h
theorem AW.atR {id : Nat} {ops : Array Oper} {b : Bool} {rest : Code} {Q : AEx → Fm → AM → Prop} (h : AW P nt m0 (.seq (.region id ops b) rest) t m Q) : AW P nt m0 (.seq (.region id ops b) rest) t m Q := h
theorem AW.joinG {c rest : Code} {Q : AEx → Fm → AM → Prop} (t1 : Fm) (m1 : AM) (h : AW P nt m0 c t m (Then (fun t' m' => Gc m0 t' m' t1 m1) Q)) (h2 : AW P nt m0 rest t1 m1 Q) : AW P nt m0 (.seq c rest) t m Q :=
  .seq (h.mono fun e t m => by cases e <;> first | exact fun hg => AW.gc hg h2 | exact id)
end
/-- Own blocks under other names: σ tells where the new block p lay. -/
def sg (N : Nat) (σ : List Nat) (i : Nat) : Nat := if i < N then i else N + σ.getD (i - N) 0
theorem sg_old {N : Nat} {σ : List Nat} {i : Nat} (h : i < N) : sg N σ i = i := if_pos h
theorem sg_new {N : Nat} {σ : List Nat} (k : Nat) : sg N σ (N + k) = N + σ.getD k 0 := by
  unfold sg; rw [if_neg (by omega), Nat.add_sub_cancel_left]
theorem Gc.perm {t : Fm} {M L L1 : AM} (σ : List Nat) {l : List (Nat × Value)} (hlen : σ.length = L1.length) (hinj : σ.Nodup) (hb : ∀ p, p < L1.length → L1[p]? = L[σ.getD p 0]?) (hc : ∀ b, some b ∈ L1 → ∀ v ∈ b.cells, Ren (sg M.length σ) (M.length + L1.length) v v)
    (h : All (fun i v => ∃ v', t i = some v' ∧ Ren (sg M.length σ) (M.length + L1.length) v v') l) : Gc M t (M ++ L) (fr l) (M ++ L1) := by
  refine ⟨sg M.length σ, by simp, fun j hj => sg_old hj, fun i j b c hi hj e => ?_, fun j b hj => ?_, fun i v hi => by
    obtain ⟨v', h1, h2⟩ := fr_all h i v hi
    exact ⟨v', h1, by simpa using h2⟩⟩
  · have hi' := (List.getElem?_eq_some_iff.1 hi).1
    have hj' := (List.getElem?_eq_some_iff.1 hj).1
    simp only [List.length_append] at hi' hj'
    unfold sg at e
    split at e <;> split at e
    · exact e
    · omega
    · omega
    · have e' : σ.getD (i - M.length) 0 = σ.getD (j - M.length) 0 := by omega
      have h1 : i - M.length < σ.length := by omega
      have h2 : j - M.length < σ.length := by omega
      simp only [List.getD_eq_getElem?_getD, List.getElem?_eq_getElem h1, List.getElem?_eq_getElem h2, Option.getD_some] at e'
      have := (List.getElem_inj hinj).1 e'
      omega
  · rcases Nat.lt_or_ge j M.length with hlt | hge
    · rw [List.getElem?_append_left hlt] at hj
      exact .inl ⟨hlt, get_old _ hj, hj⟩
    · have hjl := (List.getElem?_eq_some_iff.1 hj).1
      simp only [List.length_append] at hjl
      rw [List.getElem?_append_right hge] at hj
      have hmem := List.mem_of_getElem? hj
      refine .inr ⟨b, ?_, rfl, rfl, rfl, fun k v hk => ⟨v, hk, ?_⟩⟩
      · obtain ⟨p, rfl⟩ : ∃ p, j = M.length + p := ⟨j - M.length, by omega⟩
        rw [sg_new, get_app, ← hb p (by omega)]
        rwa [Nat.add_sub_cancel_left] at hj
      · have := hc b hmem v (List.mem_of_getElem? hk)
        simpa using this
theorem lenB {α : Type} {L : List α} {p n : Nat} (h : L.length = n) : ¬ p + n < L.length := by omega
theorem CellsOk.ren {L : AM} {ρ : Nat → Nat} {N : Nat} (h : CellsOk L) : ∀ b, some b ∈ L → ∀ v ∈ b.cells, Ren ρ N v v := fun b hb v hv => .of_g0 (h b hb v hv)
theorem Ren.slice_sg {N n k o l c : Nat} {σ : List Nat} (h : N + k < n) : Ren (sg N σ) n (.slice (some ⟨N + k, o, none⟩) l c) (.slice (some ⟨N + σ.getD k 0, o, none⟩) l c) := by
  have := Ren.slice (ρ := sg N σ) (n := n) (N + k) o l c h
  rwa [sg_new] at this
end Go.Proofs.Ytajpngnphbdnnaa.Abs
namespace Go.Proofs.Ytajpngnphbdnnaa.Abs
set_option linter.unusedSimpArgs false
set_option linter.unusedVariables false
open Go.RowKit
open Go.Proofs.Ytajpngnphbdnnaa.Sim
/-- All cells of a memory's blocks have a property. -/
def CellsP (p : Value → Prop) (L : AM) : Prop := ∀ b, some b ∈ L → ∀ v ∈ b.cells, p v
theorem CellsP.nil {p : Value → Prop} : CellsP p [] := fun b h => by simp at h
theorem CellsP.none {p : Value → Prop} {L : AM} (h : CellsP p L) : CellsP p (none :: L) := fun b hb => h b (by simpa using hb)
theorem CellsP.cons {p : Value → Prop} {b : Blk} {L : AM} (hb : ∀ v ∈ b.cells, p v) (h : CellsP p L) : CellsP p (some b :: L) := fun c hc => by
  rcases List.mem_cons.1 hc with e | e
  · injection e with e; subst e; exact hb
  · exact h c e
theorem CellsP.gb {p : Value → Prop} {c : List Value} {s : Nat} {L : AM} (hb : ∀ v ∈ c, p v) (h : CellsP p L) : CellsP p (gb c s :: L) := by
  cases c with
  | nil => exact .none h
  | cons x l => exact .cons hb h
section
variable {P : Program} {nt : Nat} {m m0 : AM} {t : Fm} {Q : AEx → Fm → AM → Prop}
end
section
variable {P : Program} {nt : Nat} {ops : Array Oper} {t : Fm} {m : AM} {K : Fm → AM → Prop} {d T : Nat} {p : String} {af : Array Edge}
/-- A call that leaves more memory: the caller goes on over this. -/
def More (S : AM → Value → Prop) (m : AM) : Value → AM → Prop := fun v m' => ∃ N, m' = m ++ N ∧ S m' v
theorem Step.callX {args : Array Operand} {tys : Array TypeId} {g : FuncId} {vs : List Value} {fn : Func} {b : Code} {S : AM → Value → Prop} (hP : Fit P) (ha : evL t args.toList = some vs) (hf : P.funcs[g]? = some fn) (hb : fn.body = some b)
    (hlt : Nat.blt d nt = true) (h : ACall P g vs.toArray m (More S m)) (hK : ∀ (v : Value) (M : AM), (∃ N, M = m ++ N) → S M v → K (put t d v) (M ++ [])) : Step P nt ops ⟨some d, .call ⟨.value (.func g), args, tys⟩, T, p, af, none⟩ t m K :=
  .callF hP ha hf hb hlt h (by
    rintro v m' ⟨N, rfl, hS⟩
    have := hK v (m ++ N) ⟨N, rfl⟩ hS
    rwa [List.append_nil] at this)
end
end Go.Proofs.Ytajpngnphbdnnaa.Abs
namespace Go.Proofs.Ytajpngnphbdnnaa.Abs
set_option linter.unusedSimpArgs false
set_option linter.unusedVariables false
open Go.RowKit
open Go.Proofs.Ytajpngnphbdnnaa.Sim
theorem Back.padC {M L : AM} {t : Fm} {m : AM} {l : List (Nat × Value)} (hm : m = M ++ L) (h : All (fun i v => t i = some v ∧ Ren rid (M.length + (L ++ [none]).length) v v) l) (hc : CellsP (fun v => Ren rid (M.length + (L ++ [none]).length) v v) L) : Back M t m l (L ++ [none]) := by
  subst hm
  refine .inr ⟨rid, by simp, fun _ _ => rfl, fun _ _ _ _ _ _ e => e, fun j b hj => ?_, fun i v hi => by
    obtain ⟨h1, h2⟩ := fr_all h i v hi
    exact ⟨v, h1, by simpa using h2⟩⟩
  have hj2 : (M ++ L)[j]? = some (some b) := by
    rw [← List.append_assoc] at hj
    rcases Nat.lt_or_ge j (M ++ L).length with hlt | hge
    · rwa [List.getElem?_append_left hlt] at hj
    · rw [List.getElem?_append_right hge] at hj
      cases q : j - (M ++ L).length with
      | zero => rw [q] at hj; simp at hj
      | succ q' => rw [q] at hj; simp at hj
  rcases Nat.lt_or_ge j M.length with hlt | hge
  · refine .inl ⟨hlt, hj2, ?_⟩
    rwa [List.getElem?_append_left hlt] at hj2
  · refine .inr ⟨b, hj2, rfl, rfl, rfl, fun k v hk => ⟨v, hk, ?_⟩⟩
    rw [List.getElem?_append_right hge] at hj2
    have := hc b (List.mem_of_getElem? hj2) v (List.mem_of_getElem? hk)
    simpa using this
/-- Several ways to one state: the memory is the same, of the slots some are named. -/
theorem AW.joinS {P : Program} {nt : Nat} {m m0 : AM} {t : Fm} {c rest : Code} {Q : AEx → Fm → AM → Prop} (l : List (Nat × Value)) (m1 : AM) (h : AW P nt m0 c t m (Then (fun t' m' => m' = m1 ∧ All (fun i v => t' i = some v) l) Q)) (h2 : AW P nt m0 rest (fr l) m1 Q) : AW P nt m0 (.seq c rest) t m Q :=
  .seq (h.mono fun e t m => by
    cases e
    · rintro ⟨rfl, ha⟩; exact AW.weak (fr_all ha) h2
    · exact id
    · exact id)
theorem AW.pad {P : Program} {nt : Nat} {M L : AM} {t : Fm} {c : Code} {Q : AEx → Fm → AM → Prop} (l : List (Nat × Value)) (h : All (fun i v => t i = some v ∧ Ren rid (M.length + (L ++ [none]).length) v v) l) (hc : CellsP (fun v => Ren rid (M.length + (L ++ [none]).length) v v) L)
    (hk : AW P nt M c (fr l) (M ++ (L ++ [none])) Q) : AW P nt M c t (M ++ L) Q := by
  intro base R0 w0 R a w hb h0 hp ht
  obtain ⟨R1, k1, k2⟩ := (Back.padC rfl h hc).ok h0 hp ht
  exact hk base R0 w0 R1 a w hb h0 k1 k2
section
variable {P : Program} {nt : Nat} {ops : Array Oper} {t : Fm} {m : AM} {K : Fm → AM → Prop} {d T : Nat} {p : String} {af : Array Edge}
/-- s[:h] of a slice that is written out. -/
theorem Step.slTo {x y : Operand} {X e s a o n c h : Nat} {i : Int} {kk : IntKind} (hx : evo t x = some (.slice (some ⟨a, o, none⟩) n c)) (hy : evo t y = some (.int kk i)) (he : i = ((h : Nat) : Int)) (hc : h ≤ c) (hX : P.underlying X = some (.slice e)) (hsz : szB P e = some s)
    (hlt : Nat.blt d nt = true) (hK : K (put t d (.slice (some ⟨a, o, none⟩) h c)) m) : Step P nt ops ⟨some d, .slice X x none (some y) none, T, p, af, none⟩ t m K := by
  subst he
  refine .q (v := .slice (some ⟨a, o, none⟩) h c) rfl rfl hlt ?_ ?_ hK
  · simp [Op.operands, hx, hy]
  · have b2 : bnd n (some (evD t y)) = some h := by rw [evD_of hy]; simp [bnd]
    simp only [aquiet, evD_of hx, aslice0, hX, hsz, Option.map_some, Option.map_none, b2]
    simp [bnd, hc]
end
end Go.Proofs.Ytajpngnphbdnnaa.Abs
namespace Go.Proofs.Ytajpngnphbdnnaa.Abs
set_option linter.unusedSimpArgs false
set_option linter.unusedVariables false
open Go.RowKit
open Go.Proofs.Ytajpngnphbdnnaa.Sim
section
variable {P : Program} {nt : Nat} {ops : Array Oper} {t : Fm} {m : AM} {K : Fm → AM → Prop} {d T : Nat} {p : String} {af : Array Edge}
/-- s[l:] of a slice that is written out. -/
theorem Step.slFrom {x y : Operand} {X e s a o n c l : Nat} {i : Int} {kk : IntKind} (hx : evo t x = some (.slice (some ⟨a, o, none⟩) n c)) (hy : evo t y = some (.int kk i)) (he : i = ((l : Nat) : Int)) (hl : l ≤ n) (hn : n ≤ c) (hc : l < c) (hX : P.underlying X = some (.slice e)) (hsz : szB P e = some s)
    (hlt : Nat.blt d nt = true) (hK : K (put t d (.slice (some ⟨a, o + l * s, none⟩) (n - l) (c - l))) m) : Step P nt ops ⟨some d, .slice X x (some y) none none, T, p, af, none⟩ t m K := by
  subst he
  refine .q (v := .slice (some ⟨a, o + l * s, none⟩) (n - l) (c - l)) rfl rfl hlt ?_ ?_ hK
  · simp [Op.operands, hx, hy]
  · have b2 : bnd 0 (some (evD t y)) = some l := by rw [evD_of hy]; simp [bnd]
    simp only [aquiet, evD_of hx, aslice0, hX, hsz, Option.map_some, Option.map_none, b2]
    simp only [bnd]
    rw [if_pos ⟨hl, hn, .inl hc⟩]
/-- A part of a row of ints is cleared. -/
theorem Step.clearR {x : Operand} {X e by_ a s o n c : Nat} {kd : Kind} {l l' : List Int} (hx : evo t x = some (.slice (some ⟨a, o, none⟩) n c)) (hE : elemB P X = some (e, 1, by_, #[.int .i64 0])) (ha : a < m.length) (hs : kd.solid = true) (ho : o + n ≤ l.length) (hn : 0 < n)
    (hl : l.take o ++ List.replicate n 0 ++ l.drop (o + n) = l') (hK : K t (St m a kd s l')) : Step P nt ops ⟨none, .call ⟨.builtin .clear, #[x], #[X]⟩, T, p, af, none⟩ t (St m a kd s l) K := by
  subst hl
  refine .l0 rfl rfl rfl (by simp [Op.operands, Call.operands, hx]) (loud_of_aloud0 (v := .tuple #[]) (m' := St m a kd s (l.take o ++ List.replicate n 0 ++ l.drop (o + n))) rfl ?_ hK)
  have hz : (Builtin.zeroCells #[Value.int .i64 0] n).toList = List.replicate n (Value.int .i64 0) := by
    simp [Builtin.zeroCells, Nat.mod_one, List.map_const']
  have hsp : splice (iv l) o (Builtin.zeroCells #[Value.int .i64 0] n).toList = iv (l.take o ++ List.replicate n 0 ++ l.drop (o + n)) := by
    rw [hz]
    unfold splice
    simp [iv]
  simp only [aloud, evD_of hx, aclear, hE, St.get ha]
  rw [if_neg (by omega)]
  rw [if_pos (by simp [hs, iv_len]; omega), hsp]
  simp [St.set]
end
end Go.Proofs.Ytajpngnphbdnnaa.Abs
namespace Go.Proofs.Ytajpngnphbdnnaa.Abs
set_option linter.unusedSimpArgs false
set_option linter.unusedVariables false
open Go.RowKit
open Go.Proofs.Ytajpngnphbdnnaa.Sim
section
variable {P : Program} {nt : Nat} {ops : Array Oper} {t : Fm} {m : AM} {K : Fm → AM → Prop} {d T : Nat} {p : String} {af : Array Edge}
theorem Step.appIn {x y : Operand} {X Y e e' : TypeId} {by_ : Nat} {z : Array Value} {k q r n cp : Nat} {c old Z : List Value} {new : Value} {b : Blk} {M L L' : AM} (hk : L.length = k) (hx : evo t x = some (.slice (some ⟨M.length + q, 0, none⟩) n cp)) (hy : evo t y = some (.slice (some ⟨M.length + r, 0, none⟩) 1 1)) (hE : elemB P X = some (e, 1, by_, z)) (hY : P.underlying Y = some (.slice e'))
    (hq : L[q]? = some (some b)) (hbs : b.kind.solid = true) (hbc : b.cells = c ++ (old ++ Z)) (hc : c.length = n) (ho : old.length = 1) (hr : L[r]? = some (some { cells := [new] })) (hn1 : new.oneCell' = true) (hcp : n + 1 ≤ cp) (hlt : Nat.blt d nt = true)
    (hL : L.set q (some { b with cells := c ++ (new :: Z) }) ++ [none] = L') (hK : K (put t d (.slice (some ⟨M.length + q, 0, none⟩) (n + 1) cp)) (M ++ L')) :
    Step P nt ops ⟨some d, .call ⟨.builtin .append, #[x, y], #[X, Y]⟩, T, p, af, none⟩ t (M ++ L) K := by
  subst hL
  refine .l rfl rfl hlt rfl (by simp [Op.operands, Call.operands, hx, hy]) (loudN hk rfl (v := .slice (some ⟨M.length + q, 0, none⟩) (n + 1) cp) ?_ hK)
  have hrl : r < L.length := (List.getElem?_eq_some_iff.1 hr).1
  have hql : q < L.length := (List.getElem?_eq_some_iff.1 hq).1
  have hcell : acells ((M ++ L) ++ [none]) 1 1 (.slice (some ⟨M.length + r, 0, none⟩) 1 1) = some [new] := by
    have hg : ((M ++ L) ++ [none])[M.length + r]? = some (some { cells := [new] }) := by rw [List.append_assoc, get_app, List.getElem?_append_left hrl, hr]
    simp only [acells, hg]
    simp
  have hg : ((M ++ L) ++ [none])[M.length + q]? = some (some b) := by rw [List.append_assoc, get_app, List.getElem?_append_left hql, hq]
  simp only [aloud, evD_of hx, evD_of hy, aappend, hE, hY, aSliceLen, hcell]
  rw [if_neg (by simp [hn1])]
  rw [if_neg (by omega)]
  simp only [hg]
  have hbl : b.cells.length = n + 1 + Z.length := by rw [hbc]; simp [hc, ho]; omega
  rw [if_pos hcp, if_pos (by simp [hbs, hbl])]
  have hsp : splice b.cells (0 + n * 1) [new] = c ++ (new :: Z) := by
    obtain ⟨o1, rfl⟩ : ∃ o1, old = [o1] := by
      cases old with
      | nil => simp at ho
      | cons a l => cases l with
        | nil => exact ⟨a, rfl⟩
        | cons b l => simp at ho
    unfold splice
    rw [hbc, Nat.zero_add, Nat.mul_one, ← hc]
    simp
  rw [hsp]
  simp only [Option.some.injEq, Prod.mk.injEq, true_and]
  rw [List.append_assoc, set_app, List.set_append_left _ _ hql]
end
end Go.Proofs.Ytajpngnphbdnnaa.Abs
namespace Go.Proofs.Ytajpngnphbdnnaa.Abs
set_option linter.unusedSimpArgs false
set_option linter.unusedVariables false
open Go.RowKit
open Go.Proofs.Ytajpngnphbdnnaa.Sim
/-- What holds from here on may rest on the memory as it is now. -/
theorem AW.rebase {P : Program} {nt : Nat} {m0 m : AM} {c : Code} {t : Fm} {Q : AEx → Fm → AM → Prop} (h : AW P nt m c t (m ++ []) Q) : AW P nt m0 c t m Q := by
  rw [List.append_nil] at h
  intro base R0 w0 R a w hb h0 hp ht
  refine wp_mono (h base R w R a w (Nat.le_trans hb hp.size) hp.rep (.refl hp.rep) ht) ?_
  rintro ex a' w' ⟨e, t', m', R', h1, h2, h3, h4, h5⟩
  exact ⟨e, t', m', R', h1, h2, hp.trans h3, h4, h5⟩
section
variable {P : Program} {nt : Nat} {ops : Array Oper} {t : Fm} {m : AM} {K : Fm → AM → Prop} {d T : Nat} {p : String} {af : Array Edge}
/-- The tail of a row that ends a block of one's own, whether it is empty or not. -/
def tailV (a o n c : Nat) : Value := if n = 0 then .slice (some ⟨a, o, none⟩) 0 0 else .slice (some ⟨a, o + 1, none⟩) n c
/-- Such a row. -/
def OwnAt (M : AM) (a : Nat) (L : AM) : Prop := ∃ b, (M ++ L)[a]? = some (some b) ∧ b.kind = .own
theorem OwnAt.new {M L : AM} {k : Nat} {b : Blk} (h : L[k]? = some (some b)) (hk : b.kind = .own) : OwnAt M (M.length + k) L := ⟨b, by rw [get_app]; exact h, hk⟩
theorem Step.tail {x y : Operand} {X e a o n : Nat} {kk : IntKind} {M L L' : AM} (hx : evo t x = some (.slice (some ⟨a, o, none⟩) (n + 1) (n + 1))) (hy : evo t y = some (.int kk 1)) (ho : OwnAt M a L) (hX : P.underlying X = some (.slice e)) (hsz : szB P e = some 1)
    (hlt : Nat.blt d nt = true) (hL : L ++ [none] = L') (hK : K (put t d (tailV a o n n)) (M ++ L')) : Step P nt ops ⟨some d, .slice X x (some y) none none, T, p, af, none⟩ t (M ++ L) K := by
  subst hL
  obtain ⟨b, hb, hk⟩ := ho
  refine .l rfl rfl hlt (by simp [stillB, hX]) (by simp [Op.operands, hx, hy]) (loudN (L := L) rfl rfl (v := tailV a o n n) ?_ hK)
  have b2 : bnd 0 (some (evD t y)) = some 1 := by rw [evD_of hy]; simp [bnd]
  have hb' : ((M ++ L) ++ [none])[a]? = some (some b) := get_old _ hb
  simp only [aloud, evD_of hx, aslice, hX, hsz, Option.map_some, Option.map_none, b2, hb']
  simp only [bnd]
  rw [if_pos (by omega), List.append_assoc]
  by_cases h : n = 0
  · subst h
    rw [if_neg (by omega)]
    simp [hk, tailV]
  · rw [if_pos (by omega)]
    simp [tailV, h]
end
end Go.Proofs.Ytajpngnphbdnnaa.Abs
namespace Go.Proofs.Ytajpngnphbdnnaa.Abs
open Go.RowKit
open Go.Proofs.Ytajpngnphbdnnaa.Sim
/-- A value that names old blocks alone. -/
def Low (N : Nat) (v : Value) : Prop := ∀ (ρ : Nat → Nat) (n : Nat), (∀ i, i < N → ρ i = i) → N ≤ n → Ren ρ n v v
theorem Low.ptr {N a o : Nat} (h : a < N) : Low N (.pointer (some ⟨a, o, none⟩)) := fun ρ n hρ hn => by
  have := Ren.ptr (ρ := ρ) (n := n) a o (by omega)
  rwa [hρ a h] at this
theorem Low.slice {N a o l c : Nat} (h : a < N) : Low N (.slice (some ⟨a, o, none⟩) l c) := fun ρ n hρ hn => by
  have := Ren.slice (ρ := ρ) (n := n) a o l c (by omega)
  rwa [hρ a h] at this
theorem Low.spot {N a o k : Nat} (h : a < N) : Low N (.slice (some ⟨a, o, some k⟩) 0 0) := fun ρ n hρ hn => by
  have := Ren.sliceSpot (ρ := ρ) (n := n) a o k (by omega)
  rwa [hρ a h] at this
theorem Low.of_sl {N a o k : Nat} {v : Value} (h : Sl v a o k) (ha : a < N) : Low N v := by
  rcases h with ⟨rfl, _⟩ | ⟨c, _, rfl⟩ | ⟨_, o', k', rfl⟩
  · exact fun _ _ _ _ => .sliceNil
  · exact .slice ha
  · exact .spot ha
theorem Low.func {N : Nat} {fn : Fn} {c : List Value} (h : ∀ v ∈ c, Low N v) : Low N (.func fn #[] c.toArray) := fun ρ n hρ hn => by
  refine .func fn #[] c.toArray #[] c.toArray rfl (fun i hi => by simp at hi) rfl fun i hi => ?_
  have hi' : i < c.length := by simpa using hi
  have := h c[i] (List.getElem_mem hi') ρ n hρ hn
  simpa [hi'] using this
theorem Low.rid {N n : Nat} {v : Value} (h : Low N v) (hn : N ≤ n) : Ren rid n v v := h _ _ (fun _ _ => rfl) hn
theorem Low.sg {N n : Nat} {σ : List Nat} {v : Value} (h : Low N v) (hn : N ≤ n) : Ren (sg N σ) n v v := h _ _ (fun _ hi => sg_old hi) hn
theorem Low.ne {N n p q : Nat} {v : Value} (h : Low N v) (hn : N ≤ n) : Ren (fun i => if i = N + p then N + q else i) n v v := h _ _ (fun _ hi => if_neg (by omega)) hn
end Go.Proofs.Ytajpngnphbdnnaa.Abs
namespace Go.Proofs.Ytajpngnphbdnnaa.Abs
set_option linter.unusedSimpArgs false
set_option linter.unusedVariables false
open Go.RowKit
open Go.Proofs.Ytajpngnphbdnnaa.Sim
open Go.ChangeShapes Go.WideShapes Go.Deep
/-- An argument with the cells that it shows. -/
abbrev AR := Value × List Value
def Okarg (W : World) (a : AR) : Prop := g0 a.1 = true ∨ ∃ b o n cap, a.1 = .slice (some ⟨b, o, none⟩) n cap ∧ n ≤ cap ∧ b < W.heap.size ∧ (∀ j x, a.2[j]? = some x → W.cell? ⟨b, o + j, none⟩ = some x) ∧ ∀ x ∈ a.2, g0 x = true
def mkV (i : Nat) : Value → Value
  | .slice (some _) n _ => .slice (some ⟨i, 0, none⟩) n n
  | v => v
def mkP : AR → Option Sim.Place
  | (.slice (some a) n cap, _) => some ⟨a.block, a.off, cap - n⟩
  | _ => none
def mkB : AR → Option Blk
  | (.slice (some _) _ _, c) => some { cells := c, kind := .ro }
  | _ => none
def mkVs : Nat → List AR → List Value
  | _, [] => []
  | i, a :: l => mkV i a.1 :: mkVs (i + 1) l
theorem mkVs_get : ∀ (l : List AR) (i k : Nat), (mkVs i l)[k]? = (l[k]?).map fun a => mkV (i + k) a.1
  | [], i, k => by simp [mkVs]
  | a :: l, i, 0 => by simp [mkVs]
  | a :: l, i, k + 1 => by simp only [mkVs, List.getElem?_cons_succ, mkVs_get l (i + 1) k]; congr 1; funext x; congr 1; omega
theorem mkVs_len : ∀ (l : List AR) (i : Nat), (mkVs i l).length = l.length
  | [], _ => rfl
  | a :: l, i => by simp [mkVs, mkVs_len l (i + 1)]
section
variable {H : Type} {enc : TypeId × Value → H} {P : Program} {w : World} {base : Nat} {spare : Nat → Bool} {held : Bool}
theorem ok_slice {r : Reach} {b0 : Nat} {T e : TypeId} {a : Option Addr} {n c : Nat} (ht : P.underlying T = some (.slice e)) (h : Value.okWide P w r b0 T (.slice a n c)) : (a = none ∧ n = 0 ∧ c = 0) ∨ ∃ b o, a = some ⟨b, o, none⟩ ∧ n ≤ c ∧ b < w.heap.size := by
  simp only [Value.okWide, ht, Cell.okWide, Cell.ok] at h
  cases a with
  | none =>
    cases n <;> cases c <;> simp_all
  | some x =>
    obtain ⟨h1, _, h3⟩ := h
    obtain ⟨_, hs, row, cells, hsh, _⟩ := h3
    obtain ⟨b, o, s⟩ := x
    simp only at hs
    subst hs
    refine .inr ⟨b, o, rfl, h1, ?_⟩
    simp only [World.shape?] at hsh
    rcases Nat.lt_or_ge b w.heap.size with hlt | hge
    · exact hlt
    · rw [Array.getElem?_eq_none hge] at hsh; cases hsh
/-- A slice of ints ars an argument. -/
theorem arg_ints {r : Reach} {b0 : Nat} {T e : TypeId} {a : Option Addr} {n c : Nat} {d : DataW H} {p : List MemPlace} (ht : P.underlying T = some (.slice e)) (he : P.underlying e = some (.int .i64)) (hce : P.cellsOf e = 1) (hok : Value.okWide P w r b0 T (.slice a n c)) (h : DataW.Trod enc P w base spare held T (.slice a n c) d p) :
    ∃ l : List Int, l.length = n ∧ n ≤ maxLen ∧ Okarg w (.slice a n c, iv l) ∧ (∀ M : AM, ∀ i, M[i]? = some (mkB (.slice a n c, iv l)) → Ints M (mkV i (.slice a n c)) l) := by
  obtain ⟨fuel, h⟩ := h
  rcases ok_slice ht hok with ⟨rfl, rfl, rfl⟩ | ⟨b, o, rfl, hle, hlt⟩
  · exact ⟨[], rfl, by unfold maxLen; omega, .inl rfl, fun M i hi => ⟨i, 0, .inl ⟨rfl, rfl⟩, (List.getElem?_eq_some_iff.1 hi).1, fun k hk => by simp at hk⟩⟩
  · rcases open_ints ht he hce h with ⟨hcs, _⟩ | ⟨x, l, c', zs, hcs, _, hl, hm, hz, _, hcell, _⟩
    · simp [Value.cells] at hcs
    · simp [Value.cells] at hcs
      obtain ⟨rfl, rfl, rfl⟩ := hcs
      have hzl : n ≤ zs.length := by rw [hz]; split <;> omega
      have hlen : (zs.take n).length = n := by simp; omega
      refine ⟨zs.take n, hlen, by omega, .inr ⟨b, o, n, c, rfl, hle, hlt, fun j x hj => ?_, g0_iv _⟩, fun M i hi => ?_⟩
      · simp only [iv, List.getElem?_map] at hj
        by_cases hjn : j < n
        · rw [List.getElem?_take, if_pos hjn, List.getElem?_eq_getElem (by omega)] at hj
          simp only [Option.map_some, Option.some.injEq] at hj
          have := hcell j (by omega)
          rw [Addr.add_lit] at this
          rw [this, ← hj]
          simp [show j < zs.length by omega]
        · rw [List.getElem?_take, if_neg hjn] at hj
          cases hj
      · simp only [mkB] at hi
        exact ints_at hi rfl n hlen.symm
theorem open_slice_fields {t e : TypeId} {fs : Array Field} {fuel : Nat} {cs : List Value} {x : DataW H × List MemPlace} (ht : P.underlying t = some (.slice e)) (he : P.underlying e = some (.struct fs))
    (hone : oneCellFields P fs = true) (hC : P.cellsOf e = fs.size) (h : DataW.trod enc P w base spare held fuel t cs = some x) :
    (cs = [.slice none 0 0] ∧ x = (.nil, [])) ∨
    ∃ (a : Addr) (len cap m : Nat) (D : Nat → DataW H) (Pl : Nat → List MemPlace), cs = [.slice (some a) len cap] ∧ base ≤ a.block ∧ len ≤ cap ∧ cap ≤ maxLen ∧ m = (if spare a.block then cap else len) ∧
      x = (.slice ((List.range len).map D) ((List.range (m - len)).map fun j => D (len + j)), MemPlace.row a (m * fs.size) ++ (List.range m).flatMap Pl) ∧
      ∀ i, i < m → ∃ (ys : List (DataW H × List MemPlace)) (n : Nat), D i = .agg (ys.map (·.1)) ∧ Pl i = ys.flatMap (·.2) ∧ ys.length = fs.size ∧
        ∀ (j : Nat) (f : Field), fs[j]? = some f → ∃ (v : Value) (y : DataW H × List MemPlace), w.cell? (a.add (i * fs.size + j)) = some v ∧ ys[j]? = some y ∧ DataW.trod enc P w base spare held n f.type [v] = some y := by
  rcases open_slice ht h with h0 | ⟨a, len, cap, m, n, D, Pl, hcs, hb, hl, hm, hmm, hx, hi⟩
  · exact .inl h0
  · refine .inr ⟨a, len, cap, m, D, Pl, hcs, hb, hl, hm, hmm, by rw [hC] at hx; exact hx, fun i him => ?_⟩
    obtain ⟨cs', hc, ht'⟩ := hi i him
    rw [hC] at hc
    obtain ⟨ys, n', hn', hy, hlen, hyl, hf⟩ := DataW.trod_struct he ht'
    obtain ⟨_, hcl, hat⟩ := World.cells?_some hc
    simp only [Prod.mk.injEq] at hy
    refine ⟨ys, n', hy.1, hy.2, hyl, fun j f hj => ?_⟩
    obtain ⟨ho, hk⟩ := hone_of hone j f hj
    have hjl : j < fs.size := (Array.getElem?_eq_some_iff.1 hj).1
    have hcell := hat j hjl
    have hv : cs'[j]? = some (cs'[j]'(by omega)) := List.getElem?_eq_getElem (by omega)
    have h1 := hf j f hj
    rw [ho, hk] at h1
    have hone' : (cs'.drop j).take 1 = [cs'[j]'(by omega)] := by
      rw [List.drop_eq_getElem_cons (by omega)]
      rfl
    rw [hone'] at h1
    have hys : ys[j]? = some (ys[j]'(by omega)) := List.getElem?_eq_getElem (by omega)
    refine ⟨_, _, ?_, hys, h1.trans hys⟩
    rw [← Go.Deep.add_add, hcell, hv]
theorem fields_int {fs : Array Field} (h : fs.all (fun f => match P.underlying f.type with | some (.int .i64) => true | _ => false) = true) {j : Nat} {f : Field} (hj : fs[j]? = some f) : P.underlying f.type = some (.int .i64) := by
  have := Array.all_eq_true'.1 h f (Array.mem_of_getElem? hj)
  split at this
  · assumption
  · cases this
/-- A slice of structs of ints ars an argument. -/
theorem arg_rows {r : Reach} {b0 : Nat} {T e : TypeId} {fs : Array Field} {a : Option Addr} {n c : Nat} {d : DataW H} {p : List MemPlace} (ht : P.underlying T = some (.slice e)) (he : P.underlying e = some (.struct fs)) (hone : oneCellFields P fs = true) (hC : P.cellsOf e = fs.size)
    (hi : fs.all (fun f => match P.underlying f.type with | some (.int .i64) => true | _ => false) = true) (hok : Value.okWide P w r b0 T (.slice a n c)) (h : DataW.Trod enc P w base spare held T (.slice a n c) d p) :
    ∃ F : Nat → List Int, (∀ k, (F k).length = fs.size) ∧ n ≤ maxLen ∧ Okarg w (.slice a n c, (List.range n).flatMap fun k => iv (F k)) ∧ (∀ M : AM, ∀ i, M[i]? = some (mkB (.slice a n c, (List.range n).flatMap fun k => iv (F k))) → Sl (mkV i (.slice a n c)) i 0 n ∧ i < M.length ∧ ∀ k, k < n → RdL M i (0 + k * fs.size) (iv (F k))) := by
  obtain ⟨fuel, h⟩ := h
  rcases ok_slice ht hok with ⟨rfl, rfl, rfl⟩ | ⟨b, o, rfl, hle, hlt⟩
  · exact ⟨fun _ => List.replicate fs.size 0, fun _ => by simp, by unfold maxLen; omega, .inl rfl, fun M i hi => ⟨.inl ⟨rfl, rfl⟩, (List.getElem?_eq_some_iff.1 hi).1, fun k hk => by omega⟩⟩
  · rcases open_slice_fields ht he hone hC h with ⟨hcs, _⟩ | ⟨x, l, cap, m, D, Pl, hcs, _, hl, hm, hmm, _, hrow⟩
    · simp [Value.cells] at hcs
    · simp [Value.cells] at hcs
      obtain ⟨rfl, rfl, rfl⟩ := hcs
      have key : ∀ k : Nat, ∃ q : List Int, q.length = fs.size ∧ (k < n → ∀ j, j < fs.size → w.cell? ⟨b, o + (k * fs.size + j), none⟩ = some (.int .i64 (q.getD j 0))) := fun k => by
        by_cases hk : k < n
        · obtain ⟨ys, nn, _, _, _, hf⟩ := hrow k (by rw [hmm]; split <;> omega)
          have key2 : ∀ j : Nat, ∃ z : Int, j < fs.size → w.cell? ⟨b, o + (k * fs.size + j), none⟩ = some (.int .i64 z) := fun j => by
            by_cases hj : j < fs.size
            · obtain ⟨v, y, h1, _, h3⟩ := hf j fs[j] (Array.getElem?_eq_getElem hj)
              obtain ⟨z, hz, _⟩ := DataW.trod_int (fields_int hi (Array.getElem?_eq_getElem hj)) h3
              simp at hz
              subst hz
              rw [Addr.add_lit] at h1
              exact ⟨z, fun _ => h1⟩
            · exact ⟨0, fun h => absurd h hj⟩
          obtain ⟨g, hg⟩ := Classical.axiomOfChoice key2
          refine ⟨(List.range fs.size).map g, by simp, fun _ j hj => ?_⟩
          rw [hg j hj]
          simp [hj]
        · exact ⟨List.replicate fs.size 0, by simp, fun h => absurd h hk⟩
      obtain ⟨F, hF⟩ := Classical.axiomOfChoice key
      have hlenF : ∀ k, (iv (F k)).length = fs.size := fun k => by rw [iv_len]; exact (hF k).1
      have get : ∀ q, ∀ k, k < q → ∀ j v, (iv (F k))[j]? = some v → ((List.range q).flatMap fun k => iv (F k))[k * fs.size + j]? = some v := by
        intro q
        induction q with
        | zero => intro k hk; omega
        | succ q ih =>
          intro k hk j v hj
          have hjl : j < fs.size := by
            have := (List.getElem?_eq_some_iff.1 hj).1
            rwa [hlenF] at this
          have hql : ((List.range q).flatMap fun k => iv (F k)).length = q * fs.size := by
            clear ih hk hj
            induction q with
            | zero => simp
            | succ q ih2 => rw [List.range_succ, List.flatMap_append, List.length_append, ih2]; simp [hlenF, Nat.add_mul]
          rw [List.range_succ, List.flatMap_append]
          rcases Nat.lt_succ_iff_lt_or_eq.1 hk with h' | h'
          · have h2 : k * fs.size + fs.size ≤ q * fs.size := by
              have := Nat.mul_le_mul_right fs.size (show k + 1 ≤ q by omega)
              rw [Nat.add_mul] at this; omega
            rw [List.getElem?_append_left (by rw [hql]; omega)]
            exact ih k h' j v hj
          · subst h'
            rw [List.getElem?_append_right (by rw [hql]; omega), hql, Nat.add_sub_cancel_left]
            simpa using hj
      have tot : ∀ q, ((List.range q).flatMap fun k => iv (F k)).length = q * fs.size := fun q => by
        induction q with
        | zero => simp
        | succ q ih2 => rw [List.range_succ, List.flatMap_append, List.length_append, ih2]; simp [hlenF, Nat.add_mul]
      refine ⟨F, fun k => (hF k).1, by omega, .inr ⟨b, o, n, c, rfl, hle, hlt, fun j x hj => ?_, fun x hx => ?_⟩, fun M i hM => ?_⟩
      · have hjl := (List.getElem?_eq_some_iff.1 hj).1
        simp only at hjl hj
        rw [tot] at hjl
        have hs : 0 < fs.size := by
          rcases Nat.eq_zero_or_pos fs.size with h0 | h0
          · rw [h0] at hjl; omega
          · exact h0
        have hk : j / fs.size < n := (Nat.div_lt_iff_lt_mul hs).2 hjl
        have hr : j % fs.size < fs.size := Nat.mod_lt _ hs
        have e : j = j / fs.size * fs.size + j % fs.size := by rw [Nat.mul_comm]; exact (Nat.div_add_mod j fs.size).symm
        have h1 := get n (j / fs.size) hk (j % fs.size) (.int .i64 ((F (j / fs.size)).getD (j % fs.size) 0)) (iv_get (by rw [(hF _).1]; exact hr))
        rw [← e] at h1
        rw [h1] at hj
        injection hj with hj
        have h2 := (hF (j / fs.size)).2 hk (j % fs.size) hr
        rw [← e] at h2
        rw [h2, hj]
      · obtain ⟨k, _, hk⟩ := List.mem_flatMap.1 hx
        exact g0_iv _ x hk
      · simp only [mkB] at hM
        refine ⟨Sl.mk (Nat.le_refl _), (List.getElem?_eq_some_iff.1 hM).1, fun k hk => ⟨_, hM, fun j v hj => ?_⟩⟩
        rw [Nat.zero_add]
        exact get n k hk j v hj
end
end Go.Proofs.Ytajpngnphbdnnaa.Abs
namespace Go.Proofs.Ytajpngnphbdnnaa.Hung
set_option linter.unusedSimpArgs false
set_option linter.unusedVariables false
/-- The sum of the first n. -/
def sN (f : Nat → Int) : Nat → Int
  | 0 => 0
  | n + 1 => sN f n + f n
theorem sN_congr {f g : Nat → Int} : ∀ {n : Nat}, (∀ i, i < n → f i = g i) → sN f n = sN g n
  | 0, _ => rfl
  | n + 1, h => by rw [sN, sN, sN_congr fun i hi => h i (by omega), h n (by omega)]
theorem sN_le {f g : Nat → Int} : ∀ {n : Nat}, (∀ i, i < n → f i ≤ g i) → sN f n ≤ sN g n
  | 0, _ => Int.le_refl _
  | n + 1, h => by have := sN_le (n := n) fun i hi => h i (by omega); have := h n (by omega); simp only [sN]; omega
theorem sN_add (f g : Nat → Int) : ∀ n, sN (fun i => f i + g i) n = sN f n + sN g n
  | 0 => rfl
  | n + 1 => by simp only [sN]; rw [sN_add f g n]; omega
theorem sN_sub (f g : Nat → Int) : ∀ n, sN (fun i => f i - g i) n = sN f n - sN g n
  | 0 => rfl
  | n + 1 => by simp only [sN]; rw [sN_sub f g n]; omega
theorem sN_const (c : Int) : ∀ n : Nat, sN (fun _ => c) n = c * n
  | 0 => by simp [sN]
  | n + 1 => by simp only [sN]; rw [sN_const c n]; simp [Int.mul_add]
theorem sN_nonneg {f : Nat → Int} {n : Nat} (h : ∀ i, i < n → 0 ≤ f i) : 0 ≤ sN f n := by
  have := sN_le (f := fun _ => 0) (g := f) h
  rw [sN_const] at this; omega
theorem sN_ext {f : Nat → Int} {n : Nat} : ∀ {m : Nat}, n ≤ m → (∀ i, n ≤ i → i < m → f i = 0) → sN f m = sN f n
  | 0, h, _ => by obtain rfl : n = 0 := by omega
                  rfl
  | m + 1, h, hz => by
    rcases Nat.lt_or_ge n (m + 1) with hlt | hge
    · rw [sN, hz m (by omega) (by omega), Int.add_zero]
      exact sN_ext (by omega) fun i h1 h2 => hz i h1 (by omega)
    · obtain rfl : n = m + 1 := by omega
      rfl
/-- One of the values is another. -/
def up {α : Type} (f : Nat → α) (k : Nat) (x : α) : Nat → α := fun i => if i = k then x else f i
theorem up_same {α : Type} (f : Nat → α) (k : Nat) (x : α) : up f k x k = x := if_pos rfl
theorem up_ne {α : Type} (f : Nat → α) {k i : Nat} (x : α) (h : i ≠ k) : up f k x i = f i := if_neg h
theorem sN_up (f : Nat → Int) (k : Nat) (x : Int) : ∀ n, sN (up f k x) n = sN f n + if k < n then x - f k else 0
  | 0 => by simp [sN]
  | n + 1 => by
    simp only [sN]
    rw [sN_up f k x n]
    by_cases e : n = k
    · subst e; rw [up_same, if_neg (by omega), if_pos (by omega)]; omega
    · rw [up_ne _ _ e]
      by_cases h : k < n
      · rw [if_pos h, if_pos (by omega)]; omega
      · rw [if_neg h, if_neg (by omega)]; omega
/-- A pairing of l left ones with r right ones: r or more stands for none. -/
def Pr (l r : Nat) (p : Nat → Nat) : Prop := ∀ i i', i < l → i' < l → p i < r → p i = p i' → i = i'
def tot (w : Nat → Nat → Int) (r : Nat) (p : Nat → Nat) (l : Nat) : Int := sN (fun i => if p i < r then w i (p i) else 0) l
def IsMax (w : Nat → Nat → Int) (l r : Nat) (best : Int) : Prop := (∃ p, Pr l r p ∧ tot w r p l = best) ∧ ∀ p, Pr l r p → tot w r p l ≤ best
/-- What is met, is met once. -/
theorem met_le {r : Nat} {p : Nat → Nat} : ∀ (l : Nat) (b : Nat → Int), Pr l r p → (∀ q, q < r → 0 ≤ b q) → sN (fun i => if p i < r then b (p i) else 0) l ≤ sN b r
  | 0, b, _, hb => sN_nonneg hb
  | l + 1, b, hp, hb => by
    simp only [sN]
    by_cases h : p l < r
    · have ih := met_le l (up b (p l) 0) (fun i i' h1 h2 => hp i i' (by omega) (by omega)) fun q hq => by
        by_cases e : q = p l
        · rw [e, up_same]; exact Int.le_refl _
        · rw [up_ne _ _ e]; exact hb q hq
      rw [sN_up, if_pos h] at ih
      have e : sN (fun i => if p i < r then up b (p l) 0 (p i) else 0) l = sN (fun i => if p i < r then b (p i) else 0) l := sN_congr fun i hi => by
        split
        · rename_i h1
          rw [up_ne _ _ fun e => by have := hp i l (by omega) (by omega) h1 e; omega]
        · rfl
      rw [e] at ih
      rw [if_pos h]
      omega
    · rw [if_neg h]
      have := met_le l b (fun i i' h1 h2 => hp i i' (by omega) (by omega)) hb
      omega
/-- All are met. -/
theorem met_eq {n : Nat} {p : Nat → Nat} (hp : Pr n n p) (hn : ∀ i, i < n → p i < n) (b : Nat → Int) (hb : ∀ q, q < n → 0 ≤ b q) : sN (fun i => b (p i)) n = sN b n := by
  have h1 := met_le n b hp hb
  have e1 : sN (fun i => if p i < n then b (p i) else 0) n = sN (fun i => b (p i)) n := sN_congr fun i hi => if_pos (hn i hi)
  rw [e1] at h1
  have hB : ∀ m, m ≤ n → ∃ B : Int, ∀ q, q < m → b q ≤ B := by
    intro m
    induction m with
    | zero => exact fun _ => ⟨0, fun q hq => by omega⟩
    | succ m ih =>
      intro hm
      obtain ⟨B, hB⟩ := ih (by omega)
      refine ⟨max B (b m), fun q hq => ?_⟩
      by_cases e : q = m
      · subst e; omega
      · have := hB q (by omega); omega
  obtain ⟨B, hB⟩ := hB n (Nat.le_refl _)
  have h2 := met_le n (fun q => B - b q) hp (fun q hq => by have := hB q hq; show 0 ≤ B - b q; omega)
  have e2 : sN (fun i => if p i < n then B - b (p i) else 0) n = sN (fun i => B - b (p i)) n := sN_congr fun i hi => if_pos (hn i hi)
  rw [e2, sN_sub (fun _ => B) (fun i => b (p i)), sN_sub (fun _ => B) b] at h2
  omega
structure Dual (w : Nat → Nat → Int) (l r : Nat) (a b : Nat → Int) : Prop where
  na : ∀ i, i < l → 0 ≤ a i
  nb : ∀ q, q < r → 0 ≤ b q
  fe : ∀ i q, i < l → q < r → w i q ≤ a i + b q
theorem Dual.bound {w : Nat → Nat → Int} {l r : Nat} {a b : Nat → Int} (h : Dual w l r a b) {p : Nat → Nat} (hp : Pr l r p) : tot w r p l ≤ sN a l + sN b r := by
  have h1 := met_le l b hp h.nb
  have h2 : tot w r p l ≤ sN (fun i => a i + if p i < r then b (p i) else 0) l := sN_le fun i hi => by
    split
    · rename_i hq; exact h.fe i _ hi hq
    · have := h.na i hi; omega
  rw [sN_add] at h2
  omega
theorem Dual.max {w : Nat → Nat → Int} {l r : Nat} {a b : Nat → Int} (h : Dual w l r a b) {p : Nat → Nat} (hp : Pr l r p) (he : tot w r p l = sN a l + sN b r) : IsMax w l r (sN a l + sN b r) :=
  ⟨⟨p, hp, he⟩, fun _ hq => h.bound hq⟩
/-- Different ones out of few are few. -/
theorem nodup_le {l k : List Nat} (h : l.Nodup) (hs : ∀ x ∈ l, x ∈ k) : l.length ≤ k.length := by
  induction l generalizing k with
  | nil => simp
  | cons x l ih =>
    obtain ⟨n1, n2⟩ := List.nodup_cons.1 h
    have hx := hs x (List.mem_cons_self ..)
    have := ih (k := k.erase x) n2 fun y hy => by
      have hne : y ≠ x := fun e => n1 (e ▸ hy)
      exact (List.mem_erase_of_ne hne).2 (hs y (List.mem_cons_of_mem _ hy))
    rw [List.length_erase_of_mem hx] at this
    have : 0 < k.length := List.length_pos_of_mem hx
    simp only [List.length_cons]; omega
end Go.Proofs.Ytajpngnphbdnnaa.Hung
namespace Go.Proofs.Ytajpngnphbdnnaa.Hung
set_option linter.unusedSimpArgs false
set_option linter.unusedVariables false
/-- The columns in the order in which they were taken, the last one first: each hangs by a tight edge on one before it. -/
inductive Ch (loss : Nat → Nat → Int) (u v : Nat → Int) (row way : Nat → Nat) : List Nat → Prop
  | base : Ch loss u v row way [0]
  | step (k : Nat) (l : List Nat) (h0 : k ≠ 0) (hw : way k ∈ l) (hr : row (way k) ≠ 0) (ht : u (row (way k)) + v k = loss (row (way k)) k) (hk : k ∉ l) (h : Ch loss u v row way l) : Ch loss u v row way (k :: l)
section
variable {loss : Nat → Nat → Int} {u v u' v' least : Nat → Int} {row way row' way' : Nat → Nat} {used : Nat → Bool} {l rest : List Nat} {n i j : Nat} {V0 : Int}
theorem Ch.zero (h : Ch loss u v row way l) : 0 ∈ l := by
  induction h with
  | base => simp
  | step k l _ _ _ _ _ _ ih => exact List.mem_cons_of_mem _ ih
theorem Ch.one (h : Ch loss u v row way [j]) : j = 0 := by
  cases h with
  | base => rfl
  | step _ _ _ hw => simp at hw
theorem Ch.sub (h : Ch loss u v row way l) {x : Nat} (hx : x ∈ l) : ∃ l', Ch loss u v row way (x :: l') ∧ (∀ y ∈ x :: l', y ∈ l) ∧ l'.length < l.length := by
  induction h with
  | base =>
    obtain rfl : x = 0 := by simpa using hx
    exact ⟨[], .base, fun y h => h, by simp⟩
  | step k l h0 hw hr ht hk h ih =>
    by_cases e : x = k
    · subst e
      exact ⟨l, .step x l h0 hw hr ht hk h, fun y h => h, by simp⟩
    · have hx' : x ∈ l := by
        rcases List.mem_cons.1 hx with h | h
        · exact absurd h e
        · exact h
      obtain ⟨l', a, b, c⟩ := ih hx'
      exact ⟨l', a, fun y h => List.mem_cons_of_mem _ (b y h), by simp; omega⟩
theorem Ch.congr (h : Ch loss u v row way l) (hc : ∀ k ∈ l, k ≠ 0 → way k ∈ l → way' k = way k ∧ row' (way k) = row (way k) ∧ u' (row (way k)) + v' k = u (row (way k)) + v k) : Ch loss u' v' row' way' l := by
  induction h with
  | base => exact .base
  | step k l h0 hw hr ht hk h ih =>
    obtain ⟨a, b, c⟩ := hc k (List.mem_cons_self ..) h0 (List.mem_cons_of_mem _ hw)
    exact .step k l h0 (by rw [a]; exact hw) (by rw [a, b]; exact hr) (by rw [a, b, c]; exact ht) hk (ih fun x hx h0 h1 => hc x (List.mem_cons_of_mem _ hx) h0 (List.mem_cons_of_mem _ h1))
structure Iv (loss : Nat → Nat → Int) (n i : Nat) (V0 : Int) (u v : Nat → Int) (row way : Nat → Nat) (least : Nat → Int) (used : Nat → Bool) (j : Nat) (rest : List Nat) : Prop where
  ch : Ch loss u v row way (j :: rest)
  us : ∀ k, k ≤ n → used k = decide (k ∈ rest)
  jn : j ≤ n
  rn : ∀ k ∈ rest, k ≤ n ∧ row k ≠ 0
  i1 : 1 ≤ i
  r0 : row 0 = i
  rb : ∀ k, k ≤ n → row k ≤ i
  inj : ∀ a b, a ≤ n → b ≤ n → row a = row b → row a ≠ 0 → a = b
  sur : ∀ r, 1 ≤ r → r ≤ i → ∃ a, a ≤ n ∧ row a = r
  fe : ∀ r k, 1 ≤ r → r ≤ i → 1 ≤ k → k ≤ n → (rest = [] → r ≠ i) → u r + v k ≤ loss r k
  ti : ∀ k, 1 ≤ k → k ≤ n → row k ≠ 0 → u (row k) + v k = loss (row k) k
  vn : ∀ k, 1 ≤ k → k ≤ n → v k ≤ 0 ∧ (row k = 0 → v k = 0)
  uz : ∀ r, i < r → u r = 0
  ui : rest = [] → u i = 0
  ul : -1000000000 ≤ u i
  l0 : rest = [] → ∀ k, 1 ≤ k → k ≤ n → least k = 1152921504606846976
  l1 : ∀ k, 1 ≤ k → k ≤ n → k ∉ rest → rest ≠ [] → (∀ c ∈ rest, least k ≤ loss (row c) k - u (row c) - v k) ∧ way k ∈ rest ∧ least k = loss (row (way k)) k - u (row (way k)) - v k
  v0 : v 0 = V0 - u i
def Ls (loss : Nat → Nat → Int) (n : Nat) : Prop := ∀ r k, 1 ≤ r → r ≤ n → 1 ≤ k → k ≤ n → -1000000000 ≤ loss r k ∧ loss r k ≤ 0
theorem Iv.rest0 (h : Iv loss n i V0 u v row way least used j rest) (he : rest = []) : j = 0 := by
  have := h.ch
  rw [he] at this
  exact this.one
theorem Iv.free (h : Iv loss n i V0 u v row way least used j rest) (hin : i ≤ n) : ∃ f, 1 ≤ f ∧ f ≤ n ∧ row f = 0 := by
  apply Classical.byContradiction
  intro hno
  have hnz : ∀ f, 1 ≤ f → f ≤ n → row f ≠ 0 := fun f h1 h2 e => hno ⟨f, h1, h2, e⟩
  have hl := nodup_le (l := (List.range' 1 n).map row) (k := List.range' 1 (i - 1)) (by
    rw [List.Nodup, List.pairwise_map]
    refine (List.nodup_range' (s := 1) (n := n)).imp_of_mem fun {a b} ha hb hab e => hab ?_
    simp only [List.mem_range'_1] at ha hb
    exact h.inj a b (by omega) (by omega) e (hnz a (by omega) (by omega))) fun x hx => by
      obtain ⟨k, hk, rfl⟩ := List.mem_map.1 hx
      simp only [List.mem_range'_1] at hk ⊢
      have h1 := hnz k (by omega) (by omega)
      have h2 := h.rb k (by omega)
      have h3 : row k ≠ i := fun e => by
        have := h.inj k 0 (by omega) (by omega) (by rw [h.r0, e]) h1
        omega
      omega
  simp at hl
  have := h.i1
  omega
/-- The potentials are small. -/
theorem Iv.bu (h : Iv loss n i V0 u v row way least used j rest) (hin : i ≤ n) (hl : Ls loss n) {r : Nat} (h1 : 1 ≤ r) (h2 : r ≤ i) : -1000000000 ≤ u r ∧ u r ≤ 0 := by
  by_cases e : rest = [] ∧ r = i
  · rw [e.2, h.ui e.1]; omega
  · obtain ⟨f, f1, f2, f3⟩ := h.free hin
    have a := h.fe r f h1 h2 f1 f2 (fun hr hri => e ⟨hr, hri⟩)
    have b := (h.vn f f1 f2).2 f3
    have c := hl r f h1 (by omega) f1 f2
    refine ⟨?_, by omega⟩
    by_cases hri : r = i
    · rw [hri]; exact h.ul
    · obtain ⟨k, k1, k2⟩ := h.sur r h1 h2
      have k0 : k ≠ 0 := fun e => by rw [e, h.r0] at k2; exact hri k2.symm
      have t := h.ti k (by omega) k1 (by omega)
      rw [k2] at t
      have := (h.vn k (by omega) k1).1
      have := hl r k h1 (by omega) (by omega) k1
      omega
theorem Iv.bv (h : Iv loss n i V0 u v row way least used j rest) (hin : i ≤ n) (hl : Ls loss n) {k : Nat} (h1 : 1 ≤ k) (h2 : k ≤ n) : -1000000000 ≤ v k ∧ v k ≤ 0 := by
  have hv := h.vn k h1 h2
  refine ⟨?_, hv.1⟩
  by_cases e : row k = 0
  · rw [hv.2 e]; omega
  · have t := h.ti k h1 h2 e
    have := (h.bu hin hl (r := row k) (by omega) (h.rb k h2)).2
    have := hl (row k) k (by omega) (by have := h.rb k h2; omega) h1 h2
    omega
def dK (loss : Nat → Nat → Int) (u v : Nat → Int) (r : Nat) : Nat → Int := fun k => loss r k - u r - v k
def tk (d least : Nat → Int) (used : Nat → Bool) (m k : Nat) : Prop := 1 ≤ k ∧ k ≤ m ∧ used k = false ∧ d k < least k
instance (d least : Nat → Int) (used : Nat → Bool) (m k : Nat) : Decidable (tk d least used m k) := by unfold tk; infer_instance
def lS (d least : Nat → Int) (used : Nat → Bool) (m : Nat) : Nat → Int := fun k => if tk d least used m k then d k else least k
def wS (d least : Nat → Int) (used : Nat → Bool) (j : Nat) (way : Nat → Nat) (m : Nat) : Nat → Nat := fun k => if tk d least used m k then j else way k
def dS (L : Nat → Int) (used : Nat → Bool) : Nat → Int × Nat
  | 0 => (1152921504606846976, 0)
  | m + 1 => if used (m + 1) = false ∧ L (m + 1) < (dS L used m).1 then (L (m + 1), m + 1) else dS L used m
theorem dS_spec (L : Nat → Int) (used : Nat → Bool) : ∀ m, (∀ k, 1 ≤ k → k ≤ m → used k = false → (dS L used m).1 ≤ L k) ∧ (dS L used m = (1152921504606846976, 0) ∨ (1 ≤ (dS L used m).2 ∧ (dS L used m).2 ≤ m ∧ used (dS L used m).2 = false ∧ (dS L used m).1 = L (dS L used m).2))
  | 0 => ⟨fun k h1 h2 => by omega, .inl rfl⟩
  | m + 1 => by
    obtain ⟨i1, i2⟩ := dS_spec L used m
    simp only [dS]
    split
    · rename_i h
      refine ⟨fun k h1 h2 hu => ?_, .inr ⟨by simp, by simp, h.1, rfl⟩⟩
      by_cases e : k = m + 1
      · subst e; exact Int.le_refl _
      · have := i1 k h1 (by omega) hu
        have := h.2
        show L (m + 1) ≤ L k
        omega
    · rename_i h
      refine ⟨fun k h1 h2 hu => ?_, ?_⟩
      · by_cases e : k = m + 1
        · subst e
          have : ¬ L (m + 1) < (dS L used m).1 := fun h2 => h ⟨hu, h2⟩
          omega
        · exact i1 k h1 (by omega) hu
      · rcases i2 with i2 | ⟨a, b, c, d⟩
        · exact .inl i2
        · exact .inr ⟨a, by omega, c, d⟩
/-- What a scan finds. -/
structure Sc (loss : Nat → Nat → Int) (n i : Nat) (u v : Nat → Int) (row wy : Nat → Nat) (L : Nat → Int) (used : Nat → Bool) (dl : Int) (nx : Nat) (T : List Nat) : Prop where
  ok : ∀ k, 1 ≤ k → k ≤ n → k ∉ T → (∀ c ∈ T, L k ≤ loss (row c) k - u (row c) - v k) ∧ wy k ∈ T ∧ L k = loss (row (wy k)) k - u (row (wy k)) - v k ∧ -1000000000 ≤ L k ∧ L k ≤ 3 * 1000000000
  n1 : 1 ≤ nx
  n2 : nx ≤ n
  nn : nx ∉ T
  de : dl = L nx
  low : ∀ k, 1 ≤ k → k ≤ n → k ∉ T → dl ≤ L k
theorem Iv.used' (h : Iv loss n i V0 u v row way least used j rest) {k : Nat} (hk : k ≤ n) : up used j true k = decide (k ∈ j :: rest) := by
  by_cases e : k = j
  · subst e; rw [up_same]; simp
  · rw [up_ne _ _ e, h.us k hk]; simp [e]
theorem Iv.scan (h : Iv loss n i V0 u v row way least used j rest) (hin : i ≤ n) (hl : Ls loss n) (hr : row j ≠ 0) :
    Sc loss n i u v row (wS (dK loss u v (row j)) least (up used j true) j way n) (lS (dK loss u v (row j)) least (up used j true) n) (up used j true)
      (dS (lS (dK loss u v (row j)) least (up used j true) n) (up used j true) n).1 (dS (lS (dK loss u v (row j)) least (up used j true) n) (up used j true) n).2 (j :: rest) := by
  have hus := fun k hk => h.used' (k := k) hk
  have hrow := fun c (hc : c ∈ j :: rest) => show 1 ≤ row c ∧ row c ≤ i from by
    rcases List.mem_cons.1 hc with rfl | hc
    · exact ⟨by omega, h.rb _ h.jn⟩
    · exact ⟨by have := (h.rn c hc).2; omega, h.rb _ (h.rn c hc).1⟩
  have ok : ∀ k, 1 ≤ k → k ≤ n → k ∉ j :: rest → (∀ c ∈ j :: rest, lS (dK loss u v (row j)) least (up used j true) n k ≤ loss (row c) k - u (row c) - v k) ∧ wS (dK loss u v (row j)) least (up used j true) j way n k ∈ j :: rest ∧
      lS (dK loss u v (row j)) least (up used j true) n k = loss (row (wS (dK loss u v (row j)) least (up used j true) j way n k)) k - u (row (wS (dK loss u v (row j)) least (up used j true) j way n k)) - v k := by
    intro k k1 k2 hk
    have hu : up used j true k = false := by rw [hus k k2]; simpa using hk
    have hd : dK loss u v (row j) k = loss (row j) k - u (row j) - v k := rfl
    have bj := hrow j (List.mem_cons_self ..)
    have b1 := h.bu hin hl bj.1 bj.2
    have b2 := h.bv hin hl k1 k2
    have b3 := hl (row j) k bj.1 (by omega) k1 k2
    unfold lS wS
    by_cases hlt : dK loss u v (row j) k < least k
    · rw [if_pos ⟨k1, k2, hu, hlt⟩, if_pos ⟨k1, k2, hu, hlt⟩]
      refine ⟨fun c hc => ?_, List.mem_cons_self .., rfl⟩
      rcases List.mem_cons.1 hc with rfl | hc
      · omega
      · have := (h.l1 k k1 k2 (fun h' => hk (List.mem_cons_of_mem _ h')) (fun e => by rw [e] at hc; simp at hc)).1 c hc
        omega
    · rw [if_neg (fun ht => hlt ht.2.2.2), if_neg (fun ht => hlt ht.2.2.2)]
      have hne : rest ≠ [] := fun e => by
        have := h.l0 e k k1 k2
        omega
      obtain ⟨a, b, c⟩ := h.l1 k k1 k2 (fun h' => hk (List.mem_cons_of_mem _ h')) hne
      refine ⟨fun x hx => ?_, List.mem_cons_of_mem _ b, c⟩
      rcases List.mem_cons.1 hx with rfl | hx
      · omega
      · exact a x hx
  have bd : ∀ k, 1 ≤ k → k ≤ n → k ∉ j :: rest → -1000000000 ≤ lS (dK loss u v (row j)) least (up used j true) n k ∧ lS (dK loss u v (row j)) least (up used j true) n k ≤ 3 * 1000000000 := by
    intro k k1 k2 hk
    obtain ⟨a, b, c⟩ := ok k k1 k2 hk
    generalize wS (dK loss u v (row j)) least (up used j true) j way n k = x at *
    have hx := hrow x b
    have b1 := h.bu hin hl hx.1 hx.2
    have b2 := h.bv hin hl k1 k2
    have b3 := hl (row x) k hx.1 (by omega) k1 k2
    omega
  generalize hL : lS (dK loss u v (row j)) least (up used j true) n = L at *
  generalize wS (dK loss u v (row j)) least (up used j true) j way n = wy at *
  obtain ⟨s1, s2⟩ := dS_spec L (up used j true) n
  obtain ⟨f, f1, f2, f3⟩ := h.free hin
  have hf : f ∉ j :: rest := fun hf => by
    have := hrow f hf
    omega
  have hfu : up used j true f = false := by rw [hus f f2]; simpa using hf
  have q1 := s1 f f1 f2 hfu
  have q2 := bd f f1 f2 hf
  generalize dS L (up used j true) n = D at *
  rcases s2 with s2 | ⟨t1, t2, t3, t4⟩
  · rw [s2] at q1
    simp only at q1
    omega
  · refine ⟨fun k k1 k2 hk => ?_, t1, t2, ?_, t4, fun k k1 k2 hk => s1 k k1 k2 (by rw [hus k k2]; simpa using hk)⟩
    · obtain ⟨a, b, c⟩ := ok k k1 k2 hk
      exact ⟨a, b, c, bd k k1 k2 hk⟩
    · rw [hus _ t2] at t3
      simpa using t3
def inU (row : Nat → Nat) (used : Nat → Bool) (m r : Nat) : Bool := (List.range m).any fun c => used c && decide (row c = r)
def uU (u : Nat → Int) (row : Nat → Nat) (used : Nat → Bool) (dl : Int) (m : Nat) : Nat → Int := fun r => if inU row used m r = true then u r + dl else u r
def vU (v : Nat → Int) (used : Nat → Bool) (dl : Int) (m : Nat) : Nat → Int := fun k => if k < m ∧ used k = true then v k - dl else v k
def lU (L : Nat → Int) (used : Nat → Bool) (dl : Int) (m : Nat) : Nat → Int := fun k => if k < m ∧ used k = false then L k - dl else L k
theorem inU_iff {m r : Nat} : inU row used m r = true ↔ ∃ c, c < m ∧ used c = true ∧ row c = r := by
  simp [inU]
theorem Iv.inT (h : Iv loss n i V0 u v row way least used j rest) {r : Nat} : inU row (up used j true) (n + 1) r = true ↔ ∃ c ∈ j :: rest, row c = r := by
  rw [inU_iff]
  constructor
  · rintro ⟨c, h1, h2, h3⟩
    rw [h.used' (by omega)] at h2
    exact ⟨c, by simpa using h2, h3⟩
  · rintro ⟨c, h1, h2⟩
    have hc : c ≤ n := by
      rcases List.mem_cons.1 h1 with rfl | h1
      · exact h.jn
      · exact (h.rn c h1).1
    exact ⟨c, by omega, by rw [h.used' hc]; simpa using h1, h2⟩
theorem Iv.next (h : Iv loss n i V0 u v row way least used j rest) (hin : i ≤ n) (hl : Ls loss n) (hr : row j ≠ 0) {wy : Nat → Nat} {L : Nat → Int} {dl : Int} {nx : Nat}
    (hwy : ∀ k, k ∈ j :: rest → wy k = way k) (s : Sc loss n i u v row wy L (up used j true) dl nx (j :: rest)) :
    Iv loss n i V0 (uU u row (up used j true) dl (n + 1)) (vU v (up used j true) dl (n + 1)) row wy (lU L (up used j true) dl (n + 1)) (up used j true) nx (j :: rest) ∧ -1000000000 ≤ dl ∧ dl ≤ 3 * 1000000000 := by
  have hus := fun k hk => h.used' (k := k) hk
  have hinT := fun r => h.inT (r := r)
  have hrow := fun c (hc : c ∈ j :: rest) => show 1 ≤ row c ∧ row c ≤ i ∧ c ≤ n from by
    rcases List.mem_cons.1 hc with rfl | hc
    · exact ⟨by omega, h.rb _ h.jn, h.jn⟩
    · exact ⟨by have := (h.rn c hc).2; omega, h.rb _ (h.rn c hc).1, (h.rn c hc).1⟩
  have uT : ∀ c ∈ j :: rest, uU u row (up used j true) dl (n + 1) (row c) = u (row c) + dl := fun c hc => if_pos ((hinT _).2 ⟨c, hc, rfl⟩)
  have uN : ∀ r, (∀ c ∈ j :: rest, row c ≠ r) → uU u row (up used j true) dl (n + 1) r = u r := fun r hn => if_neg fun ht => by
    obtain ⟨c, h1, h2⟩ := (hinT r).1 ht
    exact hn c h1 h2
  have vT : ∀ k ∈ j :: rest, vU v (up used j true) dl (n + 1) k = v k - dl := fun k hk => if_pos ⟨by have := (hrow k hk).2.2; omega, by rw [hus k (hrow k hk).2.2]; simpa using hk⟩
  have vN : ∀ k, k ≤ n → k ∉ j :: rest → vU v (up used j true) dl (n + 1) k = v k := fun k hkn hk => if_neg fun ht => by
    have := ht.2
    rw [hus k hkn] at this
    exact hk (by simpa using this)
  have lN : ∀ k, k ≤ n → k ∉ j :: rest → lU L (up used j true) dl (n + 1) k = L k - dl := fun k hkn hk => if_pos ⟨by omega, by rw [hus k hkn]; simpa using hk⟩
  have h0 := h.ch.zero
  have posd : ∀ k, 1 ≤ k → k ∈ j :: rest → rest ≠ [] := fun k k1 hk e => by
    have hj := h.rest0 e
    subst hj
    rw [e] at hk
    have : k = 0 := by simpa using hk
    omega
  obtain ⟨sa, sb, sc, sd1, sd2⟩ := s.ok nx s.n1 s.n2 s.nn
  have hdl := s.de
  have dpos : rest ≠ [] → 0 ≤ dl := fun hne => by
    have hx := hrow _ sb
    have := h.fe _ nx hx.1 hx.2.1 s.n1 s.n2 (fun e => absurd e hne)
    omega
  refine ⟨⟨?_, fun k hk => hus k hk, s.n2, fun k hk => ⟨(hrow k hk).2.2, by have := (hrow k hk).1; omega⟩, h.i1, h.r0, h.rb, h.inj, h.sur, fun r k r1 r2 k1 k2 _ => ?_, fun k k1 k2 hk => ?_, fun k k1 k2 => ?_, fun r hri => ?_, fun e => by simp at e, ?_, fun e => by simp at e, fun k k1 k2 hk _ => ?_, ?_⟩, by omega, by omega⟩
  · refine .step nx _ (by have := s.n1; omega) sb (by have := (hrow _ sb).1; omega) ?_ s.nn ?_
    · rw [uT _ sb, vN nx s.n2 s.nn]; omega
    · refine h.ch.congr fun k hk hk0 hw => ⟨hwy k hk, rfl, ?_⟩
      rw [uT _ hw, vT k hk]; omega
  · by_cases hT : ∃ c ∈ j :: rest, row c = r
    · obtain ⟨c, hc, rfl⟩ := hT
      rw [uT c hc]
      by_cases hk : k ∈ j :: rest
      · rw [vT k hk]
        have := h.fe (row c) k r1 r2 k1 k2 (fun e => absurd e (posd k k1 hk))
        omega
      · rw [vN k k2 hk]
        have h1 := (s.ok k k1 k2 hk).1 c hc
        have h2 := s.low k k1 k2 hk
        omega
    · rw [uN r fun c hc e => hT ⟨c, hc, e⟩]
      by_cases hk : k ∈ j :: rest
      · rw [vT k hk]
        have hne := posd k k1 hk
        have := h.fe r k r1 r2 k1 k2 (fun e => absurd e hne)
        have := dpos hne
        omega
      · rw [vN k k2 hk]
        refine h.fe r k r1 r2 k1 k2 fun _ e => hT ⟨0, h0, ?_⟩
        rw [h.r0, e]
  · have ht := h.ti k k1 k2 hk
    by_cases hkT : k ∈ j :: rest
    · rw [uT k hkT, vT k hkT]; omega
    · rw [vN k k2 hkT, uN (row k) fun c hc e => hkT ?_]
      · exact ht
      · have := h.inj c k (hrow c hc).2.2 k2 e (by have := (hrow c hc).1; omega)
        exact this ▸ hc
  · have hv := h.vn k k1 k2
    by_cases hkT : k ∈ j :: rest
    · rw [vT k hkT]
      have := dpos (posd k k1 hkT)
      exact ⟨by omega, fun e => by have := (hrow k hkT).1; omega⟩
    · rw [vN k k2 hkT]; exact hv
  · rw [uN r fun c hc e => by have := (hrow c hc).2.1; omega]
    exact h.uz r hri
  · have := uT 0 h0
    rw [h.r0] at this
    rw [this]
    by_cases e : rest = []
    · have h1 := h.ui e
      have hj := h.rest0 e
      subst hj
      rw [e] at sb
      have e2 : wy nx = 0 := by simpa using sb
      rw [e2, h.r0] at sc
      have := hl i nx h.i1 hin s.n1 s.n2
      have := (h.vn nx s.n1 s.n2).1
      omega
    · have := dpos e
      have := h.ul
      omega
  · obtain ⟨a, b, c, _, _⟩ := s.ok k k1 k2 hk
    rw [lN k k2 hk, vN k k2 hk]
    refine ⟨fun x hx => ?_, b, ?_⟩
    · rw [uT x hx]
      have := a x hx
      omega
    · rw [uT _ b]; omega
  · have h1 := uT 0 h0
    rw [h.r0] at h1
    rw [vT 0 h0, h1, h.v0]; omega
end
end Go.Proofs.Ytajpngnphbdnnaa.Hung
namespace Go.Proofs.Ytajpngnphbdnnaa.Hung
set_option linter.unusedSimpArgs false
set_option linter.unusedVariables false
section
variable {loss : Nat → Nat → Int} {u v least : Nat → Int} {row way : Nat → Nat} {used : Nat → Bool} {rest : List Nat} {n i j : Nat} {V0 : Int}
/-- Ahead of row i: the rows before it have columns. -/
structure Ov (loss : Nat → Nat → Int) (n i : Nat) (u v : Nat → Int) (row : Nat → Nat) : Prop where
  rb : ∀ k, 1 ≤ k → k ≤ n → row k < i
  inj : ∀ a b, 1 ≤ a → a ≤ n → 1 ≤ b → b ≤ n → row a = row b → row a ≠ 0 → a = b
  sur : ∀ r, 1 ≤ r → r < i → ∃ a, 1 ≤ a ∧ a ≤ n ∧ row a = r
  fe : ∀ r k, 1 ≤ r → r < i → 1 ≤ k → k ≤ n → u r + v k ≤ loss r k
  ti : ∀ k, 1 ≤ k → k ≤ n → row k ≠ 0 → u (row k) + v k = loss (row k) k
  vn : ∀ k, 1 ≤ k → k ≤ n → v k ≤ 0 ∧ (row k = 0 → v k = 0)
  uz : ∀ r, i ≤ r → u r = 0
  v0 : 0 ≤ v 0 ∧ v 0 ≤ 1000000000 * ((i : Int) - 1)
theorem Ov.start (loss : Nat → Nat → Int) (n : Nat) : Ov loss n 1 (fun _ => 0) (fun _ => 0) (fun _ => 0) :=
  ⟨fun _ _ _ => by omega, fun _ _ _ _ _ _ _ h => absurd rfl h, fun r h1 h2 => by omega, fun r k h1 h2 => by omega, fun _ _ _ h => absurd rfl h, fun _ _ _ => ⟨Int.le_refl _, fun _ => rfl⟩, fun _ _ => rfl, by omega⟩
theorem Ov.begin (h : Ov loss n i u v row) (hi : 1 ≤ i) (way : Nat → Nat) : Iv loss n i (v 0) u v (up row 0 i) way (fun _ => 1152921504606846976) (fun _ => false) 0 [] := by
  have hne : ∀ k, 1 ≤ k → up row 0 i k = row k := fun k hk => up_ne _ _ (by omega)
  refine ⟨.base, fun k _ => by simp, Nat.zero_le _, fun k hk => by simp at hk, hi, up_same .., fun k hk => ?_, fun a b ha hb e hz => ?_, fun r r1 r2 => ?_, fun r k r1 r2 k1 k2 hr => h.fe r k r1 (by have := hr rfl; omega) k1 k2, fun k k1 k2 hk => ?_, fun k k1 k2 => ?_, fun r hr => h.uz r (by omega), fun _ => h.uz i (Nat.le_refl _), ?_, fun _ _ _ _ => rfl, fun _ _ _ _ hne => absurd rfl hne, ?_⟩
  · by_cases k0 : k = 0
    · subst k0; rw [up_same]; exact Nat.le_refl _
    · rw [hne k (by omega)]; have := h.rb k (by omega) hk; omega
  · by_cases a0 : a = 0
    · by_cases b0 : b = 0
      · omega
      · subst a0
        rw [up_same, hne b (by omega)] at e
        have := h.rb b (by omega) hb
        omega
    · by_cases b0 : b = 0
      · subst b0
        rw [up_same, hne a (by omega)] at e
        have := h.rb a (by omega) ha
        omega
      · rw [hne a (by omega), hne b (by omega)] at e
        rw [hne a (by omega)] at hz
        exact h.inj a b (by omega) ha (by omega) hb e hz
  · by_cases e : r = i
    · exact ⟨0, Nat.zero_le _, by rw [up_same, e]⟩
    · obtain ⟨a, a1, a2, a3⟩ := h.sur r r1 (by omega)
      exact ⟨a, a2, by rw [hne a a1, a3]⟩
  · rw [hne k k1] at hk ⊢
    exact h.ti k k1 k2 hk
  · rw [hne k k1]
    exact h.vn k k1 k2
  · rw [h.uz i (Nat.le_refl _)]; omega
  · rw [h.uz i (Nat.le_refl _)]; omega
/-- The columns are handed on along the way. -/
structure Ag (loss : Nat → Nat → Int) (n i : Nat) (u v : Nat → Int) (row way : Nat → Nat) (j : Nat) (rest : List Nat) : Prop where
  ch : Ch loss u v row way (j :: rest)
  jn : j ≤ n
  rn : ∀ k ∈ rest, k ≤ n
  rb : ∀ k, k ≤ n → row k ≤ i
  inj : ∀ a b, a ≤ n → b ≤ n → a ≠ j → b ≠ j → row a = row b → row a ≠ 0 → a = b
  sur : ∀ r, 1 ≤ r → r ≤ i → ∃ a, a ≤ n ∧ a ≠ j ∧ row a = r
  ti : ∀ k, 1 ≤ k → k ≤ n → k ≠ j → row k ≠ 0 → u (row k) + v k = loss (row k) k
  vz : ∀ k, 1 ≤ k → k ≤ n → k ≠ j → row k = 0 → v k = 0
  fe : ∀ r k, 1 ≤ r → r ≤ i → 1 ≤ k → k ≤ n → u r + v k ≤ loss r k
  vn : ∀ k, 1 ≤ k → k ≤ n → v k ≤ 0
  uz : ∀ r, i < r → u r = 0
  v0 : 0 ≤ v 0 ∧ v 0 ≤ 1000000000 * (i : Int)
theorem Iv.found (h : Iv loss n i V0 u v row way least used j rest) (hin : i ≤ n) (hl : Ls loss n) (hV : 0 ≤ V0 ∧ V0 ≤ 1000000000 * ((i : Int) - 1)) (hr : row j = 0) : Ag loss n i u v row way j rest := by
  have hj : j ≠ 0 := fun e => by have := h.r0; have := h.i1; rw [e] at hr; omega
  have hne : rest ≠ [] := fun e => hj (h.rest0 e)
  refine ⟨h.ch, h.jn, fun k hk => (h.rn k hk).1, h.rb, fun a b ha hb _ _ => h.inj a b ha hb, fun r r1 r2 => ?_, fun k k1 k2 _ => h.ti k k1 k2, fun k k1 k2 _ e => (h.vn k k1 k2).2 e, fun r k r1 r2 k1 k2 => h.fe r k r1 r2 k1 k2 fun e => absurd e hne, fun k k1 k2 => (h.vn k k1 k2).1, h.uz, ?_⟩
  · obtain ⟨a, a1, a2⟩ := h.sur r r1 r2
    exact ⟨a, a1, fun e => by rw [e] at a2; omega, a2⟩
  · have := h.bu hin hl h.i1 (Nat.le_refl _)
    have := h.v0
    omega
theorem Ag.step (h : Ag loss n i u v row way j rest) (hj : j ≠ 0) : way j ≤ n ∧ ∃ rest', Ag loss n i u v (up row j (row (way j))) way (way j) rest' ∧ rest'.length < rest.length := by
  have hc := h.ch
  cases hc with
  | base => exact absurd rfl hj
  | step _ _ h0 hw hr ht hk hch =>
    obtain ⟨r', c1, c2, c3⟩ := hch.sub hw
    have wn : way j ≤ n := h.rn _ hw
    have wj : way j ≠ j := fun e => hk (by rw [e] at hw; exact hw)
    have hne : ∀ k, k ≠ j → up row j (row (way j)) k = row k := fun k e => up_ne _ _ e
    have hs := up_same row j (row (way j))
    refine ⟨wn, r', ⟨c1.congr fun k hk' _ hwk => ⟨rfl, hne _ fun e => hk (c2 _ (e ▸ hwk)), rfl⟩, wn, fun k hk' => h.rn k (c2 k (List.mem_cons_of_mem _ hk')), fun k hkn => ?_, fun a b ha hb hane hbne e hz => ?_, fun r r1 r2 => ?_, fun k k1 k2 hkw hz => ?_, fun k k1 k2 hkw hz => ?_, h.fe, h.vn, h.uz, h.v0⟩, c3⟩
    · by_cases e : k = j
      · subst e; rw [hs]; exact h.rb _ wn
      · rw [hne k e]; exact h.rb k hkn
    · by_cases aj : a = j
      · by_cases bj : b = j
        · rw [aj, bj]
        · subst aj
          rw [hs, hne b bj] at e
          have := h.inj (way a) b wn hb wj bj e hr
          exact absurd this.symm hbne
      · by_cases bj : b = j
        · subst bj
          rw [hs, hne a aj] at e
          have := h.inj a (way b) ha wn aj wj e (by rw [hne a aj] at hz; exact hz)
          exact absurd this hane
        · rw [hne a aj, hne b bj] at e
          rw [hne a aj] at hz
          exact h.inj a b ha hb aj bj e hz
    · obtain ⟨a, a1, a2, a3⟩ := h.sur r r1 r2
      by_cases e : a = way j
      · exact ⟨j, h.jn, fun e' => wj e'.symm, by rw [hs, ← e, a3]⟩
      · exact ⟨a, a1, e, by rw [hne a a2, a3]⟩
    · by_cases e : k = j
      · subst e; rw [hs]; exact ht
      · rw [hne k e] at hz ⊢
        exact h.ti k k1 k2 e hz
    · by_cases e : k = j
      · subst e; rw [hs] at hz; exact absurd hz hr
      · rw [hne k e] at hz
        exact h.vz k k1 k2 e hz
theorem Ag.done (h : Ag loss n i u v row way 0 rest) : Ov loss n (i + 1) u v row :=
  ⟨fun k k1 k2 => by have := h.rb k k2; omega, fun a b a1 a2 b1 b2 => h.inj a b a2 b2 (by omega) (by omega), fun r r1 r2 => by
    obtain ⟨a, a1, a2, a3⟩ := h.sur r r1 (by omega)
    exact ⟨a, by omega, a1, a3⟩, fun r k r1 r2 => h.fe r k r1 (by omega), fun k k1 k2 => h.ti k k1 k2 (by omega), fun k k1 k2 => ⟨h.vn k k1 k2, h.vz k k1 k2 (by omega)⟩, fun r hr => h.uz r (by omega), by have := h.v0; omega⟩
theorem Ov.all (h : Ov loss n (n + 1) u v row) : ∃ p : Nat → Nat, Pr n n p ∧ (∀ q, q < n → p q < n) ∧ (∀ q, q < n → row (p q + 1) = q + 1) ∧ ∀ k, k < n → ∃ q, q < n ∧ p q = k := by
  have hc : ∀ q, ∃ k, q < n → k < n ∧ row (k + 1) = q + 1 := fun q => by
    by_cases hq : q < n
    · obtain ⟨a, a1, a2, a3⟩ := h.sur (q + 1) (by omega) (by omega)
      exact ⟨a - 1, fun _ => ⟨by omega, by rw [show a - 1 + 1 = a by omega, a3]⟩⟩
    · exact ⟨0, fun h' => absurd h' hq⟩
  obtain ⟨p, hp⟩ := Classical.axiomOfChoice hc
  have hinj : Pr n n p := fun x y hx hy _ e => by
    have h1 := (hp x hx).2
    have h2 := (hp y hy).2
    rw [e, h2] at h1
    omega
  refine ⟨p, hinj, fun q hq => (hp q hq).1, fun q hq => (hp q hq).2, fun k hk => ?_⟩
  apply Classical.byContradiction
  intro hno
  have := nodup_le (l := (List.range n).map p) (k := (List.range n).erase k) (by
    rw [List.Nodup, List.pairwise_map]
    refine (List.nodup_range (n := n)).imp_of_mem fun {a b} ha hb hab e => hab ?_
    simp only [List.mem_range] at ha hb
    exact hinj a b ha hb (hp a ha).1 e) fun x hx => by
      obtain ⟨q, hq, rfl⟩ := List.mem_map.1 hx
      simp only [List.mem_range] at hq
      exact (List.mem_erase_of_ne fun e => hno ⟨q, hq, e⟩).2 (List.mem_range.2 (hp q hq).1)
  rw [List.length_map, List.length_range, List.length_erase_of_mem (List.mem_range.2 hk), List.length_range] at this
  omega
/-- What the search comes to. -/
structure Best (w : Nat → Nat → Int) (l r : Nat) (a b : Nat → Int) (best : Int) : Prop where
  du : Dual w l r a b
  su : sN a l + sN b r = best
  pa : ∃ p, Pr l r p ∧ tot w r p l = best
  ba : ∀ q, q < l → a q ≤ 1000000000
  bb : ∀ q, q < r → b q ≤ 1000000000
theorem Best.max {w : Nat → Nat → Int} {l r : Nat} {a b : Nat → Int} {best : Int} (h : Best w l r a b best) : IsMax w l r best :=
  ⟨h.pa, fun p hp => by have := h.du.bound hp; rw [h.su] at this; exact this⟩
theorem Ov.best {w : Nat → Nat → Int} {l r : Nat} (h : Ov loss n (n + 1) u v row) (hw : ∀ x y, x < n → y < n → loss (x + 1) (y + 1) = -w x y) (hwb : ∀ x y, x < n → y < n → 0 ≤ w x y ∧ w x y ≤ 1000000000) (hl : l ≤ n) (hr : r ≤ n)
    (hz : ∀ x y, x < n → y < n → l ≤ x ∨ r ≤ y → w x y = 0) {low : Int} (h1 : ∃ q, q < n ∧ low = -v (q + 1)) (h2 : ∀ q, q < n → low ≤ -v (q + 1)) :
    Best w l r (fun x => -u (x + 1) + low) (fun y => -v (y + 1) - low) (sN (fun k => -loss (row (k + 1)) (k + 1)) n) := by
  obtain ⟨p, p1, p2, p3, p4⟩ := h.all
  obtain ⟨q0, hq0, e0⟩ := h1
  have fe : ∀ x y, x < n → y < n → w x y ≤ (-u (x + 1) + low) + (-v (y + 1) - low) := fun x y hx hy => by
    have := h.fe (x + 1) (y + 1) (by omega) (by omega) (by omega) (by omega)
    rw [hw x y hx hy] at this
    omega
  have ti : ∀ x, x < n → (-u (x + 1) + low) + (-v (p x + 1) - low) = w x (p x) := fun x hx => by
    have hp := p2 x hx
    have := h.ti (p x + 1) (by omega) (by omega) (by rw [p3 x hx]; omega)
    rw [p3 x hx, hw x (p x) hx hp] at this
    omega
  have na : ∀ x, x < n → 0 ≤ -u (x + 1) + low := fun x hx => by
    have := fe x q0 hx hq0
    have := (hwb x q0 hx hq0).1
    omega
  have nb : ∀ y, y < n → 0 ≤ -v (y + 1) - low := fun y hy => by have := h2 y hy; omega
  have az : ∀ x, l ≤ x → x < n → -u (x + 1) + low = 0 := fun x hx hn => by
    have := ti x hn
    rw [hz x (p x) hn (p2 x hn) (.inl hx)] at this
    have := na x hn
    have := nb (p x) (p2 x hn)
    omega
  have bz : ∀ y, r ≤ y → y < n → -v (y + 1) - low = 0 := fun y hy hn => by
    obtain ⟨x, hx, e⟩ := p4 y hn
    have := ti x hx
    rw [e, hz x y hx hn (.inr hy)] at this
    have := na x hx
    have := nb y hn
    omega
  have sa := sN_ext (f := fun x => -u (x + 1) + low) hl az
  have sb := sN_ext (f := fun y => -v (y + 1) - low) hr bz
  have s1 : sN (fun x => w x (p x)) n = sN (fun x => -u (x + 1) + low) n + sN (fun y => -v (y + 1) - low) n := by
    rw [← met_eq p1 p2 (fun y => -v (y + 1) - low) nb, ← sN_add]
    exact sN_congr fun x hx => (ti x hx).symm
  have s2 : sN (fun k => -loss (row (k + 1)) (k + 1)) n = sN (fun x => w x (p x)) n := by
    have := met_eq p1 p2 (fun k => -loss (row (k + 1)) (k + 1)) fun k hk => by
      obtain ⟨x, hx, e⟩ := p4 k hk
      rw [← e, p3 x hx, hw x (p x) hx (p2 x hx)]
      have := (hwb x (p x) hx (p2 x hx)).1
      omega
    rw [← this]
    exact sN_congr fun x hx => by rw [p3 x hx, hw x (p x) hx (p2 x hx)]; omega
  refine ⟨⟨fun x hx => na x (by omega), fun y hy => nb y (by omega), fun x y hx hy => fe x y (by omega) (by omega)⟩, by rw [s2, s1, sa, sb], ⟨p, fun x y hx hy hp e => p1 x y (by omega) (by omega) (by omega) e, ?_⟩, fun x hx => ?_, fun y hy => ?_⟩
  · rw [s2, sN_ext (f := fun x => w x (p x)) hl fun x h1 h2 => hz x (p x) h2 (p2 x h2) (.inl h1)]
    refine sN_congr fun x hx => ?_
    split
    · rfl
    · rename_i h'
      exact (hz x (p x) (by omega) (p2 x (by omega)) (.inr (by omega))).symm
  · have := ti x (by omega)
    have := (hwb x (p x) (by omega) (p2 x (by omega))).2
    have := nb (p x) (p2 x (by omega))
    show -u (x + 1) + low ≤ _
    omega
  · obtain ⟨x, hx, e⟩ := p4 y (by omega)
    have := ti x hx
    rw [e] at this
    have := (hwb x y hx (by omega)).2
    have := na x hx
    show -v (y + 1) - low ≤ _
    omega
end
end Go.Proofs.Ytajpngnphbdnnaa.Hung
namespace Go.Proofs.Ytajpngnphbdnnaa.Hung
set_option linter.unusedSimpArgs false
set_option linter.unusedVariables false
/-- The greatest worth of a pairing between two lists. -/
def mx (w : Nat → Nat → Int) : List Nat → List Nat → Int
  | [], _ => 0
  | x :: L, R => R.foldl (fun best y => max best (w x y + mx w L (R.erase y))) (mx w L R)
theorem foldl_max_ge {f : Nat → Int} : ∀ (R : List Nat) (z : Int), z ≤ R.foldl (fun b y => max b (f y)) z ∧ ∀ y ∈ R, f y ≤ R.foldl (fun b y => max b (f y)) z
  | [], _ => ⟨Int.le_refl _, fun y hy => by simp at hy⟩
  | x :: R, z => by
    obtain ⟨h1, h2⟩ := foldl_max_ge (f := f) R (max z (f x))
    simp only [List.foldl_cons]
    refine ⟨by omega, fun y hy => ?_⟩
    rcases List.mem_cons.1 hy with rfl | hy
    · omega
    · exact h2 y hy
theorem foldl_max_at {f : Nat → Int} : ∀ (R : List Nat) (z : Int), R.foldl (fun b y => max b (f y)) z = z ∨ ∃ y ∈ R, R.foldl (fun b y => max b (f y)) z = f y
  | [], _ => .inl rfl
  | x :: R, z => by
    simp only [List.foldl_cons]
    rcases foldl_max_at (f := f) R (max z (f x)) with h | ⟨y, h1, h2⟩
    · by_cases hc : z ≤ f x
      · exact .inr ⟨x, List.mem_cons_self .., by rw [h]; omega⟩
      · exact .inl (by rw [h]; omega)
    · exact .inr ⟨y, List.mem_cons_of_mem _ h1, h2⟩
theorem mx_skip (w : Nat → Nat → Int) (x : Nat) (L R : List Nat) : mx w L R ≤ mx w (x :: L) R := (foldl_max_ge R _).1
theorem mx_take (w : Nat → Nat → Int) (x : Nat) (L : List Nat) {R : List Nat} {y : Nat} (hy : y ∈ R) : w x y + mx w L (R.erase y) ≤ mx w (x :: L) R := (foldl_max_ge (f := fun y => w x y + mx w L (R.erase y)) R _).2 y hy
theorem mx_cases (w : Nat → Nat → Int) (x : Nat) (L R : List Nat) : mx w (x :: L) R = mx w L R ∨ ∃ y ∈ R, mx w (x :: L) R = w x y + mx w L (R.erase y) := foldl_max_at (f := fun y => w x y + mx w L (R.erase y)) R _
/-- A pairing between two lists: what is not in R stands for none. -/
def PrL (L R : List Nat) (p : Nat → Nat) : Prop := ∀ x ∈ L, ∀ x' ∈ L, p x ∈ R → p x = p x' → x = x'
def totL (w : Nat → Nat → Int) (R : List Nat) (p : Nat → Nat) : List Nat → Int
  | [] => 0
  | x :: L => (if p x ∈ R then w x (p x) else 0) + totL w R p L
theorem totL_congr {w : Nat → Nat → Int} {R R' : List Nat} {p p' : Nat → Nat} : ∀ {L : List Nat}, (∀ x ∈ L, (if p x ∈ R then w x (p x) else 0) = if p' x ∈ R' then w x (p' x) else 0) → totL w R p L = totL w R' p' L
  | [], _ => rfl
  | x :: L, h => by
    simp only [totL]
    rw [h x (List.mem_cons_self ..), totL_congr fun y hy => h y (List.mem_cons_of_mem _ hy)]
theorem mx_ub (w : Nat → Nat → Int) : ∀ (L R : List Nat) (p : Nat → Nat), L.Nodup → PrL L R p → totL w R p L ≤ mx w L R
  | [], R, p, _, _ => by simp [totL, mx]
  | x :: L, R, p, hn, hp => by
    obtain ⟨n1, n2⟩ := List.nodup_cons.1 hn
    simp only [totL]
    by_cases h : p x ∈ R
    · have ih := mx_ub w L (R.erase (p x)) p n2 fun a ha b hb h1 h2 => hp a (List.mem_cons_of_mem _ ha) b (List.mem_cons_of_mem _ hb) (List.mem_of_mem_erase h1) h2
      have e : totL w (R.erase (p x)) p L = totL w R p L := totL_congr fun y hy => by
        have hne : p y ≠ p x := fun e => n1 ((hp x (List.mem_cons_self ..) y (List.mem_cons_of_mem _ hy) h e.symm) ▸ hy)
        simp only [List.mem_erase_of_ne hne]
      have := mx_take w x L h
      rw [if_pos h]; omega
    · have ih := mx_ub w L R p n2 fun a ha b hb => hp a (List.mem_cons_of_mem _ ha) b (List.mem_cons_of_mem _ hb)
      have := mx_skip w x L R
      rw [if_neg h]; omega
theorem out_of (R : List Nat) : ∃ N : Nat, N ∉ R := by
  have : ∃ N : Nat, ∀ y ∈ R, y < N := by
    induction R with
    | nil => exact ⟨0, fun y hy => by simp at hy⟩
    | cons x R ih =>
      obtain ⟨N, hN⟩ := ih
      refine ⟨max (x + 1) N, fun y hy => ?_⟩
      rcases List.mem_cons.1 hy with rfl | hy
      · omega
      · have := hN y hy; omega
  obtain ⟨N, hN⟩ := this
  exact ⟨N, fun h => by have := hN N h; omega⟩
theorem mx_at (w : Nat → Nat → Int) : ∀ (L R : List Nat), L.Nodup → R.Nodup → ∃ p, PrL L R p ∧ totL w R p L = mx w L R
  | [], R, _, _ => ⟨fun _ => 0, fun x hx => by simp at hx, rfl⟩
  | x :: L, R, hn, hR => by
    obtain ⟨n1, n2⟩ := List.nodup_cons.1 hn
    obtain ⟨N, hN⟩ := out_of R
    rcases mx_cases w x L R with h | ⟨y, hy, h⟩
    · obtain ⟨p, p1, p2⟩ := mx_at w L R n2 hR
      have hne : ∀ z ∈ L, (if z = x then N else p z) = p z := fun z hz => if_neg fun e => n1 (by rw [← e]; exact hz)
      refine ⟨fun z => if z = x then N else p z, fun a ha b hb h1 h2 => ?_, ?_⟩
      · rcases List.mem_cons.1 ha with ha | ha
        · simp only [ha, if_true] at h1; exact absurd h1 hN
        · rcases List.mem_cons.1 hb with hb | hb
          · simp only [hb, if_true] at h2; simp only [h2] at h1; exact absurd h1 hN
          · simp only [hne a ha, hne b hb] at h1 h2
            exact p1 a ha b hb h1 h2
      · simp only [totL, if_true, if_neg hN]
        rw [totL_congr (p' := p) (R' := R) fun z hz => by simp only [hne z hz], p2, h]; omega
    · obtain ⟨p, p1, p2⟩ := mx_at w L (R.erase y) n2 (hR.erase y)
      have hny : ∀ z, z ∈ R.erase y → z ≠ y := fun z hz e => by
        subst e
        exact (hR.mem_erase_iff.1 hz).1 rfl
      have hne : ∀ z ∈ L, (if z = x then y else if p z ∈ R.erase y then p z else N) = if p z ∈ R.erase y then p z else N := fun z hz => if_neg fun e => n1 (by rw [← e]; exact hz)
      have hNe : N ≠ y := fun e => hN (e ▸ hy)
      refine ⟨fun z => if z = x then y else if p z ∈ R.erase y then p z else N, fun a ha b hb h1 h2 => ?_, ?_⟩
      · have key : ∀ z ∈ L, (if p z ∈ R.erase y then p z else N) ≠ y := fun z hz e => by
          split at e
          · rename_i h; exact hny _ h e
          · exact hNe e
        rcases List.mem_cons.1 ha with ha | ha
        · rcases List.mem_cons.1 hb with hb | hb
          · rw [ha, hb]
          · simp only [ha, if_true, hne b hb] at h2
            exact absurd h2.symm (key b hb)
        · rcases List.mem_cons.1 hb with hb | hb
          · simp only [hb, if_true, hne a ha] at h2
            exact absurd h2 (key a ha)
          · simp only [hne a ha, hne b hb] at h1 h2
            by_cases ca : p a ∈ R.erase y
            · rw [if_pos ca] at h1 h2
              by_cases cb : p b ∈ R.erase y
              · rw [if_pos cb] at h2; exact p1 a ha b hb ca h2
              · rw [if_neg cb] at h2; rw [h2] at h1; exact absurd h1 hN
            · rw [if_neg ca] at h1; exact absurd h1 hN
      · simp only [totL, if_true, if_pos hy]
        rw [totL_congr (p' := p) (R' := R.erase y) fun z hz => by
          simp only [hne z hz]
          by_cases c : p z ∈ R.erase y
          · rw [if_pos c, if_pos c, if_pos (List.mem_of_mem_erase c)]
          · rw [if_neg c, if_neg c, if_neg hN], p2, h]
theorem totL_sN (w : Nat → Nat → Int) (R : List Nat) (p : Nat → Nat) : ∀ (L : List Nat), totL w R p L = sN (fun i => if p (L.getD i 0) ∈ R then w (L.getD i 0) (p (L.getD i 0)) else 0) L.length := by
  have key : ∀ (f : Nat → Int) n, sN f (n + 1) = f 0 + sN (fun i => f (i + 1)) n := by
    intro f n
    induction n with
    | zero => simp [sN]
    | succ n ih => rw [sN, ih]; simp only [sN]; omega
  intro L
  induction L with
  | nil => rfl
  | cons x L ih => rw [totL, List.length_cons, key, ih]; simp
theorem getD_mem' {L : List Nat} {i : Nat} (h : i < L.length) : L.getD i 0 ∈ L := by
  rw [List.getD_eq_getElem?_getD, List.getElem?_eq_getElem h]; exact List.getElem_mem h
theorem getD_idx {L : List Nat} {x : Nat} (h : x ∈ L) : L.getD (L.idxOf x) 0 = x := by
  have := List.idxOf_lt_length_of_mem h
  rw [List.getD_eq_getElem?_getD, List.getElem?_eq_getElem this]; simp
theorem idx_getD {L : List Nat} {i : Nat} (hn : L.Nodup) (h : i < L.length) : L.idxOf (L.getD i 0) = i := by
  rw [List.getD_eq_getElem?_getD, List.getElem?_eq_getElem h]
  exact hn.idxOf_getElem i h
/-- What the search comes to is the greatest worth. -/
theorem Best.mx {w : Nat → Nat → Int} {L R : List Nat} {a b : Nat → Int} {best : Int} (h : Best (fun i q => w (L.getD i 0) (R.getD q 0)) L.length R.length a b best) (hL : L.Nodup) (hR : R.Nodup) : best = mx w L R := by
  apply Int.le_antisymm
  · obtain ⟨p, p1, p2⟩ := h.pa
    obtain ⟨N, hN⟩ := out_of R
    have := mx_ub w L R (fun x => if p (L.idxOf x) < R.length then R.getD (p (L.idxOf x)) 0 else N) hL fun x hx x' hx' h1 h2 => by
      simp only at h1 h2
      split at h1
      · rename_i hc
        simp only [hc, if_true] at h2
        split at h2
        · rename_i hc'
          have e := congrArg R.idxOf h2
          rw [idx_getD hR hc, idx_getD hR hc'] at e
          have := p1 _ _ (List.idxOf_lt_length_of_mem hx) (List.idxOf_lt_length_of_mem hx') hc e
          rw [← getD_idx hx, ← getD_idx hx', this]
        · rw [h2] at h1; exact absurd h1 hN
      · exact absurd h1 hN
    rw [totL_sN] at this
    refine Int.le_trans (Int.le_of_eq ?_) this
    rw [← p2]
    refine sN_congr fun i hi => ?_
    simp only [idx_getD hL hi]
    by_cases hc : p i < R.length
    · rw [if_pos hc, if_pos hc, if_pos (getD_mem' hc)]
    · rw [if_neg hc, if_neg hc, if_neg hN]
  · obtain ⟨p, p1, p2⟩ := mx_at w L R hL hR
    have := h.du.bound (p := fun i => if p (L.getD i 0) ∈ R then R.idxOf (p (L.getD i 0)) else R.length) fun i i' hi hi' h1 h2 => by
      simp only at h1 h2
      split at h1
      · rename_i hc
        simp only [hc, if_true] at h2
        split at h2
        · rename_i hc'
          have e : p (L.getD i 0) = p (L.getD i' 0) := by rw [← getD_idx hc, ← getD_idx hc', h2]
          have := p1 _ (getD_mem' hi) _ (getD_mem' hi') hc e
          rw [← idx_getD hL hi, ← idx_getD hL hi', this]
        · rw [h2] at h1; omega
      · omega
    rw [h.su] at this
    refine Int.le_trans (Int.le_of_eq ?_) this
    rw [← p2, totL_sN]
    refine sN_congr fun i hi => ?_
    simp only
    by_cases hc : p (L.getD i 0) ∈ R
    · simp only [if_pos hc]
      rw [if_pos (List.idxOf_lt_length_of_mem hc), getD_idx hc]
    · simp only [if_neg hc]
      rw [if_neg (by omega)]
theorem mx_mono (w : Nat → Nat → Int) (hw : ∀ x y, 0 ≤ w x y) : ∀ (L R : List Nat) (y : Nat), mx w L (R.erase y) ≤ mx w L R
  | [], _, _ => by simp [mx]
  | x :: L, R, y => by
    rcases mx_cases w x L (R.erase y) with h | ⟨z, hz, h⟩
    · rw [h]; exact Int.le_trans (mx_mono w hw L R y) (mx_skip w x L R)
    · rw [h, List.erase_comm]
      have := mx_mono w hw L (R.erase z) y
      have := mx_take w x L (List.mem_of_mem_erase hz)
      omega
theorem mx_nonneg (w : Nat → Nat → Int) : ∀ (L R : List Nat), 0 ≤ mx w L R
  | [], _ => by simp [mx]
  | x :: L, R => Int.le_trans (mx_nonneg w L R) (mx_skip w x L R)
/-- What a pair adds. -/
def wo (c : Nat → Nat → Int) (x y : Nat) : Int := if c x y < 0 then 0 else 1000000000 - c x y
/-- The partner that the first of the cheapest pairings gives a glove. -/
def pick (c : Nat → Nat → Int) (x : Nat) (L R : List Nat) (left : Int) : List Nat → Option Nat
  | [] => none
  | y :: T => if c x y < 0 then pick c x L R left T else if mx (wo c) L (R.erase y) + wo c x y = left then some y else pick c x L R left T
/-- The first of the cheapest pairings. -/
def chp (c : Nat → Nat → Int) : List Nat → List Nat → List Int
  | [], _ => []
  | x :: L, R => match pick c x L R (mx (wo c) (x :: L) R) R with
    | some y => (y : Int) :: chp c L (R.erase y)
    | none => -1 :: chp c L R
theorem pick_some {c : Nat → Nat → Int} {x y : Nat} {L R : List Nat} {left : Int} : ∀ {T : List Nat}, pick c x L R left T = some y → y ∈ T ∧ 0 ≤ c x y ∧ mx (wo c) L (R.erase y) + wo c x y = left
  | [], h => by cases h
  | z :: T, h => by
    simp only [pick] at h
    split at h
    · obtain ⟨a, b⟩ := pick_some h
      exact ⟨List.mem_cons_of_mem _ a, b⟩
    · split at h
      · injection h with h; subst h
        exact ⟨List.mem_cons_self .., by omega, by assumption⟩
      · obtain ⟨a, b⟩ := pick_some h
        exact ⟨List.mem_cons_of_mem _ a, b⟩
theorem pick_none {c : Nat → Nat → Int} {x : Nat} {L R : List Nat} {left : Int} : ∀ {T : List Nat}, pick c x L R left T = none → ∀ y ∈ T, 0 ≤ c x y → mx (wo c) L (R.erase y) + wo c x y ≠ left
  | [], _ => fun y hy _ => by simp at hy
  | z :: T, h => fun y hy h0 => by
    simp only [pick] at h
    rcases List.mem_cons.1 hy with rfl | hy
    · rw [if_neg (by omega)] at h
      split at h
      · cases h
      · assumption
    · split at h
      · exact pick_none h y hy h0
      · split at h
        · cases h
        · exact pick_none h y hy h0
theorem wo_nonneg {c : Nat → Nat → Int} (hc : ∀ x y, c x y ≤ 1000000000) (x y : Nat) : 0 ≤ wo c x y := by
  unfold wo; have := hc x y; split <;> omega
theorem chp_skip {c : Nat → Nat → Int} (hc : ∀ x y, c x y ≤ 1000000000) {x : Nat} {L R : List Nat} (h : pick c x L R (mx (wo c) (x :: L) R) R = none) : mx (wo c) (x :: L) R = mx (wo c) L R := by
  rcases mx_cases (wo c) x L R with e | ⟨y, hy, e⟩
  · exact e
  · by_cases h0 : 0 ≤ c x y
    · exact absurd (by rw [e]; omega) (pick_none h y hy h0)
    · have h1 : wo c x y = 0 := if_pos (by omega)
      have := mx_mono (wo c) (wo_nonneg hc) L R y
      have := mx_skip (wo c) x L R
      omega
end Go.Proofs.Ytajpngnphbdnnaa.Hung
namespace Go.Proofs.Ytajpngnphbdnnaa.Abs
set_option linter.unusedSimpArgs false
set_option linter.unusedVariables false
open Go.RowKit
open Go.Proofs.Ytajpngnphbdnnaa.Sim
open Go.Proofs
theorem fit : Fit Try.prog := ⟨fun f fn h => by
  have key : (Try.prog.funcs.toList.all fun fn => !(fn.name == "runtime.NumGoroutine")) = true := by kernel_rfl
  have := List.all_eq_true.1 key fn (by simpa using Array.mem_of_getElem? h)
  simpa using this, by kernel_rfl⟩
theorem el27 : elemB Try.prog 27 = some (3, 1, 8, #[.int .i64 0]) := by kernel_rfl
theorem el88 : elemB Try.prog 88 = some (4, 1, 1, #[.bool false]) := by kernel_rfl
theorem un27 : Try.prog.underlying 27 = some (.slice 3) := by kernel_rfl
theorem un80 : Try.prog.underlying 80 = some (.slice 27) := by kernel_rfl
theorem sz3 : szB Try.prog 3 = some 1 := by kernel_rfl
theorem take_snoc {α : Type} (l : List α) (k : Nat) (d : α) (h : k < l.length) : l.take (k + 1) = l.take k ++ [l.getD k d] := by
  rw [List.take_succ_eq_append_getElem h]; simp [h]
/-- A row as a function. -/
def tab (f : Nat → Int) (n : Nat) : List Int := (List.range n).map f
@[simp] theorem tab_len (f : Nat → Int) (n : Nat) : (tab f n).length = n := by simp [tab]
theorem tab_get (f : Nat → Int) {n k : Nat} (h : k < n) : (tab f n).getD k 0 = f k := by simp [tab, h]
theorem tab_congr {f g : Nat → Int} {n : Nat} (h : ∀ i, i < n → f i = g i) : tab f n = tab g n := List.map_congr_left fun i hi => h i (List.mem_range.1 hi)
theorem tab_set (f : Nat → Int) (n k : Nat) (x : Int) : (tab f n).set k x = tab (Hung.up f k x) n := by
  apply List.ext_getElem?
  intro i
  by_cases hi : i < n
  · by_cases e : k = i
    · subst e; rw [List.getElem?_set_self (by rw [tab_len]; exact hi)]; simp [tab, hi, Hung.up]
    · rw [List.getElem?_set_ne e]; simp [tab, hi, Hung.up, Ne.symm e]
  · rw [List.getElem?_eq_none (by rw [List.length_set, tab_len]; omega), List.getElem?_eq_none (by rw [tab_len]; omega)]
theorem tab_rep (n : Nat) (x : Int) : List.replicate n x = tab (fun _ => x) n := by
  unfold tab
  rw [List.map_const']; simp
def tabB (f : Nat → Bool) (n : Nat) : List Bool := (List.range n).map f
@[simp] theorem tabB_len (f : Nat → Bool) (n : Nat) : (tabB f n).length = n := by simp [tabB]
theorem tabB_get (f : Nat → Bool) {n k : Nat} (h : k < n) : (tabB f n).getD k false = f k := by simp [tabB, h]
theorem tabB_set (f : Nat → Bool) (n k : Nat) (x : Bool) : (tabB f n).set k x = tabB (Hung.up f k x) n := by
  apply List.ext_getElem?
  intro i
  by_cases hi : i < n
  · by_cases e : k = i
    · subst e; rw [List.getElem?_set_self (by rw [tabB_len]; exact hi)]; simp [tabB, hi, Hung.up]
    · rw [List.getElem?_set_ne e]; simp [tabB, hi, Hung.up, Ne.symm e]
  · rw [List.getElem?_eq_none (by rw [List.length_set, tabB_len]; omega), List.getElem?_eq_none (by rw [tabB_len]; omega)]
theorem tabB_rep (n : Nat) (x : Bool) : List.replicate n x = tabB (fun _ => x) n := by
  unfold tabB
  rw [List.map_const']; simp
/-- Numbers as ints. -/
def nats (l : List Nat) : List Int := l.map Nat.cast
@[simp] theorem nats_len (l : List Nat) : (nats l).length = l.length := by simp [nats]
theorem nats_get (l : List Nat) (k : Nat) : (nats l).getD k 0 = (l.getD k 0 : Nat) := by
  simp only [nats, List.getD_eq_getElem?_getD, List.getElem?_map]
  cases l[k]? <;> simp
set_option maxRecDepth 100000 in
theorem upTo_ok {m : AM} (n : Nat) (hn : n ≤ 100000) : ACall Try.prog 55 #[.int .i64 (n : Nat)] m (New (some { cells := iv (nats (List.range n)) }) n m) := by
  refine ACall.start Try.func55 rfl rfl ?_
  (repeat (first | (with_reducible refine AWo.cons ?_) | ((with_reducible refine Step.id ?_); first | ((with_reducible apply Step.move); exact rfl; exact rfl) | ((with_reducible apply Step.assign); exact rfl; exact rfl) | ((with_reducible apply Step.len); exact rfl; (focus (exact Sl.mk (by omega))); (focus (decide +kernel)); exact rfl) | ((with_reducible apply Step.make1 0); exact rfl; exact rfl; exact rfl; exact el27; (focus (omega)); exact rfl; (focus (first | (simp only [List.nil_append, List.cons_append, List.set_cons_zero, List.set_cons_succ, iv_set, bv_set, iv_rep, bv_rep]; done) | (simp only [List.nil_append, List.cons_append, List.set_cons_zero, List.set_cons_succ, iv_set, bv_set, iv_rep, bv_rep]; rfl) | rfl)))) | (with_reducible refine AWo.nil ?_) | ((with_reducible apply AW.seq)) | ((with_reducible apply Then.n)) | ((with_reducible apply AW.regL)) | ((with_reducible apply AW.block))))
  refine AW.loopT (fun r t L => ∃ k : Nat, r = n - k ∧ k ≤ n ∧ L = [some { cells := iv (nats (List.range k) ++ List.replicate (n - k) 0) }] ∧
    t = [(3, .slice (some ⟨m.length + 0, 0, none⟩) n n), (8, .int .i64 (n : Nat)), (9, .int .i64 (k : Nat))]) ⟨_, _, _, (Or.inl ⟨rfl, (by repeat (first | exact trivial | (refine And.intro rfl ?_)))⟩), 0, rfl, Nat.zero_le _, by simp [nats], rfl⟩ ?_
  rintro r t L ⟨k, rfl, hk, rfl, rfl⟩
  have kl := nats_len (List.range k)
  rcases Nat.lt_or_ge k n with hlt | hge
  · (repeat (first | (with_reducible refine AWo.cons ?_) | ((with_reducible refine Step.id ?_); first | ((with_reducible apply Step.move); exact rfl; exact rfl) | ((with_reducible apply Step.assign); exact rfl; exact rfl) | ((with_reducible apply Step.ix1z); exact rfl; (focus (exact Sl.mk (by omega))); exact rfl; (focus (decide +kernel)); exact rfl; (focus (omega))) | ((with_reducible apply Step.add); exact rfl; exact rfl; (focus (omega)); exact rfl) | ((with_reducible apply Step.lss); exact rfl; exact rfl; exact rfl) | ((with_reducible apply Step.store (k := 0)); exact rfl; exact rfl; exact rfl; exact rfl; (focus (decide +kernel)); exact rfl; exact rfl; (focus (first | omega | (simp [iv, bv]; done) | (simp [iv, bv]; omega))); (focus (first | (simp only [List.nil_append, List.cons_append, List.set_cons_zero, List.set_cons_succ, iv_set, bv_set, iv_rep, bv_rep]; done) | (simp only [List.nil_append, List.cons_append, List.set_cons_zero, List.set_cons_succ, iv_set, bv_set, iv_rep, bv_rep]; rfl) | rfl)))) | (with_reducible refine AWo.nil ?_) | ((with_reducible apply AW.seq)) | ((with_reducible apply Then.n)) | ((with_reducible apply AW.regL)) | ((with_reducible apply AW.block)) | ((with_reducible apply InBlk.n)) | ((with_reducible apply AW.skip)) | ((with_reducible apply AW.condT); exact rfl; (focus ((simp only [decide_eq_true_eq, decide_eq_false_iff_not, Bool.not_eq_true', Bool.not_eq_false', Bool.not_true, Bool.not_false]; first | assumption | omega))))))
    refine ⟨_, _, _, by omega, (Or.inl ⟨rfl, (by repeat (first | exact trivial | (refine And.intro rfl ?_)))⟩), k + 1, rfl, by omega, ?_, rfl⟩
    have : (nats (List.range k) ++ List.replicate (n - k) 0).set k (k : Int) = nats (List.range (k + 1)) ++ List.replicate (n - (k + 1)) 0 := by
      rw [show n - k = (n - (k + 1)) + 1 by omega, List.replicate_succ, List.set_append_right _ _ (by simp [nats])]
      simp [nats, List.range_succ]
    rw [this]
  · (repeat (first | (with_reducible refine AWo.cons ?_) | ((with_reducible refine Step.id ?_); first | ((with_reducible apply Step.move); exact rfl; exact rfl) | ((with_reducible apply Step.assign); exact rfl; exact rfl) | ((with_reducible apply Step.lss); exact rfl; exact rfl; exact rfl)) | (with_reducible refine AWo.nil ?_) | ((with_reducible apply AW.seq)) | ((with_reducible apply Then.n)) | ((with_reducible apply AW.regL)) | ((with_reducible apply AW.exit)) | ((with_reducible apply InBlk.hit)) | ((with_reducible apply Then.e)) | ((with_reducible apply AW.condF); exact rfl; (focus ((simp only [decide_eq_true_eq, decide_eq_false_iff_not, Bool.not_eq_true', Bool.not_eq_false', Bool.not_true, Bool.not_false]; first | assumption | omega))))))
    obtain rfl : k = n := by omega
    (refine AW.retB (l := [(2, _)]) (Or.inl ⟨rfl, (by repeat (first | exact trivial | (refine And.intro rfl ?_)))⟩) ?_; (repeat (first | refine Then.r ?_ | refine InBlk.r ?_)))
    exact ⟨_, rfl, rfl, by simp⟩
set_option maxRecDepth 100000 in
theorem negated_ok {m : AM} {v : Value} {f : Nat → Int} {n : Nat} (hv : Ints m v (tab f n)) (hn : n ≤ 100000) (hf : ∀ k, k < n → -9000000000000000000 ≤ f k ∧ f k ≤ 9000000000000000000) : ACall Try.prog 90 #[v] m (New (some { cells := iv (tab (fun k => -f k) n) }) n m) := by
  obtain ⟨a, o, h1, h2, h3⟩ := hv
  rw [tab_len] at h1 h3
  refine ACall.start Try.func90 rfl rfl ?_
  (repeat (first | (with_reducible refine AWo.cons ?_) | ((with_reducible refine Step.id ?_); first | ((with_reducible apply Step.move); exact rfl; exact rfl) | ((with_reducible apply Step.assign); exact rfl; exact rfl) | ((with_reducible apply Step.len); exact rfl; (focus (assumption)); (focus (decide +kernel)); exact rfl) | ((with_reducible apply Step.make1 0); exact rfl; exact rfl; exact rfl; exact el27; (focus (omega)); exact rfl; (focus (first | (simp only [List.nil_append, List.cons_append, List.set_cons_zero, List.set_cons_succ, iv_set, bv_set, iv_rep, bv_rep]; done) | (simp only [List.nil_append, List.cons_append, List.set_cons_zero, List.set_cons_succ, iv_set, bv_set, iv_rep, bv_rep]; rfl) | rfl)))) | (with_reducible refine AWo.nil ?_) | ((with_reducible apply AW.seq)) | ((with_reducible apply Then.n)) | ((with_reducible apply AW.regL)) | ((with_reducible apply AW.block))))
  refine AW.loopT (fun r t L => ∃ k : Nat, r = n - k ∧ k ≤ n ∧ L = [some { cells := iv (tab (fun i => if i < k then -f i else 0) n) }] ∧
    t = [(3, .slice (some ⟨m.length + 0, 0, none⟩) n n), (9, v), (10, .int .i64 (n : Nat)), (11, .int .i64 (k : Nat))]) ⟨_, _, _, (Or.inl ⟨rfl, (by repeat (first | exact trivial | (refine And.intro rfl ?_)))⟩), 0, rfl, Nat.zero_le _, by rw [tab_rep]; simp, rfl⟩ ?_
  rintro r t L ⟨k, rfl, hk, rfl, rfl⟩
  have kl := tab_len (fun i => if i < k then -f i else 0) n
  rcases Nat.lt_or_ge k n with hlt | hge
  · have hr := h3 k hlt
    rw [tab_get f hlt] at hr
    have := hf k hlt
    (repeat (first | (with_reducible refine AWo.cons ?_) | ((with_reducible refine Step.id ?_); first | ((with_reducible apply Step.move); exact rfl; exact rfl) | ((with_reducible apply Step.assign); exact rfl; exact rfl) | ((with_reducible apply Step.load); exact rfl; (focus (decide +kernel)); exact rfl; (focus (exact Rd.old _ (by assumption)))) | ((with_reducible apply Step.ix1z); exact rfl; (focus (exact Sl.mk (by omega))); exact rfl; (focus (decide +kernel)); exact rfl; (focus (omega))) | ((with_reducible apply Step.ix1); exact rfl; (focus (assumption)); exact rfl; (focus (decide +kernel)); exact rfl; (focus (omega))) | ((with_reducible apply Step.add); exact rfl; exact rfl; (focus (omega)); exact rfl) | ((with_reducible apply Step.lss); exact rfl; exact rfl; exact rfl) | ((with_reducible apply Step.neg); exact rfl; (focus (omega)); exact rfl) | ((with_reducible apply Step.store (k := 0)); exact rfl; exact rfl; exact rfl; exact rfl; (focus (decide +kernel)); exact rfl; exact rfl; (focus (first | omega | (simp [iv, bv]; done) | (simp [iv, bv]; omega))); (focus (first | (simp only [List.nil_append, List.cons_append, List.set_cons_zero, List.set_cons_succ, iv_set, bv_set, iv_rep, bv_rep]; done) | (simp only [List.nil_append, List.cons_append, List.set_cons_zero, List.set_cons_succ, iv_set, bv_set, iv_rep, bv_rep]; rfl) | rfl)))) | (with_reducible refine AWo.nil ?_) | ((with_reducible apply AW.seq)) | ((with_reducible apply Then.n)) | ((with_reducible apply AW.regL)) | ((with_reducible apply AW.block)) | ((with_reducible apply InBlk.n)) | ((with_reducible apply AW.skip)) | ((with_reducible apply AW.condT); exact rfl; (focus ((simp only [decide_eq_true_eq, decide_eq_false_iff_not, Bool.not_eq_true', Bool.not_eq_false', Bool.not_true, Bool.not_false]; first | assumption | omega))))))
    refine ⟨_, _, _, by omega, (Or.inl ⟨rfl, (by repeat (first | exact trivial | (refine And.intro rfl ?_)))⟩), k + 1, rfl, by omega, ?_, rfl⟩
    rw [tab_set]
    have : tab (Hung.up (fun i => if i < k then -f i else 0) k (-f k)) n = tab (fun i => if i < k + 1 then -f i else 0) n := tab_congr fun i hi => by
      simp only [Hung.up]
      by_cases e : i = k
      · subst e; rw [if_pos rfl, if_pos (by omega)]
      · rw [if_neg e]
        by_cases c : i < k
        · simp only [if_pos c, if_pos (show i < k + 1 by omega)]
        · simp only [if_neg c, if_neg (show ¬ i < k + 1 by omega)]
    rw [this]
  · (repeat (first | (with_reducible refine AWo.cons ?_) | ((with_reducible refine Step.id ?_); first | ((with_reducible apply Step.move); exact rfl; exact rfl) | ((with_reducible apply Step.assign); exact rfl; exact rfl) | ((with_reducible apply Step.lss); exact rfl; exact rfl; exact rfl)) | (with_reducible refine AWo.nil ?_) | ((with_reducible apply AW.seq)) | ((with_reducible apply Then.n)) | ((with_reducible apply AW.regL)) | ((with_reducible apply AW.exit)) | ((with_reducible apply InBlk.hit)) | ((with_reducible apply Then.e)) | ((with_reducible apply AW.condF); exact rfl; (focus ((simp only [decide_eq_true_eq, decide_eq_false_iff_not, Bool.not_eq_true', Bool.not_eq_false', Bool.not_true, Bool.not_false]; first | assumption | omega))))))
    obtain rfl : k = n := by omega
    have : tab (fun i => if i < k then -f i else 0) k = tab (fun i => -f i) k := tab_congr fun i hi => if_pos hi
    rw [this] at *
    (refine AW.retB (l := [(2, _)]) (Or.inl ⟨rfl, (by repeat (first | exact trivial | (refine And.intro rfl ?_)))⟩) ?_; (repeat (first | refine Then.r ?_ | refine InBlk.r ?_)))
    exact ⟨_, rfl, rfl, by simp⟩
/-- The least of a row. -/
def minF (f : Nat → Int) : Nat → Int
  | 0 => f 0
  | n + 1 => min (minF f n) (f (n + 1))
def maxF (f : Nat → Int) : Nat → Int
  | 0 => f 0
  | n + 1 => max (maxF f n) (f (n + 1))
theorem minF_le (f : Nat → Int) : ∀ {n k : Nat}, k ≤ n → minF f n ≤ f k
  | 0, k, h => by obtain rfl : k = 0 := by omega
                  exact Int.le_refl _
  | n + 1, k, h => by
    simp only [minF]
    by_cases e : k = n + 1
    · subst e; omega
    · have := minF_le f (n := n) (k := k) (by omega); omega
theorem minF_at (f : Nat → Int) : ∀ n, ∃ k, k ≤ n ∧ minF f n = f k
  | 0 => ⟨0, by omega, rfl⟩
  | n + 1 => by
    obtain ⟨k, h1, h2⟩ := minF_at f n
    simp only [minF]
    by_cases e : minF f n ≤ f (n + 1)
    · exact ⟨k, by omega, by omega⟩
    · exact ⟨n + 1, by omega, by omega⟩
set_option maxRecDepth 100000 in
theorem min_ok {m : AM} {v : Value} {f : Nat → Int} {n : Nat} (hv : Ints m v (tab f (n + 1))) (hn : n ≤ 100000) : ACall Try.prog 91 #[v] m (Ret (.int .i64 (minF f n)) m) := by
  obtain ⟨a, o, h1, h2, h3⟩ := hv
  rw [tab_len] at h1 h3
  have hr := h3 0 (by omega)
  rw [tab_get f (by omega)] at hr
  refine ACall.start Try.func91 rfl rfl ?_
  (repeat (first | (with_reducible refine AWo.cons ?_) | ((with_reducible refine Step.id ?_); first | ((with_reducible apply Step.move); exact rfl; exact rfl) | ((with_reducible apply Step.assign); exact rfl; exact rfl) | ((with_reducible apply Step.lss); exact rfl; exact rfl; exact rfl) | ((with_reducible apply Step.len); exact rfl; (focus (assumption)); (focus (decide +kernel)); exact rfl)) | (with_reducible refine AWo.nil ?_) | ((with_reducible apply AW.seq)) | ((with_reducible apply Then.n)) | ((with_reducible apply AW.regL)) | ((with_reducible apply AW.skip)) | ((with_reducible apply AW.condF); exact rfl; (focus (rfl)))))
  ((with_reducible apply Step.ix1 (k := 0)); exact rfl; exact h1; exact rfl; (focus (decide +kernel)); exact rfl; (focus (omega)))
  (repeat (first | (with_reducible refine AWo.cons ?_) | ((with_reducible refine Step.id ?_); first | ((with_reducible apply Step.assign); exact rfl; exact rfl) | ((with_reducible apply Step.load); exact rfl; (focus (decide +kernel)); exact rfl; (focus (exact Rd.old _ (by assumption))))) | (with_reducible refine AWo.nil ?_) | ((with_reducible apply AW.seq)) | ((with_reducible apply Then.n)) | ((with_reducible apply AW.regL)) | ((with_reducible apply AW.block))))
  refine AW.loopT (fun r t L => ∃ k : Nat, r = n + 1 - k ∧ 1 ≤ k ∧ k ≤ n + 1 ∧ L = [] ∧
    t = [(0, v), (3, .int .i64 (minF f (k - 1))), (4, .int .i64 (k : Nat))]) ⟨_, _, _, (Or.inl ⟨rfl, (by repeat (first | exact trivial | (refine And.intro rfl ?_)))⟩), 1, rfl, by omega, by omega, rfl, rfl⟩ ?_
  rintro r t L ⟨k, rfl, hk1, hk, rfl, rfl⟩
  obtain ⟨k, rfl⟩ : ∃ i, k = i + 1 := ⟨k - 1, by omega⟩
  rcases Nat.lt_or_ge k n with hlt | hge
  · have hr := h3 (k + 1) (by omega)
    rw [tab_get f (by omega)] at hr
    (repeat (first | (with_reducible refine AWo.cons ?_) | ((with_reducible refine Step.id ?_); first | ((with_reducible apply Step.move); exact rfl; exact rfl) | ((with_reducible apply Step.assign); exact rfl; exact rfl) | ((with_reducible apply Step.load); exact rfl; (focus (decide +kernel)); exact rfl; (focus (exact Rd.old _ (by assumption)))) | ((with_reducible apply Step.ix1); exact rfl; (focus (assumption)); exact rfl; (focus (decide +kernel)); exact rfl; (focus (omega))) | ((with_reducible apply Step.add); exact rfl; exact rfl; (focus (omega)); exact rfl) | ((with_reducible apply Step.lss); exact rfl; exact rfl; exact rfl) | ((with_reducible apply Step.len); exact rfl; (focus (assumption)); (focus (decide +kernel)); exact rfl) | ((with_reducible apply Step.min); exact rfl; exact rfl; exact rfl)) | (with_reducible refine AWo.nil ?_) | ((with_reducible apply AW.seq)) | ((with_reducible apply Then.n)) | ((with_reducible apply AW.regL)) | ((with_reducible apply AW.block)) | ((with_reducible apply InBlk.n)) | ((with_reducible apply AW.skip)) | ((with_reducible apply AW.condT); exact rfl; (focus ((simp only [decide_eq_true_eq, decide_eq_false_iff_not, Bool.not_eq_true', Bool.not_eq_false', Bool.not_true, Bool.not_false]; first | assumption | omega))))))
    exact ⟨_, _, _, by omega, (Or.inl ⟨rfl, (by repeat (first | exact trivial | (refine And.intro rfl ?_)))⟩), k + 1 + 1, rfl, by omega, by omega, rfl, rfl⟩
  · (repeat (first | (with_reducible refine AWo.cons ?_) | ((with_reducible refine Step.id ?_); first | ((with_reducible apply Step.move); exact rfl; exact rfl) | ((with_reducible apply Step.assign); exact rfl; exact rfl) | ((with_reducible apply Step.lss); exact rfl; exact rfl; exact rfl) | ((with_reducible apply Step.len); exact rfl; (focus (assumption)); (focus (decide +kernel)); exact rfl)) | (with_reducible refine AWo.nil ?_) | ((with_reducible apply AW.seq)) | ((with_reducible apply Then.n)) | ((with_reducible apply AW.regL)) | ((with_reducible apply AW.exit)) | ((with_reducible apply InBlk.hit)) | ((with_reducible apply Then.e)) | ((with_reducible apply AW.condF); exact rfl; (focus ((simp only [decide_eq_true_eq, decide_eq_false_iff_not, Bool.not_eq_true', Bool.not_eq_false', Bool.not_true, Bool.not_false]; first | assumption | omega))))))
    obtain rfl : k = n := by omega
    (refine AW.retD (l := [(2, _)]) (by repeat (first | exact trivial | (refine And.intro ⟨rfl, by (exact .int _ _)⟩ ?_))) ?_; (repeat (first | refine Then.r ?_ | refine InBlk.r ?_)))
    exact ⟨_, rfl, rfl, rfl⟩
set_option maxRecDepth 100000 in
theorem max_ok {m : AM} {v : Value} {f : Nat → Int} {n : Nat} (hv : Ints m v (tab f (n + 1))) (hn : n ≤ 100000) : ACall Try.prog 96 #[v] m (Ret (.int .i64 (maxF f n)) m) := by
  obtain ⟨a, o, h1, h2, h3⟩ := hv
  rw [tab_len] at h1 h3
  have hr := h3 0 (by omega)
  rw [tab_get f (by omega)] at hr
  refine ACall.start Try.func96 rfl rfl ?_
  (repeat (first | (with_reducible refine AWo.cons ?_) | ((with_reducible refine Step.id ?_); first | ((with_reducible apply Step.move); exact rfl; exact rfl) | ((with_reducible apply Step.assign); exact rfl; exact rfl) | ((with_reducible apply Step.lss); exact rfl; exact rfl; exact rfl) | ((with_reducible apply Step.len); exact rfl; (focus (assumption)); (focus (decide +kernel)); exact rfl)) | (with_reducible refine AWo.nil ?_) | ((with_reducible apply AW.seq)) | ((with_reducible apply Then.n)) | ((with_reducible apply AW.regL)) | ((with_reducible apply AW.skip)) | ((with_reducible apply AW.condF); exact rfl; (focus (rfl)))))
  ((with_reducible apply Step.ix1 (k := 0)); exact rfl; exact h1; exact rfl; (focus (decide +kernel)); exact rfl; (focus (omega)))
  (repeat (first | (with_reducible refine AWo.cons ?_) | ((with_reducible refine Step.id ?_); first | ((with_reducible apply Step.assign); exact rfl; exact rfl) | ((with_reducible apply Step.load); exact rfl; (focus (decide +kernel)); exact rfl; (focus (exact Rd.old _ (by assumption))))) | (with_reducible refine AWo.nil ?_) | ((with_reducible apply AW.seq)) | ((with_reducible apply Then.n)) | ((with_reducible apply AW.regL)) | ((with_reducible apply AW.block))))
  refine AW.loopT (fun r t L => ∃ k : Nat, r = n + 1 - k ∧ 1 ≤ k ∧ k ≤ n + 1 ∧ L = [] ∧
    t = [(0, v), (3, .int .i64 (maxF f (k - 1))), (4, .int .i64 (k : Nat))]) ⟨_, _, _, (Or.inl ⟨rfl, (by repeat (first | exact trivial | (refine And.intro rfl ?_)))⟩), 1, rfl, by omega, by omega, rfl, rfl⟩ ?_
  rintro r t L ⟨k, rfl, hk1, hk, rfl, rfl⟩
  obtain ⟨k, rfl⟩ : ∃ i, k = i + 1 := ⟨k - 1, by omega⟩
  rcases Nat.lt_or_ge k n with hlt | hge
  · have hr := h3 (k + 1) (by omega)
    rw [tab_get f (by omega)] at hr
    (repeat (first | (with_reducible refine AWo.cons ?_) | ((with_reducible refine Step.id ?_); first | ((with_reducible apply Step.move); exact rfl; exact rfl) | ((with_reducible apply Step.assign); exact rfl; exact rfl) | ((with_reducible apply Step.load); exact rfl; (focus (decide +kernel)); exact rfl; (focus (exact Rd.old _ (by assumption)))) | ((with_reducible apply Step.ix1); exact rfl; (focus (assumption)); exact rfl; (focus (decide +kernel)); exact rfl; (focus (omega))) | ((with_reducible apply Step.add); exact rfl; exact rfl; (focus (omega)); exact rfl) | ((with_reducible apply Step.lss); exact rfl; exact rfl; exact rfl) | ((with_reducible apply Step.len); exact rfl; (focus (assumption)); (focus (decide +kernel)); exact rfl) | ((with_reducible apply Step.max); exact rfl; exact rfl; exact rfl)) | (with_reducible refine AWo.nil ?_) | ((with_reducible apply AW.seq)) | ((with_reducible apply Then.n)) | ((with_reducible apply AW.regL)) | ((with_reducible apply AW.block)) | ((with_reducible apply InBlk.n)) | ((with_reducible apply AW.skip)) | ((with_reducible apply AW.condT); exact rfl; (focus ((simp only [decide_eq_true_eq, decide_eq_false_iff_not, Bool.not_eq_true', Bool.not_eq_false', Bool.not_true, Bool.not_false]; first | assumption | omega))))))
    exact ⟨_, _, _, by omega, (Or.inl ⟨rfl, (by repeat (first | exact trivial | (refine And.intro rfl ?_)))⟩), k + 1 + 1, rfl, by omega, by omega, rfl, rfl⟩
  · (repeat (first | (with_reducible refine AWo.cons ?_) | ((with_reducible refine Step.id ?_); first | ((with_reducible apply Step.move); exact rfl; exact rfl) | ((with_reducible apply Step.assign); exact rfl; exact rfl) | ((with_reducible apply Step.lss); exact rfl; exact rfl; exact rfl) | ((with_reducible apply Step.len); exact rfl; (focus (assumption)); (focus (decide +kernel)); exact rfl)) | (with_reducible refine AWo.nil ?_) | ((with_reducible apply AW.seq)) | ((with_reducible apply Then.n)) | ((with_reducible apply AW.regL)) | ((with_reducible apply AW.exit)) | ((with_reducible apply InBlk.hit)) | ((with_reducible apply Then.e)) | ((with_reducible apply AW.condF); exact rfl; (focus ((simp only [decide_eq_true_eq, decide_eq_false_iff_not, Bool.not_eq_true', Bool.not_eq_false', Bool.not_true, Bool.not_false]; first | assumption | omega))))))
    obtain rfl : k = n := by omega
    (refine AW.retD (l := [(2, _)]) (by repeat (first | exact trivial | (refine And.intro ⟨rfl, by (exact .int _ _)⟩ ?_))) ?_; (repeat (first | refine Then.r ?_ | refine InBlk.r ?_)))
    exact ⟨_, rfl, rfl, rfl⟩
end Go.Proofs.Ytajpngnphbdnnaa.Abs
namespace Go.Proofs.Ytajpngnphbdnnaa.Abs
set_option linter.unusedSimpArgs false
set_option linter.unusedVariables false
open Go.RowKit
open Go.Proofs.Ytajpngnphbdnnaa.Sim
/-- Done so far, and one more. -/
def upL (L : Nat → Bool) (i : Nat) : Nat → Bool := fun j => cond (Nat.beq j i) true (L j)
theorem upL_same (L : Nat → Bool) (i : Nat) : upL L i i = true := by simp [upL]
theorem upL_ne (L : Nat → Bool) {i j : Nat} (h : j ≠ i) : upL L i j = L j := by
  have : Nat.beq j i = false := by
    cases e : Nat.beq j i with
    | false => rfl
    | true => exact absurd (Nat.eq_of_beq_eq_true e) h
  simp [upL, this]
def cntL (L : Nat → Bool) : Nat → Nat
  | 0 => 0
  | n + 1 => cntL L n + cond (L n) 0 1
theorem cntL_eq (L L' : Nat → Bool) : ∀ n, (∀ j, j < n → L j = L' j) → cntL L n = cntL L' n
  | 0, _ => rfl
  | n + 1, h => by simp only [cntL]; rw [h n (by omega), cntL_eq L L' n fun j hj => h j (by omega)]
theorem cntL_up (L : Nat → Bool) (i : Nat) (hi : L i = false) : ∀ n, i < n → cntL (upL L i) n + 1 = cntL L n
  | 0, h => by omega
  | n + 1, h => by
    simp only [cntL]
    by_cases e : i = n
    · subst e
      rw [upL_same, hi, cntL_eq (upL L i) L i fun j hj => upL_ne L (by omega)]; simp
    · rw [upL_ne L (show n ≠ i by omega), ← cntL_up L i hi n (by omega)]; omega
theorem cntL_zero (L : Nat → Bool) : ∀ n, cntL L n = 0 → ∀ j, j < n → L j = true
  | 0, _, j, hj => by omega
  | n + 1, h, j, hj => by
    simp only [cntL] at h
    by_cases e : j = n
    · subst e
      cases hl : L j with
      | true => rfl
      | false => rw [hl] at h; simp at h
    · exact cntL_zero L n (by omega) j (by omega)
theorem cntL_le (L : Nat → Bool) : ∀ n, cntL L n ≤ n
  | 0 => Nat.le_refl _
  | n + 1 => by
    have := cntL_le L n
    simp only [cntL]
    cases L n <;> simp <;> omega
/-- What an operation waits for. -/
def depsO (o : Oper) : List Nat := (o.after.toList.filter fun e => Region.binds .any e).map (·.on)
def backB (l : List Oper) : Bool := (List.range l.length).all fun i => match l[i]? with
  | some o => (depsO o).all fun j => Nat.blt j i
  | none => true
section
variable {P : Program} {nt : Nat} {t : Fm} {m m0 : AM} {l : List Oper}
theorem AWd.inv {Q : Fm → AM → Prop} (Inv : (Nat → Bool) → Fm → AM → Prop) (hb : backB l = true)
    (hs : ∀ (i : Nat) (o : Oper), l[i]? = some o → ∀ (L : Nat → Bool) (t : Fm) (m : AM), Inv L t m → L i = false → (∀ j ∈ depsO o, L j = true) → Step P nt l.toArray o t m (fun t m => Inv (upL L i) t m))
    (he : ∀ (L : Nat → Bool) (t : Fm) (m : AM), (∀ i, i < l.length → L i = true) → Inv L t m → Q t m) :
    ∀ (f : Nat) (listed : Array Bool) (L : Nat → Bool) (t : Fm) (m : AM), listed.size = l.length → (∀ i, i < l.length → listed.getD i false = L i) → cntL L l.length ≤ f → Inv L t m → AWd P nt l.toArray Q f listed t m := by
  have hend : ∀ (listed : Array Bool) (L : Nat → Bool), listed.size = l.length → (∀ i, i < l.length → listed.getD i false = L i) → Region.ready .any l.toArray listed = [] → ∀ i, i < l.length → L i = true := by
    intro listed L hsz hL hr i
    induction i using Nat.strongRecOn with
    | _ i ih =>
      intro hi
      cases hl : L i with
      | true => rfl
      | false =>
        have hlt : i < listed.size := by omega
        have hli : listed.getD i false = false := by rw [hL i hi]; exact hl
        have hmem : i ∈ Region.ready .any l.toArray listed := mem_ready.2 ⟨by
          simp only [Array.getD_eq_getD_getElem?, Array.getElem?_eq_getElem hlt, Option.getD_some] at hli ⊢
          exact hli, l[i], by simp [hi], fun e he hb' => by
            have h1 := List.all_eq_true.1 hb i (List.mem_range.2 hi)
            rw [List.getElem?_eq_getElem hi] at h1
            have h2 := List.all_eq_true.1 h1 e.on (List.mem_map.2 ⟨e, List.mem_filter.2 ⟨by simpa using he, hb'⟩, rfl⟩)
            have h3 : e.on < i := by simpa using h2
            rw [hL e.on (by omega)]
            exact ih e.on h3 (by omega)⟩
        rw [hr] at hmem; cases hmem
  intro f
  induction f with
  | zero =>
    intro listed L t m hsz hL hc hI
    have hall := cntL_zero L l.length (by omega)
    refine ⟨?_, he L t m hall hI⟩
    cases hr : Region.ready .any l.toArray listed with
    | nil => rfl
    | cons i r =>
      obtain ⟨h1, o, h2, _⟩ := mem_ready.1 (show i ∈ Region.ready .any l.toArray listed by rw [hr]; simp)
      have hi : i < l.length := by have := (Array.getElem?_eq_some_iff.1 h2).1; simpa using this
      have h3 := hL i hi
      rw [hall i hi] at h3
      have hlt : i < listed.size := by omega
      simp only [Array.getD_eq_getD_getElem?, Array.getElem?_eq_getElem hlt, Option.getD_some] at h3 h1
      rw [h3] at h1; cases h1
  | succ f ih =>
    intro listed L t m hsz hL hc hI
    refine ⟨fun hr => he L t m (hend listed L hsz hL hr) hI, fun i hi o ho => ?_⟩
    obtain ⟨h1, o', h2, h3⟩ := mem_ready.1 hi
    rw [ho] at h2; injection h2 with h2; subst h2
    have ho' : l[i]? = some o := by simpa using ho
    have hil : i < l.length := (List.getElem?_eq_some_iff.1 ho').1
    have hlt : i < listed.size := by omega
    have hLi : L i = false := by
      rw [← hL i hil]
      simp only [Array.getD_eq_getD_getElem?, Array.getElem?_eq_getElem hlt, Option.getD_some] at h1 ⊢
      exact h1
    refine (hs i o ho' L t m hI hLi fun j hj => ?_).mono fun v m' hk => ?_
    · obtain ⟨e, e1, e2⟩ := List.mem_map.1 hj
      obtain ⟨e3, e4⟩ := List.mem_filter.1 e1
      have := h3 e (by simpa using e3) e4
      subst e2
      have hd := List.all_eq_true.1 hb i (List.mem_range.2 hil)
      rw [List.getElem?_eq_getElem hil] at hd
      have hoi : l[i] = o := by rw [List.getElem?_eq_getElem hil] at ho'; injection ho'
      rw [hoi] at hd
      have h5 := List.all_eq_true.1 hd e.on hj
      have h6 : e.on < i := by simpa using h5
      rw [← hL e.on (by omega)]; exact this
    · refine ih _ (upL L i) _ m' (by simpa using hsz) (fun j hj => ?_) (by have := cntL_up L i hLi l.length hil; omega) hk
      by_cases e : j = i
      · subst e
        rw [upL_same]; simp [hlt]
      · rw [upL_ne L e, ← hL j hj]
        simp only [Array.getD_eq_getD_getElem?]
        rw [Array.getElem?_setIfInBounds_ne (Ne.symm e)]
/-- A region that draws, by what holds whatever was done so far. -/
theorem AW.anyI (hP : Fit P) {id : Nat} {Q : AEx → Fm → AM → Prop} (Inv : (Nat → Bool) → Fm → AM → Prop) (hb : backB l = true) (h0 : Inv (fun _ => false) t m)
    (hs : ∀ (i : Nat) (o : Oper), l[i]? = some o → ∀ (L : Nat → Bool) (t : Fm) (m : AM), Inv L t m → L i = false → (∀ j ∈ depsO o, L j = true) → Step P nt l.toArray o t m (fun t m => Inv (upL L i) t m))
    (he : ∀ (L : Nat → Bool) (t : Fm) (m : AM), (∀ i, i < l.length → L i = true) → Inv L t m → Q .normal t m) : AW P nt m0 (.region id l.toArray true) t m Q :=
  .all hP (AWd.inv Inv hb hs he _ _ (fun _ => false) t m (by simp) (fun i hi => by simp [hi]) (by simpa using cntL_le (fun _ => false) l.length) h0)
end
end Go.Proofs.Ytajpngnphbdnnaa.Abs
namespace Go.Proofs.Ytajpngnphbdnnaa.Abs
set_option linter.unusedSimpArgs false
set_option linter.unusedVariables false
open Go.RowKit
open Go.Proofs.Ytajpngnphbdnnaa.Sim
section
variable {P : Program} {nt : Nat} {ops : Array Oper} {t : Fm} {m : AM} {K : Fm → AM → Prop} {d T : Nat} {p : String} {af : Array Edge}
theorem Step.allocG {ty : TypeId} {z : Array Value} (hz : zeroB P ty = some z) (hlt : Nat.blt d nt = true) (hK : K (put t d (.pointer (some ⟨m.length, 0, none⟩))) (m ++ [some { cells := z.toList }])) :
    Step P nt ops ⟨some d, .alloc ty, T, p, af, none⟩ t m K := by
  rw [← List.append_nil m]
  exact Step.alloc (M := m) (L := []) 0 rfl hz hlt rfl (by simpa using hK)
theorem Step.makeG {x y : Operand} {X : TypeId} {n : Nat} {kx ky : IntKind} {e : TypeId} {by_ : Nat} {z : Value} (hx : evo t x = some (.int kx ((n : Nat) : Int))) (hy : evo t y = some (.int ky ((n : Nat) : Int))) (he : elemB P X = some (e, 1, by_, #[z])) (hb : by_ * n ≤ 281474976710656 ∧ n ≤ 9223372036854775807)
    (hlt : Nat.blt d nt = true) (hK : K (put t d (.slice (some ⟨m.length, 0, none⟩) n n)) (m ++ [some { cells := List.replicate n z }])) : Step P nt ops ⟨some d, .makeSlice X x y, T, p, af, none⟩ t m K := by
  rw [← List.append_nil m]
  exact Step.make1 (M := m) (L := []) 0 rfl hx hy he hb hlt rfl (by simpa using hK)
/-- A variable is set as a whole. -/
theorem Step.storeG {x y : Operand} {ty : TypeId} {a n : Nat} {v : Value} {b : Blk} (hx : evo t x = some (.pointer (some ⟨a, 0, none⟩))) (hy : evo t y = some v) (hb : m[a]? = some (some b)) (hs : b.kind.solid = true) (hz : szB P ty = some n) (hc : v.cells.size = n) (h1 : v.cells.all (·.oneCell') = true) (ho : b.cells.length = n)
    (hK : K t (m.set a (some { b with cells := v.cells.toList }))) : Step P nt ops ⟨none, .store ty x y, T, p, af, none⟩ t m K := by
  have := Step.storeA (P := P) (nt := nt) (ops := ops) (T := T) (p := p) (af := af) (M := []) (L := m) (k := a) (ty := ty) (K := K) (by simpa using hx) hy hb hs hz hc h1 ho rfl (by simpa using hK)
  simpa using this
/-- One cell is set. -/
theorem Step.storeC {x y : Operand} {ty : TypeId} {a o : Nat} {v : Value} {b : Blk} (hx : evo t x = some (.pointer (some ⟨a, o, none⟩))) (hy : evo t y = some v) (hb : m[a]? = some (some b)) (hs : b.kind.solid = true) (hz : szB P ty = some 1) (hc : v.cells = #[v]) (h1 : v.oneCell' = true) (ho : o < b.cells.length)
    (hK : K t (m.set a (some { b with cells := b.cells.set o v }))) : Step P nt ops ⟨none, .store ty x y, T, p, af, none⟩ t m K := by
  have := Step.store (P := P) (nt := nt) (ops := ops) (T := T) (p := p) (af := af) (M := []) (L := m) (k := a) (ty := ty) (K := K) (by simpa using hx) hy hb hs hz hc h1 ho rfl (by simpa using hK)
  simpa using this
/-- One element is added to a growing slice: to nil, or to a block that may grow. -/
theorem Step.appN {x y : Operand} {X Y e e' : TypeId} {by_ r : Nat} {z : Array Value} {new : Value} (hx : evo t x = some (.slice none 0 0)) (hy : evo t y = some (.slice (some ⟨r, 0, none⟩) 1 1)) (hE : elemB P X = some (e, 1, by_, z)) (hY : P.underlying Y = some (.slice e'))
    (hr : m[r]? = some (some { cells := [new] })) (hn1 : new.oneCell' = true) (hb : Nat.ble by_ 1099511627776 = true) (hlt : Nat.blt d nt = true)
    (hK : K (put t d (.slice (some ⟨m.length, 0, none⟩) 1 1)) (m ++ [some { cells := [new], kind := .grow, size := 1 }])) :
    Step P nt ops ⟨some d, .call ⟨.builtin .append, #[x, y], #[X, Y]⟩, T, p, af, none⟩ t m K := by
  have hb' := Nat.le_of_ble_eq_true hb
  have h1 : K (put t d (.slice (some ⟨m.length + 0, 0, none⟩) 1 1)) (m ++ ([] ++ [some { cells := [new], kind := .grow, size := 1 }])) := by simpa using hK
  rw [← List.append_nil m] at hr ⊢
  refine .l rfl rfl hlt rfl (by simp [Op.operands, Call.operands, hx, hy]) (loudN (L := []) rfl rfl (v := .slice (some ⟨m.length + 0, 0, none⟩) 1 1) ?_ h1)
  have hcell : acells ((m ++ []) ++ [none]) 1 1 (.slice (some ⟨r, 0, none⟩) 1 1) = some [new] := by
    have hg : ((m ++ []) ++ [none])[r]? = some (some { cells := [new] }) := get_old _ hr
    simp only [acells, hg]
    simp
  simp only [aloud, evD_of hx, evD_of hy, aappend, hE, hY, aSliceLen, hcell]
  rw [if_neg (by simp [hn1]), if_neg (by omega), if_pos ⟨by omega, by omega⟩, set_new_at m [] rfl]
  simp
theorem Step.appB {x y : Operand} {X Y e e' : TypeId} {by_ s r n : Nat} {z : Array Value} {c : List Value} {new : Value} (hx : evo t x = some (.slice (some ⟨s, 0, none⟩) n n)) (hy : evo t y = some (.slice (some ⟨r, 0, none⟩) 1 1)) (hE : elemB P X = some (e, 1, by_, z)) (hY : P.underlying Y = some (.slice e'))
    (hq : m[s]? = some (some { cells := c, kind := .grow, size := 1 })) (hc : c.length = n) (hr : m[r]? = some (some { cells := [new] })) (hn1 : new.oneCell' = true) (hb : (n + 1) * by_ ≤ 1099511627776 ∧ n + 1 ≤ 1099511627776) (hlt : Nat.blt d nt = true)
    (hK : K (put t d (.slice (some ⟨m.length, 0, none⟩) (n + 1) (n + 1))) ((m.set s none) ++ [some { cells := c ++ [new], kind := .grow, size := 1 }])) :
    Step P nt ops ⟨some d, .call ⟨.builtin .append, #[x, y], #[X, Y]⟩, T, p, af, none⟩ t m K := by
  refine .l rfl rfl hlt rfl (by simp [Op.operands, Call.operands, hx, hy]) (loud_of_aloud (v := .slice (some ⟨m.length, 0, none⟩) (n + 1) (n + 1)) (m' := (m.set s none) ++ [some { cells := c ++ [new], kind := .grow, size := 1 }]) rfl ?_ hK)
  have hsl : s < m.length := (List.getElem?_eq_some_iff.1 hq).1
  have hcell : acells (m ++ [none]) 1 1 (.slice (some ⟨r, 0, none⟩) 1 1) = some [new] := by
    have hg : (m ++ [none])[r]? = some (some { cells := [new] }) := get_old _ hr
    simp only [acells, hg]
    simp
  have hg : (m ++ [none])[s]? = some (some { cells := c, kind := .grow, size := 1 }) := get_old _ hq
  simp only [aloud, evD_of hx, evD_of hy, aappend, hE, hY, aSliceLen, hcell]
  rw [if_neg (by simp [hn1]), if_neg (by omega)]
  simp only [hg]
  rw [if_neg (by omega), if_pos ⟨hb.1, hb.2, Nat.le_refl _⟩, if_pos ⟨by simp [hc], trivial⟩]
  simp only [List.drop_zero, Option.some.injEq, Prod.mk.injEq, true_and]
  rw [List.set_append_left _ _ hsl, List.set_append_right _ _ (by simp)]
  simp [List.take_of_length_le (show c.length ≤ n by omega)]
/-- An element of an array that is a value. -/
theorem Step.indexV {x y : Operand} {X e n k : Nat} {c : Array Value} {v : Value} {kk : IntKind} (hx : evo t x = some (.agg c)) (hy : evo t y = some (.int kk ((k : Nat) : Int))) (hX : P.underlying X = some (.array n e)) (hsz : szB P e = some 1) (hg : aggB P e = some false) (hk : k < n) (hv : c[k]? = some v)
    (hlt : Nat.blt d nt = true) (hK : K (put t d v) m) : Step P nt ops ⟨some d, .index X x y, T, p, af, none⟩ t m K := by
  refine .q (v := v) rfl rfl hlt (by simp [Op.operands, hx, hy]) ?_ hK
  simp only [aquiet, evD_of hx, evD_of hy, aindexOf, hX, hsz]
  rw [if_pos (by omega)]
  simp [apart_, hg, hv]
theorem still_nilP {X e : TypeId} (hX : P.underlying X = some (.pointer e)) (n : Nat) : Sim.still P (Op.equalIn (n + 1) X (.pointer none) (.pointer none)) = some true := by
  rw [Op.equalIn]
  show Sim.still P (Sem.bind (underlying X) _) = _
  rw [still_bind]
  have : Sim.still P (underlying X) = some (.pointer e) := by
    unfold underlying
    show Sim.still P (Sem.bind program _) = _
    rw [still_bind]
    simp [program, Sim.still, hX, pure]
  rw [this]
  rfl
theorem Step.ptrNil {x y : Operand} {X Y e : TypeId} (hx : evo t x = some (.pointer none)) (hy : evo t y = some (.pointer none)) (hX : P.underlying X = some (.pointer e)) (hlt : Nat.blt d nt = true) (hK : K (put t d (.bool true)) m) : Step P nt ops ⟨some d, .binOp .eql X x y Y, T, p, af, none⟩ t m K := by
  refine .ground rfl rfl hlt (by simp [Op.operands, hx, hy, g1, g0]) (fun h => by simp only [aquiet, evD_of hx, evD_of hy, aint, anil, hX]; simpa [evD_of hx, evD_of hy] using h) ?_ (by simp [g1, g0]) hK
  have he := still_nilP hX 9999
  simp only [execOp, eqGuard, binOp, evD_of hx, evD_of hy, bind, Sem.bind, pure]
  show Sim.still P (((Op.equalIn (9999 + 1) X (.pointer none) (.pointer none)).bind _).bind _) = _
  rw [still_bind, still_bind, he]
  rfl
theorem Step.ptrNot {x y : Operand} {X Y : TypeId} {a o : Nat} {e : TypeId} (hx : evo t x = some (.pointer (some ⟨a, o, none⟩))) (hy : evo t y = some (.pointer none)) (hX : P.underlying X = some (.pointer e)) (hlt : Nat.blt d nt = true) (hK : K (put t d (.bool false)) m) : Step P nt ops ⟨some d, .binOp .eql X x y Y, T, p, af, none⟩ t m K :=
  .q rfl rfl hlt (by simp [Op.operands, hx, hy]) (by simp [aquiet, evD_of hx, evD_of hy, aint, anil, hX, bEq]) hK
/-- A whole array of one's own as a slice. -/
theorem Step.arr {x : Operand} {X e a len : Nat} {M L L' : AM} (hx : evo t x = some (.pointer (some ⟨a, 0, none⟩))) (ho : OwnAt M a L) (hX : P.underlying X = some (.array len e)) (hsz : szB P e = some 1) (h0 : Nat.blt 0 len = true)
    (hlt : Nat.blt d nt = true) (hL : L ++ [none] = L') (hK : K (put t d (.slice (some ⟨a, 0, none⟩) len len)) (M ++ L')) : Step P nt ops ⟨some d, .slice X x none none none, T, p, af, none⟩ t (M ++ L) K := by
  subst hL
  obtain ⟨b, hb, hk⟩ := ho
  have h0' : 0 < len := by simpa using h0
  refine .l rfl rfl hlt (by simp [stillB, hX]) (by simp [Op.operands, hx]) (loudN (L := L) rfl rfl (v := .slice (some ⟨a, 0, none⟩) len len) ?_ hK)
  have hb' : ((M ++ L) ++ [none])[a]? = some (some b) := get_old _ hb
  simp only [aloud, evD_of hx, aslice, hX, hsz, Option.map_none, hb']
  simp only [bnd]
  rw [if_pos ⟨Nat.zero_le _, Nat.le_refl _, .inl hk⟩, List.append_assoc]
  simp
end
end Go.Proofs.Ytajpngnphbdnnaa.Abs
namespace Go.Proofs.Ytajpngnphbdnnaa.Abs
open Go.RowKit
open Go.Proofs.Ytajpngnphbdnnaa.Sim
/-- What a call made and does not return is let go. -/
theorem ACall.drop {P : Program} {f : FuncId} {args : Array Value} {m : AM} {r : Value} (hr : Ren rid m.length r r) (h : ACall P f args m (fun v m' => v = r ∧ ∃ N, m' = m ++ N)) : ACall P f args m (Ret r m) := by
  intro base R w args' hb hm ha
  refine (h base R w args' hb hm ha).mono ?_
  rintro e w' ⟨v, v', R', m', he, hrel, hpost, rfl, N, rfl⟩
  obtain ⟨R1, h1, h2⟩ := (Gc.drop (M := m) (L := N) (t := fr [(0, v)]) (l := [(0, v)]) ⟨⟨rfl, hr⟩, trivial⟩).ok hm hpost (nt := 1) (u := #[v']) ⟨rfl, fun i x hi => by
    by_cases e : i = 0
    · subst e
      have : some v = some x := hi
      injection this with this; subst this
      exact hrel
    · have : fr [(0, v)] i = none := by show put (fr []) 0 v i = none; rw [put_ne _ _ e]; rfl
      rw [this] at hi; cases hi⟩
  exact ⟨v, v', R1, m, he, h2.rel 0 v rfl, h1, rfl, rfl⟩
end Go.Proofs.Ytajpngnphbdnnaa.Abs
namespace Go.Proofs.Ytajpngnphbdnnaa.Abs
open Go.RowKit
open Go.Proofs.Ytajpngnphbdnnaa.Sim
theorem Ren.aggI {ρ : Nat → Nat} {n : Nat} (l : List Int) : Ren ρ n (.agg (iv l).toArray) (.agg (iv l).toArray) :=
  .agg _ _ rfl fun i hi => by
    have hi' : i < l.length := by simpa [iv] using hi
    have : (iv l).toArray.getD i undef = .int .i64 l[i] := by simp [iv, hi']
    rw [this]; exact .int _ _
end Go.Proofs.Ytajpngnphbdnnaa.Abs
namespace Go.Proofs.Ytajpngnphbdnnaa.Abs
open Go.RowKit
open Go.Proofs.Ytajpngnphbdnnaa.Sim
/-- A result that is read out of a variable. -/
theorem ares_cell {P : Program} {fn : Func} {t : Fm} {m : AM} {a i n : Nat} {ty : TypeId} {c : List Value} (hr : fn.results = #[.cell a ty]) (ht : t a = some (.pointer (some ⟨i, 0, none⟩))) (hg : aggB P ty = some true) (hn : szB P ty = some n) (h1 : RdL m i 0 c) (h3 : c.length = n) (hn1 : Nat.blt 0 n = true) :
    ares P fn t m = some (.agg c.toArray) := by
  obtain ⟨b, k1, k2⟩ := h1
  simp at hn1
  have hlast := k2 (n - 1) c[n - 1] (List.getElem?_eq_getElem (by omega))
  have hlen := (List.getElem?_eq_some_iff.1 hlast).1
  have hc : (b.cells.drop 0).take n = c := by
    apply List.ext_getElem?
    intro j
    by_cases hj : j < n
    · rw [List.getElem?_take, if_pos hj, List.getElem?_drop, k2 j c[j] (List.getElem?_eq_getElem (by omega)), List.getElem?_eq_getElem (by omega)]
    · rw [List.getElem?_take, if_neg hj, List.getElem?_eq_none (by omega)]
  have h0 : 0 + n ≤ b.cells.length := by omega
  have hl : aload P m ty (.pointer (some ⟨i, 0, none⟩)) = some (.agg c.toArray) := by simp only [aload, k1, hg, hn]; rw [if_pos h0, hc]
  have hL : aresL P t m fn.results.toList = some [.agg c.toArray] := by rw [hr]; simp only [aresL, ares1, ht, hl]
  unfold ares
  rw [hL]
end Go.Proofs.Ytajpngnphbdnnaa.Abs
namespace Go.Proofs.Ytajpngnphbdnnaa.Abs
set_option linter.unusedSimpArgs false
set_option linter.unusedVariables false
open Go.RowKit
open Go.Proofs.Ytajpngnphbdnnaa.Sim
open Go.Proofs
/-- A glove: its four numbers. -/
structure Gl where
  a : Int
  b : Int
  c : Int
  d : Int
instance : Inhabited Gl := ⟨⟨0, 0, 0, 0⟩⟩
def Gl.cells (x : Gl) : List Value := [.int .i64 x.a, .int .i64 x.b, .int .i64 x.c, .int .i64 x.d]
def Gl.g (x : Gl) : Nat → Int
  | 0 => x.a
  | 1 => x.b
  | 2 => x.c
  | _ => x.d
def Gl.v (x : Gl) : Value := .agg #[.int .i64 x.a, .int .i64 x.b, .int .i64 x.c, .int .i64 x.d]
theorem Gl.tab (x : Gl) : x.cells = iv (tab x.g 4) := rfl
/-- Valid. -/
def gB (x : Gl) : Bool := decide (0 ≤ x.a ∧ x.a ≤ 1000 ∧ 0 ≤ x.b ∧ x.b ≤ 1000 ∧ 0 ≤ x.c ∧ x.c ≤ 1000 ∧ 0 ≤ x.d ∧ x.d ≤ 1000)
theorem gB_iff {x : Gl} : gB x = true ↔ ∀ k, k < 4 → 0 ≤ x.g k ∧ x.g k ≤ 1000 := by
  simp only [gB, decide_eq_true_eq]
  constructor
  · intro h k hk
    rcases k with _ | _ | _ | _ | k
    · exact ⟨h.1, h.2.1⟩
    · exact ⟨h.2.2.1, h.2.2.2.1⟩
    · exact ⟨h.2.2.2.2.1, h.2.2.2.2.2.1⟩
    · exact ⟨h.2.2.2.2.2.2.1, h.2.2.2.2.2.2.2⟩
    · omega
  · intro h
    have h0 := h 0 (by omega)
    have h1 := h 1 (by omega)
    have h2 := h 2 (by omega)
    have h3 := h 3 (by omega)
    simp only [Gl.g] at h0 h1 h2 h3
    omega
/-- A rule: what differences count, and how great they may be. -/
structure Ru where
  w : Gl
  l : Gl
def Ru.cells (u : Ru) : List Value := u.w.cells ++ u.l.cells
def Ru.v (u : Ru) : Value := .agg #[.int .i64 u.w.a, .int .i64 u.w.b, .int .i64 u.w.c, .int .i64 u.w.d, .int .i64 u.l.a, .int .i64 u.l.b, .int .i64 u.l.c, .int .i64 u.l.d]
def uB (u : Ru) : Bool := gB u.w && gB u.l
theorem bl33 {a b c d : Int} : abuild Try.prog 33 [(0, .int .i64 a), (1, .int .i64 b), (2, .int .i64 c), (3, .int .i64 d)] = some (.agg #[.int .i64 a, .int .i64 b, .int .i64 c, .int .i64 d]) := by kernel_rfl
theorem bl113 {a b c d : Int} : abuild Try.prog 113 [(0, .int .i64 a), (1, .int .i64 b), (2, .int .i64 c), (3, .int .i64 d)] = some (.agg #[.int .i64 a, .int .i64 b, .int .i64 c, .int .i64 d]) := by kernel_rfl
theorem ze33 : zeroB Try.prog 33 = some #[.int .i64 0, .int .i64 0, .int .i64 0, .int .i64 0] := by kernel_rfl
theorem ze113 : zeroB Try.prog 113 = some #[.int .i64 0, .int .i64 0, .int .i64 0, .int .i64 0] := by kernel_rfl
theorem un113 : Try.prog.underlying 113 = some (.array 4 3) := by kernel_rfl
set_option maxRecDepth 100000 in
theorem measures_ok {m : AM} (x : Gl) : ACall Try.prog 95 #[x.v] m (Ret x.v m) := by
  refine ACall.drop (Ren.aggI [x.a, x.b, x.c, x.d]) ?_
  unfold Gl.v
  refine ACall.start Try.func95 rfl rfl ?_
  (repeat (first | (with_reducible refine AWo.cons ?_) | ((with_reducible refine Step.id ?_); first | ((with_reducible apply Step.load); exact rfl; (focus (decide +kernel)); exact rfl; (focus (exact Rd.new rfl rfl))) | ((with_reducible apply Step.field0); exact rfl; (focus (decide +kernel)); exact rfl) | ((with_reducible apply Step.field (k := 1)); exact rfl; (focus (decide +kernel)); exact rfl) | ((with_reducible apply Step.field (k := 2)); exact rfl; (focus (decide +kernel)); exact rfl) | ((with_reducible apply Step.field (k := 3)); exact rfl; (focus (decide +kernel)); exact rfl) | ((with_reducible apply Step.box 0); exact rfl; exact rfl; (focus (kernel_rfl)); exact rfl; (focus (first | (simp only [List.nil_append, List.cons_append, List.set_cons_zero, List.set_cons_succ, iv_set, bv_set, iv_rep, bv_rep]; done) | (simp only [List.nil_append, List.cons_append, List.set_cons_zero, List.set_cons_succ, iv_set, bv_set, iv_rep, bv_rep]; rfl) | rfl))) | ((with_reducible apply Step.alloc 1); exact rfl; exact ze113; exact rfl; (focus (first | (simp only [List.nil_append, List.cons_append, List.set_cons_zero, List.set_cons_succ, iv_set, bv_set, iv_rep, bv_rep]; done) | (simp only [List.nil_append, List.cons_append, List.set_cons_zero, List.set_cons_succ, iv_set, bv_set, iv_rep, bv_rep]; rfl) | rfl))) | ((with_reducible apply Step.storeA (k := 1) (n := 4)); exact rfl; exact rfl; exact rfl; exact rfl; (focus (decide +kernel)); exact rfl; (focus (kernel_rfl)); exact rfl; (focus (first | (simp only [List.nil_append, List.cons_append, List.set_cons_zero, List.set_cons_succ, iv_set, bv_set, iv_rep, bv_rep]; done) | (simp only [List.nil_append, List.cons_append, List.set_cons_zero, List.set_cons_succ, iv_set, bv_set, iv_rep, bv_rep]; rfl) | rfl))) | ((with_reducible apply Step.build); exact rfl; exact bl113; exact rfl)) | (with_reducible refine AWo.nil ?_) | ((with_reducible apply AW.seq)) | ((with_reducible apply Then.n)) | ((with_reducible apply AW.regL))))
  (refine AW.ret ?_; (repeat (first | refine Then.r ?_ | refine InBlk.r ?_)))
  exact ⟨_, ares_cell rfl rfl (by decide +kernel) (n := 4) (by decide +kernel) (RdL.new rfl rfl) rfl rfl, rfl, _, rfl⟩
set_option maxRecDepth 100000 in
theorem right_ok {m : AM} (x : Gl) {b : Bool} (hb : gB x = b) : ACall Try.prog 64 #[x.v] m (Ret (.bool b) m) := by
  have hx := measures_ok (m := m) x
  unfold Gl.v at *
  refine ACall.start Try.func64 rfl rfl ?_
  have hI : ∀ (b0 : Option Blk) (T : AM), Ints (m ++ (b0 :: some { cells := x.cells } :: T)) (.slice (some ⟨m.length + 1, 0, none⟩) 4 4) (tab x.g (3 + 1)) := fun b0 T => ints_new rfl rfl _ rfl
  have e1 : (0 ≤ minF x.g 3) = (0 ≤ x.a ∧ 0 ≤ x.b ∧ 0 ≤ x.c ∧ 0 ≤ x.d) := by simp only [minF, Gl.g]; apply propext; omega
  have e2 : (maxF x.g 3 ≤ 1000) = (x.a ≤ 1000 ∧ x.b ≤ 1000 ∧ x.c ≤ 1000 ∧ x.d ≤ 1000) := by simp only [maxF, Gl.g]; apply propext; omega
  have e3 : gB x = (decide (0 ≤ minF x.g 3) && decide (maxF x.g 3 ≤ 1000)) := by
    rw [gB, ← Bool.decide_and]
    apply decide_eq_decide.2
    rw [e1, e2]; omega
  rw [e3] at hb
  clear e1 e2 e3
  obtain ⟨lo, hlo⟩ : ∃ lo, minF x.g 3 = lo := ⟨_, rfl⟩
  obtain ⟨hi, hhi⟩ : ∃ hi, maxF x.g 3 = hi := ⟨_, rfl⟩
  rw [hlo, hhi] at hb
  have hmin : ∀ (b0 : Option Blk) (T : AM), ACall Try.prog 91 #[.slice (some ⟨m.length + 1, 0, none⟩) 4 4] (m ++ (b0 :: some { cells := x.cells } :: T)) (Ret (.int .i64 lo) (m ++ (b0 :: some { cells := x.cells } :: T))) := fun b0 T => by rw [← hlo]; exact min_ok (hI b0 T) (by omega)
  have hmax : ∀ (b0 : Option Blk) (T : AM), ACall Try.prog 96 #[.slice (some ⟨m.length + 1, 0, none⟩) 4 4] (m ++ (b0 :: some { cells := x.cells } :: T)) (Ret (.int .i64 hi) (m ++ (b0 :: some { cells := x.cells } :: T))) := fun b0 T => by rw [← hhi]; exact max_ok (hI b0 T) (by omega)
  subst hb
  by_cases c1 : 0 ≤ lo
  · (repeat (first | (with_reducible refine AWo.cons ?_) | ((with_reducible refine Step.id ?_); first | ((with_reducible apply Step.gdT); exact rfl; exact rfl; (focus ((simp only [decide_eq_true_eq, decide_eq_false_iff_not, Bool.not_eq_true', Bool.not_eq_false', Bool.not_true, Bool.not_false]; first | assumption | omega)))) | ((with_reducible apply Step.move); exact rfl; exact rfl) | ((with_reducible apply Step.assign); exact rfl; exact rfl) | ((with_reducible apply Step.loadL (n := 4)); exact rfl; (focus (decide +kernel)); (focus (decide +kernel)); exact rfl; (focus (exact RdL.new rfl rfl)); exact rfl; exact rfl) | ((with_reducible apply Step.arr); exact rfl; (focus (first | assumption | exact OwnAt.new rfl rfl)); exact un113; exact sz3; exact rfl; exact rfl; (focus (first | (simp only [List.nil_append, List.cons_append, List.set_cons_zero, List.set_cons_succ, iv_set, bv_set, iv_rep, bv_rep]; done) | (simp only [List.nil_append, List.cons_append, List.set_cons_zero, List.set_cons_succ, iv_set, bv_set, iv_rep, bv_rep]; rfl) | rfl))) | ((with_reducible apply Step.leq); exact rfl; exact rfl; exact rfl) | ((with_reducible apply Step.geq); exact rfl; exact rfl; exact rfl) | ((with_reducible apply Step.pickT); exact rfl; exact rfl; exact rfl; exact rfl; (focus ((simp only [decide_eq_true_eq, decide_eq_false_iff_not, Bool.not_eq_true', Bool.not_eq_false', Bool.not_true, Bool.not_false]; first | assumption | omega)))) | ((with_reducible apply Step.callR fit); exact rfl; exact Try.func95; exact rfl; exact rfl; exact (measures_ok x)) | ((with_reducible apply Step.callR fit); exact rfl; exact Try.func91; exact rfl; exact rfl; exact (hmin _ _)) | ((with_reducible apply Step.callR fit); exact rfl; exact Try.func96; exact rfl; exact rfl; exact (hmax _ _)) | ((with_reducible apply Step.box 0); exact rfl; exact rfl; (focus (kernel_rfl)); exact rfl; (focus (first | (simp only [List.nil_append, List.cons_append, List.set_cons_zero, List.set_cons_succ, iv_set, bv_set, iv_rep, bv_rep]; done) | (simp only [List.nil_append, List.cons_append, List.set_cons_zero, List.set_cons_succ, iv_set, bv_set, iv_rep, bv_rep]; rfl) | rfl))) | ((with_reducible apply Step.alloc 1); exact rfl; exact ze113; exact rfl; (focus (first | (simp only [List.nil_append, List.cons_append, List.set_cons_zero, List.set_cons_succ, iv_set, bv_set, iv_rep, bv_rep]; done) | (simp only [List.nil_append, List.cons_append, List.set_cons_zero, List.set_cons_succ, iv_set, bv_set, iv_rep, bv_rep]; rfl) | rfl))) | ((with_reducible apply Step.storeA (k := 1) (n := 4)); exact rfl; exact rfl; exact rfl; exact rfl; (focus (decide +kernel)); exact rfl; (focus (kernel_rfl)); exact rfl; (focus (first | (simp only [List.nil_append, List.cons_append, List.set_cons_zero, List.set_cons_succ, iv_set, bv_set, iv_rep, bv_rep]; done) | (simp only [List.nil_append, List.cons_append, List.set_cons_zero, List.set_cons_succ, iv_set, bv_set, iv_rep, bv_rep]; rfl) | rfl)))) | (with_reducible refine AWo.nil ?_) | ((with_reducible apply AW.seq)) | ((with_reducible apply Then.n)) | ((with_reducible apply AW.regL))))
    (refine AW.retD (l := [(2, _)]) (by repeat (first | exact trivial | (refine And.intro ⟨rfl, by (exact .bool _)⟩ ?_))) ?_; (repeat (first | refine Then.r ?_ | refine InBlk.r ?_)))
    exact ⟨_, rfl, by simp [c1], rfl⟩
  · (repeat (first | (with_reducible refine AWo.cons ?_) | ((with_reducible refine Step.id ?_); first | ((with_reducible apply Step.gdF); exact rfl; exact rfl; (focus ((simp only [decide_eq_true_eq, decide_eq_false_iff_not, Bool.not_eq_true', Bool.not_eq_false', Bool.not_true, Bool.not_false]; first | assumption | omega)))) | ((with_reducible apply Step.move); exact rfl; exact rfl) | ((with_reducible apply Step.assign); exact rfl; exact rfl) | ((with_reducible apply Step.loadL (n := 4)); exact rfl; (focus (decide +kernel)); (focus (decide +kernel)); exact rfl; (focus (exact RdL.new rfl rfl)); exact rfl; exact rfl) | ((with_reducible apply Step.arr); exact rfl; (focus (first | assumption | exact OwnAt.new rfl rfl)); exact un113; exact sz3; exact rfl; exact rfl; (focus (first | (simp only [List.nil_append, List.cons_append, List.set_cons_zero, List.set_cons_succ, iv_set, bv_set, iv_rep, bv_rep]; done) | (simp only [List.nil_append, List.cons_append, List.set_cons_zero, List.set_cons_succ, iv_set, bv_set, iv_rep, bv_rep]; rfl) | rfl))) | ((with_reducible apply Step.geq); exact rfl; exact rfl; exact rfl) | ((with_reducible apply Step.pickF); exact rfl; exact rfl; exact rfl; exact rfl; (focus ((simp only [decide_eq_true_eq, decide_eq_false_iff_not, Bool.not_eq_true', Bool.not_eq_false', Bool.not_true, Bool.not_false]; first | assumption | omega)))) | ((with_reducible apply Step.callR fit); exact rfl; exact Try.func95; exact rfl; exact rfl; exact (measures_ok x)) | ((with_reducible apply Step.callR fit); exact rfl; exact Try.func91; exact rfl; exact rfl; exact (hmin _ _)) | ((with_reducible apply Step.box 0); exact rfl; exact rfl; (focus (kernel_rfl)); exact rfl; (focus (first | (simp only [List.nil_append, List.cons_append, List.set_cons_zero, List.set_cons_succ, iv_set, bv_set, iv_rep, bv_rep]; done) | (simp only [List.nil_append, List.cons_append, List.set_cons_zero, List.set_cons_succ, iv_set, bv_set, iv_rep, bv_rep]; rfl) | rfl))) | ((with_reducible apply Step.alloc 1); exact rfl; exact ze113; exact rfl; (focus (first | (simp only [List.nil_append, List.cons_append, List.set_cons_zero, List.set_cons_succ, iv_set, bv_set, iv_rep, bv_rep]; done) | (simp only [List.nil_append, List.cons_append, List.set_cons_zero, List.set_cons_succ, iv_set, bv_set, iv_rep, bv_rep]; rfl) | rfl))) | ((with_reducible apply Step.storeA (k := 1) (n := 4)); exact rfl; exact rfl; exact rfl; exact rfl; (focus (decide +kernel)); exact rfl; (focus (kernel_rfl)); exact rfl; (focus (first | (simp only [List.nil_append, List.cons_append, List.set_cons_zero, List.set_cons_succ, iv_set, bv_set, iv_rep, bv_rep]; done) | (simp only [List.nil_append, List.cons_append, List.set_cons_zero, List.set_cons_succ, iv_set, bv_set, iv_rep, bv_rep]; rfl) | rfl)))) | (with_reducible refine AWo.nil ?_) | ((with_reducible apply AW.seq)) | ((with_reducible apply Then.n)) | ((with_reducible apply AW.regL))))
    (refine AW.retD (l := [(2, _)]) (by repeat (first | exact trivial | (refine And.intro ⟨rfl, by (exact .bool _)⟩ ?_))) ?_; (repeat (first | refine Then.r ?_ | refine InBlk.r ?_)))
    exact ⟨_, rfl, by simp [c1], rfl⟩
end Go.Proofs.Ytajpngnphbdnnaa.Abs
namespace Go.Proofs.Ytajpngnphbdnnaa.Abs
set_option linter.unusedSimpArgs false
set_option linter.unusedVariables false
open Go.RowKit
open Go.Proofs.Ytajpngnphbdnnaa.Sim
open Go.Proofs
/-- The first number below n of which pr says yes; -1. -/
def idxF (pr : Nat → Bool) (n : Nat) : Int := match (List.range n).find? pr with
  | some k => k
  | none => -1
theorem find_hit {pr : Nat → Bool} {n k : Nat} (hk : k < n) (h0 : ∀ i, i < k → pr i = false) (h1 : pr k = true) : (List.range n).find? pr = some k := by
  rw [List.find?_range_eq_some]
  exact ⟨h1, by simpa using hk, fun j hj => by simp [h0 j hj]⟩
theorem find_miss {pr : Nat → Bool} {n : Nat} (h0 : ∀ i, i < n → pr i = false) : (List.range n).find? pr = none := by
  rw [List.find?_eq_none]
  intro x hx
  simp [h0 x (by simpa using hx)]
theorem idxF_hit {pr : Nat → Bool} {n k : Nat} (hk : k < n) (h0 : ∀ i, i < k → pr i = false) (h1 : pr k = true) : idxF pr n = k := by simp [idxF, find_hit hk h0 h1]
theorem idxF_miss {pr : Nat → Bool} {n : Nat} (h0 : ∀ i, i < n → pr i = false) : idxF pr n = -1 := by simp [idxF, find_miss h0]
theorem idxF_any (pr : Nat → Bool) (n : Nat) : decide (0 ≤ idxF pr n) = (List.range n).any pr := by
  unfold idxF
  cases h : (List.range n).find? pr with
  | none =>
    have : (List.range n).any pr = false := by
      rw [List.any_eq_false]
      intro x hx; simpa using List.find?_eq_none.1 h x hx
    simp [this]
  | some k =>
    have : (List.range n).any pr = true := List.any_eq_true.2 ⟨k, List.mem_of_find?_eq_some h, List.find?_some h⟩
    simp [this]
theorem bs27 {m : AM} {n : Nat} : abuildSlice Try.prog m n 27 0 [] = some (.slice (some ⟨n, 0, none⟩) 0 0, m.set n (some { cells := [] })) := by kernel_rfl
theorem rows_rdl {m : AM} {a o : Nat} {c : List Value} (hpos : 0 < c.length) (h : ∀ k, k < c.length → Rd m a (o + k) (c.getD k undef)) : RdL m a o c := by
  obtain ⟨b, h1, _⟩ := h 0 hpos
  refine ⟨b, h1, fun j v hj => ?_⟩
  have hjl := (List.getElem?_eq_some_iff.1 hj).1
  obtain ⟨b', k1, k2⟩ := h j hjl
  rw [h1] at k1; injection k1 with k1; injection k1 with k1; subst k1
  rw [k2]
  simp [← hj, hjl]
theorem ints_rdl {m : AM} {a o : Nat} {l : List Int} (hpos : 0 < l.length) (h : ∀ k, k < l.length → Rd m a (o + k) (.int .i64 (l.getD k 0))) : RdL m a o (iv l) :=
  rows_rdl (by simpa [iv] using hpos) fun k hk => by
    have hk' : k < l.length := by simpa [iv] using hk
    have := h k hk'
    simpa [iv, hk'] using this
set_option maxRecDepth 100000 in
theorem equal_ok {m : AM} {v w : Value} {l k : List Int} (hl : Ints m v l) (hk : Ints m w k) (hlen : l.length ≤ 100000) {b : Bool} (hb : decide (l = k) = b) : ACall Try.prog 24 #[v, w] m (Ret (.bool b) m) := by
  subst hb
  obtain ⟨a, o, h1, h2, h3⟩ := hl
  obtain ⟨c, u, k1, k2, k3⟩ := hk
  refine ACall.start Try.func24 rfl rfl ?_
  by_cases hn : (l.length : Int) = (k.length : Int)
  · (repeat (first | (with_reducible refine AWo.cons ?_) | ((with_reducible refine Step.id ?_); first | ((with_reducible apply Step.move); exact rfl; exact rfl) | ((with_reducible apply Step.assign); exact rfl; exact rfl) | ((with_reducible apply Step.neq); exact rfl; exact rfl; exact rfl) | ((with_reducible apply Step.len); exact rfl; (focus (assumption)); (focus (decide +kernel)); exact rfl)) | (with_reducible refine AWo.nil ?_) | ((with_reducible apply AW.seq)) | ((with_reducible apply Then.n)) | ((with_reducible apply AW.regL)) | ((with_reducible apply AW.block)) | ((with_reducible apply AW.skip)) | ((with_reducible apply AW.condF); exact rfl; (focus ((simp only [decide_eq_true_eq, decide_eq_false_iff_not, Bool.not_eq_true', Bool.not_eq_false', Bool.not_true, Bool.not_false]; first | assumption | omega))))))
    refine AW.loopT (fun n t L => ∃ i : Nat, n = l.length - i ∧ i ≤ l.length ∧ l.take i = k.take i ∧ L = [] ∧
      t = [(0, v), (1, w), (12, .int .i64 (l.length : Nat)), (13, .int .i64 (i : Nat))]) ⟨_, _, _, (Or.inl ⟨rfl, (by repeat (first | exact trivial | (refine And.intro rfl ?_)))⟩), 0, rfl, Nat.zero_le _, rfl, rfl, rfl⟩ ?_
    rintro n t L ⟨i, rfl, hi, he, rfl, rfl⟩
    rcases Nat.lt_or_ge i l.length with hlt | hge
    · have r1 := h3 i hlt
      have r2 := k3 i (by omega)
      have ts := take_snoc l i 0 hlt
      have tk := take_snoc k i 0 (by omega)
      by_cases hx : l.getD i 0 = k.getD i 0
      · (repeat (first | (with_reducible refine AWo.cons ?_) | ((with_reducible refine Step.id ?_); first | ((with_reducible apply Step.move); exact rfl; exact rfl) | ((with_reducible apply Step.assign); exact rfl; exact rfl) | ((with_reducible apply Step.load); exact rfl; (focus (decide +kernel)); exact rfl; (focus (exact Rd.old _ (by assumption)))) | ((with_reducible apply Step.ix1); exact rfl; (focus (assumption)); exact rfl; (focus (decide +kernel)); exact rfl; (focus (omega))) | ((with_reducible apply Step.add); exact rfl; exact rfl; (focus (omega)); exact rfl) | ((with_reducible apply Step.lss); exact rfl; exact rfl; exact rfl) | ((with_reducible apply Step.neq); exact rfl; exact rfl; exact rfl)) | (with_reducible refine AWo.nil ?_) | ((with_reducible apply AW.seq)) | ((with_reducible apply Then.n)) | ((with_reducible apply AW.regL)) | ((with_reducible apply AW.block)) | ((with_reducible apply AW.drawL fit); (focus (decide +kernel))) | ((with_reducible apply InBlk.n)) | ((with_reducible apply AW.skip)) | ((with_reducible apply AW.condT); exact rfl; (focus ((simp only [decide_eq_true_eq, decide_eq_false_iff_not, Bool.not_eq_true', Bool.not_eq_false', Bool.not_true, Bool.not_false]; first | assumption | omega)))) | ((with_reducible apply AW.condF); exact rfl; (focus ((simp only [decide_eq_true_eq, decide_eq_false_iff_not, Bool.not_eq_true', Bool.not_eq_false', Bool.not_true, Bool.not_false]; first | assumption | omega))))))
        exact ⟨_, _, _, by omega, (Or.inl ⟨rfl, (by repeat (first | exact trivial | (refine And.intro rfl ?_)))⟩), i + 1, rfl, by omega, by rw [ts, tk, he, hx], rfl, rfl⟩
      · (repeat (first | (with_reducible refine AWo.cons ?_) | ((with_reducible refine Step.id ?_); first | ((with_reducible apply Step.move); exact rfl; exact rfl) | ((with_reducible apply Step.assign); exact rfl; exact rfl) | ((with_reducible apply Step.load); exact rfl; (focus (decide +kernel)); exact rfl; (focus (exact Rd.old _ (by assumption)))) | ((with_reducible apply Step.ix1); exact rfl; (focus (assumption)); exact rfl; (focus (decide +kernel)); exact rfl; (focus (omega))) | ((with_reducible apply Step.lss); exact rfl; exact rfl; exact rfl) | ((with_reducible apply Step.neq); exact rfl; exact rfl; exact rfl)) | (with_reducible refine AWo.nil ?_) | ((with_reducible apply AW.seq)) | ((with_reducible apply Then.n)) | ((with_reducible apply AW.regL)) | ((with_reducible apply AW.block)) | ((with_reducible apply AW.drawL fit); (focus (decide +kernel))) | ((with_reducible apply AW.skip)) | ((with_reducible apply AW.condT); exact rfl; (focus ((simp only [decide_eq_true_eq, decide_eq_false_iff_not, Bool.not_eq_true', Bool.not_eq_false', Bool.not_true, Bool.not_false]; first | assumption | omega))))))
        (refine AW.retD (l := [(4, _)]) (by repeat (first | exact trivial | (refine And.intro ⟨rfl, by (exact .bool _)⟩ ?_))) ?_; (repeat (first | refine Then.r ?_ | refine InBlk.r ?_)))
        refine ⟨_, rfl, ?_, rfl⟩
        rw [decide_eq_false (fun e => hx (by rw [e]))]
    · (repeat (first | (with_reducible refine AWo.cons ?_) | ((with_reducible refine Step.id ?_); first | ((with_reducible apply Step.assign); exact rfl; exact rfl) | ((with_reducible apply Step.lss); exact rfl; exact rfl; exact rfl)) | (with_reducible refine AWo.nil ?_) | ((with_reducible apply AW.seq)) | ((with_reducible apply Then.n)) | ((with_reducible apply AW.regL)) | ((with_reducible apply AW.exit)) | ((with_reducible apply InBlk.hit)) | ((with_reducible apply Then.e)) | ((with_reducible apply AW.condF); exact rfl; (focus ((simp only [decide_eq_true_eq, decide_eq_false_iff_not, Bool.not_eq_true', Bool.not_eq_false', Bool.not_true, Bool.not_false]; first | assumption | omega))))))
      (refine AW.retD (l := [(4, _)]) (by repeat (first | exact trivial | (refine And.intro ⟨rfl, by (exact .bool _)⟩ ?_))) ?_; (repeat (first | refine Then.r ?_ | refine InBlk.r ?_)))
      refine ⟨_, rfl, ?_, rfl⟩
      rw [List.take_of_length_le (by omega), List.take_of_length_le (by omega)] at he
      rw [decide_eq_true he]
  · (repeat (first | (with_reducible refine AWo.cons ?_) | ((with_reducible refine Step.id ?_); first | ((with_reducible apply Step.move); exact rfl; exact rfl) | ((with_reducible apply Step.assign); exact rfl; exact rfl) | ((with_reducible apply Step.neq); exact rfl; exact rfl; exact rfl) | ((with_reducible apply Step.len); exact rfl; (focus (assumption)); (focus (decide +kernel)); exact rfl)) | (with_reducible refine AWo.nil ?_) | ((with_reducible apply AW.seq)) | ((with_reducible apply Then.n)) | ((with_reducible apply AW.regL)) | ((with_reducible apply AW.condT); exact rfl; (focus ((simp only [decide_eq_true_eq, decide_eq_false_iff_not, Bool.not_eq_true', Bool.not_eq_false', Bool.not_true, Bool.not_false]; first | assumption | omega))))))
    (refine AW.retD (l := [(4, _)]) (by repeat (first | exact trivial | (refine And.intro ⟨rfl, by (exact .bool _)⟩ ?_))) ?_; (repeat (first | refine Then.r ?_ | refine InBlk.r ?_)))
    refine ⟨_, rfl, ?_, rfl⟩
    rw [decide_eq_false (fun e => hn (by rw [e]))]
theorem getD_l {l k : List Int} {i : Nat} (h : i < l.length) : (l ++ k).getD i 0 = l.getD i 0 := by simp [List.getElem?_append_left h]
theorem getD_r {l k : List Int} {i j : Nat} (h : i = l.length + j) : (l ++ k).getD i 0 = k.getD j 0 := by
  subst h; simp [List.getElem?_append_right]
theorem set_r {l k : List Int} {i j : Nat} {x : Int} (h : i = l.length + j) : (l ++ k).set i x = l ++ k.set j x := by
  subst h; simp
theorem mem_getD' {l : List Int} {k : Nat} (h : k < l.length) : l.getD k 0 ∈ l := by
  rw [List.getD_eq_getElem?_getD, List.getElem?_eq_getElem h]; exact List.getElem_mem h
theorem idxF_neg' {pr : Nat → Bool} {n : Nat} (h : idxF pr n < 0) : idxF pr n = -1 ∧ ∀ i, i < n → pr i = false := by
  unfold idxF at h ⊢
  cases h' : (List.range n).find? pr with
  | none =>
    refine ⟨rfl, fun i hi => ?_⟩
    have := List.find?_eq_none.1 h' i (by simpa using hi)
    simpa using this
  | some k => rw [h'] at h; simp at h; omega
theorem idxF_pos' {pr : Nat → Bool} {n : Nat} (h : 0 ≤ idxF pr n) : ∃ k : Nat, idxF pr n = k ∧ k < n ∧ pr k = true ∧ ∀ i, i < k → pr i = false := by
  unfold idxF at h ⊢
  cases h' : (List.range n).find? pr with
  | none => rw [h'] at h; simp at h
  | some k =>
    obtain ⟨h1, h2, h3⟩ := List.find?_range_eq_some.1 h'
    exact ⟨k, rfl, by simpa using h2, h1, fun i hi => by simpa using h3 i hi⟩
set_option maxRecDepth 100000 in
theorem indexF_ok {m : AM} {v : Value} {l : List Int} {g : FuncId} {cap : Array Value} {fn : Func} {bd : Code} (hl : Ints m v l) (hf : Try.prog.funcs[g]? = some fn) (hb : fn.body = some bd) (pr : Nat → Bool)
    (hlen : l.length ≤ 9223372036854775807) (hg : ∀ k, k < l.length → ACall Try.prog g (#[] ++ #[.int .i64 (l.getD k 0)] ++ cap) m (Ret (.bool (pr k)) m)) : ACall Try.prog 102 #[v, .func (.func g) #[] cap] m (Ret (.int .i64 (idxF pr l.length)) m) := by
  obtain ⟨a, o, h1, h2, h3⟩ := hl
  refine ACall.start Try.func102 rfl rfl ?_
  (repeat (first | (with_reducible refine AWo.cons ?_) | ((with_reducible refine Step.id ?_); first | ((with_reducible apply Step.move); exact rfl; exact rfl) | ((with_reducible apply Step.assign); exact rfl; exact rfl) | ((with_reducible apply Step.len); exact rfl; (focus (assumption)); (focus (decide +kernel)); exact rfl)) | (with_reducible refine AWo.nil ?_) | ((with_reducible apply AW.seq)) | ((with_reducible apply Then.n)) | ((with_reducible apply AW.regL)) | ((with_reducible apply AW.block))))
  refine AW.loopT (fun n t L => ∃ k : Nat, n = l.length - k ∧ k ≤ l.length ∧ (∀ i, i < k → pr i = false) ∧ L = [] ∧
    t = [(0, v), (1, .func (.func g) #[] cap), (7, .int .i64 (l.length : Nat)), (8, .int .i64 (k : Nat))]) ⟨_, _, _, (Or.inl ⟨rfl, (by repeat (first | exact trivial | (refine And.intro rfl ?_)))⟩), 0, rfl, Nat.zero_le _, by omega, rfl, rfl⟩ ?_
  rintro n t L ⟨k, rfl, hk, hz, rfl, rfl⟩
  rcases Nat.lt_or_ge k l.length with hlt | hge
  · have hgk := hg k hlt
    have hr := h3 k hlt
    cases hp : pr k with
    | true =>
      rw [hp] at hgk
      (repeat (first | (with_reducible refine AWo.cons ?_) | ((with_reducible refine Step.id ?_); first | ((with_reducible apply Step.move); exact rfl; exact rfl) | ((with_reducible apply Step.assign); exact rfl; exact rfl) | ((with_reducible apply Step.load); exact rfl; (focus (decide +kernel)); exact rfl; (focus (exact Rd.old _ (by assumption)))) | ((with_reducible apply Step.ix1); exact rfl; (focus (assumption)); exact rfl; (focus (decide +kernel)); exact rfl; (focus (omega))) | ((with_reducible apply Step.lss); exact rfl; exact rfl; exact rfl) | ((with_reducible apply Step.callV fit); exact rfl; exact rfl; exact hf; exact hb; exact rfl; exact ((by rw [List.append_nil]; exact hgk)))) | (with_reducible refine AWo.nil ?_) | ((with_reducible apply AW.seq)) | ((with_reducible apply Then.n)) | ((with_reducible apply AW.regL)) | ((with_reducible apply AW.block)) | ((with_reducible apply AW.skip)) | ((with_reducible apply AW.condT); exact rfl; (focus (first | rfl | (simp only [decide_eq_true_eq, decide_eq_false_iff_not, Bool.not_eq_true', Bool.not_eq_false', Bool.not_true, Bool.not_false]; first | assumption | omega))))))
      (refine AW.retD (l := [(4, _)]) (by repeat (first | exact trivial | (refine And.intro ⟨rfl, by (exact .int _ _)⟩ ?_))) ?_; (repeat (first | refine Then.r ?_ | refine InBlk.r ?_)))
      exact ⟨_, rfl, by rw [idxF_hit hlt hz hp], rfl⟩
    | false =>
      rw [hp] at hgk
      (repeat (first | (with_reducible refine AWo.cons ?_) | ((with_reducible refine Step.id ?_); first | ((with_reducible apply Step.move); exact rfl; exact rfl) | ((with_reducible apply Step.assign); exact rfl; exact rfl) | ((with_reducible apply Step.load); exact rfl; (focus (decide +kernel)); exact rfl; (focus (exact Rd.old _ (by assumption)))) | ((with_reducible apply Step.ix1); exact rfl; (focus (assumption)); exact rfl; (focus (decide +kernel)); exact rfl; (focus (omega))) | ((with_reducible apply Step.add); exact rfl; exact rfl; (focus (omega)); exact rfl) | ((with_reducible apply Step.lss); exact rfl; exact rfl; exact rfl) | ((with_reducible apply Step.callV fit); exact rfl; exact rfl; exact hf; exact hb; exact rfl; exact ((by rw [List.append_nil]; exact hgk)))) | (with_reducible refine AWo.nil ?_) | ((with_reducible apply AW.seq)) | ((with_reducible apply Then.n)) | ((with_reducible apply AW.regL)) | ((with_reducible apply AW.block)) | ((with_reducible apply InBlk.n)) | ((with_reducible apply AW.skip)) | ((with_reducible apply AW.condT); exact rfl; (focus ((simp only [decide_eq_true_eq, decide_eq_false_iff_not, Bool.not_eq_true', Bool.not_eq_false', Bool.not_true, Bool.not_false]; first | assumption | omega)))) | ((with_reducible apply AW.condF); exact rfl; (focus (rfl)))))
      exact ⟨_, _, _, by omega, (Or.inl ⟨rfl, (by repeat (first | exact trivial | (refine And.intro rfl ?_)))⟩), k + 1, rfl, by omega, fun i hi => by rcases Nat.lt_succ_iff_lt_or_eq.1 hi with h | h; exact hz i h; rw [h]; exact hp, rfl, rfl⟩
  · (repeat (first | (with_reducible refine AWo.cons ?_) | ((with_reducible refine Step.id ?_); first | ((with_reducible apply Step.assign); exact rfl; exact rfl) | ((with_reducible apply Step.lss); exact rfl; exact rfl; exact rfl)) | (with_reducible refine AWo.nil ?_) | ((with_reducible apply AW.seq)) | ((with_reducible apply Then.n)) | ((with_reducible apply AW.regL)) | ((with_reducible apply AW.exit)) | ((with_reducible apply InBlk.hit)) | ((with_reducible apply Then.e)) | ((with_reducible apply AW.condF); exact rfl; (focus ((simp only [decide_eq_true_eq, decide_eq_false_iff_not, Bool.not_eq_true', Bool.not_eq_false', Bool.not_true, Bool.not_false]; first | assumption | omega))))))
    obtain rfl : k = l.length := by omega
    (refine AW.retD (l := [(4, _)]) (by repeat (first | exact trivial | (refine And.intro ⟨rfl, by (exact .int _ _)⟩ ?_))) ?_; (repeat (first | refine Then.r ?_ | refine InBlk.r ?_)))
    exact ⟨_, rfl, by rw [idxF_miss hz], rfl⟩
set_option maxRecDepth 100000 in
theorem clone_pos {m : AM} {v : Value} {l : List Int} (hl : Ints m v l) (hpos : 0 < l.length) (hlen : l.length ≤ 1000000) : ACall Try.prog 92 #[v] m (New (some { cells := iv l, kind := .grow, size := 1 }) l.length m) := by
  obtain ⟨a, o, h1, h2, h3⟩ := hl
  refine ACall.start Try.func92 rfl rfl ?_
  rcases h1 with ⟨rfl, hn⟩ | ⟨c, hc, rfl⟩ | ⟨hn, _⟩
  · omega
  · have hr := ints_rdl (by omega) h3
    (repeat (first | (with_reducible refine AWo.cons ?_) | ((with_reducible refine Step.id ?_); first | ((with_reducible apply Step.move); exact rfl; exact rfl) | ((with_reducible apply Step.assign); exact rfl; exact rfl) | ((with_reducible apply Step.eqNil); exact rfl; exact rfl; exact un27; exact rfl) | ((with_reducible apply Step.buildS 0); exact rfl; exact rfl; exact (fun _ _ => bs27); exact rfl; (focus (first | (simp only [List.nil_append, List.cons_append, List.set_cons_zero, List.set_cons_succ, iv_set, bv_set, iv_rep, bv_rep]; done) | (simp only [List.nil_append, List.cons_append, List.set_cons_zero, List.set_cons_succ, iv_set, bv_set, iv_rep, bv_rep]; rfl) | rfl)))) | (with_reducible refine AWo.nil ?_) | ((with_reducible apply AW.seq)) | ((with_reducible apply Then.n)) | ((with_reducible apply AW.regL)) | ((with_reducible apply AW.skip)) | ((with_reducible apply AW.condF); exact rfl; (focus (rfl)))))
    ((with_reducible apply Step.appE (k := 1)); exact rfl; exact rfl; exact rfl; exact el27; exact un27; exact rfl; exact rfl; exact (hr.old _); (focus (simp [iv])); (focus (omega)); exact (iv_one _); (focus (omega)); exact rfl; (focus (first | (simp only [List.nil_append, List.cons_append, List.set_cons_zero, List.set_cons_succ, iv_set, bv_set, iv_rep, bv_rep]; done) | (simp only [List.nil_append, List.cons_append, List.set_cons_zero, List.set_cons_succ, iv_set, bv_set, iv_rep, bv_rep]; rfl) | rfl)))
    (repeat (first | (with_reducible refine AWo.cons ?_) | ((with_reducible refine Step.id ?_); ((with_reducible apply Step.assign); exact rfl; exact rfl)) | (with_reducible refine AWo.nil ?_) | ((with_reducible apply Then.n))))
    refine AW.retB (l := [(2, .slice (some ⟨m.length + 0, 0, none⟩) l.length l.length)]) (L1 := [some { cells := iv l, kind := .grow, size := 1 }]) (Back.mv 0 1 rfl rfl rfl rfl (by intro j b hj h; rcases j with _ | _ | _ | _ | _ | _ | j <;> simp_all) (by repeat (first | exact CellsOk.nil | refine CellsOk.cons (by exact g0_iv _) ?_)) (by repeat (first | exact trivial | (refine And.intro ⟨_, rfl, by (exact Ren.slice_mv (by first | (simp; done) | omega | (simp; omega)))⟩ ?_)))) ?_
    exact ⟨_, rfl, rfl, rfl⟩
  · omega
section
variable {m : AM} {r s : Nat} {kd : Kind}
set_option maxHeartbeats 1000000 in
set_option maxRecDepth 100000 in
theorem delete_ok {A Z : List Int} {n c : Nat} {g : FuncId} {cap : Array Value} {fn : Func} {bd : Code} (q : Int → Bool) (hr : r < m.length) (hkd : kd.solid = true) (hf : Try.prog.funcs[g]? = some fn) (hb : fn.body = some bd) (hA : A.length = n) (hnc : n ≤ c) (hc : c ≤ 1000000)
    (hg : ∀ row x, x ∈ A → ACall Try.prog g (#[] ++ #[.int .i64 x] ++ cap) (St m r kd s row) (Ret (.bool (q x)) (St m r kd s row))) :
    ACall Try.prog 84 #[.slice (some ⟨r, 0, none⟩) n c, .func (.func g) #[] cap] (St m r kd s (A ++ Z)) (Ret (.slice (some ⟨r, 0, none⟩) (A.filter fun x => !q x).length c) (St m r kd s ((A.filter fun x => !q x) ++ List.replicate (n - (A.filter fun x => !q x).length) 0 ++ Z))) := by
  subst hA
  have hints : Ints (St m r kd s (A ++ Z)) (.slice (some ⟨r, 0, none⟩) A.length c) A := ⟨r, 0, Sl.mk hnc, by rw [St.len]; exact hr, fun k hk => by
    have := St.rd (s := s) (kd := kd) (l := A ++ Z) hr (o := k) (by simp; omega)
    rw [getD_l hk] at this
    rwa [Nat.zero_add]⟩
  have hix := indexF_ok hints hf hb (fun k => q (A.getD k 0)) (by omega) (fun k hk => hg _ _ (mem_getD' hk))
  have hsl : Sl (.slice (some ⟨r, 0, none⟩) A.length c) r 0 A.length := Sl.mk hnc
  refine ACall.intro Try.func84 rfl (Nat.le_of_ble_eq_true rfl) ?_
  by_cases hno : idxF (fun k => q (A.getD k 0)) A.length < 0
  · obtain ⟨e1, e2⟩ := idxF_neg' hno
    have hfil : (A.filter fun x => !q x) = A := by
      rw [List.filter_eq_self]
      intro x hx
      obtain ⟨k, hk, rfl⟩ := List.getElem_of_mem hx
      have := e2 k hk
      simp only [List.getD_eq_getElem?_getD, List.getElem?_eq_getElem hk, Option.getD_some] at this
      simp [this]
    rw [e1] at hix
    (repeat (first | (with_reducible refine AWo.cons ?_) | ((with_reducible refine Step.id ?_); first | ((with_reducible apply Step.move); exact rfl; exact rfl) | ((with_reducible apply Step.assign); exact rfl; exact rfl) | ((with_reducible apply Step.eql); exact rfl; exact rfl; exact rfl) | ((with_reducible apply Step.callR fit); exact rfl; exact Try.func102; exact rfl; exact rfl; exact (hix))) | (with_reducible refine AWo.nil ?_) | ((with_reducible apply AW.seq)) | ((with_reducible apply Then.n)) | ((with_reducible apply AW.regL)) | ((with_reducible apply AW.condT); exact rfl; (focus (rfl)))))
    (refine AW.ret ?_; (repeat (first | refine Then.r ?_ | refine InBlk.r ?_)))
    refine ⟨_, rfl, by rw [hfil], ?_⟩
    rw [hfil, Nat.sub_self]; simp
  · obtain ⟨k0, e1, e2, e3, e4⟩ := idxF_pos' (pr := fun k => q (A.getD k 0)) (n := A.length) (by omega)
    rw [e1] at hix
    have hpre : (A.take k0).filter (fun x => !q x) = A.take k0 := by
      rw [List.filter_eq_self]
      intro x hx
      obtain ⟨i, hi, rfl⟩ := List.getElem_of_mem hx
      simp only [List.length_take] at hi
      have := e4 i (by omega)
      simp only [List.getD_eq_getElem?_getD, List.getElem?_eq_getElem (show i < A.length by omega), Option.getD_some] at this
      simp [this]
    (repeat (first | (with_reducible refine AWo.cons ?_) | ((with_reducible refine Step.id ?_); first | ((with_reducible apply Step.move); exact rfl; exact rfl) | ((with_reducible apply Step.assign); exact rfl; exact rfl) | ((with_reducible apply Step.add); exact rfl; exact rfl; (focus (omega)); exact rfl) | ((with_reducible apply Step.eql); exact rfl; exact rfl; exact rfl) | ((with_reducible apply Step.callR fit); exact rfl; exact Try.func102; exact rfl; exact rfl; exact (hix))) | (with_reducible refine AWo.nil ?_) | ((with_reducible apply AW.seq)) | ((with_reducible apply Then.n)) | ((with_reducible apply AW.regL)) | ((with_reducible apply AW.block)) | ((with_reducible apply AW.skip)) | ((with_reducible apply AW.condF); exact rfl; (focus (rfl)))))
    refine AW.loopW (fun u t M => ∃ (jj : Nat) (K Mid : List Int), u = A.length - jj ∧ jj ≤ A.length ∧ K = (A.take jj).filter (fun x => !q x) ∧ K.length + Mid.length = jj ∧ 0 < Mid.length ∧
      t = fr [(0, .slice (some ⟨r, 0, none⟩) A.length c), (1, .func (.func g) #[] cap), (5, .int .i64 ((K.length : Nat) : Int)), (6, .int .i64 ((jj : Nat) : Int))] ∧ M = St m r kd s (K ++ Mid ++ (A.drop jj ++ Z)))
      ⟨_, [(0, .slice (some ⟨r, 0, none⟩) A.length c), (1, .func (.func g) #[] cap), (5, .int .i64 ((k0 : Nat) : Int)), (6, .int .i64 ((k0 + 1 : Nat) : Int))], (by repeat (first | exact trivial | (refine And.intro rfl ?_))), k0 + 1, A.take k0, [A.getD k0 0], rfl, by omega, ?_, ?_, by simp, ?_, ?_⟩ ?_
    · rw [take_snoc A k0 0 e2, List.filter_append, hpre]; simp only [List.filter_cons, List.filter_nil, e3]; simp
    · simp; omega
    · simp [Nat.min_eq_left (Nat.le_of_lt e2)]
    · rw [← List.append_assoc, ← take_snoc A k0 0 e2, List.take_append_drop]
    rintro u t M ⟨jj, K, Mid, rfl, hjj, hK, hKM, hMid, rfl, rfl⟩
    rcases Nat.lt_or_ge jj A.length with hlt | hge
    · obtain ⟨x, hx⟩ : ∃ x, x = A.getD jj 0 := ⟨_, rfl⟩
      have hxA : x ∈ A := by rw [hx]; exact mem_getD' hlt
      have hdrop : A.drop jj = x :: A.drop (jj + 1) := by rw [List.drop_eq_getElem_cons hlt, hx]; simp [hlt]
      have hts := take_snoc A jj 0 hlt
      rw [← hx] at hts
      have hgx := hg (K ++ Mid ++ (A.drop jj ++ Z)) x hxA
      have hfs : (A.take (jj + 1)).filter (fun x => !q x) = K ++ if q x then [] else [x] := by
        rw [hts, List.filter_append, ← hK]; cases hq : q x <;> simp [hq]
      rw [hdrop] at hgx ⊢
      have hrd : Rd (St m r kd s (K ++ Mid ++ (x :: A.drop (jj + 1) ++ Z))) r jj (.int .i64 x) := by
        have := St.rd (s := s) (kd := kd) (l := K ++ Mid ++ (x :: A.drop (jj + 1) ++ Z)) hr (o := jj) (by simp; omega)
        rw [getD_r (j := 0) (by simp; omega)] at this
        exact this
      generalize hD : A.drop (jj + 1) = D at *
      cases hq : q x with
      | true =>
        rw [hq] at hgx hfs
        (repeat (first | (with_reducible refine AWo.cons ?_) | ((with_reducible refine Step.id ?_); first | ((with_reducible apply Step.move); exact rfl; exact rfl) | ((with_reducible apply Step.assign); exact rfl; exact rfl) | ((with_reducible apply Step.load); exact rfl; (focus (decide +kernel)); exact rfl; (focus (assumption))) | ((with_reducible apply Step.ix1z); exact rfl; (focus (assumption)); exact rfl; (focus (decide +kernel)); exact rfl; (focus (omega))) | ((with_reducible apply Step.add); exact rfl; exact rfl; (focus (omega)); exact rfl) | ((with_reducible apply Step.lss); exact rfl; exact rfl; exact rfl) | ((with_reducible apply Step.len); exact rfl; (focus (assumption)); (focus (decide +kernel)); exact rfl) | ((with_reducible apply Step.not); exact rfl; exact rfl) | ((with_reducible apply Step.callV fit); exact rfl; exact rfl; exact hf; exact hb; exact rfl; exact (hgx))) | (with_reducible refine AWo.nil ?_) | ((with_reducible apply AW.seq)) | ((with_reducible apply Then.n)) | ((with_reducible apply AW.regL)) | ((with_reducible apply AW.block)) | ((with_reducible apply InBlk.n)) | ((with_reducible apply AW.skip)) | ((with_reducible apply AW.condT); exact rfl; (focus ((simp only [decide_eq_true_eq, decide_eq_false_iff_not, Bool.not_eq_true', Bool.not_eq_false', Bool.not_true, Bool.not_false]; first | assumption | omega)))) | ((with_reducible apply AW.condF); exact rfl; (focus (rfl)))))
        exact ⟨_, [(0, .slice (some ⟨r, 0, none⟩) A.length c), (1, .func (.func g) #[] cap), (5, .int .i64 ((K.length : Nat) : Int)), (6, .int .i64 ((jj + 1 : Nat) : Int))], by omega, (by repeat (first | exact trivial | (refine And.intro rfl ?_))), jj + 1, K, Mid ++ [x], rfl, by omega, by rw [hfs]; simp, by simp; omega, by simp, rfl, by rw [hD]; simp⟩
      | false =>
        rw [hq] at hgx hfs
        obtain ⟨y, M', rfl⟩ : ∃ y M', Mid = y :: M' := by cases Mid with | nil => simp at hMid | cons y M' => exact ⟨y, M', rfl⟩
        simp only [List.length_cons] at hKM
        have hset : (K ++ (y :: M') ++ (x :: D ++ Z)).set K.length x = (K ++ [x]) ++ (M' ++ [x]) ++ (D ++ Z) := by
          rw [List.append_assoc, set_r (j := 0) (by omega)]; simp
        have hll : K.length < (K ++ (y :: M') ++ (x :: D ++ Z)).length := by simp
        (repeat (first | (with_reducible refine AWo.cons ?_) | ((with_reducible refine Step.id ?_); first | ((with_reducible apply Step.move); exact rfl; exact rfl) | ((with_reducible apply Step.assign); exact rfl; exact rfl) | ((with_reducible apply Step.load); exact rfl; (focus (decide +kernel)); exact rfl; (focus (assumption))) | ((with_reducible apply Step.ix1z); exact rfl; (focus (assumption)); exact rfl; (focus (decide +kernel)); exact rfl; (focus (omega))) | ((with_reducible apply Step.add); exact rfl; exact rfl; (focus (omega)); exact rfl) | ((with_reducible apply Step.lss); exact rfl; exact rfl; exact rfl) | ((with_reducible apply Step.len); exact rfl; (focus (assumption)); (focus (decide +kernel)); exact rfl) | ((with_reducible apply Step.not); exact rfl; exact rfl) | ((with_reducible apply Step.callV fit); exact rfl; exact rfl; exact hf; exact hb; exact rfl; exact (hgx)) | ((with_reducible apply Step.storeR); exact rfl; exact rfl; (focus (decide +kernel)); exact hr; exact hkd; (focus (first | omega | (simp [swp, ms_len]; omega))); exact rfl)) | (with_reducible refine AWo.nil ?_) | ((with_reducible apply AW.seq)) | ((with_reducible apply Then.n)) | ((with_reducible apply AW.regL)) | ((with_reducible apply AW.block)) | ((with_reducible apply InBlk.n)) | ((with_reducible apply AW.skip)) | ((with_reducible apply AW.condT); exact rfl; (focus (first | rfl | (simp only [decide_eq_true_eq, decide_eq_false_iff_not, Bool.not_eq_true', Bool.not_eq_false', Bool.not_true, Bool.not_false]; first | assumption | omega))))))
        refine ⟨_, [(0, .slice (some ⟨r, 0, none⟩) A.length c), (1, .func (.func g) #[] cap), (5, .int .i64 ((K.length + 1 : Nat) : Int)), (6, .int .i64 ((jj + 1 : Nat) : Int))], by omega, (by repeat (first | exact trivial | (refine And.intro rfl ?_))), jj + 1, K ++ [x], M' ++ [x], rfl, by omega, by rw [hfs]; simp, by simp; omega, by simp, by simp, ?_⟩
        rw [hD, ← hset]
    · obtain rfl : jj = A.length := by omega
      rw [List.take_length] at hK
      rw [List.drop_length, List.nil_append]
      have hcl : (K ++ Mid ++ Z).take (0 + K.length * 1) ++ List.replicate (A.length - K.length) 0 ++ (K ++ Mid ++ Z).drop (0 + K.length * 1 + (A.length - K.length)) = K ++ List.replicate (A.length - K.length) 0 ++ Z := by
        rw [Nat.zero_add, Nat.mul_one, show K.length + (A.length - K.length) = (K ++ Mid).length by simp; omega, List.drop_left]
        rw [List.append_assoc K Mid Z, List.take_left]
      have e0 : ((K.length : Nat) : Int) = ((K.length : Nat) : Int) := rfl
      (repeat (first | (with_reducible refine AWo.cons ?_) | ((with_reducible refine Step.id ?_); first | ((with_reducible apply Step.move); exact rfl; exact rfl) | ((with_reducible apply Step.slFrom); exact rfl; exact rfl; exact rfl; (focus (omega)); (focus (omega)); (focus (omega)); exact un27; exact sz3; exact rfl) | ((with_reducible apply Step.lss); exact rfl; exact rfl; exact rfl) | ((with_reducible apply Step.len); exact rfl; (focus (assumption)); (focus (decide +kernel)); exact rfl)) | (with_reducible refine AWo.nil ?_) | ((with_reducible apply AW.seq)) | ((with_reducible apply Then.n)) | ((with_reducible apply AW.regL)) | ((with_reducible apply AW.exit)) | ((with_reducible apply InBlk.hit)) | ((with_reducible apply Then.e)) | ((with_reducible apply AW.condF); exact rfl; (focus ((simp only [decide_eq_true_eq, decide_eq_false_iff_not, Bool.not_eq_true', Bool.not_eq_false', Bool.not_true, Bool.not_false]; first | assumption | omega))))))
      ((with_reducible apply Step.clearR); exact rfl; exact el27; exact hr; exact hkd; (focus (simp; omega)); (focus (omega)); exact hcl)
      (repeat (first | (with_reducible refine AWo.cons ?_) | ((with_reducible refine Step.id ?_); first | ((with_reducible apply Step.move); exact rfl; exact rfl) | ((with_reducible apply Step.assign); exact rfl; exact rfl) | ((with_reducible apply Step.slTo); exact rfl; exact rfl; (focus (assumption)); (focus (omega)); exact un27; exact sz3; exact rfl)) | (with_reducible refine AWo.nil ?_) | ((with_reducible apply AW.seq)) | ((with_reducible apply Then.n)) | ((with_reducible apply AW.regL))))
      (refine AW.ret ?_; (repeat (first | refine Then.r ?_ | refine InBlk.r ?_)))
      rw [← hK]
      exact ⟨_, rfl, rfl, rfl⟩
end
theorem nats_filter (l : List Nat) (q : Nat → Bool) (p : Int → Bool) (h : ∀ x, p (x : Nat) = q x) : (nats l).filter p = nats (l.filter q) := by
  unfold nats
  rw [List.filter_map]
  congr 1
  exact List.filter_congr fun x _ => h x
set_option maxRecDepth 100000 in
theorem same_ok {m : AM} {a : Nat} {x y : Int} (h : Rd m a 0 (.int .i64 x)) : ACall Try.prog 93 #[.int .i64 y, .pointer (some ⟨a, 0, none⟩)] m (Ret (.bool (decide (y = x))) m) := by
  rw [← List.append_nil m] at h
  refine ACall.start Try.func93 rfl rfl ?_
  (repeat (first | (with_reducible refine AWo.cons ?_) | ((with_reducible refine Step.id ?_); first | ((with_reducible apply Step.move); exact rfl; exact rfl) | ((with_reducible apply Step.assign); exact rfl; exact rfl) | ((with_reducible apply Step.load); exact rfl; (focus (decide +kernel)); exact rfl; (focus (assumption))) | ((with_reducible apply Step.eql); exact rfl; exact rfl; exact rfl)) | (with_reducible refine AWo.nil ?_) | ((with_reducible apply AW.seq)) | ((with_reducible apply Then.n)) | ((with_reducible apply AW.regL))))
  (refine AW.retD (l := [(3, _)]) (by repeat (first | exact trivial | (refine And.intro ⟨rfl, by (exact .bool _)⟩ ?_))) ?_; (repeat (first | refine Then.r ?_ | refine InBlk.r ?_)))
  exact ⟨_, rfl, rfl, rfl⟩
/-- A row of ints in a block that is not older than n0. -/
def IntsF (n0 : Nat) (M : AM) (v : Value) (l : List Int) : Prop := ∃ a o, n0 ≤ a ∧ Sl v a o l.length ∧ a < M.length ∧ ∀ k, k < l.length → Rd M a (o + k) (.int .i64 (l.getD k 0))
theorem IntsF.ints {n0 : Nat} {M : AM} {v : Value} {l : List Int} (h : IntsF n0 M v l) : Ints M v l := by
  obtain ⟨a, o, _, h1, h2, h3⟩ := h
  exact ⟨a, o, h1, h2, h3⟩
set_option maxHeartbeats 1000000 in
set_option maxRecDepth 100000 in
theorem without_ok {m : AM} {v : Value} {l : List Nat} {x : Nat} (hl : Ints m v (nats l)) (hlen : l.length ≤ 1000) (hx : x ∈ l) (hn : l.Nodup) : ACall Try.prog 57 #[v, .int .i64 (x : Nat)] m (More (fun M w => IntsF m.length M w (nats (l.erase x))) m) := by
  have hpos : 0 < (nats l).length := by rw [nats_len]; exact List.length_pos_of_mem hx
  have hlc : (nats l).length = l.length := nats_len l
  have herase : (nats l).filter (fun y => !(decide (y = ((x : Nat) : Int)))) = nats (l.erase x) := by
    rw [nats_filter l (fun y => !decide (y = x)) _ fun y => congrArg (!·) (decide_eq_decide.2 (by omega))]
    rw [hn.erase_eq_filter x]
    congr 1
  have hd := delete_ok (m := m ++ [some { cells := [.int .i64 (x : Nat)] }, some { cells := iv (nats l), kind := .grow, size := 1 }]) (r := m.length + 1) (s := 1) (kd := .grow) (A := nats l) (Z := []) (n := (nats l).length) (c := (nats l).length) (g := 93) (cap := #[.pointer (some ⟨m.length + 0, 0, none⟩)]) (fun y => decide (y = ((x : Nat) : Int)))
    (by simp) rfl Try.func93 rfl rfl (Nat.le_refl _) (by omega) (fun row y _ => by
      have := same_ok (m := St (m ++ [some { cells := [.int .i64 (x : Nat)] }, some { cells := iv (nats l), kind := .grow, size := 1 }]) (m.length + 1) .grow 1 row) (a := m.length + 0) (x := (x : Nat)) (y := y) (St.rd_ne (Rd.new rfl rfl) (by omega))
      simpa using this)
  rw [herase, List.append_nil, List.append_nil, St.self (by rw [get_app]; rfl)] at hd
  have hset : St (m ++ [some { cells := [.int .i64 (x : Nat)] }, some { cells := iv (nats l), kind := .grow, size := 1 }]) (m.length + 1) .grow 1 (nats (l.erase x) ++ List.replicate ((nats l).length - (nats (l.erase x)).length) 0) = m ++ [some { cells := [.int .i64 (x : Nat)] }, some { cells := iv (nats (l.erase x) ++ List.replicate ((nats l).length - (nats (l.erase x)).length) 0), kind := .grow, size := 1 }] := by
    unfold St; rw [set_app]; rfl
  rw [hset] at hd
  have hel : (l.erase x).length ≤ l.length := List.length_erase_le
  refine ACall.start Try.func57 rfl rfl ?_
  (repeat (first | (with_reducible refine AWo.cons ?_) | ((with_reducible refine Step.id ?_); first | ((with_reducible apply Step.move); exact rfl; exact rfl) | ((with_reducible apply Step.assign); exact rfl; exact rfl) | ((with_reducible apply Step.fn); exact rfl; exact rfl; exact rfl) | ((with_reducible apply Step.callN fit (k := 1)); exact rfl; exact rfl; exact Try.func92; exact rfl; exact rfl; exact (clone_pos (hl.old _) hpos (by omega)); (focus (first | (simp only [List.nil_append, List.cons_append, List.set_cons_zero, List.set_cons_succ, iv_set, bv_set, iv_rep, bv_rep]; done) | (simp only [List.nil_append, List.cons_append, List.set_cons_zero, List.set_cons_succ, iv_set, bv_set, iv_rep, bv_rep]; rfl) | rfl))) | ((with_reducible apply Step.callM fit); exact rfl; exact Try.func84; exact rfl; exact rfl; exact (hd)) | ((with_reducible apply Step.box 0); exact rfl; exact rfl; (focus (kernel_rfl)); exact rfl; (focus (first | (simp only [List.nil_append, List.cons_append, List.set_cons_zero, List.set_cons_succ, iv_set, bv_set, iv_rep, bv_rep]; done) | (simp only [List.nil_append, List.cons_append, List.set_cons_zero, List.set_cons_succ, iv_set, bv_set, iv_rep, bv_rep]; rfl) | rfl)))) | (with_reducible refine AWo.nil ?_) | ((with_reducible apply AW.seq)) | ((with_reducible apply Then.n)) | ((with_reducible apply AW.regL))))
  (refine AW.ret ?_; (repeat (first | refine Then.r ?_ | refine InBlk.r ?_)))
  exact ⟨_, rfl, _, rfl, ⟨m.length + 1, 0, by omega, Sl.mk (by simp; omega), by simp, fun k hk => Rd.new rfl (by
    rw [Nat.zero_add]
    have := iv_get (l := nats (l.erase x) ++ List.replicate ((nats l).length - (nats (l.erase x)).length) 0) (k := k) (by simp at hk ⊢; omega)
    rw [this, getD_l hk])⟩⟩
end Go.Proofs.Ytajpngnphbdnnaa.Abs
namespace Go.Proofs.Ytajpngnphbdnnaa.Abs
set_option linter.unusedSimpArgs false
set_option linter.unusedVariables false
open Go.RowKit
open Go.Proofs.Ytajpngnphbdnnaa.Sim
/-- Of n new variables those of A are made (slot dk k names the k-th), and those of S filled. -/
structure Mk (n : Nat) (B : AM) (A S : Nat → Bool) (dk : Nat → Nat) (c : Nat → List Value) (z : List Value) (p : Nat → Nat) (t : Fm) (m : AM) : Prop where
  pre : ∃ N, m = B ++ N
  ar : ∀ k, k < n → A k = true → t (dk k) = some (.pointer (some ⟨p k, 0, none⟩)) ∧ B.length ≤ p k ∧ m[p k]? = some (some { cells := cond (S k) (c k) z })
  dj : ∀ j k, j < n → k < n → A j = true → A k = true → p j = p k → j = k
  sa : ∀ k, k < n → S k = true → A k = true
theorem Mk.start (n : Nat) (B : AM) (dk : Nat → Nat) (c : Nat → List Value) (z : List Value) (t : Fm) : Mk n B (fun _ => false) (fun _ => false) dk c z (fun _ => 0) t B :=
  ⟨⟨[], (List.append_nil B).symm⟩, fun _ _ h => (by cases h), fun _ _ _ _ h => (by cases h), fun _ _ h => (by cases h)⟩
section
variable {n : Nat} {B : AM} {A A' S S' : Nat → Bool} {dk : Nat → Nat} {c : Nat → List Value} {z : List Value} {p : Nat → Nat} {t : Fm} {m : AM}
theorem Mk.congr (h : Mk n B A S dk c z p t m) (hA : ∀ k, k < n → A' k = A k) (hS : ∀ k, k < n → S' k = S k) : Mk n B A' S' dk c z p t m :=
  ⟨h.pre, fun k hk ha => by rw [hS k hk]; exact h.ar k hk (by rw [← hA k hk]; exact ha), fun j k hj hk h1 h2 => h.dj j k hj hk (by rw [← hA j hj]; exact h1) (by rw [← hA k hk]; exact h2), fun k hk hs => by rw [hA k hk]; exact h.sa k hk (by rw [← hS k hk]; exact hs)⟩
theorem Mk.slot (h : Mk n B A S dk c z p t m) (d : Nat) (v : Value) (hd : ∀ k, k < n → dk k ≠ d) : Mk n B A S dk c z p (put t d v) m :=
  ⟨h.pre, fun k hk ha => by
    obtain ⟨h1, h2, h3⟩ := h.ar k hk ha
    exact ⟨by rw [put_ne _ _ (hd k hk)]; exact h1, h2, h3⟩, h.dj, h.sa⟩
theorem Mk.alloc (h : Mk n B A S dk c z p t m) {k : Nat} (hk : k < n) (ha : A k = false) (hi : ∀ i j, i < n → j < n → dk i = dk j → i = j) :
    ∃ p', Mk n B (upL A k) S dk c z p' (put t (dk k) (.pointer (some ⟨m.length, 0, none⟩))) (m ++ [some { cells := z }]) := by
  have hs : S k = false := by
    cases e : S k with
    | false => rfl
    | true => rw [h.sa k hk e] at ha; cases ha
  refine ⟨fun i => if i = k then m.length else p i, ?_, fun j hj haj => ?_, fun i j hi' hj hai haj e => ?_, fun j hj hsj => by
    by_cases e : j = k
    · subst e; exact upL_same ..
    · rw [upL_ne A e]; exact h.sa j hj hsj⟩
  · obtain ⟨N, hN⟩ := h.pre
    exact ⟨N ++ [some { cells := z }], by rw [hN, List.append_assoc]⟩
  · by_cases e : j = k
    · subst e
      simp only [if_true]
      refine ⟨put_same .., ?_, by simp [hs]⟩
      obtain ⟨N, hN⟩ := h.pre
      rw [hN]; simp
    · rw [upL_ne A e] at haj
      obtain ⟨h1, h2, h3⟩ := h.ar j hj haj
      simp only [if_neg e]
      exact ⟨by rw [put_ne _ _ fun q => e (hi j k hj hk q)]; exact h1, h2, get_old _ h3⟩
  · by_cases e1 : i = k
    · by_cases e2 : j = k
      · rw [e1, e2]
      · simp only [if_pos e1, if_neg e2] at e
        rw [upL_ne A e2] at haj
        have := (List.getElem?_eq_some_iff.1 (h.ar j hj haj).2.2).1
        omega
    · rw [upL_ne A e1] at hai
      by_cases e2 : j = k
      · simp only [if_neg e1, if_pos e2] at e
        have := (List.getElem?_eq_some_iff.1 (h.ar i hi' hai).2.2).1
        omega
      · simp only [if_neg e1, if_neg e2] at e
        rw [upL_ne A e2] at haj
        exact h.dj i j hi' hj hai haj e
theorem Mk.store (h : Mk n B A S dk c z p t m) {k : Nat} (hk : k < n) (ha : A k = true) : Mk n B A (upL S k) dk c z p t (m.set (p k) (some { cells := c k })) := by
  have hlt := (List.getElem?_eq_some_iff.1 (h.ar k hk ha).2.2).1
  have hge := (h.ar k hk ha).2.1
  refine ⟨?_, fun j hj haj => ?_, h.dj, fun j hj hsj => by
    by_cases e : j = k
    · rw [e]; exact ha
    · rw [upL_ne S e] at hsj; exact h.sa j hj hsj⟩
  · obtain ⟨N, hN⟩ := h.pre
    exact ⟨N.set (p k - B.length) (some { cells := c k }), by rw [hN, List.set_append_right _ _ hge]⟩
  · obtain ⟨h1, h2, h3⟩ := h.ar j hj haj
    refine ⟨h1, h2, ?_⟩
    by_cases e : j = k
    · subst e
      rw [List.getElem?_set_self hlt, upL_same]; rfl
    · rw [upL_ne S e, List.getElem?_set_ne fun q => e (h.dj j k hj hk haj ha q.symm)]
      exact h3
theorem upL_shift (L : Nat → Bool) (a j : Nat) : (fun k => upL L (a + j) (a + k)) = upL (fun k => L (a + k)) j := by
  funext k
  by_cases e : k = j
  · subst e; rw [upL_same, upL_same]
  · rw [upL_ne _ e, upL_ne _ (by omega)]
theorem upL_out (L : Nat → Bool) {a i n : Nat} (h : i < a ∨ a + n ≤ i) : ∀ k, k < n → upL L i (a + k) = L (a + k) := fun k hk => upL_ne _ (by omega)
end
end Go.Proofs.Ytajpngnphbdnnaa.Abs
namespace Go.Proofs.Ytajpngnphbdnnaa.Abs
set_option linter.unusedSimpArgs false
set_option linter.unusedVariables false
open Go.RowKit
open Go.Proofs.Ytajpngnphbdnnaa.Sim
open Go.Proofs
set_option maxRecDepth 100000 in
theorem uright_ok {m : AM} (u : Ru) {b : Bool} (hb : uB u = b) : ACall Try.prog 65 #[u.v] m (Ret (.bool b) m) := by
  subst hb
  have hw := fun L => right_ok (m := m ++ L) u.w rfl
  have hl := fun L => right_ok (m := m ++ L) u.l rfl
  have r0 : ∀ T : AM, RdL (m ++ (some { cells := u.cells } :: T)) (m.length + 0) 0 u.w.cells := fun T => ⟨_, by rw [get_app]; rfl, fun j v hj => by
    rcases j with _ | _ | _ | _ | j <;> first | exact hj | (simp [Gl.cells] at hj)⟩
  have r4 : ∀ T : AM, RdL (m ++ (some { cells := u.cells } :: T)) (m.length + 0) (0 + 4) u.l.cells := fun T => ⟨_, by rw [get_app]; rfl, fun j v hj => by
    rcases j with _ | _ | _ | _ | j <;> first | exact hj | (simp [Gl.cells] at hj)⟩
  unfold uB
  refine ACall.start Try.func65 rfl rfl ?_
  cases h : gB u.w with
  | true =>
    rw [h] at hw
    (repeat (first | (with_reducible refine AWo.cons ?_) | ((with_reducible refine Step.id ?_); first | ((with_reducible apply Step.assign); exact rfl; exact rfl) | ((with_reducible apply Step.field0); exact rfl; (focus (decide +kernel)); exact rfl) | ((with_reducible apply Step.box 0); exact rfl; exact rfl; (focus (kernel_rfl)); exact rfl; (focus (first | (simp only [List.nil_append, List.cons_append, List.set_cons_zero, List.set_cons_succ, iv_set, bv_set, iv_rep, bv_rep]; done) | (simp only [List.nil_append, List.cons_append, List.set_cons_zero, List.set_cons_succ, iv_set, bv_set, iv_rep, bv_rep]; rfl) | rfl)))) | (with_reducible refine AWo.nil ?_) | ((with_reducible apply AW.seq)) | ((with_reducible apply Then.n)) | ((with_reducible apply AW.regL))))
    ((with_reducible apply Step.loadL (n := 4)); exact rfl; (focus (decide +kernel)); (focus (decide +kernel)); exact rfl; exact (r0 _); exact rfl; exact rfl)
    (repeat (first | (with_reducible refine AWo.cons ?_) | ((with_reducible refine Step.id ?_); first | ((with_reducible apply Step.gdT); exact rfl; exact rfl; (focus (rfl))) | ((with_reducible apply Step.move); exact rfl; exact rfl) | ((with_reducible apply Step.assign); exact rfl; exact rfl) | ((with_reducible apply Step.loadL (n := 4)); exact rfl; (focus (decide +kernel)); (focus (decide +kernel)); exact rfl; (focus (exact r4 _)); exact rfl; exact rfl) | ((with_reducible apply Step.field (k := 4)); exact rfl; (focus (decide +kernel)); exact rfl) | ((with_reducible apply Step.pickT); exact rfl; exact rfl; exact rfl; exact rfl; (focus (rfl))) | ((with_reducible apply Step.callR fit); exact rfl; exact Try.func64; exact rfl; exact rfl; exact (hw _)) | ((with_reducible apply Step.callR fit); exact rfl; exact Try.func64; exact rfl; exact rfl; exact (hl _))) | (with_reducible refine AWo.nil ?_) | ((with_reducible apply Then.n))))
    (refine AW.retD (l := [(2, _)]) (by repeat (first | exact trivial | (refine And.intro ⟨rfl, by (exact .bool _)⟩ ?_))) ?_; (repeat (first | refine Then.r ?_ | refine InBlk.r ?_)))
    exact ⟨_, rfl, by simp, rfl⟩
  | false =>
    rw [h] at hw
    (repeat (first | (with_reducible refine AWo.cons ?_) | ((with_reducible refine Step.id ?_); first | ((with_reducible apply Step.assign); exact rfl; exact rfl) | ((with_reducible apply Step.field0); exact rfl; (focus (decide +kernel)); exact rfl) | ((with_reducible apply Step.box 0); exact rfl; exact rfl; (focus (kernel_rfl)); exact rfl; (focus (first | (simp only [List.nil_append, List.cons_append, List.set_cons_zero, List.set_cons_succ, iv_set, bv_set, iv_rep, bv_rep]; done) | (simp only [List.nil_append, List.cons_append, List.set_cons_zero, List.set_cons_succ, iv_set, bv_set, iv_rep, bv_rep]; rfl) | rfl)))) | (with_reducible refine AWo.nil ?_) | ((with_reducible apply AW.seq)) | ((with_reducible apply Then.n)) | ((with_reducible apply AW.regL))))
    ((with_reducible apply Step.loadL (n := 4)); exact rfl; (focus (decide +kernel)); (focus (decide +kernel)); exact rfl; exact (r0 _); exact rfl; exact rfl)
    (repeat (first | (with_reducible refine AWo.cons ?_) | ((with_reducible refine Step.id ?_); first | ((with_reducible apply Step.gdF); exact rfl; exact rfl; (focus (rfl))) | ((with_reducible apply Step.move); exact rfl; exact rfl) | ((with_reducible apply Step.assign); exact rfl; exact rfl) | ((with_reducible apply Step.pickF); exact rfl; exact rfl; exact rfl; exact rfl; (focus (rfl))) | ((with_reducible apply Step.callR fit); exact rfl; exact Try.func64; exact rfl; exact rfl; exact (hw _))) | (with_reducible refine AWo.nil ?_) | ((with_reducible apply Then.n))))
    (refine AW.retD (l := [(2, _)]) (by repeat (first | exact trivial | (refine And.intro ⟨rfl, by (exact .bool _)⟩ ?_))) ?_; (repeat (first | refine Then.r ?_ | refine InBlk.r ?_)))
    exact ⟨_, rfl, by simp, rfl⟩
set_option maxRecDepth 100000 in
theorem wrong_ok {m : AM} (x : Gl) {b : Bool} (hb : (!gB x) = b) : ACall Try.prog 106 #[x.v] m (Ret (.bool b) m) := by
  subst hb
  have hr := fun L => right_ok (m := m ++ L) x rfl
  have r0 : ∀ T : AM, RdL (m ++ (some { cells := x.cells } :: T)) (m.length + 0) 0 x.cells := fun T => RdL.new rfl rfl
  refine ACall.start Try.func106 rfl rfl ?_
  (repeat (first | (with_reducible refine AWo.cons ?_) | ((with_reducible refine Step.id ?_); first | ((with_reducible apply Step.assign); exact rfl; exact rfl) | ((with_reducible apply Step.loadL (n := 4)); exact rfl; (focus (decide +kernel)); (focus (decide +kernel)); exact rfl; (focus (exact RdL.new rfl rfl)); exact rfl; exact rfl) | ((with_reducible apply Step.not); exact rfl; exact rfl) | ((with_reducible apply Step.callR fit); exact rfl; exact Try.func64; exact rfl; exact rfl; exact (hr _)) | ((with_reducible apply Step.box 0); exact rfl; exact rfl; (focus (kernel_rfl)); exact rfl; (focus (first | (simp only [List.nil_append, List.cons_append, List.set_cons_zero, List.set_cons_succ, iv_set, bv_set, iv_rep, bv_rep]; done) | (simp only [List.nil_append, List.cons_append, List.set_cons_zero, List.set_cons_succ, iv_set, bv_set, iv_rep, bv_rep]; rfl) | rfl)))) | (with_reducible refine AWo.nil ?_) | ((with_reducible apply AW.seq)) | ((with_reducible apply Then.n)) | ((with_reducible apply AW.regL))))
  (refine AW.retD (l := [(2, _)]) (by repeat (first | exact trivial | (refine And.intro ⟨rfl, by (exact .bool _)⟩ ?_))) ?_; (repeat (first | refine Then.r ?_ | refine InBlk.r ?_)))
  exact ⟨_, rfl, rfl, rfl⟩
/-- A row of gloves. -/
def Gls (m : AM) (v : Value) (l : List Gl) : Prop := ∃ a o, Sl v a o l.length ∧ a < m.length ∧ ∀ k, k < l.length → RdL m a (o + k * 4) (l.getD k default).cells
theorem Gls.old {m : AM} {v : Value} {l : List Gl} (L : AM) (h : Gls m v l) : Gls (m ++ L) v l := by
  obtain ⟨a, o, h1, h2, h3⟩ := h
  exact ⟨a, o, h1, by simp; omega, fun k hk => (h3 k hk).old L⟩
/-- A valid side. -/
def sB (l : List Gl) : Bool := decide (l.length ≤ 32) && l.all gB
set_option maxRecDepth 100000 in
theorem indexG_ok {m : AM} {v : Value} {j : List Gl} {g : FuncId} {cap : Array Value} {fn : Func} {bd : Code} (hj : Gls m v j) (hf : Try.prog.funcs[g]? = some fn) (hb : fn.body = some bd) (pr : Nat → Bool) (hcap : ∀ N, Ren rid N (.func (.func g) #[] cap) (.func (.func g) #[] cap))
    (hlen : j.length ≤ 100000) (hg : ∀ k, k < j.length → ACall Try.prog g (#[] ++ #[.agg (j.getD k default).cells.toArray] ++ cap) m (Ret (.bool (pr k)) m)) : ACall Try.prog 119 #[v, .func (.func g) #[] cap] m (Ret (.int .i64 (idxF pr j.length)) m) := by
  obtain ⟨a, o, h1, h2, h3⟩ := hj
  refine ACall.start Try.func119 rfl rfl ?_
  (repeat (first | (with_reducible refine AWo.cons ?_) | ((with_reducible refine Step.id ?_); first | ((with_reducible apply Step.move); exact rfl; exact rfl) | ((with_reducible apply Step.assign); exact rfl; exact rfl) | ((with_reducible apply Step.len); exact rfl; (focus (assumption)); (focus (decide +kernel)); exact rfl)) | (with_reducible refine AWo.nil ?_) | ((with_reducible apply AW.seq)) | ((with_reducible apply Then.n)) | ((with_reducible apply AW.regL)) | ((with_reducible apply AW.block))))
  refine AW.loopT (fun n t L => ∃ k : Nat, n = j.length - k ∧ k ≤ j.length ∧ (∀ i, i < k → pr i = false) ∧ L = [] ∧
    t = [(0, v), (1, .func (.func g) #[] cap), (7, .int .i64 (j.length : Nat)), (8, .int .i64 (k : Nat))]) ⟨_, _, _, (Or.inl ⟨rfl, (by repeat (first | exact trivial | (refine And.intro rfl ?_)))⟩), 0, rfl, Nat.zero_le _, by omega, rfl, rfl⟩ ?_
  rintro n t L ⟨k, rfl, hk, hz, rfl, rfl⟩
  rcases Nat.lt_or_ge k j.length with hlt | hge
  · cases hp : pr k with
    | true =>
      have hgk := hg k hlt
      rw [hp] at hgk
      (repeat (first | (with_reducible refine AWo.cons ?_) | ((with_reducible refine Step.id ?_); first | ((with_reducible apply Step.move); exact rfl; exact rfl) | ((with_reducible apply Step.assign); exact rfl; exact rfl) | ((with_reducible apply Step.loadL (n := 4)); exact rfl; (focus (decide +kernel)); (focus (decide +kernel)); exact rfl; (focus (exact RdL.old _ (h3 _ hlt))); exact rfl; exact rfl) | ((with_reducible apply Step.ix (s := 4)); exact rfl; (focus (assumption)); exact rfl; (focus (decide +kernel)); exact rfl; (focus (omega))) | ((with_reducible apply Step.lss); exact rfl; exact rfl; exact rfl) | ((with_reducible apply Step.callV fit); exact rfl; exact rfl; exact hf; exact hb; exact rfl; exact ((by rw [List.append_nil]; exact hgk)))) | (with_reducible refine AWo.nil ?_) | ((with_reducible apply AW.seq)) | ((with_reducible apply Then.n)) | ((with_reducible apply AW.regL)) | ((with_reducible apply AW.block)) | ((with_reducible apply AW.skip)) | ((with_reducible apply AW.condT); exact rfl; (focus (first | rfl | (simp only [decide_eq_true_eq, decide_eq_false_iff_not, Bool.not_eq_true', Bool.not_eq_false', Bool.not_true, Bool.not_false]; first | assumption | omega))))))
      (refine AW.retD (l := [(4, _)]) (by repeat (first | exact trivial | (refine And.intro ⟨rfl, by (exact .int _ _)⟩ ?_))) ?_; (repeat (first | refine Then.r ?_ | refine InBlk.r ?_)))
      exact ⟨_, rfl, by rw [idxF_hit hlt hz hp], rfl⟩
    | false =>
      have hgk := hg k hlt
      rw [hp] at hgk
      (repeat (first | (with_reducible refine AWo.cons ?_) | ((with_reducible refine Step.id ?_); first | ((with_reducible apply Step.move); exact rfl; exact rfl) | ((with_reducible apply Step.assign); exact rfl; exact rfl) | ((with_reducible apply Step.loadL (n := 4)); exact rfl; (focus (decide +kernel)); (focus (decide +kernel)); exact rfl; (focus (exact RdL.old _ (h3 _ hlt))); exact rfl; exact rfl) | ((with_reducible apply Step.ix (s := 4)); exact rfl; (focus (assumption)); exact rfl; (focus (decide +kernel)); exact rfl; (focus (omega))) | ((with_reducible apply Step.add); exact rfl; exact rfl; (focus (omega)); exact rfl) | ((with_reducible apply Step.lss); exact rfl; exact rfl; exact rfl) | ((with_reducible apply Step.callV fit); exact rfl; exact rfl; exact hf; exact hb; exact rfl; exact ((by rw [List.append_nil]; exact hgk)))) | (with_reducible refine AWo.nil ?_) | ((with_reducible apply AW.seq)) | ((with_reducible apply Then.n)) | ((with_reducible apply AW.regL)) | ((with_reducible apply AW.block)) | ((with_reducible apply InBlk.n)) | ((with_reducible apply AW.skip)) | ((with_reducible apply AW.condT); exact rfl; (focus ((simp only [decide_eq_true_eq, decide_eq_false_iff_not, Bool.not_eq_true', Bool.not_eq_false', Bool.not_true, Bool.not_false]; first | assumption | omega)))) | ((with_reducible apply AW.condF); exact rfl; (focus (rfl)))))
      exact ⟨_, _, _, by omega, (Or.inl ⟨rfl, (by repeat (first | exact trivial | (refine And.intro rfl ?_)))⟩), k + 1, rfl, by omega, fun i hi => by rcases Nat.lt_succ_iff_lt_or_eq.1 hi with h | h; exact hz i h; rw [h]; exact hp, rfl, rfl⟩
  · (repeat (first | (with_reducible refine AWo.cons ?_) | ((with_reducible refine Step.id ?_); first | ((with_reducible apply Step.assign); exact rfl; exact rfl) | ((with_reducible apply Step.lss); exact rfl; exact rfl; exact rfl)) | (with_reducible refine AWo.nil ?_) | ((with_reducible apply AW.seq)) | ((with_reducible apply Then.n)) | ((with_reducible apply AW.regL)) | ((with_reducible apply AW.exit)) | ((with_reducible apply InBlk.hit)) | ((with_reducible apply Then.e)) | ((with_reducible apply AW.condF); exact rfl; (focus ((simp only [decide_eq_true_eq, decide_eq_false_iff_not, Bool.not_eq_true', Bool.not_eq_false', Bool.not_true, Bool.not_false]; first | assumption | omega))))))
    obtain rfl : k = j.length := by omega
    (refine AW.retD (l := [(4, _)]) (by repeat (first | exact trivial | (refine And.intro ⟨rfl, by (exact .int _ _)⟩ ?_))) ?_; (repeat (first | refine Then.r ?_ | refine InBlk.r ?_)))
    exact ⟨_, rfl, by rw [idxF_miss hz], rfl⟩
set_option maxRecDepth 100000 in
theorem containsG_ok {m : AM} {v : Value} {j : List Gl} {g : FuncId} {cap : Array Value} {fn : Func} {bd : Code} (hj : Gls m v j) (hf : Try.prog.funcs[g]? = some fn) (hb : fn.body = some bd) (pr : Nat → Bool) (hcap : ∀ N, Ren rid N (.func (.func g) #[] cap) (.func (.func g) #[] cap))
    (hlen : j.length ≤ 100000) (hg : ∀ k, k < j.length → ACall Try.prog g (#[] ++ #[.agg (j.getD k default).cells.toArray] ++ cap) m (Ret (.bool (pr k)) m)) : ACall Try.prog 105 #[v, .func (.func g) #[] cap] m (Ret (.bool ((List.range j.length).any pr)) m) := by
  refine ACall.start Try.func105 rfl rfl ?_
  (repeat (first | (with_reducible refine AWo.cons ?_) | ((with_reducible refine Step.id ?_); first | ((with_reducible apply Step.move); exact rfl; exact rfl) | ((with_reducible apply Step.assign); exact rfl; exact rfl) | ((with_reducible apply Step.geq); exact rfl; exact rfl; exact rfl) | ((with_reducible apply Step.callR fit); exact rfl; exact Try.func119; exact rfl; exact rfl; exact ((by rw [List.append_nil]; exact indexG_ok hj hf hb pr hcap hlen hg)))) | (with_reducible refine AWo.nil ?_) | ((with_reducible apply AW.seq)) | ((with_reducible apply Then.n)) | ((with_reducible apply AW.regL))))
  (refine AW.retD (l := [(4, _)]) (by repeat (first | exact trivial | (refine And.intro ⟨rfl, by (exact .bool _)⟩ ?_))) ?_; (repeat (first | refine Then.r ?_ | refine InBlk.r ?_)))
  exact ⟨_, rfl, by rw [idxF_any], rfl⟩
set_option maxRecDepth 100000 in
theorem side_ok {m : AM} {v : Value} {j : List Gl} (hj : Gls m v j) (hlen : j.length ≤ 100000) {b : Bool} (hb : sB j = b) : ACall Try.prog 87 #[v] m (Ret (.bool b) m) := by
  subst hb
  obtain ⟨a, o, h1, h2, h3⟩ := id hj
  have hany : (List.range j.length).any (fun k => !gB (j.getD k default)) = !j.all gB := by
    rw [Bool.eq_iff_iff]
    simp only [List.any_eq_true, List.mem_range, Bool.not_eq_true', List.all_eq_false]
    constructor
    · rintro ⟨k, hk, e⟩; exact ⟨j[k], List.getElem_mem hk, by simpa [hk] using e⟩
    · rintro ⟨x, hx, e⟩
      obtain ⟨k, hk, rfl⟩ := List.getElem_of_mem hx
      exact ⟨k, hk, by simpa [hk] using e⟩
  refine ACall.start Try.func87 rfl rfl ?_
  by_cases h : (j.length : Int) ≤ 32
  · (repeat (first | (with_reducible refine AWo.cons ?_) | ((with_reducible refine Step.id ?_); first | ((with_reducible apply Step.gdT); exact rfl; exact rfl; (focus ((simp only [decide_eq_true_eq, decide_eq_false_iff_not, Bool.not_eq_true', Bool.not_eq_false', Bool.not_true, Bool.not_false]; first | assumption | omega)))) | ((with_reducible apply Step.move); exact rfl; exact rfl) | ((with_reducible apply Step.assign); exact rfl; exact rfl) | ((with_reducible apply Step.leq); exact rfl; exact rfl; exact rfl) | ((with_reducible apply Step.len); exact rfl; (focus (assumption)); (focus (decide +kernel)); exact rfl) | ((with_reducible apply Step.not); exact rfl; exact rfl) | ((with_reducible apply Step.pickT); exact rfl; exact rfl; exact rfl; exact rfl; (focus ((simp only [decide_eq_true_eq, decide_eq_false_iff_not, Bool.not_eq_true', Bool.not_eq_false', Bool.not_true, Bool.not_false]; first | assumption | omega)))) | ((with_reducible apply Step.callR fit); exact rfl; exact Try.func105; exact rfl; exact rfl; exact ((by rw [List.append_nil]; exact containsG_ok hj Try.func106 rfl (fun k => !gB (j.getD k default)) (fun _ => Ren.of_g0 rfl) hlen (fun k hk => wrong_ok _ rfl))))) | (with_reducible refine AWo.nil ?_) | ((with_reducible apply AW.seq)) | ((with_reducible apply Then.n)) | ((with_reducible apply AW.regL))))
    (refine AW.retD (l := [(2, _)]) (by repeat (first | exact trivial | (refine And.intro ⟨rfl, by (exact .bool _)⟩ ?_))) ?_; (repeat (first | refine Then.r ?_ | refine InBlk.r ?_)))
    exact ⟨_, rfl, by rw [hany]; simp [sB]; omega, rfl⟩
  · (repeat (first | (with_reducible refine AWo.cons ?_) | ((with_reducible refine Step.id ?_); first | ((with_reducible apply Step.gdF); exact rfl; exact rfl; (focus ((simp only [decide_eq_true_eq, decide_eq_false_iff_not, Bool.not_eq_true', Bool.not_eq_false', Bool.not_true, Bool.not_false]; first | assumption | omega)))) | ((with_reducible apply Step.move); exact rfl; exact rfl) | ((with_reducible apply Step.assign); exact rfl; exact rfl) | ((with_reducible apply Step.leq); exact rfl; exact rfl; exact rfl) | ((with_reducible apply Step.len); exact rfl; (focus (assumption)); (focus (decide +kernel)); exact rfl) | ((with_reducible apply Step.pickF); exact rfl; exact rfl; exact rfl; exact rfl; (focus ((simp only [decide_eq_true_eq, decide_eq_false_iff_not, Bool.not_eq_true', Bool.not_eq_false', Bool.not_true, Bool.not_false]; first | assumption | omega))))) | (with_reducible refine AWo.nil ?_) | ((with_reducible apply AW.seq)) | ((with_reducible apply Then.n)) | ((with_reducible apply AW.regL))))
    (refine AW.retD (l := [(2, _)]) (by repeat (first | exact trivial | (refine And.intro ⟨rfl, by (exact .bool _)⟩ ?_))) ?_; (repeat (first | refine Then.r ?_ | refine InBlk.r ?_)))
    exact ⟨_, rfl, by simp [sB]; omega, rfl⟩
/-- How much two gloves differ in a measure. -/
def df (x y : Gl) (k : Nat) : Int := max (x.g k - y.g k) (y.g k - x.g k)
def cst (u : Ru) (x y : Gl) : Nat → Option Int
  | 0 => some 0
  | k + 1 => match cst u x y k with
    | none => none
    | some s => if u.l.g k < df x y k then none else some (s + df x y k * u.w.g k)
/-- What a pair costs; -1 where it is not allowed. -/
def costF (u : Ru) (x y : Gl) : Int := match cst u x y 4 with
  | some s => s
  | none => -1
theorem df_bd {x y : Gl} (hx : gB x = true) (hy : gB y = true) {k : Nat} (hk : k < 4) : 0 ≤ df x y k ∧ df x y k ≤ 1000 := by
  have := gB_iff.1 hx k hk
  have := gB_iff.1 hy k hk
  unfold df; omega
theorem mul_bd {a b : Int} (ha : 0 ≤ a ∧ a ≤ 1000) (hb : 0 ≤ b ∧ b ≤ 1000) : 0 ≤ a * b ∧ a * b ≤ 1000000 :=
  ⟨Int.mul_nonneg ha.1 hb.1, by have := Int.mul_le_mul ha.2 hb.2 hb.1 (by omega); omega⟩
theorem cst_bd {u : Ru} {x y : Gl} (hu : gB u.w = true) (hx : gB x = true) (hy : gB y = true) : ∀ {k : Nat} {s : Int}, k ≤ 4 → cst u x y k = some s → 0 ≤ s ∧ s ≤ 1000000 * k
  | 0, s, _, h => by simp only [cst] at h; injection h with h; omega
  | k + 1, s, hk, h => by
    simp only [cst] at h
    cases hc : cst u x y k with
    | none => rw [hc] at h; cases h
    | some s0 =>
      rw [hc] at h
      simp only at h
      split at h
      · cases h
      · injection h with h
        have := cst_bd hu hx hy (k := k) (by omega) hc
        have := mul_bd (df_bd hx hy (show k < 4 by omega)) (gB_iff.1 hu k (by omega))
        omega
theorem cst_none {u : Ru} {x y : Gl} {k : Nat} (h : cst u x y k = none) : ∀ n, cst u x y (k + n) = none
  | 0 => h
  | n + 1 => by show cst u x y (k + n + 1) = none; simp only [cst]; rw [cst_none h n]
theorem costF_bd {u : Ru} {x y : Gl} (hu : gB u.w = true) (hx : gB x = true) (hy : gB y = true) : -1 ≤ costF u x y ∧ costF u x y ≤ 4000000 := by
  unfold costF
  cases h : cst u x y 4 with
  | none => simp
  | some s => have := cst_bd hu hx hy (Nat.le_refl 4) h; simp only; omega
def c2 (x y : Gl) : Nat → List Value
  | 0 => x.cells
  | _ => y.cells
def zG : List Value := [.int .i64 0, .int .i64 0, .int .i64 0, .int .i64 0]
set_option maxHeartbeats 4000000 in
set_option maxRecDepth 100000 in
theorem cost_ok {m : AM} (u : Ru) (x y : Gl) (hw : gB u.w = true) (hl : gB u.l = true) (hx : gB x = true) (hy : gB y = true) {c : Int} (hc : costF u x y = c) : ACall Try.prog 66 #[u.v, x.v, y.v] m (Ret (.int .i64 c) m) := by
  subst hc
  have m1 := fun L => measures_ok (m := m ++ L) x
  have m2 := fun L => measures_ok (m := m ++ L) y
  have m3 := fun L => measures_ok (m := m ++ L) u.w
  have m4 := fun L => measures_ok (m := m ++ L) u.l
  have r0 : ∀ (T : AM), RdL (m ++ (some { cells := u.cells } :: T)) (m.length + 0) 0 u.w.cells := fun T => ⟨_, by rw [get_app]; rfl, fun j v hj => by
    rcases j with _ | _ | _ | _ | j <;> first | exact hj | (simp [Gl.cells] at hj)⟩
  have r4 : ∀ (T : AM), RdL (m ++ (some { cells := u.cells } :: T)) (m.length + 0) (0 + 4) u.l.cells := fun T => ⟨_, by rw [get_app]; rfl, fun j v hj => by
    rcases j with _ | _ | _ | _ | j <;> first | exact hj | (simp [Gl.cells] at hj)⟩
  refine ACall.drop (Ren.of_g0 rfl) ?_
  refine ACall.start Try.func66 rfl rfl ?_
  (repeat (first | (with_reducible refine AWo.cons ?_) | ((with_reducible refine Step.id ?_); first | ((with_reducible apply Step.assign); exact rfl; exact rfl) | ((with_reducible apply Step.box 0); exact rfl; exact rfl; (focus (kernel_rfl)); exact rfl; (focus (first | (simp only [List.nil_append, List.cons_append, List.set_cons_zero, List.set_cons_succ, iv_set, bv_set, iv_rep, bv_rep]; done) | (simp only [List.nil_append, List.cons_append, List.set_cons_zero, List.set_cons_succ, iv_set, bv_set, iv_rep, bv_rep]; rfl) | rfl))) | ((with_reducible apply Step.box 1); exact rfl; exact rfl; (focus (kernel_rfl)); exact rfl; (focus (first | (simp only [List.nil_append, List.cons_append, List.set_cons_zero, List.set_cons_succ, iv_set, bv_set, iv_rep, bv_rep]; done) | (simp only [List.nil_append, List.cons_append, List.set_cons_zero, List.set_cons_succ, iv_set, bv_set, iv_rep, bv_rep]; rfl) | rfl))) | ((with_reducible apply Step.box 2); exact rfl; exact rfl; (focus (kernel_rfl)); exact rfl; (focus (first | (simp only [List.nil_append, List.cons_append, List.set_cons_zero, List.set_cons_succ, iv_set, bv_set, iv_rep, bv_rep]; done) | (simp only [List.nil_append, List.cons_append, List.set_cons_zero, List.set_cons_succ, iv_set, bv_set, iv_rep, bv_rep]; rfl) | rfl)))) | (with_reducible refine AWo.nil ?_) | ((fail_if_success (with_reducible refine AW.atR (id := 1) ?_)); ((with_reducible apply AW.seq))) | ((with_reducible apply Then.n)) | ((with_reducible apply AW.regL))))
  refine AW.seq ?_
  refine AW.anyI fit (fun L t m' => (∃ p, Mk 2 (m ++ [some { cells := u.cells }, some { cells := x.cells }, some { cells := y.cells }]) (fun k => L (4 + k)) (fun k => L (6 + k)) (fun k => 7 + k) (c2 x y) zG p t m') ∧
    t 3 = some (.pointer (some ⟨m.length + 0, 0, none⟩)) ∧ t 4 = some (.pointer (some ⟨m.length + 1, 0, none⟩)) ∧ t 5 = some (.pointer (some ⟨m.length + 2, 0, none⟩)) ∧ t 6 = some (.int .i64 0) ∧
    (L 0 = true → t 14 = some x.v) ∧ (L 1 = true → t 15 = some x.v) ∧ (L 2 = true → t 16 = some y.v) ∧ (L 3 = true → t 17 = some y.v)) (by decide +kernel) ?_ ?_ ?_
  · exact ⟨⟨_, Mk.start ..⟩, rfl, rfl, rfl, rfl, fun h => (by cases h), fun h => (by cases h), fun h => (by cases h), fun h => (by cases h)⟩
  · intro i o ho L t m' hI hLi hdep
    obtain ⟨⟨p, hp⟩, q3, q4, q5, q6, s0, s1, s2, s3⟩ := hI
    obtain ⟨N, rfl⟩ := hp.pre
    have hd : ∀ d, (d < 7 ∨ 9 ≤ d) → ∀ k, k < 2 → 7 + k ≠ d := fun d h k hk => by omega
    rcases i with _ | _ | _ | _ | _ | _ | _ | _ | i
    · injection ho with ho; subst ho
      exact Step.loadL (n := 4) q4 (by decide +kernel) (by decide +kernel) rfl ((RdL.new rfl rfl : RdL _ _ 0 x.cells).old N) rfl rfl ⟨⟨p, (hp.slot 14 _ (hd 14 (by omega))).congr (upL_out L (by omega)) (upL_out L (by omega))⟩, q3, q4, q5, q6, fun _ => rfl, s1, s2, s3⟩
    · injection ho with ho; subst ho
      have d0 := s0 (hdep 0 (by decide))
      exact Step.callR fit (vs := [x.v]) (by simp [evL, evo, d0]) Try.func95 rfl rfl (measures_ok x) ⟨⟨p, (hp.slot 15 _ (hd 15 (by omega))).congr (upL_out L (by omega)) (upL_out L (by omega))⟩, q3, q4, q5, q6, s0, fun _ => rfl, s2, s3⟩
    · injection ho with ho; subst ho
      exact Step.loadL (n := 4) q5 (by decide +kernel) (by decide +kernel) rfl ((RdL.new rfl rfl : RdL _ _ 0 y.cells).old N) rfl rfl ⟨⟨p, (hp.slot 16 _ (hd 16 (by omega))).congr (upL_out L (by omega)) (upL_out L (by omega))⟩, q3, q4, q5, q6, s0, s1, fun _ => rfl, s3⟩
    · injection ho with ho; subst ho
      have d2 := s2 (hdep 2 (by decide))
      exact Step.callR fit (vs := [y.v]) (by simp [evL, evo, d2]) Try.func95 rfl rfl (measures_ok y) ⟨⟨p, (hp.slot 17 _ (hd 17 (by omega))).congr (upL_out L (by omega)) (upL_out L (by omega))⟩, q3, q4, q5, q6, s0, s1, s2, fun _ => rfl⟩
    · injection ho with ho; subst ho
      obtain ⟨p', hp'⟩ := hp.alloc (k := 0) (by omega) hLi (fun i j _ _ h => by omega)
      exact Step.allocG ze113 rfl ⟨⟨p', hp'.congr (fun k _ => congrFun (upL_shift L 4 0) k) (upL_out L (by omega))⟩, q3, q4, q5, q6, s0, s1, s2, s3⟩
    · injection ho with ho; subst ho
      obtain ⟨p', hp'⟩ := hp.alloc (k := 1) (by omega) hLi (fun i j _ _ h => by omega)
      exact Step.allocG ze113 rfl ⟨⟨p', hp'.congr (fun k _ => congrFun (upL_shift L 4 1) k) (upL_out L (by omega))⟩, q3, q4, q5, q6, s0, s1, s2, s3⟩
    · injection ho with ho; subst ho
      have d := s1 (hdep 1 (by decide))
      have hA := hdep 4 (by decide)
      obtain ⟨e1, e2, e3⟩ := hp.ar 0 (by omega) hA
      exact Step.storeG (n := 4) e1 d e3 rfl (by decide +kernel) rfl (by kernel_rfl) (by cases L (6 + 0) <;> rfl) ⟨⟨p, (hp.store (k := 0) (by omega) hA).congr (upL_out L (by omega)) (fun k _ => congrFun (upL_shift L 6 0) k)⟩, q3, q4, q5, q6, s0, s1, s2, s3⟩
    · injection ho with ho; subst ho
      have d := s3 (hdep 3 (by decide))
      have hA := hdep 5 (by decide)
      obtain ⟨e1, e2, e3⟩ := hp.ar 1 (by omega) hA
      exact Step.storeG (n := 4) e1 d e3 rfl (by decide +kernel) rfl (by kernel_rfl) (by cases L (6 + 1) <;> rfl) ⟨⟨p, (hp.store (k := 1) (by omega) hA).congr (upL_out L (by omega)) (fun k _ => congrFun (upL_shift L 6 1) k)⟩, q3, q4, q5, q6, s0, s1, s2, s3⟩
    · simp at ho
  · intro L t m' hall hI
    obtain ⟨⟨p, hp⟩, q3, q4, q5, q6, _⟩ := hI
    have hA : ∀ k, k < 2 → L (4 + k) = true := fun k hk => hall _ (by simp; omega)
    have hS : ∀ k, k < 2 → L (6 + k) = true := fun k hk => hall _ (by simp; omega)
    obtain ⟨a1, a2, a3⟩ := hp.ar 0 (by omega) (hA 0 (by omega))
    obtain ⟨b1, b2, b3⟩ := hp.ar 1 (by omega) (hA 1 (by omega))
    simp only [hS 0 (by omega), hS 1 (by omega), cond_true] at a3 b3
    obtain ⟨N, hN⟩ := hp.pre
    clear hp hA hS hall
    generalize p 0 = p7 at *
    generalize p 1 = p8 at *
    have h7 : RdL m' p7 0 x.cells := ⟨_, a3, fun j v hj => by rw [Nat.zero_add]; exact hj⟩
    have h8 : RdL m' p8 0 y.cells := ⟨_, b3, fun j v hj => by rw [Nat.zero_add]; exact hj⟩
    have r0' : RdL m' (m.length + 0) 0 u.w.cells := by rw [hN]; exact (r0 _).old N
    have r4' : RdL m' (m.length + 0) (0 + 4) u.l.cells := by rw [hN]; exact (r4 _).old N
    have hpre : ∃ N, m' = m ++ N := ⟨_, by rw [hN, List.append_assoc]⟩
    have hw8 : p8 < m'.length := (List.getElem?_eq_some_iff.1 b3).1
    clear a2 a3 b2 b3 hN
    refine AW.weak (fr_all (l := [(3, .pointer (some ⟨m.length + 0, 0, none⟩)), (6, .int .i64 0), (7, .pointer (some ⟨p7, 0, none⟩)), (8, .pointer (some ⟨p8, 0, none⟩))]) ⟨q3, q6, a1, b1, trivial⟩) ?_
    generalize m.length + 0 = x3 at *
    clear q3 q4 q5 q6 a1 b1 r0 r4 m1 m2 m3 m4
    refine AW.seq ?_
    refine AW.anyI fit (fun L t m2 => (∃ p, Mk 2 m' (fun k => L (6 + k)) (fun k => L (8 + k)) (fun k => 9 + k) (c2 u.w u.l) zG p t m2) ∧
      t 3 = some (.pointer (some ⟨x3, 0, none⟩)) ∧ t 6 = some (.int .i64 0) ∧ t 7 = some (.pointer (some ⟨p7, 0, none⟩)) ∧ t 8 = some (.pointer (some ⟨p8, 0, none⟩)) ∧
      (L 0 = true → t 18 = some (.pointer (some ⟨x3, 0, none⟩))) ∧ (L 1 = true → t 19 = some u.w.v) ∧ (L 2 = true → t 20 = some u.w.v) ∧ (L 3 = true → t 21 = some (.pointer (some ⟨x3, 0 + 4, none⟩))) ∧ (L 4 = true → t 22 = some u.l.v) ∧ (L 5 = true → t 23 = some u.l.v)) (by decide +kernel) ?_ ?_ ?_
    · exact ⟨⟨_, Mk.start ..⟩, rfl, rfl, rfl, rfl, fun h => (by cases h), fun h => (by cases h), fun h => (by cases h), fun h => (by cases h), fun h => (by cases h), fun h => (by cases h)⟩
    · intro i o ho L t m2 hI hLi hdep
      obtain ⟨⟨p, hp⟩, q3, q6, q7, q8, s0, s1, s2, s3, s4, s5⟩ := hI
      obtain ⟨N, rfl⟩ := hp.pre
      have hd : ∀ d, (d < 9 ∨ 11 ≤ d) → ∀ k, k < 2 → 9 + k ≠ d := fun d h k hk => by omega
      rcases i with _ | _ | _ | _ | _ | _ | _ | _ | _ | _ | i
      · injection ho with ho; subst ho
        exact Step.field0 q3 (by decide +kernel) rfl ⟨⟨p, (hp.slot 18 _ (hd 18 (by omega))).congr (upL_out L (by omega)) (upL_out L (by omega))⟩, q3, q6, q7, q8, fun _ => rfl, s1, s2, s3, s4, s5⟩
      · injection ho with ho; subst ho
        have d := s0 (hdep 0 (by decide))
        exact Step.loadL (n := 4) d (by decide +kernel) (by decide +kernel) rfl (r0'.old N) rfl rfl ⟨⟨p, (hp.slot 19 _ (hd 19 (by omega))).congr (upL_out L (by omega)) (upL_out L (by omega))⟩, q3, q6, q7, q8, s0, fun _ => rfl, s2, s3, s4, s5⟩
      · injection ho with ho; subst ho
        have d := s1 (hdep 1 (by decide))
        exact Step.callR fit (vs := [u.w.v]) (by simp [evL, evo, d]) Try.func95 rfl rfl (measures_ok u.w) ⟨⟨p, (hp.slot 20 _ (hd 20 (by omega))).congr (upL_out L (by omega)) (upL_out L (by omega))⟩, q3, q6, q7, q8, s0, s1, fun _ => rfl, s3, s4, s5⟩
      · injection ho with ho; subst ho
        exact Step.field (k := 4) q3 (by decide +kernel) rfl ⟨⟨p, (hp.slot 21 _ (hd 21 (by omega))).congr (upL_out L (by omega)) (upL_out L (by omega))⟩, q3, q6, q7, q8, s0, s1, s2, fun _ => rfl, s4, s5⟩
      · injection ho with ho; subst ho
        have d := s3 (hdep 3 (by decide))
        exact Step.loadL (n := 4) d (by decide +kernel) (by decide +kernel) rfl (r4'.old N) rfl rfl ⟨⟨p, (hp.slot 22 _ (hd 22 (by omega))).congr (upL_out L (by omega)) (upL_out L (by omega))⟩, q3, q6, q7, q8, s0, s1, s2, s3, fun _ => rfl, s5⟩
      · injection ho with ho; subst ho
        have d := s4 (hdep 4 (by decide))
        exact Step.callR fit (vs := [u.l.v]) (by simp [evL, evo, d]) Try.func95 rfl rfl (measures_ok u.l) ⟨⟨p, (hp.slot 23 _ (hd 23 (by omega))).congr (upL_out L (by omega)) (upL_out L (by omega))⟩, q3, q6, q7, q8, s0, s1, s2, s3, s4, fun _ => rfl⟩
      · injection ho with ho; subst ho
        obtain ⟨p', hp'⟩ := hp.alloc (k := 0) (by omega) hLi (fun i j _ _ h => by omega)
        exact Step.allocG ze113 rfl ⟨⟨p', hp'.congr (fun k _ => congrFun (upL_shift L 6 0) k) (upL_out L (by omega))⟩, q3, q6, q7, q8, s0, s1, s2, s3, s4, s5⟩
      · injection ho with ho; subst ho
        obtain ⟨p', hp'⟩ := hp.alloc (k := 1) (by omega) hLi (fun i j _ _ h => by omega)
        exact Step.allocG ze113 rfl ⟨⟨p', hp'.congr (fun k _ => congrFun (upL_shift L 6 1) k) (upL_out L (by omega))⟩, q3, q6, q7, q8, s0, s1, s2, s3, s4, s5⟩
      · injection ho with ho; subst ho
        have d := s2 (hdep 2 (by decide))
        have hA := hdep 6 (by decide)
        obtain ⟨e1, e2, e3⟩ := hp.ar 0 (by omega) hA
        exact Step.storeG (n := 4) e1 d e3 rfl (by decide +kernel) rfl (by kernel_rfl) (by cases L (8 + 0) <;> rfl) ⟨⟨p, (hp.store (k := 0) (by omega) hA).congr (upL_out L (by omega)) (fun k _ => congrFun (upL_shift L 8 0) k)⟩, q3, q6, q7, q8, s0, s1, s2, s3, s4, s5⟩
      · injection ho with ho; subst ho
        have d := s5 (hdep 5 (by decide))
        have hA := hdep 7 (by decide)
        obtain ⟨e1, e2, e3⟩ := hp.ar 1 (by omega) hA
        exact Step.storeG (n := 4) e1 d e3 rfl (by decide +kernel) rfl (by kernel_rfl) (by cases L (8 + 1) <;> rfl) ⟨⟨p, (hp.store (k := 1) (by omega) hA).congr (upL_out L (by omega)) (fun k _ => congrFun (upL_shift L 8 1) k)⟩, q3, q6, q7, q8, s0, s1, s2, s3, s4, s5⟩
      · simp at ho
    · intro L t m2 hall hI
      obtain ⟨⟨p, hp⟩, q3, q6, q7, q8, _⟩ := hI
      have hA : ∀ k, k < 2 → L (6 + k) = true := fun k hk => hall _ (by simp; omega)
      have hS : ∀ k, k < 2 → L (8 + k) = true := fun k hk => hall _ (by simp; omega)
      obtain ⟨a1, a2, a3⟩ := hp.ar 0 (by omega) (hA 0 (by omega))
      obtain ⟨b1, b2, b3⟩ := hp.ar 1 (by omega) (hA 1 (by omega))
      simp only [hS 0 (by omega), hS 1 (by omega), cond_true] at a3 b3
      obtain ⟨N, hN⟩ := hp.pre
      have hpre2 : ∃ N, m2 = m ++ N := by obtain ⟨N', hN'⟩ := hpre; exact ⟨N' ++ N, by rw [hN, hN', List.append_assoc]⟩
      have rd : ∀ (q : Nat) (z : Gl), RdL m2 q 0 z.cells → ∀ k, k < 4 → ∀ T, Rd (m2 ++ T) q (0 + k * 1) (.int .i64 (z.g k)) := fun q z h k hk T => by
        have := (h.old T).at_ k (v := .int .i64 (z.g k)) (by rcases k with _ | _ | _ | _ | k <;> first | rfl | omega)
        rwa [Nat.mul_one]
      have h7' := rd p7 x (by rw [hN]; exact h7.old N)
      have h8' := rd p8 y (by rw [hN]; exact h8.old N)
      have h9' := rd (p 0) u.w ⟨_, a3, fun j v hj => by rw [Nat.zero_add]; exact hj⟩
      have h10' := rd (p 1) u.l ⟨_, b3, fun j v hj => by rw [Nat.zero_add]; exact hj⟩
      clear hp hA hS hall h7 h8 r0' r4' hpre hN rd a2 a3 b2 b3
      generalize p 0 = p9 at *
      generalize p 1 = p10 at *
      refine AW.weak (fr_all (l := [(6, .int .i64 0), (7, .pointer (some ⟨p7, 0, none⟩)), (8, .pointer (some ⟨p8, 0, none⟩)), (9, .pointer (some ⟨p9, 0, none⟩)), (10, .pointer (some ⟨p10, 0, none⟩))]) ⟨q6, q7, q8, a1, b1, trivial⟩) ?_
      clear q3 q6 q7 q8 a1 b1
      refine AW.rebase ?_
      (repeat (first | (with_reducible refine AWo.cons ?_) | ((with_reducible refine Step.id ?_); first | ((with_reducible apply Step.move); exact rfl; exact rfl) | ((with_reducible apply Step.assign); exact rfl; exact rfl)) | (with_reducible refine AWo.nil ?_) | ((with_reducible apply AW.seq)) | ((with_reducible apply Then.n)) | ((with_reducible apply AW.regL)) | ((with_reducible apply AW.block))))
      refine AW.loopT (fun rk t L' => ∃ (k : Nat) (s : Int), rk = 4 - k ∧ k ≤ 4 ∧ cst u x y k = some s ∧ L' = [] ∧
        t = [(6, .int .i64 0), (7, .pointer (some ⟨p7, 0, none⟩)), (8, .pointer (some ⟨p8, 0, none⟩)), (9, .pointer (some ⟨p9, 0, none⟩)), (10, .pointer (some ⟨p10, 0, none⟩)), (11, .int .i64 s), (24, .int .i64 (k : Nat))]) ⟨_, _, _, (Or.inl ⟨rfl, (by repeat (first | exact trivial | (refine And.intro rfl ?_)))⟩), 0, 0, rfl, Nat.zero_le _, rfl, rfl, rfl⟩ ?_
      rintro rk t L' ⟨k, s, rfl, hk, hs, rfl, rfl⟩
      rcases Nat.lt_or_ge k 4 with hlt | hge
      · have g1 := gB_iff.1 hx k hlt
        have g2 := gB_iff.1 hy k hlt
        have g3 := gB_iff.1 hw k hlt
        have sb := cst_bd hw hx hy (by omega) hs
        have db := df_bd hx hy hlt
        have pb := mul_bd db g3
        have hnx : cst u x y (k + 1) = if u.l.g k < df x y k then none else some (s + df x y k * u.w.g k) := by simp only [cst, hs]
        have edf : max (x.g k - y.g k) (y.g k - x.g k) = df x y k := rfl
        obtain ⟨pr, hpr⟩ : ∃ pr, df x y k * u.w.g k = pr := ⟨_, rfl⟩
        rw [hpr] at hnx pb
        by_cases hc : u.l.g k < df x y k
        · rw [if_pos hc] at hnx
          have hfin : costF u x y = -1 := by
            unfold costF
            have := cst_none hnx (3 - k)
            rw [show k + 1 + (3 - k) = 4 by omega] at this
            rw [this]
          (repeat (first | (with_reducible refine AWo.cons ?_) | ((with_reducible refine Step.id ?_); first | ((with_reducible apply Step.move); exact rfl; exact rfl) | ((with_reducible apply Step.assign); exact rfl; exact rfl) | ((with_reducible apply Step.load); exact rfl; (focus (decide +kernel)); exact rfl; (focus (first | exact h7' k hlt _ | exact h8' k hlt _))) | ((with_reducible apply Step.ixA (s := 1) (n := 4)); exact rfl; exact rfl; (focus (kernel_rfl)); exact rfl; (focus (omega))) | ((with_reducible apply Step.sub); exact rfl; exact rfl; (focus (omega)); exact rfl) | ((with_reducible apply Step.lss); exact rfl; exact rfl; exact rfl) | ((with_reducible apply Step.max); exact rfl; exact rfl; exact rfl)) | (with_reducible refine AWo.nil ?_) | ((fail_if_success (with_reducible refine AW.atR (id := 8) ?_)); ((with_reducible apply AW.seq))) | ((with_reducible apply Then.n)) | ((with_reducible apply AW.regL)) | ((with_reducible apply AW.block)) | ((with_reducible apply AW.drawL fit); (focus (decide +kernel))) | ((with_reducible apply AW.skip)) | ((with_reducible apply AW.condT); exact rfl; (focus ((simp only [decide_eq_true_eq, decide_eq_false_iff_not, Bool.not_eq_true', Bool.not_eq_false', Bool.not_true, Bool.not_false]; first | assumption | omega))))))
          rw [edf]
          (repeat (first | (with_reducible refine AWo.cons ?_) | ((with_reducible refine Step.id ?_); first | ((with_reducible apply Step.move); exact rfl; exact rfl) | ((with_reducible apply Step.assign); exact rfl; exact rfl) | ((with_reducible apply Step.load); exact rfl; (focus (decide +kernel)); exact rfl; (focus (exact h10' k hlt _))) | ((with_reducible apply Step.ixA (s := 1) (n := 4)); exact rfl; exact rfl; (focus (kernel_rfl)); exact rfl; (focus (omega))) | ((with_reducible apply Step.gtr); exact rfl; exact rfl; exact rfl)) | (with_reducible refine AWo.nil ?_) | ((with_reducible apply AW.seq)) | ((with_reducible apply Then.n)) | ((with_reducible apply AW.regL)) | ((with_reducible apply AW.condT); exact rfl; (focus ((simp only [decide_eq_true_eq, decide_eq_false_iff_not, Bool.not_eq_true', Bool.not_eq_false', Bool.not_true, Bool.not_false]; first | assumption | omega))))))
          (refine AW.ret ?_; (repeat (first | refine Then.r ?_ | refine InBlk.r ?_)))
          obtain ⟨N', hN'⟩ := hpre2
          exact ⟨_, rfl, by rw [hfin], N', by rw [hN', List.append_nil]⟩
        · rw [if_neg hc] at hnx
          (repeat (first | (with_reducible refine AWo.cons ?_) | ((with_reducible refine Step.id ?_); first | ((with_reducible apply Step.move); exact rfl; exact rfl) | ((with_reducible apply Step.assign); exact rfl; exact rfl) | ((with_reducible apply Step.load); exact rfl; (focus (decide +kernel)); exact rfl; (focus (first | exact h7' k hlt _ | exact h8' k hlt _))) | ((with_reducible apply Step.ixA (s := 1) (n := 4)); exact rfl; exact rfl; (focus (kernel_rfl)); exact rfl; (focus (omega))) | ((with_reducible apply Step.sub); exact rfl; exact rfl; (focus (omega)); exact rfl) | ((with_reducible apply Step.lss); exact rfl; exact rfl; exact rfl) | ((with_reducible apply Step.max); exact rfl; exact rfl; exact rfl)) | (with_reducible refine AWo.nil ?_) | ((fail_if_success (with_reducible refine AW.atR (id := 8) ?_)); ((with_reducible apply AW.seq))) | ((with_reducible apply Then.n)) | ((with_reducible apply AW.regL)) | ((with_reducible apply AW.block)) | ((with_reducible apply AW.drawL fit); (focus (decide +kernel))) | ((with_reducible apply AW.skip)) | ((with_reducible apply AW.condT); exact rfl; (focus ((simp only [decide_eq_true_eq, decide_eq_false_iff_not, Bool.not_eq_true', Bool.not_eq_false', Bool.not_true, Bool.not_false]; first | assumption | omega))))))
          rw [edf]
          (repeat (first | (with_reducible refine AWo.cons ?_) | ((with_reducible refine Step.id ?_); first | ((with_reducible apply Step.move); exact rfl; exact rfl) | ((with_reducible apply Step.assign); exact rfl; exact rfl) | ((with_reducible apply Step.load); exact rfl; (focus (decide +kernel)); exact rfl; (focus (first | exact h9' k hlt _ | exact h10' k hlt _))) | ((with_reducible apply Step.ixA (s := 1) (n := 4)); exact rfl; exact rfl; (focus (kernel_rfl)); exact rfl; (focus (omega))) | ((with_reducible apply Step.add); exact rfl; exact rfl; (focus (omega)); exact rfl) | ((with_reducible apply Step.mul); exact rfl; exact rfl; (focus (omega)); exact rfl) | ((with_reducible apply Step.gtr); exact rfl; exact rfl; exact rfl)) | (with_reducible refine AWo.nil ?_) | ((with_reducible apply AW.seq)) | ((with_reducible apply Then.n)) | ((with_reducible apply AW.regL)) | ((with_reducible apply InBlk.n)) | ((with_reducible apply AW.skip)) | ((with_reducible apply AW.condF); exact rfl; (focus ((simp only [decide_eq_true_eq, decide_eq_false_iff_not, Bool.not_eq_true', Bool.not_eq_false', Bool.not_true, Bool.not_false]; first | assumption | omega))))))
          exact ⟨_, _, _, by omega, (Or.inl ⟨rfl, (by repeat (first | exact trivial | (refine And.intro rfl ?_)))⟩), k + 1, _, rfl, by omega, by rw [hnx, hpr], rfl, rfl⟩
      · obtain rfl : k = 4 := by omega
        (repeat (first | (with_reducible refine AWo.cons ?_) | ((with_reducible refine Step.id ?_); first | ((with_reducible apply Step.move); exact rfl; exact rfl) | ((with_reducible apply Step.assign); exact rfl; exact rfl) | ((with_reducible apply Step.lss); exact rfl; exact rfl; exact rfl)) | (with_reducible refine AWo.nil ?_) | ((with_reducible apply AW.seq)) | ((with_reducible apply Then.n)) | ((with_reducible apply AW.regL)) | ((with_reducible apply AW.exit)) | ((with_reducible apply InBlk.hit)) | ((with_reducible apply Then.e)) | ((with_reducible apply AW.condF); exact rfl; (focus (rfl)))))
        (refine AW.ret ?_; (repeat (first | refine Then.r ?_ | refine InBlk.r ?_)))
        obtain ⟨N', hN'⟩ := hpre2
        exact ⟨_, rfl, by unfold costF; rw [hs], N', by rw [hN', List.append_nil]⟩
end Go.Proofs.Ytajpngnphbdnnaa.Abs
namespace Go.Proofs.Ytajpngnphbdnnaa.Abs
set_option linter.unusedSimpArgs false
set_option linter.unusedVariables false
open Go.RowKit
open Go.Proofs.Ytajpngnphbdnnaa.Sim
open Go.Proofs
open Hung
/-- A table of costs. -/
def Tab (m : AM) (v : Value) (c : Nat → Nat → Int) (l r : Nat) : Prop := ∃ a cv b o, v = .pointer (some ⟨a, 0, none⟩) ∧ a < m.length ∧ Rd m a 0 cv ∧ Rd m a 1 (.int .i64 (l : Nat)) ∧ Rd m a 2 (.int .i64 (r : Nat)) ∧ Sl cv b o l ∧ b < m.length ∧
  ∀ i, i < l → ∃ w, Rd m b (o + i) w ∧ Ints m w (tab (c i) r)
theorem Tab.old {m : AM} {v : Value} {c : Nat → Nat → Int} {l r : Nat} (L : AM) (h : Tab m v c l r) : Tab (m ++ L) v c l r := by
  obtain ⟨a, cv, b, o, rfl, h1, h2, h3, h4, h5, h6, h7⟩ := h
  exact ⟨a, cv, b, o, rfl, by simp; omega, h2.old L, h3.old L, h4.old L, h5, by simp; omega, fun i hi => by
    obtain ⟨w, k1, k2⟩ := h7 i hi
    exact ⟨w, k1.old L, k2.old L⟩⟩
/-- Costs are small. -/
def Cs (c : Nat → Nat → Int) : Prop := ∀ i j, -1 ≤ c i j ∧ c i j ≤ 4000000
/-- What a pair adds, or 0 where one of both is none. -/
def wv (c : Nat → Nat → Int) (l r i j : Nat) : Int := if i < l ∧ j < r then wo c i j else 0
theorem wo_bd {c : Nat → Nat → Int} (hc : Cs c) (i j : Nat) : 0 ≤ wo c i j ∧ wo c i j ≤ 1000000000 := by
  have := hc i j
  unfold wo; split <;> omega
theorem wv_bd {c : Nat → Nat → Int} (hc : Cs c) (l r i j : Nat) : 0 ≤ wv c l r i j ∧ wv c l r i j ≤ 1000000000 := by
  have := wo_bd hc i j
  unfold wv; split <;> omega
set_option maxRecDepth 100000 in
theorem worth_ok {m : AM} {v : Value} {c : Nat → Nat → Int} {l r : Nat} (ht : Tab m v c l r) (hc : Cs c) (i j : Nat) {x : Int} (hx : wv c l r i j = x) : ACall Try.prog 58 #[v, .int .i64 (i : Nat), .int .i64 (j : Nat)] m (Ret (.int .i64 x) m) := by
  subst hx
  obtain ⟨a, cv, b, o, rfl, h1, h2, h3, h4, h5, h6, h7⟩ := ht
  refine ACall.start Try.func58 rfl rfl ?_
  by_cases hi : i < l
  · by_cases hj : j < r
    · obtain ⟨w, k1, b', o', k2, k3, k4⟩ := h7 i hi
      rw [tab_len] at k2 k4
      have k5 := k4 j hj
      rw [tab_get (c i) hj] at k5
      have hcb := hc i j
      by_cases hn : c i j < 0
      · (repeat (first | (with_reducible refine AWo.cons ?_) | ((with_reducible refine Step.id ?_); first | ((with_reducible apply Step.gdT); exact rfl; exact rfl; (focus ((simp only [decide_eq_true_eq, decide_eq_false_iff_not, Bool.not_eq_true', Bool.not_eq_false', Bool.not_true, Bool.not_false]; first | assumption | omega)))) | ((with_reducible apply Step.move); exact rfl; exact rfl) | ((with_reducible apply Step.assign); exact rfl; exact rfl) | ((with_reducible apply Step.load); exact rfl; (focus (decide +kernel)); exact rfl; (focus (first | exact h2.old [] | exact h3.old [] | exact h4.old [] | exact k1.old [] | exact k5.old []))) | ((with_reducible apply Step.ix1); exact rfl; (focus (assumption)); exact rfl; (focus (decide +kernel)); exact rfl; (focus (omega))) | ((with_reducible apply Step.field0); exact rfl; (focus (decide +kernel)); exact rfl) | ((with_reducible apply Step.field (k := 1)); exact rfl; (focus (decide +kernel)); exact rfl) | ((with_reducible apply Step.field (k := 2)); exact rfl; (focus (decide +kernel)); exact rfl) | ((with_reducible apply Step.lss); exact rfl; exact rfl; exact rfl) | ((with_reducible apply Step.geq); exact rfl; exact rfl; exact rfl) | ((with_reducible apply Step.nilp); exact rfl; exact rfl) | ((with_reducible apply Step.pickF); exact rfl; exact rfl; exact rfl; exact rfl; (focus ((simp only [decide_eq_true_eq, decide_eq_false_iff_not, Bool.not_eq_true', Bool.not_eq_false', Bool.not_true, Bool.not_false]; first | assumption | omega))))) | (with_reducible refine AWo.nil ?_) | ((with_reducible apply AW.seq)) | ((with_reducible apply Then.n)) | ((with_reducible apply AW.regL)) | ((with_reducible apply AW.condT); exact rfl; (focus ((simp only [decide_eq_true_eq, decide_eq_false_iff_not, Bool.not_eq_true', Bool.not_eq_false', Bool.not_true, Bool.not_false]; first | assumption | omega))))))
        (refine AW.retD (l := [(6, _)]) (by repeat (first | exact trivial | (refine And.intro ⟨rfl, by (exact .int _ _)⟩ ?_))) ?_; (repeat (first | refine Then.r ?_ | refine InBlk.r ?_)))
        exact ⟨_, rfl, by simp [wv, wo, hi, hj, hn], rfl⟩
      · (repeat (first | (with_reducible refine AWo.cons ?_) | ((with_reducible refine Step.id ?_); first | ((with_reducible apply Step.gdT); exact rfl; exact rfl; (focus ((simp only [decide_eq_true_eq, decide_eq_false_iff_not, Bool.not_eq_true', Bool.not_eq_false', Bool.not_true, Bool.not_false]; first | assumption | omega)))) | ((with_reducible apply Step.move); exact rfl; exact rfl) | ((with_reducible apply Step.assign); exact rfl; exact rfl) | ((with_reducible apply Step.load); exact rfl; (focus (decide +kernel)); exact rfl; (focus (first | exact h2.old [] | exact h3.old [] | exact h4.old [] | exact k1.old [] | exact k5.old []))) | ((with_reducible apply Step.ix1); exact rfl; (focus (assumption)); exact rfl; (focus (decide +kernel)); exact rfl; (focus (omega))) | ((with_reducible apply Step.field0); exact rfl; (focus (decide +kernel)); exact rfl) | ((with_reducible apply Step.field (k := 1)); exact rfl; (focus (decide +kernel)); exact rfl) | ((with_reducible apply Step.field (k := 2)); exact rfl; (focus (decide +kernel)); exact rfl) | ((with_reducible apply Step.sub); exact rfl; exact rfl; (focus (omega)); exact rfl) | ((with_reducible apply Step.lss); exact rfl; exact rfl; exact rfl) | ((with_reducible apply Step.geq); exact rfl; exact rfl; exact rfl) | ((with_reducible apply Step.nilp); exact rfl; exact rfl) | ((with_reducible apply Step.pickF); exact rfl; exact rfl; exact rfl; exact rfl; (focus ((simp only [decide_eq_true_eq, decide_eq_false_iff_not, Bool.not_eq_true', Bool.not_eq_false', Bool.not_true, Bool.not_false]; first | assumption | omega))))) | (with_reducible refine AWo.nil ?_) | ((with_reducible apply AW.seq)) | ((with_reducible apply Then.n)) | ((with_reducible apply AW.regL)) | ((with_reducible apply AW.skip)) | ((with_reducible apply AW.condF); exact rfl; (focus ((simp only [decide_eq_true_eq, decide_eq_false_iff_not, Bool.not_eq_true', Bool.not_eq_false', Bool.not_true, Bool.not_false]; first | assumption | omega))))))
        (refine AW.retD (l := [(6, _)]) (by repeat (first | exact trivial | (refine And.intro ⟨rfl, by (exact .int _ _)⟩ ?_))) ?_; (repeat (first | refine Then.r ?_ | refine InBlk.r ?_)))
        exact ⟨_, rfl, by simp [wv, wo, hi, hj, hn], rfl⟩
    · (repeat (first | (with_reducible refine AWo.cons ?_) | ((with_reducible refine Step.id ?_); first | ((with_reducible apply Step.gdT); exact rfl; exact rfl; (focus ((simp only [decide_eq_true_eq, decide_eq_false_iff_not, Bool.not_eq_true', Bool.not_eq_false', Bool.not_true, Bool.not_false]; first | assumption | omega)))) | ((with_reducible apply Step.gdF); exact rfl; exact rfl; (focus ((simp only [decide_eq_true_eq, decide_eq_false_iff_not, Bool.not_eq_true', Bool.not_eq_false', Bool.not_true, Bool.not_false]; first | assumption | omega)))) | ((with_reducible apply Step.move); exact rfl; exact rfl) | ((with_reducible apply Step.assign); exact rfl; exact rfl) | ((with_reducible apply Step.load); exact rfl; (focus (decide +kernel)); exact rfl; (focus (first | exact h3.old [] | exact h4.old []))) | ((with_reducible apply Step.field (k := 1)); exact rfl; (focus (decide +kernel)); exact rfl) | ((with_reducible apply Step.field (k := 2)); exact rfl; (focus (decide +kernel)); exact rfl) | ((with_reducible apply Step.geq); exact rfl; exact rfl; exact rfl) | ((with_reducible apply Step.nilp); exact rfl; exact rfl) | ((with_reducible apply Step.pickT); exact rfl; exact rfl; exact rfl; exact rfl; (focus ((simp only [decide_eq_true_eq, decide_eq_false_iff_not, Bool.not_eq_true', Bool.not_eq_false', Bool.not_true, Bool.not_false]; first | assumption | omega)))) | ((with_reducible apply Step.pickF); exact rfl; exact rfl; exact rfl; exact rfl; (focus ((simp only [decide_eq_true_eq, decide_eq_false_iff_not, Bool.not_eq_true', Bool.not_eq_false', Bool.not_true, Bool.not_false]; first | assumption | omega))))) | (with_reducible refine AWo.nil ?_) | ((with_reducible apply AW.seq)) | ((with_reducible apply Then.n)) | ((with_reducible apply AW.regL)) | ((with_reducible apply AW.condT); exact rfl; (focus (rfl)))))
      (refine AW.retD (l := [(6, _)]) (by repeat (first | exact trivial | (refine And.intro ⟨rfl, by (exact .int _ _)⟩ ?_))) ?_; (repeat (first | refine Then.r ?_ | refine InBlk.r ?_)))
      exact ⟨_, rfl, by simp [wv, hj], rfl⟩
  · (repeat (first | (with_reducible refine AWo.cons ?_) | ((with_reducible refine Step.id ?_); first | ((with_reducible apply Step.gdF); exact rfl; exact rfl; (focus (first | rfl | (simp only [decide_eq_true_eq, decide_eq_false_iff_not, Bool.not_eq_true', Bool.not_eq_false', Bool.not_true, Bool.not_false]; first | assumption | omega)))) | ((with_reducible apply Step.move); exact rfl; exact rfl) | ((with_reducible apply Step.assign); exact rfl; exact rfl) | ((with_reducible apply Step.load); exact rfl; (focus (decide +kernel)); exact rfl; (focus (exact h3.old []))) | ((with_reducible apply Step.field (k := 1)); exact rfl; (focus (decide +kernel)); exact rfl) | ((with_reducible apply Step.geq); exact rfl; exact rfl; exact rfl) | ((with_reducible apply Step.nilp); exact rfl; exact rfl) | ((with_reducible apply Step.pickT); exact rfl; exact rfl; exact rfl; exact rfl; (focus (first | rfl | (simp only [decide_eq_true_eq, decide_eq_false_iff_not, Bool.not_eq_true', Bool.not_eq_false', Bool.not_true, Bool.not_false]; first | assumption | omega))))) | (with_reducible refine AWo.nil ?_) | ((with_reducible apply AW.seq)) | ((with_reducible apply Then.n)) | ((with_reducible apply AW.regL)) | ((with_reducible apply AW.condT); exact rfl; (focus (rfl)))))
    (refine AW.retD (l := [(6, _)]) (by repeat (first | exact trivial | (refine And.intro ⟨rfl, by (exact .int _ _)⟩ ?_))) ?_; (repeat (first | refine Then.r ?_ | refine InBlk.r ?_)))
    exact ⟨_, rfl, by simp [wv, hi], rfl⟩
def atN (L : List Nat) (i : Nat) : Nat := if i < L.length then L.getD i 0 else 32
set_option maxRecDepth 100000 in
theorem at_ok {m : AM} {v : Value} {L : List Nat} (hl : Ints m v (nats L)) (hlen : L.length ≤ 100000) (i : Nat) (hi : i ≤ 100000) : ACall Try.prog 88 #[v, .int .i64 (i : Nat)] m (Ret (.int .i64 ((atN L i : Nat) : Int)) m) := by
  obtain ⟨a, o, h1, h2, h3⟩ := hl
  rw [nats_len] at h1 h3
  refine ACall.start Try.func88 rfl rfl ?_
  by_cases h : i < L.length
  · have hr := h3 i h
    rw [nats_get] at hr
    (repeat (first | (with_reducible refine AWo.cons ?_) | ((with_reducible refine Step.id ?_); first | ((with_reducible apply Step.move); exact rfl; exact rfl) | ((with_reducible apply Step.assign); exact rfl; exact rfl) | ((with_reducible apply Step.load); exact rfl; (focus (decide +kernel)); exact rfl; (focus (exact Rd.old _ (by assumption)))) | ((with_reducible apply Step.ix1); exact rfl; (focus (assumption)); exact rfl; (focus (decide +kernel)); exact rfl; (focus (omega))) | ((with_reducible apply Step.lss); exact rfl; exact rfl; exact rfl) | ((with_reducible apply Step.len); exact rfl; (focus (assumption)); (focus (decide +kernel)); exact rfl)) | (with_reducible refine AWo.nil ?_) | ((with_reducible apply AW.seq)) | ((with_reducible apply Then.n)) | ((with_reducible apply AW.regL)) | ((with_reducible apply AW.condT); exact rfl; (focus ((simp only [decide_eq_true_eq, decide_eq_false_iff_not, Bool.not_eq_true', Bool.not_eq_false', Bool.not_true, Bool.not_false]; first | assumption | omega))))))
    (refine AW.retD (l := [(4, _)]) (by repeat (first | exact trivial | (refine And.intro ⟨rfl, by (exact .int _ _)⟩ ?_))) ?_; (repeat (first | refine Then.r ?_ | refine InBlk.r ?_)))
    exact ⟨_, rfl, by simp [atN, h], rfl⟩
  · (repeat (first | (with_reducible refine AWo.cons ?_) | ((with_reducible refine Step.id ?_); first | ((with_reducible apply Step.move); exact rfl; exact rfl) | ((with_reducible apply Step.assign); exact rfl; exact rfl) | ((with_reducible apply Step.lss); exact rfl; exact rfl; exact rfl) | ((with_reducible apply Step.len); exact rfl; (focus (assumption)); (focus (decide +kernel)); exact rfl)) | (with_reducible refine AWo.nil ?_) | ((with_reducible apply AW.seq)) | ((with_reducible apply Then.n)) | ((with_reducible apply AW.regL)) | ((with_reducible apply AW.skip)) | ((with_reducible apply AW.condF); exact rfl; (focus ((simp only [decide_eq_true_eq, decide_eq_false_iff_not, Bool.not_eq_true', Bool.not_eq_false', Bool.not_true, Bool.not_false]; first | assumption | omega))))))
    (refine AW.retD (l := [(4, _)]) (by repeat (first | exact trivial | (refine And.intro ⟨rfl, by (exact .int _ _)⟩ ?_))) ?_; (repeat (first | refine Then.r ?_ | refine InBlk.r ?_)))
    exact ⟨_, rfl, by simp [atN, h], rfl⟩
/-- The loss of row i and column j, counted from 1. -/
def lossN (c : Nat → Nat → Int) (l r : Nat) (L R : List Nat) (i j : Nat) : Int := -wv c l r (atN L (i - 1)) (atN R (j - 1))
set_option maxHeartbeats 4000000 in
set_option maxRecDepth 100000 in
theorem loss_ok {m : AM} {tv lv rv : Value} {c : Nat → Nat → Int} {l r : Nat} {L R : List Nat} {q3 q4 q5 q10 : Nat} (ht : Tab m tv c l r) (hc : Cs c) (hL : Ints m lv (nats L)) (hR : Ints m rv (nats R)) (lL : L.length ≤ 1000) (lR : R.length ≤ 1000)
    (r3 : Rd m q3 0 tv) (r4 : Rd m q4 0 lv) (r5 : Rd m q5 0 rv) (r10 : Rd m q10 0 (.func (.func 88) #[] #[])) (i j : Nat) (hi : i ≤ 1000) (hj : j ≤ 1000) {x : Int} (hx : lossN c l r L R (i + 1) (j + 1) = x) :
    ACall Try.prog 89 #[.int .i64 ((i + 1 : Nat) : Int), .int .i64 ((j + 1 : Nat) : Int), .pointer (some ⟨q3, 0, none⟩), .pointer (some ⟨q10, 0, none⟩), .pointer (some ⟨q4, 0, none⟩), .pointer (some ⟨q5, 0, none⟩)] m (Ret (.int .i64 x) m) := by
  subst hx
  have a1 := at_ok hL (by omega) i (by omega)
  have a2 := at_ok hR (by omega) j (by omega)
  have a3 := worth_ok ht hc (atN L i) (atN R j) rfl
  have e : lossN c l r L R (i + 1) (j + 1) = -wv c l r (atN L i) (atN R j) := rfl
  have hb := wv_bd hc l r (atN L i) (atN R j)
  rw [e]
  generalize wv c l r (atN L i) (atN R j) = y at *
  generalize atN L i = x1 at *
  generalize atN R j = x2 at *
  have e1 : ((i + 1 : Nat) : Int) - 1 = (i : Nat) := by omega
  have e2 : ((j + 1 : Nat) : Int) - 1 = (j : Nat) := by omega
  rw [← List.append_nil m] at r3 r4 r5 r10 a1 a2 a3
  have hf : Try.prog.funcs[88]? = some Try.f88 := Try.func88
  have hb : Try.f88.body = some (Try.f88.body.get rfl) := rfl
  rw [← e1] at a1
  rw [← e2] at a2
  refine ACall.start Try.func89 rfl rfl ?_
  (repeat' (first | (with_reducible refine AWo.cons ?_) | ((with_reducible refine Step.id ?_); first | ((with_reducible apply Step.move); exact rfl; exact rfl) | ((with_reducible apply Step.assign); exact rfl; exact rfl) | ((with_reducible apply Step.load); exact rfl; (focus (decide +kernel)); exact rfl; (focus (assumption))) | ((with_reducible apply Step.sub); exact rfl; exact rfl; (focus (omega)); exact rfl) | ((with_reducible apply Step.neg); exact rfl; (focus (omega)); exact rfl) | ((with_reducible apply Step.callV fit); exact rfl; exact rfl; exact hf; exact hb; exact rfl; exact (a1)) | ((with_reducible apply Step.callV fit); exact rfl; exact rfl; exact hf; exact hb; exact rfl; exact (a2)) | ((with_reducible apply Step.callR fit); exact rfl; exact Try.func58; exact rfl; exact rfl; exact (a3))) | (with_reducible refine AWo.nil ?_) | ((with_reducible apply AW.seq)) | ((with_reducible apply Then.n)) | ((with_reducible apply AW.regL)) | ((with_reducible apply AW.drawT fit (T := (.step 1 (.step 2 (.step 3 (.step 4 (.step 8 (.step 9 (.both (.step 0 (.both (.step 5 (.step 6 (.step 7 (.step 10 (.step 11 (.step 12 (.step 13 .done))))))) (.both (.step 6 (.both (.step 5 (.step 7 (.step 10 (.step 11 (.step 12 (.step 13 .done)))))) (.step 7 (.step 5 (.step 10 (.step 11 (.step 12 (.step 13 .done)))))))) (.step 7 (.both (.step 5 (.step 6 (.step 10 (.step 11 (.step 12 (.step 13 .done)))))) (.step 6 (.step 5 (.step 10 (.step 11 (.step 12 (.step 13 .done))))))))))) (.both (.step 5 (.step 6 (.step 7 (.both (.step 0 (.step 10 (.step 11 (.step 12 (.step 13 .done))))) (.step 10 (.step 0 (.step 11 (.step 12 (.step 13 .done))))))))) (.both (.step 6 (.both (.step 0 (.both (.step 5 (.step 7 (.step 10 (.step 11 (.step 12 (.step 13 .done)))))) (.step 7 (.step 5 (.step 10 (.step 11 (.step 12 (.step 13 .done)))))))) (.both (.step 5 (.step 7 (.both (.step 0 (.step 10 (.step 11 (.step 12 (.step 13 .done))))) (.step 10 (.step 0 (.step 11 (.step 12 (.step 13 .done)))))))) (.step 7 (.both (.step 0 (.step 5 (.step 10 (.step 11 (.step 12 (.step 13 .done)))))) (.step 5 (.both (.step 0 (.step 10 (.step 11 (.step 12 (.step 13 .done))))) (.step 10 (.step 0 (.step 11 (.step 12 (.step 13 .done)))))))))))) (.step 7 (.both (.step 0 (.both (.step 5 (.step 6 (.step 10 (.step 11 (.step 12 (.step 13 .done)))))) (.step 6 (.step 5 (.step 10 (.step 11 (.step 12 (.step 13 .done)))))))) (.both (.step 5 (.step 6 (.both (.step 0 (.step 10 (.step 11 (.step 12 (.step 13 .done))))) (.step 10 (.step 0 (.step 11 (.step 12 (.step 13 .done)))))))) (.step 6 (.both (.step 0 (.step 5 (.step 10 (.step 11 (.step 12 (.step 13 .done)))))) (.step 5 (.both (.step 0 (.step 10 (.step 11 (.step 12 (.step 13 .done))))) (.step 10 (.step 0 (.step 11 (.step 12 (.step 13 .done))))))))))))))))))))))); (focus (decide +kernel))) | ((with_reducible apply AWt.step); exact rfl) | ((with_reducible apply AWt.done)) | refine AWt.both ?_ ?_))
  all_goals ((refine AW.retD (l := [(8, _)]) (by repeat (first | exact trivial | (refine And.intro ⟨rfl, by (exact .int _ _)⟩ ?_))) ?_; (repeat (first | refine Then.r ?_ | refine InBlk.r ?_))); exact ⟨_, rfl, rfl, rfl⟩)
end Go.Proofs.Ytajpngnphbdnnaa.Abs
