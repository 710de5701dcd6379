import Derived.Test.YtmomjannlnafcaaSim10
namespace Go.Proofs.Ytmomjannlnafcaa.Sim
set_option linter.unusedSimpArgs false
set_option linter.unusedVariables false
open Go.RowKit
section
variable {P : Program} {base : Nat} {R : Pl} {m : AM} {w : World}
def idOf : Value → List Nat
  | .pointer (some a) => [a.block]
  | .slice (some a) _ _ => [a.block]
  | _ => []
/-- What an operation may write. -/
def target (o : Oper) (t : Fr) : List Nat :=
  match o.op with
  | .store _ a _ => idOf (aev t a)
  | .slice _ x _ _ _ => idOf (aev t x)
  | .call c => match c.callee with
    | .builtin .append | .builtin .copy | .builtin .clear => match c.args[0]? with
      | some x => idOf (aev t x)
      | none => []
    | _ => []
  | _ => []
def isStore : Op → Bool
  | .store .. => true
  | _ => false
/-- What the loud operations will write, as far as their operands can be known: the stores are passed over. -/
def targets (P : Program) (ops : Array Oper) (mh : AM) (rows : List SRow) : Nat → Nat → Fr → List Nat
  | 0, _, _ => []
  | n + 1, L, t =>
    rows.flatMap (fun r => if readyB r L then target r.o t else []) ++
    fNat (rows.foldl (fun L' r => if readyB r L && isStore r.o.op then L' ||| 2 ^ r.i else L') L) fun L1 =>
    if Nat.beq L L1 then [] else
    match passA P ops mh rows (ops.size + 1) L1 t with
    | some (_, L', t') => targets P ops mh rows n L' t'
    | none => []
def extB : AM → AM → Bool
  | [], _ => true
  | _ :: _, [] => false
  | _ :: l, none :: k => extB l k
  | none :: _, some _ :: _ => false
  | some a :: l, some b :: k => decide (b.kind = a.kind) && extB l k
theorem extB_ok : ∀ (l k : AM), extB l k = true → Ext l k
  | [], k, _ => ⟨by simp, fun j c hj => by simp at hj⟩
  | _ :: _, [], h => by simp [extB] at h
  | x :: l, none :: k, h => by
    have h' : extB l k = true := by cases x <;> simpa [extB] using h
    have ih := extB_ok l k h'
    refine ⟨by simpa using ih.1, fun j c hj hc => ?_⟩
    cases j with
    | zero => simp at hc
    | succ j => exact ih.2 j c (by simpa using hj) (by simpa using hc)
  | none :: _, some _ :: _, h => by simp [extB] at h
  | some a :: l, some b :: k, h => by
    simp only [extB, Bool.and_eq_true, decide_eq_true_eq] at h
    have ih := extB_ok l k h.2
    refine ⟨by simpa using ih.1, fun j c hj hc => ?_⟩
    cases j with
    | zero => simp at hc; subst hc; exact ⟨a, rfl, h.1⟩
    | succ j => exact ih.2 j c (by simpa using hj) (by simpa using hc)
def adrawW (P : Program) (call : CallF) (ops : Array Oper) (W : List Nat) (t : Fr) (m : AM) : Option (Fr × AM) :=
  fM (heldM W m) fun mh => fM (workM W ops.size m) fun mw =>
  match en P call ops (stat ops) m.length mh (ops.size + 1) ops.size 0 t mw with
  | some (t', m') => fM (restoreM W m m') fun mr => if extB m mr then some (t', mr) else none
  | none => none
def adraw (P : Program) (call : CallF) (ops : Array Oper) (t : Fr) (m : AM) : Option (Fr × AM) :=
  if Region.noSelect ops then
    fM (heldM [] m) fun mh => match passA P ops mh (stat ops) ops.size 0 t with
    | some (_, L, t1) => if (stat ops).all fun r => !readyB r L then some (t1, m) else adrawW P call ops ((targets P ops mh (stat ops) 6 L t1).filter (· < m.length)) t m
    | none => none
  else none
/-- What a piece of code comes to. -/
def Leaves (base : Nat) (R : Pl) (m : AM) (a : Act) (w : World) (t' : Fr) (m' : AM) (a' : Act) (w' : World) : Prop :=
  a'.defers = a.defers ∧ ∃ R', FRels R' t' a'.tmps ∧ Post base m m' R R' w w' ∧ Fresh m R R'
theorem adrawW_ok (hP : Fit P) {call : CallF} (hc : CallFOk P call) {ops : Array Oper} (hsel : Region.noSelect ops = true) {W : List Nat} {t t' : Fr} {m' : AM} (he : adrawW P call ops W t m = some (t', m')) :
    Ext m m' ∧ ∀ (base : Nat) (R : Pl) (a : Act) (w : World) (id : Nat), base ≤ w.heap.size → MRep base R m w → FRels R t a.tmps →
      (Code.region id ops true).wp P (fun e a' w' => e = .normal ∧ Leaves base R m a w t' m' a' w') a w := by
  unfold adrawW at he
  simp only [fM_eq] at he
  split at he
  · rename_i t1 m1 hen
    split at he
    · rename_i hext
      simp only [Option.some.injEq, Prod.mk.injEq] at he
      obtain ⟨rfl, rfl⟩ := he
      refine ⟨extB_ok _ _ hext, fun base R a w id hb hm ht => ?_⟩
      have hmd : MRep base R m w.drew := (Post.drew hm).rep
      refine wp_region_held (S := HRep base R (heldM W m)) hP.mixed ?_
      have hw0 := work_rep hmd W ops.size
      refine en_ok hP hc hsel (d0 := a.defers) hmd hb (fun c a w h => by cases h.1) ?_ _ ops.size 0 _ t _ R a w.drew ⟨⟨by simp, fun j => ?_⟩, .refl hw0, .refl, (fun j c _ h => ⟨c, h, rfl⟩), (by rw [workM_length]; exact Nat.le_refl _), ht, rfl, (fun i hi _ => ⟨?_, hm.none_ _ (by omega)⟩)⟩ hen
      rotate_left
      · by_cases hj : j < ops.size <;> simp [hj]
      rotate_left
      · intro R' a' w' k1 k2 k3 k4 k5
        exact ⟨rfl, k2, R', k1, (Post.drew hm).trans (restore_ok hmd k3 k4 k5), k4⟩
      · unfold workM
        rw [List.getElem?_append_right (by simp [mapFrom_length]), List.getElem?_replicate]
        simp [hi, mapFrom_length]
    · cases he
  · cases he
theorem adraw_ok (hP : Fit P) {call : CallF} (hc : CallFOk P call) {ops : Array Oper} {t t' : Fr} {m' : AM} (he : adraw P call ops t m = some (t', m')) :
    Ext m m' ∧ ∀ (base : Nat) (R : Pl) (a : Act) (w : World) (id : Nat), base ≤ w.heap.size → MRep base R m w → FRels R t a.tmps →
      (Code.region id ops true).wp P (fun e a' w' => e = .normal ∧ Leaves base R m a w t' m' a' w') a w := by
  unfold adraw at he
  simp only [fM_eq] at he
  split at he
  · rename_i hsel
    split at he
    · rename_i k1 L t1 hpass
      split at he
      · rename_i hall
        simp only [Option.some.injEq, Prod.mk.injEq] at he
        obtain ⟨rfl, rfl⟩ := he
        refine ⟨.refl, fun base R a w id hb hm ht => ?_⟩
        have hmd : MRep base R m w.drew := (Post.drew hm).rep
        refine wp_region_held (S := HRep base R (heldM [] m)) hP.mixed ?_
        refine passA_ok hsel (W := []) (d0 := a.defers) hmd (fun c a w h => by cases h.1) (stat ops) (stat_ok ops) ops.size 0 _ t (workM [] ops.size m) R a w.drew _ _ _
          ⟨⟨by simp, fun j => ?_⟩, .refl (work_rep hmd [] ops.size), .refl, (fun j c _ h => ⟨c, h, rfl⟩), (by rw [workM_length]; exact Nat.le_refl _), ht, rfl, (fun i hi _ => ⟨?_, hm.none_ _ (by omega)⟩)⟩ hpass ?_
        · by_cases hj : j < ops.size <;> simp [hj]
        · unfold workM
          rw [List.getElem?_append_right (by simp [mapFrom_length]), List.getElem?_replicate]
          simp [hi, mapFrom_length]
        · intro listed' a' hmid
          have hempty : Region.ready .any ops listed' = [] := by
            apply List.eq_nil_iff_forall_not_mem.2
            intro j hj
            obtain ⟨_, oj, hoj, _⟩ := mem_ready.1 hj
            obtain ⟨r, hr, rfl, rfl⟩ := stat_all ops hoj
            have h1 := (ready_iff hmid.lst (stat_ok ops r hr)).1 hj
            have h2 := List.all_eq_true.1 hall r hr
            rw [h1] at h2; cases h2
          exact wpAnyH_done hempty ⟨rfl, hmid.defers, R, hmid.tmps, Post.drew hm, .refl⟩ _
      · exact adrawW_ok hP hc hsel he
    · cases he
  · cases he
/-! ### Code and calls -/
inductive AEx | normal | exit (id : Nat) | ret
def AEx.to : AEx → Exit
  | .normal => .normal
  | .exit id => .exit id
  | .ret => .ret
def aresult1 (P : Program) (t : Fr) (m : AM) : ResultVar → Option Value
  | .tmp i => some (t.get i)
  | .cell a ty => aload P m ty (t.get a)
def aresultL (P : Program) (t : Fr) (m : AM) : List ResultVar → Option (List Value)
  | [] => some []
  | r :: rest => match aresult1 P t m r, aresultL P t m rest with
    | some v, some l => some (v :: l)
    | _, _ => none
def aresults (P : Program) (fn : Func) (t : Fr) (m : AM) : Option Value :=
  (aresultL P t m fn.results.toList).map fun l => match l with
    | [v] => v
    | l => .tuple l.toArray
abbrev RunF := Code → Fr → AM → Option (AEx × Fr × AM)
def acallW (P : Program) (run : RunF) : CallF := fun f args m =>
  match P.funcs[f]? with
  | some fn => match fn.body with
    | some c => match (if args.size ≤ fn.ntmps then fTr (Fr.start fn.ntmps args).tr fun r => run c ⟨fn.ntmps, r⟩ m else none) with
      | some (.exit _, _, _) => none
      | some (_, t, m') => (aresults P fn t m').map fun v => (v, m')
      | none => none
    | none => none
  | none => none
/-- A call that takes no memory and gives none: as if in empty memory. -/
def acallG (P : Program) (run : RunF) : CallF := fun f args m =>
  if args.all g1 then
    match acallW P run f args [] with
    | some (v, _) => if g1 v then some (v, m) else acallW P run f args m
    | none => none
  else acallW P run f args m
def runCode (P : Program) : Nat → RunF
  | 0 => fun _ _ _ => none
  | n + 1 => fun c t m =>
    match c with
    | .skip | .label _ => some (.normal, t, m)
    | .region _ ops draw => (if draw then adraw P (acallG P (runCode P n)) ops t m else arunOps P (acallG P (runCode P n)) ops ops.toList t m).map fun (t', m') => (.normal, t', m')
    | .seq a b => match runCode P n a t m with
      | some (.normal, t', m') => runCode P n b t' m'
      | r => r
    | .cond c a b => if okOperand c then match aev t c with
      | .bool q => runCode P n (if q then a else b) t m
      | _ => none else none
    | .block id body => match runCode P n body t m with
      | some (.exit id', t', m') => if id' = id then some (.normal, t', m') else some (.exit id', t', m')
      | r => r
    | .loop body => match runCode P n body t m with
      | some (.normal, t', m') => runCode P n (.loop body) t' m'
      | r => r
    | .exit id => some (.exit id, t, m)
    | .ret => some (.ret, t, m)
    | _ => none
def RunOk (P : Program) (run : RunF) : Prop := ∀ c t m e t' m', run c t m = some (e, t', m') → Ext m m' ∧ ∀ (base : Nat) (R : Pl) (a : Act) (w : World), base ≤ w.heap.size → MRep base R m w → FRels R t a.tmps →
  c.wp P (fun ex a' w' => ex = e.to ∧ Leaves base R m a w t' m' a' w') a w
def res1 (u : Array Value) : ResultVar → Sem Value
  | .tmp t => pure (u.getD t undef)
  | .cell a ty => do loadVar ty (← asAddr (u.getD a undef))
theorem aresultL_ok {t : Fr} {u : Array Value} (h : MRep base R m w) (ht : FRels R t u) : ∀ (l : List ResultVar) (vs : List Value), aresultL P t m l = some vs →
    ∃ vs', RelL R vs vs' ∧ (l.mapM (res1 u)).run P w = .ok vs' w
  | [], vs, he => by simp [aresultL] at he; subst he; exact ⟨[], .nil, by simp⟩
  | r :: rest, vs, he => by
    simp only [aresultL] at he
    split at he
    · rename_i v l h1 h2
      injection he with he; subst he
      obtain ⟨l', k1, k2⟩ := aresultL_ok h ht rest l h2
      have : ∃ v', Rel R v v' ∧ (res1 u r).run P w = .ok v' w := by
        cases r with
        | tmp i =>
          simp only [aresult1, Option.some.injEq] at h1
          subst h1
          exact ⟨_, ht.2 i, rfl⟩
        | cell a ty =>
          simp only [aresult1] at h1
          have hg := ht.2 a
          obtain ⟨v', q1, q2⟩ := aload_ok (w := w) h.held hg h1
          refine ⟨v', q2, ?_⟩
          unfold aload at h1
          split at h1
          · rename_i e
            rw [e] at hg
            have hres : res1 u (.cell a ty) = (do loadVar ty (← asAddr (u.getD a undef))) := rfl
            rw [hres]
            generalize u.getD a undef = q at hg q1 ⊢
            cases hg
            simpa [Instr.loadAt, Instr.sureAddr, asAddr] using q1
          · cases h1
      obtain ⟨v', q1, q2⟩ := this
      refine ⟨v' :: l', .cons q1 k1, ?_⟩
      simp only [List.mapM_cons]
      simp only [Sem.run_bind, q2, k2, Result.andThen_ok]
      rfl
    · cases he
theorem results_eq (fn : Func) (u : Array Value) : results fn u = (do let vs ← (List.toArray <$> fn.results.toList.mapM (res1 u)); pure (if h : vs.size = 1 then vs[0] else .tuple vs)) := by
  unfold results
  have e : fn.results = fn.results.toList.toArray := by simp
  rw [e]
  simp only [List.mapM_toArray]
  congr 2
theorem aresults_ok {fn : Func} {t : Fr} {u : Array Value} {v : Value} (h : MRep base R m w) (ht : FRels R t u) (he : aresults P fn t m = some v) : ∃ v', Rel R v v' ∧ (results fn u).run P w = .ok v' w := by
  unfold aresults at he
  cases hl : aresultL P t m fn.results.toList with
  | none => simp [hl] at he
  | some l =>
    simp only [hl, Option.map_some, Option.some.injEq] at he
    obtain ⟨l', k1, k2⟩ := aresultL_ok (P := P) h ht _ _ hl
    have hrun : (results fn u).run P w = .ok (if h : l'.toArray.size = 1 then l'.toArray[0] else .tuple l'.toArray) w := by
      rw [results_eq]
      simp only [map_eq_pure_bind, Sem.run_bind, k2, Result.andThen_ok]
      rfl
    refine ⟨_, ?_, hrun⟩
    subst he
    match l, l', k1 with
    | [], [], _ => exact .tuple _ _ rfl (fun i hi => absurd hi (by simp))
    | [x], [y], k1 =>
      obtain ⟨v', e1, e2⟩ := k1.2 0 x rfl
      simp at e1; subst e1
      simpa using e2
    | x :: y :: r, x' :: y' :: r', k1 =>
      have := k1.rels
      simpa using Rel.tuple _ _ this.1 this.2
    | [], _ :: _, k1 => have := k1.1; simp at this
    | [_], [], k1 => have := k1.1; simp at this
    | [_], _ :: _ :: _, k1 => have := k1.1; simp at this
    | _ :: _ :: _, [], k1 => have := k1.1; simp at this
    | _ :: _ :: _, [_], k1 => have := k1.1; simp at this
theorem fill_size : ∀ (l : List Value) (t : Fr) (i : Nat), (t.fill i l).size = t.size
  | [], _, _ => rfl
  | v :: l, t, i => by rw [Fr.fill, fill_size]; unfold Fr.set; split <;> rfl
theorem start_size {n : Nat} {args : Array Value} : Fr.start n args = ⟨n, (Fr.start n args).tr⟩ := by
  have : (Fr.start n args).size = n := fill_size _ _ _
  conv => lhs; rw [show Fr.start n args = ⟨(Fr.start n args).size, (Fr.start n args).tr⟩ from rfl, this]
theorem acallW_ok {run : RunF} (hr : RunOk P run) : CallFOk P (acallW P run) := by
  refine ⟨fun f args m v m' he => ?_, fun f args m v m' he => ?_⟩
  · unfold acallW at he
    split at he
    · rename_i fn hf
      split at he
      · rename_i c hb
        split at he
        · cases he
        · rename_i e t m1 hne hrun
          cases hv : aresults P fn t m1 with
          | none => simp [hv] at he
          | some v1 =>
            simp only [hv, Option.map_some, Option.some.injEq, Prod.mk.injEq] at he
            obtain ⟨rfl, rfl⟩ := he
            split at hrun
            case isFalse => cases hrun
            rename_i hsz
            rw [fTr_eq, ← start_size] at hrun
            obtain ⟨hx, hw⟩ := hr _ _ _ _ _ _ hrun
            refine ⟨hx, fun base R w args' hbase hm hargs => ?_⟩
            refine calls_of_wp hf hb ?_
            have h0 := FRels.start hargs hsz
            refine wp_mono (hw base R ⟨args' ++ Array.replicate (fn.ntmps - args'.size) undef, []⟩ w hbase hm h0) ?_
            rintro ex a' w' ⟨rfl, hd, R', q1, q2, q3⟩
            obtain ⟨v', r1, r2⟩ := aresults_ok (P := P) q2.rep q1 hv
            have hans : ∃ v'' R'', Ending.returned v' = .returned v'' ∧ Rel R'' v1 v'' ∧ Post base m m1 R R'' w w' ∧ Fresh m R R'' := ⟨v', R', rfl, r1, q2, q3⟩
            cases e with
            | normal => exact ⟨hd, v', r2, hans⟩
            | ret => exact ⟨hd, v', r2, hans⟩
            | exit id => exact (hne id rfl).elim
        · cases he
      · cases he
    · cases he
  · unfold acallW at he
    split at he
    · rename_i fn hf
      split at he
      · rename_i c hb
        exact ⟨fn, c, hf, hb⟩
      · cases he
    · cases he
theorem acallG_ok {run : RunF} (hr : RunOk P run) : CallFOk P (acallG P run) := by
  have hw := acallW_ok hr
  refine ⟨fun f args m v m' he => ?_, fun f args m v m' he => ?_⟩
  · unfold acallG at he
    split at he
    · rename_i hg
      split at he
      · rename_i v1 m1 h1
        split at he
        · rename_i hv
          simp only [Option.some.injEq, Prod.mk.injEq] at he
          obtain ⟨rfl, rfl⟩ := he
          refine ⟨.refl, fun base R w args' hbase hm hargs => ?_⟩
          have hm0 := MRep.nil w.heap.size w
          have he : args' = args := ext_getD hargs.1.symm fun i hi => g1_eq (all_getD hg (by rw [hargs.1]; exact hi)) (hargs.2 i (by rw [hargs.1]; exact hi))
          subst he
          refine ((hw.ok _ _ _ _ _ h1).2 w.heap.size _ w args' (Nat.le_refl _) hm0 ⟨rfl, fun i hi => g1_rel (all_getD hg hi)⟩).mono ?_
          rintro e w' ⟨v', R', rfl, k1, k2, _⟩
          have hb := k2.below hm0 (Nat.le_refl _)
          refine ⟨v', R, rfl, by rw [g1_eq hv k1]; exact g1_rel hv, ⟨.refl R, hm.kept hb.block, hb.os, hb.tape, hb.output, hb.size, fun k hk _ => hb.block k hk, fun _ h => .inr h⟩, .refl⟩
        · exact hw.ok _ _ _ _ _ he
      · cases he
    · exact hw.ok _ _ _ _ _ he
  · unfold acallG at he
    split at he
    · split at he
      · rename_i v1 m1 h1
        exact hw.body _ _ _ _ _ h1
      · cases he
    · exact hw.body _ _ _ _ _ he
theorem leaves_refl {t : Fr} {a : Act} (hm : MRep base R m w) (ht : FRels R t a.tmps) : Leaves base R m a w t m a w := ⟨rfl, R, ht, .refl hm, .refl⟩
theorem Leaves.trans {t : Fr} {m' m'' : AM} {a a' a'' : Act} {w' w'' : World} {R' : Pl} (hp : Post base m m' R R' w w') (hd : a'.defers = a.defers) (hf : Fresh m R R') (hl : m.length ≤ m'.length) (h : Leaves base R' m' a' w' t m'' a'' w'') :
    Leaves base R m a w t m'' a'' w'' := by
  obtain ⟨h1, R2, h2, h3, h4⟩ := h
  exact ⟨h1.trans hd, R2, h2, hp.trans h3, hf.trans h4 hl⟩
theorem run_ok (hP : Fit P) : ∀ n, RunOk P (runCode P n) := by
  intro n
  induction n using Nat.strongRecOn with
  | _ n ih =>
  cases n with
  | zero => intro c t m e t' m' he; simp [runCode] at he
  | succ n =>
    have ihn := ih n (Nat.lt_succ_self n)
    have hcall := acallG_ok ihn
    intro c t m e t' m' he
    cases c with
    | skip =>
      simp only [runCode, Option.some.injEq, Prod.mk.injEq] at he
      obtain ⟨rfl, rfl, rfl⟩ := he
      exact ⟨.refl, fun base R a w hb hm ht => wp_skip ⟨rfl, leaves_refl hm ht⟩⟩
    | label l =>
      simp only [runCode, Option.some.injEq, Prod.mk.injEq] at he
      obtain ⟨rfl, rfl, rfl⟩ := he
      exact ⟨.refl, fun base R a w hb hm ht => wp_label ⟨rfl, leaves_refl hm ht⟩⟩
    | exit id =>
      simp only [runCode, Option.some.injEq, Prod.mk.injEq] at he
      obtain ⟨rfl, rfl, rfl⟩ := he
      exact ⟨.refl, fun base R a w hb hm ht => wp_exit ⟨rfl, leaves_refl hm ht⟩⟩
    | ret =>
      simp only [runCode, Option.some.injEq, Prod.mk.injEq] at he
      obtain ⟨rfl, rfl, rfl⟩ := he
      exact ⟨.refl, fun base R a w hb hm ht => wp_ret ⟨rfl, leaves_refl hm ht⟩⟩
    | region id ops draw =>
      simp only [runCode] at he
      cases draw with
      | true =>
        simp only [if_true] at he
        cases hd : adraw P (acallG P (runCode P n)) ops t m with
        | none => rw [hd] at he; cases he
        | some r =>
          obtain ⟨t1, m1⟩ := r
          rw [hd] at he
          simp only [Option.map_some, Option.some.injEq, Prod.mk.injEq] at he
          obtain ⟨rfl, rfl, rfl⟩ := he
          obtain ⟨h1, h2⟩ := adraw_ok hP hcall hd
          exact ⟨h1, fun base R a w hb hm ht => h2 base R a w id hb hm ht⟩
      | false =>
        simp only [Bool.false_eq_true, if_false] at he
        cases hd : arunOps P (acallG P (runCode P n)) ops ops.toList t m with
        | none => rw [hd] at he; cases he
        | some r =>
          obtain ⟨t1, m1⟩ := r
          rw [hd] at he
          simp only [Option.map_some, Option.some.injEq, Prod.mk.injEq] at he
          obtain ⟨rfl, rfl, rfl⟩ := he
          refine ⟨arunOps_ext hcall _ _ _ _ _ hd, fun base R a w hb hm ht => wp_region ?_⟩
          rw [List.range_eq_range', ← Array.length_toList]
          refine arunOps_ok hP hcall ops.toList 0 t m t1 m1 (by simp) hd R a w hb hm ht ?_
          intro R' a' w' k1 k2 k3 k4
          exact ⟨rfl, k2, R', k1, k3, k4⟩
    | seq x y =>
      simp only [runCode] at he
      cases hx : runCode P n x t m with
      | none => rw [hx] at he; cases he
      | some r =>
        obtain ⟨e1, t1, m1⟩ := r
        rw [hx] at he
        obtain ⟨x1, x2⟩ := ihn _ _ _ _ _ _ hx
        cases e1 with
        | normal =>
          simp only at he
          obtain ⟨y1, y2⟩ := ihn _ _ _ _ _ _ he
          refine ⟨x1.trans y1, fun base R a w hb hm ht => wp_seq (wp_mono (x2 base R a w hb hm ht) ?_)⟩
          rintro ex a1 w1 ⟨rfl, hd, R1, k1, k2, k3⟩
          refine wp_mono (y2 base R1 a1 w1 (Nat.le_trans hb k2.size) k2.rep k1) ?_
          rintro ex a2 w2 ⟨h1, h2⟩
          exact ⟨h1, h2.trans k2 hd k3 x1.1⟩
        | exit id =>
          simp only [Option.some.injEq, Prod.mk.injEq] at he
          obtain ⟨rfl, rfl, rfl⟩ := he
          refine ⟨x1, fun base R a w hb hm ht => wp_seq (wp_mono (x2 base R a w hb hm ht) ?_)⟩
          rintro ex a1 w1 ⟨rfl, h⟩
          exact ⟨rfl, h⟩
        | ret =>
          simp only [Option.some.injEq, Prod.mk.injEq] at he
          obtain ⟨rfl, rfl, rfl⟩ := he
          refine ⟨x1, fun base R a w hb hm ht => wp_seq (wp_mono (x2 base R a w hb hm ht) ?_)⟩
          rintro ex a1 w1 ⟨rfl, h⟩
          exact ⟨rfl, h⟩
    | cond c x y =>
      simp only [runCode] at he
      split at he
      · rename_i hok
        split at he
        · rename_i q hq
          obtain ⟨x1, x2⟩ := ihn _ _ _ _ _ _ he
          refine ⟨x1, fun base R a w hb hm ht => ?_⟩
          have hc := aev_rel ht hok
          rw [hq] at hc
          generalize hz : a.eval c = z at hc
          cases hc
          exact wp_cond hz (x2 base R a w hb hm ht)
        · cases he
      · cases he
    | block id body =>
      simp only [runCode] at he
      cases hx : runCode P n body t m with
      | none => rw [hx] at he; cases he
      | some r =>
        obtain ⟨e1, t1, m1⟩ := r
        rw [hx] at he
        obtain ⟨x1, x2⟩ := ihn _ _ _ _ _ _ hx
        cases e1 with
        | normal =>
          simp only [Option.some.injEq, Prod.mk.injEq] at he
          obtain ⟨rfl, rfl, rfl⟩ := he
          refine ⟨x1, fun base R a w hb hm ht => wp_block (wp_mono (x2 base R a w hb hm ht) ?_)⟩
          rintro ex a1 w1 ⟨rfl, h⟩
          exact ⟨rfl, h⟩
        | exit id' =>
          simp only at he
          split at he
          · rename_i hid
            simp only [Option.some.injEq, Prod.mk.injEq] at he
            obtain ⟨rfl, rfl, rfl⟩ := he
            refine ⟨x1, fun base R a w hb hm ht => wp_block (wp_mono (x2 base R a w hb hm ht) ?_)⟩
            rintro ex a1 w1 ⟨rfl, h⟩
            simp only [AEx.to, Exit.inBlock, hid, if_true]
            exact ⟨trivial, h⟩
          · rename_i hid
            simp only [Option.some.injEq, Prod.mk.injEq] at he
            obtain ⟨rfl, rfl, rfl⟩ := he
            refine ⟨x1, fun base R a w hb hm ht => wp_block (wp_mono (x2 base R a w hb hm ht) ?_)⟩
            rintro ex a1 w1 ⟨rfl, h⟩
            simp only [AEx.to, Exit.inBlock, hid, if_false]
            exact ⟨trivial, h⟩
        | ret =>
          simp only [Option.some.injEq, Prod.mk.injEq] at he
          obtain ⟨rfl, rfl, rfl⟩ := he
          refine ⟨x1, fun base R a w hb hm ht => wp_block (wp_mono (x2 base R a w hb hm ht) ?_)⟩
          rintro ex a1 w1 ⟨rfl, h⟩
          exact ⟨rfl, h⟩
    | loop body =>
      -- the places do not hang on the rounds' worlds
      have ext : ∀ k, k ≤ n + 1 → ∀ t m e t' m', runCode P k (.loop body) t m = some (e, t', m') → Ext m m' := by
        intro k
        induction k with
        | zero => intro _ t m e t' m' h; simp [runCode] at h
        | succ k ihk =>
          intro hk t m e t' m' h
          simp only [runCode] at h
          cases hx : runCode P k body t m with
          | none => rw [hx] at h; cases h
          | some r =>
            obtain ⟨e1, t1, m1⟩ := r
            rw [hx] at h
            have x1 := (ih k (by omega) _ _ _ _ _ _ hx).1
            cases e1 with
            | normal => exact x1.trans (ihk (by omega) _ _ _ _ _ h)
            | exit id => simp only [Option.some.injEq, Prod.mk.injEq] at h; obtain ⟨_, _, rfl⟩ := h; exact x1
            | ret => simp only [Option.some.injEq, Prod.mk.injEq] at h; obtain ⟨_, _, rfl⟩ := h; exact x1
      refine ⟨ext _ (Nat.le_refl _) _ _ _ _ _ he, fun base R a w hb hm ht => ?_⟩
      refine wp_loop_ghost (fun k a1 w1 => k ≤ n + 1 ∧ ∃ t1 m1 R1, runCode P k (.loop body) t1 m1 = some (e, t', m') ∧ FRels R1 t1 a1.tmps ∧ a1.defers = a.defers ∧ Post base m m1 R R1 w w1 ∧ Fresh m R R1 ∧ m.length ≤ m1.length)
        (n + 1) ⟨Nat.le_refl _, t, m, R, he, ht, rfl, .refl hm, .refl, Nat.le_refl _⟩ ?_
      rintro k a1 w1 ⟨hk, t1, m1, R1, h1, h2, h3, h4, h5, h6⟩
      cases k with
      | zero => simp [runCode] at h1
      | succ k =>
        simp only [runCode] at h1
        cases hx : runCode P k body t1 m1 with
        | none => rw [hx] at h1; cases h1
        | some r =>
          obtain ⟨e2, t2, m2⟩ := r
          rw [hx] at h1
          obtain ⟨x1, x2⟩ := ih k (by omega) _ _ _ _ _ _ hx
          refine wp_mono (x2 base R1 a1 w1 (Nat.le_trans hb h4.size) h4.rep h2) ?_
          rintro ex a2 w2 ⟨rfl, hd, R2, q1, q2, q3⟩
          cases e2 with
          | normal => exact ⟨k, by omega, by omega, t2, m2, R2, h1, q1, hd.trans h3, h4.trans q2, h5.trans q3 h6, Nat.le_trans h6 x1.1⟩
          | exit id =>
            simp only [Option.some.injEq, Prod.mk.injEq] at h1
            obtain ⟨rfl, rfl, rfl⟩ := h1
            exact ⟨rfl, hd.trans h3, R2, q1, h4.trans q2, h5.trans q3 h6⟩
          | ret =>
            simp only [Option.some.injEq, Prod.mk.injEq] at h1
            obtain ⟨rfl, rfl, rfl⟩ := h1
            exact ⟨rfl, hd.trans h3, R2, q1, h4.trans q2, h5.trans q3 h6⟩
    | _ => simp [runCode] at he
/-- A CALL THAT TAKES NO MEMORY: what the abstract run gives is what it returns, on every schedule. -/
theorem closed_call (hP : Fit P) {n f : Nat} {args : Array Value} {v : Value} (hg : args.all g1 = true) (hv : g1 v = true) (h : (acallW P (runCode P n) f args []).map (·.1) = some v) (w : World) :
    Calls P f args w fun e w' => e = .returned v ∧ Below w.heap.size w w' := by
  cases hr : acallW P (runCode P n) f args [] with
  | none => rw [hr] at h; cases h
  | some r =>
    obtain ⟨v1, m'⟩ := r
    rw [hr] at h
    simp only [Option.map_some, Option.some.injEq] at h
    subst h
    have hm := MRep.nil w.heap.size w
    refine (((acallW_ok (run_ok hP n)).ok _ _ _ _ _ hr).2 w.heap.size _ w args (Nat.le_refl _) hm ⟨rfl, fun i hi => g1_rel (all_getD hg hi)⟩).mono ?_
    rintro e w' ⟨v', R', rfl, k1, k2, _⟩
    rw [g1_eq hv k1]
    exact ⟨rfl, k2.below hm (Nat.le_refl _)⟩
end
end Go.Proofs.Ytmomjannlnafcaa.Sim
