import Derived.Test.YtmomjannlnafcaaSim9
namespace Go.Proofs.Ytmomjannlnafcaa.Sim
set_option linter.unusedSimpArgs false
set_option linter.unusedVariables false
open Go.RowKit
section
variable {P : Program} {base : Nat} {R : Pl} {m : AM} {w : World} {n : Nat}
/-- What an operation yields from the memory that is held. -/
def aval (P : Program) (ops : Array Oper) (mh : AM) (t : Fr) (o : Oper) : Option Value :=
  if Region.wanted o (ayielded ops t) then (if o.op.operands.all okOperand then aquiet P o (aev t) mh else none) else some undef
def dstep (P : Program) (call : CallF) (N i : Nat) (o : Oper) (t : Fr) (m : AM) : Option (Value × AM) :=
  if o.op.operands.all okOperand then
    match acallee o t with
    | some (f, args) => call f args m
    | none => aop P o (aev t) m (N + i)
  else none
/-- One operation that is not merely read, whichever way. -/
def dgo (P : Program) (call : CallF) (ops : Array Oper) (N : Nat) (next : Fr → AM → Option (Fr × AM)) (t : Fr) (m : AM) (i : Nat) : Option (Fr × AM) :=
  match ops[i]? with
  | some o =>
    if Region.wanted o (ayielded ops t) then
      match dstep P call N i o t m with
      | some (v, m') => fput t o.dst v fun t => fM m' fun m => next t m
      | none => none
    else fput t o.dst undef fun t => next t m
  | none => none
/-- What of an operation hangs on the text alone: what it waits for, and that it may be taken first. -/
structure SRow where
  i : Nat
  o : Oper
  mask : Nat
  fr : Bool
def maskOf (o : Oper) : Nat := o.after.toList.foldl (fun s e => if Region.binds .any e then s ||| 2 ^ e.on else s) 0
def frOf (ops : Array Oper) (i : Nat) (o : Oper) : Bool :=
  (List.range ops.size).all fun j => j == i || match ops[j]? with
    | some oj => (maskOf oj).testBit i || (maskOf o).testBit j || o.apart ops oj
    | none => true
def stat (ops : Array Oper) : List SRow := (List.range ops.size).filterMap fun i => (ops[i]?).map fun o => ⟨i, o, maskOf o, frOf ops i o⟩
def readyB (r : SRow) (L : Nat) : Bool := !L.testBit r.i && Nat.beq (r.mask &&& L) r.mask
/-- All that is merely read, as far as it may come up. -/
def passA (P : Program) (ops : Array Oper) (mh : AM) : List SRow → Nat → Nat → Fr → Option (Nat × Nat × Fr)
  | [], k, L, t => some (k, L, t)
  | r :: rest, k, L, t =>
    if readyB r L && r.fr then
      match aval P ops mh t r.o with
      | some v => match k with
        | 0 => none
        | k + 1 => fput t r.o.dst v fun t => fNat (L ||| 2 ^ r.i) fun L => passA P ops mh rest k L t
      | none => passA P ops mh rest k L t
    else passA P ops mh rest k L t
/-- All orders. -/
def en (P : Program) (call : CallF) (ops : Array Oper) (rows : List SRow) (N : Nat) (mh : AM) : Nat → Nat → Nat → Fr → AM → Option (Fr × AM)
  | 0, _, _, _, _ => none
  | f + 1, k, L, t, m =>
    match passA P ops mh rows k L t with
    | none => none
    | some (k, L, t) =>
      match rows.filter (readyB · L) with
      | [] => some (t, m)
      | r :: rest =>
        match k with
        | 0 => none
        | k + 1 =>
          match dgo P call ops N (fun t m => en P call ops rows N mh f k (L ||| 2 ^ r.i) t m) t m r.i with
          | none => none
          | some q =>
            if rest.all fun r' => match dgo P call ops N (fun t m => en P call ops rows N mh f k (L ||| 2 ^ r'.i) t m) t m r'.i with
              | some q' => beqR q' q
              | none => false
            then some q else none
theorem foldl_mask (l : List Edge) : ∀ (s j : Nat), (l.foldl (fun s e => if Region.binds .any e then s ||| 2 ^ e.on else s) s).testBit j = (s.testBit j || l.any fun e => Region.binds .any e && e.on == j) := by
  induction l with
  | nil => intro s j; simp
  | cons e l ih =>
    intro s j
    rw [List.foldl_cons, ih, List.any_cons]
    by_cases hb : Region.binds .any e = true
    · rw [if_pos hb, Nat.testBit_or, Nat.testBit_two_pow]
      have e1 : (e.on == j) = decide (e.on = j) := by by_cases h : e.on = j <;> simp [h]
      simp [hb, Bool.or_assoc, e1]
    · simp [hb]
theorem maskOf_bit (o : Oper) (j : Nat) : (maskOf o).testBit j = o.after.toList.any fun e => Region.binds .any e && e.on == j := by
  unfold maskOf; rw [foldl_mask]; simp
theorem sub_mask {a b : Nat} (h : Nat.beq (a &&& b) a = true) (j : Nat) (hj : a.testBit j = true) : b.testBit j = true := by
  have h1 : a &&& b = a := Nat.eq_of_beq_eq_true h
  have h2 : (a &&& b).testBit j = true := by rw [h1]; exact hj
  rw [Nat.testBit_and] at h2
  simp at h2; exact h2.2
structure RowOk (ops : Array Oper) (r : SRow) : Prop where
  at_ : ops[r.i]? = some r.o
  mask : r.mask = maskOf r.o
  fr : r.fr = true → frOf ops r.i r.o = true
theorem stat_ok (ops : Array Oper) : ∀ r ∈ stat ops, RowOk ops r := by
  intro r hr
  simp only [stat, List.mem_filterMap, List.mem_range] at hr
  obtain ⟨i, hi, h⟩ := hr
  cases ho : ops[i]? with
  | none => rw [ho] at h; cases h
  | some o =>
    rw [ho] at h
    simp only [Option.map_some, Option.some.injEq] at h
    subst h
    exact ⟨ho, rfl, fun h => h⟩
theorem stat_all (ops : Array Oper) {j : Nat} {o : Oper} (h : ops[j]? = some o) : ∃ r ∈ stat ops, r.i = j ∧ r.o = o := by
  have hj : j < ops.size := (Array.getElem?_eq_some_iff.1 h).1
  exact ⟨⟨j, o, maskOf o, frOf ops j o⟩, List.mem_filterMap.2 ⟨j, by simpa using hj, by rw [h]; rfl⟩, rfl, rfl⟩
/-- The list of what has come up, as a number. -/
def Lst (ops : Array Oper) (L : Nat) (listed : Array Bool) : Prop := listed.size = ops.size ∧ ∀ j, listed.getD j false = L.testBit j
theorem Lst.set {ops : Array Oper} {L : Nat} {listed : Array Bool} (h : Lst ops L listed) {i : Nat} (hi : i < ops.size) : Lst ops (L ||| 2 ^ i) (listed.setIfInBounds i true) := by
  refine ⟨by simpa using h.1, fun j => ?_⟩
  rw [Nat.testBit_or, Nat.testBit_two_pow]
  by_cases e : i = j
  · subst e
    have := h.1
    simp [show i < listed.size by omega]
  · rw [getD_set_ne false e, h.2 j]
    simp [e]
theorem ready_iff {ops : Array Oper} {L : Nat} {listed : Array Bool} (h : Lst ops L listed) {r : SRow} (hr : RowOk ops r) : r.i ∈ Region.ready .any ops listed ↔ readyB r L = true := by
  have hi : r.i < ops.size := (Array.getElem?_eq_some_iff.1 hr.at_).1
  have hl : r.i < listed.size := by rw [h.1]; exact hi
  have hun : listed.getD r.i true = L.testBit r.i := by rw [← h.2 r.i]; simp [hl]
  rw [mem_ready]
  unfold readyB
  rw [hun, Bool.and_eq_true]
  constructor
  · rintro ⟨h1, o, h2, h3⟩
    rw [hr.at_] at h2; injection h2 with h2; subst h2
    refine ⟨by simp [h1], ?_⟩
    have : r.mask &&& L = r.mask := by
      apply Nat.eq_of_testBit_eq
      intro j
      rw [Nat.testBit_and, hr.mask, maskOf_bit]
      by_cases hj : (r.o.after.toList.any fun e => Region.binds .any e && e.on == j) = true
      · rw [hj]
        obtain ⟨e, he, hb⟩ := List.any_eq_true.1 hj
        simp only [Bool.and_eq_true, beq_iff_eq] at hb
        have := h3 e (by simpa using he) hb.1
        rw [hb.2, h.2 j] at this
        simp [this]
      · simp only [Bool.not_eq_true] at hj; rw [hj]; rfl
    rw [this]; simp
  · rintro ⟨h1, h2⟩
    refine ⟨by simpa using h1, r.o, hr.at_, fun e he hb => ?_⟩
    rw [h.2]
    refine sub_mask h2 _ ?_
    rw [hr.mask, maskOf_bit]
    exact List.any_eq_true.2 ⟨e, by simpa using he, by simp [hb]⟩
theorem dstep_ext {call : CallF} (hc : CallsOk P call) {N i : Nat} {o : Oper} {t : Fr} {v : Value} {m' : AM} (he : dstep P call N i o t m = some (v, m')) : ExtBut (N + i) m m' := by
  unfold dstep at he
  split at he
  · split at he
    · have := (hc _ _ _ _ _ he).1
      exact ⟨this.1, fun j c hj _ h => this.2 j c hj h⟩
    · exact aop_ext he
  · cases he
theorem dstep_ok (hP : Fit P) {call : CallF} (hc : CallFOk P call) {N i : Nat} {o : Oper} {t : Fr} {a : Act} {v : Value} {m' : AM} (h : MRep base R m w) (hbase : base ≤ w.heap.size) (ht : FRels R t a.tmps) (hfree : m[N + i]? = some none) (hR : R (N + i) = none)
    (he : dstep P call N i o t m = some (v, m')) {next : Act → World → Prop} {Q : Exit → Act → World → Prop}
    (hn : ∀ R' v' w', Rel R' v v' → Post base m m' R R' w w' → (∀ j, j < m.length → j ≠ N + i → R' j = R j) → next (a.put o.dst v') w') : o.wp P a w next Q := by
  unfold dstep at he
  split at he
  · rename_i hok
    have hev : ∀ x ∈ o.op.operands, Rel R (aev t x) (a.eval x) := fun x hx => aev_rel ht (Array.all_eq_true'.1 hok x hx)
    split at he
    · rename_i f args hcal
      obtain ⟨fn, c, hf, hb⟩ := hc.body _ _ _ _ _ he
      obtain ⟨args', h1, h2⟩ := acallee_ok (w := w) hP ht hok hcal hf hb
      unfold Oper.wp
      rw [h2]
      refine ((hc.ok _ _ _ _ _ he).2 base R w args' hbase h h1).mono ?_
      rintro e w' ⟨v', R', rfl, k1, k2, k3⟩
      exact hn R' v' w' k1 k2 fun j hj _ => k3 j hj
    · obtain ⟨R', v', w', k1, k2, k3, k4⟩ := aop_ok h hbase (fun _ => ⟨hfree, hR⟩) hev he
      exact wp_of_does rfl k1 (hn R' v' w' k2 k3 fun j _ hne => k4 j hne)
  · cases he
/-- Where the places of the operations that have not come up stand. -/
def Waits (ops : Array Oper) (N : Nat) (listed : Array Bool) (m : AM) (R : Pl) : Prop := ∀ i, i < ops.size → listed.getD i false = false → m[N + i]? = some none ∧ R (N + i) = none
theorem ExtBut.none_ {m' : AM} (h : ExtBut n m m') {j : Nat} (hne : j ≠ n) (hj : m[j]? = some none) : m'[j]? = some none := by
  have hl : j < m.length := (List.getElem?_eq_some_iff.1 hj).1
  have hl' : j < m'.length := Nat.lt_of_lt_of_le hl h.1
  cases hm : m'[j]'hl' with
  | none => rw [List.getElem?_eq_getElem hl', hm]
  | some c =>
    obtain ⟨c0, h1, _⟩ := h.2 j c hl hne (by rw [List.getElem?_eq_getElem hl', hm])
    rw [hj] at h1; cases h1
/-- What stands at every point of the region. -/
structure Mid (P : Program) (base : Nat) (ops : Array Oper) (W : List Nat) (m0 : AM) (R0 : Pl) (w0 : World) (d0 : List Deferred) (L : Nat) (listed : Array Bool) (t : Fr) (m : AM) (R : Pl) (a : Act) (w : World) : Prop where
  lst : Lst ops L listed
  post : Post base (workM W ops.size m0) m R0 R w0 w
  fresh : Fresh m0 R0 R
  ext : ∀ (j : Nat) (c : Blk), j < m0.length → m[j]? = some (some c) → ∃ c0 : Blk, (workM W ops.size m0)[j]? = some (some c0) ∧ c.kind = c0.kind
  len : m0.length + ops.size ≤ m.length
  tmps : FRels R t a.tmps
  defers : a.defers = d0
  waits : Waits ops m0.length listed m R
theorem passA_ok {ops : Array Oper} (hsel : Region.noSelect ops = true) {W : List Nat} {m0 : AM} {R0 : Pl} {w0 : World} {d0 : List Deferred} (h0 : MRep base R0 m0 w0) {Q : Exit → Act → World → Prop} (hQp : ∀ c a w, ¬ Q (.panic c) a w) :
    ∀ (rows : List SRow), (∀ r ∈ rows, RowOk ops r) → ∀ (k L : Nat) (listed : Array Bool) (t : Fr) (m : AM) (R : Pl) (a : Act) (w : World) (k' L' : Nat) (t' : Fr), Mid P base ops W m0 R0 w0 d0 L listed t m R a w →
      passA P ops (heldM W m0) rows k L t = some (k', L', t') →
      (∀ listed' a', Mid P base ops W m0 R0 w0 d0 L' listed' t' m R a' w → wpAnyH P .any ops Q (HRep base R0 (heldM W m0)) k' listed' a' w) → wpAnyH P .any ops Q (HRep base R0 (heldM W m0)) k listed a w
  | [], _, k, L, listed, t, m, R, a, w, k', L', t', hm, he, hn => by
    simp only [passA, Option.some.injEq, Prod.mk.injEq] at he
    obtain ⟨rfl, rfl, rfl⟩ := he
    exact hn listed a hm
  | r :: rest, hrows, k, L, listed, t, m, R, a, w, k', L', t', hm, he, hn => by
    have hrest : ∀ r ∈ rest, RowOk ops r := fun r hr => hrows r (List.mem_cons_of_mem _ hr)
    have hr := hrows r (List.mem_cons_self ..)
    simp only [passA, fput_eq, fNat_eq] at he
    split at he
    · rename_i hc
      simp only [Bool.and_eq_true] at hc
      obtain ⟨hc1, hc2⟩ := hc
      split at he
      · rename_i v hv
        split at he
        · cases he
        · rename_i k
          have hi : r.i < ops.size := (Array.getElem?_eq_some_iff.1 hr.at_).1
          unfold aval at hv
          have hS : ∀ w2, HRep base R0 (heldM W m0) w2 → HRep base R (heldM W m0) w2 := fun w2 h2 i2 b2 hi2 => by
            obtain ⟨p, k1, k2⟩ := h2 i2 b2 hi2
            exact ⟨p, hm.post.le _ _ k1, k2.mono hm.post.le⟩
          have hSw := held_post h0 hm.post
          have hyv : ∃ v', Rel R v v' ∧ YieldsIf P ops (HRep base R0 (heldM W m0)) r.o v' a := by
            split at hv
            · rename_i hw
              split at hv
              · rename_i hok
                have hev : ∀ x ∈ r.o.op.operands, Rel R (aev t x) (a.eval x) := fun x hx => aev_rel hm.tmps (Array.all_eq_true'.1 hok x hx)
                obtain ⟨v', k1, k2⟩ := aquiet_ok (w := w) (hS w hSw) hev hv
                refine ⟨v', k2, .inl ⟨by rw [yielded_rel hm.tmps ops]; exact hw, fun w2 hw2 => ?_⟩⟩
                obtain ⟨v2, q1, q2⟩ := aquiet_ok (w := w2) (hS w2 hw2) hev hv
                rw [q1, q2.fn _ k2]
              · cases hv
            · rename_i hw
              injection hv with hv; subst hv
              exact ⟨undef, .undef R, .inr ⟨by rw [yielded_rel hm.tmps ops]; simpa using hw, rfl⟩⟩
          obtain ⟨v', hv1, hv2⟩ := hyv
          have hready := (ready_iff hm.lst hr).2 hc1
          have hfree : ∀ j oj, ops[j]? = some oj → j ≠ r.i → listed.getD j true = false → (∀ e ∈ oj.after, Region.binds .any e = true → e.on ≠ r.i) → r.o.apart ops oj = true := by
            intro j oj hoj hne hun hno
            have hf := hr.fr hc2
            unfold frOf at hf
            have := List.all_eq_true.1 hf j (by simpa using (Array.getElem?_eq_some_iff.1 hoj).1)
            rw [hoj] at this
            simp only [Bool.or_eq_true, beq_iff_eq] at this
            rcases this with e | (e | e) | e
            · exact absurd e hne
            · rw [maskOf_bit] at e
              obtain ⟨x, hx, hb⟩ := List.any_eq_true.1 e
              simp only [Bool.and_eq_true, beq_iff_eq] at hb
              exact absurd hb.2 (hno x (by simpa using hx) hb.1)
            · -- it waits for j, so j has come up
              have hb := hc1
              unfold readyB at hb
              simp only [Bool.and_eq_true] at hb
              have := sub_mask hb.2 j (by rw [hr.mask]; exact e)
              have hl : j < listed.size := by rw [hm.lst.1]; exact (Array.getElem?_eq_some_iff.1 hoj).1
              have h2 := hm.lst.2 j
              rw [this] at h2
              simp [hl] at hun h2
              rw [hun] at h2; cases h2
            · exact e
          refine wpAnyH_first hr.at_ (Region.noSelect_spec hsel) (fun c a w hq => absurd hq (hQp c _ w)) k listed a w hfree hready hv2 hSw ?_
          refine passA_ok hsel h0 hQp rest hrest k _ _ _ m R _ w k' L' t' ⟨hm.lst.set hi, hm.post, hm.fresh, hm.ext, hm.len, aput_rel hm.tmps r.o.dst hv1, (put_defers _ _ _).trans hm.defers, fun i2 hi2 hl2 => hm.waits i2 hi2 ?_⟩ he hn
          by_cases e : r.i = i2
          · subst e; simp [show r.i < listed.size by rw [hm.lst.1]; exact hi] at hl2
          · rwa [getD_set_ne false e] at hl2
      · exact passA_ok hsel h0 hQp rest hrest k L listed t m R a w k' L' t' hm he hn
    · exact passA_ok hsel h0 hQp rest hrest k L listed t m R a w k' L' t' hm he hn
theorem en_ok (hP : Fit P) {call : CallF} (hc : CallFOk P call) {ops : Array Oper} (hsel : Region.noSelect ops = true) {W : List Nat} {m0 : AM} {R0 : Pl} {w0 : World} {d0 : List Deferred} (h0 : MRep base R0 m0 w0) (hb0 : base ≤ w0.heap.size)
    {r : Fr × AM} {Q : Exit → Act → World → Prop} (hQp : ∀ c a w, ¬ Q (.panic c) a w)
    (hQ : ∀ R' a' w', FRels R' r.1 a'.tmps → a'.defers = d0 → Post base (workM W ops.size m0) r.2 R0 R' w0 w' → Fresh m0 R0 R' → Ext0 W ops.size m0 r.2 → Q .normal a' w') :
    ∀ (f k L : Nat) (listed : Array Bool) (t : Fr) (m : AM) (R : Pl) (a : Act) (w : World), Mid P base ops W m0 R0 w0 d0 L listed t m R a w →
      en P call ops (stat ops) m0.length (heldM W m0) f k L t m = some r → wpAnyH P .any ops Q (HRep base R0 (heldM W m0)) k listed a w := by
  intro f
  induction f with
  | zero => intro k L listed t m R a w hm he; simp [en] at he
  | succ f ih =>
    intro k L listed t m R a w hm he
    simp only [en] at he
    split at he
    · cases he
    · rename_i k L t hpass
      refine passA_ok hsel h0 hQp (stat ops) (stat_ok ops) _ _ _ _ m R a w _ _ _ hm hpass ?_
      clear hpass hm
      intro listed a hm
      have hmr := hm.post.rep
      have hb : base ≤ w.heap.size := Nat.le_trans hb0 hm.post.size
      split at he
      · rename_i hnone
        injection he with he
        subst he
        have hempty : Region.ready .any ops listed = [] := by
          apply List.eq_nil_iff_forall_not_mem.2
          intro j hj
          obtain ⟨_, oj, hoj, _⟩ := mem_ready.1 hj
          obtain ⟨r, hr, rfl, rfl⟩ := stat_all ops hoj
          have := (ready_iff hm.lst (stat_ok ops r hr)).1 hj
          have : r ∈ (stat ops).filter (readyB · L) := List.mem_filter.2 ⟨hr, this⟩
          rw [hnone] at this; cases this
        exact wpAnyH_done hempty (hQ R a w hm.tmps hm.defers hm.post hm.fresh ⟨hm.len, hm.ext⟩) _
      · rename_i r0 rest hrows
        split at he
        · cases he
        · rename_i k
          split at he
          · cases he
          · rename_i q hq
            split at he
            · rename_i hall
              injection he with he; subst he
              have hmem : ∀ r', r' ∈ r0 :: rest ↔ r' ∈ stat ops ∧ readyB r' L = true := fun r' => by rw [← hrows]; exact List.mem_filter
              have hr0 := (hmem r0).1 (List.mem_cons_self ..)
              have hne : Region.ready .any ops listed ≠ [] := by
                intro e
                have := (ready_iff hm.lst (stat_ok ops r0 hr0.1)).2 hr0.2
                rw [e] at this; cases this
              refine wpAnyH_all rfl hne fun j hj => ?_
              obtain ⟨hun, oj, hoj, _⟩ := mem_ready.1 hj
              obtain ⟨r', hr', rfl, rfl⟩ := stat_all ops hoj
              have hrd := (ready_iff hm.lst (stat_ok ops r' hr')).1 hj
              have hgo : dgo P call ops m0.length (fun t m => en P call ops (stat ops) m0.length (heldM W m0) f k (L ||| 2 ^ r'.i) t m) t m r'.i = some q := by
                rcases List.mem_cons.1 ((hmem r').2 ⟨hr', hrd⟩) with rfl | hin
                · exact hq
                · have := List.all_eq_true.1 hall r' hin
                  split at this
                  · rename_i q' hq'
                    rw [hq', beqR_eq this]
                  · cases this
              have hjs : r'.i < ops.size := (Array.getElem?_eq_some_iff.1 hoj).1
              have hlsz := hm.lst.1
              have hunf : listed.getD r'.i false = false := by
                have hlt : r'.i < listed.size := by omega
                simpa [hlt] using hun
              obtain ⟨hw1, hw2⟩ := hm.waits _ hjs hunf
              unfold dgo at hgo
              simp only [fput_eq, fM_eq] at hgo
              rw [hoj] at hgo
              simp only at hgo
              unfold wpOp
              simp only [hoj]
              rw [yielded_rel hm.tmps ops]
              have hwset : ∀ i2, i2 < ops.size → (listed.setIfInBounds r'.i true).getD i2 false = false → i2 ≠ r'.i ∧ listed.getD i2 false = false := by
                intro i2 hi2 hl2
                by_cases e : r'.i = i2
                · subst e; simp [show r'.i < listed.size by omega] at hl2
                · rw [getD_set_ne false e] at hl2
                  exact ⟨fun x => e x.symm, hl2⟩
              split at hgo
              · rename_i hw
                simp only [hw, if_true]
                refine .inl ?_
                split at hgo
                · rename_i v m1 hs
                  refine dstep_ok hP hc hmr hb hm.tmps hw1 hw2 hs ?_
                  intro R1 v1 w1 k1 k2 k3
                  have hpost1 := hm.post.trans k2
                  have hx := dstep_ext hc.ok hs
                  have hlen := hm.len
                  refine ⟨held_post h0 hpost1, ih _ _ _ _ _ R1 _ w1 ⟨hm.lst.set hjs, hpost1, fun j2 hj2 => ?_, fun j2 c hj2 hc2 => ?_, Nat.le_trans hlen hx.1, aput_rel (hm.tmps.mono k2.le) r'.o.dst k1, (put_defers _ _ _).trans hm.defers, fun i2 hi2 hl2 => ?_⟩ hgo⟩
                  · exact (k3 j2 (by omega) (by omega)).trans (hm.fresh j2 hj2)
                  · obtain ⟨c1, e1, e2⟩ := hx.2 j2 c (by omega) (by omega) hc2
                    obtain ⟨c0, e3, e4⟩ := hm.ext j2 c1 hj2 e1
                    exact ⟨c0, e3, e2.trans e4⟩
                  · obtain ⟨e1, e2⟩ := hwset i2 hi2 hl2
                    obtain ⟨e3, e4⟩ := hm.waits i2 hi2 e2
                    exact ⟨hx.none_ (by omega) e3, (k3 _ (by omega) (by omega)).trans e4⟩
                · cases hgo
              · rename_i hw
                simp only [hw]
                refine ⟨held_post h0 hm.post, ih _ _ _ _ _ R _ w ⟨hm.lst.set hjs, hm.post, hm.fresh, hm.ext, hm.len, aput_rel hm.tmps r'.o.dst (.undef R), (put_defers _ _ _).trans hm.defers, fun i2 hi2 hl2 => ?_⟩ hgo⟩
                obtain ⟨e1, e2⟩ := hwset i2 hi2 hl2
                exact hm.waits i2 hi2 e2
            · cases he
end
end Go.Proofs.Ytmomjannlnafcaa.Sim
