/- Words for memory: a slice that reads as a list of cells, nil let in; bytes; what is kept while new blocks are made. -/
import Derived.Test.YtabdnepfcohncaaProg
import Derived.Below
import Derived.Laws.OwnMore
import Derived.Deep.AppendLies
import Derived.Deep.Draws
import Derived.WalkKit
import Derived.Handy
import Derived.Lib.Hide
import Derived.Maps.AppendAt
import Derived.RegionTactic
import Derived.OwnWalk
import Derived.Deep.Cut
import Derived.Deep.CutRange
import Derived.Deep.CutBlock
import Derived.Deep.DeepCutAuto
import Derived.Deep.Light
import Derived.Deep.RegionLaw
import Derived.Deep.QuietTactic
import Derived.BigQuiet
import Derived.WalkSpells
import Derived.WalkLawsBesides
namespace Go.Proofs.Ytabdnepfcohncaa
open Go.RowKit

theorem block_of_add (a : Addr) (n : Nat) : (a.add n).block = a.block := by unfold Addr.add; split <;> rfl
theorem off_of_add (a : Addr) (n : Nat) : (a.add n).off = a.off + n := by
  unfold Addr.add
  by_cases h : n = 0 <;> simp [h]
theorem add_of_add (a : Addr) (i j : Nat) : (a.add i).add j = a.add (i + j) := by
  unfold Addr.add
  by_cases hi : i = 0 <;> by_cases hj : j = 0 <;> simp [hi, hj, Nat.add_assoc]

theorem add_pos (a : Addr) (n : Nat) (h : n ≠ 0) : a.add n = ⟨a.block, a.off + n, none⟩ := by simp [Addr.add, h]
/-- A cell of a struct in a row, as the walk writes its address. -/
theorem cell_at {w : World} {a : Addr} {i j : Nat} {u : Value} (h : w.cell? (a.add (i + j)) = some u) (hj : j ≠ 0) : w.cell? ⟨(a.add i).block, (a.add i).off + j, none⟩ = some u := by
  rw [← add_pos _ j hj, add_of_add]; exact h
/-- The slice value '.slice A n c' holds the cells xs ('size' cells each element) and lies below block B. -/
def Reads (w : World) (B size : Nat) (A : Option Addr) (n : Nat) (xs : List Value) : Prop :=
  xs.length = n * size ∧ (0 < n → ∃ ad, A = some ad ∧ ad.block < B ∧ ∀ j u, xs[j]? = some u → w.cell? (ad.add j) = some u)

section
variable {w w' : World} {B B' size n : Nat} {A : Option Addr} {xs : List Value}
theorem Reads.none_ : Reads w B size A 0 [] := ⟨by simp, fun h => absurd h (by omega)⟩
theorem Reads.at_ {k : Nat} (h : Reads w B 1 A n xs) (hk : k < n) : ∃ ad u, A = some ad ∧ ad.block < B ∧ xs[k]? = some u ∧ w.cell? (ad.add k) = some u := by
  obtain ⟨ad, e, hb, hc⟩ := h.2 (by omega)
  have hl : k < xs.length := by have := h.1; omega
  exact ⟨ad, xs[k], e, hb, List.getElem?_eq_getElem hl, hc k _ (List.getElem?_eq_getElem hl)⟩
theorem Reads.keep (h : Reads w B size A n xs) (hk : ∀ p : Addr, p.block < B → w'.cell? p = w.cell? p) : Reads w' B size A n xs :=
  ⟨h.1, fun hn => by
    obtain ⟨ad, e, hb, hc⟩ := h.2 hn
    exact ⟨ad, e, hb, fun j u hu => (hk _ (by rw [block_of_add]; exact hb)).trans (hc j u hu)⟩⟩
theorem Reads.more (h : Reads w B size A n xs) (hB : B ≤ B') : Reads w B' size A n xs :=
  ⟨h.1, fun hn => by
    obtain ⟨ad, e, hb, hc⟩ := h.2 hn
    exact ⟨ad, e, by omega, hc⟩⟩
theorem Reads.below (h : Reads w B size A n xs) (hb : Below B w w') : Reads w' B size A n xs := h.keep fun _ hp => hb.cell hp
theorem Reads.drew (h : Reads w B size A n xs) : Reads w.drew B size A n xs := h
theorem Reads.drewN (h : Reads w B size A n xs) (k : Nat) : Reads (w.drewN k) B size A n xs := h
theorem Reads.alloc (h : Reads w B size A n xs) (hB : B ≤ w.heap.size) (o : Obj) : Reads (w.alloc o) B size A n xs := h.keep fun p hp => World.cell?_alloc_lt w o p (by omega)
theorem Reads.setCell (h : Reads w B size A n xs) {p : Addr} (hB : B ≤ p.block) (u : Value) : Reads (w.setCell p u) B size A n xs :=
  h.keep fun q hq => World.cell?_setCell_other w p q u (fun e => by subst e; omega)
theorem Reads.grown (h : Reads w B size A n xs) {row : Option Nat} (hg : w.grownBy w' row) (hB : B ≤ w.heap.size) (hr : ∀ g, row = some g → B ≤ g) : Reads w' B size A n xs :=
  h.keep fun p hp => World.cell?_of_block (hg.block p.block (by omega) (fun e => by have := hr _ e.symm; omega))
theorem Reads.cut (h : Reads w B size A n xs) {k cap : Nat} (hk : k ≤ n) (hc : n ≤ cap) :
    Reads w B size (if cap = k then A else A.map (·.add (k * size))) (n - k) (xs.drop (k * size)) := by
  refine ⟨by rw [List.length_drop, h.1, Nat.sub_mul], fun hn => ?_⟩
  obtain ⟨ad, rfl, hb, hcell⟩ := h.2 (by omega)
  rw [if_neg (by omega)]
  refine ⟨ad.add (k * size), rfl, by rw [block_of_add]; exact hb, fun j u hu => ?_⟩
  rw [add_of_add]
  exact hcell _ u (by rw [← hu, List.getElem?_drop])
theorem Reads.take (h : Reads w B size A n xs) {k : Nat} (hk : k ≤ n) : Reads w B size A k (xs.take (k * size)) := by
  refine ⟨by rw [List.length_take, h.1]; exact Nat.min_eq_left (Nat.mul_le_mul_right _ hk), fun hn => ?_⟩
  obtain ⟨ad, rfl, hb, hcell⟩ := h.2 (by omega)
  refine ⟨ad, rfl, hb, fun j u hu => hcell j u ?_⟩
  rw [List.getElem?_take] at hu
  split at hu
  · exact hu
  · cases hu
theorem Reads.of_own {base : Nat} {e : TypeId} {c : Nat} (h : w.ownsRow base e size (.slice A n c) n xs) : Reads w w.heap.size size A n xs := by
  refine ⟨h.1, fun hn => ?_⟩
  obtain ⟨g, cap, hv, _, hlt⟩ := h.form hn
  have hA : A = some ⟨g, 0, none⟩ := by injection hv
  subst hA
  exact ⟨_, rfl, hlt, h.cells (g := g) rfl⟩
end

theorem RB_slice {w : World} {B n : Nat} {ad : Addr} {l : List UInt8} (h : Reads w B 1 (some ad) n (l.map fun b => Value.int .u8 b.toNat)) (k m : Nat) (hk : k + m ≤ n) :
    Reads w B 1 (some (ad.add k)) m (((l.drop k).take m).map fun b => Value.int .u8 b.toNat) := by
  refine ⟨?_, fun hn => ?_⟩
  · have := h.1; simp at this ⊢; omega
  · obtain ⟨ad', e, hb, hc⟩ := h.2 (by omega)
    injection e with e
    subst e
    refine ⟨_, rfl, by rw [block_of_add]; exact hb, fun j u hu => ?_⟩
    rw [add_of_add]
    refine hc _ u ?_
    rw [List.getElem?_map, List.getElem?_take] at hu
    split at hu
    · rw [List.getElem?_drop] at hu
      rw [List.getElem?_map]; exact hu
    · cases hu
/-- The length in a slot: for a loop's measure. -/
def lenOf : Value → Nat
  | .slice _ n _ => n
  | _ => 0
theorem ret_int {k : IntKind} {a b : Int} (h : a = b) : Ending.returned (.int k a) = .returned (.int k b) := by rw [h]
theorem int_eq {k : IntKind} {a b : Int} (h : a = b) : Value.int k a = Value.int k b := by rw [h]
theorem ret_bool {a b : Bool} (h : a = b) : Ending.returned (.bool a) = .returned (.bool b) := by rw [h]
/-- A byte as a cell. -/
def B8 (b : UInt8) : Value := .int .u8 b.toNat
def RB (w : World) (B : Nat) (A : Option Addr) (n : Nat) (l : List UInt8) : Prop := Reads w B 1 A n (l.map B8)
theorem RB.len {w : World} {B : Nat} {A : Option Addr} {n : Nat} {l : List UInt8} (h : RB w B A n l) : l.length = n := by simpa using h.1
theorem RB.cut {w : World} {B n : Nat} {ad : Addr} {l : List UInt8} (h : RB w B (some ad) n l) (k m : Nat) (hk : k + m ≤ n) : RB w B (some (ad.add k)) m ((l.drop k).take m) := RB_slice h k m hk
theorem RB.cut0 {w : World} {B n : Nat} {A : Option Addr} {l : List UInt8} (h : RB w B A n l) (m : Nat) (hk : m ≤ n) : RB w B A m (l.take m) := by
  have := Reads.take h hk
  unfold RB
  rw [List.map_take]
  simpa using this
theorem RB.zero (w : World) (B : Nat) (A : Option Addr) : RB w B A 0 [] := ⟨rfl, fun h => absurd h (by omega)⟩
theorem RB.some_ {w : World} {B n : Nat} {A : Option Addr} {l : List UInt8} (h : RB w B A n l) (hn : 0 < n) : ∃ ad, A = some ad ∧ ad.block < B := by
  obtain ⟨ad, e, hb, _⟩ := h.2 hn
  exact ⟨ad, e, hb⟩
theorem RB.below {w w' : World} {B B' n : Nat} {A : Option Addr} {l : List UInt8} (h : RB w B A n l) (hb : Below B' w w') (hB : B ≤ B') : RB w' B A n l := Reads.below h (hb.mono hB)
theorem RB.at_ {w : World} {B : Nat} {A : Option Addr} {n : Nat} {l : List UInt8} (h : RB w B A n l) {k : Nat} (hk : k < l.length) :
    ∃ ad, A = some ad ∧ ad.block < B ∧ w.cell? (ad.add k) = some (.int .u8 (l[k].toNat : Int)) := by
  obtain ⟨ad, u, e, hb, hx, hc⟩ := Reads.at_ h (by rw [← h.len]; exact hk)
  refine ⟨ad, e, hb, ?_⟩
  rw [hc, ← hx]
  simp [B8, hk]
section
variable {P : Program} (w : World)

theorem run_append_of_nil (base : Nat) (t ty e : TypeId) (i : TypeInfo) (size : Nat) (ht : P.underlying t = some (.slice e)) (hi : P.info? e = some i)
    (v : Value) (n : Nat) (xs : List Value) (hown : w.ownsRow base e size v n xs) (c : Nat) : (Builtin.append_ #[t, t] ty #[v, .slice none 0 c]).run P w = .ok v w := by
  rcases hown.2 with ⟨rfl, rfl⟩ | ⟨g, cap, cur, rfl, _, _, hnc, _⟩
  · simp [Builtin.append_, run_underlying ht, sizeOf, typeInfo, hi, Builtin.lenOf, Builtin.firstCells]
  · simp [Builtin.append_, run_underlying ht, sizeOf, typeInfo, hi, Builtin.lenOf, Builtin.firstCells, hnc, storeCells]

theorem run_append_any (base : Nat) (t ty e : TypeId) (i : TypeInfo) (z : Value) (size bytes : Nat) (ht : P.underlying t = some (.slice e)) (hi : P.info? e = some i) (hz : i.zero = some z)
    (hsize : i.size = size) (hby : i.bytes = bytes) (hzs : z.cells.size = size) (hsz : 0 < size)
    (v : Value) (n : Nat) (xs : List Value) (hown : w.ownsRow base e size v n xs)
    (B : Nat) (A : Option Addr) (m c : Nat) (news : List Value) (hr : Reads w B size A m news) (h1 : ∀ u ∈ news, u.oneCell' = true)
    (h63 : n + m ≤ maxLen) (hbytes : (n + m) * bytes ≤ 140737488355328) (hbase : base ≤ w.heap.size) :
    ∃ v' w', (Builtin.append_ #[t, t] ty #[v, .slice A m c]).run P w = .ok v' w' ∧ w'.ownsRow base e size v' (n + m) (xs ++ news) ∧ w.grownBy w' v.ownBlock ∧
      (v'.ownBlock = v.ownBlock ∨ v'.ownBlock = some w.heap.size) := by
  rcases A with _ | ad
  · have hm : m = 0 := by
      rcases Nat.eq_zero_or_pos m with h0 | h0
      · exact h0
      · obtain ⟨ad, h, _⟩ := hr.2 h0
        cases h
    subst hm
    have hn : news = [] := List.eq_nil_of_length_eq_zero (by simpa using hr.1)
    subst hn
    exact ⟨v, w, run_append_of_nil w base t ty e i size ht hi v n xs hown c, by simpa using hown, World.grownBy.refl w _, .inl rfl⟩
  · have hcells : ∀ j u, news[j]? = some u → w.cell? (ad.add j) = some u := by
      intro j u hu
      rcases Nat.eq_zero_or_pos m with h0 | h0
      · subst h0
        have hn : news = [] := List.eq_nil_of_length_eq_zero (by simpa using hr.1)
        subst hn
        simp at hu
      · obtain ⟨ad', h, _, hc⟩ := hr.2 h0
        injection h with h
        subst h
        exact hc j u hu
    obtain ⟨v', w', hrun, h2, h3, _, h5⟩ := run_append_own_at (P := P) w base t ty e i z size bytes ht hi hz hsize hby hzs hsz v n xs hown ad m c news hr.1 hcells h1 h63 hbytes hbase
    exact ⟨v', w', hrun, h2, h3, h5⟩

theorem wp_append_any {o : Oper} {a : Act} {K : Act → World → Prop} {Q : Exit → Act → World → Prop} (s x : Operand) (t : TypeId)
    (ho : o.op = .call { callee := .builtin .append, args := #[s, x], argTypes := #[t, t] })
    (base : Nat) (e : TypeId) (i : TypeInfo) (z : Value) (size bytes : Nat) (ht : P.underlying t = some (.slice e)) (hi : P.info? e = some i) (hz : i.zero = some z)
    (hsize : i.size = size) (hby : i.bytes = bytes) (hzs : z.cells.size = size) (hsz : 0 < size)
    (v : Value) (n : Nat) (xs : List Value) (hs : a.eval s = v) (hown : w.ownsRow base e size v n xs)
    (B : Nat) (A : Option Addr) (m c : Nat) (news : List Value) (hx : a.eval x = .slice A m c) (hr : Reads w B size A m news) (h1 : ∀ u ∈ news, u.oneCell' = true)
    (h63 : n + m ≤ maxLen) (hbytes : (n + m) * bytes ≤ 140737488355328) (hbase : base ≤ w.heap.size)
    (h : ∀ v' w', w'.ownsRow base e size v' (n + m) (xs ++ news) → w.grownBy w' v.ownBlock → (v'.ownBlock = v.ownBlock ∨ v'.ownBlock = some w.heap.size) → K (a.put o.dst v') w') : o.wp P a w K Q := by
  obtain ⟨v', w', hrun, h2, h3, h4⟩ := run_append_any (P := P) w base t o.type e i z size bytes ht hi hz hsize hby hzs hsz v n xs hown B A m c news hr h1 h63 hbytes hbase
  unfold Oper.wp execOp
  simp only [ho, resolve, invoke, builtin, Sem.run_bind, Sem.run_pure, Result.andThen_ok, List.map_toArray, List.map_cons, List.map_nil, hs, hx, hrun]
  exact h v' w' h2 h3 h4

theorem wpList_append_any {ops : Array Oper} {rest : List Oper} {o : Oper} {a : Act} {Q : Exit → Act → World → Prop} (hgd : o.guard = none) (s x : Operand) (t : TypeId)
    (ho : o.op = .call { callee := .builtin .append, args := #[s, x], argTypes := #[t, t] })
    (base : Nat) (e : TypeId) (i : TypeInfo) (z : Value) (size bytes : Nat) (ht : P.underlying t = some (.slice e)) (hi : P.info? e = some i) (hz : i.zero = some z)
    (hsize : i.size = size) (hby : i.bytes = bytes) (hzs : z.cells.size = size) (hsz : 0 < size)
    (v : Value) (n : Nat) (xs : List Value) (hs : a.eval s = v) (hown : w.ownsRow base e size v n xs)
    (B : Nat) (A : Option Addr) (m c : Nat) (news : List Value) (hx : a.eval x = .slice A m c) (hr : Reads w B size A m news) (h1 : ∀ u ∈ news, u.oneCell' = true)
    (h63 : n + m ≤ maxLen) (hbytes : (n + m) * bytes ≤ 140737488355328) (hbase : base ≤ w.heap.size)
    (h : ∀ v' w', w'.ownsRow base e size v' (n + m) (xs ++ news) → w.grownBy w' v.ownBlock → (v'.ownBlock = v.ownBlock ∨ v'.ownBlock = some w.heap.size) → wpList P ops Q rest (a.put o.dst v') w') : wpList P ops Q (o :: rest) a w :=
  wpList_plain hgd fun _ hK => wp_append_any w s x t ho base e i z size bytes ht hi hz hsize hby hzs hsz v n xs hs hown B A m c news hx hr h1 h63 hbytes hbase fun v' w' h2 h3 h4 => hK _ _ (h v' w' h2 h3 h4)

theorem step_append_any {ops : Array Oper} {o : Oper} {a : Act} {K : Act → World → Prop} {Q : Exit → Act → World → Prop} {E : Prop} (hgd : o.guard = none) (s x : Operand) (t : TypeId)
    (ho : o.op = .call { callee := .builtin .append, args := #[s, x], argTypes := #[t, t] })
    (base : Nat) (e : TypeId) (i : TypeInfo) (z : Value) (size bytes : Nat) (ht : P.underlying t = some (.slice e)) (hi : P.info? e = some i) (hz : i.zero = some z)
    (hsize : i.size = size) (hby : i.bytes = bytes) (hzs : z.cells.size = size) (hsz : 0 < size)
    (v : Value) (n : Nat) (xs : List Value) (hs : a.eval s = v) (hown : w.ownsRow base e size v n xs)
    (B : Nat) (A : Option Addr) (m c : Nat) (news : List Value) (hx : a.eval x = .slice A m c) (hr : Reads w B size A m news) (h1 : ∀ u ∈ news, u.oneCell' = true)
    (h63 : n + m ≤ maxLen) (hbytes : (n + m) * bytes ≤ 140737488355328) (hbase : base ≤ w.heap.size)
    (h : ∀ v' w', w'.ownsRow base e size v' (n + m) (xs ++ news) → w.grownBy w' v.ownBlock → (v'.ownBlock = v.ownBlock ∨ v'.ownBlock = some w.heap.size) → K (a.put o.dst v') w') :
    if Region.wanted o (yielded ops a.tmps) = true then Oper.wp P o a w K Q else E := by
  have hw : Region.wanted o (yielded ops a.tmps) = true := by simp [Region.wanted, hgd]
  rw [if_pos hw]
  exact wp_append_any w s x t ho base e i z size bytes ht hi hz hsize hby hzs hsz v n xs hs hown B A m c news hx hr h1 h63 hbytes hbase h
end

def Blk (w : World) (g : Nat) (t : TypeId) (cs : Array Value) : Prop := w.heap[g]? = some (.cells cs t (0, 0))

section
variable {w w' : World} {g : Nat} {t : TypeId} {cs : Array Value}
theorem Blk.lt (h : Blk w g t cs) : g < w.heap.size := by
  rcases Nat.lt_or_ge g w.heap.size with hlt | hge
  · exact hlt
  · unfold Blk at h; rw [Array.getElem?_eq_none hge] at h; cases h
theorem Blk.cell (h : Blk w g t cs) (i : Nat) : w.cell? ⟨g, i, none⟩ = cs[i]? := cell_of_row w g i cs t (0, 0) h
theorem Blk.frozen (h : Blk w g t cs) (i : Nat) : w.frozen? ⟨g, i, none⟩ = false := by
  unfold Blk at h
  simp [World.frozen?, h]
theorem Blk.new (w : World) (t : TypeId) (cs : Array Value) : Blk (w.alloc (.cells cs t)) w.heap.size t cs := heap_alloc_new w _
theorem Blk.drew (h : Blk w g t cs) : Blk w.drew g t cs := h
theorem Blk.drewN (h : Blk w g t cs) (n : Nat) : Blk (w.drewN n) g t cs := h
theorem Blk.alloc (h : Blk w g t cs) (o : Obj) : Blk (w.alloc o) g t cs := (Below.heap_alloc w o g h.lt).trans h
theorem Blk.set_ (h : Blk w g t cs) (i : Nat) (u : Value) : Blk (w.setCell ⟨g, i, none⟩ u) g t (cs.setIfInBounds i u) := by
  unfold Blk at h ⊢
  simp [World.setCell, Array.getElem?_modify, h]
theorem Blk.far (h : Blk w g t cs) {p : Addr} (hp : g ≠ p.block) (u : Value) : Blk (w.setCell p u) g t cs := (Below.heap_setCell w p u g hp).trans h
theorem Blk.below {B : Nat} (h : Blk w g t cs) (hb : Below B w w') (hg : g < B) : Blk w' g t cs := (hb.block g hg).trans h
theorem Blk.grown {row : Option Nat} (h : Blk w g t cs) (hb : w.grownBy w' row) (hg : some g ≠ row) : Blk w' g t cs := (hb.block g h.lt hg).trans h
theorem Blk.ne_ {g' : Nat} {t' : TypeId} {cs' : Array Value} (h : Blk w g t cs) (h' : Blk w g' t' cs') (hne : t ≠ t') : g ≠ g' := by
  rintro rfl
  unfold Blk at h h'
  rw [h] at h'
  injection h' with h'
  injection h' with _ ht
  exact hne ht
theorem own_blk_ne {base : Nat} {e : TypeId} {size n : Nat} {v : Value} {xs : List Value} (h : w.ownsRow base e size v n xs) (hg : Blk w g t cs) (hne : e ≠ t) : v.ownBlock ≠ some g := by
  rcases h.2 with ⟨rfl, _⟩ | ⟨g', cap, cur, rfl, _, hh, _⟩
  · simp [Value.ownBlock]
  · intro he
    have : g' = g := by simpa [Value.ownBlock] using he
    subst this
    exact Blk.ne_ (t := e) hh hg hne rfl
end

theorem own_info : (Try.prog.info? 5).map (fun i => (i.zero, i.size, i.bytes)) = some (some (.int .u8 0), 1, 1) := by kernel_rfl
theorem B8_one (l : List UInt8) : ∀ u ∈ l.map B8, u.oneCell' = true := by
  intro u hu
  obtain ⟨b, _, rfl⟩ := List.mem_map.1 hu
  rfl
/-- The bytes l, owned: a row of the call's own from block 'base' on. -/
def OB (w : World) (base : Nat) (v : Value) (l : List UInt8) : Prop := w.ownsRow base 5 1 v l.length (l.map B8)
theorem OB.nil (w : World) (base : Nat) : OB w base (.slice none 0 0) [] := World.ownsRow_nil _ _ _ _
theorem OB.read {w : World} {base n c : Nat} {A : Option Addr} {l : List UInt8} (h : OB w base (.slice A n c) l) : RB w w.heap.size A n l ∧ n = l.length := by
  have hn : n = l.length := by
    rcases h.2 with ⟨h1, h2⟩ | ⟨g, cap, cur, h1, _⟩
    · injection h1 with _ h3; omega
    · injection h1
  subst hn
  exact ⟨Reads.of_own h, rfl⟩
theorem OB.form {w : World} {base : Nat} {v : Value} {l : List UInt8} (h : OB w base v l) :
    ∃ A c, v = .slice A l.length c ∧ l.length ≤ c ∧ c ≤ maxLen ∧ (∀ ad, A = some ad → base ≤ ad.block) ∧ RB w w.heap.size A l.length l := by
  rcases h.2 with ⟨rfl, h2⟩ | ⟨g, cap, cur, rfl, hb, _, hc, hm, _⟩
  · have : l = [] := List.eq_nil_of_length_eq_zero h2
    subst this
    exact ⟨none, 0, rfl, Nat.le_refl _, by unfold maxLen; omega, by simp, Reads.none_⟩
  · exact ⟨_, cap, rfl, hc, hm, by rintro _ ⟨rfl⟩; exact hb, Reads.of_own h⟩
theorem OB.alloc {w : World} {base : Nat} {v : Value} {l : List UInt8} (h : OB w base v l) (o : Obj) : OB (w.alloc o) base v l := World.ownsRow.alloc h o
theorem OB.kept {w w' : World} {base : Nat} {v : Value} {l : List UInt8} {row : Option Nat} (h : OB w base v l) (hg : w.grownBy w' row) (hne : v.ownBlock = none ∨ v.ownBlock ≠ row) : OB w' base v l :=
  World.ownsRow.kept h hg hne
theorem reads_new (w : World) (cs : Array Value) (e : TypeId) (m : Nat × Nat) (n size : Nat) (xs : List Value) (h : cs.toList = xs) (hn : xs.length = n * size) :
    Reads (w.alloc (.cells cs e m)) (w.heap.size + 1) size (some ⟨w.heap.size, 0, none⟩) n xs := by
  refine ⟨hn, fun _ => ⟨_, rfl, by simp, fun j u hu => ?_⟩⟩
  have hadd : (⟨w.heap.size, 0, none⟩ : Addr).add j = ⟨w.heap.size, j, none⟩ := by unfold Addr.add; split <;> simp_all
  rw [hadd, cell_of_row _ w.heap.size j cs e m (heap_alloc_new w _), ← Array.getElem?_toList, h]
  exact hu
theorem RB_new (w : World) (cs : Array Value) (m : Nat × Nat) (l : List UInt8) (n : Nat) (h : cs.toList = l.map B8) (hn : l.length = n) :
    RB (w.alloc (.cells cs 5 m)) (w.heap.size + 1) (some ⟨w.heap.size, 0, none⟩) n l := reads_new w cs 5 m n 1 _ h (by simpa using hn)
/-- Only one row, and what is new, has turned: over one more step. -/
theorem grown_alloc {a w : World} {row : Option Nat} (h : a.grownBy w row) (o : Obj) : a.grownBy (w.alloc o) row :=
  ⟨h.os, h.tape, h.output, Nat.le_trans h.size (by simp), fun i hi hne => (Below.heap_alloc w o i (Nat.lt_of_lt_of_le hi h.size)).trans (h.block i hi hne)⟩
theorem grown_step {a w w' : World} {row row' : Option Nat} (h : a.grownBy w row) (k : w.grownBy w' row') (hr : row' = row ∨ ∃ g, row' = some g ∧ a.heap.size ≤ g) : a.grownBy w' row :=
  ⟨k.os.trans h.os, k.tape.trans h.tape, k.output.trans h.output, Nat.le_trans h.size k.size, fun i hi hne => by
    refine (k.block i (Nat.lt_of_lt_of_le hi h.size) ?_).trans (h.block i hi hne)
    rcases hr with e | ⟨g, e, hg⟩
    · rw [e]; exact hne
    · rw [e]; intro e2; injection e2 with e2; omega⟩
/-- A value that owns a row has gone from v to v', the world from w to w': nothing but v's row, and what is new, has turned. -/
structure Up (w : World) (v : Value) (w' : World) (v' : Value) : Prop where
  grown : w.grownBy w' v.ownBlock
  own : v'.ownBlock = v.ownBlock ∨ ∃ g, v'.ownBlock = some g ∧ w.heap.size ≤ g
section
variable {w w' w'' : World} {v v' v'' : Value}
theorem Up.refl (w : World) (v : Value) : Up w v w v := ⟨World.grownBy.refl _ _, .inl rfl⟩
theorem Up.size (h : Up w v w' v') : w.heap.size ≤ w'.heap.size := h.grown.size
theorem Up.trans (h : Up w v w' v') (k : Up w' v' w'' v'') : Up w v w'' v'' := by
  refine ⟨grown_step h.grown k.grown h.own, ?_⟩
  rcases k.own with e | ⟨g, e, hg⟩
  · rw [e]; exact h.own
  · exact .inr ⟨g, e, Nat.le_trans h.size hg⟩
theorem Up.alloc (h : Up w v w' v') (o : Obj) : Up w v (w'.alloc o) v' := ⟨grown_alloc h.grown o, h.own⟩
theorem Up.drew (h : Up w v w' v') : Up w v w'.drew v' := ⟨⟨h.grown.os, h.grown.tape, h.grown.output, h.grown.size, h.grown.block⟩, h.own⟩
theorem Up.other (h : Up w v w' v') (k : Below w'.heap.size w' w'') : Up w v w'' v' :=
  ⟨⟨k.os.trans h.grown.os, k.tape.trans h.grown.tape, k.output.trans h.grown.output, Nat.le_trans h.size k.size,
    fun i hi hne => (k.block i (Nat.lt_of_lt_of_le hi h.size)).trans (h.grown.block i hi hne)⟩, h.own⟩
theorem Up.below {base : Nat} (h : Up w v w' v') (hb : base ≤ w.heap.size) (hv : ∀ g, v.ownBlock = some g → base ≤ g) : Below base w w' :=
  ⟨h.grown.os, h.grown.tape, h.grown.output, h.size, fun k hk => h.grown.block k (by omega) (fun e => by have := hv k e.symm; omega)⟩
theorem Up.below_own {base size n : Nat} {e : TypeId} {xs : List Value} (h : Up w v w' v') (hb : base ≤ w.heap.size) (hv : w.ownsRow base e size v n xs) : Below base w w' :=
  h.below hb fun g hg => (hv.lt g hg).1
end
/-- What append asks of a slice type t over e. -/
structure SlT (t e size bytes : Nat) (z : Value) : Prop where
  und : Try.prog.underlying t = some (.slice e)
  info : ∃ i, Try.prog.info? e = some i ∧ i.zero = some z ∧ i.size = size ∧ i.bytes = bytes
  cells : z.cells.size = size
  pos : 0 < size
theorem SlT.mk' {t e size bytes : Nat} {z : Value} (und : Try.prog.underlying t = some (.slice e)) (h : (Try.prog.info? e).map (fun i => (i.zero, i.size, i.bytes)) = some (some z, size, bytes))
    (cells : z.cells.size = size) (pos : 0 < size) : SlT t e size bytes z := by
  obtain ⟨i, h1, h2, h3, h4⟩ := info_parts h
  exact ⟨und, ⟨i, h1, h2, h3, h4⟩, cells, pos⟩
theorem wpList_app {w : World} {ops : Array Oper} {rest : List Oper} {o : Oper} {a : Act} {Q : Exit → Act → World → Prop} {t e size bytes : Nat} {z : Value} (T : SlT t e size bytes z) (hgd : o.guard = none) (s x : Operand)
    (ho : o.op = .call { callee := .builtin .append, args := #[s, x], argTypes := #[t, t] }) {base : Nat}
    {v : Value} {n : Nat} {xs : List Value} (hs : a.eval s = v) (hown : w.ownsRow base e size v n xs) {B : Nat} {A : Option Addr} {m c : Nat} {news : List Value}
    (hx : a.eval x = .slice A m c) (hr : Reads w B size A m news) (h1 : ∀ u ∈ news, u.oneCell' = true) (h63 : (n + m) * bytes ≤ 140737488355328) (hm : n + m ≤ 140737488355328) (hbase : base ≤ w.heap.size)
    (h : ∀ v' w', w'.ownsRow base e size v' (n + m) (xs ++ news) → Up w v w' v' → wpList Try.prog ops Q rest (a.put o.dst v') w') : wpList Try.prog ops Q (o :: rest) a w := by
  obtain ⟨i0, hi, hz0, hz1, hz2⟩ := T.info
  refine wpList_append_any w hgd s x t ho base e i0 z size bytes T.und hi hz0 hz1 hz2 T.cells T.pos v n xs hs hown B A m c news hx hr h1 (by unfold maxLen; omega) h63 hbase ?_
  intro v' w' h1 h2 h3
  exact h v' w' h1 ⟨h2, h3.imp id fun e => ⟨_, e, Nat.le_refl _⟩⟩
theorem T8 : SlT 22 5 1 1 (.int .u8 0) := .mk' Try.underlying22 own_info rfl (by omega)
theorem info22 : (Try.prog.info? 22).map (fun i => (i.zero, i.size, i.bytes)) = some (some (.slice none 0 0), 1, 24) := by kernel_rfl
theorem TS : SlT 27 22 1 24 (.slice none 0 0) := .mk' Try.underlying27 info22 rfl (by omega)
theorem wpList_app8 {w : World} {ops : Array Oper} {rest : List Oper} {o : Oper} {a : Act} {Q : Exit → Act → World → Prop} (hgd : o.guard = none) (s x : Operand)
    (ho : o.op = .call { callee := .builtin .append, args := #[s, x], argTypes := #[22, 22] }) {base : Nat}
    {v : Value} {l : List UInt8} (hs : a.eval s = v) (hown : OB w base v l) {B : Nat} {A : Option Addr} {m c : Nat} {news : List UInt8}
    (hx : a.eval x = .slice A m c) (hr : RB w B A m news) (h63 : l.length + m ≤ 140737488355328) (hbase : base ≤ w.heap.size)
    (h : ∀ v' w', OB w' base v' (l ++ news) → Up w v w' v' → wpList Try.prog ops Q rest (a.put o.dst v') w') : wpList Try.prog ops Q (o :: rest) a w := by
  refine wpList_app T8 hgd s x ho hs hown hx hr (B8_one _) (by omega) h63 hbase ?_
  intro v' w' h1 h2
  have hm := hr.len
  refine h v' w' ?_ h2
  unfold OB
  rw [List.length_append, List.map_append, hm]
  exact h1

/-- Two lists, element by element. -/
def All2 {α β : Type} (R : α → β → Prop) : List α → List β → Prop
  | [], [] => True
  | a :: la, b :: lb => R a b ∧ All2 R la lb
  | _, _ => False
theorem All2.length {α β : Type} {R : α → β → Prop} : ∀ {l : List α} {m : List β}, All2 R l m → l.length = m.length
  | [], [], _ => rfl
  | _ :: _, _ :: _, h => by simp [All2.length h.2]
  | [], _ :: _, h => h.elim
  | _ :: _, [], h => h.elim
theorem All2.mono {α β : Type} {R S : α → β → Prop} (hRS : ∀ a b, R a b → S a b) : ∀ {l : List α} {m : List β}, All2 R l m → All2 S l m
  | [], [], _ => trivial
  | _ :: _, _ :: _, h => ⟨hRS _ _ h.1, All2.mono hRS h.2⟩
  | [], _ :: _, h => h.elim
  | _ :: _, [], h => h.elim
theorem All2.snoc {α β : Type} {R : α → β → Prop} {a : α} {b : β} (hab : R a b) : ∀ {l : List α} {m : List β}, All2 R l m → All2 R (l ++ [a]) (m ++ [b])
  | [], [], _ => ⟨hab, trivial⟩
  | _ :: _, _ :: _, h => ⟨h.1, All2.snoc hab h.2⟩
  | [], _ :: _, h => h.elim
  | _ :: _, [], h => h.elim
theorem All2.get {α β : Type} {R : α → β → Prop} : ∀ {l : List α} {m : List β}, All2 R l m → ∀ {i : Nat} (hl : i < l.length) (hm : i < m.length), R l[i] m[i]
  | _ :: _, _ :: _, h, 0, _, _ => h.1
  | _ :: _, _ :: _, h, i + 1, hl, hm => All2.get h.2 (i := i) (by simpa using hl) (by simpa using hm)
  | [], _ :: _, h, _, _, _ => h.elim
  | _ :: _, [], h, _, _, _ => h.elim
  | [], [], _, _, hl, _ => by simp at hl
theorem All2.drop {α β : Type} {R : α → β → Prop} : ∀ (k : Nat) {l : List α} {m : List β}, All2 R l m → All2 R (l.drop k) (m.drop k)
  | 0, _, _, h => h
  | _ + 1, [], [], _ => trivial
  | k + 1, _ :: _, _ :: _, h => All2.drop k h.2
  | _ + 1, [], _ :: _, h => h.elim
  | _ + 1, _ :: _, [], h => h.elim
/-- The slice value u reads as the bytes p, in blocks below B; where there is a byte, its block is none of 'x', and lo or later. -/
def BV (w : World) (B lo : Nat) (x : Option Nat) (u : Value) (p : List UInt8) : Prop :=
  ∃ A n c, u = .slice A n c ∧ n ≤ c ∧ c ≤ maxLen ∧ RB w B A n p ∧ (0 < n → ∀ ad, A = some ad → some ad.block ≠ x ∧ lo ≤ ad.block)
theorem BV.one {w : World} {B lo : Nat} {x : Option Nat} {u : Value} {p : List UInt8} (h : BV w B lo x u p) : u.oneCell' = true := by
  obtain ⟨A, n, c, rfl, _⟩ := h; rfl
theorem BV.below {w w' : World} {B lo : Nat} {x : Option Nat} {u : Value} {p : List UInt8} (h : BV w B lo x u p) (hb : Below B w w') : BV w' B lo x u p := by
  obtain ⟨A, n, c, rfl, h1, h2, h3, h4⟩ := h
  exact ⟨A, n, c, rfl, h1, h2, h3.below hb (Nat.le_refl _), h4⟩
theorem BV.more {w : World} {B B' lo : Nat} {x : Option Nat} {u : Value} {p : List UInt8} (h : BV w B lo x u p) (hb : B ≤ B') : BV w B' lo x u p := by
  obtain ⟨A, n, c, rfl, h1, h2, h3, h4⟩ := h
  exact ⟨A, n, c, rfl, h1, h2, h3.more hb, h4⟩
/-- Over a step that turns the row x alone; the row may go on to a new block. -/
theorem BV.up {w w' : World} {lo : Nat} {v v' u : Value} {p : List UInt8} (h : BV w w.heap.size lo v.ownBlock u p) (hu : Up w v w' v') : BV w' w'.heap.size lo v'.ownBlock u p := by
  obtain ⟨A, n, c, rfl, h1, h2, h3, h4⟩ := h
  refine ⟨A, n, c, rfl, h1, h2, ⟨h3.1, fun hn => ?_⟩, fun hn ad e => ⟨?_, (h4 hn ad e).2⟩⟩
  · obtain ⟨ad, rfl, hb, hc⟩ := h3.2 hn
    refine ⟨ad, rfl, Nat.lt_of_lt_of_le hb hu.size, fun j u hj => ?_⟩
    refine (World.cell?_of_block (hu.grown.block _ ?_ ?_)).trans (hc j u hj)
    · rw [block_of_add]; exact hb
    · rw [block_of_add]; exact (h4 hn ad rfl).1
  · obtain ⟨ad', e', hb, hc⟩ := h3.2 hn
    rcases hu.own with e2 | ⟨g, e2, hg⟩
    · rw [e2]; exact (h4 hn ad e).1
    · rw [e2]; intro e3; injection e3 with e3
      rw [e] at e'; injection e' with e'; subst e'; omega
theorem BV.of_OB {w : World} {base lo : Nat} {v : Value} {p : List UInt8} (x : Option Nat) (h : OB w base v p) (hx : ∀ g, x = some g → g < base) (hlo : lo ≤ base) : BV w w.heap.size lo x v p := by
  obtain ⟨A, c, rfl, h1, h2, h3, h4⟩ := h.form
  exact ⟨A, _, c, rfl, h1, h2, h4, fun hn ad e => ⟨fun e2 => by have := h3 ad e; have := hx _ e2.symm; omega, Nat.le_trans hlo (h3 ad e)⟩⟩
/-- A slice of slices of bytes, the outer row owned. -/
def OBs (w : World) (base : Nat) (v : Value) (ps : List (List UInt8)) : Prop :=
  ∃ vs, w.ownsRow base 22 1 v ps.length vs ∧ All2 (BV w w.heap.size base v.ownBlock) vs ps
theorem OBs.nil (w : World) (base : Nat) : OBs w base (.slice none 0 0) [] := ⟨[], World.ownsRow_nil _ _ _ _, trivial⟩
theorem OBs.below {w w' : World} {base : Nat} {v : Value} {ps : List (List UInt8)} (h : OBs w base v ps) (hb : Below w.heap.size w w') : OBs w' base v ps := by
  obtain ⟨vs, h1, h2⟩ := h
  refine ⟨vs, h1.kept (row := none) ⟨hb.os, hb.tape, hb.output, hb.size, fun k hk _ => hb.block k hk⟩ (by cases v.ownBlock <;> simp), ?_⟩
  exact All2.mono (fun a b hab => (hab.below hb).more hb.size) h2
/-- '.slice A n _' reads as the slices of bytes ps. -/
def RBs (w : World) (B : Nat) (A : Option Addr) (n : Nat) (ps : List (List UInt8)) : Prop := ∃ vs, ps.length = n ∧ Reads w B 1 A n vs ∧ All2 (BV w B 0 none) vs ps
theorem RBs.len {w : World} {B n : Nat} {A : Option Addr} {ps : List (List UInt8)} (h : RBs w B A n ps) : ps.length = n := by obtain ⟨_, h, _⟩ := h; exact h
theorem RBs.at_ {w : World} {B n : Nat} {A : Option Addr} {ps : List (List UInt8)} (h : RBs w B A n ps) {i : Nat} (hi : i < ps.length) :
    ∃ ad A' n' c', A = some ad ∧ ad.block < B ∧ w.cell? (ad.add i) = some (.slice A' n' c') ∧ n' ≤ c' ∧ c' ≤ maxLen ∧ RB w B A' n' ps[i] := by
  obtain ⟨vs, hl, hr, ha⟩ := h
  obtain ⟨ad, u, e, hb, hx, hc⟩ := hr.at_ (k := i) (by omega)
  have hlv : i < vs.length := by have := ha.length; omega
  obtain ⟨A', n', c', e', h1, h2, h3, _⟩ := ha.get hlv hi
  rw [List.getElem?_eq_getElem hlv] at hx
  injection hx with hx
  rw [← hx, e'] at hc
  exact ⟨ad, A', n', c', e, hb, hc, h1, h2, h3⟩
theorem RBs.below {w w' : World} {B B' n : Nat} {A : Option Addr} {ps : List (List UInt8)} (h : RBs w B A n ps) (hb : Below B' w w') (hB : B ≤ B') : RBs w' B A n ps := by
  obtain ⟨vs, hl, hr, ha⟩ := h
  exact ⟨vs, hl, hr.below (hb.mono hB), All2.mono (fun a b hab => hab.below (hb.mono hB)) ha⟩
theorem RBs.more {w : World} {B B' n : Nat} {A : Option Addr} {ps : List (List UInt8)} (h : RBs w B A n ps) (hB : B ≤ B') : RBs w B' A n ps := by
  obtain ⟨vs, hl, hr, ha⟩ := h
  exact ⟨vs, hl, hr.more hB, All2.mono (fun a b hab => hab.more hB) ha⟩
theorem OBs.form {w : World} {base : Nat} {v : Value} {ps : List (List UInt8)} (h : OBs w base v ps) :
    ∃ A c, v = .slice A ps.length c ∧ ps.length ≤ c ∧ c ≤ maxLen ∧ RBs w w.heap.size A ps.length ps := by
  obtain ⟨vs, h1, h2⟩ := h
  have ha : All2 (BV w w.heap.size 0 none) vs ps := All2.mono (fun a b hab => by
    obtain ⟨A, n, c, e, h1, h2, h3, h4⟩ := hab
    exact ⟨A, n, c, e, h1, h2, h3, fun _ _ _ => ⟨(fun h => nomatch h), Nat.zero_le _⟩⟩) h2
  have hl := h2.length
  have h0 := h1
  rcases h1.2 with ⟨rfl, h3⟩ | ⟨g, cap, cur, rfl, hb, _, hc, hm, _⟩
  · exact ⟨none, 0, by rw [h3], by omega, by unfold maxLen; omega, vs, rfl, ⟨by omega, fun h => by omega⟩, ha⟩
  · exact ⟨_, cap, rfl, hc, hm, vs, rfl, Reads.of_own h0, ha⟩
theorem RB.set_ {w : World} {B n : Nat} {ad : Addr} {l : List UInt8} (h : RB w B (some ad) n l) (k : Nat) (hk : k < n) (y : UInt8) : RB (w.setCell (ad.add k) (.int .u8 y.toNat)) B (some ad) n (l.set k y) := by
  refine ⟨by simpa using h.1, fun hn => ?_⟩
  obtain ⟨ad', e, hb, hc⟩ := h.2 hn
  injection e with e
  subst e
  refine ⟨ad, rfl, hb, fun j u hu => ?_⟩
  have hl := h.len
  by_cases hj : j = k
  · subst hj
    rw [List.getElem?_map, List.getElem?_set_self (by omega)] at hu
    injection hu with hu
    rw [← hu]
    have h1 := hc j (B8 l[j]) (by rw [List.getElem?_map, List.getElem?_eq_getElem (by omega)]; rfl)
    exact World.cell?_setCell_same _ _ _ h1
  · rw [List.map_set, List.getElem?_set_ne (by omega)] at hu
    rw [World.cell?_setCell_other _ _ _ _ (fun e => hj ?_)]
    · exact hc j u hu
    · have := congrArg Addr.off e
      rw [off_of_add, off_of_add] at this
      omega
/-- '[]byte{}', just made. -/
theorem OB.empty (w : World) (base : Nat) (hb : base ≤ w.heap.size) : OB (w.alloc (.cells #[] 5)) base (.slice (some ⟨w.heap.size, 0, none⟩) 0 0) [] :=
  ⟨by simp, .inr ⟨w.heap.size, 0, #[], rfl, hb, heap_alloc_new w _, Nat.le_refl _, by unfold maxLen; omega, by simp, by simp⟩⟩
theorem Below.drawN (B : Nat) (w : World) (n : Nat) : Below B w (w.drewN n) := ⟨rfl, rfl, rfl, Nat.le_refl _, fun _ _ => rfl⟩
/-- append as one step of a region that draws its order. -/
theorem step_app {w : World} {ops : Array Oper} {o : Oper} {a : Act} {K : Act → World → Prop} {Q : Exit → Act → World → Prop} {E : Prop} {t e size bytes : Nat} {z : Value} (T : SlT t e size bytes z) (hgd : o.guard = none) (s x : Operand)
    (ho : o.op = .call { callee := .builtin .append, args := #[s, x], argTypes := #[t, t] }) {base : Nat}
    {v : Value} {n : Nat} {xs : List Value} (hs : a.eval s = v) (hown : w.ownsRow base e size v n xs) {B : Nat} {A : Option Addr} {m c : Nat} {news : List Value}
    (hx : a.eval x = .slice A m c) (hr : Reads w B size A m news) (h1 : ∀ u ∈ news, u.oneCell' = true) (h63 : (n + m) * bytes ≤ 140737488355328) (hm : n + m ≤ 140737488355328) (hbase : base ≤ w.heap.size)
    (h : ∀ v' w', w'.ownsRow base e size v' (n + m) (xs ++ news) → Up w v w' v' → K (a.put o.dst v') w') :
    if Region.wanted o (yielded ops a.tmps) = true then Oper.wp Try.prog o a w K Q else E := by
  obtain ⟨i0, hi, hz0, hz1, hz2⟩ := T.info
  refine step_append_any w hgd s x t ho base e i0 z size bytes T.und hi hz0 hz1 hz2 T.cells T.pos v n xs hs hown B A m c news hx hr h1 (by unfold maxLen; omega) h63 hbase ?_
  intro v' w' h1 h2 h3
  exact h v' w' h1 ⟨h2, h3.imp id fun e => ⟨_, e, Nat.le_refl _⟩⟩
theorem step_app8 {w : World} {ops : Array Oper} {o : Oper} {a : Act} {K : Act → World → Prop} {Q : Exit → Act → World → Prop} {E : Prop} (hgd : o.guard = none) (s x : Operand)
    (ho : o.op = .call { callee := .builtin .append, args := #[s, x], argTypes := #[22, 22] }) {base : Nat}
    {v : Value} {l : List UInt8} (hs : a.eval s = v) (hown : OB w base v l) {B : Nat} {A : Option Addr} {m c : Nat} {news : List UInt8}
    (hx : a.eval x = .slice A m c) (hr : RB w B A m news) (h63 : l.length + m ≤ 140737488355328) (hbase : base ≤ w.heap.size)
    (h : ∀ v' w', OB w' base v' (l ++ news) → Up w v w' v' → K (a.put o.dst v') w') :
    if Region.wanted o (yielded ops a.tmps) = true then Oper.wp Try.prog o a w K Q else E := by
  refine step_app T8 hgd s x ho hs hown hx hr (B8_one _) (by omega) h63 hbase ?_
  intro v' w' h1 h2
  have hm := hr.len
  refine h v' w' ?_ h2
  unfold OB
  rw [List.length_append, List.map_append, hm]
  exact h1
end Go.Proofs.Ytabdnepfcohncaa
