/-
  Plain facts on memory: frames (which blocks may have changed), blocks that are known whole, copy between rows. No program.
-/
import Derived.WalkKit
import Derived.WalkSpells
import Derived.WalkLawsBesides
import Derived.Deep.AppendLies
import Derived.Lib.AppendZeros
import Derived.Laws.CopyOwn
import Derived.Lib.Hide
namespace Go.Proofs.Ytaopiolbjnnnfaa
open Go.RowKit

/-- w' is w but for the blocks in M and for new blocks. -/
structure Fr (M : Nat → Prop) (w w' : World) : Prop where
  os : w'.os = w.os
  tape : w'.tape = w.tape
  output : w'.output = w.output
  size : w.heap.size ≤ w'.heap.size
  block : ∀ k, k < w.heap.size → ¬ M k → w'.heap[k]? = w.heap[k]?

theorem Fr.refl (M : Nat → Prop) (w : World) : Fr M w w := ⟨rfl, rfl, rfl, Nat.le_refl _, fun _ _ _ => rfl⟩

theorem Fr.trans {M M' : Nat → Prop} {a b c : World} (h : Fr M a b) (k : Fr M' b c) (hm : ∀ j, j < a.heap.size → M' j → M j) : Fr M a c :=
  ⟨k.os.trans h.os, k.tape.trans h.tape, k.output.trans h.output, Nat.le_trans h.size k.size,
    fun i hi hn => (k.block i (Nat.lt_of_lt_of_le hi h.size) (fun hm' => hn (hm i hi hm'))).trans (h.block i hi hn)⟩

theorem Fr.trans' {M : Nat → Prop} {a b c : World} (h : Fr M a b) (k : Fr M b c) : Fr M a c := h.trans k fun _ _ h => h

theorem Fr.mono {M M' : Nat → Prop} {w w' : World} (h : Fr M w w') (hm : ∀ j, j < w.heap.size → M j → M' j) : Fr M' w w' :=
  ⟨h.os, h.tape, h.output, h.size, fun i hi hn => h.block i hi (fun hm' => hn (hm i hi hm'))⟩

theorem Fr.drew {M : Nat → Prop} {a w : World} (h : Fr M a w) : Fr M a w.drew := ⟨h.os, h.tape, h.output, h.size, h.block⟩
theorem Fr.drewN {M : Nat → Prop} {a w : World} (h : Fr M a w) (n : Nat) : Fr M a (w.drewN n) := ⟨h.os, h.tape, h.output, h.size, h.block⟩

theorem Fr.alloc {M : Nat → Prop} {a w : World} (h : Fr M a w) (o : Obj) : Fr M a (w.alloc o) :=
  ⟨h.os, h.tape, h.output, Nat.le_trans h.size (by simp), fun k hk hn => by rw [Below.heap_alloc _ _ _ (Nat.lt_of_lt_of_le hk h.size)]; exact h.block k hk hn⟩

theorem Fr.setCell {M : Nat → Prop} {a w : World} (h : Fr M a w) {p : Addr} (hp : p.block < a.heap.size → M p.block) (u : Value) : Fr M a (w.setCell p u) :=
  ⟨h.os, h.tape, h.output, Nat.le_trans h.size (by simp [World.setCell]), fun k hk hn => by
    rw [Below.heap_setCell _ _ _ _ (fun e => by subst e; exact hn (hp hk))]; exact h.block k hk hn⟩

theorem Fr.setRow {M : Nat → Prop} {a w : World} (h : Fr M a w) {g : Nat} (hp : g < a.heap.size → M g) (cs : Array Value) : Fr M a (w.setRow g cs) :=
  ⟨h.os, h.tape, h.output, Nat.le_trans h.size (by simp [World.setRow]), fun k hk hn => by
    rw [setRow_other _ _ _ _ (fun e => by subst e; exact hn (hp hk))]; exact h.block k hk hn⟩

theorem Fr.of_grown {w w' : World} {row : Option Nat} (h : w.grownBy w' row) : Fr (fun k => row = some k) w w' :=
  ⟨h.os, h.tape, h.output, h.size, fun k hk hn => h.block k hk (fun e => hn e.symm)⟩

theorem Fr.grown {M : Nat → Prop} {a w w' : World} {row : Option Nat} (h : Fr M a w) (hg : w.grownBy w' row) (hr : ∀ k, row = some k → k < a.heap.size → M k) : Fr M a w' :=
  h.trans (Fr.of_grown hg) fun j hj e => hr j e hj

theorem Fr.below {M : Nat → Prop} {w w' : World} (h : Fr M w w') {B : Nat} (hB : B ≤ w.heap.size) (hm : ∀ j, j < B → ¬ M j) : Below B w w' :=
  ⟨h.os, h.tape, h.output, h.size, fun k hk => h.block k (by omega) (hm k hk)⟩

theorem Fr.cell {M : Nat → Prop} {w w' : World} (h : Fr M w w') {p : Addr} (hp : p.block < w.heap.size) (hn : ¬ M p.block) : w'.cell? p = w.cell? p :=
  World.cell?_of_block (w := w) (h.block p.block hp hn)

/-- a block that is a row of cells, none frozen -/
def World.blk (w : World) (b : Nat) (c : List Value) (t : TypeId) : Prop := w.heap[b]? = some (.cells c.toArray t (0, 0))

theorem blk_lt {w : World} {b : Nat} {c : List Value} {t : TypeId} (h : World.blk w b c t) : b < w.heap.size := lt_of_block h
theorem blk_cell {w : World} {b : Nat} {c : List Value} {t : TypeId} (h : World.blk w b c t) (j : Nat) : w.cell? ⟨b, j, none⟩ = c[j]? := by
  rw [cell_of_row w b j _ _ _ h]; simp
theorem blk_free {w : World} {b : Nat} {c : List Value} {t : TypeId} (h : World.blk w b c t) (j : Nat) : w.frozen? ⟨b, j, none⟩ = false :=
  frozen_of_row w b j _ _ h
theorem blk_fr {M : Nat → Prop} {w w' : World} {b : Nat} {c : List Value} {t : TypeId} (h : World.blk w b c t) (hf : Fr M w w') (hn : ¬ M b) : World.blk w' b c t :=
  (hf.block b (blk_lt h) hn).trans h
theorem blk_alloc {w : World} {b : Nat} {c : List Value} {t : TypeId} (h : World.blk w b c t) (o : Obj) : World.blk (w.alloc o) b c t := by
  unfold World.blk; rw [Below.heap_alloc _ _ _ (blk_lt h)]; exact h
theorem blk_new (w : World) (c : List Value) (t : TypeId) : World.blk (w.alloc (.cells c.toArray t)) w.heap.size c t := heap_alloc_new w _
theorem blk_set {w : World} {b : Nat} {c : List Value} {t : TypeId} (h : World.blk w b c t) (j : Nat) (v : Value) : World.blk (w.setCell ⟨b, j, none⟩ v) b (c.set j v) t := by
  unfold World.blk
  rw [heap_setCell_same w b j _ t v h]
  simp
theorem blk_set_other {w : World} {b : Nat} {c : List Value} {t : TypeId} (h : World.blk w b c t) (p : Addr) (hp : b ≠ p.block) (v : Value) : World.blk (w.setCell p v) b c t := by
  unfold World.blk
  rw [Below.heap_setCell _ _ _ _ hp]; exact h
theorem blk_congr {w : World} {b : Nat} {c c' : List Value} {t : TypeId} (h : World.blk w b c t) (hc : c = c') : World.blk w b c' t := hc ▸ h

/-- what an owned value looks like -/
theorem owns_form {w : World} {e : TypeId} {size : Nat} {v : Value} {n : Nat} {xs : List Value} (h : w.ownsRow 0 e size v n xs) :
    ∃ ao c, v = .slice ao n c ∧ n ≤ c ∧ c ≤ maxLen ∧ xs.length = n * size ∧ (ao = none → n = 0 ∧ c = 0) ∧
      ∀ a, ao = some a → ∃ g cur, a = ⟨g, 0, none⟩ ∧ World.blk w g cur e ∧ cur.length = c * size ∧ cur.take (n * size) = xs := by
  obtain ⟨hl, h | ⟨g, cap, cur, hv, _, hg, hn, hc, hs, ht⟩⟩ := h
  · obtain ⟨rfl, rfl⟩ := h
    exact ⟨none, 0, rfl, Nat.le_refl _, Nat.zero_le _, hl, fun _ => ⟨rfl, rfl⟩, fun a h => by cases h⟩
  · subst hv
    refine ⟨some ⟨g, 0, none⟩, cap, rfl, hn, hc, hl, (fun h => by cases h), fun a h => ?_⟩
    cases h
    exact ⟨g, cur.toList, rfl, by unfold World.blk; simpa using hg, by simpa using hs, ht⟩

theorem owns_mk {w : World} {e : TypeId} {size n c g : Nat} {cur xs : List Value} (hb : World.blk w g cur e) (hn : n ≤ c) (hc : c ≤ maxLen) (hl : cur.length = c * size) (ht : cur.take (n * size) = xs) :
    w.ownsRow 0 e size (.slice (some ⟨g, 0, none⟩) n c) n xs := by
  refine ⟨?_, .inr ⟨g, c, cur.toArray, rfl, Nat.zero_le _, hb, hn, hc, by simpa using hl, by simpa using ht⟩⟩
  rw [← ht, List.length_take, hl]
  exact Nat.min_eq_left (Nat.mul_le_mul_right _ hn)

theorem owns_fr {M : Nat → Prop} {w w' : World} {e : TypeId} {size : Nat} {v : Value} {n : Nat} {xs : List Value} (h : w.ownsRow 0 e size v n xs) (hf : Fr M w w')
    (hn : ∀ k, v.ownBlock = some k → ¬ M k) : w'.ownsRow 0 e size v n xs := by
  refine ⟨h.1, ?_⟩
  rcases h.2 with hn' | ⟨g, cap, cur, rfl, hb, hgg, rest⟩
  · exact .inl hn'
  · exact .inr ⟨g, cap, cur, rfl, hb, (hf.block g (lt_of_block hgg) (hn g rfl)).trans hgg, rest⟩

theorem owns_lt {w : World} {e : TypeId} {size : Nat} {v : Value} {n : Nat} {xs : List Value} (h : w.ownsRow 0 e size v n xs) {k : Nat} (hk : v.ownBlock = some k) : k < w.heap.size :=
  (h.lt k hk).2

/-- the type of the cells of an owned block -/
theorem owns_blk {w : World} {e : TypeId} {size : Nat} {v : Value} {n : Nat} {xs : List Value} (h : w.ownsRow 0 e size v n xs) {k : Nat} (hk : v.ownBlock = some k) :
    ∃ cur, World.blk w k cur e := by
  rcases h.2 with ⟨rfl, _⟩ | ⟨g, cap, cur, rfl, _, hgg, _⟩
  · cases hk
  · simp only [Value.ownBlock, Option.some.injEq] at hk
    subst hk
    exact ⟨cur.toList, by unfold World.blk; simpa using hgg⟩

/-- a shorter slice over the same row -/
theorem owns_cut {w : World} {e : TypeId} {size n c : Nat} {ao : Option Addr} {xs : List Value} (h : w.ownsRow 0 e size (.slice ao n c) n xs) (m : Nat) (hm : m ≤ n) :
    w.ownsRow 0 e size (.slice ao m c) m (xs.take (m * size)) := by
  refine ⟨?_, ?_⟩
  · rw [List.length_take, h.1]
    exact Nat.min_eq_left (Nat.mul_le_mul_right _ hm)
  · rcases h.2 with ⟨hv, hn⟩ | ⟨g, cap, cur, hv, hb, hg, h1, h2, h3, h4⟩
    · cases hv
      exact .inl ⟨by rw [show m = 0 by omega], by omega⟩
    · cases hv
      refine .inr ⟨g, _, cur, rfl, hb, hg, by omega, h2, h3, ?_⟩
      rw [← h4, List.take_take]
      congr 1
      exact (Nat.min_eq_left (Nat.mul_le_mul_right _ hm)).symm

/-- an element replaced -/
theorem owns_congr {w : World} {e : TypeId} {size : Nat} {v : Value} {n n' : Nat} {xs xs' : List Value} (h : w.ownsRow 0 e size v n xs) (hn : n = n') (hx : xs = xs') : w.ownsRow 0 e size v n' xs' := by
  subst hn; subst hx; exact h

/-! ### copy and append with a run that is known -/
section
variable {P : Program}

theorem run_copy_sized (w : World) (dT sT ty elem : TypeId) (size : Nat) (g o dLen dCap : Nat) (a : Addr) (sLen sCap : Nat) (cur : List Value) (t : TypeId) (cs : List Value)
    (hu : P.underlying dT = some (.slice elem)) (hs : (P.info? elem).map (·.size) = some size)
    (hg : World.blk w g cur t) (m : Nat) (hm : min sLen dLen = m) (hn : cs.length = m * size)
    (hsrc : ∀ j v, cs[j]? = some v → w.cell? (a.add j) = some v) (hfit : o + cs.length ≤ cur.length) (h1 : ∀ v ∈ cs, v.oneCell' = true) :
    (Builtin.copy_ #[dT, sT] ty #[.slice (some ⟨g, o, none⟩) dLen dCap, .slice (some a) sLen sCap]).run P w =
      .ok (goInt m) (w.setRow g (splice cur o cs).toArray) := by
  have hm' : Nat.min sLen dLen = m := hm
  have hl := run_loadCells_list (P := P) w a cs hsrc
  have hst := run_storeCells_at P g o t cs 0 cur.toArray w hg (by simpa using hfit) h1
  cases hq : P.info? elem with
  | none => simp [hq] at hs
  | some i =>
    have hi : i.size = size := by simpa [hq] using hs
    simp only [Builtin.copy_, List.getElem?_toArray]
    simp [run_underlying hu, Builtin.lenOf, Builtin.firstCells, sizeOf, typeInfo, hq, hi, hm', ← hn, hl, hst, splice]

theorem wpList_copy_run (w : World) {ops : Array Oper} {rest : List Oper} {o : Oper} {a : Act} {Q : Exit → Act → World → Prop} (hgd : o.guard = none) (d s : Operand) (t t' : TypeId)
    (ho : o.op = .call { callee := .builtin .copy, args := #[d, s], argTypes := #[t, t'] }) (v u : Value) (hd : a.eval d = v) (hs : a.eval s = u) {v' : Value} {w' : World}
    (hr : (Builtin.copy_ #[t, t'] o.type #[v, u]).run P w = .ok v' w') (h : wpList P ops Q rest (a.put o.dst v') w') : wpList P ops Q (o :: rest) a w :=
  wpList_plain hgd fun _ hK => by
    unfold Oper.wp execOp
    simp only [ho, resolve, invoke, builtin, Sem.run_bind, Sem.run_pure, Result.andThen_ok, List.map_toArray, List.map_cons, List.map_nil, hd, hs, hr]
    exact hK _ _ h

theorem step_copy_run {ops : Array Oper} {o : Oper} {a : Act} {w : World} {K : Act → World → Prop} {Q : Exit → Act → World → Prop} {E : Prop}
    (hg : o.guard = none) (d x : Operand) (dT sT : TypeId) (hop : o.op = Op.call { callee := Callee.builtin Builtin.copy, args := #[d, x], argTypes := #[dT, sT] })
    (v u : Value) (hd : a.eval d = v) (hx : a.eval x = u) {v' : Value} {w' : World} (hr : (Builtin.copy_ #[dT, sT] o.type #[v, u]).run P w = .ok v' w') (hK : K (a.put o.dst v') w') :
    if Region.wanted o (yielded ops a.tmps) = true then Oper.wp P o a w K Q else E := by
  have hw : Region.wanted o (yielded ops a.tmps) = true := by simp [Region.wanted, hg]
  rw [if_pos hw]
  unfold Oper.wp execOp
  simp only [hop, resolve, invoke, builtin, Sem.run_bind, Sem.run_pure, Result.andThen_ok, List.map_toArray, List.map_cons, List.map_nil, hd, hx, hr]
  exact hK

theorem step_append_run {ops : Array Oper} {o : Oper} {a : Act} {w : World} {K : Act → World → Prop} {Q : Exit → Act → World → Prop} {E : Prop}
    (hg : o.guard = none) (d x : Operand) (dT sT : TypeId) (hop : o.op = Op.call { callee := Callee.builtin Builtin.append, args := #[d, x], argTypes := #[dT, sT] })
    (v u : Value) (hd : a.eval d = v) (hx : a.eval x = u) {v' : Value} {w' : World} (hr : (Builtin.append_ #[dT, sT] o.type #[v, u]).run P w = .ok v' w') (hK : K (a.put o.dst v') w') :
    if Region.wanted o (yielded ops a.tmps) = true then Oper.wp P o a w K Q else E := by
  have hw : Region.wanted o (yielded ops a.tmps) = true := by simp [Region.wanted, hg]
  rw [if_pos hw]
  unfold Oper.wp execOp
  simp only [hop, resolve, invoke, builtin, Sem.run_bind, Sem.run_pure, Result.andThen_ok, List.map_toArray, List.map_cons, List.map_nil, hd, hx, hr]
  exact hK

theorem wpList_clear_run (w : World) {ops : Array Oper} {rest : List Oper} {o : Oper} {a : Act} {Q : Exit → Act → World → Prop} (hgd : o.guard = none) (s : Operand) (t : TypeId)
    (ho : o.op = .call { callee := .builtin .clear, args := #[s], argTypes := #[t] }) (u : Value) (hs : a.eval s = u) {v' : Value} {w' : World}
    (hr : (Builtin.clear_ #[t] o.type #[u]).run P w = .ok v' w') (h : wpList P ops Q rest (a.put o.dst v') w') : wpList P ops Q (o :: rest) a w :=
  wpList_plain hgd fun _ hK => by
    unfold Oper.wp execOp
    simp only [ho, resolve, invoke, builtin, Sem.run_bind, Sem.run_pure, Result.andThen_ok, List.map_toArray, List.map_cons, List.map_nil, hs, hr]
    exact hK _ _ h

theorem run_append_zero (w : World) (t ty e : TypeId) (i : TypeInfo) (ht : P.underlying t = some (.slice e)) (hi : P.info? e = some i) (ao so : Option Addr) (n c sc : Nat) (hnc : n ≤ c) :
    (Builtin.append_ #[t, t] ty #[.slice ao n c, .slice so 0 sc]).run P w = .ok (.slice ao n c) w := by
  cases ao <;> cases so <;> simp [Builtin.append_, run_underlying ht, sizeOf, typeInfo, hi, Builtin.lenOf, Builtin.firstCells, loadCells, loadCellsFrom, storeCells, hnc]

theorem run_clear_one (w : World) (t ty elem : TypeId) (i : TypeInfo) (z : Value) (hu : P.underlying t = some (.slice elem)) (hi : P.info? elem = some i) (hz : i.zero = some z) (h1 : ∀ u ∈ z.cells.toList, u.oneCell' = true)
    (g o c : Nat) (cur : List Value) (tt : TypeId) (hg : World.blk w g cur tt) (hfit : o + z.cells.size ≤ cur.length) :
    (Builtin.clear_ #[t] ty #[.slice (some ⟨g, o, none⟩) 1 c]).run P w = .ok (.tuple #[]) (w.setRow g (splice cur o z.cells.toList).toArray) := by
  have hzc : (Builtin.zeroCells z.cells 1).toList = z.cells.toList := by
    apply List.ext_getElem?
    intro j
    simp only [Builtin.zeroCells, Array.getElem?_toList, Nat.one_mul]
    by_cases hj : j < z.cells.size
    · have hjj : j < ((Array.range z.cells.size).map fun i => z.cells[i % z.cells.size]!).size := by simpa using hj
      rw [Array.getElem?_eq_getElem hjj, Array.getElem?_eq_getElem hj]
      simp [Nat.mod_eq_of_lt hj, hj]
    · rw [Array.getElem?_eq_none (by simpa using hj), Array.getElem?_eq_none (by omega)]
  have hst := run_storeCells_at P g o tt z.cells.toList 0 cur.toArray w hg (by simpa using hfit) h1
  simp only [Builtin.clear_, List.getElem?_toArray]
  simp only [List.getElem?_cons_zero, Sem.run_bind, run_underlying hu, Result.andThen_ok, zeroValue, typeInfo]
  simp at hst
  simp [hi, hz, hzc, hst, splice]

theorem grown_setRow (w : World) (g : Nat) (cs : Array Value) : w.grownBy (w.setRow g cs) (some g) :=
  ⟨rfl, rfl, rfl, by simp [World.setRow], fun k _ hk => setRow_other w g k _ (fun e => hk (by rw [e]))⟩
theorem blk_setRow {w : World} {g : Nat} {cur : List Value} {t : TypeId} (h : World.blk w g cur t) (cs : List Value) : World.blk (w.setRow g cs.toArray) g cs t :=
  setRow_heap w g _ _ t _ h
theorem blk_grown {w w' : World} {row : Option Nat} {b : Nat} {c : List Value} {t : TypeId} (h : World.blk w b c t) (hg : w.grownBy w' row) (hn : some b ≠ row) : World.blk w' b c t :=
  (hg.block b (blk_lt h) hn).trans h
theorem grown_drew (w : World) (row : Option Nat) : w.grownBy w.drew row := ⟨rfl, rfl, rfl, Nat.le_refl _, fun _ _ _ => rfl⟩

/-- cells of a row, by a piece of it -/
theorem blk_piece {w : World} {g : Nat} {cur cs : List Value} {t : TypeId} (h : World.blk w g cur t) (o : Nat) (hc : ∀ j v, cs[j]? = some v → cur[o + j]? = some v) :
    ∀ j v, cs[j]? = some v → w.cell? ((⟨g, o, none⟩ : Addr).add j) = some v := fun j v hj => by
  have hadd : (⟨g, o, none⟩ : Addr).add j = ⟨g, o + j, none⟩ := by unfold Addr.add; split <;> simp_all
  rw [hadd, blk_cell h]; exact hc j v hj

theorem splice_ins {α : Type} (cur : List α) (a k n : Nat) (V X : List α) (hV : V.length = k) (hX : X.length = n - a) (h : n + k ≤ cur.length) (ha : a ≤ n) :
    (splice (splice cur (a + k) X) a V).take (n + k) = cur.take a ++ V ++ X := by
  unfold splice
  have e1 : (cur.take (a + k) ++ (X ++ cur.drop (a + k + X.length))).take a = cur.take a := by
    rw [List.take_append_of_le_length (by simp; omega), List.take_take, Nat.min_eq_left (by omega)]
  have e2 : (cur.take (a + k) ++ (X ++ cur.drop (a + k + X.length))).drop (a + V.length) = X ++ cur.drop (a + k + X.length) := by
    rw [hV, List.drop_append, List.drop_eq_nil_of_le (by simp; omega)]
    simp only [List.length_take, List.nil_append]
    rw [show a + k - min (a + k) cur.length = 0 by omega, List.drop_zero]
  rw [e1, e2, ← List.append_assoc, ← List.append_assoc, List.take_append_of_le_length (by simp; omega)]
  exact List.take_of_length_le (by simp; omega)

theorem splice_two {α : Type} (R : List α) (a k : Nat) (V X : List α) (hV : V.length = k) (h : a + k + X.length ≤ R.length) :
    (splice (splice R a V) (a + k) X).take (a + k + X.length) = R.take a ++ V ++ X := by
  unfold splice
  have e1 : (R.take a ++ (V ++ R.drop (a + V.length))).take (a + k) = R.take a ++ V := by
    rw [← List.append_assoc, List.take_append_of_le_length (by simp; omega)]
    exact List.take_of_length_le (by simp; omega)
  rw [e1, ← List.append_assoc, List.take_append_of_le_length (by simp; omega)]
  exact List.take_of_length_le (by simp; omega)

theorem splice_before {α : Type} (R : List α) (a : Nat) (V : List α) (h : a ≤ R.length) : (splice R a V).take a = R.take a := by
  unfold splice
  rw [List.take_append_of_le_length (by simp; omega), List.take_take, Nat.min_self]
theorem splice_tail {α : Type} (R : List α) (a : Nat) (X : List α) (h : a + X.length ≤ R.length) : (splice R a X).take (a + X.length) = R.take a ++ X := by
  unfold splice
  rw [← List.append_assoc, List.take_append_of_le_length (by simp; omega)]
  exact List.take_of_length_le (by simp; omega)

theorem oneCell_take {l : List Value} (h : ∀ u ∈ l, u.oneCell' = true) (n : Nat) : ∀ u ∈ l.take n, u.oneCell' = true := fun u hu => h u (List.mem_of_mem_take hu)
theorem oneCell_drop {l : List Value} (h : ∀ u ∈ l, u.oneCell' = true) (n : Nat) : ∀ u ∈ l.drop n, u.oneCell' = true := fun u hu => h u (List.mem_of_mem_drop hu)

end
end Go.Proofs.Ytaopiolbjnnnfaa
