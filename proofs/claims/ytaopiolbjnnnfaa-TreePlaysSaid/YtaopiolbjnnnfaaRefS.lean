/-
  The document's own tree: Put, Delete; it stands beside the tree.
-/
import Derived.Test.YtaopiolbjnnnfaaRefH
import Derived.OrdersHeld
import Derived.StillTail
import Derived.Deep.RegionHeld3
import Derived.Deep.QuietTactic
import Derived.BigQuiet
namespace Go.Proofs.Ytaopiolbjnnnfaa
section
section
variable {P : Program} {ops : Array Oper} {Q : Exit → Act → World → Prop} {md : Region.Mode} {C : World → Prop} {t : Nat}

/-- whichever comes up; C is owed behind each but number t -/
def wpBut (P : Program) (md : Region.Mode) (ops : Array Oper) (Q : Exit → Act → World → Prop) (C : World → Prop) (t : Nat) : Nat → Array Bool → Act → World → Prop
  | 0, listed, a, w => Region.ready md ops listed = [] ∧ Q .normal a w
  | f + 1, listed, a, w => (Region.ready md ops listed = [] → Q .normal a w) ∧ ∀ i ∈ Region.ready md ops listed, wpOp P ops Q i (fun a' w' => (i ≠ t → C w') ∧ wpBut P md ops Q C t f (listed.setIfInBounds i true) a' w') a w

theorem wpBut.any : ∀ (f : Nat) (listed : Array Bool) (a : Act) (w : World), wpBut P md ops Q C t f listed a w → wpAny P md ops Q f listed a w
  | 0, _, _, _, h => h
  | f + 1, _, _, _, h => ⟨h.1, fun i hi => wpOp_mono (fun a' w' k => wpBut.any f _ a' w' k.2) (h.2 i hi)⟩

/-- who waits for an unlisted one is not ready -/
theorem not_ready {listed : Array Bool} {i : Nat} (hw : Region.waitsFor md ops t i = true) (hun : listed.getD i true = false) : t ∉ Region.ready md ops listed := by
  intro h
  obtain ⟨-, ot, hot, hall⟩ := mem_ready.1 h
  obtain ⟨oj, hoj, e, he, hb, hon⟩ := Region.waitsFor_spec hw
  have : oj = ot := Option.some.inj (hoj.symm.trans hot)
  subst this
  have h1 := hall e he hb
  rw [hon, getD_both hun] at h1
  cases h1

theorem wpBut.first {i : Nat} {oi : Oper} {v : Value} (hi : ops[i]? = some oi) (hsel : ∀ (j : Nat) (o : Oper) cs b, ops[j]? = some o → o.op ≠ .select cs b) (hQ : ∀ c a w, Q (.panic c) (a.put oi.dst v) w → Q (.panic c) a w)
    (hw : Region.waitsFor md ops t i = true) : ∀ (f : Nat) (listed : Array Bool) (a : Act) (w : World),
    (∀ j oj, ops[j]? = some oj → j ≠ i → listed.getD j true = false → (∀ e ∈ oj.after, Region.binds md e = true → e.on ≠ i) → oi.apart ops oj = true) →
    i ∈ Region.ready md ops listed → YieldsIf P ops C oi v a → C w → wpBut P md ops Q C t f (listed.setIfInBounds i true) (a.put oi.dst v) w → wpBut P md ops Q C t (f + 1) listed a w := by
  intro f
  induction f with
  | zero =>
    intro listed a w _ hr hy hC H
    refine ⟨fun h => (by rw [h] at hr; cases hr), fun j hj => ?_⟩
    rcases Nat.decEq j i with hji | hji
    · have := ready_mono hj hji
      rw [H.1] at this
      cases this
    · subst hji
      exact hy.wpOp hi hC ⟨fun _ => hC, H⟩
  | succ f ih =>
    intro listed a w hfree hr hy hC H
    have hun := (mem_ready.1 hr).1
    refine ⟨fun h => (by rw [h] at hr; cases hr), fun j hj => ?_⟩
    rcases Nat.decEq j i with hji | hji
    · obtain ⟨hjun, oj, hoj, hall⟩ := mem_ready.1 hj
      have hjt : j ≠ t := fun e => not_ready hw hun (e ▸ hj)
      have hno : ∀ e ∈ oj.after, Region.binds md e = true → e.on ≠ i := fun e he hb heq => by
        have h1 := hall e he hb
        rw [heq, getD_both hun] at h1
        cases h1
      refine wpOp_mono (fun a' w' k => ⟨fun _ => k.2.1 hjt, ih _ a' w' ?_ (ready_mono hr (Ne.symm hji)) k.1 (k.2.1 hjt) ?_⟩)
        (wpOp_putIf hoj (hfree j oj hoj hji hjun hno) (fun cs b => hsel i oi cs b hi) (fun cs b => hsel j oj cs b hoj) hQ hy (H.2 j (ready_mono hj hji)))
      · intro k ok hk hki hkun hkno
        refine hfree k ok hk hki ?_ hkno
        rcases Nat.decEq j k with e | e
        · rwa [getD_set_ne true e] at hkun
        · subst e; exact hjun
      · rw [Array.setIfInBounds_comm _ _ hji]
        exact k.2.2
    · subst hji
      exact hy.wpOp hi hC ⟨fun _ => hC, H⟩

theorem wpBut.take (i : Nat) {oi : Oper} {v : Value} {f : Nat} {listed : Array Bool} {a : Act} {w : World} (hi : ops[i]? = some oi) (hs : Region.noSelect ops = true) (hf : Region.free md ops listed i = true) (hr : (Region.ready md ops listed).contains i = true)
    (hw : Region.waitsFor md ops t i = true) (hQ : ∀ c a w, Q (.panic c) (a.put oi.dst v) w → Q (.panic c) a w) (hy : YieldsIf P ops C oi v a) (hC : C w)
    (h : wpBut P md ops Q C t f (listed.setIfInBounds i true) (a.put oi.dst v) w) : wpBut P md ops Q C t (f + 1) listed a w :=
  wpBut.first hi (Region.noSelect_spec hs) hQ hw f listed a w (Region.free_spec hi hf) (by simpa using hr) hy hC h

theorem wpBut.ready {rs : List Nat} {f : Nat} {listed : Array Bool} {a : Act} {w : World} (hr : Region.ready md ops listed = rs) (hne : rs ≠ [])
    (h : ∀ i ∈ rs, wpOp P ops Q i (fun a' w' => (i ≠ t → C w') ∧ wpBut P md ops Q C t f (listed.setIfInBounds i true) a' w') a w) : wpBut P md ops Q C t (f + 1) listed a w :=
  ⟨fun h0 => absurd (hr ▸ h0) hne, hr ▸ h⟩

theorem wpBut.done {listed : Array Bool} {a : Act} {w : World} (hr : Region.ready md ops listed = []) (h : Q .normal a w) : ∀ f, wpBut P md ops Q C t f listed a w
  | 0 => ⟨hr, h⟩
  | _ + 1 => ⟨fun _ => h, by rw [hr]; simp⟩

theorem wpBut.start {id : Nat} {a : Act} {w : World} (hm : P.follows .mixedOrders = true) (h : wpBut P .any ops Q C t ops.size (Array.replicate ops.size false) a w.drew) : (Code.region id ops true).wp P Q a w :=
  wp_region_any hm (wpBut.any _ _ _ _ h)

/-- an operation without a guard -/
theorem wpOp_at {i : Nat} {o : Oper} {K : Act → World → Prop} {a : Act} {w : World} (hi : ops[i]? = some o) (hg : o.guard = none) (h : o.wp P a w K Q) : wpOp P ops Q i K a w := by
  have hw : Region.wanted o (yielded ops a.tmps) = true := by simp [Region.wanted, hg]
  unfold wpOp
  simp only [hi, hw, if_true]
  exact .inl h

/-- .. what follows it held as a letter -/
theorem wpBut.step {i f : Nat} {o : Oper} {listed : Array Bool} {a : Act} {w : World} (hi : ops[i]? = some o) (hg : o.guard = none)
    (h : ∀ K : Act → World → Prop, (∀ a' w', (i ≠ t → C w') → wpBut P md ops Q C t f (listed.setIfInBounds i true) a' w' → K a' w') → o.wp P a w K Q) :
    wpOp P ops Q i (fun a' w' => (i ≠ t → C w') ∧ wpBut P md ops Q C t f (listed.setIfInBounds i true) a' w') a w :=
  wpOp_at hi hg (h _ fun _ _ c k => ⟨c, k⟩)
end
end

section
open Go.RowKit

def RefPost (o : Option Int) (rb : Nat) (sv : Value) (s' : List KV) (w : World) (e : Ending) (w' : World) : Prop :=
  e = .returned (.tuple #[.int .i64 (o.getD 0), .bool o.isSome]) ∧ RefLeaves rb sv s' w w'

theorem RefLeaves.after {rb : Nat} {sv : Value} {s' : List KV} {w w1 w' : World} (h : RefLeaves rb sv s' w1 w') (hf : Fr (fun _ => False) w w1) : RefLeaves rb sv s' w w' := by
  obtain ⟨sv', a, b, c⟩ := h
  exact ⟨sv', a, (hf.mono fun _ _ h => h.elim).trans' b, fun k hk => (c k hk).imp id fun h => Nat.le_trans hf.size h⟩

theorem RefLeaves.same {rb : Nat} {sv : Value} {s : List KV} {w w' : World} (h : RefAt w rb sv s) (hf : Fr (fun _ => False) w w') : RefLeaves rb sv s w w' :=
  ⟨sv, h.fr hf (fun _ _ h => h), hf.mono fun _ _ h => h.elim, fun _ hk => .inl hk⟩

set_option maxHeartbeats 2000000 in
set_option maxRecDepth 100000 in
theorem refdel_none (rb i : Nat) (sv : Value) (key : ByteArray) (s : List KV) (w : World) (h : RefAt w rb sv s)
    (hc : Calls Try.prog 51 #[.pointer (some ⟨rb, 0, none⟩), .string key] w (FindPost i false w)) :
    Calls Try.prog 31 #[.pointer (some ⟨rb, 0, none⟩), .string key] w (RefPost none rb sv s w) := by
  have HC := Lib.hid hc
  have HH := Lib.hid h
  clear h hc
  go_enter Try.func31, Try.ntmps31
  go_wp2_with (go_at_call 51; refine HC.out.mono ?_; rintro e w1 ⟨rfl, hf⟩; have HF := Lib.hid hf; clear hf)
  go_ret2
  exact ⟨rfl, RefLeaves.same HH.out HF.out⟩

theorem wp_append_run {P : Program} {o : Oper} {a : Act} {w : World} {K : Act → World → Prop} {Q : Exit → Act → World → Prop} (d x : Operand) (dT sT : TypeId) (hop : o.op = Op.call { callee := Callee.builtin Builtin.append, args := #[d, x], argTypes := #[dT, sT] })
    (v u : Value) (hd : a.eval d = v) (hx : a.eval x = u) {v' : Value} {w' : World} (hr : (Builtin.append_ #[dT, sT] o.type #[v, u]).run P w = .ok v' w') (hK : K (a.put o.dst v') w') : Oper.wp P o a w K Q := by
  unfold Oper.wp execOp
  simp only [hop, resolve, invoke, builtin, Sem.run_bind, Sem.run_pure, Result.andThen_ok, List.map_toArray, List.map_cons, List.map_nil, hd, hx, hr]
  exact hK

set_option maxHeartbeats 4000000 in
set_option maxRecDepth 100000 in
theorem refdel_there (rb : Nat) (ao : Option Addr) (ln c i : Nat) (key : ByteArray) (m : Int) (L R : List KV) (w : World) (h : RefAt w rb (.slice ao ln c) (L ++ (key, m) :: R)) (hln : ln = (L ++ (key, m) :: R).length) (hl : (ln + 1) * 24 ≤ 140737488355328) (hi : i = L.length)
    (hc : Calls Try.prog 51 #[.pointer (some ⟨rb, 0, none⟩), .string key] w (FindPost i true w)) :
    Calls Try.prog 31 #[.pointer (some ⟨rb, 0, none⟩), .string key] w (RefPost (some m) rb (.slice ao ln c) (L ++ R) w) := by
  have hil : (i : Int) < (ln : Int) := by rw [hi, hln]; simp; omega
  have hi0 : (0 : Int) ≤ (i : Int) := by omega
  have hbi : i * 24 ≤ 140737488355328 := by omega
  have hb3 : (i + (ln - (i + 1))) * 24 ≤ 140737488355328 := by omega
  have wi : IntKind.i64.wrap ((i : Int) + 1) = (i : Int) + 1 := IntWalk.i64_in _ (by omega)
  obtain ⟨ao', c', hv, hnc, -, -, -, ha⟩ := owns_form (owns_congr h.row hln.symm rfl)
  cases hv
  have hlow := run_cut_low ao ln c i (by omega) (by omega) (fun a e => by obtain ⟨g, cur, hg, -⟩ := ha a e; exact ⟨g, hg⟩)
  have hhigh := run_cut_high ao ln c (i + 1) (by omega)
  rw [show ((i + 1 : Nat) : Int) = (i : Int) + 1 by omega] at hhigh
  obtain ⟨so, hso⟩ : ∃ so, so = (if c = i + 1 then ao else ao.map (·.add ((i + 1) * 2))) := ⟨_, rfl⟩
  rw [← hso] at hhigh
  have HP2 := Lib.hid (show ∀ wc, Fr (fun _ => False) w wc → Piece so (ln - (i + 1)) R wc from fun wc hf => by
    have := piece_high (i := i + 1) h hln (by omega) hf
    rwa [← hso, show (L ++ (key, m) :: R).drop (i + 1) = R by rw [hi, show L ++ (key, m) :: R = (L ++ [(key, m)]) ++ R by simp, show L.length + 1 = (L ++ [(key, m)]).length by simp, List.drop_left]] at this)
  have HP1 := Lib.hid (show ∀ wc, Fr (fun _ => False) w wc → Piece ao i L wc from fun wc hf => by
    have := piece_low (i := i) h (by omega) hf
    rwa [show (L ++ (key, m) :: R).take i = L by rw [hi, List.take_left]] at this)
  have HC := Lib.hid hc
  have HH := Lib.hid h
  have HI := Lib.hid hi
  clear h hc hi hln hso ha
  go_enter Try.func31, Try.ntmps31
  go_wp2_with fail
  refine HC.out.mono ?_
  rintro e w1 ⟨rfl, hf⟩
  have h1 := HH.out.fr hf (fun _ _ h => h)
  have q0 := blk_cell h1.blk 0
  have l0 := blk_lt h1.blk
  simp only [List.getElem?_cons_zero] at q0
  obtain ⟨g, rfl, -, p1⟩ := row_at h1.row rfl i (by rw [HI.out]; simp)
  simp only [HI.out] at p1
  rw [List.getElem_append_right (Nat.le_refl _)] at p1
  simp only [Nat.sub_self, List.getElem_cons_zero] at p1
  simp only [← HI.out] at p1
  have HF := Lib.hid hf
  have H1 := Lib.hid h1
  have HQ1 := Lib.hid (show ∀ wc, Fr (fun _ => False) w1 wc → Piece (some ⟨g, 0, none⟩) i L wc from fun wc h => HP1.out wc (hf.trans' h))
  have HQ2 := Lib.hid (show ∀ wc, Fr (fun _ => False) w1 wc → Piece so (ln - (i + 1)) R wc from fun wc h => HP2.out wc (hf.trans' h))
  clear hf h1
  go_wp2_with fail
  clear p1
  refine wp_region_noPanic ?_
  refine wpBut.start (C := fun w' => w'.cell? ⟨rb, 0, none⟩ = some (.slice (some ⟨g, 0, none⟩) ln c)) (t := 19) (by kernel_rfl) ?_
  have c0 : w1.drew.cell? ⟨rb, 0, none⟩ = some (.slice (some ⟨g, 0, none⟩) ln c) := q0
  refine wpBut.take 0 (oi := ?_) (v := ?_) ?_ (by kernel_rfl) (by kernel_rfl) (by kernel_rfl) (by kernel_rfl) (fun _ _ _ h => h) (Or.inl ⟨?_, fun wy hSw => ?_⟩) c0 ?_
  rotate_left 2
  · (simp only [List.getElem?_toArray, List.getElem?_cons_zero]; rfl)
  · rfl
  · dsimp only at hSw
    go_simp
    all_goals with_reducible rfl
  simp only [Act.put, List.setIfInBounds_toArray, List.set_cons_zero, List.set_cons_succ]
  refine wpBut.take 2 (oi := ?_) (v := ?_) ?_ (by kernel_rfl) (by kernel_rfl) (by kernel_rfl) (by kernel_rfl) (fun _ _ _ h => h) (Or.inl ⟨?_, fun wy hSw => ?_⟩) c0 ?_
  rotate_left 2
  · (simp only [List.getElem?_toArray, List.getElem?_cons_succ, List.getElem?_cons_zero]; rfl)
  · rfl
  · dsimp only at hSw
    go_simp
    all_goals with_reducible rfl
  simp only [Act.put, List.setIfInBounds_toArray, List.set_cons_zero, List.set_cons_succ]
  refine wpBut.take 3 (oi := ?_) (v := ?_) ?_ (by kernel_rfl) (by kernel_rfl) (by kernel_rfl) (by kernel_rfl) (fun _ _ _ h => h) (Or.inl ⟨?_, fun wy hSw => ?_⟩) c0 ?_
  rotate_left 2
  · (simp only [List.getElem?_toArray, List.getElem?_cons_succ, List.getElem?_cons_zero]; rfl)
  · rfl
  · dsimp only at hSw
    go_simp
    all_goals with_reducible rfl
  simp only [Act.put, List.setIfInBounds_toArray, List.set_cons_zero, List.set_cons_succ]
  refine wpBut.take 4 (oi := ?_) (v := ?_) ?_ (by kernel_rfl) (by kernel_rfl) (by kernel_rfl) (by kernel_rfl) (fun _ _ _ h => h) (Or.inl ⟨?_, fun wy hSw => ?_⟩) c0 ?_
  rotate_left 2
  · (simp only [List.getElem?_toArray, List.getElem?_cons_succ, List.getElem?_cons_zero]; rfl)
  · rfl
  · dsimp only at hSw
    go_simp
    all_goals with_reducible rfl
  simp only [Act.put, List.setIfInBounds_toArray, List.set_cons_zero, List.set_cons_succ]
  refine wpBut.take 5 (oi := ?_) (v := ?_) ?_ (by kernel_rfl) (by kernel_rfl) (by kernel_rfl) (by kernel_rfl) (fun _ _ _ h => h) (Or.inl ⟨?_, fun wy hSw => ?_⟩) c0 ?_
  rotate_left 2
  · (simp only [List.getElem?_toArray, List.getElem?_cons_succ, List.getElem?_cons_zero]; rfl)
  · rfl
  · dsimp only at hSw
    go_simp
    all_goals with_reducible rfl
  simp only [Act.put, List.setIfInBounds_toArray, List.set_cons_zero, List.set_cons_succ]
  refine wpBut.take 6 (oi := ?_) (v := ?_) ?_ (by kernel_rfl) (by kernel_rfl) (by kernel_rfl) (by kernel_rfl) (fun _ _ _ h => h) (Or.inl ⟨?_, fun wy hSw => ?_⟩) c0 ?_
  rotate_left 2
  · (simp only [List.getElem?_toArray, List.getElem?_cons_succ, List.getElem?_cons_zero]; rfl)
  · rfl
  · dsimp only at hSw
    go_simp
    all_goals with_reducible rfl
  simp only [Act.put, List.setIfInBounds_toArray, List.set_cons_zero, List.set_cons_succ]
  refine wpBut.take 7 (oi := ?_) (v := ?_) ?_ (by kernel_rfl) (by kernel_rfl) (by kernel_rfl) (by kernel_rfl) (fun _ _ _ h => h) (Or.inl ⟨?_, fun wy hSw => ?_⟩) c0 ?_
  rotate_left 2
  · (simp only [List.getElem?_toArray, List.getElem?_cons_succ, List.getElem?_cons_zero]; rfl)
  · rfl
  · dsimp only at hSw
    go_simp
    all_goals with_reducible rfl
  simp only [Act.put, List.setIfInBounds_toArray, List.set_cons_zero, List.set_cons_succ]
  refine wpBut.take 9 (oi := ?_) (v := ?_) ?_ (by kernel_rfl) (by kernel_rfl) (by kernel_rfl) (by kernel_rfl) (fun _ _ _ h => h) (Or.inl ⟨?_, fun wy hSw => ?_⟩) c0 ?_
  rotate_left 2
  · (simp only [List.getElem?_toArray, List.getElem?_cons_succ, List.getElem?_cons_zero]; rfl)
  · rfl
  · dsimp only at hSw
    go_simp
    all_goals with_reducible rfl
  simp only [Act.put, List.setIfInBounds_toArray, List.set_cons_zero, List.set_cons_succ]
  refine wpBut.take 10 (oi := ?_) (v := ?_) ?_ (by kernel_rfl) (by kernel_rfl) (by kernel_rfl) (by kernel_rfl) (fun _ _ _ h => h) (Or.inl ⟨?_, fun wy hSw => ?_⟩) c0 ?_
  rotate_left 2
  · (simp only [List.getElem?_toArray, List.getElem?_cons_succ, List.getElem?_cons_zero]; rfl)
  · rfl
  · dsimp only at hSw
    go_simp
    all_goals with_reducible rfl
  simp only [Act.put, List.setIfInBounds_toArray, List.set_cons_zero, List.set_cons_succ]
  refine wpBut.take 11 (oi := ?_) (v := ?_) ?_ (by kernel_rfl) (by kernel_rfl) (by kernel_rfl) (by kernel_rfl) (fun _ _ _ h => h) (Or.inl ⟨?_, fun wy hSw => ?_⟩) c0 ?_
  rotate_left 2
  · (simp only [List.getElem?_toArray, List.getElem?_cons_succ, List.getElem?_cons_zero]; rfl)
  · rfl
  · dsimp only at hSw
    go_simp
    all_goals with_reducible rfl
  simp only [Act.put, List.setIfInBounds_toArray, List.set_cons_zero, List.set_cons_succ]
  refine wpBut.take 12 (oi := ?_) (v := ?_) ?_ (by kernel_rfl) (by kernel_rfl) (by kernel_rfl) (by kernel_rfl) (fun _ _ _ h => h) (Or.inl ⟨?_, fun wy hSw => ?_⟩) c0 ?_
  rotate_left 2
  · (simp only [List.getElem?_toArray, List.getElem?_cons_succ, List.getElem?_cons_zero]; rfl)
  · rfl
  · dsimp only at hSw
    go_simp
    all_goals with_reducible rfl
  simp only [Act.put, List.setIfInBounds_toArray, List.set_cons_zero, List.set_cons_succ]
  refine wpBut.take 13 (oi := ?_) (v := ?_) ?_ (by kernel_rfl) (by kernel_rfl) (by kernel_rfl) (by kernel_rfl) (fun _ _ _ h => h) (Or.inl ⟨?_, fun wy hSw => ?_⟩) c0 ?_
  rotate_left 2
  · (simp only [List.getElem?_toArray, List.getElem?_cons_succ, List.getElem?_cons_zero]; rfl)
  · rfl
  · dsimp only at hSw
    go_simp
    all_goals with_reducible rfl
  simp only [Act.put, List.setIfInBounds_toArray, List.set_cons_zero, List.set_cons_succ]
  refine wpBut.take 14 (oi := ?_) (v := ?_) ?_ (by kernel_rfl) (by kernel_rfl) (by kernel_rfl) (by kernel_rfl) (fun _ _ _ h => h) (Or.inl ⟨?_, fun wy hSw => ?_⟩) c0 ?_
  rotate_left 2
  · (simp only [List.getElem?_toArray, List.getElem?_cons_succ, List.getElem?_cons_zero]; rfl)
  · rfl
  · dsimp only at hSw
    go_simp
    all_goals with_reducible rfl
  simp only [Act.put, List.setIfInBounds_toArray, List.set_cons_zero, List.set_cons_succ]
  refine wpBut.take 15 (oi := ?_) (v := ?_) ?_ (by kernel_rfl) (by kernel_rfl) (by kernel_rfl) (by kernel_rfl) (fun _ _ _ h => h) (Or.inl ⟨?_, fun wy hSw => ?_⟩) c0 ?_
  rotate_left 2
  · (simp only [List.getElem?_toArray, List.getElem?_cons_succ, List.getElem?_cons_zero]; rfl)
  · rfl
  · dsimp only at hSw
    go_simp
    all_goals with_reducible rfl
  simp only [Act.put, List.setIfInBounds_toArray, List.set_cons_zero, List.set_cons_succ]
  refine wpBut.ready (rs := [1]) (by kernel_rfl) (by simp) ?_
  intro j hj
  obtain rfl := List.mem_singleton.1 hj
  clear hj
  refine wpBut.step (o := ?_) ?_ ?_ fun K hK => ?_
  rotate_left 1
  · (simp only [List.getElem?_toArray, List.getElem?_cons_succ, List.getElem?_cons_zero]; rfl)
  · rfl
  have HK := Lib.hid hK
  clear hK
  go_simp
  refine HK.out _ _ (fun _ => cell_next (((Fr.refl (fun _ => False) w1).alloc _).drew) q0) ?_
  clear HK
  try simp only [Act.put, List.setIfInBounds_toArray, List.set_cons_zero, List.set_cons_succ]
  refine wpBut.ready (rs := [8]) (by kernel_rfl) (by simp) ?_
  intro j hj
  obtain rfl := List.mem_singleton.1 hj
  clear hj
  refine wpBut.step (o := ?_) ?_ ?_ fun K hK => ?_
  rotate_left 1
  · (simp only [List.getElem?_toArray, List.getElem?_cons_succ, List.getElem?_cons_zero]; rfl)
  · rfl
  have HK := Lib.hid hK
  clear hK
  obtain ⟨v1, u1, hr1, G1⟩ := gath_first (c := c) HQ1.out hbi
  have s1 := cell_next G1.fr q0
  refine wp_append_run _ _ 37 37 rfl _ _ rfl rfl hr1 ?_
  refine HK.out _ _ (fun _ => s1) ?_
  clear HK
  try simp only [Act.put, List.setIfInBounds_toArray, List.set_cons_zero, List.set_cons_succ]
  refine wpBut.ready (rs := [16]) (by kernel_rfl) (by simp) ?_
  intro j hj
  obtain rfl := List.mem_singleton.1 hj
  clear hj
  refine wpBut.step (o := ?_) ?_ ?_ fun K hK => ?_
  rotate_left 1
  · (simp only [List.getElem?_toArray, List.getElem?_cons_succ, List.getElem?_cons_zero]; rfl)
  · rfl
  have HK := Lib.hid hK
  clear hK
  obtain ⟨v3, u3, hr3, G3, -⟩ := gath_append (sc := c - (i + 1)) G1 (HQ2.out _ G1.fr) hb3
  obtain ⟨ao3, c3, rfl⟩ := G3.form
  have s3 := cell_next G3.fr q0
  refine wp_append_run _ _ 37 37 rfl _ _ rfl rfl hr3 ?_
  refine HK.out _ _ (fun _ => s3) ?_
  clear HK
  try simp only [Act.put, List.setIfInBounds_toArray, List.set_cons_zero, List.set_cons_succ]
  have l3 := blk_lt (blk_fr H1.out.blk G3.fr (fun h => h))
  have f3 := blk_free (blk_fr H1.out.blk G3.fr (fun h => h)) 0
  refine wpBut.ready (rs := [17]) (by kernel_rfl) (by simp) ?_
  intro j hj
  obtain rfl := List.mem_singleton.1 hj
  clear hj
  refine wpBut.step (o := ?_) ?_ ?_ fun K hK => ?_
  rotate_left 1
  · (simp only [List.getElem?_toArray, List.getElem?_cons_succ, List.getElem?_cons_zero]; rfl)
  · rfl
  have HK := Lib.hid hK
  clear hK
  go_simp
  refine HK.out _ _ (fun _ => s3) ?_
  clear HK
  try simp only [Act.put, List.setIfInBounds_toArray, List.set_cons_zero, List.set_cons_succ]
  refine wpBut.ready (rs := [18]) (by kernel_rfl) (by simp) ?_
  intro j hj
  obtain rfl := List.mem_singleton.1 hj
  clear hj
  refine wpBut.step (o := ?_) ?_ ?_ fun K hK => ?_
  rotate_left 1
  · (simp only [List.getElem?_toArray, List.getElem?_cons_succ, List.getElem?_cons_zero]; rfl)
  · rfl
  have HK := Lib.hid hK
  clear hK
  go_simp
  refine HK.out _ _ (fun _ => s3) ?_
  clear HK
  try simp only [Act.put, List.setIfInBounds_toArray, List.set_cons_zero, List.set_cons_succ]
  refine wpBut.ready (rs := [19]) (by kernel_rfl) (by simp) ?_
  intro j hj
  obtain rfl := List.mem_singleton.1 hj
  clear hj
  refine wpBut.step (o := ?_) ?_ ?_ fun K hK => ?_
  rotate_left 1
  · (simp only [List.getElem?_toArray, List.getElem?_cons_succ, List.getElem?_cons_zero]; rfl)
  · rfl
  have HK := Lib.hid hK
  clear hK
  go_simp
  refine HK.out _ _ (fun h => absurd rfl h) ?_
  clear HK
  try simp only [Act.put, List.setIfInBounds_toArray, List.set_cons_zero, List.set_cons_succ]
  refine wpBut.done (by kernel_rfl) ?_ _
  refine NoPanic.normal ?_
  have HD := Lib.hid (gath_done H1.out G3)
  clear HQ1 HQ2 hlow hhigh s3 f3 l3 hr3 G3
  go_wp2_with fail
  go_ret2
  exact ⟨rfl, HD.out.after HF.out⟩
end

section
open Go.RowKit

/-- a pair's number, in the midst of a row -/
theorem pcells_num_set (L R : List KV) (key : ByteArray) (m n : Int) (i : Nat) (hi : L.length = i) : (pcells (L ++ (key, m) :: R)).set (i * 2 + 1) (.int .i64 n) = pcells (L ++ (key, n) :: R) := by
  rw [pcells_append, pcells_append, pcells_cons, pcells_cons]
  have hl : (pcells L).length = i * 2 := by rw [pcells_length, hi]
  rw [List.set_append_right _ _ (by omega), hl, Nat.add_sub_cancel_left]
  rfl

set_option maxHeartbeats 4000000 in
set_option maxRecDepth 100000 in
theorem refput_there (rb : Nat) (ao : Option Addr) (ln c i : Nat) (key : ByteArray) (m n : Int) (L R : List KV) (w : World) (h : RefAt w rb (.slice ao ln c) (L ++ (key, m) :: R)) (hln : ln = (L ++ (key, m) :: R).length) (hi : i = L.length)
    (hc : Calls Try.prog 51 #[.pointer (some ⟨rb, 0, none⟩), .string key] w (FindPost i true w)) :
    Calls Try.prog 30 #[.pointer (some ⟨rb, 0, none⟩), .string key, .int .i64 n] w (RefPost (some m) rb (.slice ao ln c) (L ++ (key, n) :: R) w) := by
  have hil : (i : Int) < (ln : Int) := by rw [hi, hln]; simp; omega
  have hi0 : (0 : Int) ≤ (i : Int) := by omega
  have HC := Lib.hid hc
  have HH := Lib.hid h
  have HI := Lib.hid hi
  have HLN := Lib.hid hln
  clear h hc hi hln
  go_enter Try.func30, Try.ntmps30
  go_wp2_with fail
  refine HC.out.mono ?_
  rintro e w1 ⟨rfl, hf⟩
  have h1 := HH.out.fr hf (fun _ _ h => h)
  have q0 := blk_cell h1.blk 0
  simp only [List.getElem?_cons_zero] at q0
  obtain ⟨g, rfl, -, p1⟩ := row_at h1.row rfl i (by rw [HI.out]; simp)
  simp only [HI.out] at p1
  rw [List.getElem_append_right (Nat.le_refl _)] at p1
  simp only [Nat.sub_self, List.getElem_cons_zero] at p1
  simp only [← HI.out] at p1
  have f1 : w1.frozen? ⟨g, i * 2 + 1, none⟩ = false := (owns_congr h1.row HLN.out.symm rfl).frozenAt _
  have l1 : g < w1.heap.size := owns_lt h1.row rfl
  have hrb : g ≠ rb := fun e => by
    obtain ⟨cur, hb⟩ := owns_blk h1.row (k := g) rfl
    have := h1.blk
    rw [← e] at this
    unfold World.blk at hb this
    rw [hb] at this
    cases this
  have hw := ((owns_congr h1.row HLN.out.symm rfl).stored (i * 2 + 1) (.int .i64 n)).1
  rw [pcells_num_set L R key m n i HI.out.symm] at hw
  have HB := Lib.hid (blk_set_other h1.blk ⟨g, i * 2 + 1, none⟩ (Ne.symm hrb) (.int .i64 n))
  have HW := Lib.hid hw
  have HF := Lib.hid hf
  clear hf h1 hw hrb
  go_wp2_with fail
  go_ret2
  refine ⟨rfl, _, ⟨HB.out, owns_congr HW.out (by rw [HLN.out]; simp) rfl⟩, ?_, fun k hk => .inl hk⟩
  exact (HF.out.mono fun _ _ h => h.elim).setCell (p := ⟨g, i * 2 + 1, none⟩) (fun _ => .inr rfl) _
end

section
open Go.RowKit

set_option maxHeartbeats 4000000 in
set_option maxRecDepth 100000 in
theorem refput_new (rb : Nat) (ao : Option Addr) (ln c i : Nat) (key : ByteArray) (n : Int) (L R : List KV) (w : World) (h : RefAt w rb (.slice ao ln c) (L ++ R)) (hln : ln = (L ++ R).length) (hl : (ln + 1) * 24 ≤ 140737488355328) (hi : i = L.length)
    (hc : Calls Try.prog 51 #[.pointer (some ⟨rb, 0, none⟩), .string key] w (FindPost i false w)) :
    Calls Try.prog 30 #[.pointer (some ⟨rb, 0, none⟩), .string key, .int .i64 n] w (RefPost none rb (.slice ao ln c) (L ++ (key, n) :: R) w) := by
  have hil : (i : Int) ≤ (ln : Int) := by rw [hi, hln]; simp; omega
  have hi0 : (0 : Int) ≤ (i : Int) := by omega
  have hbi : i * 24 ≤ 140737488355328 := by omega
  have hb2 : (i + 1) * 24 ≤ 140737488355328 := by omega
  have hb3 : (i + 1 + (ln - i)) * 24 ≤ 140737488355328 := by omega
  obtain ⟨ao', c', hv, hnc, -, -, -, ha⟩ := owns_form (owns_congr h.row hln.symm rfl)
  cases hv
  have hlow := run_cut_low ao ln c i (by omega) (by omega) (fun a e => by obtain ⟨g, cur, hg, -⟩ := ha a e; exact ⟨g, hg⟩)
  have hhigh := run_cut_high ao ln c i (by omega)
  obtain ⟨so, hso⟩ : ∃ so, so = (if c = i then ao else ao.map (·.add (i * 2))) := ⟨_, rfl⟩
  rw [← hso] at hhigh
  have HP2 := Lib.hid (show ∀ wc, Fr (fun _ => False) w wc → Piece so (ln - i) R wc from fun wc hf => by
    have := piece_high (i := i) h hln (by omega) hf
    rwa [← hso, hi, List.drop_left, ← hi] at this)
  have HP1 := Lib.hid (show ∀ wc, Fr (fun _ => False) w wc → Piece ao i L wc from fun wc hf => by
    have := piece_low (i := i) h (by omega) hf
    rwa [hi, List.take_left, ← hi] at this)
  have HC := Lib.hid hc
  have HH := Lib.hid h
  clear h hc hi hln hso ha
  go_enter Try.func30, Try.ntmps30
  go_wp2_with fail
  refine HC.out.mono ?_
  rintro e w1 ⟨rfl, hf⟩
  have h1 := HH.out.fr hf (fun _ _ h => h)
  have q0 := blk_cell h1.blk 0
  have l0 := blk_lt h1.blk
  simp only [List.getElem?_cons_zero] at q0
  have HF := Lib.hid hf
  have H1 := Lib.hid h1
  have HQ1 := Lib.hid (show ∀ wc, Fr (fun _ => False) w1 wc → Piece ao i L wc from fun wc h => HP1.out wc (hf.trans' h))
  have HQ2 := Lib.hid (show ∀ wc, Fr (fun _ => False) w1 wc → Piece so (ln - i) R wc from fun wc h => HP2.out wc (hf.trans' h))
  clear hf h1
  go_wp2_with fail
  refine wp_region_noPanic ?_
  refine wpBut.start (C := fun w' => w'.cell? ⟨rb, 0, none⟩ = some (.slice ao ln c)) (t := 23) (by kernel_rfl) ?_
  have c0 : w1.drew.cell? ⟨rb, 0, none⟩ = some (.slice ao ln c) := q0
  refine wpBut.take 0 (oi := ?_) (v := ?_) ?_ (by kernel_rfl) (by kernel_rfl) (by kernel_rfl) (by kernel_rfl) (fun _ _ _ h => h) (Or.inl ⟨?_, fun wy hSw => ?_⟩) c0 ?_
  rotate_left 2
  · (simp only [List.getElem?_toArray, List.getElem?_cons_zero]; rfl)
  · rfl
  · dsimp only at hSw
    go_simp
    all_goals with_reducible rfl
  simp only [Act.put, List.setIfInBounds_toArray, List.set_cons_zero, List.set_cons_succ]
  refine wpBut.take 2 (oi := ?_) (v := ?_) ?_ (by kernel_rfl) (by kernel_rfl) (by kernel_rfl) (by kernel_rfl) (fun _ _ _ h => h) (Or.inl ⟨?_, fun wy hSw => ?_⟩) c0 ?_
  rotate_left 2
  · (simp only [List.getElem?_toArray, List.getElem?_cons_succ, List.getElem?_cons_zero]; rfl)
  · rfl
  · dsimp only at hSw
    go_simp
    all_goals with_reducible rfl
  simp only [Act.put, List.setIfInBounds_toArray, List.set_cons_zero, List.set_cons_succ]
  refine wpBut.take 3 (oi := ?_) (v := ?_) ?_ (by kernel_rfl) (by kernel_rfl) (by kernel_rfl) (by kernel_rfl) (fun _ _ _ h => h) (Or.inl ⟨?_, fun wy hSw => ?_⟩) c0 ?_
  rotate_left 2
  · (simp only [List.getElem?_toArray, List.getElem?_cons_succ, List.getElem?_cons_zero]; rfl)
  · rfl
  · dsimp only at hSw
    go_simp
    all_goals with_reducible rfl
  simp only [Act.put, List.setIfInBounds_toArray, List.set_cons_zero, List.set_cons_succ]
  refine wpBut.take 4 (oi := ?_) (v := ?_) ?_ (by kernel_rfl) (by kernel_rfl) (by kernel_rfl) (by kernel_rfl) (fun _ _ _ h => h) (Or.inl ⟨?_, fun wy hSw => ?_⟩) c0 ?_
  rotate_left 2
  · (simp only [List.getElem?_toArray, List.getElem?_cons_succ, List.getElem?_cons_zero]; rfl)
  · rfl
  · dsimp only at hSw
    go_simp
    all_goals with_reducible rfl
  simp only [Act.put, List.setIfInBounds_toArray, List.set_cons_zero, List.set_cons_succ]
  refine wpBut.take 5 (oi := ?_) (v := ?_) ?_ (by kernel_rfl) (by kernel_rfl) (by kernel_rfl) (by kernel_rfl) (fun _ _ _ h => h) (Or.inl ⟨?_, fun wy hSw => ?_⟩) c0 ?_
  rotate_left 2
  · (simp only [List.getElem?_toArray, List.getElem?_cons_succ, List.getElem?_cons_zero]; rfl)
  · rfl
  · dsimp only at hSw
    go_simp
    all_goals with_reducible rfl
  simp only [Act.put, List.setIfInBounds_toArray, List.set_cons_zero, List.set_cons_succ]
  refine wpBut.take 6 (oi := ?_) (v := ?_) ?_ (by kernel_rfl) (by kernel_rfl) (by kernel_rfl) (by kernel_rfl) (fun _ _ _ h => h) (Or.inl ⟨?_, fun wy hSw => ?_⟩) c0 ?_
  rotate_left 2
  · (simp only [List.getElem?_toArray, List.getElem?_cons_succ, List.getElem?_cons_zero]; rfl)
  · rfl
  · dsimp only at hSw
    go_simp
    all_goals with_reducible rfl
  simp only [Act.put, List.setIfInBounds_toArray, List.set_cons_zero, List.set_cons_succ]
  refine wpBut.take 7 (oi := ?_) (v := ?_) ?_ (by kernel_rfl) (by kernel_rfl) (by kernel_rfl) (by kernel_rfl) (fun _ _ _ h => h) (Or.inl ⟨?_, fun wy hSw => ?_⟩) c0 ?_
  rotate_left 2
  · (simp only [List.getElem?_toArray, List.getElem?_cons_succ, List.getElem?_cons_zero]; rfl)
  · rfl
  · dsimp only at hSw
    go_simp
    all_goals with_reducible rfl
  simp only [Act.put, List.setIfInBounds_toArray, List.set_cons_zero, List.set_cons_succ]
  refine wpBut.take 9 (oi := ?_) (v := ?_) ?_ (by kernel_rfl) (by kernel_rfl) (by kernel_rfl) (by kernel_rfl) (fun _ _ _ h => h) (Or.inl ⟨?_, fun wy hSw => ?_⟩) c0 ?_
  rotate_left 2
  · (simp only [List.getElem?_toArray, List.getElem?_cons_succ, List.getElem?_cons_zero]; rfl)
  · rfl
  · dsimp only at hSw
    go_simp
    all_goals with_reducible rfl
  simp only [Act.put, List.setIfInBounds_toArray, List.set_cons_zero, List.set_cons_succ]
  refine wpBut.take 10 (oi := ?_) (v := ?_) ?_ (by kernel_rfl) (by kernel_rfl) (by kernel_rfl) (by kernel_rfl) (fun _ _ _ h => h) (Or.inl ⟨?_, fun wy hSw => ?_⟩) c0 ?_
  rotate_left 2
  · (simp only [List.getElem?_toArray, List.getElem?_cons_succ, List.getElem?_cons_zero]; rfl)
  · rfl
  · dsimp only at hSw
    go_simp
    all_goals with_reducible rfl
  simp only [Act.put, List.setIfInBounds_toArray, List.set_cons_zero, List.set_cons_succ]
  refine wpBut.take 11 (oi := ?_) (v := ?_) ?_ (by kernel_rfl) (by kernel_rfl) (by kernel_rfl) (by kernel_rfl) (fun _ _ _ h => h) (Or.inl ⟨?_, fun wy hSw => ?_⟩) c0 ?_
  rotate_left 2
  · (simp only [List.getElem?_toArray, List.getElem?_cons_succ, List.getElem?_cons_zero]; rfl)
  · rfl
  · dsimp only at hSw
    go_simp
    all_goals with_reducible rfl
  simp only [Act.put, List.setIfInBounds_toArray, List.set_cons_zero, List.set_cons_succ]
  refine wpBut.take 14 (oi := ?_) (v := ?_) ?_ (by kernel_rfl) (by kernel_rfl) (by kernel_rfl) (by kernel_rfl) (fun _ _ _ h => h) (Or.inl ⟨?_, fun wy hSw => ?_⟩) c0 ?_
  rotate_left 2
  · (simp only [List.getElem?_toArray, List.getElem?_cons_succ, List.getElem?_cons_zero]; rfl)
  · rfl
  · dsimp only at hSw
    go_simp
    all_goals with_reducible rfl
  simp only [Act.put, List.setIfInBounds_toArray, List.set_cons_zero, List.set_cons_succ]
  refine wpBut.take 15 (oi := ?_) (v := ?_) ?_ (by kernel_rfl) (by kernel_rfl) (by kernel_rfl) (by kernel_rfl) (fun _ _ _ h => h) (Or.inl ⟨?_, fun wy hSw => ?_⟩) c0 ?_
  rotate_left 2
  · (simp only [List.getElem?_toArray, List.getElem?_cons_succ, List.getElem?_cons_zero]; rfl)
  · rfl
  · dsimp only at hSw
    go_simp
    all_goals with_reducible rfl
  simp only [Act.put, List.setIfInBounds_toArray, List.set_cons_zero, List.set_cons_succ]
  refine wpBut.take 16 (oi := ?_) (v := ?_) ?_ (by kernel_rfl) (by kernel_rfl) (by kernel_rfl) (by kernel_rfl) (fun _ _ _ h => h) (Or.inl ⟨?_, fun wy hSw => ?_⟩) c0 ?_
  rotate_left 2
  · (simp only [List.getElem?_toArray, List.getElem?_cons_succ, List.getElem?_cons_zero]; rfl)
  · rfl
  · dsimp only at hSw
    go_simp
    all_goals with_reducible rfl
  simp only [Act.put, List.setIfInBounds_toArray, List.set_cons_zero, List.set_cons_succ]
  refine wpBut.take 17 (oi := ?_) (v := ?_) ?_ (by kernel_rfl) (by kernel_rfl) (by kernel_rfl) (by kernel_rfl) (fun _ _ _ h => h) (Or.inl ⟨?_, fun wy hSw => ?_⟩) c0 ?_
  rotate_left 2
  · (simp only [List.getElem?_toArray, List.getElem?_cons_succ, List.getElem?_cons_zero]; rfl)
  · rfl
  · dsimp only at hSw
    go_simp
    all_goals with_reducible rfl
  simp only [Act.put, List.setIfInBounds_toArray, List.set_cons_zero, List.set_cons_succ]
  refine wpBut.take 18 (oi := ?_) (v := ?_) ?_ (by kernel_rfl) (by kernel_rfl) (by kernel_rfl) (by kernel_rfl) (fun _ _ _ h => h) (Or.inl ⟨?_, fun wy hSw => ?_⟩) c0 ?_
  rotate_left 2
  · (simp only [List.getElem?_toArray, List.getElem?_cons_succ, List.getElem?_cons_zero]; rfl)
  · rfl
  · dsimp only at hSw
    go_simp
    all_goals with_reducible rfl
  simp only [Act.put, List.setIfInBounds_toArray, List.set_cons_zero, List.set_cons_succ]
  refine wpBut.take 19 (oi := ?_) (v := ?_) ?_ (by kernel_rfl) (by kernel_rfl) (by kernel_rfl) (by kernel_rfl) (fun _ _ _ h => h) (Or.inl ⟨?_, fun wy hSw => ?_⟩) c0 ?_
  rotate_left 2
  · (simp only [List.getElem?_toArray, List.getElem?_cons_succ, List.getElem?_cons_zero]; rfl)
  · rfl
  · dsimp only at hSw
    go_simp
    all_goals with_reducible rfl
  simp only [Act.put, List.setIfInBounds_toArray, List.set_cons_zero, List.set_cons_succ]
  refine wpBut.ready (rs := [1, 12]) (by kernel_rfl) (by simp) ?_
  intro j hj
  rcases List.mem_cons.1 hj with rfl | hj
  · clear hj
    refine wpBut.step (o := ?_) ?_ ?_ fun K hK => ?_
    rotate_left 1
    · (simp only [List.getElem?_toArray, List.getElem?_cons_succ, List.getElem?_cons_zero]; rfl)
    · rfl
    have HK := Lib.hid hK
    clear hK
    go_simp
    refine HK.out _ _ (fun _ => cell_next (((Fr.refl (fun _ => False) w1).alloc _).drew) q0) ?_
    clear HK
    try simp only [Act.put, List.setIfInBounds_toArray, List.set_cons_zero, List.set_cons_succ]
    refine wpBut.ready (rs := [8, 12]) (by kernel_rfl) (by simp) ?_
    intro j hj
    rcases List.mem_cons.1 hj with rfl | hj
    · clear hj
      refine wpBut.step (o := ?_) ?_ ?_ fun K hK => ?_
      rotate_left 1
      · (simp only [List.getElem?_toArray, List.getElem?_cons_succ, List.getElem?_cons_zero]; rfl)
      · rfl
      have HK := Lib.hid hK
      clear hK
      obtain ⟨v1, u1, hr1, G1⟩ := gath_first (c := c) HQ1.out hbi
      have s1 := cell_next G1.fr q0
      refine wp_append_run _ _ 37 37 rfl _ _ rfl rfl hr1 ?_
      refine HK.out _ _ (fun _ => s1) ?_
      clear HK
      try simp only [Act.put, List.setIfInBounds_toArray, List.set_cons_zero, List.set_cons_succ]
      refine wpBut.ready (rs := [12]) (by kernel_rfl) (by simp) ?_
      intro j hj
      obtain rfl := List.mem_singleton.1 hj
      clear hj
      refine wpBut.step (o := ?_) ?_ ?_ fun K hK => ?_
      rotate_left 1
      · (simp only [List.getElem?_toArray, List.getElem?_cons_succ, List.getElem?_cons_zero]; rfl)
      · rfl
      have HK := Lib.hid hK
      clear hK
      go_simp
      refine HK.out _ _ (fun _ => cell_next ((G1.fr).alloc _) q0) ?_
      clear HK
      try simp only [Act.put, List.setIfInBounds_toArray, List.set_cons_zero, List.set_cons_succ]
      refine wpBut.ready (rs := [13]) (by kernel_rfl) (by simp) ?_
      intro j hj
      obtain rfl := List.mem_singleton.1 hj
      clear hj
      refine wpBut.step (o := ?_) ?_ ?_ fun K hK => ?_
      rotate_left 1
      · (simp only [List.getElem?_toArray, List.getElem?_cons_succ, List.getElem?_cons_zero]; rfl)
      · rfl
      have HK := Lib.hid hK
      clear hK
      obtain ⟨v2, u2, hr2, G2, -⟩ := gath_append (sc := 1) (G1.alloc _) (piece_one (p := (key, n)) (blk_new u1 [.string key, .int .i64 n] 64)) hb2
      have s2 := cell_next G2.fr q0
      refine wp_append_run _ _ 37 37 rfl _ _ rfl rfl hr2 ?_
      refine HK.out _ _ (fun _ => s2) ?_
      clear HK
      try simp only [Act.put, List.setIfInBounds_toArray, List.set_cons_zero, List.set_cons_succ]
      refine wpBut.ready (rs := [20]) (by kernel_rfl) (by simp) ?_
      intro j hj
      obtain rfl := List.mem_singleton.1 hj
      clear hj
      refine wpBut.step (o := ?_) ?_ ?_ fun K hK => ?_
      rotate_left 1
      · (simp only [List.getElem?_toArray, List.getElem?_cons_succ, List.getElem?_cons_zero]; rfl)
      · rfl
      have HK := Lib.hid hK
      clear hK
      obtain ⟨v3, u3, hr3, G3, -⟩ := gath_append (sc := c - i) G2 (HQ2.out _ G2.fr) hb3
      obtain ⟨ao3, c3, rfl⟩ := G3.form
      have s3 := cell_next G3.fr q0
      refine wp_append_run _ _ 37 37 rfl _ _ rfl rfl hr3 ?_
      refine HK.out _ _ (fun _ => s3) ?_
      clear HK
      try simp only [Act.put, List.setIfInBounds_toArray, List.set_cons_zero, List.set_cons_succ]
      have l3 := blk_lt (blk_fr H1.out.blk G3.fr (fun h => h))
      have f3 := blk_free (blk_fr H1.out.blk G3.fr (fun h => h)) 0
      refine wpBut.ready (rs := [21]) (by kernel_rfl) (by simp) ?_
      intro j hj
      obtain rfl := List.mem_singleton.1 hj
      clear hj
      refine wpBut.step (o := ?_) ?_ ?_ fun K hK => ?_
      rotate_left 1
      · (simp only [List.getElem?_toArray, List.getElem?_cons_succ, List.getElem?_cons_zero]; rfl)
      · rfl
      have HK := Lib.hid hK
      clear hK
      go_simp
      refine HK.out _ _ (fun _ => s3) ?_
      clear HK
      try simp only [Act.put, List.setIfInBounds_toArray, List.set_cons_zero, List.set_cons_succ]
      refine wpBut.ready (rs := [22]) (by kernel_rfl) (by simp) ?_
      intro j hj
      obtain rfl := List.mem_singleton.1 hj
      clear hj
      refine wpBut.step (o := ?_) ?_ ?_ fun K hK => ?_
      rotate_left 1
      · (simp only [List.getElem?_toArray, List.getElem?_cons_succ, List.getElem?_cons_zero]; rfl)
      · rfl
      have HK := Lib.hid hK
      clear hK
      go_simp
      refine HK.out _ _ (fun _ => s3) ?_
      clear HK
      try simp only [Act.put, List.setIfInBounds_toArray, List.set_cons_zero, List.set_cons_succ]
      refine wpBut.ready (rs := [23]) (by kernel_rfl) (by simp) ?_
      intro j hj
      obtain rfl := List.mem_singleton.1 hj
      clear hj
      refine wpBut.step (o := ?_) ?_ ?_ fun K hK => ?_
      rotate_left 1
      · (simp only [List.getElem?_toArray, List.getElem?_cons_succ, List.getElem?_cons_zero]; rfl)
      · rfl
      have HK := Lib.hid hK
      clear hK
      go_simp
      refine HK.out _ _ (fun h => absurd rfl h) ?_
      clear HK
      try simp only [Act.put, List.setIfInBounds_toArray, List.set_cons_zero, List.set_cons_succ]
      refine wpBut.done (by kernel_rfl) ?_ _
      refine NoPanic.normal ?_
      have hd := gath_done H1.out G3
      rw [List.append_assoc] at hd
      have HD := Lib.hid hd
      clear hd HQ1 HQ2 hlow hhigh s3 f3 l3 hr3 G3
      go_wp2_with fail
      go_ret2
      exact ⟨rfl, HD.out.after HF.out⟩
    · obtain rfl := List.mem_singleton.1 hj
      clear hj
      refine wpBut.step (o := ?_) ?_ ?_ fun K hK => ?_
      rotate_left 1
      · (simp only [List.getElem?_toArray, List.getElem?_cons_succ, List.getElem?_cons_zero]; rfl)
      · rfl
      have HK := Lib.hid hK
      clear hK
      go_simp
      refine HK.out _ _ (fun _ => cell_next ((((Fr.refl (fun _ => False) w1).alloc _).alloc _).drew) q0) ?_
      clear HK
      try simp only [Act.put, List.setIfInBounds_toArray, List.set_cons_zero, List.set_cons_succ]
      refine wpBut.ready (rs := [8]) (by kernel_rfl) (by simp) ?_
      intro j hj
      obtain rfl := List.mem_singleton.1 hj
      clear hj
      refine wpBut.step (o := ?_) ?_ ?_ fun K hK => ?_
      rotate_left 1
      · (simp only [List.getElem?_toArray, List.getElem?_cons_succ, List.getElem?_cons_zero]; rfl)
      · rfl
      have HK := Lib.hid hK
      clear hK
      obtain ⟨v1, u1, hr1, G1, B1⟩ := gath_first2 (c := c) (key, n) HQ1.out hbi
      have s1 := cell_next G1.fr q0
      refine wp_append_run _ _ 37 37 rfl _ _ rfl rfl hr1 ?_
      refine HK.out _ _ (fun _ => s1) ?_
      clear HK
      try simp only [Act.put, List.setIfInBounds_toArray, List.set_cons_zero, List.set_cons_succ]
      refine wpBut.ready (rs := [13]) (by kernel_rfl) (by simp) ?_
      intro j hj
      obtain rfl := List.mem_singleton.1 hj
      clear hj
      refine wpBut.step (o := ?_) ?_ ?_ fun K hK => ?_
      rotate_left 1
      · (simp only [List.getElem?_toArray, List.getElem?_cons_succ, List.getElem?_cons_zero]; rfl)
      · rfl
      have HK := Lib.hid hK
      clear hK
      obtain ⟨v2, u2, hr2, G2, -⟩ := gath_append (sc := 1) G1 (piece_one (p := (key, n)) B1) hb2
      have s2 := cell_next G2.fr q0
      refine wp_append_run _ _ 37 37 rfl _ _ rfl rfl hr2 ?_
      refine HK.out _ _ (fun _ => s2) ?_
      clear HK
      try simp only [Act.put, List.setIfInBounds_toArray, List.set_cons_zero, List.set_cons_succ]
      refine wpBut.ready (rs := [20]) (by kernel_rfl) (by simp) ?_
      intro j hj
      obtain rfl := List.mem_singleton.1 hj
      clear hj
      refine wpBut.step (o := ?_) ?_ ?_ fun K hK => ?_
      rotate_left 1
      · (simp only [List.getElem?_toArray, List.getElem?_cons_succ, List.getElem?_cons_zero]; rfl)
      · rfl
      have HK := Lib.hid hK
      clear hK
      obtain ⟨v3, u3, hr3, G3, -⟩ := gath_append (sc := c - i) G2 (HQ2.out _ G2.fr) hb3
      obtain ⟨ao3, c3, rfl⟩ := G3.form
      have s3 := cell_next G3.fr q0
      refine wp_append_run _ _ 37 37 rfl _ _ rfl rfl hr3 ?_
      refine HK.out _ _ (fun _ => s3) ?_
      clear HK
      try simp only [Act.put, List.setIfInBounds_toArray, List.set_cons_zero, List.set_cons_succ]
      have l3 := blk_lt (blk_fr H1.out.blk G3.fr (fun h => h))
      have f3 := blk_free (blk_fr H1.out.blk G3.fr (fun h => h)) 0
      refine wpBut.ready (rs := [21]) (by kernel_rfl) (by simp) ?_
      intro j hj
      obtain rfl := List.mem_singleton.1 hj
      clear hj
      refine wpBut.step (o := ?_) ?_ ?_ fun K hK => ?_
      rotate_left 1
      · (simp only [List.getElem?_toArray, List.getElem?_cons_succ, List.getElem?_cons_zero]; rfl)
      · rfl
      have HK := Lib.hid hK
      clear hK
      go_simp
      refine HK.out _ _ (fun _ => s3) ?_
      clear HK
      try simp only [Act.put, List.setIfInBounds_toArray, List.set_cons_zero, List.set_cons_succ]
      refine wpBut.ready (rs := [22]) (by kernel_rfl) (by simp) ?_
      intro j hj
      obtain rfl := List.mem_singleton.1 hj
      clear hj
      refine wpBut.step (o := ?_) ?_ ?_ fun K hK => ?_
      rotate_left 1
      · (simp only [List.getElem?_toArray, List.getElem?_cons_succ, List.getElem?_cons_zero]; rfl)
      · rfl
      have HK := Lib.hid hK
      clear hK
      go_simp
      refine HK.out _ _ (fun _ => s3) ?_
      clear HK
      try simp only [Act.put, List.setIfInBounds_toArray, List.set_cons_zero, List.set_cons_succ]
      refine wpBut.ready (rs := [23]) (by kernel_rfl) (by simp) ?_
      intro j hj
      obtain rfl := List.mem_singleton.1 hj
      clear hj
      refine wpBut.step (o := ?_) ?_ ?_ fun K hK => ?_
      rotate_left 1
      · (simp only [List.getElem?_toArray, List.getElem?_cons_succ, List.getElem?_cons_zero]; rfl)
      · rfl
      have HK := Lib.hid hK
      clear hK
      go_simp
      refine HK.out _ _ (fun h => absurd rfl h) ?_
      clear HK
      try simp only [Act.put, List.setIfInBounds_toArray, List.set_cons_zero, List.set_cons_succ]
      refine wpBut.done (by kernel_rfl) ?_ _
      refine NoPanic.normal ?_
      have hd := gath_done H1.out G3
      rw [List.append_assoc] at hd
      have HD := Lib.hid hd
      clear hd HQ1 HQ2 hlow hhigh s3 f3 l3 hr3 G3
      go_wp2_with fail
      go_ret2
      exact ⟨rfl, HD.out.after HF.out⟩
  · obtain rfl := List.mem_singleton.1 hj
    clear hj
    refine wpBut.step (o := ?_) ?_ ?_ fun K hK => ?_
    rotate_left 1
    · (simp only [List.getElem?_toArray, List.getElem?_cons_succ, List.getElem?_cons_zero]; rfl)
    · rfl
    have HK := Lib.hid hK
    clear hK
    go_simp
    refine HK.out _ _ (fun _ => cell_next (((Fr.refl (fun _ => False) w1).alloc _).drew) q0) ?_
    clear HK
    try simp only [Act.put, List.setIfInBounds_toArray, List.set_cons_zero, List.set_cons_succ]
    refine wpBut.ready (rs := [1]) (by kernel_rfl) (by simp) ?_
    intro j hj
    obtain rfl := List.mem_singleton.1 hj
    clear hj
    refine wpBut.step (o := ?_) ?_ ?_ fun K hK => ?_
    rotate_left 1
    · (simp only [List.getElem?_toArray, List.getElem?_cons_succ, List.getElem?_cons_zero]; rfl)
    · rfl
    have HK := Lib.hid hK
    clear hK
    go_simp
    refine HK.out _ _ (fun _ => cell_next ((((Fr.refl (fun _ => False) w1).alloc _).alloc _).drew) q0) ?_
    clear HK
    try simp only [Act.put, List.setIfInBounds_toArray, List.set_cons_zero, List.set_cons_succ]
    refine wpBut.ready (rs := [8]) (by kernel_rfl) (by simp) ?_
    intro j hj
    obtain rfl := List.mem_singleton.1 hj
    clear hj
    refine wpBut.step (o := ?_) ?_ ?_ fun K hK => ?_
    rotate_left 1
    · (simp only [List.getElem?_toArray, List.getElem?_cons_succ, List.getElem?_cons_zero]; rfl)
    · rfl
    have HK := Lib.hid hK
    clear hK
    obtain ⟨v1, u1, hr1, G1, B1⟩ := gath_first3 (c := c) (key, n) HQ1.out hbi
    have s1 := cell_next G1.fr q0
    refine wp_append_run _ _ 37 37 rfl _ _ rfl rfl hr1 ?_
    refine HK.out _ _ (fun _ => s1) ?_
    clear HK
    try simp only [Act.put, List.setIfInBounds_toArray, List.set_cons_zero, List.set_cons_succ]
    refine wpBut.ready (rs := [13]) (by kernel_rfl) (by simp) ?_
    intro j hj
    obtain rfl := List.mem_singleton.1 hj
    clear hj
    refine wpBut.step (o := ?_) ?_ ?_ fun K hK => ?_
    rotate_left 1
    · (simp only [List.getElem?_toArray, List.getElem?_cons_succ, List.getElem?_cons_zero]; rfl)
    · rfl
    have HK := Lib.hid hK
    clear hK
    obtain ⟨v2, u2, hr2, G2, -⟩ := gath_append (sc := 1) G1 (piece_one (p := (key, n)) B1) hb2
    have s2 := cell_next G2.fr q0
    refine wp_append_run _ _ 37 37 rfl _ _ rfl rfl hr2 ?_
    refine HK.out _ _ (fun _ => s2) ?_
    clear HK
    try simp only [Act.put, List.setIfInBounds_toArray, List.set_cons_zero, List.set_cons_succ]
    refine wpBut.ready (rs := [20]) (by kernel_rfl) (by simp) ?_
    intro j hj
    obtain rfl := List.mem_singleton.1 hj
    clear hj
    refine wpBut.step (o := ?_) ?_ ?_ fun K hK => ?_
    rotate_left 1
    · (simp only [List.getElem?_toArray, List.getElem?_cons_succ, List.getElem?_cons_zero]; rfl)
    · rfl
    have HK := Lib.hid hK
    clear hK
    obtain ⟨v3, u3, hr3, G3, -⟩ := gath_append (sc := c - i) G2 (HQ2.out _ G2.fr) hb3
    obtain ⟨ao3, c3, rfl⟩ := G3.form
    have s3 := cell_next G3.fr q0
    refine wp_append_run _ _ 37 37 rfl _ _ rfl rfl hr3 ?_
    refine HK.out _ _ (fun _ => s3) ?_
    clear HK
    try simp only [Act.put, List.setIfInBounds_toArray, List.set_cons_zero, List.set_cons_succ]
    have l3 := blk_lt (blk_fr H1.out.blk G3.fr (fun h => h))
    have f3 := blk_free (blk_fr H1.out.blk G3.fr (fun h => h)) 0
    refine wpBut.ready (rs := [21]) (by kernel_rfl) (by simp) ?_
    intro j hj
    obtain rfl := List.mem_singleton.1 hj
    clear hj
    refine wpBut.step (o := ?_) ?_ ?_ fun K hK => ?_
    rotate_left 1
    · (simp only [List.getElem?_toArray, List.getElem?_cons_succ, List.getElem?_cons_zero]; rfl)
    · rfl
    have HK := Lib.hid hK
    clear hK
    go_simp
    refine HK.out _ _ (fun _ => s3) ?_
    clear HK
    try simp only [Act.put, List.setIfInBounds_toArray, List.set_cons_zero, List.set_cons_succ]
    refine wpBut.ready (rs := [22]) (by kernel_rfl) (by simp) ?_
    intro j hj
    obtain rfl := List.mem_singleton.1 hj
    clear hj
    refine wpBut.step (o := ?_) ?_ ?_ fun K hK => ?_
    rotate_left 1
    · (simp only [List.getElem?_toArray, List.getElem?_cons_succ, List.getElem?_cons_zero]; rfl)
    · rfl
    have HK := Lib.hid hK
    clear hK
    go_simp
    refine HK.out _ _ (fun _ => s3) ?_
    clear HK
    try simp only [Act.put, List.setIfInBounds_toArray, List.set_cons_zero, List.set_cons_succ]
    refine wpBut.ready (rs := [23]) (by kernel_rfl) (by simp) ?_
    intro j hj
    obtain rfl := List.mem_singleton.1 hj
    clear hj
    refine wpBut.step (o := ?_) ?_ ?_ fun K hK => ?_
    rotate_left 1
    · (simp only [List.getElem?_toArray, List.getElem?_cons_succ, List.getElem?_cons_zero]; rfl)
    · rfl
    have HK := Lib.hid hK
    clear hK
    go_simp
    refine HK.out _ _ (fun h => absurd rfl h) ?_
    clear HK
    try simp only [Act.put, List.setIfInBounds_toArray, List.set_cons_zero, List.set_cons_succ]
    refine wpBut.done (by kernel_rfl) ?_ _
    refine NoPanic.normal ?_
    have hd := gath_done H1.out G3
    rw [List.append_assoc] at hd
    have HD := Lib.hid hd
    clear hd HQ1 HQ2 hlow hhigh s3 f3 l3 hr3 G3
    go_wp2_with fail
    go_ret2
    exact ⟨rfl, HD.out.after HF.out⟩
end

section
open Go.RowKit

theorem refput_walk (rb : Nat) (sv : Value) (s : List KV) (key : ByteArray) (n : Int) (w : World) (h : RefAt w rb sv s) (hs : (s.length + 1) * 24 ≤ 140737488355328) (hr : Rising s) :
    Calls Try.prog 30 #[.pointer (some ⟨rb, 0, none⟩), .string key, .int .i64 n] w (RefPost (look key s) rb sv (put key n s) w) := by
  obtain ⟨ao, c, rfl, -⟩ := owns_form h.row
  rcases find_cut rb _ s key w h (by omega) hr with ⟨e0, L, R, e, hL, hR, hc⟩ | ⟨m, L, R, e0, e, hL, hR, hc⟩
  · rw [e0]
    unfold put
    rw [← hL, ← hR]
    obtain ⟨ln, hln⟩ : ∃ ln, ln = s.length := ⟨_, rfl⟩
    rw [← hln] at h hs ⊢
    subst e
    exact refput_new rb ao ln c _ key n L R w h hln hs rfl hc
  · rw [e0]
    unfold put
    rw [← hL, ← hR]
    obtain ⟨ln, hln⟩ : ∃ ln, ln = s.length := ⟨_, rfl⟩
    rw [← hln] at h hs ⊢
    subst e
    exact refput_there rb ao ln c _ key m n L R w h hln rfl hc

theorem refdel_walk (rb : Nat) (sv : Value) (s : List KV) (key : ByteArray) (w : World) (h : RefAt w rb sv s) (hs : (s.length + 1) * 24 ≤ 140737488355328) (hr : Rising s) :
    Calls Try.prog 31 #[.pointer (some ⟨rb, 0, none⟩), .string key] w (RefPost (look key s) rb sv (del key s) w) := by
  obtain ⟨ao, c, rfl, -⟩ := owns_form h.row
  rcases find_cut rb _ s key w h (by omega) hr with ⟨e0, L, R, e, hL, hR, hc⟩ | ⟨m, L, R, e0, e, hL, hR, hc⟩
  · rw [e0]
    unfold del
    rw [← hL, ← hR, ← e]
    exact refdel_none rb _ _ key s w h hc
  · rw [e0]
    unfold del
    rw [← hL, ← hR]
    obtain ⟨ln, hln⟩ : ∃ ln, ln = s.length := ⟨_, rfl⟩
    rw [← hln] at h hs ⊢
    subst e
    exact refdel_there rb ao ln c _ key m L R w h hln hs rfl hc

/-- the tree and the document's -/
def Twin (w : World) (tb rb : Nat) (E : Nat → Prop) (s : List KV) : Prop := ∃ F sv, Held w tb F s ∧ RefAt w rb sv s ∧ (∀ a, F a → ¬ (a = rb ∨ sv.ownBlock = some a)) ∧ ∀ a, E a ↔ F a ∨ a = rb ∨ sv.ownBlock = some a

def TwinLeaves (tb rb : Nat) (E : Nat → Prop) (s' : List KV) (w w' : World) : Prop := ∃ E', Twin w' tb rb E' s' ∧ Fr E w w' ∧ ∀ a, a < w.heap.size → E' a → E a

theorem Twin.fr {w w' : World} {tb rb : Nat} {E M : Nat → Prop} {s : List KV} (h : Twin w tb rb E s) (hf : Fr M w w') (hm : ∀ a, E a → ¬ M a) : Twin w' tb rb E s := by
  obtain ⟨F, sv, a, b, c, d⟩ := h
  exact ⟨F, sv, a.fr hf (fun x hx => hm x ((d x).2 (.inl hx))), b.fr hf (fun x hx => hm x ((d x).2 (.inr hx))), c, d⟩

theorem Twin.lt {w : World} {tb rb : Nat} {E : Nat → Prop} {s : List KV} (h : Twin w tb rb E s) {a : Nat} (ha : E a) : a < w.heap.size := by
  obtain ⟨F, sv, h1, h2, h3, h4⟩ := h
  rcases (h4 a).1 ha with h | rfl | h
  · exact h1.lt h
  · exact blk_lt h2.blk
  · exact owns_lt h2.row h

theorem Twin.rising {w : World} {tb rb : Nat} {E : Nat → Prop} {s : List KV} (h : Twin w tb rb E s) : Rising s := by
  obtain ⟨F, sv, h1, -⟩ := h
  exact h1.rising

/-- both have taken a call -/
theorem Twin.both {w w1 w2 : World} {tb rb : Nat} {F E : Nat → Prop} {sv : Value} {s' : List KV} (h2 : RefAt w rb sv s') (hE : ∀ a, E a ↔ F a ∨ a = rb ∨ sv.ownBlock = some a) (hd : ∀ a, F a → ¬ (a = rb ∨ sv.ownBlock = some a)) {t' : List KV}
    (l1 : Leaves tb F t' w w1) (l2 : RefLeaves rb sv t' w1 w2) : TwinLeaves tb rb E t' w w2 := by
  obtain ⟨F', a1, a2, a3⟩ := l1
  obtain ⟨sv', b1, b2, b3⟩ := l2
  have hlt : ∀ a, (a = rb ∨ sv.ownBlock = some a) → a < w.heap.size := fun a ha => by
    rcases ha with rfl | ha
    · exact blk_lt h2.blk
    · exact owns_lt h2.row ha
  have hoff : ∀ a, F' a → ¬ (a = rb ∨ sv.ownBlock = some a) := fun a ha e => hd a (a3 a (hlt a e) ha) e
  refine ⟨fun a => F' a ∨ a = rb ∨ sv'.ownBlock = some a, ⟨F', sv', a1.fr b2 hoff, b1, fun a ha e => ?_, fun _ => Iff.rfl⟩, ?_, fun a ha e => ?_⟩
  · rcases e with e | e
    · exact hoff a ha (.inl e)
    · rcases b3 a e with e | e
      · exact hoff a ha (.inr e)
      · have := a1.lt ha; omega
  · exact (a2.mono fun a _ h => (hE a).2 (.inl h)).trans b2 fun a _ h => (hE a).2 (.inr h)
  · rcases e with e | e | e
    · exact (hE a).2 (.inl (a3 a ha e))
    · exact (hE a).2 (.inr (.inl e))
    · rcases b3 a e with e | e
      · exact (hE a).2 (.inr (.inr e))
      · have := a2.size; omega

theorem Twin.same {w w' : World} {tb rb : Nat} {E : Nat → Prop} {s : List KV} (h : Twin w tb rb E s) (hf : Fr (fun _ => False) w w') : TwinLeaves tb rb E s w w' :=
  ⟨E, h.fr hf (fun _ _ h => h), hf.mono fun _ _ h => h.elim, fun _ _ h => h⟩

theorem TwinLeaves.before {w0 w w' : World} {tb rb : Nat} {E : Nat → Prop} {s : List KV} (h : TwinLeaves tb rb E s w w') (hf : Fr (fun _ => False) w0 w) : TwinLeaves tb rb E s w0 w' := by
  obtain ⟨E', a, b, c⟩ := h
  exact ⟨E', a, (hf.mono fun _ _ h => h.elim).trans' b, fun x hx => c x (Nat.lt_of_lt_of_le hx hf.size)⟩

theorem TwinLeaves.behind {w w' w2 : World} {tb rb : Nat} {E : Nat → Prop} {s : List KV} (h : TwinLeaves tb rb E s w w') (hf : Fr (fun _ => False) w' w2) : TwinLeaves tb rb E s w w2 := by
  obtain ⟨E', a, b, c⟩ := h
  exact ⟨E', a.fr hf (fun _ _ h => h), b.trans hf (fun _ _ h => h.elim), c⟩
end
end Go.Proofs.Ytaopiolbjnnnfaa
