/-
  Delete: plain parts. No walk.
-/
import Derived.Test.YtaopiolbjnnnfaaPutP
import Derived.Test.YtaopiolbjnnnfaaGet
namespace Go.Proofs.Ytaopiolbjnnnfaa
open Go.RowKit

theorem flat_two {b : Nat} {lv kv : Value} {L R : List KV} {m : KV} {A B : List MT} {c d : MT} (hA : L.length = A.length) (hB : R.length = B.length) :
    flat (.node b lv kv (L ++ m :: R) (A ++ c :: d :: B)) = before L A ++ (flat c ++ ([m] ++ (flat d ++ after R B))) := by
  have := flat_at b lv kv L (m :: R) A (d :: B) c hA (by simp [hB])
  rw [this, after_cons]
  simp

theorem del_two {key : ByteArray} {P Q : List KV} {m0 : Int} (hr : Rising (P ++ ([(key, m0)] ++ Q))) : del key (P ++ ([(key, m0)] ++ Q)) = P ++ Q := by
  obtain ⟨hP, hQ⟩ := there_lt hr rfl
  rw [del_mid hP hQ, del_self, List.nil_append]

/-- the last below the child ahead comes up -/
theorem del_last {key : ByteArray} {b : Nat} {lv kv lv' kv' : Value} {L R s : List KV} {m0 : Int} {y : KV} {A B : List MT} {c c' d : MT} (hA : L.length = A.length) (hB : R.length = B.length)
    (hr : Rising (flat (.node b lv kv (L ++ (key, m0) :: R) (A ++ c :: d :: B)))) (h1 : flat c = s ++ [y]) (h2 : flat c' = s) :
    flat (.node b lv' kv' (L ++ y :: R) (A ++ c' :: d :: B)) = del key (flat (.node b lv kv (L ++ (key, m0) :: R) (A ++ c :: d :: B))) := by
  rw [flat_two hA hB] at hr ⊢
  rw [flat_two hA hB]
  rw [← List.append_assoc] at hr
  rw [← List.append_assoc (before L A) (flat c) ([(key, m0)] ++ (flat d ++ after R B)), del_two hr, h1, h2]
  simp

theorem del_first {key : ByteArray} {b : Nat} {lv kv lv' kv' : Value} {L R s : List KV} {m0 : Int} {y : KV} {A B : List MT} {c d d' : MT} (hA : L.length = A.length) (hB : R.length = B.length)
    (hr : Rising (flat (.node b lv kv (L ++ (key, m0) :: R) (A ++ c :: d :: B)))) (h1 : flat d = y :: s) (h2 : flat d' = s) :
    flat (.node b lv' kv' (L ++ y :: R) (A ++ c :: d' :: B)) = del key (flat (.node b lv kv (L ++ (key, m0) :: R) (A ++ c :: d :: B))) := by
  rw [flat_two hA hB] at hr ⊢
  rw [flat_two hA hB]
  rw [← List.append_assoc] at hr
  rw [← List.append_assoc (before L A) (flat c) ([(key, m0)] ++ (flat d ++ after R B)), del_two hr, h1, h2]
  simp

theorem ok_two {k : Nat} {b b' : Nat} {lv kv lv' kv' : Value} {L R : List KV} {m y : KV} {A B : List MT} {c d c' d' : MT} (hk : Ok (k + 1) (.node b lv kv (L ++ m :: R) (A ++ c :: d :: B)))
    (h1 : Ok k c') (h2 : 3 ≤ c'.l.length) (h3 : Ok k d') (h4 : 3 ≤ d'.l.length) : Ok (k + 1) (.node b' lv' kv' (L ++ y :: R) (A ++ c' :: d' :: B)) := by
  have hk2 : Ok (k + 1) (.node b lv kv (L ++ m :: R) (A ++ ([c, d] ++ B))) := hk
  have h := hk2.part (lv' := lv') (kv' := kv') (M' := [c', d']) (l' := L ++ y :: R) (by have := (ok_node.1 hk).1; simp at this ⊢; omega) (by have := (ok_node.1 hk).2.1; simp at this ⊢; omega) (fun x hx => by
    simp only [List.mem_cons, List.not_mem_nil, or_false] at hx
    rcases hx with rfl | rfl
    · exact ⟨h2, h1⟩
    · exact ⟨h4, h3⟩)
  exact ok_node.2 (ok_node.1 h)

/-- a node's own pairs among all -/
theorem mem_before {L : List KV} {A : List MT} (h : L.length = A.length) : ∀ p ∈ L, p ∈ before L A := by
  induction L generalizing A with
  | nil => intro p hp; cases hp
  | cons q L ih =>
    cases A with
    | nil => simp at h
    | cons c A =>
      intro p hp
      rw [before_cons]
      rcases List.mem_cons.1 hp with rfl | hp
      · simp
      · exact List.mem_append_right _ (List.mem_cons_of_mem _ (ih (by simpa using h) p hp))
theorem mem_after {L : List KV} {A : List MT} (h : L.length = A.length) : ∀ p ∈ L, p ∈ after L A := by
  induction L generalizing A with
  | nil => intro p hp; cases hp
  | cons q L ih =>
    cases A with
    | nil => simp at h
    | cons c A =>
      intro p hp
      rw [after_cons]
      rcases List.mem_cons.1 hp with rfl | hp
      · simp
      · exact List.mem_cons_of_mem _ (List.mem_append_right _ (ih (by simpa using h) p hp))

/-- behind fill the key is still strictly inside the child -/
theorem fill_inside {key : ByteArray} {b : Nat} {lv kv lv' kv' : Value} {L R L' R' : List KV} {A B A' B' : List MT} {c c' : MT} {u v : List KV} (hA : L.length = A.length) (hB : R.length = B.length) (hA' : L'.length = A'.length) (hB' : R'.length = B'.length)
    (hbl : Below key L R A B) (f1 : before L A = before L' A' ++ u) (f2 : flat c' = u ++ (flat c ++ v)) (f3 : after R B = v ++ after R' B') :
    flat (.node b lv' kv' (L' ++ R') (A' ++ c' :: B')) = flat (.node b lv kv (L ++ R) (A ++ c :: B)) ∧ Below key L' R' A' B' ∧ (∀ p ∈ L', p.1 ≠ key) ∧ ∀ p ∈ R', p.1 ≠ key := by
  have h1 : ∀ p ∈ before L' A', klt p.1 key := fun p hp => hbl.lo p (by rw [f1]; exact List.mem_append_left _ hp)
  have h2 : ∀ p ∈ after R' B', klt key p.1 := fun p hp => hbl.hi p (by rw [f3]; exact List.mem_append_right _ hp)
  refine ⟨?_, ⟨hA', hB', h1, h2⟩, fun p hp => klt_ne (h1 p (mem_before hA' p hp)), fun p hp => (klt_ne (h2 p (mem_after hB' p hp))).symm⟩
  rw [flat_at _ _ _ _ _ _ _ _ hA' hB', flat_at _ _ _ _ _ _ _ _ hA hB, f1, f2, f3]
  simp

/-- the tree behind the loop of Delete -/
structure Cut (tb h : Nat) (t : MT) (rt : Nat) (n : Int) (s' : List KV) (F : Nat → Prop) (f : Nat → Nat) (w w' : World) : Prop where
  blk : World.blk w' tb [.pointer (some ⟨rt, 0, none⟩), .int .i64 n] 53
  root : t.b = rt
  lies : Lies w' t
  uniq : Uniq t
  off : cnt t tb = 0
  ok : Ok h t
  tells : flat t = s'
  fr : Fr F w w'
  few : ∀ a, a < w.heap.size → cnt t a ≤ f a
end Go.Proofs.Ytaopiolbjnnnfaa
