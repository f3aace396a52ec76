/-
  A tree held in memory with the block of its own; where a key stands in a node, decided ahead of the call.
-/
import Derived.Test.YtaopiolbjnnnfaaFirst
namespace Go.Proofs.Ytaopiolbjnnnfaa
open Go.RowKit

theorem key_cut (key : ByteArray) {l : List KV} (hr : Rising l) :
    (∃ L R, l = L ++ R ∧ (∀ p ∈ L, klt p.1 key) ∧ ∀ p ∈ R, klt key p.1) ∨ ∃ L n R, l = L ++ (key, n) :: R ∧ (∀ p ∈ L, klt p.1 key) ∧ ∀ p ∈ R, klt key p.1 := by
  have h1 : ∀ p ∈ lo key l, klt p.1 key := fun p hp => by simpa using (List.mem_filter.1 hp).2
  have h2 : ∀ p ∈ hi key l, klt key p.1 := fun p hp => by simpa using (List.mem_filter.1 hp).2
  rcases rising_cut (key := key) hr with ⟨-, e⟩ | ⟨n, -, e⟩
  · exact .inl ⟨_, _, e, h1, h2⟩
  · exact .inr ⟨_, n, _, e, h1, h2⟩

theorem place_at {key : ByteArray} {L R : List KV} {i : Nat} {there : Bool} (h : Place key (L ++ R) i there) (h1 : ∀ p ∈ L, klt p.1 key) (h2 : ∀ p ∈ R, ¬ klt p.1 key) : i = L.length := by
  obtain ⟨hi, a, b, -⟩ := h
  by_cases c : i < L.length
  · exact absurd (h1 L[i] (List.getElem_mem _)) (b _ (by
      rw [List.drop_append_of_le_length (by omega), List.drop_eq_getElem_cons c]
      exact List.mem_append_left _ (List.mem_cons_self ..)))
  · by_cases d : L.length < i
    · have hR : 0 < R.length := by simp at hi; omega
      have hmem : R[0] ∈ (L ++ R).take i := by
        rw [List.take_append, List.take_of_length_le (by omega)]
        refine List.mem_append_right _ ?_
        rw [List.mem_take_iff_getElem]
        exact ⟨0, by omega, rfl⟩
      exact absurd (a _ hmem) (h2 _ (List.getElem_mem _))
    · omega

theorem in_absent (xb : Nat) (lv kv : Value) (L R : List KV) (key : ByteArray) (w : World) (hx : World.blk w xb [lv, kv] 57) (hv : World.pairs w lv (L ++ R)) (hr : Rising (L ++ R)) (hb : (L ++ R).length ≤ 7)
    (h1 : ∀ p ∈ L, klt p.1 key) (h2 : ∀ p ∈ R, klt key p.1) :
    Calls Try.prog 24 #[.pointer (some ⟨xb, 0, none⟩), .string key] w fun e w' => e = .returned (.tuple #[.int .i64 (L.length : Nat), .bool false]) ∧ Fr (fun _ => False) w w' := by
  refine (in_any xb lv kv (L ++ R) key w hx hv hr (by omega)).mono ?_
  rintro e w' ⟨i, there, rfl, hp, hf⟩
  have hi := place_at hp h1 (fun p hp => klt_asymm (h2 p hp))
  subst hi
  have : there = false := by
    rw [hp.2.2.2, decide_eq_false_iff_not]
    rintro ⟨h, e⟩
    rw [List.getElem_append_right (Nat.le_refl _)] at e
    exact klt_ne (h2 _ (List.getElem_mem _)) e.symm
  rw [this]
  exact ⟨rfl, hf⟩

theorem in_there (xb : Nat) (lv kv : Value) (L R : List KV) (key : ByteArray) (n : Int) (w : World) (hx : World.blk w xb [lv, kv] 57) (hv : World.pairs w lv (L ++ (key, n) :: R)) (hr : Rising (L ++ (key, n) :: R)) (hb : (L ++ (key, n) :: R).length ≤ 7)
    (h1 : ∀ p ∈ L, klt p.1 key) (h2 : ∀ p ∈ R, klt key p.1) :
    Calls Try.prog 24 #[.pointer (some ⟨xb, 0, none⟩), .string key] w fun e w' => e = .returned (.tuple #[.int .i64 (L.length : Nat), .bool true]) ∧ Fr (fun _ => False) w w' := by
  refine (in_any xb lv kv (L ++ (key, n) :: R) key w hx hv hr (by omega)).mono ?_
  rintro e w' ⟨i, there, rfl, hp, hf⟩
  have hi := place_at hp h1 (fun p hp => by
    rcases List.mem_cons.1 hp with rfl | hp
    · exact klt_irrefl _
    · exact klt_asymm (h2 p hp))
  subst hi
  have : there = true := by
    rw [hp.2.2.2, decide_eq_true_iff]
    refine ⟨by simp, ?_⟩
    rw [List.getElem_append_right (Nat.le_refl _)]
    simp
  rw [this]
  exact ⟨rfl, hf⟩

/-- a tree of a height with its own block -/
structure HeldAt (w : World) (tb h : Nat) (t : MT) (s : List KV) : Prop where
  blk : World.blk w tb [.pointer (some ⟨t.b, 0, none⟩), .int .i64 (s.length : Nat)] 53
  lies : Lies w t
  uniq : Uniq t
  off : cnt t tb = 0
  ok : Ok h t
  low : 1 ≤ h → 1 ≤ t.l.length
  rising : Rising s
  tells : flat t = s

/-- .. and the blocks that it takes -/
def Held (w : World) (tb : Nat) (F : Nat → Prop) (s : List KV) : Prop := ∃ h t, HeldAt w tb h t s ∧ ∀ a, F a ↔ (a = tb ∨ 0 < cnt t a)

theorem HeldAt.fr {w w' : World} {tb h : Nat} {t : MT} {s : List KV} {M : Nat → Prop} (k : HeldAt w tb h t s) (hf : Fr M w w') (hm : ∀ a, (a = tb ∨ 0 < cnt t a) → ¬ M a) : HeldAt w' tb h t s :=
  ⟨blk_fr k.blk hf (hm tb (.inl rfl)), lies_fr hf t k.lies (fun a ha => hm a (.inr ha)), k.uniq, k.off, k.ok, k.low, k.rising, k.tells⟩

theorem Held.fr {w w' : World} {tb : Nat} {F M : Nat → Prop} {s : List KV} (k : Held w tb F s) (hf : Fr M w w') (hm : ∀ a, F a → ¬ M a) : Held w' tb F s := by
  obtain ⟨h, t, k, e⟩ := k
  exact ⟨h, t, k.fr hf (fun a ha => hm a ((e a).2 ha)), e⟩

theorem Held.lt {w : World} {tb : Nat} {F : Nat → Prop} {s : List KV} (k : Held w tb F s) {a : Nat} (ha : F a) : a < w.heap.size := by
  obtain ⟨h, t, k, e⟩ := k
  rcases (e a).1 ha with rfl | ha
  · exact blk_lt k.blk
  · exact lies_lt _ k.lies a ha

theorem Held.rising {w : World} {tb : Nat} {F : Nat → Prop} {s : List KV} (k : Held w tb F s) : Rising s := by obtain ⟨h, t, k, e⟩ := k; exact k.rising

/-- what a call leaves of a tree -/
def Leaves (tb : Nat) (F : Nat → Prop) (s' : List KV) (w w' : World) : Prop := ∃ F', Held w' tb F' s' ∧ Fr F w w' ∧ ∀ a, a < w.heap.size → F' a → F a

theorem rising_kid {b : Nat} {lv kv : Value} {L R : List KV} {A B : List MT} {c : MT} (hr : Rising (flat (.node b lv kv (L ++ R) (A ++ c :: B)))) (hL : L.length = A.length) (hR : R.length = B.length) : Rising (flat c) := by
  rw [flat_at _ _ _ _ _ _ _ _ hL hR] at hr
  exact hr.right.left

/-- the child below a key, cut out -/
theorem kid_cut {k b : Nat} {lv kv : Value} {L R : List KV} {kids : List MT} (hk : Ok (k + 1) (.node b lv kv (L ++ R) kids)) : ∃ A c B, kids = A ++ c :: B ∧ L.length = A.length ∧ R.length = B.length ∧ Ok k c ∧ 3 ≤ c.l.length := by
  have h := (ok_node.1 hk).2
  obtain ⟨A, c, B, rfl, hA⟩ := cut_at kids L.length (by have := h.1; simp at this; omega)
  have h2 := h.2 c (by simp)
  exact ⟨A, c, B, rfl, hA.symm, by have := h.1; simp at this; omega, h2.2, h2.1⟩

theorem kids_cut {k b : Nat} {lv kv : Value} {L R : List KV} {m : KV} {kids : List MT} (hk : Ok (k + 1) (.node b lv kv (L ++ m :: R) kids)) :
    ∃ A c d B, kids = A ++ c :: d :: B ∧ L.length = A.length ∧ R.length = B.length ∧ Ok k c ∧ 3 ≤ c.l.length ∧ Ok k d ∧ 3 ≤ d.l.length := by
  obtain ⟨A, c, B, rfl, hA, hB, h1, h2⟩ := kid_cut hk
  cases B with
  | nil => simp at hB
  | cons d B =>
    have h3 := (ok_node.1 hk).2.2 d (by simp)
    exact ⟨A, c, d, B, rfl, hA, by simpa using hB, h1, h2, h3.2, h3.1⟩
end Go.Proofs.Ytaopiolbjnnnfaa
