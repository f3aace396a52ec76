/-
  What a row of puts tells, and in whichever order; a map beside it. No walk.
-/
import Derived.Test.YtaopiolbjnnnfaaPlain
import Derived.Test.YtaopiolbjnnnfaaOps
import Derived.Maps.OwnSet
import Derived.Maps.OwnOps
namespace Go.Proofs.Ytaopiolbjnnnfaa
open Go.RowKit

theorem look_iff {key : ByteArray} {n : Int} {s : List KV} (h : Rising s) : look key s = some n ↔ (key, n) ∈ s := by
  refine ⟨look_mem, fun hm => ?_⟩
  have hlo : ∀ p ∈ lo key s, klt p.1 key := fun p hp => by simpa using (List.mem_filter.1 hp).2
  have hhi : ∀ p ∈ hi key s, klt key p.1 := fun p hp => by simpa using (List.mem_filter.1 hp).2
  rcases rising_cut (key := key) h with ⟨-, e⟩ | ⟨m, a, e⟩
  · rw [e] at hm
    rcases List.mem_append.1 hm with hm | hm
    · exact absurd (hlo _ hm) (klt_irrefl _)
    · exact absurd (hhi _ hm) (klt_irrefl _)
  · rw [e] at hm
    rcases List.mem_append.1 hm with hm | hm
    · exact absurd (hlo _ hm) (klt_irrefl _)
    · rcases List.mem_cons.1 hm with hm | hm
      · rw [a]; cases hm; rfl
      · exact absurd (hhi _ hm) (klt_irrefl _)

theorem mem_put {key : ByteArray} {n : Int} {s : List KV} {p : KV} : p ∈ put key n s ↔ p = (key, n) ∨ p.1 ≠ key ∧ p ∈ s := by
  unfold put lo hi
  rw [List.mem_append, List.mem_cons, List.mem_filter, List.mem_filter]
  simp only [decide_eq_true_eq]
  constructor
  · rintro (⟨a, b⟩ | a | ⟨a, b⟩)
    · exact .inr ⟨klt_ne b, a⟩
    · exact .inl a
    · exact .inr ⟨(klt_ne b).symm, a⟩
  · rintro (a | ⟨a, b⟩)
    · exact .inr (.inl a)
    · by_cases c : klt p.1 key
      · exact .inl ⟨b, c⟩
      · exact .inr (.inr ⟨b, klt_of_not c a⟩)

theorem look_put {key key' : ByteArray} {n : Int} {s : List KV} (h : Rising s) : look key' (put key n s) = if key' = key then some n else look key' s := by
  have h2 := rising_put (key := key) (n := n) h
  split
  · rename_i e
    subst e
    rw [look_iff h2, mem_put]; exact .inl rfl
  · rename_i e
    cases c : look key' s with
    | some m => rw [look_iff h2, mem_put]; exact .inr ⟨e, (look_iff h).1 c⟩
    | none =>
      cases d : look key' (put key n s) with
      | none => rfl
      | some m =>
        rw [look_iff h2, mem_put] at d
        rcases d with d | ⟨-, d⟩
        · cases d; exact absurd rfl e
        · rw [(look_iff h).2 d] at c; cases c

theorem rising_ext : ∀ {s t : List KV}, Rising s → Rising t → (∀ p, p ∈ s ↔ p ∈ t) → s = t
  | [], [], _, _, _ => rfl
  | [], q :: t, _, _, h => by have := (h q).2 (List.mem_cons_self ..); cases this
  | p :: s, [], _, _, h => by have := (h p).1 (List.mem_cons_self ..); cases this
  | p :: s, q :: t, hs, ht, h => by
    have hs' := List.pairwise_cons.1 hs
    have ht' := List.pairwise_cons.1 ht
    have e : p = q := by
      rcases List.mem_cons.1 ((h p).1 (List.mem_cons_self ..)) with e | e
      · exact e
      · rcases List.mem_cons.1 ((h q).2 (List.mem_cons_self ..)) with e' | e'
        · exact e'.symm
        · exact absurd (hs'.1 q e') (klt_asymm (ht'.1 p e))
    subst e
    rw [rising_ext hs'.2 ht'.2 fun x => ?_]
    constructor
    · intro hx
      rcases List.mem_cons.1 ((h x).1 (List.mem_cons_of_mem _ hx)) with e | e
      · subst e; exact absurd (hs'.1 x hx) (klt_irrefl _)
      · exact e
    · intro hx
      rcases List.mem_cons.1 ((h x).2 (List.mem_cons_of_mem _ hx)) with e | e
      · subst e; exact absurd (ht'.1 x hx) (klt_irrefl _)
      · exact e

theorem puts_one {key : ByteArray} {n : Int} {s : List KV} (hr : Rising s) : (put key n s).length ≤ s.length + 1 := by
  unfold put
  rcases rising_cut (key := key) hr with ⟨-, e⟩ | ⟨m, -, e⟩
  · have := congrArg List.length e; simp at this ⊢; omega
  · have := congrArg List.length e; simp at this ⊢; omega

/-- what a row of puts leaves -/
def puts (os : List OpV) : List KV := os.foldl (fun s o => put o.key o.n s) []

theorem puts_snoc (os : List OpV) (o : OpV) : puts (os ++ [o]) = put o.key o.n (puts os) := by unfold puts; rw [List.foldl_append]; rfl

theorem puts_rising (os : List OpV) : Rising (puts os) := by
  suffices h : ∀ (os : List OpV) (s : List KV), Rising s → Rising (os.foldl (fun s o => put o.key o.n s) s) from h os [] List.Pairwise.nil
  intro os
  induction os with
  | nil => exact fun s h => h
  | cons o os ih => exact fun s h => ih _ (rising_put h)

theorem puts_keys (os : List OpV) : (∀ o ∈ os, ∃ n, (o.key, n) ∈ puts os) ∧ ∀ p ∈ puts os, ∃ o ∈ os, o.key = p.1 := by
  suffices h : ∀ (os : List OpV) (s : List KV), Rising s → (∀ o ∈ os, ∃ n, (o.key, n) ∈ os.foldl (fun s o => put o.key o.n s) s) ∧ (∀ p ∈ s, ∃ n, (p.1, n) ∈ os.foldl (fun s o => put o.key o.n s) s) ∧
      ∀ p ∈ os.foldl (fun s o => put o.key o.n s) s, (∃ o ∈ os, o.key = p.1) ∨ p ∈ s by
    obtain ⟨a, -, c⟩ := h os [] List.Pairwise.nil
    exact ⟨a, fun p hp => (c p hp).elim id (fun h => by cases h)⟩
  intro os
  induction os with
  | nil => exact fun s _ => ⟨(fun o h => by cases h), fun p hp => ⟨p.2, hp⟩, fun p hp => .inr hp⟩
  | cons o os ih =>
    intro s hs
    obtain ⟨a, b, c⟩ := ih (put o.key o.n s) (rising_put hs)
    rw [List.foldl_cons]
    refine ⟨fun o' ho' => ?_, fun p hp => ?_, fun p hp => ?_⟩
    · rcases List.mem_cons.1 ho' with rfl | ho'
      · exact b (o'.key, o'.n) (mem_put.2 (.inl rfl))
      · exact a o' ho'
    · by_cases e : p.1 = o.key
      · rw [e]; exact b (o.key, o.n) (mem_put.2 (.inl rfl))
      · exact b p (mem_put.2 (.inr ⟨e, hp⟩))
    · rcases c p hp with ⟨o', h1, h2⟩ | h
      · exact .inl ⟨o', List.mem_cons_of_mem _ h1, h2⟩
      · rcases mem_put.1 h with rfl | ⟨-, h⟩
        · exact .inl ⟨o, List.mem_cons_self .., rfl⟩
        · exact .inr h

theorem puts_len (os : List OpV) : (puts os).length ≤ os.length := by
  suffices h : ∀ (os : List OpV) (s : List KV), Rising s → (os.foldl (fun s o => put o.key o.n s) s).length ≤ s.length + os.length by
    have := h os [] List.Pairwise.nil
    simp only [List.length_nil, Nat.zero_add] at this
    exact this
  intro os
  induction os with
  | nil => exact fun s _ => Nat.le_refl _
  | cons o os ih =>
    intro s hs
    have h1 := ih (put o.key o.n s) (rising_put hs)
    have h2 := puts_one (key := o.key) (n := o.n) hs
    rw [List.foldl_cons, List.length_cons]
    omega

/-- the second tree, on its way: what it tells the first tells, and the keys that were put are there -/
structure Late (os : List OpV) (at_ : Nat → Nat) (s2 : List KV) (k : Nat) : Prop where
  rising : Rising s2
  len : s2.length ≤ k
  sub : ∀ p ∈ s2, p ∈ puts os
  got : ∀ i, i < k → ∀ h : at_ i < os.length, ∃ n, (os[at_ i].key, n) ∈ s2

theorem Late.zero (os : List OpV) (at_ : Nat → Nat) : Late os at_ [] 0 := ⟨List.Pairwise.nil, Nat.le_refl _, (fun p h => by cases h), fun i h => by cases h⟩

theorem Late.step {os : List OpV} {at_ : Nat → Nat} {s2 : List KV} {k : Nat} (h : Late os at_ s2 k) (ha : at_ k < os.length) : Late os at_ (put os[at_ k].key ((look os[at_ k].key (puts os)).getD 0) s2) (k + 1) := by
  obtain ⟨n, hn⟩ := (puts_keys os).1 _ (List.getElem_mem ha)
  have hl := (look_iff (puts_rising os)).2 hn
  rw [hl, Option.getD_some]
  refine ⟨rising_put h.rising, Nat.le_trans (puts_one h.rising) (by have := h.len; omega), fun p hp => ?_, fun i hi hai => ?_⟩
  · rcases mem_put.1 hp with rfl | ⟨-, hp⟩
    · exact hn
    · exact h.sub p hp
  · by_cases e : os[at_ i].key = os[at_ k].key
    · exact ⟨n, by rw [e]; exact mem_put.2 (.inl rfl)⟩
    · have hik : i < k := by
        rcases Nat.lt_or_ge i k with h | h
        · exact h
        · have : i = k := by omega
          subst this; exact absurd rfl e
      obtain ⟨m, hm⟩ := h.got i hik hai
      exact ⟨m, mem_put.2 (.inr ⟨e, hm⟩)⟩

theorem Late.all {os : List OpV} {at_ : Nat → Nat} {s2 : List KV} (h : Late os at_ s2 os.length) (hat : ∀ j, j < os.length → ∃ i, i < os.length ∧ at_ i = j) : s2 = puts os := by
  refine rising_ext h.rising (puts_rising os) fun p => ⟨h.sub p, fun hp => ?_⟩
  obtain ⟨o, ho, e⟩ := (puts_keys os).2 p hp
  obtain ⟨j, hj, rfl⟩ := List.getElem_of_mem ho
  obtain ⟨i, hi, rfl⟩ := hat j hj
  obtain ⟨n, hn⟩ := h.got i hi hj
  have h1 := h.sub _ hn
  have h2 := (look_iff (puts_rising os)).2 h1
  have h3 := (look_iff (key := p.1) (n := p.2) (puts_rising os)).2 hp
  rw [e] at h2 hn
  rw [h2] at h3
  cases h3
  exact hn

/-- the places, turned by k -/
theorem turn_all (k : Int) (n : Nat) (hn : 0 < n) : ∀ j, j < n → ∃ i, i < n ∧ ((((i : Int) + k.tmod n).tmod n + n) % n).toNat = j := by
  intro j hj
  have hn' : (0 : Int) < (n : Int) := by omega
  refine ⟨(((j : Int) - k).emod n).toNat, ?_, ?_⟩
  · have h1 := Int.emod_lt_of_pos ((j : Int) - k) hn'
    have h2 := Int.emod_nonneg ((j : Int) - k) (by omega : (n : Int) ≠ 0)
    have : ((j : Int) - k).emod n = ((j : Int) - k) % n := rfl
    omega
  · have h1 := Int.emod_lt_of_pos ((j : Int) - k) hn'
    have h2 := Int.emod_nonneg ((j : Int) - k) (by omega : (n : Int) ≠ 0)
    have e1 : ((((j : Int) - k).emod n).toNat : Int) = ((j : Int) - k) % n := by
      have : ((j : Int) - k).emod n = ((j : Int) - k) % n := rfl
      omega
    rw [e1]
    obtain ⟨q, hq⟩ : ∃ q, k.tmod n = k - n * q := ⟨k.tdiv n, by have := Int.tmod_add_mul_tdiv k n; omega⟩
    obtain ⟨r, hr⟩ : ∃ r, ((j : Int) - k) % n = (j : Int) - k - n * r := ⟨((j : Int) - k) / n, by have := Int.emod_add_mul_ediv ((j : Int) - k) n; omega⟩
    obtain ⟨x, hx⟩ : ∃ x, x = ((j : Int) - k) % n + k.tmod n := ⟨_, rfl⟩
    rw [← hx]
    have hx1 : x = j - n * (q + r) := by rw [hx, hq, hr, Int.mul_add]; omega
    have h3 : -(n : Int) < x.tmod n ∧ x.tmod n < n := by
      have := Int.tmod_lt_of_pos x hn'
      have := Int.lt_tmod_of_pos x hn'
      omega
    obtain ⟨p, hp⟩ : ∃ p, x.tmod n = x - n * p := ⟨x.tdiv n, by have := Int.tmod_add_mul_tdiv x n; omega⟩
    have h4 : (x.tmod n + n) % n = j := by
      rw [hp, hx1, show (j : Int) - n * (q + r) - n * p + n = j + n * (1 - q - r - p) by simp only [Int.mul_add, Int.mul_sub]; omega, Int.add_mul_emod_self_left]
      exact Int.emod_eq_of_lt (by omega) (by omega)
    rw [h4]
    omega

theorem turn_lt (k : Int) (n i : Nat) (hn : 0 < n) : (-(n : Int) < k.tmod n ∧ k.tmod n < n) ∧ (-(n : Int) < ((i : Int) + k.tmod n).tmod n ∧ ((i : Int) + k.tmod n).tmod n < n) ∧ 0 ≤ (((i : Int) + k.tmod n).tmod n + n) % n ∧ (((i : Int) + k.tmod n).tmod n + n) % n < n := by
  have hn' : (0 : Int) < (n : Int) := by omega
  exact ⟨⟨Int.lt_tmod_of_pos _ hn', Int.tmod_lt_of_pos _ hn'⟩, ⟨Int.lt_tmod_of_pos _ hn', Int.tmod_lt_of_pos _ hn'⟩, Int.emod_nonneg _ (by omega), Int.emod_lt_of_pos _ hn'⟩

/-! ### a map beside it -/
open Go.Maps

/-- the map reads as the row of pairs -/
structure Reads (D : DataW Unit) (s : List KV) : Prop where
  tidy : Tidy D
  size : Maps.size D = s.length
  atKey : ∀ key : ByteArray, D.atKey (.string key.data.toList) (.lit (.int .i64 0)) = .lit (.int .i64 ((look key s).getD 0))
  has : ∀ key : ByteArray, Maps.has D (.string key.data.toList) = (look key s).isSome

theorem Reads.empty : Reads (.map []) [] := ⟨tidy_empty, rfl, fun _ => rfl, fun _ => rfl⟩

theorem key_ne {a b : ByteArray} (h : a ≠ b) : (Lit.string a.data.toList) ≠ .string b.data.toList := fun e => by
  obtain ⟨⟨a⟩⟩ := a
  obtain ⟨⟨b⟩⟩ := b
  simp at e h
  exact h e

theorem Reads.put {D : DataW Unit} {s : List KV} (h : Reads D s) (hs : Rising s) (key : ByteArray) (n : Int) : Reads (D.put (.string key.data.toList) (.lit (.int .i64 n))) (put key n s) := by
  have hk : WideAt.IsKeyLit (.string key.data.toList) := trivial
  refine ⟨h.tidy.put hk _, ?_, fun key' => ?_, fun key' => ?_⟩
  · rw [size_put h.tidy, h.has, h.size]
    unfold Ytaopiolbjnnnfaa.put
    rcases rising_cut (key := key) hs with ⟨a, e⟩ | ⟨m, a, e⟩
    · have := congrArg List.length e
      rw [a]; simp at this ⊢; omega
    · have := congrArg List.length e
      rw [a]; simp at this ⊢; omega
  · rw [look_put hs]
    by_cases e : key' = key
    · subst e
      rw [if_pos rfl, atKey_put_same h.tidy.isMap hk]; rfl
    · rw [if_neg e, atKey_put_other (key_ne e), h.atKey]
  · rw [look_put hs]
    by_cases e : key' = key
    · subst e
      rw [if_pos rfl, has_put_same h.tidy.isMap hk]; rfl
    · rw [if_neg e, has_put_other (key_ne e), h.has]

theorem ownsMap_fr {M : Nat → Prop} {w w' : World} {P : Program} {k : TypeId} {R : Value → Option (DataW Unit × List MemPlace)} {b n : Nat} {D : DataW Unit} (h : w.ownsMap P k R b n D) (hf : Fr M w w') (hn : ¬ M b) : w'.ownsMap P k R b n D := by
  have hlt := h.lt
  obtain ⟨es, clock, hb, hr⟩ := h
  exact ⟨es, clock, (hf.block b hlt hn).trans hb, hr⟩
end Go.Proofs.Ytaopiolbjnnnfaa
