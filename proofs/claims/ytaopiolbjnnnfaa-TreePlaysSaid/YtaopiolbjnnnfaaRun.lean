/-
  Going through a tree: what is gathered on the way. No walk.
-/
import Derived.Test.YtaopiolbjnnnfaaHeld
namespace Go.Proofs.Ytaopiolbjnnnfaa

section
variable {σ : Type} (N : σ → MT → Nat → σ) (P : σ → KV → σ)
mutual
/-- what a node gathers .. -/
def runT (d : Nat) (st : σ) : MT → σ
  | .node b lv kv l kids => runW d (N st (.node b lv kv l kids) d) l kids
/-- .. and its children with its pairs between -/
def runW (d : Nat) (st : σ) (l : List KV) : List MT → σ
  | [] => l.foldl P st
  | c :: ks => match l with
    | [] => runT (d + 1) st c
    | p :: l => runW d (P (runT (d + 1) st c) p) l ks
end

theorem runT_node (d : Nat) (st : σ) (b : Nat) (lv kv : Value) (l : List KV) (kids : List MT) : runT N P d st (.node b lv kv l kids) = runW N P d (N st (.node b lv kv l kids) d) l kids := by rw [runT]
theorem runW_nil (d : Nat) (st : σ) (l : List KV) : runW N P d st l [] = l.foldl P st := by rw [runW]
theorem runW_last (d : Nat) (st : σ) (c : MT) (ks : List MT) : runW N P d st [] (c :: ks) = runT N P (d + 1) st c := by rw [runW]
theorem runW_cons (d : Nat) (st : σ) (p : KV) (l : List KV) (c : MT) (ks : List MT) : runW N P d st (p :: l) (c :: ks) = runW N P d (P (runT N P (d + 1) st c) p) l ks := by rw [runW]
end

mutual
/-- all pairs, gathered -/
theorem run_flat (d : Nat) (st : List KV) : ∀ (h : Nat) (t : MT), Ok h t → runT (fun s _ _ => s) (fun s p => s ++ [p]) d st t = st ++ flat t
  | h, .node b lv kv l kids, hk => by
    rw [runT_node, flat_node]
    cases h with
    | zero =>
      obtain ⟨-, rfl⟩ := ok_zero.1 hk
      rw [runW_nil, List.map_nil, weave_none]
      clear hk
      induction l generalizing st with
      | nil => simp
      | cons p l ih => rw [List.foldl_cons, ih]; simp
    | succ h => exact run_flatW d st h l kids (ok_node.1 hk).2.1 (fun c hc => ((ok_node.1 hk).2.2 c hc).2)
theorem run_flatW (d : Nat) (st : List KV) : ∀ (h : Nat) (l : List KV) (kids : List MT), kids.length = l.length + 1 → (∀ c ∈ kids, Ok h c) → runW (fun s _ _ => s) (fun s p => s ++ [p]) d st l kids = st ++ weave l (kids.map flat)
  | h, [], [c], _, hk => by rw [runW_last, run_flat (d + 1) st h c (hk c (by simp)), List.map_cons, List.map_nil, weave]; simp
  | h, p :: l, c :: ks, hl, hk => by
    rw [runW_cons, run_flat (d + 1) st h c (hk c (by simp)), run_flatW d _ h l ks (by simpa using hl) (fun c hc => hk c (List.mem_cons_of_mem _ hc)), List.map_cons, weave_cons]
    simp
end

section
variable {σ : Type} {N : σ → MT → Nat → σ} {P : σ → KV → σ} {Good : σ → Prop}
theorem good_foldl (hP : ∀ st p, Good (P st p) → Good st) (l : List KV) : ∀ st, Good (l.foldl P st) → Good st := by
  induction l with
  | nil => exact fun _ h => h
  | cons p l ih => exact fun st h => hP _ _ (ih _ h)
mutual
/-- what is good at the end was good ahead -/
theorem good_runT (hN : ∀ st x d, Good (N st x d) → Good st) (hP : ∀ st p, Good (P st p) → Good st) (d : Nat) (st : σ) : ∀ t : MT, Good (runT N P d st t) → Good st
  | .node b lv kv l kids, h => by rw [runT_node] at h; exact hN _ _ _ (good_runW hN hP d _ l kids h)
theorem good_runW (hN : ∀ st x d, Good (N st x d) → Good st) (hP : ∀ st p, Good (P st p) → Good st) (d : Nat) (st : σ) (l : List KV) : ∀ kids : List MT, Good (runW N P d st l kids) → Good st
  | [], h => by rw [runW_nil] at h; exact good_foldl hP l st h
  | c :: ks, h => by
    cases l with
    | nil => rw [runW_last] at h; exact good_runT hN hP (d + 1) st c h
    | cons p l => rw [runW_cons] at h; exact good_runT hN hP (d + 1) st c (hP _ _ (good_runW hN hP d _ l ks h))
end
end
end Go.Proofs.Ytaopiolbjnnnfaa
