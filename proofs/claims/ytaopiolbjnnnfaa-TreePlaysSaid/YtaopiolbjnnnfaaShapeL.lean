/-
  The shape of a tree: how many nodes, how high, how full. No walk.
-/
import Derived.Test.YtaopiolbjnnnfaaShapeT
namespace Go.Proofs.Ytaopiolbjnnnfaa

mutual
/-- the nodes of a tree -/
def nodesT : MT → Nat
  | .node _ _ _ _ kids => 1 + nodesA kids
def nodesA : List MT → Nat
  | [] => 0
  | c :: r => nodesT c + nodesA r
end
theorem nodesT_node (b : Nat) (lv kv : Value) (l : List KV) (kids : List MT) : nodesT (.node b lv kv l kids) = 1 + nodesA kids := by rw [nodesT]
theorem nodesA_nil : nodesA [] = 0 := by rw [nodesA]
theorem nodesA_cons (c : MT) (r : List MT) : nodesA (c :: r) = nodesT c + nodesA r := by rw [nodesA]

theorem weave_len : ∀ (l : List KV) (ks : List (List KV)), (ks = [] ∨ ks.length = l.length + 1) → (weave l ks).length = l.length + (ks.map List.length).sum
  | l, [], _ => by rw [weave_none]; simp
  | [], [k], _ => by rw [weave_one]; simp
  | p :: l, k :: ks, h => by
    have : ks.length = l.length + 1 := by rcases h with h | h; cases h; simpa using h
    rw [weave_cons, List.length_append, List.length_cons, weave_len l ks (.inr this)]
    simp; omega
  | [], _ :: _ :: _, h => by rcases h with h | h; cases h; simp at h

def pow4 : Nat → Nat
  | 0 => 1
  | h + 1 => 4 * pow4 h

mutual
/-- a tree of a height, all of its nodes (but the root) with three keys at the least: how many keys, how many nodes -/
theorem size_all : ∀ (h : Nat) (t : MT), Ok h t → 3 ≤ t.l.length → 4 * pow4 h ≤ (flat t).length + 1 ∧ nodesT t ≤ (flat t).length ∧ (flat t).length ≤ 7 * nodesT t ∧ h + 1 ≤ nodesT t
  | 0, .node b lv kv l kids, hk, h3 => by
    obtain ⟨h7, rfl⟩ := ok_zero.1 hk
    simp only [MT.l] at h3 h7
    rw [flat_leaf, nodesT_node, nodesA_nil]
    simp only [pow4]
    omega
  | h + 1, .node b lv kv l kids, hk, h3 => by
    obtain ⟨h7, hlen, hall⟩ := ok_node.1 hk
    simp only [MT.l] at h3
    have hk2 := size_kids h kids hall
    rw [flat_node, weave_len _ _ (.inr (by simpa using hlen)), nodesT_node]
    obtain ⟨a, b, c, d⟩ := hk2
    rw [List.map_map] at *
    have e : kids.length * (4 * pow4 h) ≥ 4 * (4 * pow4 h) := Nat.mul_le_mul_right _ (by omega)
    simp only [pow4]
    have hd := d (by omega)
    omega
theorem size_kids : ∀ (h : Nat) (kids : List MT), (∀ c ∈ kids, 3 ≤ c.l.length ∧ Ok h c) →
    kids.length * (4 * pow4 h) ≤ (kids.map (List.length ∘ flat)).sum + kids.length ∧ nodesA kids ≤ (kids.map (List.length ∘ flat)).sum ∧ (kids.map (List.length ∘ flat)).sum ≤ 7 * nodesA kids ∧ (0 < kids.length → h + 1 ≤ nodesA kids)
  | h, [], _ => by rw [nodesA_nil]; simp
  | h, c :: r, hall => by
    have hc := hall c (by simp)
    obtain ⟨a, b, c', d⟩ := size_all h c hc.2 hc.1
    obtain ⟨a2, b2, c2, d2⟩ := size_kids h r (fun x hx => hall x (List.mem_cons_of_mem _ hx))
    rw [nodesA_cons, List.length_cons, List.map_cons, List.sum_cons, Nat.add_mul, Nat.one_mul]
    simp only [Function.comp_apply]
    omega
end

/-- the whole tree -/
theorem size_root {h : Nat} {t : MT} (hk : Ok h t) (hlow : 1 ≤ h → 1 ≤ t.l.length) (h1 : 1 ≤ (flat t).length) :
    2 * pow4 h ≤ (flat t).length + 1 ∧ nodesT t ≤ (flat t).length ∧ (flat t).length ≤ 7 * nodesT t ∧ h + 1 ≤ nodesT t ∧ (h = 0 → nodesT t = 1) ∧ (1 ≤ h → 1 < nodesT t) := by
  obtain ⟨b, lv, kv, l, kids⟩ := t
  cases h with
  | zero =>
    obtain ⟨h7, rfl⟩ := ok_zero.1 hk
    simp only [MT.l] at h7
    rw [flat_leaf] at h1 ⊢
    rw [nodesT_node, nodesA_nil]
    simp only [pow4]
    exact ⟨by omega, by omega, by omega, by omega, fun _ => by simp, fun h => absurd h (by decide)⟩
  | succ h =>
    obtain ⟨h7, hlen, hall⟩ := ok_node.1 hk
    have h3 := hlow (by omega)
    simp only [MT.l] at h3
    obtain ⟨a, b, c, d⟩ := size_kids h kids hall
    rw [flat_node, weave_len _ _ (.inr (by simpa using hlen)), nodesT_node, List.map_map]
    have e : kids.length * (4 * pow4 h) ≥ 2 * (4 * pow4 h) := Nat.mul_le_mul_right _ (by omega)
    simp only [pow4]
    have hd := d (by omega)
    omega

/-- the four numbers below the root -/
structure Sane (st : Sh) : Prop where
  high : st.high ≤ 7
  low : 2 ≤ st.nodes → 3 ≤ st.low
  some : 1 ≤ st.nodes

theorem sane_step {st : Sh} {x : MT} {d : Nat} (hs : Sane st) (hd : 2 ≤ d) (hd3 : 3 ≤ d → 2 ≤ st.nodes) (h3 : 3 ≤ x.l.length) (h7 : x.l.length ≤ 7) : Sane (st.step x d) := by
  obtain ⟨a, b, c⟩ := hs
  refine ⟨?_, fun _ => ?_, ?_⟩
  · simp only [Sh.step]; omega
  · simp only [Sh.step]
    rw [if_pos (by omega)]
    by_cases h : d = 2 ∧ st.nodes = 1
    · rw [if_pos h]; omega
    · rw [if_neg h]
      by_cases h2 : 2 ≤ st.nodes
      · have := b h2; omega
      · omega
  · simp only [Sh.step]; omega

mutual
theorem shape_all : ∀ (h : Nat) (t : MT) (d : Nat) (st : Sh), Ok h t → 3 ≤ t.l.length → 2 ≤ d → (3 ≤ d → 2 ≤ st.nodes) → Sane st →
    Sane (runT Sh.step (fun st _ => st) d st t) ∧ (runT Sh.step (fun st _ => st) d st t).nodes = st.nodes + nodesT t ∧ (runT Sh.step (fun st _ => st) d st t).height = max st.height (d + h)
  | 0, .node b lv kv l kids, d, st, hk, h3, hd, hd3, hs => by
    obtain ⟨h7, rfl⟩ := ok_zero.1 hk
    rw [runT_node, runW_nil, nodesT_node, nodesA_nil]
    have hf : ∀ (l : List KV) (st : Sh), l.foldl (fun st _ => st) st = st := fun l => by induction l with | nil => exact fun _ => rfl | cons _ _ ih => exact fun st => ih st
    rw [hf]
    exact ⟨sane_step hs hd hd3 h3 h7, by simp [Sh.step], by simp [Sh.step]⟩
  | h + 1, .node b lv kv l kids, d, st, hk, h3, hd, hd3, hs => by
    obtain ⟨h7, hlen, hall⟩ := ok_node.1 hk
    rw [runT_node, nodesT_node]
    have hs1 := sane_step (x := .node b lv kv l kids) hs hd hd3 h3 h7
    obtain ⟨a, b', c⟩ := shape_kids h l kids d (st.step (.node b lv kv l kids) d) hlen hall (by omega) (fun _ => by have := hs.some; simp only [Sh.step]; omega) hs1
    refine ⟨a, ?_, ?_⟩
    · rw [b']; simp only [Sh.step]; omega
    · rw [c]; simp only [Sh.step]; omega
theorem shape_kids : ∀ (h : Nat) (l : List KV) (kids : List MT) (d : Nat) (st : Sh), kids.length = l.length + 1 → (∀ c ∈ kids, 3 ≤ c.l.length ∧ Ok h c) → 1 ≤ d → (2 ≤ d → 2 ≤ st.nodes) → Sane st →
    Sane (runW Sh.step (fun st _ => st) d st l kids) ∧ (runW Sh.step (fun st _ => st) d st l kids).nodes = st.nodes + nodesA kids ∧ (runW Sh.step (fun st _ => st) d st l kids).height = max st.height (d + 1 + h)
  | h, [], [c], d, st, _, hall, hd, hd2, hs => by
    have hc := hall c (by simp)
    rw [runW_last, nodesA_cons, nodesA_nil]
    obtain ⟨a, b, c'⟩ := shape_all h c (d + 1) st hc.2 hc.1 (by omega) (fun h => hd2 (by omega)) hs
    exact ⟨a, by omega, by omega⟩
  | h, p :: l, c :: r, d, st, hl, hall, hd, hd2, hs => by
    have hc := hall c (by simp)
    rw [runW_cons, nodesA_cons]
    obtain ⟨a, b, c'⟩ := shape_all h c (d + 1) st hc.2 hc.1 (by omega) (fun h => hd2 (by omega)) hs
    obtain ⟨a2, b2, c2⟩ := shape_kids h l r d _ (by simpa using hl) (fun x hx => hall x (List.mem_cons_of_mem _ hx)) hd (fun h => by have := hd2 h; show 2 ≤ (runT Sh.step (fun st _ => st) (d + 1) st c).nodes; omega) a
    exact ⟨a2, by omega, by omega⟩
end

/-- the four numbers of a tree -/
theorem shape_of {h : Nat} {t : MT} (hk : Ok h t) : (Sh.of t).nodes = nodesT t ∧ (Sh.of t).height = h + 1 ∧ (Sh.of t).high ≤ 7 ∧ (2 ≤ (Sh.of t).nodes → 3 ≤ (Sh.of t).low) ∧ (h = 0 → (Sh.of t).low = t.l.length ∧ (Sh.of t).high = t.l.length) := by
  obtain ⟨b, lv, kv, l, kids⟩ := t
  have h7 : l.length ≤ 7 := hk.len
  have e : Sh.step ⟨0, 0, l.length, 0⟩ (.node b lv kv l kids) 1 = ⟨1, 1, l.length, l.length⟩ := by
    unfold Sh.step
    simp [MT.l]
  unfold Sh.of
  rw [runT_node, show (MT.node b lv kv l kids).l = l from rfl, e, nodesT_node]
  have hs : Sane ⟨1, 1, l.length, l.length⟩ := ⟨h7, fun h => absurd h (show ¬ 2 ≤ 1 by decide), Nat.le_refl _⟩
  cases h with
  | zero =>
    obtain ⟨-, hkids⟩ := ok_zero.1 hk
    simp only [MT.kids] at hkids
    subst hkids
    have hf : ∀ (l : List KV) (st : Sh), l.foldl (fun st _ => st) st = st := fun l => by induction l with | nil => exact fun _ => rfl | cons _ _ ih => exact fun st => ih st
    rw [runW_nil, hf, nodesA_nil]
    exact ⟨rfl, rfl, h7, fun h => absurd h (show ¬ 2 ≤ 1 by decide), fun _ => ⟨rfl, rfl⟩⟩
  | succ h =>
    obtain ⟨-, hlen, hall⟩ := ok_node.1 hk
    obtain ⟨a, b', c⟩ := shape_kids h l kids 1 ⟨1, 1, l.length, l.length⟩ hlen hall (Nat.le_refl _) (fun h => absurd h (by decide)) hs
    refine ⟨b', by rw [c]; show max 1 (1 + 1 + h) = _; omega, a.high, a.low, fun h => by cases h⟩
end Go.Proofs.Ytaopiolbjnnnfaa
