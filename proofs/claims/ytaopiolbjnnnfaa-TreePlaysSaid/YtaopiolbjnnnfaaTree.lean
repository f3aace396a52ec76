/-
  Trees as they lie in memory: what a node is, which blocks it takes, what it tells; and the plain laws of these. No walk.
-/
import Derived.Test.YtaopiolbjnnnfaaSrch
namespace Go.Proofs.Ytaopiolbjnnnfaa
open Go.RowKit

/-- a node in memory: its block, its two slices, its pairs, its children -/
inductive MT where
  | node (b : Nat) (lv kv : Value) (l : List KV) (kids : List MT)

def MT.b : MT → Nat | .node b _ _ _ _ => b
def MT.lv : MT → Value | .node _ lv _ _ _ => lv
def MT.kv : MT → Value | .node _ _ kv _ _ => kv
def MT.l : MT → List KV | .node _ _ _ l _ => l
def MT.kids : MT → List MT | .node _ _ _ _ kids => kids

theorem MT.eta (t : MT) : t = .node t.b t.lv t.kv t.l t.kids := by cases t; rfl

/-- pointers to nodes -/
def kptrs (kids : List MT) : List Value := kids.map fun c => .pointer (some ⟨c.b, 0, none⟩)
theorem kptrs_length (kids : List MT) : (kptrs kids).length = kids.length := by simp [kptrs]
theorem kptrs_one (kids : List MT) : ∀ u ∈ kptrs kids, u.oneCell' = true := by
  intro u hu
  simp only [kptrs, List.mem_map] at hu
  obtain ⟨c, _, rfl⟩ := hu
  rfl
theorem kptrs_append (a b : List MT) : kptrs (a ++ b) = kptrs a ++ kptrs b := by simp [kptrs]
theorem kptrs_cons (c : MT) (b : List MT) : kptrs (c :: b) = .pointer (some ⟨c.b, 0, none⟩) :: kptrs b := rfl

/-- the children of a slice -/
def World.nodes (w : World) (v : Value) (kids : List MT) : Prop := w.ownsRow 0 51 1 v kids.length (kptrs kids)

mutual
/-- the tree lies in this world -/
def Lies (w : World) : MT → Prop
  | .node b lv kv l kids => World.blk w b [lv, kv] 57 ∧ World.pairs w lv l ∧ World.nodes w kv kids ∧ LiesAll w kids
def LiesAll (w : World) : List MT → Prop
  | [] => True
  | c :: r => Lies w c ∧ LiesAll w r
end

/-- the block of a slice's row -/
def own (v : Value) (a : Nat) : Nat := if v.ownBlock = some a then 1 else 0
def one (b a : Nat) : Nat := if a = b then 1 else 0

mutual
/-- how often a block is met in the tree -/
def cnt : MT → Nat → Nat
  | .node b lv kv _ kids, a => one b a + own lv a + own kv a + cnts kids a
def cnts : List MT → Nat → Nat
  | [], _ => 0
  | c :: r, a => cnt c a + cnts r a
end

/-- keys and children by turns -/
def weave : List KV → List (List KV) → List KV
  | [], ks => ks.flatten
  | l, [] => l
  | p :: l, k :: ks => k ++ p :: weave l ks

mutual
/-- what the tree tells -/
def flat : MT → List KV
  | .node _ _ _ l kids => weave l (flats kids)
def flats : List MT → List (List KV)
  | [] => []
  | c :: r => flat c :: flats r
end

theorem cnt_node (b : Nat) (lv kv : Value) (l : List KV) (kids : List MT) (a : Nat) : cnt (.node b lv kv l kids) a = one b a + own lv a + own kv a + cnts kids a := by rw [cnt]
theorem cnts_nil (a : Nat) : cnts [] a = 0 := by rw [cnts]
theorem cnts_cons (c : MT) (r : List MT) (a : Nat) : cnts (c :: r) a = cnt c a + cnts r a := by rw [cnts]
theorem cnts_append (x y : List MT) (a : Nat) : cnts (x ++ y) a = cnts x a + cnts y a := by
  induction x with
  | nil => rw [List.nil_append, cnts_nil, Nat.zero_add]
  | cons c x ih => rw [List.cons_append, cnts_cons, cnts_cons, ih, Nat.add_assoc]

theorem liesAll_nil (w : World) : LiesAll w [] := by rw [LiesAll]; trivial
theorem liesAll_cons {w : World} {c : MT} {r : List MT} : LiesAll w (c :: r) ↔ Lies w c ∧ LiesAll w r := by rw [LiesAll]
theorem liesAll_append {w : World} {x y : List MT} : LiesAll w (x ++ y) ↔ LiesAll w x ∧ LiesAll w y := by
  induction x with
  | nil => simp [liesAll_nil]
  | cons c x ih => rw [List.cons_append, liesAll_cons, liesAll_cons, ih, and_assoc]
theorem liesAll_mem {w : World} {x : List MT} (h : LiesAll w x) {c : MT} (hc : c ∈ x) : Lies w c := by
  induction x with
  | nil => cases hc
  | cons d x ih =>
    rw [liesAll_cons] at h
    rcases List.mem_cons.1 hc with rfl | hc
    · exact h.1
    · exact ih h.2 hc

theorem lies_node {w : World} {b : Nat} {lv kv : Value} {l : List KV} {kids : List MT} :
    Lies w (.node b lv kv l kids) ↔ World.blk w b [lv, kv] 57 ∧ World.pairs w lv l ∧ World.nodes w kv kids ∧ LiesAll w kids := by rw [Lies]

theorem flats_map (kids : List MT) : flats kids = kids.map flat := by
  induction kids with
  | nil => rw [flats]; rfl
  | cons c r ih => rw [flats, ih]; rfl
theorem flat_node (b : Nat) (lv kv : Value) (l : List KV) (kids : List MT) : flat (.node b lv kv l kids) = weave l (kids.map flat) := by rw [flat, flats_map]

theorem one_pos {b a : Nat} (h : 0 < one b a) : a = b := by unfold one at h; split at h; assumption; omega
theorem own_pos {v : Value} {a : Nat} (h : 0 < own v a) : v.ownBlock = some a := by unfold own at h; split at h; assumption; omega
theorem one_self (b : Nat) : one b b = 1 := by simp [one]
theorem one_ne {b a : Nat} (h : a ≠ b) : one b a = 0 := by simp [one, h]
theorem own_some (g n c a : Nat) : own (.slice (some ⟨g, 0, none⟩) n c) a = one g a := by
  unfold own one Value.ownBlock
  by_cases h : a = g
  · subst h; simp
  · rw [if_neg (by simp; omega), if_neg h]
theorem own_none (n c a : Nat) : own (.slice none n c) a = 0 := by simp [own, Value.ownBlock]

mutual
/-- all blocks of a tree are there -/
theorem lies_lt {w : World} : ∀ (t : MT), Lies w t → ∀ a, 0 < cnt t a → a < w.heap.size
  | .node b lv kv l kids, h, a, ha => by
    rw [lies_node] at h
    rw [cnt_node] at ha
    by_cases h1 : 0 < one b a
    · rw [one_pos h1]; exact blk_lt h.1
    · by_cases h2 : 0 < own lv a
      · exact owns_lt h.2.1 (own_pos h2)
      · by_cases h3 : 0 < own kv a
        · exact owns_lt h.2.2.1 (own_pos h3)
        · exact liesAll_lt kids h.2.2.2 a (by omega)
theorem liesAll_lt {w : World} : ∀ (kids : List MT), LiesAll w kids → ∀ a, 0 < cnts kids a → a < w.heap.size
  | [], _, a, ha => by rw [cnts_nil] at ha; omega
  | c :: r, h, a, ha => by
    rw [liesAll_cons] at h
    rw [cnts_cons] at ha
    by_cases h1 : 0 < cnt c a
    · exact lies_lt c h.1 a h1
    · exact liesAll_lt r h.2 a (by omega)
end

mutual
/-- a tree none of whose blocks has changed -/
theorem lies_fr {M : Nat → Prop} {w w' : World} (hf : Fr M w w') : ∀ (t : MT), Lies w t → (∀ a, 0 < cnt t a → ¬ M a) → Lies w' t
  | .node b lv kv l kids, h, hm => by
    rw [lies_node] at h ⊢
    have hm' : ∀ a, 0 < one b a + own lv a + own kv a + cnts kids a → ¬ M a := fun a => by have := hm a; rwa [cnt_node] at this
    exact ⟨blk_fr h.1 hf (hm' b (by rw [one_self]; omega)), owns_fr h.2.1 hf (fun k hk => hm' k (by simp [own, hk]; omega)), owns_fr h.2.2.1 hf (fun k hk => hm' k (by simp [own, hk]; omega)),
      liesAll_fr hf kids h.2.2.2 fun a ha => hm' a (by omega)⟩
theorem liesAll_fr {M : Nat → Prop} {w w' : World} (hf : Fr M w w') : ∀ (kids : List MT), LiesAll w kids → (∀ a, 0 < cnts kids a → ¬ M a) → LiesAll w' kids
  | [], _, _ => liesAll_nil _
  | c :: r, h, hm => by
    rw [liesAll_cons] at h ⊢
    have hm' : ∀ a, 0 < cnt c a + cnts r a → ¬ M a := fun a => by have := hm a; rwa [cnts_cons] at this
    exact ⟨lies_fr hf c h.1 fun a ha => hm' a (by omega), liesAll_fr hf r h.2 fun a ha => hm' a (by omega)⟩
end

/-- no block is met twice -/
def Uniq (t : MT) : Prop := ∀ a, cnt t a ≤ 1

/-- a tree has been turned into another: only its own blocks have changed, and new ones are taken -/
structure Turns (w w' : World) (t t' : MT) : Prop where
  lies : Lies w' t'
  uniq : Uniq t'
  root : t'.b = t.b
  fr : Fr (fun a => 0 < cnt t a) w w'
  few : ∀ a, a < w.heap.size → cnt t' a ≤ cnt t a

theorem Turns.refl {w : World} {t : MT} (h : Lies w t) (hu : Uniq t) : Turns w w t t := ⟨h, hu, rfl, Fr.refl _ _, fun _ _ => Nat.le_refl _⟩

theorem Turns.trans {w w' w'' : World} {t t' t'' : MT} (h : Turns w w' t t') (k : Turns w' w'' t' t'') : Turns w w'' t t'' :=
  ⟨k.lies, k.uniq, k.root.trans h.root, h.fr.trans k.fr fun j hj hm => by have := h.few j hj; show 0 < _; omega,
    fun a ha => Nat.le_trans (k.few a (Nat.lt_of_lt_of_le ha h.fr.size)) (h.few a ha)⟩

/-- a quiet step ahead: blocks are laid, none is changed -/
theorem Turns.ahead {w w' w'' : World} {t t' : MT} (h : Fr (fun _ => False) w w') (k : Turns w' w'' t t') : Turns w w'' t t' :=
  ⟨k.lies, k.uniq, k.root, (h.mono (fun _ _ h => h.elim)).trans k.fr fun _ _ h => h, fun a ha => k.few a (Nat.lt_of_lt_of_le ha h.size)⟩

/-- .. and behind -/
theorem Turns.behind {w w' w'' : World} {t t' : MT} (k : Turns w w' t t') (h : Fr (fun _ => False) w' w'') : Turns w w'' t t' :=
  ⟨lies_fr h _ k.lies (fun _ _ h => h), k.uniq, k.root, k.fr.trans h fun _ _ h => h.elim, k.few⟩

/-- a child has turned -/
theorem Turns.child {w w' : World} {b : Nat} {lv kv : Value} {l : List KV} {A B : List MT} {c c' : MT} (hl : Lies w (.node b lv kv l (A ++ c :: B))) (hu : Uniq (.node b lv kv l (A ++ c :: B)))
    (h : Turns w w' c c') : Turns w w' (.node b lv kv l (A ++ c :: B)) (.node b lv kv l (A ++ c' :: B)) := by
  have hu' : ∀ a, one b a + own lv a + own kv a + (cnts A a + (cnt c a + cnts B a)) ≤ 1 := fun a => by have := hu a; rwa [cnt_node, cnts_append, cnts_cons] at this
  have hlt := lies_lt _ hl
  rw [lies_node, liesAll_append, liesAll_cons] at hl
  obtain ⟨h1, h2, h3, hA, hc, hB⟩ := hl
  have off : ∀ a, 0 < one b a + own lv a + own kv a + cnts A a + cnts B a → ¬ 0 < cnt c a := fun a ha hc => by have := hu' a; omega
  refine ⟨?_, ?_, rfl, h.fr.mono (fun a _ ha => ?_), fun a ha => ?_⟩
  · rw [lies_node, liesAll_append, liesAll_cons]
    refine ⟨blk_fr h1 h.fr (off b (by rw [one_self]; omega)), owns_fr h2 h.fr (fun k hk => off k (by simp [own, hk]; omega)), ?_, liesAll_fr h.fr A hA (fun a ha => off a (by omega)), h.lies,
      liesAll_fr h.fr B hB (fun a ha => off a (by omega))⟩
    have := owns_fr h3 h.fr (fun k hk => off k (by simp [own, hk]; omega))
    unfold World.nodes
    rw [show kptrs (A ++ c' :: B) = kptrs (A ++ c :: B) by rw [kptrs_append, kptrs_append, kptrs_cons, kptrs_cons, h.root]]
    simpa using this
  · intro a
    rw [cnt_node, cnts_append, cnts_cons]
    have k1 := hu' a
    by_cases ha : a < w.heap.size
    · have := h.few a ha; omega
    · have k2 := h.uniq a
      have k3 : ¬ 0 < cnt (.node b lv kv l (A ++ c :: B)) a := fun hp => ha (hlt a hp)
      rw [cnt_node, cnts_append, cnts_cons] at k3
      omega
  · rw [cnt_node, cnts_append, cnts_cons]; omega
  · rw [cnt_node, cnts_append, cnts_cons, cnt_node, cnts_append, cnts_cons]
    have := h.few a ha
    omega

end Go.Proofs.Ytaopiolbjnnnfaa
