/-
  One node turns: its pairs are written, or laid anew; what is done to blocks that the tree does not hold. No walk.
-/
import Derived.Test.YtaopiolbjnnnfaaFill
namespace Go.Proofs.Ytaopiolbjnnnfaa

theorem cnt_off {b : Nat} {lv kv : Value} {l : List KV} {kids : List MT} (hu : Uniq (.node b lv kv l kids)) (a : Nat) : one b a + own lv a + own kv a + cnts kids a ≤ 1 := by have := hu a; rwa [cnt_node] at this

/-- the pairs are written in their place -/
theorem Turns.write {w W : World} {b : Nat} {lv kv : Value} {l Y : List KV} {kids : List MT} (hl : Lies w (.node b lv kv l kids)) (hu : Uniq (.node b lv kv l kids))
    (hf : Fr (fun k => lv.ownBlock = some k) w W) (hv : W.ownsRow 0 34 2 lv Y.length (pcells Y)) : Turns w W (.node b lv kv l kids) (.node b lv kv Y kids) := by
  obtain ⟨hx, hlp, hkn, hch⟩ := lies_node.1 hl
  have off := cnt_off hu
  refine ⟨?_, fun a => by rw [cnt_node]; exact off a, rfl, hf.mono (fun a _ ha => ?_), fun a _ => by rw [cnt_node, cnt_node]; omega⟩
  · rw [lies_node]
    exact ⟨blk_fr hx hf (fun e => by have := off b; rw [one_self, own_eq e] at this; omega), hv, owns_fr hkn hf (fun k hk e => by have := off k; rw [own_eq hk, own_eq e] at this; omega),
      liesAll_fr hf kids hch (fun a ha e => by have := off a; rw [own_eq e] at this; omega)⟩
  · show 0 < cnt _ _
    rw [cnt_node, own_eq ha]; omega

/-- .. or laid anew -/
theorem Turns.lay {w W : World} {b : Nat} {lv kv v : Value} {l Y : List KV} {kids : List MT} (hl : Lies w (.node b lv kv l kids)) (hu : Uniq (.node b lv kv l kids))
    (hf : Fr (fun k => lv.ownBlock = some k) w W) (hv : W.ownsRow 0 34 2 v Y.length (pcells Y)) (ho : ∀ k, v.ownBlock = some k → lv.ownBlock = some k ∨ w.heap.size ≤ k) :
    Turns w (W.setCell ⟨b, 0, none⟩ v) (.node b lv kv l kids) (.node b v kv Y kids) := by
  have hlt := lies_lt _ hl
  obtain ⟨hx, hlp, hkn, hch⟩ := lies_node.1 hl
  have off := cnt_off hu
  have hbl : ¬ lv.ownBlock = some b := fun e => by have := off b; rw [one_self, own_eq e] at this; omega
  have hxW := blk_fr hx hf hbl
  have hf2 : Fr (fun a => a = b ∨ lv.ownBlock = some a) w (W.setCell ⟨b, 0, none⟩ v) := (hf.mono fun _ _ h => .inr h).setCell (p := ⟨b, 0, none⟩) (fun _ => .inl rfl) v
  have hfb : Fr (fun a => a = b) W (W.setCell ⟨b, 0, none⟩ v) := (Fr.refl (fun a => a = b) W).setCell (p := ⟨b, 0, none⟩) (fun _ => rfl) v
  have few : ∀ a, own v a ≤ own lv a + (if w.heap.size ≤ a then 1 else 0) := fun a => by
    by_cases h0 : v.ownBlock = some a
    · rcases ho a h0 with h | h
      · rw [own_eq h, own_eq h0]; omega
      · rw [own_eq h0, if_pos h]; omega
    · rw [own_ne h0]; omega
  refine ⟨?_, fun a => ?_, rfl, hf2.mono (fun a _ ha => ?_), fun a ha => ?_⟩
  · rw [lies_node]
    refine ⟨blk_congr (blk_set hxW 0 v) rfl, owns_fr hv hfb (fun k hk e => by subst e; exact row_node hv (by decide) hxW hk), owns_fr hkn hf2 (fun k hk e => ?_), liesAll_fr hf2 kids hch (fun a ha e => ?_)⟩
    · have := off k
      rcases e with rfl | e
      · rw [one_self, own_eq hk] at this; omega
      · rw [own_eq hk, own_eq e] at this; omega
    · have := off a
      rcases e with rfl | e
      · rw [one_self] at this; omega
      · rw [own_eq e] at this; omega
  · rw [cnt_node]
    have h1 := off a
    have h2 := few a
    by_cases hs : w.heap.size ≤ a
    · have h3 : ¬ 0 < cnt (.node b lv kv l kids) a := fun hp => by have := hlt a hp; omega
      rw [cnt_node] at h3
      rw [if_pos hs] at h2
      omega
    · rw [if_neg hs] at h2; omega
  · show 0 < cnt _ _
    rw [cnt_node]
    rcases ha with rfl | e
    · rw [one_self]; omega
    · rw [own_eq e]; omega
  · rw [cnt_node, cnt_node]
    have h2 := few a
    rw [if_neg (by omega)] at h2
    omega

/-- what is done, behind, to new blocks that the tree does not hold -/
theorem Turns.late {w w' w'' : World} {t t' : MT} {M : Nat → Prop} (k : Turns w w' t t') (h : Fr M w' w'') (h1 : ∀ a, M a → w.heap.size ≤ a) (h2 : ∀ a, M a → cnt t' a = 0) : Turns w w'' t t' :=
  ⟨lies_fr h _ k.lies (fun a ha hm => by have := h2 a hm; omega), k.uniq, k.root, k.fr.trans h fun a ha hm => by have := h1 a hm; omega, k.few⟩

/-- a block that a tree does not hold, behind a turn -/
theorem Turns.off {w w' : World} {t t' : MT} (k : Turns w w' t t') {a : Nat} (ha : a < w.heap.size) (h : cnt t a = 0) : cnt t' a = 0 := by have := k.few a ha; omega
theorem Turns.blk {w w' : World} {t t' : MT} (k : Turns w w' t t') {a : Nat} (h : cnt t a = 0) {c : List Value} {ty : TypeId} (hb : World.blk w a c ty) : World.blk w' a c ty := blk_fr hb k.fr (by show ¬ 0 < _; omega)

theorem off_own {b : Nat} {lv kv : Value} {l : List KV} {kids : List MT} {a : Nat} (h : cnt (.node b lv kv l kids) a = 0) : own lv a = 0 := by rw [cnt_node] at h; omega

theorem new_off {w : World} {t : MT} (h : Lies w t) {a : Nat} (ha : w.heap.size ≤ a) : cnt t a = 0 := by
  by_cases h0 : 0 < cnt t a
  · have := lies_lt _ h a h0; omega
  · omega

/-- a child of a tree -/
theorem child_of {w : World} {b : Nat} {lv kv : Value} {l : List KV} {A B : List MT} {c : MT} (hl : Lies w (.node b lv kv l (A ++ c :: B))) (hu : Uniq (.node b lv kv l (A ++ c :: B))) : Lies w c ∧ Uniq c ∧ ∀ a, cnt (.node b lv kv l (A ++ c :: B)) a = 0 → cnt c a = 0 := by
  refine ⟨(liesAll_cons.1 (liesAll_append.1 (lies_node.1 hl).2.2.2).2).1, fun a => ?_, fun a => ?_⟩
  · have := hu a; rw [cnt_node, cnts_append, cnts_cons] at this; omega
  · rw [cnt_node, cnts_append, cnts_cons]; omega

theorem turns_len {h : Nat} {b b' : Nat} {lv kv lv' kv' : Value} {l : List KV} {A B : List MT} {c c' : MT} (k : Ok (h + 1) (.node b lv kv l (A ++ c :: B))) (hc : Ok h c') (h3 : 3 ≤ c'.l.length) : Ok (h + 1) (.node b' lv' kv' l (A ++ c' :: B)) := by
  have k' : Ok (h + 1) (.node b lv kv l (A ++ ([c] ++ B))) := k
  rw [ok_node] at k' ⊢
  refine ⟨k'.1, by have := k'.2.1; simp at this ⊢; omega, fun x hx => ?_⟩
  rcases List.mem_append.1 hx with hx | hx
  · exact k'.2.2 x (List.mem_append_left _ hx)
  · rcases List.mem_cons.1 hx with rfl | hx
    · exact ⟨h3, hc⟩
    · exact k'.2.2 x (List.mem_append_right _ (List.mem_append_right _ hx))

theorem before_none {L : List KV} {A : List MT} (h : L.length = A.length) (e : before L A = []) : L = [] ∧ A = [] := by
  cases L with
  | nil => exact ⟨rfl, List.eq_nil_of_length_eq_zero (by simpa using h.symm)⟩
  | cons p L =>
    cases A with
    | nil => simp at h
    | cons c A => rw [before_cons] at e; simp at e
theorem after_none {L : List KV} {A : List MT} (h : L.length = A.length) (e : after L A = []) : L = [] ∧ A = [] := by
  cases L with
  | nil => exact ⟨rfl, List.eq_nil_of_length_eq_zero (by simpa using h.symm)⟩
  | cons p L =>
    cases A with
    | nil => simp at h
    | cons c A => rw [after_cons] at e; cases e

/-- the kids' pointers as the code reads them -/
theorem kid_cell {w : World} {b : Nat} {lv kv : Value} {l : List KV} {A B : List MT} {c : MT} (hl : Lies w (.node b lv kv l (A ++ c :: B))) :
    ∃ g n cc, kv = .slice (some ⟨g, 0, none⟩) n cc ∧ A.length < n ∧ w.cell? ⟨b, 1, none⟩ = some (.slice (some ⟨g, 0, none⟩) n cc) ∧ w.cell? ⟨g, A.length, none⟩ = some (.pointer (some ⟨c.b, 0, none⟩)) := by
  obtain ⟨hx, -, hkn, -⟩ := lies_node.1 hl
  obtain ⟨g, cc, rfl, -, -⟩ := nodes_some hkn (by simp)
  obtain ⟨_, e, -, hk0⟩ := nodes_at hkn A.length (by simp)
  cases e
  rw [List.getElem_append_right (Nat.le_refl _)] at hk0
  simp only [Nat.sub_self, List.getElem_cons_zero] at hk0
  have := blk_cell hx 1
  simp only [List.getElem?_cons_succ, List.getElem?_cons_zero] at this
  exact ⟨g, _, cc, rfl, by simp, this, hk0⟩

end Go.Proofs.Ytaopiolbjnnnfaa
