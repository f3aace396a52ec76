/-
  Put: plain parts. No walk.
-/
import Derived.Test.YtaopiolbjnnnfaaHeld
import Derived.Test.YtaopiolbjnnnfaaSplit
namespace Go.Proofs.Ytaopiolbjnnnfaa
open Go.RowKit

/-- a number written over another -/
theorem write_num {W : World} {g n c : Nat} {L R : List KV} {key : ByteArray} {m0 : Int} (h : W.ownsRow 0 34 2 (.slice (some ⟨g, 0, none⟩) n c) n (pcells (L ++ (key, m0) :: R))) (m : Int) (i : Nat) (hi : L.length = i) :
    (W.setCell ⟨g, i * 2 + 1, none⟩ (.int .i64 m)).ownsRow 0 34 2 (.slice (some ⟨g, 0, none⟩) n c) n (pcells (L ++ (key, m) :: R)) ∧
      Fr (fun k => (Value.slice (some ⟨g, 0, none⟩) n c).ownBlock = some k) W (W.setCell ⟨g, i * 2 + 1, none⟩ (.int .i64 m)) := by
  have h1 := (h.stored (i * 2 + 1) (.int .i64 m)).1
  have e : (pcells (L ++ (key, m0) :: R)).set (i * 2 + 1) (.int .i64 m) = pcells (L ++ (key, m) :: R) := by
    rw [pcells_append, pcells_append, pcells_cons, pcells_cons]
    have hl : (pcells L).length = i * 2 := by rw [pcells_length, hi]
    rw [List.set_append_right _ _ (by omega), hl, Nat.add_sub_cancel_left]
    rfl
  rw [e] at h1
  exact ⟨h1, (Fr.refl (fun k => (Value.slice (some ⟨g, 0, none⟩) n c).ownBlock = some k) W).setCell (p := ⟨g, i * 2 + 1, none⟩) (fun _ => rfl) _⟩

/-- where a thing of a node stands among all -/
theorem there_form {k : Nat} {b : Nat} {lv kv : Value} {L R : List KV} {m : KV} {kids : List MT} (hk : Ok k (.node b lv kv (L ++ m :: R) kids)) :
    ∃ P Q, ∀ b' lv' kv' m', flat (.node b' lv' kv' (L ++ m' :: R) kids) = P ++ ([m'] ++ Q) := by
  cases k with
  | zero =>
    obtain ⟨-, rfl⟩ := ok_zero.1 hk
    exact ⟨L, R, fun b' lv' kv' m' => by rw [flat_leaf]; rfl⟩
  | succ k =>
    obtain ⟨A, c, d, B, rfl, hA, hB, -⟩ := kids_cut hk
    refine ⟨before L A ++ flat c, flat d ++ after R B, fun b' lv' kv' m' => ?_⟩
    have hfl := flat_at b' lv' kv' (L ++ [m']) R (A ++ [c]) B d (by simp [hA]) hB
    rw [show (L ++ [m']) ++ R = L ++ m' :: R by simp, show (A ++ [c]) ++ d :: B = A ++ c :: d :: B by simp] at hfl
    rw [hfl, before_append _ _ _ _ hA, before_cons, before_nil]
    simp

theorem there_lt {s P Q : List KV} {m : KV} (hr : Rising s) (e : s = P ++ ([m] ++ Q)) : (∀ p ∈ P, klt p.1 m.1) ∧ ∀ p ∈ Q, klt m.1 p.1 := by
  subst e
  exact ⟨fun p hp => (List.pairwise_append.1 hr).2.2 p hp m (by simp), fun p hp => (List.pairwise_cons.1 hr.right).1 p hp⟩

theorem put_len {key : ByteArray} {n : Int} {s : List KV} (hr : Rising s) : (look key s = none → (put key n s).length = s.length + 1) ∧ (look key s ≠ none → (put key n s).length = s.length) := by
  have hp : (put key n s).length = (lo key s).length + (hi key s).length + 1 := by unfold put; simp; omega
  rcases rising_cut (key := key) hr with ⟨h1, h2⟩ | ⟨m, h1, h2⟩
  · have := congrArg List.length h2
    simp at this
    exact ⟨fun _ => by omega, fun h => absurd h1 h⟩
  · have := congrArg List.length h2
    simp at this
    exact ⟨fun h => (by rw [h1] at h; cases h), fun _ => by omega⟩

theorem del_len {key : ByteArray} {s : List KV} (hr : Rising s) : (look key s = none → del key s = s) ∧ (look key s ≠ none → (del key s).length + 1 = s.length) := by
  rcases rising_cut (key := key) hr with ⟨h1, h2⟩ | ⟨m, h1, h2⟩
  · exact ⟨fun _ => h2.symm, fun h => absurd h1 h⟩
  · have := congrArg List.length h2
    refine ⟨fun h => (by rw [h1] at h; cases h), fun _ => ?_⟩
    unfold del
    simp at this ⊢
    omega

/-- a call has turned the tree -/
def After (tb : Nat) (t : MT) (w w' : World) (s' : List KV) : Prop :=
  ∃ h' t', HeldAt w' tb h' t' s' ∧ Fr (fun a => a = tb ∨ 0 < cnt t a) w w' ∧ ∀ a, a < w.heap.size → cnt t' a ≤ cnt t a

theorem After.leaves {tb h : Nat} {t : MT} {w w' : World} {s s' : List KV} {F : Nat → Prop} (_ : HeldAt w tb h t s) (hF : ∀ a, F a ↔ (a = tb ∨ 0 < cnt t a)) (k : After tb t w w' s') : Leaves tb F s' w w' := by
  obtain ⟨h', t', k1, k2, k3⟩ := k
  refine ⟨fun a => a = tb ∨ 0 < cnt t' a, ⟨h', t', k1, fun _ => Iff.rfl⟩, k2.mono (fun a _ ha => (hF a).2 ha), fun a ha hq => (hF a).2 ?_⟩
  rcases hq with hq | hq
  · exact .inl hq
  · have := k3 a ha; exact .inr (by omega)

/-- the child below a key is not full -/
def Room (key : ByteArray) (t : MT) : Prop := ∀ L R A c B, t.l = L ++ R → t.kids = A ++ c :: B → L.length = A.length → (∀ p ∈ L, klt p.1 key) → (∀ p ∈ R, klt key p.1) → c.l.length ≤ 6

theorem room_split {key : ByteArray} {b : Nat} {lv kv : Value} {L R : List KV} {m : KV} {A B : List MT} {c r : MT} (hA : L.length = A.length) (h1 : ∀ p ∈ L, klt p.1 key) (h2 : ∀ p ∈ R, klt key p.1) (hc : c.l.length ≤ 6) (hr : r.l.length ≤ 6) :
    Room key (.node b lv kv (L ++ m :: R) (A ++ c :: r :: B)) := by
  intro L' R' A' c' B' e1 e2 hl g1 g2
  simp only [MT.l] at e1
  simp only [MT.kids] at e2
  have k1 : ¬ L'.length < L.length := fun h => by
    have hm : L[L'.length] ∈ R' := by
      have := congrArg (fun x => x[L'.length]?) e1
      simp only [List.getElem?_append_right (Nat.le_refl L'.length), List.getElem?_append_left h, Nat.sub_self, List.getElem?_eq_getElem h] at this
      exact List.mem_of_getElem? this.symm
    exact klt_asymm (h1 _ (List.getElem_mem h)) (g2 _ hm)
  have k2 : ¬ L.length + 1 < L'.length := fun h => by
    have hm : L'[L.length + 1] ∈ R := by
      have := congrArg (fun x => x[L.length + 1]?) e1
      simp only [List.getElem?_append_left h, List.getElem?_eq_getElem h] at this
      rw [List.getElem?_append_right (by omega), Nat.add_sub_cancel_left, List.getElem?_cons_succ] at this
      exact List.mem_of_getElem? this
    exact klt_asymm (h2 _ hm) (g1 _ (List.getElem_mem h))
  have hk := congrArg (fun x => x[A'.length]?) e2
  simp only [List.getElem?_append_right (Nat.le_refl A'.length), Nat.sub_self, List.getElem?_cons_zero] at hk
  rw [List.getElem?_append_right (by omega)] at hk
  rcases (by omega : A'.length - A.length = 0 ∨ A'.length - A.length = 1) with h | h
  · rw [h, List.getElem?_cons_zero, Option.some.injEq] at hk
    rw [← hk]; exact hc
  · rw [h, List.getElem?_cons_succ, List.getElem?_cons_zero, Option.some.injEq] at hk
    rw [← hk]; exact hr

/-- a full node cut in the middle -/
theorem full_cut {h : Nat} {t : MT} (hk : Ok h t) (h7 : t.l.length = 7) :
    ∃ cl1 m cl2 ck1 ck2, t.l = cl1 ++ m :: cl2 ∧ t.kids = ck1 ++ ck2 ∧ cl1.length = 3 ∧ cl2.length = 3 ∧ (ck1 = [] ∧ ck2 = [] ∨ ck1.length = 4 ∧ ck2.length = 4) ∧
      ∀ c r : MT, c.l = cl1 → c.kids = ck1 → r.l = cl2 → r.kids = ck2 → Ok h c ∧ Ok h r ∧ flat t = flat c ++ m :: flat r := by
  obtain ⟨cl1, m, cl2, e, h1⟩ := cut_at t.l 3 (by omega)
  have h2 : cl2.length = 3 := by rw [e] at h7; simp at h7; omega
  cases h with
  | zero =>
    obtain ⟨-, hkids⟩ := ok_zero.1 hk
    refine ⟨cl1, m, cl2, [], [], e, hkids, h1, h2, .inl ⟨rfl, rfl⟩, fun c r e1 e2 e3 e4 => ⟨ok_zero.2 ⟨by rw [e1]; omega, e2⟩, ok_zero.2 ⟨by rw [e3]; omega, e4⟩, ?_⟩⟩
    rw [flat_eq t, flat_eq c, flat_eq r, hkids, e2, e4, e, e1, e3, List.map_nil, weave_none, weave_none, weave_none]
  | succ h =>
    obtain ⟨-, hlen, hall⟩ := ok_succ.1 hk
    refine ⟨cl1, m, cl2, t.kids.take 4, t.kids.drop 4, e, (List.take_append_drop ..).symm, h1, h2, .inr ⟨by simp; omega, by simp; omega⟩, fun c r e1 e2 e3 e4 => ⟨ok_succ.2 ⟨by rw [e1]; omega, by rw [e1, e2]; simp; omega, fun x hx => hall x (by rw [e2] at hx; exact List.mem_of_mem_take hx)⟩,
      ok_succ.2 ⟨by rw [e3]; omega, by rw [e3, e4]; simp; omega, fun x hx => hall x (by rw [e4] at hx; exact List.mem_of_mem_drop hx)⟩, ?_⟩⟩
    rw [flat_eq t, flat_eq c, flat_eq r, e, e1, e2, e3, e4]
    conv => lhs; rw [← List.take_append_drop 4 t.kids]
    rw [List.map_append, weave_join _ _ _ _ _ (by simp; omega)]

/-- what a split leaves -/
theorem split_plain {k xb : Nat} {lv kv lv' kv' : Value} {L R : List KV} {A B : List MT} {c0 c r : MT} {m : KV} (hk : Ok (k + 1) (.node xb lv kv (L ++ R) (A ++ c0 :: B))) (hn : L.length + R.length ≤ 6) (hA : L.length = A.length) (hR : R.length = B.length)
    (h1 : Ok k c) (h2 : Ok k r) (h3 : 3 ≤ c.l.length) (h4 : 3 ≤ r.l.length) (hf : flat c0 = flat c ++ m :: flat r) :
    Ok (k + 1) (.node xb lv' kv' (L ++ m :: R) (A ++ c :: r :: B)) ∧ flat (.node xb lv' kv' (L ++ m :: R) (A ++ c :: r :: B)) = flat (.node xb lv kv (L ++ R) (A ++ c0 :: B)) := by
  constructor
  · have hk2 : Ok (k + 1) (.node xb lv kv (L ++ R) (A ++ ([c0] ++ B))) := hk
    exact hk2.part (M' := [c, r]) (by simp; omega) (by have := (ok_node.1 hk).2.1; simp at this ⊢; omega) (fun x hx => by
      simp only [List.mem_cons, List.not_mem_nil, or_false] at hx
      rcases hx with rfl | rfl
      · exact ⟨h3, h1⟩
      · exact ⟨h4, h2⟩)
  · rw [flat_at _ _ _ _ _ _ _ _ hA hR, hf]
    have := flat_at xb lv' kv' (L ++ [m]) R (A ++ [c]) B r (by simp [hA]) hR
    rw [show (L ++ [m]) ++ R = L ++ m :: R by simp, show (A ++ [c]) ++ r :: B = A ++ c :: r :: B by simp] at this
    rw [this, before_append _ _ _ _ hA, before_cons, before_nil]
    simp

/-- a new root above the old one -/
def rootWorld (w : World) (tb b : Nat) : World := ((w.setCell ⟨tb, 0, none⟩ (.pointer (some ⟨w.heap.size + 1, 0, none⟩))).alloc (.cells #[.pointer (some ⟨b, 0, none⟩)] 51)).alloc (.cells #[.slice none 0 0, .slice (some ⟨w.heap.size, 0, none⟩) 1 1] 57)
def rootTree (w : World) (t : MT) : MT := .node (w.heap.size + 1) (.slice none 0 0) (.slice (some ⟨w.heap.size, 0, none⟩) 1 1) [] [t]

theorem root_grows {w : World} {tb h : Nat} {t : MT} {s : List KV} (hh : HeldAt w tb h t s) :
    Lies (rootWorld w tb t.b) (rootTree w t) ∧ Uniq (rootTree w t) ∧ World.blk (rootWorld w tb t.b) tb [.pointer (some ⟨w.heap.size + 1, 0, none⟩), .int .i64 (s.length : Nat)] 53 ∧ cnt (rootTree w t) tb = 0 ∧
      Fr (fun a => a = tb) w (rootWorld w tb t.b) ∧ ∀ a, a < w.heap.size → cnt (rootTree w t) a ≤ cnt t a := by
  have htt := blk_lt hh.blk
  have hlt := lies_lt t hh.lies
  have hc : ∀ a, cnt (rootTree w t) a = one (w.heap.size + 1) a + one w.heap.size a + cnt t a := fun a => by
    unfold rootTree
    rw [cnt_node, cnts_cons, cnts_nil, own_some, own_none]; omega
  have hf : Fr (fun a => a = tb) w (rootWorld w tb t.b) := (((Fr.refl (fun a => a = tb) w).setCell (p := ⟨tb, 0, none⟩) (fun _ => rfl) _).alloc _).alloc _
  refine ⟨?_, fun a => ?_, blk_alloc (blk_alloc (blk_congr (blk_set hh.blk 0 _) rfl) _) _, ?_, hf, fun a ha => ?_⟩
  · unfold rootTree
    rw [lies_node]
    have hsz : ((w.setCell ⟨tb, 0, none⟩ (.pointer (some ⟨w.heap.size + 1, 0, none⟩))).alloc (.cells #[.pointer (some ⟨t.b, 0, none⟩)] 51)).heap.size = w.heap.size + 1 := by simp
    have hsz2 : (w.setCell ⟨tb, 0, none⟩ (.pointer (some ⟨w.heap.size + 1, 0, none⟩))).heap.size = w.heap.size := by simp
    have hb1 := blk_new ((w.setCell ⟨tb, 0, none⟩ (.pointer (some ⟨w.heap.size + 1, 0, none⟩))).alloc (.cells #[.pointer (some ⟨t.b, 0, none⟩)] 51)) [.slice none 0 0, .slice (some ⟨w.heap.size, 0, none⟩) 1 1] 57
    rw [hsz] at hb1
    have hb2 := blk_alloc (blk_new (w.setCell ⟨tb, 0, none⟩ (.pointer (some ⟨w.heap.size + 1, 0, none⟩))) [.pointer (some ⟨t.b, 0, none⟩)] 51) (.cells #[.slice none 0 0, .slice (some ⟨w.heap.size, 0, none⟩) 1 1] 57)
    rw [hsz2] at hb2
    refine ⟨hb1, World.ownsRow_nil _ _ _ _, owns_mk hb2 (Nat.le_refl 1) (by decide) rfl rfl, liesAll_cons.2 ⟨lies_fr hf t hh.lies (fun a ha e => by subst e; have := hh.off; omega), liesAll_nil _⟩⟩
  · rw [hc]
    have h1 := hh.uniq a
    have h2 := hlt a
    by_cases ha : a < w.heap.size
    · rw [one_ne (by omega), one_ne (by omega)]; omega
    · have h3 : cnt t a = 0 := by by_cases h0 : 0 < cnt t a; exact absurd (h2 h0) ha; omega
      rw [h3]
      by_cases e : a = w.heap.size
      · rw [one_ne (by omega)]; have := one_le_one w.heap.size a; omega
      · rw [one_ne e]; have := one_le_one (w.heap.size + 1) a; omega
  · rw [hc, hh.off, one_ne (by omega), one_ne (by omega)]
  · rw [hc, one_ne (by omega), one_ne (by omega)]; omega

theorem root_split {w w2 : World} {tb h : Nat} {t c r : MT} {s : List KV} {lv' kv' : Value} {m : KV} (hh : HeldAt w tb h t s) (ht : Turns (rootWorld w tb t.b) w2 (rootTree w t) (.node (w.heap.size + 1) lv' kv' ([] ++ m :: []) ([] ++ c :: r :: [])))
    (h1 : Ok h c) (h2 : Ok h r) (h3 : c.l.length = 3) (h4 : r.l.length = 3) (hf : flat t = flat c ++ m :: flat r) :
    HeldAt w2 tb (h + 1) (.node (w.heap.size + 1) lv' kv' [m] [c, r]) s ∧ Fr (fun a => a = tb ∨ 0 < cnt t a) w w2 ∧ ∀ a, a < w.heap.size → cnt (.node (w.heap.size + 1) lv' kv' [m] [c, r]) a ≤ cnt t a := by
  obtain ⟨k1, k2, k3, k4, k5, k6⟩ := root_grows hh
  have htt := blk_lt hh.blk
  have htl : tb < (rootWorld w tb t.b).heap.size := Nat.lt_of_lt_of_le htt k5.size
  refine ⟨⟨ht.blk k4 k3, ht.lies, ht.uniq, ht.off htl k4, ?_, fun _ => by simp [MT.l], hh.rising, ?_⟩, k5.mono (fun a _ h => .inl h) |>.trans ht.fr (fun a ha h => .inr (by have := k6 a ha; omega)), fun a ha => Nat.le_trans (ht.few a (Nat.lt_of_lt_of_le ha k5.size)) (k6 a ha)⟩
  · rw [ok_node]
    refine ⟨by simp, by simp, fun x hx => ?_⟩
    simp only [List.mem_cons, List.not_mem_nil, or_false] at hx
    rcases hx with rfl | rfl
    · exact ⟨by omega, h1⟩
    · exact ⟨by omega, h2⟩
  · rw [← hh.tells, hf, flat_node, List.map_cons, weave_cons, List.map_cons, List.map_nil, weave_one]
end Go.Proofs.Ytaopiolbjnnnfaa
