/-
  What trees tell, where a key stands in them, how full the nodes are. No walk.
-/
import Derived.Test.YtaopiolbjnnnfaaTree
namespace Go.Proofs.Ytaopiolbjnnnfaa

/-- what stands ahead of a child .. -/
def before : List KV → List MT → List KV
  | p :: l, c :: ks => flat c ++ p :: before l ks
  | _, _ => []
/-- .. and behind it -/
def after : List KV → List MT → List KV
  | p :: l, c :: ks => p :: (flat c ++ after l ks)
  | _, _ => []

theorem before_nil : before [] [] = [] := by rw [before]; simp
theorem after_nil : after [] [] = [] := by rw [after]; simp
theorem before_cons (p : KV) (l : List KV) (c : MT) (ks : List MT) : before (p :: l) (c :: ks) = flat c ++ p :: before l ks := by rw [before]
theorem after_cons (p : KV) (l : List KV) (c : MT) (ks : List MT) : after (p :: l) (c :: ks) = p :: (flat c ++ after l ks) := by rw [after]

theorem weave_cons (p : KV) (l : List KV) (k : List KV) (ks : List (List KV)) : weave (p :: l) (k :: ks) = k ++ p :: weave l ks := by rw [weave]

theorem before_append : ∀ (L L2 : List KV) (A A2 : List MT), L.length = A.length → before (L ++ L2) (A ++ A2) = before L A ++ before L2 A2
  | [], L2, [], A2, _ => by rw [before_nil]; rfl
  | p :: L, L2, c :: A, A2, h => by
    simp only [List.cons_append, before_cons]
    rw [before_append L L2 A A2 (by simpa using h)]
    simp
  | [], _, _ :: _, _, h => by simp at h
  | _ :: _, _, [], _, h => by simp at h

theorem after_append : ∀ (L L2 : List KV) (A A2 : List MT), L.length = A.length → after (L ++ L2) (A ++ A2) = after L A ++ after L2 A2
  | [], L2, [], A2, _ => by rw [after_nil]; rfl
  | p :: L, L2, c :: A, A2, h => by
    simp only [List.cons_append, after_cons]
    rw [after_append L L2 A A2 (by simpa using h)]
    simp
  | [], _, _ :: _, _, h => by simp at h
  | _ :: _, _, [], _, h => by simp at h

theorem weave_after : ∀ (R : List KV) (c : List KV) (B : List MT), R.length = B.length → weave R (c :: B.map flat) = c ++ after R B
  | [], c, [], _ => by rw [weave, after_nil]; simp
  | p :: R, c, d :: B, h => by
    rw [weave_cons, after_cons, List.map_cons, weave_after R (flat d) B (by simpa using h)]
  | [], _, _ :: _, h => by simp at h
  | _ :: _, _, [], h => by simp at h

theorem weave_before : ∀ (L R : List KV) (A B : List MT) (c : MT), L.length = A.length → R.length = B.length → weave (L ++ R) ((A ++ c :: B).map flat) = before L A ++ (flat c ++ after R B)
  | [], R, [], B, c, _, hR => by
    rw [List.nil_append, List.nil_append, before_nil, List.nil_append, List.map_cons]
    exact weave_after R (flat c) B hR
  | p :: L, R, d :: A, B, c, hL, hR => by
    rw [List.cons_append, List.cons_append, List.map_cons, weave_cons, before_cons, weave_before L R A B c (by simpa using hL) hR]
    simp
  | [], _, _ :: _, _, _, h, _ => by simp at h
  | _ :: _, _, [], _, _, h, _ => by simp at h

theorem flat_at (b : Nat) (lv kv : Value) (L R : List KV) (A B : List MT) (c : MT) (hL : L.length = A.length) (hR : R.length = B.length) :
    flat (.node b lv kv (L ++ R) (A ++ c :: B)) = before L A ++ (flat c ++ after R B) := by
  rw [flat_node, weave_before L R A B c hL hR]

theorem flat_leaf (b : Nat) (lv kv : Value) (l : List KV) : flat (.node b lv kv l []) = l := by
  rw [flat_node]
  cases l with
  | nil => rw [weave]; rfl
  | cons p l => rw [List.map_nil, weave]; simp

/-- a tree of a height: how full its nodes are (but the topmost) -/
def Ok : Nat → MT → Prop
  | 0, t => t.l.length ≤ 7 ∧ t.kids = []
  | h + 1, t => t.l.length ≤ 7 ∧ t.kids.length = t.l.length + 1 ∧ ∀ c ∈ t.kids, 3 ≤ c.l.length ∧ Ok h c

theorem Ok.len {h : Nat} {t : MT} (k : Ok h t) : t.l.length ≤ 7 := by cases h <;> exact (by unfold Ok at k; exact k.1)
theorem ok_zero {t : MT} : Ok 0 t ↔ t.l.length ≤ 7 ∧ t.kids = [] := by rw [Ok]
theorem ok_succ {h : Nat} {t : MT} : Ok (h + 1) t ↔ t.l.length ≤ 7 ∧ t.kids.length = t.l.length + 1 ∧ ∀ c ∈ t.kids, 3 ≤ c.l.length ∧ Ok h c := by rw [Ok]
theorem Ok.kidsLen {h : Nat} {t : MT} (k : Ok h t) : t.kids.length ≤ 8 := by
  cases h with
  | zero => rw [(ok_zero.1 k).2]; decide
  | succ h => have := ok_succ.1 k; omega

theorem weave_sub : ∀ (l : List KV) (ks : List (List KV)), l.Sublist (weave l ks)
  | [], _ => List.nil_sublist _
  | p :: l, [] => by rw [weave]; exact List.Sublist.refl _; simp
  | p :: l, k :: ks => by
    rw [weave_cons]
    exact List.Sublist.trans (List.Sublist.cons_cons p (weave_sub l ks)) (List.sublist_append_right _ _)

theorem rising_l {t : MT} (h : Rising (flat t)) : Rising t.l := by
  obtain ⟨b, lv, kv, l, kids⟩ := t
  rw [flat_node] at h
  exact List.Pairwise.sublist (weave_sub _ _) h

theorem before_lt {key : ByteArray} : ∀ (L : List KV) (A : List MT), Rising (before L A) → (∀ p ∈ L, klt p.1 key) → ∀ p ∈ before L A, klt p.1 key
  | [], _, _, _, p, hp => by simp [before] at hp
  | q :: L, [], _, _, p, hp => by simp [before] at hp
  | q :: L, c :: A, hr, hL, p, hp => by
    rw [before_cons] at hr hp
    have hr' := List.pairwise_append.1 hr
    rcases List.mem_append.1 hp with hp | hp
    · exact klt_trans (hr'.2.2 p hp q (List.mem_cons_self ..)) (hL q (List.mem_cons_self ..))
    · rcases List.mem_cons.1 hp with rfl | hp
      · exact hL _ (List.mem_cons_self ..)
      · exact before_lt L A (List.pairwise_cons.1 hr'.2.1).2 (fun p hp => hL p (List.mem_cons_of_mem _ hp)) p hp

theorem after_gt {key : ByteArray} : ∀ (R : List KV) (B : List MT), Rising (after R B) → (∀ p ∈ R, klt key p.1) → ∀ p ∈ after R B, klt key p.1
  | [], _, _, _, p, hp => by simp [after] at hp
  | q :: L, [], _, _, p, hp => by simp [after] at hp
  | q :: L, c :: A, hr, hL, p, hp => by
    rw [after_cons] at hr hp
    have hr' := List.pairwise_cons.1 hr
    rcases List.mem_cons.1 hp with rfl | hp'
    · exact hL _ (List.mem_cons_self ..)
    · rcases List.mem_append.1 hp' with hc | hp'
      · exact klt_trans (hL q (List.mem_cons_self ..)) (hr'.1 p hp')
      · exact after_gt L A (List.pairwise_append.1 hr'.2).2.1 (fun p hp => hL p (List.mem_cons_of_mem _ hp)) p hp'

theorem Rising.left {a b : List KV} (h : Rising (a ++ b)) : Rising a := (List.pairwise_append.1 h).1
theorem Rising.right {a b : List KV} (h : Rising (a ++ b)) : Rising b := (List.pairwise_append.1 h).2.1

/-- a row of pairs cut by a key -/
def lo (key : ByteArray) (s : List KV) : List KV := s.filter fun p => klt p.1 key
def hi (key : ByteArray) (s : List KV) : List KV := s.filter fun p => klt key p.1
def look (key : ByteArray) (s : List KV) : Option Int := (s.find? fun p => decide (p.1 = key)).map (·.2)
def put (key : ByteArray) (n : Int) (s : List KV) : List KV := lo key s ++ (key, n) :: hi key s
def del (key : ByteArray) (s : List KV) : List KV := lo key s ++ hi key s
def nxt (key : ByteArray) (s : List KV) : Option KV := (hi key s).head?
def bck (key : ByteArray) (s : List KV) : Option KV := (lo key s).getLast?

theorem lo_all {key : ByteArray} {s : List KV} (h : ∀ p ∈ s, klt p.1 key) : lo key s = s := List.filter_eq_self.2 fun p hp => by simpa using h p hp
theorem lo_none {key : ByteArray} {s : List KV} (h : ∀ p ∈ s, klt key p.1) : lo key s = [] := List.filter_eq_nil_iff.2 fun p hp => by simpa using klt_asymm (h p hp)
theorem hi_all {key : ByteArray} {s : List KV} (h : ∀ p ∈ s, klt key p.1) : hi key s = s := List.filter_eq_self.2 fun p hp => by simpa using h p hp
theorem hi_none {key : ByteArray} {s : List KV} (h : ∀ p ∈ s, klt p.1 key) : hi key s = [] := List.filter_eq_nil_iff.2 fun p hp => by simpa using klt_asymm (h p hp)
theorem lo_append (key : ByteArray) (a b : List KV) : lo key (a ++ b) = lo key a ++ lo key b := List.filter_append ..
theorem hi_append (key : ByteArray) (a b : List KV) : hi key (a ++ b) = hi key a ++ hi key b := List.filter_append ..
theorem lo_self (key : ByteArray) (n : Int) : lo key [(key, n)] = [] := by simp [lo, klt_irrefl]
theorem hi_self (key : ByteArray) (n : Int) : hi key [(key, n)] = [] := by simp [hi, klt_irrefl]

theorem lo_mid {key : ByteArray} {P M Q : List KV} (hP : ∀ p ∈ P, klt p.1 key) (hQ : ∀ p ∈ Q, klt key p.1) : lo key (P ++ (M ++ Q)) = P ++ lo key M := by
  rw [lo_append, lo_append, lo_all hP, lo_none hQ, List.append_nil]
theorem hi_mid {key : ByteArray} {P M Q : List KV} (hP : ∀ p ∈ P, klt p.1 key) (hQ : ∀ p ∈ Q, klt key p.1) : hi key (P ++ (M ++ Q)) = hi key M ++ Q := by
  rw [hi_append, hi_append, hi_none hP, hi_all hQ, List.nil_append]
theorem look_none {key : ByteArray} {s : List KV} (h : ∀ p ∈ s, p.1 ≠ key) : look key s = none := by
  unfold look
  rw [List.find?_eq_none.2 fun p hp => by simpa using h p hp]; rfl
theorem look_mid {key : ByteArray} {P M Q : List KV} (hP : ∀ p ∈ P, klt p.1 key) (hQ : ∀ p ∈ Q, klt key p.1) : look key (P ++ (M ++ Q)) = look key M := by
  unfold look
  have h1 : P.find? (fun p => decide (p.1 = key)) = none := List.find?_eq_none.2 fun p hp => by simpa using klt_ne (hP p hp)
  have h2 : Q.find? (fun p => decide (p.1 = key)) = none := List.find?_eq_none.2 fun p hp => by simpa using (klt_ne (hQ p hp)).symm
  rw [List.find?_append, List.find?_append, h1, h2]
  simp
theorem look_self (key : ByteArray) (n : Int) : look key [(key, n)] = some n := by simp [look]
theorem put_mid {key : ByteArray} {n : Int} {P M Q : List KV} (hP : ∀ p ∈ P, klt p.1 key) (hQ : ∀ p ∈ Q, klt key p.1) : put key n (P ++ (M ++ Q)) = P ++ (put key n M ++ Q) := by
  unfold put; rw [lo_mid hP hQ, hi_mid hP hQ]; simp
theorem del_mid {key : ByteArray} {P M Q : List KV} (hP : ∀ p ∈ P, klt p.1 key) (hQ : ∀ p ∈ Q, klt key p.1) : del key (P ++ (M ++ Q)) = P ++ (del key M ++ Q) := by
  unfold del; rw [lo_mid hP hQ, hi_mid hP hQ]; simp
theorem put_self (key : ByteArray) (n m : Int) : put key n [(key, m)] = [(key, n)] := by unfold put; rw [lo_self, hi_self]; rfl
theorem del_self (key : ByteArray) (m : Int) : del key [(key, m)] = [] := by unfold del; rw [lo_self, hi_self]; rfl

theorem look_mem {key : ByteArray} {s : List KV} {n : Int} (h : look key s = some n) : (key, n) ∈ s := by
  unfold look at h
  obtain ⟨p, hp, rfl⟩ := Option.map_eq_some_iff.1 h
  have h1 := List.find?_some hp
  have h2 := List.mem_of_find?_eq_some hp
  simp only [decide_eq_true_eq] at h1
  rw [← h1]; exact h2

theorem rising_put {key : ByteArray} {n : Int} {s : List KV} (h : Rising s) : Rising (put key n s) := by
  unfold put Rising
  rw [List.pairwise_append, List.pairwise_cons]
  have hlo : ∀ p ∈ lo key s, klt p.1 key := fun p hp => by simpa using (List.mem_filter.1 hp).2
  have hhi : ∀ p ∈ hi key s, klt key p.1 := fun p hp => by simpa using (List.mem_filter.1 hp).2
  exact ⟨h.sublist (List.filter_sublist ..), ⟨hhi, h.sublist (List.filter_sublist ..)⟩, fun p hp q hq => by
    rcases List.mem_cons.1 hq with rfl | hq
    · exact hlo p hp
    · exact klt_trans (hlo p hp) (hhi q hq)⟩

theorem rising_del {key : ByteArray} {s : List KV} (h : Rising s) : Rising (del key s) := by
  unfold del Rising
  rw [List.pairwise_append]
  have hlo : ∀ p ∈ lo key s, klt p.1 key := fun p hp => by simpa using (List.mem_filter.1 hp).2
  have hhi : ∀ p ∈ hi key s, klt key p.1 := fun p hp => by simpa using (List.mem_filter.1 hp).2
  exact ⟨h.sublist (List.filter_sublist ..), h.sublist (List.filter_sublist ..), fun p hp q hq => klt_trans (hlo p hp) (hhi q hq)⟩

/-- a rising row, cut -/
theorem rising_cut {key : ByteArray} {s : List KV} (h : Rising s) : (look key s = none ∧ s = lo key s ++ hi key s) ∨ ∃ n, look key s = some n ∧ s = lo key s ++ (key, n) :: hi key s := by
  induction s with
  | nil => exact .inl ⟨rfl, rfl⟩
  | cons p s ih =>
    have hp := List.pairwise_cons.1 h
    by_cases h1 : klt p.1 key
    · have e1 : lo key (p :: s) = p :: lo key s := by simp [lo, h1]
      have e2 : hi key (p :: s) = hi key s := by simp [hi, klt_asymm h1]
      have e3 : look key (p :: s) = look key s := by simp [look, klt_ne h1]
      rw [e1, e2, e3]
      rcases ih hp.2 with ⟨a, b⟩ | ⟨n, a, b⟩
      · exact .inl ⟨a, by rw [List.cons_append, ← b]⟩
      · exact .inr ⟨n, a, by rw [List.cons_append, ← b]⟩
    · by_cases h2 : p.1 = key
      · obtain ⟨k, n⟩ := p
        simp only at h2
        subst h2
        right
        have e1 : lo k ((k, n) :: s) = [] := by
          rw [show (k, n) :: s = [(k, n)] ++ s from rfl, lo_append, lo_self, lo_none hp.1]; rfl
        have e2 : hi k ((k, n) :: s) = s := by
          rw [show (k, n) :: s = [(k, n)] ++ s from rfl, hi_append, hi_self, hi_all hp.1]; rfl
        exact ⟨n, by simp [look], by rw [e1, e2]; rfl⟩
      · have h3 : klt key p.1 := klt_of_not h1 h2
        have ha : ∀ q ∈ p :: s, klt key q.1 := fun q hq => by
          rcases List.mem_cons.1 hq with rfl | hq
          · exact h3
          · exact klt_trans h3 (hp.1 q hq)
        exact .inl ⟨look_none fun q hq => (klt_ne (ha q hq)).symm, by rw [lo_none ha, hi_all ha]; rfl⟩

/-- where a key stands: cut there -/
theorem place_cut {key : ByteArray} {l : List KV} {i : Nat} {there : Bool} (h : Place key l i there) (hr : Rising l) :
    (there = false ∧ ∃ L R, l = L ++ R ∧ L.length = i ∧ (∀ p ∈ L, klt p.1 key) ∧ ∀ p ∈ R, klt key p.1) ∨
    (there = true ∧ ∃ L n R, l = L ++ (key, n) :: R ∧ L.length = i ∧ (∀ p ∈ L, klt p.1 key) ∧ ∀ p ∈ R, klt key p.1) := by
  obtain ⟨h1, h2, h3, h4⟩ := h
  have hl : l = l.take i ++ l.drop i := (List.take_append_drop ..).symm
  have hlen : (l.take i).length = i := by simp; omega
  by_cases hh : ∃ h : i < l.length, l[i].1 = key
  · obtain ⟨hi', he⟩ := hh
    refine .inr ⟨by rw [h4]; simp [hi', he], l.take i, l[i].2, l.drop (i + 1), ?_, hlen, h2, fun p hp => ?_⟩
    · rw [← he, ← List.drop_eq_getElem_cons hi']; exact hl
    · rw [hl] at hr
      have := hr.right
      rw [List.drop_eq_getElem_cons hi'] at this
      have := (List.pairwise_cons.1 this).1 p hp
      rwa [he] at this
  · refine .inl ⟨by rw [h4]; simpa using hh, l.take i, l.drop i, hl, hlen, h2, fun p hp => ?_⟩
    by_cases hi' : i < l.length
    · have h0 : klt key l[i].1 := klt_of_not (h3 _ (by rw [List.drop_eq_getElem_cons hi']; exact List.mem_cons_self ..)) (fun e => hh ⟨hi', e⟩)
      rw [hl] at hr
      have h5 := hr.right
      rw [List.drop_eq_getElem_cons hi'] at hp h5
      rcases List.mem_cons.1 hp with rfl | hp
      · exact h0
      · exact klt_trans h0 ((List.pairwise_cons.1 h5).1 p hp)
    · rw [List.drop_eq_nil_of_le (by omega)] at hp; cases hp

theorem cut_at {α : Type} (ks : List α) (i : Nat) (h : i < ks.length) : ∃ A c B, ks = A ++ c :: B ∧ A.length = i :=
  ⟨ks.take i, ks[i], ks.drop (i + 1), by rw [← List.drop_eq_getElem_cons h]; exact (List.take_append_drop ..).symm, by simp; omega⟩

/-- the child below a key -/
structure Below (key : ByteArray) (L R : List KV) (A B : List MT) : Prop where
  lenL : L.length = A.length
  lenR : R.length = B.length
  lo : ∀ p ∈ before L A, klt p.1 key
  hi : ∀ p ∈ after R B, klt key p.1

theorem below_of {key : ByteArray} {b : Nat} {lv kv : Value} {L R : List KV} {A B : List MT} {c : MT} (hr : Rising (flat (.node b lv kv (L ++ R) (A ++ c :: B)))) (hL : L.length = A.length) (hR : R.length = B.length)
    (h1 : ∀ p ∈ L, klt p.1 key) (h2 : ∀ p ∈ R, klt key p.1) : Below key L R A B := by
  rw [flat_at _ _ _ _ _ _ _ _ hL hR] at hr
  exact ⟨hL, hR, before_lt L A hr.left h1, after_gt R B hr.right.right h2⟩

end Go.Proofs.Ytaopiolbjnnnfaa
