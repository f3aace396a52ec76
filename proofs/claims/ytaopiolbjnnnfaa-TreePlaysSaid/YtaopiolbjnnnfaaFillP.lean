/-
  fill: what it leaves, in plain words. No walk.
-/
import Derived.Test.YtaopiolbjnnnfaaPlain
import Derived.Test.YtaopiolbjnnnfaaLeft
import Derived.Test.YtaopiolbjnnnfaaRight
import Derived.Test.YtaopiolbjnnnfaaMerge
namespace Go.Proofs.Ytaopiolbjnnnfaa

theorem flat_eq (t : MT) : flat t = weave t.l (t.kids.map flat) := by cases t; rw [flat_node]; rfl

theorem weave_join : ∀ (C D : List KV) (m : KV) (CK DK : List (List KV)), CK.length = C.length + 1 → weave (C ++ m :: D) (CK ++ DK) = weave C CK ++ m :: weave D DK
  | [], D, m, [k], DK, _ => by rw [List.nil_append, List.singleton_append, weave_cons, weave]; simp
  | p :: C, D, m, k :: CK, DK, h => by
    rw [List.cons_append, List.cons_append, weave_cons, weave_cons, weave_join C D m CK DK (by simpa using h)]
    simp
  | [], _, _, [], _, h => by simp at h
  | [], _, _, _ :: _ :: _, _, h => by simp at h
  | _ :: _, _, _, [], _, h => by simp at h

theorem weave_none (l : List KV) : weave l [] = l := by
  cases l with
  | nil => rw [weave]; rfl
  | cons p l => rw [weave]; simp

theorem weave_one (k : List KV) : weave [] [k] = k := by rw [weave]; simp

/-- what fill leaves -/
def FillPost (h xb : Nat) (lv kv : Value) (L R : List KV) (A B : List MT) (c : MT) (w : World) (e : Ending) (w' : World) : Prop :=
  ∃ lv' kv' L' R' A' c' B' u v, e = .returned (.int .i64 (A'.length : Nat)) ∧ Turns w w' (.node xb lv kv (L ++ R) (A ++ c :: B)) (.node xb lv' kv' (L' ++ R') (A' ++ c' :: B')) ∧
    Ok (h + 1) (.node xb lv' kv' (L' ++ R') (A' ++ c' :: B')) ∧ 4 ≤ c'.l.length ∧ L'.length = A'.length ∧ R'.length = B'.length ∧ L.length + R.length ≤ L'.length + R'.length + 1 ∧
    before L A = before L' A' ++ u ∧ flat c' = u ++ (flat c ++ v) ∧ after R B = v ++ after R' B'

theorem ok_node {h b : Nat} {lv kv : Value} {l : List KV} {kids : List MT} : Ok (h + 1) (.node b lv kv l kids) ↔ l.length ≤ 7 ∧ kids.length = l.length + 1 ∧ ∀ c ∈ kids, 3 ≤ c.l.length ∧ Ok h c := by rw [ok_succ]; rfl

theorem Ok.part {h b : Nat} {lv kv lv' kv' : Value} {l l' : List KV} {A B M M' : List MT} (k : Ok (h + 1) (.node b lv kv l (A ++ (M ++ B)))) (hl : l'.length ≤ 7) (hk : (A ++ (M' ++ B)).length = l'.length + 1)
    (hm : ∀ c ∈ M', 3 ≤ c.l.length ∧ Ok h c) : Ok (h + 1) (.node b lv' kv' l' (A ++ (M' ++ B))) := by
  rw [ok_node] at k ⊢
  refine ⟨hl, hk, fun c hc => ?_⟩
  rcases List.mem_append.1 hc with hc | hc
  · exact k.2.2 c (List.mem_append_left _ hc)
  · rcases List.mem_append.1 hc with hc | hc
    · exact hm c hc
    · exact k.2.2 c (List.mem_append_right _ (List.mem_append_right _ hc))

/-- what was moved by right -/
theorem right_plain {h : Nat} {a c c1 d1 : MT} {C D : List KV} {p m : KV} {CK' DK' : List MT} (ha : Ok h a) (hc : Ok h c) (hal : a.l = C ++ [p]) (hcl : c.l = D) (hD : D.length ≤ 6) (hmv : Moved C.length a.kids c.kids CK' DK')
    (h1 : c1.l = C) (h2 : c1.kids = CK') (h3 : d1.l = m :: D) (h4 : d1.kids = DK') :
    Ok h c1 ∧ Ok h d1 ∧ ∃ u, flat a = flat c1 ++ p :: u ∧ flat d1 = u ++ m :: flat c := by
  have hC : C.length ≤ 6 := by have := ha.len; rw [hal] at this; simp at this; omega
  cases h with
  | zero =>
    rw [ok_zero] at ha hc
    rcases hmv with ⟨e1, e2, rfl, rfl⟩ | ⟨q, e1, -⟩
    · refine ⟨ok_zero.2 ⟨by rw [h1]; omega, h2⟩, ok_zero.2 ⟨by rw [h3]; simp; omega, h4⟩, [], ?_, ?_⟩
      · rw [flat_eq a, flat_eq c1, e1, h2, hal, h1, List.map_nil, weave_none, weave_none]
      · rw [flat_eq d1, flat_eq c, e2, h4, h3, hcl, List.map_nil, weave_none, weave_none]; rfl
    · rw [ha.2] at e1; simp at e1
  | succ h =>
    rw [ok_succ] at ha hc
    rcases hmv with ⟨e1, e2, rfl, rfl⟩ | ⟨q, e1, rfl, e3⟩
    · rw [e1] at ha; simp at ha
    · refine ⟨ok_succ.2 ⟨by rw [h1]; omega, by rw [h1, h2, e3], fun k hk => ha.2.2 k (by rw [e1]; rw [h2] at hk; exact List.mem_append_left _ hk)⟩,
        ok_succ.2 ⟨by rw [h3]; simp; omega, by rw [h3, h4]; simp [hc.2.1, hcl], fun k hk => ?_⟩, flat q, ?_, ?_⟩
      · rw [h4] at hk
        rcases List.mem_cons.1 hk with rfl | hk
        · exact ha.2.2 _ (by rw [e1]; simp)
        · exact hc.2.2 k hk
      · rw [flat_eq a, flat_eq c1, e1, h2, hal, h1, List.map_append, weave_join _ _ _ _ _ (by simp [e3]), List.map_singleton, weave_one]
      · rw [flat_eq d1, flat_eq c, h4, h3, hcl, List.map_cons, weave_cons]

/-- .. by left -/
theorem left_plain {h : Nat} {c d c1 d1 : MT} {C D : List KV} {p m : KV} {CK' DK' : List MT} (hc : Ok h c) (hd : Ok h d) (hcl : c.l = C) (hdl : d.l = p :: D) (hC : C.length ≤ 6) (hmv : MovedL c.kids d.kids CK' DK')
    (h1 : c1.l = C ++ [m]) (h2 : c1.kids = CK') (h3 : d1.l = D) (h4 : d1.kids = DK') :
    Ok h c1 ∧ Ok h d1 ∧ ∃ u, flat d = u ++ p :: flat d1 ∧ flat c1 = flat c ++ m :: u := by
  have hD : D.length ≤ 6 := by have := hd.len; rw [hdl] at this; simp at this; omega
  cases h with
  | zero =>
    rw [ok_zero] at hd hc
    rcases hmv with ⟨e1, e2, rfl, rfl⟩ | ⟨q, e1, -⟩
    · refine ⟨ok_zero.2 ⟨by rw [h1]; simp; omega, h2⟩, ok_zero.2 ⟨by rw [h3]; omega, h4⟩, [], ?_, ?_⟩
      · rw [flat_eq d, flat_eq d1, e2, h4, hdl, h3, List.map_nil, weave_none, weave_none]; rfl
      · rw [flat_eq c1, flat_eq c, e1, h2, h1, hcl, List.map_nil, weave_none, weave_none]
    · rw [hd.2] at e1; simp at e1
  | succ h =>
    rw [ok_succ] at hd hc
    rcases hmv with ⟨e1, e2, rfl, rfl⟩ | ⟨q, e1, rfl⟩
    · rw [e1] at hc; simp at hc
    · refine ⟨ok_succ.2 ⟨by rw [h1]; simp; omega, by rw [h1, h2]; simp [hc.2.1, hcl], fun k hk => ?_⟩,
        ok_succ.2 ⟨by rw [h3]; omega, by have := hd.2.1; rw [e1, hdl] at this; rw [h3, h4]; simpa using this, fun k hk => hd.2.2 k (by rw [e1]; rw [h4] at hk; exact List.mem_cons_of_mem _ hk)⟩, flat q, ?_, ?_⟩
      · rw [h2] at hk
        rcases List.mem_append.1 hk with hk | hk
        · exact hc.2.2 k hk
        · rw [List.mem_singleton] at hk; subst hk; exact hd.2.2 _ (by rw [e1]; simp)
      · rw [flat_eq d, flat_eq d1, e1, h4, hdl, h3, List.map_cons, weave_cons]
      · rw [flat_eq c1, flat_eq c, h2, h1, hcl, List.map_append, weave_join _ _ _ _ _ (by simp [hc.2.1, hcl]), List.map_singleton, weave_one]

/-- .. by merge -/
theorem merge_plain {h : Nat} {c d c1 : MT} {m : KV} (hc : Ok h c) (hd : Ok h d) (hn : c.l.length + d.l.length ≤ 6) (h1 : c1.l = c.l ++ m :: d.l) (h2 : c1.kids = c.kids ++ d.kids) :
    Ok h c1 ∧ flat c1 = flat c ++ m :: flat d := by
  cases h with
  | zero =>
    rw [ok_zero] at hd hc
    exact ⟨ok_zero.2 ⟨by rw [h1]; simp; omega, by rw [h2, hc.2, hd.2]; rfl⟩, by
      rw [flat_eq c1, flat_eq c, flat_eq d, h2, h1, hc.2, hd.2, List.nil_append, List.map_nil, weave_none, weave_none, weave_none]⟩
  | succ h =>
    rw [ok_succ] at hd hc
    refine ⟨ok_succ.2 ⟨by rw [h1]; simp; omega, by rw [h1, h2]; simp [hc.2.1, hd.2.1]; omega, fun k hk => ?_⟩, ?_⟩
    · rw [h2] at hk
      rcases List.mem_append.1 hk with hk | hk
      · exact hc.2.2 k hk
      · exact hd.2.2 k hk
    · rw [flat_eq c1, flat_eq c, flat_eq d, h2, h1, List.map_append, weave_join _ _ _ _ _ (by simp [hc.2.1])]

/-- a row that is not empty has a last -/
theorem snoc_of {α : Type} : ∀ (l : List α), 0 < l.length → ∃ a x, l = a ++ [x]
  | [], h => by simp at h
  | x :: l, _ => by
    rcases List.eq_nil_or_concat (x :: l) with h | ⟨a, y, h⟩
    · cases h
    · exact ⟨a, y, by rw [h, List.concat_eq_append]⟩

theorem moved_of {h : Nat} {a c : MT} {C : List KV} {p : KV} (ha : Ok h a) (hc : Ok h c) (hal : a.l = C ++ [p]) : ∃ CK' DK', Moved C.length a.kids c.kids CK' DK' := by
  cases h with
  | zero => exact ⟨[], [], .inl ⟨(ok_zero.1 ha).2, (ok_zero.1 hc).2, rfl, rfl⟩⟩
  | succ h =>
    rw [ok_succ, hal] at ha
    obtain ⟨ck, q, e⟩ := snoc_of a.kids (by omega)
    exact ⟨ck, q :: c.kids, .inr ⟨q, e, rfl, by have := ha.2.1; rw [e] at this; simp at this; omega⟩⟩

theorem movedL_of {h : Nat} {c d : MT} (hc : Ok h c) (hd : Ok h d) : ∃ CK' DK', MovedL c.kids d.kids CK' DK' := by
  cases h with
  | zero => exact ⟨[], [], .inl ⟨(ok_zero.1 hc).2, (ok_zero.1 hd).2, rfl, rfl⟩⟩
  | succ h =>
    rw [ok_succ] at hd
    obtain ⟨q, dk, e⟩ : ∃ q dk, d.kids = q :: dk := by
      cases e : d.kids with
      | nil => rw [e] at hd; simp at hd
      | cons q dk => exact ⟨q, dk, rfl⟩
    exact ⟨c.kids ++ [q], dk, .inr ⟨q, e, rfl⟩⟩

/-- the node ahead gives -/
theorem fill_right {h xb : Nat} {lv kv : Value} {L0 R : List KV} {A0 B : List MT} {m p : KV} {a c : MT} {C : List KV} {CK' DK' : List MT} {w w' : World} {e : Ending}
    (ha : a.l = C ++ [p]) (hC : 3 ≤ C.length) (hc : c.l.length ≤ 3) (hk : Ok (h + 1) (.node xb lv kv (L0 ++ m :: R) (A0 ++ a :: c :: B))) (hL : L0.length = A0.length) (hmv : Moved C.length a.kids c.kids CK' DK')
    (hp : RightPost xb lv kv a.lv a.kv c.lv c.kv L0 R m p A0 B a.b c.b C c.l a.kids c.kids CK' DK' w e w') :
    FillPost h xb lv kv (L0 ++ [m]) R (A0 ++ [a]) B c w (.returned (.int .i64 ((A0 ++ [a]).length : Nat))) w' := by
  obtain ⟨-, lv', kv', c1, d1, ht, -, h1, h2, h3, h4⟩ := hp
  have hka := (ok_node.1 hk).2.2 a (by simp)
  have hkc := (ok_node.1 hk).2.2 c (by simp)
  have hlen := (ok_node.1 hk).2.1
  obtain ⟨k1, k2, u, f1, f2⟩ := right_plain hka.2 hkc.2 ha rfl (by omega) hmv h1 h2 h3 h4
  have ea : MT.node a.b a.lv a.kv (C ++ [p]) a.kids = a := by rw [← ha]; exact (MT.eta a).symm
  have ec : MT.node c.b c.lv c.kv c.l c.kids = c := (MT.eta c).symm
  rw [ea, ec] at ht
  have hk2 : Ok (h + 1) (.node xb lv kv (L0 ++ m :: R) (A0 ++ ([a, c] ++ B))) := hk
  have hk3 : Ok (h + 1) (.node xb lv' kv' (L0 ++ p :: R) (A0 ++ ([c1, d1] ++ B))) := hk2.part (by have := (ok_node.1 hk).1; simpa using this) (by simpa using hlen) (fun x hx => by
    simp only [List.mem_cons, List.not_mem_nil, or_false] at hx
    rcases hx with rfl | rfl
    · exact ⟨by rw [h1]; exact hC, k1⟩
    · exact ⟨by rw [h3]; simp; omega, k2⟩)
  refine ⟨lv', kv', L0 ++ [p], R, A0 ++ [c1], d1, B, u ++ [m], [], ?_, ?_, ?_, by rw [h3]; simp; omega, by simp [hL], ?_, by simp, ?_, ?_, by simp⟩
  · simp
  · simpa using ht
  · simpa using hk3
  · simp at hlen; omega
  · rw [before_append _ _ _ _ hL, before_append _ _ _ _ hL, before_cons, before_cons, before_nil, f1]; simp
  · rw [f2]; simp

/-- the next node gives -/
theorem fill_left {h xb : Nat} {lv kv : Value} {L R0 : List KV} {A B0 : List MT} {m p : KV} {c d : MT} {D : List KV} {CK' DK' : List MT} {w w' : World} {e : Ending}
    (hd : d.l = p :: D) (hD : 3 ≤ D.length) (hc : c.l.length ≤ 3) (hk : Ok (h + 1) (.node xb lv kv (L ++ m :: R0) (A ++ c :: d :: B0))) (hL : L.length = A.length) (hmv : MovedL c.kids d.kids CK' DK')
    (hp : LeftPost xb lv kv c.lv c.kv d.lv d.kv L R0 m p A B0 c.b d.b c.l D c.kids d.kids CK' DK' w e w') :
    FillPost h xb lv kv L (m :: R0) A (d :: B0) c w (.returned (.int .i64 (A.length : Nat))) w' := by
  obtain ⟨-, lv', kv', c1, d1, ht, -, h1, h2, h3, h4⟩ := hp
  have hkc := (ok_node.1 hk).2.2 c (by simp)
  have hkd := (ok_node.1 hk).2.2 d (by simp)
  have hlen := (ok_node.1 hk).2.1
  obtain ⟨k1, k2, u, f1, f2⟩ := left_plain hkc.2 hkd.2 rfl hd (by omega) hmv h1 h2 h3 h4
  have ed : MT.node d.b d.lv d.kv (p :: D) d.kids = d := by rw [← hd]; exact (MT.eta d).symm
  have ec : MT.node c.b c.lv c.kv c.l c.kids = c := (MT.eta c).symm
  rw [ed, ec] at ht
  have hk2 : Ok (h + 1) (.node xb lv kv (L ++ m :: R0) (A ++ ([c, d] ++ B0))) := hk
  have hk3 : Ok (h + 1) (.node xb lv' kv' (L ++ p :: R0) (A ++ ([c1, d1] ++ B0))) := hk2.part (by have := (ok_node.1 hk).1; simpa using this) (by simpa using hlen) (fun x hx => by
    simp only [List.mem_cons, List.not_mem_nil, or_false] at hx
    rcases hx with rfl | rfl
    · exact ⟨by rw [h1]; simp; omega, k1⟩
    · exact ⟨by rw [h3]; exact hD, k2⟩)
  refine ⟨lv', kv', L, p :: R0, A, c1, d1 :: B0, [], m :: u, rfl, ht, hk3, by rw [h1]; simp; omega, hL, ?_, by simp, by simp, by rw [f2]; simp, ?_⟩
  · simp at hlen ⊢; omega
  · rw [after_cons, after_cons, f1]; simp

/-- the next node is joined -/
theorem fill_merge {h xb : Nat} {lv kv : Value} {L R0 : List KV} {A B0 : List MT} {m : KV} {c d : MT} {w w' : World} {e : Ending}
    (hd : d.l.length ≤ 3) (hc : c.l.length ≤ 3) (hk : Ok (h + 1) (.node xb lv kv (L ++ m :: R0) (A ++ c :: d :: B0))) (hL : L.length = A.length)
    (hp : MergePost xb lv kv c.lv c.kv d.lv d.kv L R0 m A B0 c.b d.b c.l d.l c.kids d.kids w e w') :
    FillPost h xb lv kv L (m :: R0) A (d :: B0) c w (.returned (.int .i64 (A.length : Nat))) w' ∧ FillPost h xb lv kv (L ++ [m]) R0 (A ++ [c]) B0 d w (.returned (.int .i64 (A.length : Nat))) w' := by
  obtain ⟨-, lv', kv', c1, ht, -, h1, h2⟩ := hp
  have hkc := (ok_node.1 hk).2.2 c (by simp)
  have hkd := (ok_node.1 hk).2.2 d (by simp)
  have hlen := (ok_node.1 hk).2.1
  obtain ⟨k1, f1⟩ := merge_plain hkc.2 hkd.2 (by omega) h1 h2
  have ed : MT.node d.b d.lv d.kv d.l d.kids = d := (MT.eta d).symm
  have ec : MT.node c.b c.lv c.kv c.l c.kids = c := (MT.eta c).symm
  rw [ed, ec] at ht
  have hk2 : Ok (h + 1) (.node xb lv kv (L ++ m :: R0) (A ++ ([c, d] ++ B0))) := hk
  have hk3 : Ok (h + 1) (.node xb lv' kv' (L ++ R0) (A ++ ([c1] ++ B0))) := hk2.part (by have := (ok_node.1 hk).1; simp at this ⊢; omega) (by simp at hlen ⊢; omega) (fun x hx => by
    rw [List.mem_singleton] at hx
    subst hx
    exact ⟨by rw [h1]; simp; omega, k1⟩)
  have h4 : 4 ≤ c1.l.length := by rw [h1]; simp; omega
  have hR : R0.length = B0.length := by simp at hlen; omega
  constructor
  · exact ⟨lv', kv', L, R0, A, c1, B0, [], m :: flat d, rfl, ht, hk3, h4, hL, hR, by simp; omega, by simp, by rw [f1]; simp, by rw [after_cons]; rfl⟩
  · refine ⟨lv', kv', L, R0, A, c1, B0, flat c ++ [m], [], rfl, ?_, hk3, h4, hL, hR, by simp; omega, ?_, by rw [f1]; simp, by simp⟩
    · simpa using ht
    · rw [before_append _ _ _ _ hL, before_cons, before_nil]
end Go.Proofs.Ytaopiolbjnnnfaa
