/-
  fill: a child that has more than the least.
-/
import Derived.Test.YtaopiolbjnnnfaaFillP
namespace Go.Proofs.Ytaopiolbjnnnfaa
open Go.RowKit

/-- a node's length as the code reads it -/
theorem lies_len {w : World} {t : MT} (h : Lies w t) : ∃ ao c, t.lv = .slice ao t.l.length c ∧ w.cell? ⟨t.b, 0, none⟩ = some (.slice ao t.l.length c) := by
  obtain ⟨b, lv, kv, l, kids⟩ := t
  obtain ⟨hx, hl, -, -⟩ := lies_node.1 h
  obtain ⟨ao, c, e, -⟩ := pairs_slice hl
  refine ⟨ao, c, e, ?_⟩
  have := blk_cell hx 0
  simp only [List.getElem?_cons_zero] at this
  exact this.trans (by rw [e]; rfl)

set_option maxHeartbeats 2000000 in
set_option maxRecDepth 100000 in
theorem fill_walk (h xb i : Nat) (lv kv : Value) (L R : List KV) (A B : List MT) (c : MT) (w : World)
    (hl : Lies w (.node xb lv kv (L ++ R) (A ++ c :: B))) (hu : Uniq (.node xb lv kv (L ++ R) (A ++ c :: B))) (hk : Ok (h + 1) (.node xb lv kv (L ++ R) (A ++ c :: B))) (hL : L.length = A.length) (hi : A.length = i) (hn : 1 ≤ L.length + R.length) :
    Calls Try.prog 40 #[.pointer (some ⟨xb, 0, none⟩), .int .i64 i] w (FillPost h xb lv kv L R A B c w) := by
  obtain ⟨hx, hlp, hkn, hch⟩ := lies_node.1 hl
  have hk' := ok_node.1 hk
  have h7 : i ≤ 7 := by have := hk'.1; simp at this; omega
  obtain ⟨ln, hln⟩ : ∃ ln, ln = (L ++ R).length := ⟨_, rfl⟩
  obtain ⟨lo, lc, hlv, -⟩ := pairs_slice hlp
  obtain ⟨kg, kc, hkv, -, -⟩ := nodes_some hkn (by simp)
  obtain ⟨kn, hkl⟩ : ∃ kn, kn = (A ++ c :: B).length := ⟨_, rfl⟩
  have hkn1 : kn = ln + 1 := by rw [hkl, hln]; exact hk'.2.1
  have hin : i < kn := by rw [hkl]; simp; omega
  obtain ⟨co, cc, -, hc0⟩ := lies_len (liesAll_mem hch (c := c) (by simp))
  have hkn' := hkn
  rw [hkv] at hkn'
  obtain ⟨_, e, -, hk0⟩ := nodes_at hkn' i (by omega)
  cases e
  rw [List.getElem_append_right (show A.length ≤ i by omega)] at hk0
  simp only [hi, Nat.sub_self, List.getElem_cons_zero] at hk0
  have hx0 := blk_cell hx 0
  have hx1 := blk_cell hx 1
  simp only [List.getElem?_cons_succ, List.getElem?_cons_zero, hlv, hkv, ← hln, ← hkl] at hx0 hx1
  obtain ⟨cn, hcn⟩ : ∃ cn, cn = c.l.length := ⟨_, rfl⟩
  rw [← hcn] at hc0
  by_cases h1 : 3 < cn
  · have HL := Lib.hid hl
    have HU := Lib.hid hu
    have HK := Lib.hid hk
    have HI := Lib.hid hi
    have HLL := Lib.hid hL
    have HCN := Lib.hid hcn
    clear hl hu hk hi hL hcn hkn1 hln hkl hlv hkv hkn' hk' hx hlp hkn hch
    go_enter Try.func40, Try.ntmps40
    go_wp2_with fail
    go_ret
    exact ⟨lv, kv, L, R, A, c, B, [], [], by rw [HI.out]; rfl, Turns.refl HL.out HU.out, HK.out, by rw [← HCN.out]; omega, HLL.out, by have := (ok_node.1 HK.out).2.1; simp at this; have := HLL.out; omega, by omega, by simp, by simp, by simp⟩
  · have hcl : c.l.length ≤ 3 := by omega
    have hLA : L.length = i := by omega
    have ec : MT.node c.b c.lv c.kv c.l c.kids = c := (MT.eta c).symm
    by_cases hlow : ∃ L0 A0 m a, L = L0 ++ [m] ∧ A = A0 ++ [a] ∧ 3 < a.l.length
    · obtain ⟨L0, A0, m, a, rfl, rfl, ha⟩ := hlow
      obtain ⟨k, hk2⟩ : ∃ k, k = A0.length := ⟨_, rfl⟩
      simp only [List.length_append, List.length_singleton] at hi hL hLA
      obtain ⟨ao, ac, -, ha0⟩ := lies_len (liesAll_mem hch (c := a) (by simp))
      obtain ⟨_, e, -, hk1⟩ := nodes_at hkn' k (by simp; omega)
      cases e
      simp only [List.append_assoc, List.singleton_append] at hk1
      rw [List.getElem_append_right (show A0.length ≤ k by omega)] at hk1
      simp only [← hk2, Nat.sub_self, List.getElem_cons_zero] at hk1
      obtain ⟨C, p, hap⟩ := snoc_of a.l (by omega)
      have hac : C.length + 1 = a.l.length := by rw [hap]; simp
      have ea : MT.node a.b a.lv a.kv (C ++ [p]) a.kids = a := by rw [← hap]; exact (MT.eta a).symm
      simp only [List.append_assoc, List.singleton_append] at hl hu hk
      have ha2 := ((ok_node.1 hk).2.2 a (by simp)).2
      have hc2 := ((ok_node.1 hk).2.2 c (by simp)).2
      obtain ⟨CK', DK', hmv⟩ := moved_of ha2 hc2 hap
      have hcall := right_walk xb k k lv kv a.lv a.kv c.lv c.kv L0 R m p A0 B a.b c.b C c.l a.kids c.kids CK' DK' w (by rw [ea, ec]; exact hl) (by rw [ea, ec]; exact hu) rfl (by omega) (by omega)
        (by have := (ok_node.1 hk).1; simp at this; omega) (by have := ha2.len; omega) (by omega) ha2.kidsLen hc2.kidsLen hmv
      have HC := Lib.hid hcall
      have hpl := fun w' e hp => fill_right (w := w) (w' := w') (e := e) hap (by omega) hcl hk (by omega) hmv hp
      have HP := Lib.hid hpl
      have w1 : IntKind.i64.wrap ((i : Int) - 1) = (k : Int) := by rw [IntWalk.i64_in _ (by omega)]; omega
      have w2 : (k : Int) < (kn : Int) := by omega
      have w3 : (0 : Int) ≤ (k : Int) := by omega
      have w4 : 0 < i := by omega
      have w5 : (0 : Int) < (i : Int) := by omega
      obtain ⟨an, han⟩ : ∃ an, an = a.l.length := ⟨_, rfl⟩
      rw [← han] at ha0 ha hac
      have HI : Hid ((A0 ++ [a]).length = i) := Lib.hid (by simp; omega)
      clear hl hu hk hi hL hcn hkn1 hln hkl hlv hkv hkn' hk' hx hlp hkn hch hcall hpl hmv ea ec hap han hac hk2 hLA
      go_enter Try.func40, Try.ntmps40
      go_wp2_with (go_at_call 55; refine HC.out.mono ?_; rintro e w' hp; have he := hp.1; subst he; have HPP := Lib.hid hp; clear hp)
      go_ret
      have := HP.out _ _ HPP.out
      rw [HI.out] at this
      exact this
    · have hlow' : i = 0 ∨ ∃ k ab ao an ac, w.cell? ⟨kg, k, none⟩ = some (.pointer (some ⟨ab, 0, none⟩)) ∧ w.cell? ⟨ab, 0, none⟩ = some (.slice ao an ac) ∧ ¬ 3 < an ∧ IntKind.i64.wrap ((i : Int) - 1) = (k : Int) ∧ 0 < i ∧ k < kn := by
        by_cases h0 : i = 0
        · exact .inl h0
        · obtain ⟨L0, m, rfl⟩ := snoc_of L (by omega)
          obtain ⟨A0, a, rfl⟩ := snoc_of A (by omega)
          obtain ⟨ao, ac, -, ha0⟩ := lies_len (liesAll_mem hch (c := a) (by simp))
          simp only [List.length_append, List.length_singleton] at hi
          obtain ⟨_, e, -, hk1⟩ := nodes_at hkn' A0.length (by simp)
          cases e
          simp only [List.append_assoc, List.singleton_append] at hk1
          rw [List.getElem_append_right (Nat.le_refl _)] at hk1
          simp only [Nat.sub_self, List.getElem_cons_zero] at hk1
          exact .inr ⟨A0.length, a.b, ao, a.l.length, ac, hk1, ha0, fun h => hlow ⟨L0, A0, m, a, rfl, rfl, h⟩, by rw [IntWalk.i64_in _ (by omega)]; omega, by omega, by omega⟩
      clear hlow
      have hBn : R.length = B.length := by have := hk'.2.1; simp at this; omega
      cases R with
      | nil =>
        obtain rfl : B = [] := List.eq_nil_of_length_eq_zero (by simpa using hBn.symm)
        obtain ⟨L0, m, rfl⟩ := snoc_of L (by simp at hn; omega)
        simp only [List.length_append, List.length_singleton] at hL hLA
        obtain ⟨A0, a, rfl⟩ := snoc_of A (by omega)
        simp only [List.length_append, List.length_singleton] at hi hL
        rcases hlow' with h0 | ⟨k, ab, ao, an, ac, hk1, ha0, han, w1, h0, hkk⟩
        · omega
        have hki : (k : Int) = (i : Int) - 1 := by rw [← w1, IntWalk.i64_in _ (by omega)]
        have ea : MT.node a.b a.lv a.kv a.l a.kids = a := (MT.eta a).symm
        simp only [List.append_assoc, List.singleton_append] at hl hu hk
        have hal : a.l.length ≤ 3 := by
          obtain ⟨_, _, -, ha1⟩ := lies_len (liesAll_mem hch (c := a) (by simp))
          obtain ⟨_, e, -, hk2⟩ := nodes_at hkn' A0.length (by simp)
          cases e
          simp only [List.append_assoc, List.singleton_append] at hk2
          rw [List.getElem_append_right (Nat.le_refl _)] at hk2
          simp only [Nat.sub_self, List.getElem_cons_zero] at hk2
          rw [show k = A0.length by omega, hk2] at hk1
          cases hk1
          rw [ha1] at ha0
          cases ha0
          omega
        have ha2 := ((ok_node.1 hk).2.2 a (by simp)).2
        have hc2 := ((ok_node.1 hk).2.2 c (by simp)).2
        have hcall := merge_walk xb k k lv kv a.lv a.kv c.lv c.kv L0 [] m A0 [] a.b c.b a.l c.l a.kids c.kids w (by rw [ea, ec]; exact hl) (by rw [ea, ec]; exact hu) rfl (by omega) (by omega)
          (by simp; omega) (by omega) (by omega) ha2.kidsLen hc2.kidsLen
        have HC := Lib.hid hcall
        have hpl := fun w' e hp => (fill_merge (w := w) (w' := w') (e := e) hcl hal hk (by omega) hp).2
        have HP := Lib.hid hpl
        have w2 : (k : Int) < (kn : Int) := by omega
        have w3 : (0 : Int) ≤ (k : Int) := by omega
        have w5 : (0 : Int) < (i : Int) := by omega
        have w6 : ¬ (i : Int) < (ln : Int) := by rw [hln]; simp; omega
        have HI : Hid (A0.length = k) := Lib.hid (by omega)
        clear hl hu hk hi hL hcn hkn1 hln hkl hlv hkv hkn' hk' hx hlp hkn hch hcall hpl ea ec hLA hki hal hBn ha2 hc2
        go_enter Try.func40, Try.ntmps40
        go_wp2_with (go_at_call 39; refine HC.out.mono ?_; rintro e w' hp; have he := hp.1; subst he; have HPP := Lib.hid hp; clear hp)
        go_ret
        have := HP.out _ _ HPP.out
        rw [HI.out] at this
        exact this
      | cons m R0 =>
        obtain ⟨d, B0, rfl⟩ : ∃ d B0, B = d :: B0 := by
          cases B with
          | nil => simp at hBn
          | cons d B0 => exact ⟨d, B0, rfl⟩
        have hiw : i < ln := by rw [hln]; simp; omega
        obtain ⟨dO, dc, -, hd0⟩ := lies_len (liesAll_mem hch (c := d) (by simp))
        obtain ⟨_, e, -, hk2⟩ := nodes_at hkn' (i + 1) (by rw [← hkl]; omega)
        cases e
        rw [List.getElem_append_right (show A.length ≤ i + 1 by omega)] at hk2
        simp only [hi, Nat.add_sub_cancel_left, List.getElem_cons_zero, List.getElem_cons_succ] at hk2
        have ed : MT.node d.b d.lv d.kv d.l d.kids = d := (MT.eta d).symm
        have hc2 := ((ok_node.1 hk).2.2 c (by simp)).2
        have hd2 := ((ok_node.1 hk).2.2 d (by simp)).2
        have hlen7 : L.length + R0.length ≤ 7 := by have := hk'.1; simp at this; omega
        obtain ⟨dn, hdn⟩ : ∃ dn, dn = d.l.length := ⟨_, rfl⟩
        rw [← hdn] at hd0
        have w7 : IntKind.i64.wrap ((i : Int) + 1) = (i : Int) + 1 := IntWalk.i64_in _ (by omega)
        have w8 : (0 : Int) ≤ (i : Int) + 1 := by omega
        have w9 : ((i : Int) + 1).toNat = i + 1 := by omega
        have w10 : (i : Int) + 1 < (kn : Int) := by omega
        by_cases h3 : 3 < dn
        · obtain ⟨p, D, hdp⟩ : ∃ p D, d.l = p :: D := by
            cases e : d.l with
            | nil => rw [e] at hdn; simp at hdn; omega
            | cons p D => exact ⟨p, D, rfl⟩
          have hdD : D.length + 1 = dn := by rw [hdn, hdp]; simp
          have hdc : MT.node d.b d.lv d.kv (p :: D) d.kids = d := by rw [← hdp]; exact ed
          obtain ⟨CK', DK', hmv⟩ := movedL_of hc2 hd2
          have hcall := left_walk xb i i lv kv c.lv c.kv d.lv d.kv L R0 m p A B0 c.b d.b c.l D c.kids d.kids CK' DK' w (by rw [hdc, ec]; exact hl) (by rw [hdc, ec]; exact hu) rfl hLA hi
            hlen7 (by omega) (by have := hd2.len; omega) hc2.kidsLen hd2.kidsLen hmv
          have HC := Lib.hid hcall
          have hpl := fun w' e hp => fill_left (w := w) (w' := w') (e := e) hdp (by omega) hcl hk hL hmv hp
          have HP := Lib.hid hpl
          have HI := Lib.hid hi
          clear hl hu hk hi hL hcn hkn1 hln hkl hlv hkv hkn' hk' hx hlp hkn hch hcall hpl ec ed hdc hLA hBn hc2 hd2 hdn hdp hdD hmv
          rcases hlow' with h0 | ⟨k, ab, ao, an, ac, hk1, ha0, han, w1, h0, hkk⟩
          · have w5 : ¬ (0 : Int) < (i : Int) := by omega
            clear h0
            go_enter Try.func40, Try.ntmps40
            go_wp2_with (go_at_call 56; refine HC.out.mono ?_; rintro e w' hp; have he := hp.1; subst he; have HPP := Lib.hid hp; clear hp)
            go_ret
            have := HP.out _ _ HPP.out
            rw [HI.out] at this
            exact this
          · have w2 : (k : Int) < (kn : Int) := by omega
            have w3 : (0 : Int) ≤ (k : Int) := by omega
            have w5 : (0 : Int) < (i : Int) := by omega
            go_enter Try.func40, Try.ntmps40
            go_wp2_with (go_at_call 56; refine HC.out.mono ?_; rintro e w' hp; have he := hp.1; subst he; have HPP := Lib.hid hp; clear hp)
            go_ret
            have := HP.out _ _ HPP.out
            rw [HI.out] at this
            exact this
        · have hcall := merge_walk xb i i lv kv c.lv c.kv d.lv d.kv L R0 m A B0 c.b d.b c.l d.l c.kids d.kids w (by rw [ed, ec]; exact hl) (by rw [ed, ec]; exact hu) rfl hLA hi
            hlen7 (by omega) (by omega) hc2.kidsLen hd2.kidsLen
          have HC := Lib.hid hcall
          have hpl := fun w' e hp => (fill_merge (w := w) (w' := w') (e := e) (by omega) hcl hk hL hp).1
          have HP := Lib.hid hpl
          have HI := Lib.hid hi
          clear hl hu hk hi hL hcn hkn1 hln hkl hlv hkv hkn' hk' hx hlp hkn hch hcall hpl ec ed hLA hBn hc2 hd2 hdn
          rcases hlow' with h0 | ⟨k, ab, ao, an, ac, hk1, ha0, han, w1, h0, hkk⟩
          · have w5 : ¬ (0 : Int) < (i : Int) := by omega
            clear h0
            go_enter Try.func40, Try.ntmps40
            go_wp2_with (go_at_call 39; refine HC.out.mono ?_; rintro e w' hp; have he := hp.1; subst he; have HPP := Lib.hid hp; clear hp)
            go_ret
            have := HP.out _ _ HPP.out
            rw [HI.out] at this
            exact this
          · have w2 : (k : Int) < (kn : Int) := by omega
            have w3 : (0 : Int) ≤ (k : Int) := by omega
            have w5 : (0 : Int) < (i : Int) := by omega
            go_enter Try.func40, Try.ntmps40
            go_wp2_with (go_at_call 39; refine HC.out.mono ?_; rintro e w' hp; have he := hp.1; subst he; have HPP := Lib.hid hp; clear hp)
            go_ret
            have := HP.out _ _ HPP.out
            rw [HI.out] at this
            exact this
end Go.Proofs.Ytaopiolbjnnnfaa
