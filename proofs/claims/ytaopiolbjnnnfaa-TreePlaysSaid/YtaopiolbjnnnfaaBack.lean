/-
  Back.  (printed by gen_back.py)
-/
import Derived.Test.YtaopiolbjnnnfaaNext
import Derived.Deep.LoopGhost
namespace Go.Proofs.Ytaopiolbjnnnfaa
open Go.RowKit

def BackRel (key : ByteArray) (o : Option KV) (w : World) (rb k : Nat) (ok p : Value) (wr : World) : Prop :=
  ∃ b lv kv l kids best pk pn, p = .pointer (some ⟨b, 0, none⟩) ∧ ok = .bool (Option.isSome best) ∧ Lies wr (.node b lv kv l kids) ∧ Ok k (.node b lv kv l kids) ∧ Rising (flat (.node b lv kv l kids)) ∧ cnt (.node b lv kv l kids) rb = 0 ∧
    World.blk wr rb [.string pk, .int .i64 pn] 34 ∧ best.getD kv0 = (pk, pn) ∧ o = (bck key (flat (.node b lv kv l kids))).or best ∧ Fr (fun a => a = rb) w wr

theorem lo_high {key : ByteArray} {s : List KV} (h : ∀ p ∈ s, ¬ klt p.1 key) : lo key s = [] := List.filter_eq_nil_iff.2 fun p hp => by simpa using h p hp

theorem bck_leaf {key : ByteArray} {L R : List KV} (h1 : ∀ p ∈ L, klt p.1 key) (h2 : ∀ p ∈ R, ¬ klt p.1 key) : bck key (L ++ R) = L.getLast? := by
  unfold bck; rw [lo_append, lo_high h2, lo_all h1, List.append_nil]

theorem after_high {key : ByteArray} (L : List KV) (A : List MT) (hr : Rising (after L A)) (h : ∀ p ∈ L, ¬ klt p.1 key) : ∀ p ∈ after L A, ¬ klt p.1 key := by
  induction L generalizing A with
  | nil => intro p hp; simp [after] at hp
  | cons q L ih =>
    cases A with
    | nil => intro p hp; simp [after] at hp
    | cons c A =>
      intro p hp
      rw [after_cons] at hr hp
      have hr' := List.pairwise_cons.1 hr
      rcases List.mem_cons.1 hp with rfl | hp'
      · exact h _ (List.mem_cons_self ..)
      · rcases List.mem_append.1 hp' with hc | hc
        · exact fun hk => h q (List.mem_cons_self ..) (klt_trans (hr'.1 p hp') hk)
        · exact ih A (List.pairwise_append.1 hr'.2).2.1 (fun p hp => h p (List.mem_cons_of_mem _ hp)) p hc

theorem bck_kid {key : ByteArray} {b : Nat} {lv kv : Value} {L R : List KV} {A B : List MT} {c : MT} (hL : L.length = A.length) (hR : R.length = B.length) (hr : Rising (flat (.node b lv kv (L ++ R) (A ++ c :: B))))
    (h1 : ∀ p ∈ L, klt p.1 key) (h2 : ∀ p ∈ R, ¬ klt p.1 key) : bck key (flat (.node b lv kv (L ++ R) (A ++ c :: B))) = (bck key (flat c)).or L.getLast? := by
  rw [flat_at _ _ _ _ _ _ _ _ hL hR] at hr ⊢
  unfold bck
  rw [lo_append, lo_append, lo_high (after_high R B hr.right.right h2), lo_all (before_lt L A hr.left h1), List.append_nil, List.getLast?_append]
  congr 1
  by_cases h0 : L = []
  · subst h0
    obtain rfl : A = [] := List.eq_nil_of_length_eq_zero (by simpa using hL.symm)
    rw [before_nil]
  · obtain ⟨L0, m, rfl⟩ := snoc_of L (by cases L with | nil => exact absurd rfl h0 | cons _ _ => simp)
    obtain ⟨A0, a, rfl⟩ := snoc_of A (by simp at hL; omega)
    rw [before_append _ _ _ _ (by simpa using hL), before_cons, before_nil]
    simp

set_option maxHeartbeats 4000000 in
set_option maxRecDepth 100000 in
theorem back_walk (tb h : Nat) (t : MT) (s : List KV) (key : ByteArray) (w : World) (hh : HeldAt w tb h t s) :
    Calls Try.prog 17 #[.pointer (some ⟨tb, 0, none⟩), .string key] w (PairPost (bck key s) w) := by
  have ht0 := blk_cell hh.blk 0
  simp only [List.getElem?_cons_zero] at ht0
  have htt : tb < w.heap.size := blk_lt hh.blk
  have HB0 : Hid (World.blk (w.alloc (.cells #[.string ⟨#[]⟩, .int .i64 0] 34)) tb [.pointer (some ⟨t.b, 0, none⟩), .int .i64 (s.length : Nat)] 53) := Lib.hid (blk_alloc hh.blk _)
  have HH := Lib.hid hh
  clear hh
  go_enter Try.func17, Try.ntmps17
  go_wp2_with (go_at_call 21; refine (none_any tb _ _ _ HB0.out).mono ?_; rintro e w' ⟨rfl, rfl⟩)
  obtain ⟨rb, hrb⟩ : ∃ rb, rb = w.heap.size := ⟨_, rfl⟩
  rw [← hrb]
  have HRB := Lib.hid hrb
  clear hrb
  go_loopg [5, 6] h (fun k ok p wr => BackRel key (bck key s) w rb k ok p wr)
  case atStart =>
    obtain rfl := HRB.out
    have hh := HH.out.fr ((Fr.refl (fun _ => False) _).alloc (.cells #[.string ⟨#[]⟩, .int .i64 0] 34)) (fun _ _ h => h)
    have hoff := new_off HH.out.lies (Nat.le_refl _)
    obtain ⟨b, lv, kv, l, kids⟩ := t
    exact ⟨b, lv, kv, l, kids, none, ⟨#[]⟩, 0, rfl, rfl, hh.lies, hh.ok, by rw [hh.tells]; exact hh.rising, hoff, blk_new w [.string ⟨#[]⟩, .int .i64 0] 34, rfl, by rw [hh.tells, Option.or_none], (Fr.refl _ _).alloc _⟩
  case round =>
    obtain ⟨b, lv, kv, l, kids, best, pk, pn, rfl, rfl, hl, hk, hr, hoff, hb, hbest, ho, hf⟩ := hrel
    obtain ⟨hx, hlp, hkn, hch⟩ := lies_node.1 hl
    have h7 : l.length ≤ 7 := hk.len
    obtain ⟨lo, lc, rfl, -⟩ := pairs_slice hlp
    obtain ⟨ko, kc, rfl, -⟩ := nodes_slice hkn
    have HBEST := Lib.hid hbest
    have HO := Lib.hid ho
    have HF := Lib.hid hf
    clear hbest ho hf
    obtain ⟨ln, hln⟩ : ∃ ln, ln = l.length := ⟨_, rfl⟩
    obtain ⟨kn, hkn1⟩ : ∃ kn, kn = kids.length := ⟨_, rfl⟩
    rw [← hln, ← hkn1] at hx hl
    rw [← hln] at hlp
    rw [← hkn1] at hkn
    rw [← hln, ← hkn1] at hk hr hoff HO
    rcases key_cut key (rising_l hr) with ⟨L, R, hlr, g1, g2⟩ | ⟨L, n, R, hlr, g1, g2⟩
    · simp only [MT.l] at hlr
      subst hlr
      have hin := in_absent b (.slice lo ln lc) (.slice ko kn kc) L R key wr hx hlp (rising_l hr) h7 g1 g2
      have g3 : ∀ p ∈ R, ¬ klt p.1 key := fun p hp => klt_asymm (g2 p hp)
      obtain ⟨i, hi⟩ : ∃ i, i = L.length := ⟨_, rfl⟩
      rw [← hi] at hin
      have hlni : ln = i + R.length := by rw [hln, hi]; simp
      have hi7 : i ≤ 7 := by have := h7; simp at this; omega
      have HIN := Lib.hid hin
      have HI := Lib.hid hi
      clear hin hi hln
      cases gk with
      | zero =>
        obtain ⟨-, rfl⟩ := ok_zero.1 hk
        have hlk := bck_leaf g1 g3
        rw [flat_leaf, hlk] at HO
        have hkn0 : kn = 0 := hkn1
        subst hkn0
        have HX := Lib.hid hx
        have HB := Lib.hid hb
        have HLP := Lib.hid hlp
        clear hkn1 hlk g3 g1 hl hx hk hr hoff hb hlp hkn hch
        by_cases hL0 : L = []
        · subst hL0
          have w1 : ¬ (0 : Int) < (i : Int) := by have := HI.out; simp at this; omega
          clear hlni
          go_wp2_with (first
            | (go_at_call 24; refine HIN.out.mono ?_; rintro e w1 ⟨rfl, hf1⟩
               have hx1 := blk_fr HX.out hf1 (fun h => h)
               have hb1 := blk_fr HB.out hf1 (fun h => h)
               have q0 := blk_cell hx1 0
               have r0 := blk_cell hb1 0
               have r1 := blk_cell hb1 1
               have r2 := blk_free hb1 0
               have r3 := blk_free hb1 1
               have r4 := blk_lt hb1
               simp only [List.getElem?_cons_succ, List.getElem?_cons_zero] at q0 r0 r1
               have HX1 := Lib.hid hx1; have HB1 := Lib.hid hb1
               have HF1 := Lib.hid hf1; clear hf1 hx1 hb1)
            | (go_at_call 25; refine (leaf_any b _ _ _ _ _ HX1.out).mono ?_; rintro e w' ⟨rfl, rfl⟩))
          refine bodyPost_ret (v := .tuple #[.agg #[.string pk, .int .i64 pn], .bool best.isSome]) (by simp [results, Try.results17, go_sem, r0, r1]) rfl ?_
          have ho := HO.out
          rw [List.getLast?_nil, Option.none_or] at ho
          exact ⟨by rw [ho, HBEST.out], fr_new ((((HF.out.trans' (HF1.out.mono fun _ _ h => h.elim)).setCell (p := ⟨rb, 0, none⟩) (fun _ => rfl) _).setCell (p := ⟨rb, 1, none⟩) (fun _ => rfl) _)) HRB.out⟩
        · obtain ⟨L0, m, hLm⟩ := snoc_of L (by cases L with | nil => exact absurd rfl hL0 | cons _ _ => simp)
          subst hLm
          clear hL0
          obtain ⟨i0, hi0⟩ : ∃ i0, i0 = L0.length := ⟨_, rfl⟩
          have hii : i = i0 + 1 := by rw [HI.out, hi0]; simp
          have w1 : (0 : Int) < (i : Int) := by omega
          have w2 : IntKind.i64.wrap ((i : Int) - 1) = (i0 : Int) := by rw [IntWalk.i64_in _ (by omega)]; omega
          have w3 : (i0 : Int) < (ln : Int) := by omega
          have HI0 := Lib.hid hi0
          clear hlni hii hi0
          go_wp2_with (first
            | (go_at_call 24; refine HIN.out.mono ?_; rintro e w1 ⟨rfl, hf1⟩
               have hx1 := blk_fr HX.out hf1 (fun h => h)
               have hb1 := blk_fr HB.out hf1 (fun h => h)
               have hlp1 := owns_fr HLP.out hf1 (fun _ _ h => h)
               obtain ⟨_, rfl, -, p0, p1⟩ := pairs_at hlp1 i0 (by rw [HI0.out]; simp)
               simp only [List.append_assoc, List.singleton_append] at p0 p1
               rw [List.getElem_append_right (by rw [HI0.out]; exact Nat.le_refl _)] at p0 p1
               simp only [HI0.out, Nat.sub_self, List.getElem_cons_zero] at p0 p1
               simp only [← HI0.out] at p0 p1
               have q0 := blk_cell hx1 0
               have r0 := blk_cell hb1 0
               have r1 := blk_cell hb1 1
               have r2 := blk_free hb1 0
               have r3 := blk_free hb1 1
               have r4 := blk_lt hb1
               simp only [List.getElem?_cons_succ, List.getElem?_cons_zero] at q0 r0 r1
               have hz := blk_set (blk_set (blk_set (blk_set hb1 0 (.string m.1)) 1 (.int .i64 m.2)) 0 (.string m.1)) 1 (.int .i64 m.2)
               have HZ := Lib.hid hz; clear hz
               have HX2 := Lib.hid (blk_set_other (blk_set_other hx1 ⟨rb, 0, none⟩ (fun e => by have := blk_type hb1 (e ▸ hx1); cases this) (.string m.1)) ⟨rb, 1, none⟩ (fun e => by have := blk_type hb1 (e ▸ hx1); cases this) (.int .i64 m.2))
               have HF1 := Lib.hid hf1; clear hf1 hx1 hb1 hlp1)
            | (go_at_call 25; refine (leaf_any b _ _ _ _ _ HX2.out).mono ?_; rintro e w' ⟨rfl, rfl⟩))
          have z0 := blk_cell HZ.out 0
          have z1 := blk_cell HZ.out 1
          simp only [List.set_cons_zero, List.set_cons_succ, List.getElem?_cons_succ, List.getElem?_cons_zero] at z0 z1
          refine bodyPost_ret (v := .tuple #[.agg #[.string m.1, .int .i64 m.2], .bool true]) (by simp [results, Try.results17, go_sem, z0, z1]) rfl ?_
          have ho := HO.out
          rw [List.getLast?_concat, Option.some_or] at ho
          exact ⟨by rw [ho]; rfl, fr_new ((((((HF.out.trans' (HF1.out.mono fun _ _ h => h.elim)).setCell (p := ⟨rb, 0, none⟩) (fun _ => rfl) _).setCell (p := ⟨rb, 1, none⟩) (fun _ => rfl) _).setCell (p := ⟨rb, 0, none⟩) (fun _ => rfl) _).setCell (p := ⟨rb, 1, none⟩) (fun _ => rfl) _)) HRB.out⟩
      | succ k =>
        obtain ⟨A, c, B, rfl, hA, hB, hkc, -⟩ := kid_cut hk
        have hlk := bck_kid hA hB hr g1 g3
        rw [hlk] at HO
        have hr2 := rising_kid hr hA hB
        have hoff2 : cnt c rb = 0 := by rw [cnt_node, cnts_append, cnts_cons] at hoff; omega
        have hik : i < kn := by rw [HI.out, hkn1]; simp; omega
        have hik2 : (i : Int) < (kn : Int) := by omega
        have hAi : i = A.length := HI.out.trans hA
        have hkn0 : decide (kn = 0) = false := by simp; omega
        have HX := Lib.hid hx
        have HL := Lib.hid hl
        have HB := Lib.hid hb
        have HLP := Lib.hid hlp
        have HR := Lib.hid hr2
        have HOFF := Lib.hid hoff2
        have HOFFT := Lib.hid hoff
        have HAI := Lib.hid hAi
        have HKC := Lib.hid hkc
        clear hkn1 hlk g3 g1 hl hx hk hr hoff hb hlp hkn hch hr2 hoff2 hA hB hAi hkc
        by_cases hL0 : L = []
        · subst hL0
          have w1 : ¬ (0 : Int) < (i : Int) := by have := HI.out; simp at this; omega
          clear hlni
          go_wp2_with (first
            | (go_at_call 24; refine HIN.out.mono ?_; rintro e w1 ⟨rfl, hf1⟩
               have hl1 := lies_fr hf1 _ HL.out (fun _ _ h => h)
               have hx1 := (lies_node.1 hl1).1
               have hb1 := blk_fr HB.out hf1 (fun h => h)
               obtain ⟨_, _, _, e, -, q1, q2⟩ := kid_cell hl1
               cases e
               rw [← HAI.out] at q2
               have q0 := blk_cell hx1 0
               simp only [List.getElem?_cons_zero] at q0
               have HX1 := Lib.hid hx1; have HB1 := Lib.hid hb1; have HL1 := Lib.hid hl1
               have HF1 := Lib.hid hf1; clear hf1 hx1 hb1 hl1)
            | (go_at_call 25; refine (leaf_any b _ _ _ _ _ HX1.out).mono ?_; rintro e w' ⟨rfl, rfl⟩))
          go_roundg k
          case measure => omega
          case rel =>
            have hkid := (liesAll_cons.1 (liesAll_append.1 (lies_node.1 HL1.out).2.2.2).2).1
            have ho := HO.out
            rw [List.getLast?_nil, Option.or_none] at ho
            have ho2 := HR.out
            have ho3 := HOFF.out
            have hok := HKC.out
            obtain ⟨b1, lv1, kv1, l1, k1⟩ := c
            exact ⟨b1, lv1, kv1, l1, k1, best, pk, pn, rfl, rfl, hkid, hok, ho2, ho3, HB1.out, HBEST.out, ho, HF.out.trans' (HF1.out.mono fun _ _ h => h.elim)⟩
        · obtain ⟨L0, m, hLm⟩ := snoc_of L (by cases L with | nil => exact absurd rfl hL0 | cons _ _ => simp)
          subst hLm
          clear hL0
          obtain ⟨i0, hi0⟩ : ∃ i0, i0 = L0.length := ⟨_, rfl⟩
          have hii : i = i0 + 1 := by rw [HI.out, hi0]; simp
          have w1 : (0 : Int) < (i : Int) := by omega
          have w2 : IntKind.i64.wrap ((i : Int) - 1) = (i0 : Int) := by rw [IntWalk.i64_in _ (by omega)]; omega
          have w3 : (i0 : Int) < (ln : Int) := by omega
          have HI0 := Lib.hid hi0
          clear hlni hii hi0
          go_wp2_with (first
            | (go_at_call 24; refine HIN.out.mono ?_; rintro e w1 ⟨rfl, hf1⟩
               have hx1 := blk_fr HX.out hf1 (fun h => h)
               have hb1 := blk_fr HB.out hf1 (fun h => h)
               have hlp1 := owns_fr HLP.out hf1 (fun _ _ h => h)
               have hl1 := lies_fr hf1 _ HL.out (fun _ _ h => h)
               have hf2 : Fr (fun a => a = rb) w1 ((w1.setCell ⟨rb, 0, none⟩ (.string m.1)).setCell ⟨rb, 1, none⟩ (.int .i64 m.2)) := ((Fr.refl (fun a => a = rb) w1).setCell (p := ⟨rb, 0, none⟩) (fun _ => rfl) _).setCell (p := ⟨rb, 1, none⟩) (fun _ => rfl) _
               have hl2 := lies_fr hf2 _ hl1 (fun a ha e => by have := HOFFT.out; rw [e, this] at ha; omega)
               obtain ⟨_, rfl, -, p0, p1⟩ := pairs_at hlp1 i0 (by rw [HI0.out]; simp)
               simp only [List.append_assoc, List.singleton_append] at p0 p1
               rw [List.getElem_append_right (by rw [HI0.out]; exact Nat.le_refl _)] at p0 p1
               simp only [HI0.out, Nat.sub_self, List.getElem_cons_zero] at p0 p1
               simp only [← HI0.out] at p0 p1
               obtain ⟨g5, _, _, e, -, q1, q2⟩ := kid_cell hl1
               cases e
               have n5 : ¬ g5 = rb := fun e => by have := HOFFT.out; rw [cnt_node, own_some g5, e, one_self] at this; omega
               rw [← HAI.out] at q2
               have q0 := blk_cell hx1 0
               have r0 := blk_cell hb1 0
               have r1 := blk_cell hb1 1
               have r2 := blk_free hb1 0
               have r3 := blk_free hb1 1
               have r4 := blk_lt hb1
               have n1 : ¬ b = rb := fun e => by have := blk_type hb1 (e ▸ hx1); cases this
               have n2 : ¬ rb = b := fun e => n1 e.symm
               have n3 := owns_lt (lies_node.1 hl1).2.2.1 rfl
               simp only [List.getElem?_cons_succ, List.getElem?_cons_zero] at q0 r0 r1
               have HL2 := Lib.hid hl2
               have HX2 := Lib.hid (lies_node.1 hl2).1
               have HB2 := Lib.hid (blk_set (blk_set hb1 0 (.string m.1)) 1 (.int .i64 m.2))
               have HF2 := Lib.hid hf2
               have HF1 := Lib.hid hf1; clear hf1 hx1 hb1 hlp1 hl1 hl2 hf2)
            | (go_at_call 25; refine (leaf_any b _ _ _ _ _ HX2.out).mono ?_; rintro e w' ⟨rfl, rfl⟩))
          go_roundg k
          case measure => omega
          case rel =>
            have hkid := (liesAll_cons.1 (liesAll_append.1 (lies_node.1 HL2.out).2.2.2).2).1
            have ho := HO.out
            rw [List.getLast?_concat, Option.or_assoc, Option.some_or] at ho
            have ho2 := HR.out
            have ho3 := HOFF.out
            have hok := HKC.out
            obtain ⟨b1, lv1, kv1, l1, k1⟩ := c
            exact ⟨b1, lv1, kv1, l1, k1, some m, m.1, m.2, rfl, rfl, hkid, hok, ho2, ho3, HB2.out, rfl, ho, (HF.out.trans' (HF1.out.mono fun _ _ h => h.elim)).trans' HF2.out⟩
    · simp only [MT.l] at hlr
      subst hlr
      have hin := in_there b (.slice lo ln lc) (.slice ko kn kc) L R key n wr hx hlp (rising_l hr) h7 g1 g2
      have g3 : ∀ p ∈ (key, n) :: R, ¬ klt p.1 key := fun p hp => by
        rcases List.mem_cons.1 hp with rfl | hp
        · exact klt_irrefl _
        · exact klt_asymm (g2 p hp)
      obtain ⟨i, hi⟩ : ∃ i, i = L.length := ⟨_, rfl⟩
      rw [← hi] at hin
      clear g2
      obtain ⟨R2, hR2⟩ : ∃ R2, R2 = (key, n) :: R := ⟨_, rfl⟩
      rw [← hR2] at hl hlp hk hr hoff HO hln h7 g3
      clear hR2
      have hlni : ln = i + R2.length := by rw [hln, hi]; simp
      have hi7 : i ≤ 7 := by have := h7; simp at this; omega
      have HIN := Lib.hid hin
      have HI := Lib.hid hi
      clear hin hi hln
      cases gk with
      | zero =>
        obtain ⟨-, rfl⟩ := ok_zero.1 hk
        have hlk := bck_leaf g1 g3
        rw [flat_leaf, hlk] at HO
        have hkn0 : kn = 0 := hkn1
        subst hkn0
        have HX := Lib.hid hx
        have HB := Lib.hid hb
        have HLP := Lib.hid hlp
        clear hkn1 hlk g3 g1 hl hx hk hr hoff hb hlp hkn hch
        by_cases hL0 : L = []
        · subst hL0
          have w1 : ¬ (0 : Int) < (i : Int) := by have := HI.out; simp at this; omega
          clear hlni
          go_wp2_with (first
            | (go_at_call 24; refine HIN.out.mono ?_; rintro e w1 ⟨rfl, hf1⟩
               have hx1 := blk_fr HX.out hf1 (fun h => h)
               have hb1 := blk_fr HB.out hf1 (fun h => h)
               have q0 := blk_cell hx1 0
               have r0 := blk_cell hb1 0
               have r1 := blk_cell hb1 1
               have r2 := blk_free hb1 0
               have r3 := blk_free hb1 1
               have r4 := blk_lt hb1
               simp only [List.getElem?_cons_succ, List.getElem?_cons_zero] at q0 r0 r1
               have HX1 := Lib.hid hx1; have HB1 := Lib.hid hb1
               have HF1 := Lib.hid hf1; clear hf1 hx1 hb1)
            | (go_at_call 25; refine (leaf_any b _ _ _ _ _ HX1.out).mono ?_; rintro e w' ⟨rfl, rfl⟩))
          refine bodyPost_ret (v := .tuple #[.agg #[.string pk, .int .i64 pn], .bool best.isSome]) (by simp [results, Try.results17, go_sem, r0, r1]) rfl ?_
          have ho := HO.out
          rw [List.getLast?_nil, Option.none_or] at ho
          exact ⟨by rw [ho, HBEST.out], fr_new ((((HF.out.trans' (HF1.out.mono fun _ _ h => h.elim)).setCell (p := ⟨rb, 0, none⟩) (fun _ => rfl) _).setCell (p := ⟨rb, 1, none⟩) (fun _ => rfl) _)) HRB.out⟩
        · obtain ⟨L0, m, hLm⟩ := snoc_of L (by cases L with | nil => exact absurd rfl hL0 | cons _ _ => simp)
          subst hLm
          clear hL0
          obtain ⟨i0, hi0⟩ : ∃ i0, i0 = L0.length := ⟨_, rfl⟩
          have hii : i = i0 + 1 := by rw [HI.out, hi0]; simp
          have w1 : (0 : Int) < (i : Int) := by omega
          have w2 : IntKind.i64.wrap ((i : Int) - 1) = (i0 : Int) := by rw [IntWalk.i64_in _ (by omega)]; omega
          have w3 : (i0 : Int) < (ln : Int) := by omega
          have HI0 := Lib.hid hi0
          clear hlni hii hi0
          go_wp2_with (first
            | (go_at_call 24; refine HIN.out.mono ?_; rintro e w1 ⟨rfl, hf1⟩
               have hx1 := blk_fr HX.out hf1 (fun h => h)
               have hb1 := blk_fr HB.out hf1 (fun h => h)
               have hlp1 := owns_fr HLP.out hf1 (fun _ _ h => h)
               obtain ⟨_, rfl, -, p0, p1⟩ := pairs_at hlp1 i0 (by rw [HI0.out]; simp)
               simp only [List.append_assoc, List.singleton_append] at p0 p1
               rw [List.getElem_append_right (by rw [HI0.out]; exact Nat.le_refl _)] at p0 p1
               simp only [HI0.out, Nat.sub_self, List.getElem_cons_zero] at p0 p1
               simp only [← HI0.out] at p0 p1
               have q0 := blk_cell hx1 0
               have r0 := blk_cell hb1 0
               have r1 := blk_cell hb1 1
               have r2 := blk_free hb1 0
               have r3 := blk_free hb1 1
               have r4 := blk_lt hb1
               simp only [List.getElem?_cons_succ, List.getElem?_cons_zero] at q0 r0 r1
               have hz := blk_set (blk_set (blk_set (blk_set hb1 0 (.string m.1)) 1 (.int .i64 m.2)) 0 (.string m.1)) 1 (.int .i64 m.2)
               have HZ := Lib.hid hz; clear hz
               have HX2 := Lib.hid (blk_set_other (blk_set_other hx1 ⟨rb, 0, none⟩ (fun e => by have := blk_type hb1 (e ▸ hx1); cases this) (.string m.1)) ⟨rb, 1, none⟩ (fun e => by have := blk_type hb1 (e ▸ hx1); cases this) (.int .i64 m.2))
               have HF1 := Lib.hid hf1; clear hf1 hx1 hb1 hlp1)
            | (go_at_call 25; refine (leaf_any b _ _ _ _ _ HX2.out).mono ?_; rintro e w' ⟨rfl, rfl⟩))
          have z0 := blk_cell HZ.out 0
          have z1 := blk_cell HZ.out 1
          simp only [List.set_cons_zero, List.set_cons_succ, List.getElem?_cons_succ, List.getElem?_cons_zero] at z0 z1
          refine bodyPost_ret (v := .tuple #[.agg #[.string m.1, .int .i64 m.2], .bool true]) (by simp [results, Try.results17, go_sem, z0, z1]) rfl ?_
          have ho := HO.out
          rw [List.getLast?_concat, Option.some_or] at ho
          exact ⟨by rw [ho]; rfl, fr_new ((((((HF.out.trans' (HF1.out.mono fun _ _ h => h.elim)).setCell (p := ⟨rb, 0, none⟩) (fun _ => rfl) _).setCell (p := ⟨rb, 1, none⟩) (fun _ => rfl) _).setCell (p := ⟨rb, 0, none⟩) (fun _ => rfl) _).setCell (p := ⟨rb, 1, none⟩) (fun _ => rfl) _)) HRB.out⟩
      | succ k =>
        obtain ⟨A, c, B, rfl, hA, hB, hkc, -⟩ := kid_cut hk
        have hlk := bck_kid hA hB hr g1 g3
        rw [hlk] at HO
        have hr2 := rising_kid hr hA hB
        have hoff2 : cnt c rb = 0 := by rw [cnt_node, cnts_append, cnts_cons] at hoff; omega
        have hik : i < kn := by rw [HI.out, hkn1]; simp; omega
        have hik2 : (i : Int) < (kn : Int) := by omega
        have hAi : i = A.length := HI.out.trans hA
        have hkn0 : decide (kn = 0) = false := by simp; omega
        have HX := Lib.hid hx
        have HL := Lib.hid hl
        have HB := Lib.hid hb
        have HLP := Lib.hid hlp
        have HR := Lib.hid hr2
        have HOFF := Lib.hid hoff2
        have HOFFT := Lib.hid hoff
        have HAI := Lib.hid hAi
        have HKC := Lib.hid hkc
        clear hkn1 hlk g3 g1 hl hx hk hr hoff hb hlp hkn hch hr2 hoff2 hA hB hAi hkc
        by_cases hL0 : L = []
        · subst hL0
          have w1 : ¬ (0 : Int) < (i : Int) := by have := HI.out; simp at this; omega
          clear hlni
          go_wp2_with (first
            | (go_at_call 24; refine HIN.out.mono ?_; rintro e w1 ⟨rfl, hf1⟩
               have hl1 := lies_fr hf1 _ HL.out (fun _ _ h => h)
               have hx1 := (lies_node.1 hl1).1
               have hb1 := blk_fr HB.out hf1 (fun h => h)
               obtain ⟨_, _, _, e, -, q1, q2⟩ := kid_cell hl1
               cases e
               rw [← HAI.out] at q2
               have q0 := blk_cell hx1 0
               simp only [List.getElem?_cons_zero] at q0
               have HX1 := Lib.hid hx1; have HB1 := Lib.hid hb1; have HL1 := Lib.hid hl1
               have HF1 := Lib.hid hf1; clear hf1 hx1 hb1 hl1)
            | (go_at_call 25; refine (leaf_any b _ _ _ _ _ HX1.out).mono ?_; rintro e w' ⟨rfl, rfl⟩))
          go_roundg k
          case measure => omega
          case rel =>
            have hkid := (liesAll_cons.1 (liesAll_append.1 (lies_node.1 HL1.out).2.2.2).2).1
            have ho := HO.out
            rw [List.getLast?_nil, Option.or_none] at ho
            have ho2 := HR.out
            have ho3 := HOFF.out
            have hok := HKC.out
            obtain ⟨b1, lv1, kv1, l1, k1⟩ := c
            exact ⟨b1, lv1, kv1, l1, k1, best, pk, pn, rfl, rfl, hkid, hok, ho2, ho3, HB1.out, HBEST.out, ho, HF.out.trans' (HF1.out.mono fun _ _ h => h.elim)⟩
        · obtain ⟨L0, m, hLm⟩ := snoc_of L (by cases L with | nil => exact absurd rfl hL0 | cons _ _ => simp)
          subst hLm
          clear hL0
          obtain ⟨i0, hi0⟩ : ∃ i0, i0 = L0.length := ⟨_, rfl⟩
          have hii : i = i0 + 1 := by rw [HI.out, hi0]; simp
          have w1 : (0 : Int) < (i : Int) := by omega
          have w2 : IntKind.i64.wrap ((i : Int) - 1) = (i0 : Int) := by rw [IntWalk.i64_in _ (by omega)]; omega
          have w3 : (i0 : Int) < (ln : Int) := by omega
          have HI0 := Lib.hid hi0
          clear hlni hii hi0
          go_wp2_with (first
            | (go_at_call 24; refine HIN.out.mono ?_; rintro e w1 ⟨rfl, hf1⟩
               have hx1 := blk_fr HX.out hf1 (fun h => h)
               have hb1 := blk_fr HB.out hf1 (fun h => h)
               have hlp1 := owns_fr HLP.out hf1 (fun _ _ h => h)
               have hl1 := lies_fr hf1 _ HL.out (fun _ _ h => h)
               have hf2 : Fr (fun a => a = rb) w1 ((w1.setCell ⟨rb, 0, none⟩ (.string m.1)).setCell ⟨rb, 1, none⟩ (.int .i64 m.2)) := ((Fr.refl (fun a => a = rb) w1).setCell (p := ⟨rb, 0, none⟩) (fun _ => rfl) _).setCell (p := ⟨rb, 1, none⟩) (fun _ => rfl) _
               have hl2 := lies_fr hf2 _ hl1 (fun a ha e => by have := HOFFT.out; rw [e, this] at ha; omega)
               obtain ⟨_, rfl, -, p0, p1⟩ := pairs_at hlp1 i0 (by rw [HI0.out]; simp)
               simp only [List.append_assoc, List.singleton_append] at p0 p1
               rw [List.getElem_append_right (by rw [HI0.out]; exact Nat.le_refl _)] at p0 p1
               simp only [HI0.out, Nat.sub_self, List.getElem_cons_zero] at p0 p1
               simp only [← HI0.out] at p0 p1
               obtain ⟨g5, _, _, e, -, q1, q2⟩ := kid_cell hl1
               cases e
               have n5 : ¬ g5 = rb := fun e => by have := HOFFT.out; rw [cnt_node, own_some g5, e, one_self] at this; omega
               rw [← HAI.out] at q2
               have q0 := blk_cell hx1 0
               have r0 := blk_cell hb1 0
               have r1 := blk_cell hb1 1
               have r2 := blk_free hb1 0
               have r3 := blk_free hb1 1
               have r4 := blk_lt hb1
               have n1 : ¬ b = rb := fun e => by have := blk_type hb1 (e ▸ hx1); cases this
               have n2 : ¬ rb = b := fun e => n1 e.symm
               have n3 := owns_lt (lies_node.1 hl1).2.2.1 rfl
               simp only [List.getElem?_cons_succ, List.getElem?_cons_zero] at q0 r0 r1
               have HL2 := Lib.hid hl2
               have HX2 := Lib.hid (lies_node.1 hl2).1
               have HB2 := Lib.hid (blk_set (blk_set hb1 0 (.string m.1)) 1 (.int .i64 m.2))
               have HF2 := Lib.hid hf2
               have HF1 := Lib.hid hf1; clear hf1 hx1 hb1 hlp1 hl1 hl2 hf2)
            | (go_at_call 25; refine (leaf_any b _ _ _ _ _ HX2.out).mono ?_; rintro e w' ⟨rfl, rfl⟩))
          go_roundg k
          case measure => omega
          case rel =>
            have hkid := (liesAll_cons.1 (liesAll_append.1 (lies_node.1 HL2.out).2.2.2).2).1
            have ho := HO.out
            rw [List.getLast?_concat, Option.or_assoc, Option.some_or] at ho
            have ho2 := HR.out
            have ho3 := HOFF.out
            have hok := HKC.out
            obtain ⟨b1, lv1, kv1, l1, k1⟩ := c
            exact ⟨b1, lv1, kv1, l1, k1, some m, m.1, m.2, rfl, rfl, hkid, hok, ho2, ho3, HB2.out, rfl, ho, (HF.out.trans' (HF1.out.mono fun _ _ h => h.elim)).trans' HF2.out⟩
end Go.Proofs.Ytaopiolbjnnnfaa
