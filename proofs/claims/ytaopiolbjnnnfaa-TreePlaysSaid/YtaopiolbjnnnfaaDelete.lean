/-
  Delete.
-/
import Derived.Test.YtaopiolbjnnnfaaDelQ
import Derived.Deep.LoopGhost
import Derived.Deep.DeepCutAuto
import Derived.Deep.CutBlock
namespace Go.Proofs.Ytaopiolbjnnnfaa
open Go.RowKit

def DelPost (tb : Nat) (t : MT) (key : ByteArray) (s : List KV) (w : World) (e : Ending) (w' : World) : Prop :=
  e = .returned (.tuple #[.int .i64 ((look key s).getD 0), .bool (look key s).isSome]) ∧ After tb t w w' (del key s)

def DelWand (key : ByteArray) (d : Nat) (t : MT) (wr : World) (G : World → Prop) : Prop :=
  ∀ w' t', Turns wr w' t t' → Ok d t' → flat t' = del key (flat t) → t.l.length ≤ t'.l.length + 1 → G w'

def DelRel (key : ByteArray) (tb : Nat) (tc : List Value) (G : World → Prop) (k : Nat) (p : Value) (wr : World) : Prop :=
  ∃ b lv kv l kids, p = .pointer (some ⟨b, 0, none⟩) ∧ (1 ≤ k → 1 ≤ l.length) ∧
    Lies wr (.node b lv kv l kids) ∧ Uniq (.node b lv kv l kids) ∧ Ok k (.node b lv kv l kids) ∧ Rising (flat (.node b lv kv l kids)) ∧ look key (flat (.node b lv kv l kids)) ≠ none ∧ World.blk wr tb tc 53 ∧ cnt (.node b lv kv l kids) tb = 0 ∧
    DelWand key k (.node b lv kv l kids) wr G

set_option maxHeartbeats 4000000 in
set_option maxRecDepth 100000 in
theorem delete_walk (tb h : Nat) (t : MT) (s : List KV) (key : ByteArray) (w : World) (hh : HeldAt w tb h t s) (hs : s.length ≤ 4611686018427387904) :
    Calls Try.prog 15 #[.pointer (some ⟨tb, 0, none⟩), .string key] w (DelPost tb t key s w) := by
  have hget := get_walk tb h t s key w hh
  have HGET := Lib.hid hget
  have HH := Lib.hid hh
  rcases hlk : look key s with _ | m0
  · have HLK := Lib.hid hlk
    clear hget hh hlk
    go_enter Try.func15, Try.ntmps15
    go_wp2_with (go_at_call 20; refine HGET.out.mono ?_; rintro e w1 ⟨he, hf1⟩; rw [HLK.out] at he; subst he; have HF1 := Lib.hid hf1; clear hf1)
    go_ret2
    have hh1 := HH.out.fr HF1.out (fun _ _ h => h)
    refine ⟨by rw [HLK.out]; rfl, h, t, ?_, HF1.out.mono (fun _ _ h => h.elim), fun _ _ => Nat.le_refl _⟩
    rw [(del_len HH.out.rising).1 HLK.out]
    exact hh1
  · have HLK := Lib.hid hlk
    have hdl := (del_len HH.out.rising).2 (by rw [hlk]; simp)
    have ws : IntKind.i64.wrap ((s.length : Int) - 1) = ((del key s).length : Int) := by rw [IntWalk.i64_in _ (by omega)]; omega
    clear hget hh hlk hdl
    go_enter Try.func15, Try.ntmps15
    go_upto_block 0 with (go_at_call 20; refine HGET.out.mono ?_; rintro e w1 ⟨he, hf1⟩; rw [HLK.out] at he; subst he; have hh1 := HH.out.fr hf1 (fun _ _ h => h); have q0 := blk_cell hh1.blk 0; have q1 := blk_cell hh1.blk 1; have q2 := blk_free hh1.blk 1; simp only [List.getElem?_cons_succ, List.getElem?_cons_zero] at q0 q1; have HH1 := Lib.hid hh1; have HF1 := Lib.hid hf1; clear hf1 hh1)
    obtain ⟨rt, hrt⟩ : ∃ rt, rt = t.b := ⟨_, rfl⟩
    rw [← hrt]
    rw [← hrt] at q0
    have HRT := Lib.hid hrt
    clear hrt
    go_cut [] (fun wd => ∃ h1 t1, Cut tb h1 t1 rt ((del key s).length : Nat) (del key s) (fun a => a = tb ∨ 0 < cnt t a) (cnt t) w wd)
    case first =>
      have htt : Hid (tb < w1.heap.size) := Lib.hid (blk_lt HH1.out.blk)
      clear q0 q1 q2
      go_wp2_with fail
      go_loopg [8] h (fun k p wr => DelRel key tb [.pointer (some ⟨rt, 0, none⟩), .int .i64 ((del key s).length : Nat)] (fun wd => ∃ h1 t1, Cut tb h1 t1 rt ((del key s).length : Nat) (del key s) (fun a => a = tb ∨ 0 < cnt t a) (cnt t) w wd) k p wr)
      case atStart =>
        have hh1 := HH1.out
        obtain rfl := HRT.out
        have htl := hh1.tells
        have hrs := hh1.rising
        rw [← htl] at hrs
        have hf2 : Fr (fun a => a = tb) w1 (w1.setCell ⟨tb, 1, none⟩ (.int .i64 ((del key s).length : Nat))) := (Fr.refl (fun a => a = tb) w1).setCell (p := ⟨tb, 1, none⟩) (fun _ => rfl) _
        have hlies := lies_fr hf2 t hh1.lies (fun a ha e => by subst e; have := hh1.off; omega)
        have hblk := blk_congr (c' := [.pointer (some ⟨t.b, 0, none⟩), .int .i64 ((del key s).length : Nat)]) (blk_set hh1.blk 1 (.int .i64 ((del key s).length : Nat))) rfl
        have hoff := hh1.off
        have hlk : look key (flat t) ≠ none := by rw [htl, HLK.out]; simp
        have hw : DelWand key h t (w1.setCell ⟨tb, 1, none⟩ (.int .i64 ((del key s).length : Nat))) (fun wd => ∃ h1 t1, Cut tb h1 t1 t.b ((del key s).length : Nat) (del key s) (fun a => a = tb ∨ 0 < cnt t a) (cnt t) w wd) := by
          intro w' t' g1 g2 g3 g4
          refine ⟨h, t', g1.blk hoff hblk, g1.root, g1.lies, g1.uniq, g1.off (blk_lt hblk) hoff, g2, by rw [g3, htl], ?_, ?_⟩
          · exact ((HF1.out.mono fun _ _ h => h.elim).trans' (hf2.mono fun a _ e => .inl e)).trans g1.fr fun a ha h => .inr h
          · exact fun a ha => g1.few a (Nat.lt_of_lt_of_le ha (Nat.le_trans HF1.out.size hf2.size))
        have hlow := hh1.low
        obtain ⟨b1, lv1, kv1, l1, k1⟩ := t
        exact ⟨b1, lv1, kv1, l1, k1, rfl, hlow, hlies, hh1.uniq, hh1.ok, hrs, hlk, hblk, hoff, hw⟩
      case round =>
        clear HH1 HF1 htt
        obtain ⟨post, hpost⟩ : ∃ post : World → Prop, post = (fun wd => ∃ h1 t1, Cut tb h1 t1 rt ((del key s).length : Nat) (del key s) (fun a => a = tb ∨ 0 < cnt t a) (cnt t) w wd) := ⟨_, rfl⟩
        rw [← hpost] at hrel
        have HPOST := Lib.hid hpost
        clear hpost
        obtain ⟨b0, lv0, kv0, l0, kids0, rfl, hlow, hl, hu, hk, hr, ho, hb, hoff, hw⟩ := hrel
        obtain ⟨hx, hlp, hkn, hch⟩ := lies_node.1 hl
        have h7 : l0.length ≤ 7 := hk.len
        obtain ⟨lo0, lc0, rfl, -⟩ := pairs_slice hlp
        obtain ⟨ko0, kc0, rfl, -⟩ := nodes_slice hkn
        obtain ⟨ln, hln⟩ : ∃ ln, ln = l0.length := ⟨_, rfl⟩
        obtain ⟨kn, hkn1⟩ : ∃ kn, kn = kids0.length := ⟨_, rfl⟩
        rw [← hln, ← hkn1] at hx hl hu hk hr hoff ho hw
        rw [← hln] at hlp
        rw [← hkn1] at hkn
        rcases key_cut key (rising_l hr) with ⟨L, R, hlr, g1, g2⟩ | ⟨L, m1, R, hlr, g1, g2⟩
        · simp only [MT.l] at hlr
          subst hlr
          cases gk with
          | zero =>
            obtain ⟨-, rfl⟩ := ok_zero.1 hk
            rw [flat_leaf] at ho
            exact absurd (look_none fun p hp => by
              rcases List.mem_append.1 hp with hp | hp
              · exact klt_ne (g1 p hp)
              · exact (klt_ne (g2 p hp)).symm) ho
          | succ k =>
            have hin := in_absent b0 (.slice lo0 ln lc0) (.slice ko0 kn kc0) L R key wr hx hlp (rising_l hr) h7 g1 g2
            obtain ⟨i, hi⟩ : ∃ i, i = L.length := ⟨_, rfl⟩
            rw [← hi] at hin
            obtain ⟨A, c, B, rfl, hA, hB, hkc, hc3⟩ := kid_cut hk
            have hbl := below_of hr hA hB g1 g2
            have hAi : A.length = i := by omega
            have hfill : ∀ w1, Lies w1 (.node b0 (.slice lo0 ln lc0) (.slice ko0 kn kc0) (L ++ R) (A ++ c :: B)) → Calls Try.prog 40 #[.pointer (some ⟨b0, 0, none⟩), .int .i64 i] w1 (FillPost k b0 (.slice lo0 ln lc0) (.slice ko0 kn kc0) L R A B c w1) := fun w1 hl1 =>
              fill_walk k b0 i (.slice lo0 ln lc0) (.slice ko0 kn kc0) L R A B c w1 hl1 hu hk hA hAi (by have := hlow (by omega); simp at this; omega)
            have HFILL := Lib.hid hfill
            have HIN := Lib.hid hin
            have HL := Lib.hid hl
            have HU := Lib.hid hu
            have HW := Lib.hid hw
            have HB := Lib.hid hb
            have HOFF := Lib.hid hoff
            have HR := Lib.hid hr
            have HBL := Lib.hid hbl
            have HO := Lib.hid ho
            have HLR := Lib.hid (And.intro hA hB)
            clear hin hx hl hu hw hb hoff hlp hkn hch hr ho hk g1 g2 hln hkn1 hi hbl hA hB hAi hkc hfill hc3 hlow h7
            go_upto_region 8 with (first
              | (go_at_call 24; refine HIN.out.mono ?_; rintro e w1 ⟨rfl, hf1⟩
                 have hl1 := lies_fr hf1 _ HL.out (fun _ _ h => h)
                 have HFILL1 := Lib.hid (HFILL.out _ hl1)
                 have HF1 := Lib.hid hf1; clear hf1 hl1)
              | (go_at_call 40; refine HFILL1.out.mono ?_; rintro e w2 ⟨lv', kv', L', R', A', c', B', u, v, he, ht, hok, h4, hL', hR', hlen, f1, f2, f3⟩
                 obtain ⟨j, hj⟩ : ∃ j, j = A'.length := ⟨_, rfl⟩
                 rw [← hj] at he
                 subst he
                 have HJ := Lib.hid hj
                 clear hj
                 have ht2 := Turns.ahead HF1.out ht
                 obtain ⟨i1, i2, i3, i4⟩ := fill_inside (key := key) (b := b0) (lv := .slice lo0 ln lc0) (kv := .slice ko0 kn kc0) (lv' := lv') (kv' := kv') HLR.out.1 HLR.out.2 hL' hR' HBL.out f1 f2 f3
                 have HT := Lib.hid ht2; have HOK := Lib.hid hok; have HIN2 := Lib.hid (And.intro i1 (And.intro i2 (And.intro i3 (And.intro i4 (And.intro hL' hR')))))
                 clear ht ht2 hok f1 f2 f3 hL' hR' i1 i2 i3 i4))
            go_cut [74] (fun v wd => v = .bool false ∧ wd = w2)
            case first =>
              obtain ⟨i1, i2, i3, i4, hL', hR'⟩ := HIN2.out
              have hk2 := HOK.out.len
              obtain ⟨hx2, hlp2, -, -⟩ := lies_node.1 HT.out.lies
              obtain ⟨lo2, lc2, rfl, -⟩ := pairs_slice hlp2
              have q0 := blk_cell hx2 0
              simp only [List.getElem?_cons_zero] at q0
              have hj := HJ.out
              have hj7 : j ≤ 7 := by simp [MT.l] at hk2; omega
              obtain ⟨ln2, hln2⟩ : ∃ ln2, ln2 = (L' ++ R').length := ⟨_, rfl⟩
              rw [← hln2] at q0
              have hlow2 : j = 0 ∨ ∃ (g j0 : Nat) (mk : ByteArray), lo2 = some ⟨g, 0, none⟩ ∧ 0 < (j : Int) ∧ IntKind.i64.wrap ((j : Int) - 1) = (j0 : Int) ∧ (j0 : Int) < (ln2 : Int) ∧ w2.cell? ⟨g, j0 * 2, none⟩ = some (.string mk) ∧ (mk.toList == key.toList) = false := by
                by_cases h0 : j = 0
                · exact .inl h0
                · obtain ⟨L0, m, rfl⟩ := snoc_of L' (by omega)
                  obtain ⟨g, e, -, p0, -⟩ := pairs_at hlp2 L0.length (by simp)
                  simp only [List.append_assoc, List.singleton_append] at p0
                  rw [List.getElem_append_right (Nat.le_refl _)] at p0
                  simp only [Nat.sub_self, List.getElem_cons_zero] at p0
                  simp only [List.length_append, List.length_singleton] at hL' hln2
                  exact .inr ⟨g, L0.length, m.1, e, by omega, by rw [IntWalk.i64_in _ (by omega)]; omega, by omega, p0, by rw [beq_keys, decide_eq_false_iff_not]; exact i3 m (by simp)⟩
              have hhigh : ¬ (j : Int) < (ln2 : Int) ∨ ∃ (g : Nat) (mk : ByteArray), lo2 = some ⟨g, 0, none⟩ ∧ (j : Int) < (ln2 : Int) ∧ w2.cell? ⟨g, j * 2, none⟩ = some (.string mk) ∧ (mk.toList == key.toList) = false := by
                cases R' with
                | nil => refine .inl ?_; simp at hln2; omega
                | cons m R0 =>
                  obtain ⟨g, e, -, p0, -⟩ := pairs_at hlp2 L'.length (by simp)
                  rw [List.getElem_append_right (Nat.le_refl _)] at p0
                  simp only [Nat.sub_self, List.getElem_cons_zero] at p0
                  rw [show L'.length = j by omega] at p0
                  refine .inr ⟨g, m.1, e, ?_, p0, by rw [beq_keys, decide_eq_false_iff_not]; exact i4 m (by simp)⟩
                  simp at hln2; omega
              clear hx2 hlp2 hk2 hj hln2 i1 i2 i3 i4 hL' hR'
              rcases hlow2 with h0 | ⟨g, j0, mk, rfl, a1, a2, a3, a4, a5⟩
              · have h0' : ¬ (0 : Int) < (j : Int) := by omega
                clear h0
                rcases hhigh with b1 | ⟨g, mk', rfl, b1, b2, b3⟩
                · go_wp2_with fail
                  go_meet
                  exact ⟨rfl, rfl⟩
                · go_wp2_with fail
                  go_meet
                  exact ⟨rfl, rfl⟩
              · rcases hhigh with b1 | ⟨g', mk', e, b1, b2, b3⟩
                · go_wp2_with fail
                  go_meet
                  exact ⟨rfl, rfl⟩
                · cases e
                  go_wp2_with fail
                  go_meet
                  exact ⟨rfl, rfl⟩
            case rest =>
              obtain ⟨rfl, rfl⟩ := hcut
              obtain ⟨g, n, cc, e, -, q1, q2⟩ := kid_cell HT.out.lies
              subst e
              rw [← HJ.out] at q2
              have q3 : (j : Int) < (n : Int) := by
                obtain ⟨_, _, _, e, hlt, -, -⟩ := kid_cell HT.out.lies
                cases e
                have := HJ.out
                omega
              clear HIN HFILL HFILL1
              go_wp2_with fail
              go_roundg k
              case measure => omega
              case rel =>
                obtain ⟨i1, i2, i3, i4, hL', hR'⟩ := HIN2.out
                obtain ⟨z1, z2, z3⟩ := child_of HT.out.lies HT.out.uniq
                have hcc := (ok_node.1 HOK.out).2.2 c' (by simp)
                have hr2 : Rising (flat c') := rising_kid (by rw [i1]; exact HR.out) hL' hR'
                have hlk2 : look key (flat c') ≠ none := by
                  have := HO.out
                  rw [← i1, flat_at _ _ _ _ _ _ _ _ hL' hR', look_mid i2.lo i2.hi] at this
                  exact this
                have hblk := HT.out.blk HOFF.out HB.out
                have hoff2 := z3 _ (HT.out.off (blk_lt HB.out) HOFF.out)
                have hwand : DelWand key k c' wc (fun wd => ∃ h1 t1, Cut tb h1 t1 rt ((del key s).length : Nat) (del key s) (fun a => a = tb ∨ 0 < cnt t a) (cnt t) w wd) := by
                  intro w' t' g1 g2 g3 g4
                  have hp := HW.out w' _ (HT.out.trans (Turns.child HT.out.lies HT.out.uniq g1)) (turns_len HOK.out g2 (by omega)) (by
                    rw [← i1, flat_at _ _ _ _ _ _ _ _ hL' hR', flat_at _ _ _ _ _ _ _ _ hL' hR', g3, del_mid i2.lo i2.hi]) (by simp only [MT.l, List.length_append]; omega)
                  rw [HPOST.out] at hp
                  exact hp
                obtain ⟨cb, clv, ckv, cl, ck⟩ := c'
                exact ⟨cb, clv, ckv, cl, ck, rfl, fun _ => by simp only [MT.l] at h4; omega, z1, z2, hcc.2, hr2, hlk2, hblk, hoff2, hwand⟩
        · simp only [MT.l] at hlr
          subst hlr
          have hin := in_there b0 (.slice lo0 ln lc0) (.slice ko0 kn kc0) L R key m1 wr hx hlp (rising_l hr) h7 g1 g2
          obtain ⟨lg, rfl⟩ : ∃ lg, lo0 = some ⟨lg, 0, none⟩ := by
            obtain ⟨lg, _, e, -, -⟩ := pairs_some hlp (by simp)
            cases e
            exact ⟨lg, rfl⟩
          obtain ⟨i, hi⟩ : ∃ i, i = L.length := ⟨_, rfl⟩
          rw [← hi] at hin
          have hiln : i < ln := by rw [hi, hln]; simp
          have hln7 : ln ≤ 7 := by rw [hln]; exact h7
          have hiln2 : (i : Int) < (ln : Int) := by omega
          have wi : IntKind.i64.wrap ((i : Int) + 1) = (i : Int) + 1 := IntWalk.i64_in _ (by omega)
          have HIN := Lib.hid hin
          have HL := Lib.hid hl
          have HU := Lib.hid hu
          have HW := Lib.hid hw
          have HB := Lib.hid hb
          have HOFF := Lib.hid hoff
          have HR := Lib.hid hr
          have HI := Lib.hid hi
          have HLN := Lib.hid hln
          cases gk with
          | zero =>
            obtain ⟨-, rfl⟩ := ok_zero.1 hk
            have hkn0 : kn = 0 := hkn1
            subst hkn0
            have hdel : ∀ w1, World.pairs w1 (.slice (some ⟨lg, 0, none⟩) ln lc0) (L ++ (key, m1) :: R) → Calls Try.prog 36 #[.slice (some ⟨lg, 0, none⟩) ln lc0, .int .i64 i, .int .i64 ((i : Int) + 1)] w1 (Deleted 34 2 (.slice (some ⟨lg, 0, none⟩) ln lc0) ln i (pcells (L ++ (key, m1) :: R)) w1) := fun w1 h1 =>
              delP _ _ _ _ _ _ _ (owns_congr h1 hln.symm rfl) hiln rfl rfl (pcells_one _)
            have HDEL := Lib.hid hdel
            clear hin hx hl hu hw hb hoff hlp hkn hch hr ho hk g1 g2 hln hkn1 hi hlow h7 hdel
            go_wp2_with (first
              | (go_at_call 24; refine HIN.out.mono ?_; rintro e w1 ⟨rfl, hf1⟩
                 have hl1 := lies_fr hf1 _ HL.out (fun _ _ h => h)
                 have HDEL1 := Lib.hid (HDEL.out _ (lies_node.1 hl1).2.1)
                 have HX1 := Lib.hid (lies_node.1 hl1).1
                 have q0 := blk_cell (lies_node.1 hl1).1 0
                 simp only [List.getElem?_cons_zero] at q0
                 have HL1 := Lib.hid hl1
                 have HF1 := Lib.hid hf1; clear hf1 hl1)
              | (go_at_call 25; refine (leaf_any b0 _ _ _ _ _ HX1.out).mono ?_; rintro e w' ⟨rfl, rfl⟩)
              | (go_at_call 36; refine HDEL1.out.mono ?_; rintro e w2 ⟨g, cap, hown, rfl, hO, hgr⟩
                 have hb2 := blk_grown HX1.out hgr (fun e => row_node (lies_node.1 HL1.out).2.1 (by decide) HX1.out e.symm)
                 have q1 := blk_cell hb2 0
                 have q2 := blk_free hb2 0
                 simp only [List.getElem?_cons_zero] at q1
                 have HOWN := Lib.hid hown; have HO := Lib.hid hO; have HGR := Lib.hid hgr; clear hown hO hgr hb2))
            go_meet
            have hfl : ∀ lv kv, flat (.node b0 lv kv (L ++ R) []) = del key (L ++ (key, m1) :: R) := fun lv kv => by
              have hr := HR.out
              rw [flat_leaf] at hr
              rw [flat_leaf, show L ++ (key, m1) :: R = L ++ ([(key, m1)] ++ R) from rfl, del_two hr]
            have ht := Turns.ahead HF1.out (Turns.lay (v := .slice (some ⟨g, 0, none⟩) (ln - 1) cap) (Y := L ++ R) HL1.out HU.out (Fr.of_grown HGR.out) (owns_congr HO.out (by rw [HLN.out]; simp) (by
              rw [pcells_take, pcells_drop, HI.out, List.take_left' rfl, ← List.drop_drop, List.drop_left' rfl, ← pcells_append]; rfl)) (fun k hk => .inl (HOWN.out.trans hk)))
            have hp := HW.out _ _ ht (ok_zero.2 ⟨by have := HLN.out; simp [MT.l] at this ⊢; omega, rfl⟩) (by rw [hfl, flat_leaf]) (by simp only [MT.l, List.length_append, List.length_cons]; omega)
            rw [HPOST.out] at hp
            exact hp
          | succ k =>
            obtain ⟨A, c, d, B, rfl, hA, hB, hkc, hc3, hkd, hd3⟩ := kids_cut hk
            have hik : i + 1 < kn := by rw [hkn1, hi]; simp; omega
            have hik2 : (i : Int) < (kn : Int) := by omega
            have hik3 : (i : Int) + 1 < (kn : Int) := by omega
            have hi0 : (0 : Int) ≤ (i : Int) + 1 := by omega
            have hi1 : ((i : Int) + 1).toNat = i + 1 := by omega
            have hkn0 : decide (kn = 0) = false := by simp; omega
            have hAi : A.length = i := by omega
            obtain ⟨cn, hcn⟩ : ∃ cn, cn = c.l.length := ⟨_, rfl⟩
            obtain ⟨dn, hdn⟩ : ∃ dn, dn = d.l.length := ⟨_, rfl⟩
            have HK := Lib.hid hk
            have HAI := Lib.hid hAi
            have HLR := Lib.hid (And.intro hA hB)
            have HKC := Lib.hid hkc
            have HKD := Lib.hid hkd
            have HCN := Lib.hid hcn
            have HDN := Lib.hid hdn
            have hc3' : 3 ≤ cn := by rw [hcn]; exact hc3
            have hd3' : 3 ≤ dn := by rw [hdn]; exact hd3
            have hc7 : cn ≤ 7 := by rw [hcn]; exact hkc.len
            have hd7 : dn ≤ 7 := by rw [hdn]; exact hkd.len
            have HR2 : Hid (∀ w1, Lies w1 (.node b0 (.slice (some ⟨lg, 0, none⟩) ln lc0) (.slice ko0 kn kc0) (L ++ (key, m1) :: R) (A ++ c :: d :: B)) → ∃ g co cc dO dc, ko0 = some ⟨g, 0, none⟩ ∧ w1.cell? ⟨b0, 1, none⟩ = some (.slice (some ⟨g, 0, none⟩) kn kc0) ∧
                w1.cell? ⟨g, i, none⟩ = some (.pointer (some ⟨c.b, 0, none⟩)) ∧ w1.cell? ⟨g, i + 1, none⟩ = some (.pointer (some ⟨d.b, 0, none⟩)) ∧ w1.cell? ⟨c.b, 0, none⟩ = some (.slice co cn cc) ∧ w1.cell? ⟨d.b, 0, none⟩ = some (.slice dO dn dc)) := Lib.hid fun w1 hl1 => by
              obtain ⟨g, _, _, e, -, q1, q2⟩ := kid_cell hl1
              cases e
              have hl2 : Lies w1 (.node b0 (.slice (some ⟨lg, 0, none⟩) ln lc0) (.slice (some ⟨g, 0, none⟩) kn kc0) (L ++ (key, m1) :: R) ((A ++ [c]) ++ d :: B)) := by rw [List.append_assoc]; exact hl1
              obtain ⟨g', _, _, e, -, -, q3⟩ := kid_cell hl2
              cases e
              have hch1 := (lies_node.1 hl1).2.2.2
              obtain ⟨co, cc, -, q4⟩ := lies_len (liesAll_mem hch1 (c := c) (by simp))
              obtain ⟨dO, dc, -, q5⟩ := lies_len (liesAll_mem hch1 (c := d) (by simp))
              rw [← hcn] at q4
              rw [← hdn] at q5
              simp only [List.length_append, List.length_singleton, hAi] at q2 q3
              exact ⟨g, co, cc, dO, dc, rfl, q1, q2, q3, q4, q5⟩
            clear hin hx hl hu hw hb hoff hlp hkn hch hr ho hk g1 g2 hln hkn1 hi hlow h7 hA hB hAi hkc hkd hc3 hd3 hcn hdn
            by_cases hc4 : 3 < cn
            · go_upto_region 13 with (first
                | (go_at_call 24; refine HIN.out.mono ?_; rintro e w1 ⟨rfl, hf1⟩
                   have hl1 := lies_fr hf1 _ HL.out (fun _ _ h => h)
                   obtain ⟨g, co, cc, dO, dc, rfl, q1, q2, q3, q4, q5⟩ := HR2.out _ hl1
                   have q0 := blk_cell (lies_node.1 hl1).1 0
                   simp only [List.getElem?_cons_zero] at q0
                   have HX1 := Lib.hid (lies_node.1 hl1).1
                   have HL1 := Lib.hid hl1
                   have HF1 := Lib.hid hf1; clear hf1 hl1)
                | (go_at_call 25; refine (leaf_any b0 _ _ _ _ _ HX1.out).mono ?_; rintro e w' ⟨rfl, rfl⟩))
              have HLAST : Hid (Calls Try.prog 37 #[.pointer (some ⟨c.b, 0, none⟩)] w1.drew (LastPost k c w1.drew)) := Lib.hid (last_walk k c w1.drew (lies_fr ((Fr.refl (fun _ => False) w1).drew) c (child_of HL1.out HU.out).1 (fun _ _ h => h)) (child_of HL1.out HU.out).2.1 HKC.out (by have := HCN.out; omega))
              go_region_with (go_at_call 37; refine HLAST.out.mono ?_; rintro e w2 ⟨c', s', y, rfl, f1, f2, ht, hok, hlen⟩
                              have hl1d := lies_fr ((Fr.refl (fun _ => False) w1).drew) _ HL1.out (fun _ _ h => h)
                              have hnode := Turns.child hl1d HU.out ht
                              obtain ⟨hx2, hlp2, -, -⟩ := lies_node.1 hnode.lies
                              have q6 := blk_cell hx2 0
                              simp only [List.getElem?_cons_zero] at q6
                              obtain ⟨_, e, -, p0, p1⟩ := pairs_at hlp2 i (by rw [HI.out]; simp)
                              cases e
                              have hrow := owns_congr hlp2 HLN.out.symm rfl
                              have f3 := World.ownsRow.frozenAt hrow (i * 2)
                              have f4 := World.ownsRow.frozenAt hrow (i * 2 + 1)
                              have HROW := Lib.hid hrow
                              have HNODE := Lib.hid (Turns.ahead (((Fr.refl (fun _ => False) w1).drew)) hnode)
                              have HF12 := Lib.hid (And.intro f1 (And.intro f2 (And.intro hok hlen)))
                              clear f1 f2 ht hok hlen hl1d hnode hx2 hlp2 hrow)
              all_goals
                go_wp2_with fail
                go_meet
                obtain ⟨f1, f2, hok, hlen⟩ := HF12.out
                obtain ⟨a1, a2⟩ := write_pair HROW.out y i HI.out.symm
                have ht := Turns.ahead HF1.out (HNODE.out.trans (Turns.write HNODE.out.lies HNODE.out.uniq a2 (owns_congr a1 (by rw [HLN.out]; simp) rfl)))
                have hp := HW.out _ _ ht (ok_two HK.out hok (by have := HCN.out; omega) HKD.out (by have := HDN.out; omega)) (del_last HLR.out.1 HLR.out.2 HR.out f1 f2) (by simp [MT.l])
                rw [HPOST.out] at hp
                exact hp
            · by_cases hd4 : 3 < dn
              · go_upto_region 15 with (first
                  | (go_at_call 24; refine HIN.out.mono ?_; rintro e w1 ⟨rfl, hf1⟩
                     have hl1 := lies_fr hf1 _ HL.out (fun _ _ h => h)
                     obtain ⟨g, co, cc, dO, dc, rfl, q1, q2, q3, q4, q5⟩ := HR2.out _ hl1
                     have q0 := blk_cell (lies_node.1 hl1).1 0
                     simp only [List.getElem?_cons_zero] at q0
                     have HX1 := Lib.hid (lies_node.1 hl1).1
                     have HL1 := Lib.hid hl1
                     have HF1 := Lib.hid hf1; clear hf1 hl1)
                  | (go_at_call 25; refine (leaf_any b0 _ _ _ _ _ HX1.out).mono ?_; rintro e w' ⟨rfl, rfl⟩))
                have HL1' : Hid (Lies w1 (.node b0 (.slice (some ⟨lg, 0, none⟩) ln lc0) (.slice (some ⟨g, 0, none⟩) kn kc0) (L ++ (key, m1) :: R) ((A ++ [c]) ++ d :: B))) := Lib.hid (by rw [List.append_assoc]; exact HL1.out)
                have HU' : Hid (Uniq (.node b0 (.slice (some ⟨lg, 0, none⟩) ln lc0) (.slice (some ⟨g, 0, none⟩) kn kc0) (L ++ (key, m1) :: R) ((A ++ [c]) ++ d :: B))) := Lib.hid (by rw [List.append_assoc]; exact HU.out)
                have HFIRST : Hid (Calls Try.prog 38 #[.pointer (some ⟨d.b, 0, none⟩)] w1.drew (FirstPost k d w1.drew)) := Lib.hid (first_walk k d w1.drew (lies_fr ((Fr.refl (fun _ => False) w1).drew) d (child_of HL1'.out HU'.out).1 (fun _ _ h => h)) (child_of HL1'.out HU'.out).2.1 HKD.out (by have := HDN.out; omega))
                go_region_with (go_at_call 38; refine HFIRST.out.mono ?_; rintro e w2 ⟨d', s', y, rfl, f1, f2, ht, hok, hlen⟩
                                have hl1d := lies_fr ((Fr.refl (fun _ => False) w1).drew) _ HL1'.out (fun _ _ h => h)
                                have hnode := Turns.child hl1d HU'.out ht
                                rw [List.append_assoc, List.append_assoc] at hnode
                                obtain ⟨hx2, hlp2, -, -⟩ := lies_node.1 hnode.lies
                                have q6 := blk_cell hx2 0
                                simp only [List.getElem?_cons_zero] at q6
                                obtain ⟨_, e, -, p0, p1⟩ := pairs_at hlp2 i (by rw [HI.out]; simp)
                                cases e
                                have hrow := owns_congr hlp2 HLN.out.symm rfl
                                have f3 := World.ownsRow.frozenAt hrow (i * 2)
                                have f4 := World.ownsRow.frozenAt hrow (i * 2 + 1)
                                have HROW := Lib.hid hrow
                                have HNODE := Lib.hid (Turns.ahead (((Fr.refl (fun _ => False) w1).drew)) hnode)
                                have HF12 := Lib.hid (And.intro f1 (And.intro f2 (And.intro hok hlen)))
                                clear f1 f2 ht hok hlen hl1d hnode hx2 hlp2 hrow)
                all_goals
                  go_wp2_with fail
                  go_meet
                  obtain ⟨f1, f2, hok, hlen⟩ := HF12.out
                  obtain ⟨a1, a2⟩ := write_pair HROW.out y i HI.out.symm
                  have ht := Turns.ahead HF1.out (HNODE.out.trans (Turns.write HNODE.out.lies HNODE.out.uniq a2 (owns_congr a1 (by rw [HLN.out]; simp) rfl)))
                  have hp := HW.out _ _ ht (ok_two HK.out HKC.out (by have := HCN.out; omega) hok (by have := HDN.out; omega)) (del_first HLR.out.1 HLR.out.2 HR.out f1 f2) (by simp [MT.l])
                  rw [HPOST.out] at hp
                  exact hp
              · have hmerge : ∀ w1, Lies w1 (.node b0 (.slice (some ⟨lg, 0, none⟩) ln lc0) (.slice ko0 kn kc0) (L ++ (key, m1) :: R) (A ++ c :: d :: B)) → Calls Try.prog 39 #[.pointer (some ⟨b0, 0, none⟩), .int .i64 i] w1
                    (MergePost b0 (.slice (some ⟨lg, 0, none⟩) ln lc0) (.slice ko0 kn kc0) c.lv c.kv d.lv d.kv L R (key, m1) A B c.b d.b c.l d.l c.kids d.kids w1) := fun w1 hl1 =>
                  merge_walk b0 i i (.slice (some ⟨lg, 0, none⟩) ln lc0) (.slice ko0 kn kc0) c.lv c.kv d.lv d.kv L R (key, m1) A B c.b d.b c.l d.l c.kids d.kids w1
                    (by rw [← MT.eta c, ← MT.eta d]; exact hl1) (by rw [← MT.eta c, ← MT.eta d]; exact HU.out) rfl HI.out.symm HAI.out (by have := HLN.out; simp at this; omega) (by have := HCN.out; omega) (by have := HDN.out; omega) HKC.out.kidsLen HKD.out.kidsLen
                have HMERGE := Lib.hid hmerge
                clear hmerge
                go_wp2_with (first
                  | (go_at_call 24; refine HIN.out.mono ?_; rintro e w1 ⟨rfl, hf1⟩
                     have hl1 := lies_fr hf1 _ HL.out (fun _ _ h => h)
                     have HMERGE1 := Lib.hid (HMERGE.out _ hl1)
                     obtain ⟨g, co, cc, dO, dc, rfl, q1, q2, q3, q4, q5⟩ := HR2.out _ hl1
                     have q0 := blk_cell (lies_node.1 hl1).1 0
                     simp only [List.getElem?_cons_zero] at q0
                     have HX1 := Lib.hid (lies_node.1 hl1).1
                     have HL1 := Lib.hid hl1
                     have HF1 := Lib.hid hf1; clear hf1 hl1)
                  | (go_at_call 25; refine (leaf_any b0 _ _ _ _ _ HX1.out).mono ?_; rintro e w' ⟨rfl, rfl⟩)
                  | (go_at_call 39; refine HMERGE1.out.mono ?_; rintro e w2 ⟨rfl, lv', kv', c1, ht, -, k1, k2⟩
                     rw [← MT.eta c, ← MT.eta d] at ht
                     obtain ⟨g2, n2, cc2, rfl, hln2, r1, r2⟩ := kid_cell ht.lies
                     rw [HAI.out] at r2 hln2
                     have r3 : (i : Int) < (n2 : Int) := by omega
                     have HT := Lib.hid ht; have HK12 := Lib.hid (And.intro k1 k2); clear ht k1 k2))
                go_roundg k
                case measure => omega
                case rel =>
                  obtain ⟨m1', m2'⟩ := merge_plain HKC.out HKD.out (by have := HCN.out; have := HDN.out; omega) HK12.out.1 HK12.out.2
                  have ht := Turns.ahead HF1.out HT.out
                  obtain ⟨z1, z2, z3⟩ := child_of ht.lies ht.uniq
                  have hlen1 : c1.l.length = 7 := by rw [HK12.out.1]; have := HCN.out; have := HDN.out; simp; omega
                  have hfl : ∀ c2, flat (.node b0 lv' (.slice (some ⟨g2, 0, none⟩) n2 cc2) (L ++ R) (A ++ c2 :: B)) = before L A ++ (flat c2 ++ after R B) := fun c2 => flat_at _ _ _ _ _ _ _ _ HLR.out.1 HLR.out.2
                  have hflt : flat (.node b0 (.slice (some ⟨lg, 0, none⟩) ln lc0) (.slice (some ⟨g, 0, none⟩) kn kc0) (L ++ (key, m1) :: R) (A ++ c :: d :: B)) = before L A ++ (flat c1 ++ after R B) := by rw [flat_two HLR.out.1 HLR.out.2, m2']; simp
                  have hr2 := HR.out
                  rw [hflt] at hr2
                  have hin2 : (∀ p ∈ before L A, klt p.1 key) ∧ ∀ p ∈ after R B, klt key p.1 := by
                    rw [m2'] at hr2
                    exact ⟨fun p hp => (List.pairwise_append.1 hr2).2.2 p hp (key, m1) (by simp), fun p hp => (List.pairwise_append.1 hr2.right).2.2 (key, m1) (by simp) p hp⟩
                  have hlk2 : look key (flat c1) ≠ none := by
                    have h3 := hr2.right.left
                    rw [m2', show flat c ++ (key, m1) :: flat d = flat c ++ ([(key, m1)] ++ flat d) from rfl] at h3 ⊢
                    obtain ⟨y1, y2⟩ := there_lt h3 rfl
                    rw [look_mid y1 y2, look_self]; simp
                  have hr3 := hr2.right.left
                  have hblk := ht.blk HOFF.out HB.out
                  have hoff2 := z3 _ (ht.off (blk_lt HB.out) HOFF.out)
                  have hok0 : Ok (k + 1) (.node b0 lv' (.slice (some ⟨g2, 0, none⟩) n2 cc2) (L ++ R) (A ++ c1 :: B)) := by
                    have hk := ok_node.1 HK.out
                    refine ok_node.2 ⟨by have := hk.1; simp at this ⊢; omega, by have := hk.2.1; simp at this ⊢; omega, fun x hx => ?_⟩
                    rcases List.mem_append.1 hx with hx | hx
                    · exact hk.2.2 x (List.mem_append_left _ hx)
                    · rcases List.mem_cons.1 hx with rfl | hx
                      · exact ⟨by omega, m1'⟩
                      · exact hk.2.2 x (List.mem_append_right _ (List.mem_cons_of_mem _ (List.mem_cons_of_mem _ hx)))
                  have hwand : DelWand key k c1 w2 (fun wd => ∃ h1 t1, Cut tb h1 t1 rt ((del key s).length : Nat) (del key s) (fun a => a = tb ∨ 0 < cnt t a) (cnt t) w wd) := by
                    intro w' t' g1 g2' g3 g4
                    have hp := HW.out w' _ (ht.trans (Turns.child ht.lies ht.uniq g1)) (turns_len hok0 g2' (by omega)) (by
                      rw [hfl, hflt, g3, del_mid hin2.1 hin2.2]) (by simp [MT.l]; omega)
                    rw [HPOST.out] at hp
                    exact hp
                  obtain ⟨cb, clv, ckv, cl, ck⟩ := c1
                  exact ⟨cb, clv, ckv, cl, ck, rfl, fun _ => by simp only [MT.l] at hlen1; omega, z1, z2, m1', hr3, hlk2, hblk, hoff2, hwand⟩
    case rest =>
      obtain ⟨h1, t1, hc⟩ := hcut
      have hrs := rising_del (key := key) HH.out.rising
      clear q0 q1 q2 HH1 HF1 HRT ws
      obtain ⟨b1, lv1, kv1, l1, k1⟩ := t1
      obtain rfl : b1 = rt := hc.root
      obtain ⟨hx, hlp, hkn, hch⟩ := lies_node.1 hc.lies
      obtain ⟨lo, lc, rfl, -⟩ := pairs_slice hlp
      obtain ⟨ko, kc, rfl, -⟩ := nodes_slice hkn
      have q0 := blk_cell hc.blk 0
      have q1 := blk_free hc.blk 0
      have q2 := blk_cell hx 0
      have q3 := blk_cell hx 1
      simp only [List.getElem?_cons_succ, List.getElem?_cons_zero] at q0 q2 q3
      have HC := Lib.hid hc
      have HX := Lib.hid hx
      have HRS := Lib.hid hrs
      cases l1 with
      | cons p1 l1 =>
        clear hc hx hlp hkn hch hrs
        go_wp2_with fail
        go_ret2
        have hc := HC.out
        unfold DelPost
        rw [HLK.out]
        exact ⟨rfl, h1, .node b1 (.slice lo (p1 :: l1).length lc) (.slice ko k1.length kc) (p1 :: l1) k1, ⟨hc.blk, hc.lies, hc.uniq, hc.off, hc.ok, fun _ => by simp [MT.l], HRS.out, hc.tells⟩, hc.fr, hc.few⟩
      | nil =>
        cases h1 with
        | zero =>
          obtain ⟨-, rfl⟩ := ok_zero.1 hc.ok
          clear hc hx hlp hkn hch hrs
          go_wp2_with (go_at_call 25; refine (leaf_any b1 _ _ _ _ _ HX.out).mono ?_; rintro e w' ⟨rfl, rfl⟩)
          go_ret2
          have hc := HC.out
          unfold DelPost
          rw [HLK.out]
          exact ⟨rfl, 0, .node b1 (.slice lo ([] : List KV).length lc) (.slice ko ([] : List MT).length kc) [] [], ⟨hc.blk, hc.lies, hc.uniq, hc.off, hc.ok, fun h => absurd h (by decide), HRS.out, hc.tells⟩, hc.fr, hc.few⟩
        | succ k =>
          obtain ⟨c, rfl⟩ : ∃ c, k1 = [c] := by
            have := (ok_node.1 hc.ok).2.1
            match k1, this with
            | [c], _ => exact ⟨c, rfl⟩
          obtain ⟨g, _, _, e, -, -, q4⟩ := kid_cell (A := []) hc.lies
          cases e
          simp only [List.length_nil] at q4
          clear hc hx hlp hkn hch hrs
          go_wp2_with (go_at_call 25; refine (leaf_any b1 _ _ _ _ _ HX.out).mono ?_; rintro e w' ⟨rfl, rfl⟩)
          go_ret2
          have hc := HC.out
          unfold DelPost
          rw [HLK.out]
          obtain ⟨z1, z2, z3⟩ := child_of (A := []) hc.lies hc.uniq
          have hf2 : Fr (fun a => a = tb) wc (wc.setCell ⟨tb, 0, none⟩ (.pointer (some ⟨c.b, 0, none⟩))) := (Fr.refl (fun a => a = tb) wc).setCell (p := ⟨tb, 0, none⟩) (fun _ => rfl) _
          have hcc := (ok_node.1 hc.ok).2.2 c (by simp)
          have hoff := z3 _ hc.off
          have htl := hc.tells
          rw [flat_node, List.map_cons, List.map_nil, weave_one] at htl
          refine ⟨rfl, k, c, ⟨blk_congr (blk_set hc.blk 0 _) rfl, lies_fr hf2 c z1 (fun a ha e => by subst e; omega), z2, hoff, hcc.2, fun _ => by omega, HRS.out, htl⟩, hc.fr.trans' (hf2.mono fun a _ e => .inl e), fun a ha => Nat.le_trans ?_ (hc.few a ha)⟩
          rw [cnt_node, cnts_cons]; omega
end Go.Proofs.Ytaopiolbjnnnfaa
