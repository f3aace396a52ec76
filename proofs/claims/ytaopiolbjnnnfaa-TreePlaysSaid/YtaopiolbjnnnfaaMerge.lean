/-
  merge: a child, what stands behind it, and the next child.
-/
import Derived.Test.YtaopiolbjnnnfaaTrio
import Derived.Deep.QuietTactic
import Derived.BigQuiet
import Derived.Deep.DeepCutAuto
namespace Go.Proofs.Ytaopiolbjnnnfaa
open Go.RowKit

def MergePost (xb : Nat) (lv kv clv ckv dlv dkv : Value) (L R : List KV) (m : KV) (A B : List MT) (cb db : Nat) (C D : List KV) (CK DK : List MT) (w : World) (e : Ending) (w' : World) : Prop :=
  e = .returned (.tuple #[]) ∧ ∃ lv' kv' c, Turns w w' (.node xb lv kv (L ++ m :: R) (A ++ .node cb clv ckv C CK :: .node db dlv dkv D DK :: B)) (.node xb lv' kv' (L ++ R) (A ++ c :: B)) ∧
    c.b = cb ∧ c.l = C ++ m :: D ∧ c.kids = CK ++ DK

def Joint (e : TypeId) (size n : Nat) (xs : List Value) (w : World) (en : Ending) (w' : World) : Prop :=
  ∃ ao cap, en = .returned (.slice ao n cap) ∧ w'.ownsRow 0 e size (.slice ao n cap) n xs ∧ Fr (fun _ => False) w w' ∧ ∀ a, ao = some a → w.heap.size ≤ a.block

set_option maxHeartbeats 2000000 in
set_option maxRecDepth 100000 in
theorem merge_walk (xb i : Nat) (j : Int) (lv kv clv ckv dlv dkv : Value) (L R : List KV) (m : KV) (A B : List MT) (cb db : Nat) (C D : List KV) (CK DK : List MT) (w : World)
    (hl : Lies w (.node xb lv kv (L ++ m :: R) (A ++ .node cb clv ckv C CK :: .node db dlv dkv D DK :: B))) (hu : Uniq (.node xb lv kv (L ++ m :: R) (A ++ .node cb clv ckv C CK :: .node db dlv dkv D DK :: B)))
    (hj : j = (i : Int)) (hi : L.length = i) (hA : A.length = i) (hn : L.length + R.length ≤ 7) (hC : C.length ≤ 7) (hD : D.length ≤ 7) (hCK : CK.length ≤ 8) (hDK : DK.length ≤ 8) :
    Calls Try.prog 39 #[.pointer (some ⟨xb, 0, none⟩), .int .i64 j] w (MergePost xb lv kv clv ckv dlv dkv L R m A B cb db C D CK DK w) := by
  subst hj
  have h3 := S3.begin hl hu
  obtain ⟨hx, hlp, hkn, hch⟩ := lies_node.1 hl
  obtain ⟨kg, kc, hkv, hkc, hkm⟩ := nodes_some hkn (by simp)
  obtain ⟨kn, hkl⟩ : ∃ kn, kn = (A ++ MT.node cb clv ckv C CK :: MT.node db dlv dkv D DK :: B).length := ⟨_, rfl⟩
  have hkn2 : i + 1 < kn := by rw [hkl]; simp; omega
  rw [← hkl] at hkv hkc
  subst hkv
  obtain ⟨_, e, -, hk0⟩ := nodes_at hkn i (by omega)
  cases e
  obtain ⟨_, e, -, hk1⟩ := nodes_at hkn (i + 1) (by omega)
  cases e
  rw [List.getElem_append_right (by omega)] at hk0 hk1
  simp only [hA, Nat.sub_self, Nat.add_sub_cancel_left, List.getElem_cons_zero, List.getElem_cons_succ, MT.b] at hk0 hk1
  have hx1 := blk_cell hx 1
  simp only [List.getElem?_cons_succ, List.getElem?_cons_zero] at hx1
  have hi7 : i ≤ 7 := by omega
  have w1 : IntKind.i64.wrap ((i : Int) + 1) = (i : Int) + 1 := IntWalk.i64_in _ (by omega)
  have w2 : (0 : Int) ≤ (i : Int) + 1 := by omega
  have w3 : ((i : Int) + 1).toNat = i + 1 := by omega
  have w4 : (i : Int) + 1 < (kn : Int) := by omega
  have w5 : (i : Int) < (kn : Int) := by omega
  have w6 : (0 : Int) ≤ (i : Int) := by omega
  have HL := Lib.hid hl
  have HU := Lib.hid hu
  have H3 := Lib.hid h3
  have HKL := Lib.hid hkl
  have HI := Lib.hid hi
  have HA := Lib.hid hA
  clear hl hu h3 hx hlp hkn hch hkl hi hA
  go_enter Try.func39, Try.ntmps39
  go_upto_region 0 with fail
  go_cut [4, 5] (TwoAt w (Nine xb cb db lv (.slice (some ⟨kg, 0, none⟩) kn kc) clv ckv dlv dkv) xb cb db lv (.slice (some ⟨kg, 0, none⟩) kn kc) clv ckv dlv dkv (L ++ m :: R) C D
    (kptrs (A ++ .node cb clv ckv C CK :: .node db dlv dkv D DK :: B)) (kptrs CK) (kptrs DK))
  case first =>
    go_quiet (fail)
    go_wp2_with fail
    go_meet
    exact ⟨rfl, rfl, H3.out.quiet ((Fr.refl _ _).drewN _)⟩
  case rest =>
    obtain ⟨rfl, rfl, h3⟩ := hcut
    clear H3 hk0 hk1 hx1
    obtain ⟨co, cc, hclv, -⟩ := pairs_slice h3.rc
    obtain ⟨dO, dc, hdlv, -⟩ := pairs_slice h3.rd
    obtain ⟨lg, lc, hlv, -⟩ := pairs_some h3.rx (by simp)
    obtain ⟨ln, hln⟩ : ∃ ln, ln = (L ++ m :: R).length := ⟨_, rfl⟩
    rw [← hln] at hlv
    subst hclv hdlv hlv
    obtain ⟨_, e, -, hm0, hm1⟩ := pairs_at h3.rx i (by simp [HI.out])
    cases e
    rw [List.getElem_append_right (by rw [HI.out]; omega)] at hm0 hm1
    simp only [HI.out, Nat.sub_self, List.getElem_cons_zero] at hm0 hm1
    obtain ⟨cn, hcn⟩ : ∃ cn, cn = (C ++ m :: D).length := ⟨_, rfl⟩
    have hcon : Calls Try.prog 52 #[.slice (some ⟨wc.heap.size + 1, 0, none⟩) 3 3] ((wc.alloc (.cells #[.string m.1, .int .i64 m.2] 34)).alloc (.cells #[.slice co C.length cc, .slice (some ⟨wc.heap.size, 0, none⟩) 1 1, .slice dO D.length dc] 31)).drew
        (Joint 34 2 cn (pcells (C ++ m :: D)) ((wc.alloc (.cells #[.string m.1, .int .i64 m.2] 34)).alloc (.cells #[.slice co C.length cc, .slice (some ⟨wc.heap.size, 0, none⟩) 1 1, .slice dO D.length dc] 31)).drew) := by
      have h4 := (((h3.alloc (.cells #[.string m.1, .int .i64 m.2] 34)).alloc (.cells #[.slice co C.length cc, .slice (some ⟨wc.heap.size, 0, none⟩) 1 1, .slice dO D.length dc] 31)).drew)
      have hvb : World.blk (((wc.alloc (.cells #[.string m.1, .int .i64 m.2] 34)).alloc (.cells #[.slice co C.length cc, .slice (some ⟨wc.heap.size, 0, none⟩) 1 1, .slice dO D.length dc] 31)).drew) wc.heap.size [.string m.1, .int .i64 m.2] 34 :=
        blk_alloc (blk_new wc _ _) _
      have hsb : World.blk (((wc.alloc (.cells #[.string m.1, .int .i64 m.2] 34)).alloc (.cells #[.slice co C.length cc, .slice (some ⟨wc.heap.size, 0, none⟩) 1 1, .slice dO D.length dc] 31)).drew) (wc.heap.size + 1) [.slice co C.length cc, .slice (some ⟨wc.heap.size, 0, none⟩) 1 1, .slice dO D.length dc] 31 := by
        have := blk_new (wc.alloc (.cells #[.string m.1, .int .i64 m.2] 34)) [.slice co C.length cc, .slice (some ⟨wc.heap.size, 0, none⟩) 1 1, .slice dO D.length dc] 31
        rw [World.size_alloc] at this
        exact this
      refine (conP (wc.heap.size + 1) [(.slice co C.length cc, C.length, pcells C), (.slice (some ⟨wc.heap.size, 0, none⟩) 1 1, 1, [.string m.1, .int .i64 m.2]), (.slice dO D.length dc, D.length, pcells D)] _ hsb ?_ ?_ ?_ (by simp)).mono ?_
      · intro s hs
        simp at hs
        rcases hs with rfl | rfl | rfl
        · exact h4.rc
        · exact owns_mk hvb (Nat.le_refl _) (by unfold maxLen; omega) rfl rfl
        · exact h4.rd
      · intro s hs
        simp at hs
        rcases hs with rfl | rfl | rfl
        · exact pcells_one _
        · simp [Value.oneCell']
        · exact pcells_one _
      · simp [sumLen]; omega
      · rintro e w' ⟨ao, cap, rfl, ho, hF, hfr⟩
        have hsl : sumLen [(Value.slice co C.length cc, C.length, pcells C), (.slice (some ⟨wc.heap.size, 0, none⟩) 1 1, 1, [.string m.1, .int .i64 m.2]), (.slice dO D.length dc, D.length, pcells D)] = cn := by
          rw [hcn]; simp [sumLen]; omega
        rw [hsl] at ho ⊢
        exact ⟨ao, cap, rfl, owns_congr ho rfl (by simp [joined, pcells_append, pcells_cons]), hF, hfr⟩
    have q0 := blk_cell h3.c 0
    have q1 := blk_cell h3.d 0
    have q2 := blk_cell h3.x 0
    simp only [List.getElem?_cons_zero] at q0 q1 q2
    have hil : (i : Int) < (ln : Int) := by have := HI.out; rw [hln]; simp; omega
    have l1 := blk_lt h3.c
    have l2 := blk_lt h3.d
    have l3 := blk_lt h3.x
    have l4 : lg < wc.heap.size := owns_lt h3.rx rfl
    have HCON := Lib.hid hcon
    have H3 := Lib.hid h3
    have HLN := Lib.hid hln
    have HCN := Lib.hid hcn
    clear hcon h3 hln hcn
    go_upto_region 1 with fail
    go_cut [] (Trio w (Nine xb cb db (.slice (some ⟨lg, 0, none⟩) ln lc) (.slice (some ⟨kg, 0, none⟩) kn kc) (.slice co C.length cc) ckv (.slice dO D.length dc) dkv) xb cb db (L ++ m :: R) (C ++ m :: D) D
      (kptrs (A ++ .node cb (.slice co C.length cc) ckv C CK :: .node db (.slice dO D.length dc) dkv D DK :: B)) (kptrs CK) (kptrs DK))
    case first =>
      clear HL HU HKL HI HA HLN hn hC hD hCK hDK hkc hkm hkn2 hi7 w1 w2 w3 w4 w5
      go_region_with (go_at_call 52; refine HCON.out.mono ?_; rintro e w2 ⟨ao, cap, rfl, hown, hF, hfr⟩; have hc2 := blk_fr (w := ((wc.alloc (.cells #[.string m.1, .int .i64 m.2] 34)).alloc (.cells #[.slice co C.length cc, .slice (some ⟨wc.heap.size, 0, none⟩) 1 1, .slice dO D.length dc] 31)).drew) (blk_alloc (blk_alloc H3.out.c _) _) hF (fun h => h); have q3 := blk_cell hc2 0; have q4 := blk_free hc2 0; simp only [List.getElem?_cons_zero] at q3; have HO2 := Lib.hid hown; have HF2 := Lib.hid hF; have HFR2 := Lib.hid hfr; clear hown hF hfr hc2)
      all_goals
        go_wp2_with fail
        go_meet
        have h4 := ((H3.out.alloc (.cells #[.string m.1, .int .i64 m.2] 34)).alloc (.cells #[.slice co C.length cc, .slice (some ⟨wc.heap.size, 0, none⟩) 1 1, .slice dO D.length dc] 31)).drew
        have h5 := (h4.swapXC.putL (v := .slice ao cn cap) (Y := C ++ m :: D) (HF2.out.mono (fun _ _ h => h.elim)) (owns_congr HO2.out HCN.out rfl) (fun k hk => .inr (by
          cases ao with
          | none => cases hk
          | some a0 => simp only [Value.ownBlock, Option.some.injEq] at hk; subst hk; exact HFR2.out a0 rfl))).swapXC
        exact ⟨_, _, _, _, _, _, h5⟩
    case rest =>
      obtain ⟨xl, xk, cl, ck, dl, dk, h3⟩ := hcut
      clear H3 HCON q0 q1 q2 hm0 hm1
      -- the children
      obtain ⟨cko, cc', hck, -⟩ : ∃ ao c, ck = .slice ao CK.length c ∧ True := by
        obtain ⟨ao, c, h, _⟩ := owns_form h3.kc
        rw [kptrs_length] at h
        exact ⟨ao, c, h, trivial⟩
      obtain ⟨dko, dc', hdk, -⟩ : ∃ ao c, dk = .slice ao DK.length c ∧ True := by
        obtain ⟨ao, c, h, _⟩ := owns_form h3.kd
        rw [kptrs_length] at h
        exact ⟨ao, c, h, trivial⟩
      subst hck hdk
      obtain ⟨kn2, hkn2⟩ : ∃ kn2, kn2 = (CK ++ DK).length := ⟨_, rfl⟩
      have hcon : Calls Try.prog 53 #[.slice (some ⟨wc.heap.size, 0, none⟩) 2 2] (wc.alloc (.cells #[.slice cko CK.length cc', .slice dko DK.length dc'] 55)).drew
          (Joint 51 1 kn2 (kptrs (CK ++ DK)) (wc.alloc (.cells #[.slice cko CK.length cc', .slice dko DK.length dc'] 55)).drew) := by
        have h4 := (h3.alloc (.cells #[.slice cko CK.length cc', .slice dko DK.length dc'] 55)).drew
        have hsb : World.blk (wc.alloc (.cells #[.slice cko CK.length cc', .slice dko DK.length dc'] 55)).drew wc.heap.size [.slice cko CK.length cc', .slice dko DK.length dc'] 55 := blk_new wc _ _
        refine (conK wc.heap.size [(.slice cko CK.length cc', CK.length, kptrs CK), (.slice dko DK.length dc', DK.length, kptrs DK)] _ hsb ?_ ?_ ?_ (by simp)).mono ?_
        · intro s hs
          simp at hs
          rcases hs with rfl | rfl
          · exact owns_congr h4.kc (kptrs_length _) rfl
          · exact owns_congr h4.kd (kptrs_length _) rfl
        · intro s hs
          simp at hs
          rcases hs with rfl | rfl
          · exact kptrs_one _
          · exact kptrs_one _
        · simp [sumLen]; omega
        · rintro e w' ⟨ao, cap, rfl, ho, hF, hfr⟩
          have hsl : sumLen [(Value.slice cko CK.length cc', CK.length, kptrs CK), (.slice dko DK.length dc', DK.length, kptrs DK)] = kn2 := by
            rw [hkn2]; simp [sumLen]
          rw [hsl] at ho ⊢
          exact ⟨ao, cap, rfl, owns_congr ho rfl (by simp [joined, kptrs_append]), hF, hfr⟩
      have q0 := blk_cell h3.c 1
      have q1 := blk_cell h3.d 1
      simp only [List.getElem?_cons_succ, List.getElem?_cons_zero] at q0 q1
      have m1 := blk_lt h3.c
      have m2 := blk_lt h3.d
      have m3 := blk_lt h3.x
      have HCON := Lib.hid hcon
      have H3 := Lib.hid h3
      have HKN2 := Lib.hid hkn2
      clear hcon h3 hkn2
      go_upto_region 2 with fail
      go_cut [] (Trio w (Nine xb cb db (.slice (some ⟨lg, 0, none⟩) ln lc) (.slice (some ⟨kg, 0, none⟩) kn kc) (.slice co C.length cc) ckv (.slice dO D.length dc) dkv) xb cb db (L ++ m :: R) (C ++ m :: D) D
        (kptrs (A ++ .node cb (.slice co C.length cc) ckv C CK :: .node db (.slice dO D.length dc) dkv D DK :: B)) (kptrs (CK ++ DK)) (kptrs DK))
      case first =>
        go_region_with (go_at_call 53; refine HCON.out.mono ?_; rintro e w2 ⟨ao, cap, rfl, hown, hF, hfr⟩; have hc2 := blk_fr (w := (wc.alloc (.cells #[.slice cko CK.length cc', .slice dko DK.length dc'] 55)).drew) (blk_alloc H3.out.c _) hF (fun h => h); have q3 := blk_cell hc2 1; have q4 := blk_free hc2 1; simp only [List.getElem?_cons_succ, List.getElem?_cons_zero] at q3; have HO2 := Lib.hid hown; have HF2 := Lib.hid hF; have HFR2 := Lib.hid hfr; clear hown hF hfr hc2)
        all_goals
          go_wp2_with fail
          go_meet
          have h4 := (H3.out.alloc (.cells #[.slice cko CK.length cc', .slice dko DK.length dc'] 55)).drew
          have h5 := (h4.swapXC.putK (v := .slice ao kn2 cap) (YK := kptrs (CK ++ DK)) (HF2.out.mono (fun _ _ h => h.elim)) (owns_congr HO2.out (by rw [kptrs_length]; exact HKN2.out) rfl) (fun k hk => .inr (by
            cases ao with
            | none => cases hk
            | some a0 => simp only [Value.ownBlock, Option.some.injEq] at hk; subst hk; exact HFR2.out a0 rfl))).swapXC
          exact ⟨_, _, _, _, _, _, h5⟩
      case rest =>
        obtain ⟨xl, xk, cl, ck, dl, dk, h3⟩ := hcut
        clear H3 HCON q0 q1
        obtain ⟨xlo, xlc, hxl, -⟩ : ∃ ao c, xl = .slice ao (L ++ m :: R).length c ∧ True := by
          obtain ⟨ao, c, h, _⟩ := owns_form h3.rx
          exact ⟨ao, c, h, trivial⟩
        obtain ⟨xko, xkc, hxk, -⟩ : ∃ ao c, xk = .slice ao (kptrs (A ++ .node cb (.slice co C.length cc) ckv C CK :: .node db (.slice dO D.length dc) dkv D DK :: B)).length c ∧ True := by
          obtain ⟨ao, c, h, _⟩ := owns_form h3.kx
          exact ⟨ao, c, h, trivial⟩
        rw [kptrs_length, ← HKL.out] at hxk
        rw [← HLN.out] at hxl
        subst hxl hxk
        have hdel : Calls Try.prog 36 #[.slice xlo ln xlc, .int .i64 i, .int .i64 ((i : Int) + 1)] wc (Deleted 34 2 (.slice xlo ln xlc) ln i (pcells (L ++ m :: R)) wc) :=
          delP _ _ _ _ _ _ _ (owns_congr h3.rx HLN.out.symm rfl) (by have := HI.out; rw [HLN.out]; simp; omega) rfl rfl (pcells_one _)
        have q0 := blk_cell h3.x 0
        simp only [List.getElem?_cons_zero] at q0
        have HD := Lib.hid hdel
        have H3 := Lib.hid h3
        clear hdel h3
        go_wp2_with fail
        refine HD.out.mono ?_
        rintro e w2 ⟨g, cap, hown, rfl, hO, hgr⟩
        have h5 := H3.out.putL (v := .slice (some ⟨g, 0, none⟩) (ln - 1) cap) (Y := L ++ R) (Fr.of_grown hgr) (owns_congr hO (by rw [HLN.out]; simp) (by
          rw [pcells_take, pcells_drop, ← HI.out, List.take_left, show L.length + 1 = (L ++ [m]).length by simp, show L ++ m :: R = (L ++ [m]) ++ R by simp, List.drop_left, pcells_append])) (fun k hk => .inl (hown.trans hk))
        have hx2 := blk_fr H3.out.x (Fr.of_grown hgr) (row_node H3.out.rx (by decide) H3.out.x)
        have q1 := blk_cell hx2 0
        have q2 := blk_free hx2 0
        simp only [List.getElem?_cons_zero] at q1
        have hdel : Calls Try.prog 54 #[.slice xko kn xkc, .int .i64 ((i : Int) + 1), .int .i64 ((i : Int) + 2)] (w2.setCell ⟨xb, 0, none⟩ (.slice (some ⟨g, 0, none⟩) (ln - 1) cap))
            (Deleted 51 1 (.slice xko kn xkc) kn (i + 1) (kptrs (A ++ .node cb (.slice co C.length cc) ckv C CK :: .node db (.slice dO D.length dc) dkv D DK :: B)) (w2.setCell ⟨xb, 0, none⟩ (.slice (some ⟨g, 0, none⟩) (ln - 1) cap))) :=
          delK _ _ _ _ _ _ _ (owns_congr h5.kx (by rw [kptrs_length]; exact HKL.out.symm) rfl) (by omega) (by omega) (by omega) (kptrs_one _)
        have q3 := blk_cell h5.x 1
        simp only [List.getElem?_cons_succ, List.getElem?_cons_zero] at q3
        have HD2 := Lib.hid hdel
        have H5 := Lib.hid h5
        clear hdel h5 hown hO hgr hx2 q0
        go_wp2_with fail
        refine HD2.out.mono ?_
        rintro e w3 ⟨g2, cap2, hown2, rfl, hO2, hgr2⟩
        have hx3 := blk_fr H5.out.x (Fr.of_grown hgr2) (row_node H5.out.kx (by decide) H5.out.x)
        have q4 := blk_cell hx3 1
        have q5 := blk_free hx3 1
        simp only [List.getElem?_cons_succ, List.getElem?_cons_zero] at q4
        have h6 := H5.out.putK (v := .slice (some ⟨g2, 0, none⟩) (kn - 1) cap2) (YK := kptrs (A ++ .node cb cl ck (C ++ m :: D) (CK ++ DK) :: B)) (Fr.of_grown hgr2) (owns_congr hO2 (by rw [HKL.out, kptrs_length]; simp) (by
          rw [Nat.mul_one, Nat.mul_one, kptrs_append, kptrs_cons, kptrs_cons, List.take_append, List.drop_append, kptrs_length, HA.out, List.take_of_length_le (by rw [kptrs_length, HA.out]; omega), List.drop_eq_nil_of_le (by rw [kptrs_length, HA.out]; omega)]
          rw [kptrs_append, kptrs_cons, show i + 1 - i = 1 by omega, show i + 1 + 1 - i = 2 by omega]
          simp [MT.b])) (fun k hk => .inl (hown2.trans hk))
        have H6 := Lib.hid h6
        clear h6 hown2 hO2 hgr2 hx3 q3
        go_wp2_with fail
        go_end0
        have hch := (lies_node.1 HL.out).2.2.2
        have h2 := (liesAll_append.1 hch).2
        rw [liesAll_cons, liesAll_cons] at h2
        exact ⟨rfl, _, _, .node cb cl ck (C ++ m :: D) (CK ++ DK), S3.finishOne HL.out HU.out H6.out rfl (liesAll_append.2 ⟨(lies_node.1 h2.1).2.2.2, (lies_node.1 h2.2.1).2.2.2⟩) (fun a => by rw [cnts_append]; omega), rfl, rfl, rfl⟩
end Go.Proofs.Ytaopiolbjnnnfaa
