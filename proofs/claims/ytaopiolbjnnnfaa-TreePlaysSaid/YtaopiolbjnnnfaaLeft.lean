/-
  left: a thing goes from a child to the one ahead of it.
-/
import Derived.Test.YtaopiolbjnnnfaaWrite
import Derived.Deep.QuietTactic
import Derived.BigQuiet
import Derived.Deep.DeepCutAuto
namespace Go.Proofs.Ytaopiolbjnnnfaa
open Go.RowKit

/-- the first child goes to the end of the node ahead's -/
def MovedL (ck dk ck' dk' : List MT) : Prop := (ck = [] ∧ dk = [] ∧ ck' = [] ∧ dk' = []) ∨ ∃ q, dk = q :: dk' ∧ ck' = ck ++ [q]

def LeftPost (xb : Nat) (lv kv clv ckv dlv dkv : Value) (L R : List KV) (m p : KV) (A B : List MT) (cb db : Nat) (C D : List KV) (CK DK CK' DK' : List MT) (w : World) (e : Ending) (w' : World) : Prop :=
  e = .returned (.tuple #[]) ∧ ∃ lv' kv' c d, Turns w w' (.node xb lv kv (L ++ m :: R) (A ++ .node cb clv ckv C CK :: .node db dlv dkv (p :: D) DK :: B)) (.node xb lv' kv' (L ++ p :: R) (A ++ c :: d :: B)) ∧
    c.b = cb ∧ c.l = C ++ [m] ∧ c.kids = CK' ∧ d.l = D ∧ d.kids = DK'

set_option maxHeartbeats 2000000 in
set_option maxRecDepth 100000 in
theorem left_walk (xb i : Nat) (j : Int) (lv kv clv ckv dlv dkv : Value) (L R : List KV) (m p : KV) (A B : List MT) (cb db : Nat) (C D : List KV) (CK DK CK' DK' : List MT) (w : World)
    (hl : Lies w (.node xb lv kv (L ++ m :: R) (A ++ .node cb clv ckv C CK :: .node db dlv dkv (p :: D) DK :: B))) (hu : Uniq (.node xb lv kv (L ++ m :: R) (A ++ .node cb clv ckv C CK :: .node db dlv dkv (p :: D) DK :: B)))
    (hj : j = (i : Int)) (hi : L.length = i) (hA : A.length = i) (hn : L.length + R.length ≤ 7) (hC : C.length ≤ 7) (hD : D.length ≤ 7) (hCK : CK.length ≤ 8) (hDK : DK.length ≤ 8) (hmv : MovedL CK DK CK' DK') :
    Calls Try.prog 56 #[.pointer (some ⟨xb, 0, none⟩), .int .i64 j] w (LeftPost xb lv kv clv ckv dlv dkv L R m p A B cb db C D CK DK CK' DK' w) := by
  subst hj
  have h3 := S3.begin hl hu
  obtain ⟨hx, hlp, hkn, hch⟩ := lies_node.1 hl
  obtain ⟨kg, kc, hkv, hkc, hkm⟩ := nodes_some hkn (by simp)
  obtain ⟨kn, hkl⟩ : ∃ kn, kn = (A ++ MT.node cb clv ckv C CK :: MT.node db dlv dkv (p :: D) DK :: B).length := ⟨_, rfl⟩
  have hkn2 : i + 1 < kn := by rw [hkl]; simp; omega
  rw [← hkl] at hkv hkc
  subst hkv
  obtain ⟨_, e, -, hk0⟩ := nodes_at hkn i (by omega)
  cases e
  obtain ⟨_, e, -, hk1⟩ := nodes_at hkn (i + 1) (by omega)
  cases e
  rw [List.getElem_append_right (by omega)] at hk0 hk1
  simp only [hA, Nat.sub_self, Nat.add_sub_cancel_left, List.getElem_cons_zero, List.getElem_cons_succ, MT.b] at hk0 hk1
  have hx1 := blk_cell hx 1
  simp only [List.getElem?_cons_succ, List.getElem?_cons_zero] at hx1
  have hi7 : i ≤ 7 := by omega
  have w1 : IntKind.i64.wrap ((i : Int) + 1) = (i : Int) + 1 := IntWalk.i64_in _ (by omega)
  have w2 : (0 : Int) ≤ (i : Int) + 1 := by omega
  have w3 : ((i : Int) + 1).toNat = i + 1 := by omega
  have w4 : (i : Int) + 1 < (kn : Int) := by omega
  have w5 : (i : Int) < (kn : Int) := by omega
  have w6 : (0 : Int) ≤ (i : Int) := by omega
  have HL := Lib.hid hl
  have HU := Lib.hid hu
  have H3 := Lib.hid h3
  have HKL := Lib.hid hkl
  have HI := Lib.hid hi
  have HA := Lib.hid hA
  have HMV := Lib.hid hmv
  clear hl hu h3 hx hlp hkn hch hkl hi hA hmv
  go_enter Try.func56, Try.ntmps56
  go_upto_region 0 with fail
  go_cut [4, 5] (TwoAt w (Nine xb cb db lv (.slice (some ⟨kg, 0, none⟩) kn kc) clv ckv dlv dkv) xb cb db lv (.slice (some ⟨kg, 0, none⟩) kn kc) clv ckv dlv dkv (L ++ m :: R) C (p :: D)
    (kptrs (A ++ .node cb clv ckv C CK :: .node db dlv dkv (p :: D) DK :: B)) (kptrs CK) (kptrs DK))
  case first =>
    go_quiet (fail)
    go_wp2_with fail
    go_meet
    exact ⟨rfl, rfl, H3.out.quiet ((Fr.refl _ _).drewN _)⟩
  case rest =>
    obtain ⟨rfl, rfl, h3⟩ := hcut
    clear H3 hk0 hk1 hx1
    obtain ⟨co, cc, hclv, -⟩ := pairs_slice h3.rc
    obtain ⟨dg, dc, hdlv, -⟩ := pairs_some h3.rd (by simp)
    obtain ⟨lg, lc, hlv, -⟩ := pairs_some h3.rx (by simp)
    obtain ⟨ln, hln⟩ : ∃ ln, ln = (L ++ m :: R).length := ⟨_, rfl⟩
    rw [← hln] at hlv
    rw [List.length_cons] at hdlv
    subst hclv hdlv hlv
    obtain ⟨_, e, -, hm0, hm1⟩ := pairs_at h3.rx i (by simp [HI.out])
    cases e
    rw [List.getElem_append_right (by rw [HI.out]; omega)] at hm0 hm1
    simp only [HI.out, Nat.sub_self, List.getElem_cons_zero] at hm0 hm1
    have q0 := blk_cell h3.c 0
    have q2 := blk_cell h3.x 0
    simp only [List.getElem?_cons_zero] at q0 q2
    have hil : (i : Int) < (ln : Int) := by have := HI.out; rw [hln]; simp; omega
    have l1 := blk_lt h3.c
    have l3 := blk_lt h3.x
    have l4 : lg < wc.heap.size := owns_lt h3.rx rfl
    obtain ⟨i0, hi0, hz0, hz1, hz2⟩ := info_parts info34
    have hnews : ∀ j u, [Value.string m.1, .int .i64 m.2][j]? = some u → (wc.alloc (.cells #[.string m.1, .int .i64 m.2] 34)).drew.cell? ((⟨wc.heap.size, 0, none⟩ : Addr).add j) = some u :=
      World.news_of_block (blk_new wc [.string m.1, .int .i64 m.2] 34)
    have hrc : (wc.alloc (.cells #[.string m.1, .int .i64 m.2] 34)).drew.ownsRow 0 34 2 (.slice co C.length cc) C.length (pcells C) := h3.rc.alloc _
    have HN := Lib.hid hnews
    have HRC := Lib.hid hrc
    have H3 := Lib.hid h3
    have HLN := Lib.hid hln
    clear hnews hrc h3 hln
    go_upto_region 1 with fail
    go_cut [] (fun wd => ∃ cl, S3 w (Nine xb cb db (.slice (some ⟨lg, 0, none⟩) ln lc) (.slice (some ⟨kg, 0, none⟩) kn kc) (.slice co C.length cc) ckv (.slice (some ⟨dg, 0, none⟩) (D.length + 1) dc) dkv) xb cb db (.slice (some ⟨lg, 0, none⟩) ln lc) (.slice (some ⟨kg, 0, none⟩) kn kc) cl ckv (.slice (some ⟨dg, 0, none⟩) (D.length + 1) dc) dkv (L ++ m :: R) (C ++ [m]) (p :: D)
      (kptrs (A ++ .node cb (.slice co C.length cc) ckv C CK :: .node db (.slice (some ⟨dg, 0, none⟩) (D.length + 1) dc) dkv (p :: D) DK :: B)) (kptrs CK) (kptrs DK) wd)
    case first =>
      clear HL HU
      go_region_law (refine step_append_lies _ (by rfl) _ _ 31 (by rfl) 0 34 i0 _ 2 24 Try.underlying31 hi0 hz0 hz1 hz2 rfl (by decide) (.slice co C.length cc) C.length (pcells C) (by rfl) HRC.out ⟨wc.heap.size, 0, none⟩ 1 1 [.string m.1, .int .i64 m.2] (by rfl) (by rfl) HN.out (by simp [Value.oneCell']) (by decide) (by unfold maxLen; omega) (by omega) (Nat.zero_le _) (wc.heap.size + 1) (by simp) ?_; intro g cap w2 hown hgr hat hlt; have hc2 := blk_grown (w := (wc.alloc (.cells #[.string m.1, .int .i64 m.2] 34)).drew) (blk_alloc H3.out.c _) hgr (fun e => row_node H3.out.rc (by decide) H3.out.c e.symm); have q3 := blk_cell hc2 0; have q4 := blk_free hc2 0; simp only [List.getElem?_cons_zero] at q3; have HO2 := Lib.hid hown; have HG2 := Lib.hid hgr; have HAT2 := Lib.hid hat; clear hown hgr hat hc2)
      all_goals
        go_wp2_with fail
        go_meet
        have h4 := (H3.out.alloc (.cells #[.string m.1, .int .i64 m.2] 34)).drew
        have h5 := (h4.swapXC.putL (v := .slice (some ⟨g, 0, none⟩) (C.length + 1) cap) (Y := C ++ [m]) (Fr.of_grown HG2.out) (owns_congr HO2.out (by simp) (by simp [pcells_append, pcells_cons, pcells_nil])) (fun k hk => by
          simp only [Value.ownBlock, Option.some.injEq] at hk
          subst hk
          exact HAT2.out.imp id (fun e => by rw [e]; simp))).swapXC
        exact ⟨_, h5⟩
    case rest =>
      obtain ⟨cl, h3⟩ := hcut
      clear H3 HRC HN q0 q2 hm0 hm1 l1 l3 l4
      obtain ⟨_, e, -, hp0, hp1⟩ := pairs_at h3.rd 0 (by simp)
      cases e
      simp only [List.getElem_cons_zero, Nat.zero_mul, Nat.zero_add] at hp0 hp1
      have q0 := blk_cell h3.x 0
      have q1 := blk_cell h3.d 0
      simp only [List.getElem?_cons_zero] at q0 q1
      obtain ⟨_, e, -, hm0, hm1⟩ := pairs_at h3.rx i (by simp [HI.out])
      cases e
      rw [List.getElem_append_right (by rw [HI.out]; omega)] at hm0 hm1
      simp only [HI.out, Nat.sub_self, List.getElem_cons_zero] at hm0 hm1
      have f0 : wc.frozen? ⟨lg, i * 2, none⟩ = false := (owns_congr h3.rx HLN.out.symm rfl).frozenAt _
      have f1 : wc.frozen? ⟨lg, i * 2 + 1, none⟩ = false := (owns_congr h3.rx HLN.out.symm rfl).frozenAt _
      have hDi : (0 : Int) < (D.length : Int) + 1 := by omega
      have H3 := Lib.hid h3
      clear h3
      go_upto_region 2 with fail
      go_cut [] (S3 w (Nine xb cb db (.slice (some ⟨lg, 0, none⟩) ln lc) (.slice (some ⟨kg, 0, none⟩) kn kc) (.slice co C.length cc) ckv (.slice (some ⟨dg, 0, none⟩) (D.length + 1) dc) dkv) xb cb db (.slice (some ⟨lg, 0, none⟩) ln lc) (.slice (some ⟨kg, 0, none⟩) kn kc) cl ckv (.slice (some ⟨dg, 0, none⟩) (D.length + 1) dc) dkv (L ++ p :: R) (C ++ [m]) (p :: D)
        (kptrs (A ++ .node cb (.slice co C.length cc) ckv C CK :: .node db (.slice (some ⟨dg, 0, none⟩) (D.length + 1) dc) dkv (p :: D) DK :: B)) (kptrs CK) (kptrs DK))
      case first =>
        go_region
        go_wp2_with fail
        go_meet
        have h4 := H3.out.drew
        obtain ⟨a1, a2⟩ := write_pair (owns_congr h4.rx HLN.out.symm rfl) p i HI.out
        exact h4.writeL a2 (owns_congr a1 (by rw [HLN.out]; simp) rfl)
      case rest =>
        have h3 := hcut
        clear H3 hp0 hp1 q0 q1 hm0 hm1 f0 f1
        have hdel : Calls Try.prog 36 #[.slice (some ⟨dg, 0, none⟩) (D.length + 1) dc, .int .i64 0, .int .i64 1] wc (Deleted 34 2 (.slice (some ⟨dg, 0, none⟩) (D.length + 1) dc) (D.length + 1) 0 (pcells (p :: D)) wc) :=
          delP _ _ _ _ _ _ _ (owns_congr h3.rd (by simp) rfl) (by omega) rfl rfl (pcells_one _)
        have q0 := blk_cell h3.d 0
        simp only [List.getElem?_cons_zero] at q0
        have HD := Lib.hid hdel
        have H3 := Lib.hid h3
        clear hdel h3
        go_wp2_with fail
        refine HD.out.mono ?_
        rintro e w2 ⟨g, cap, hown, rfl, hO, hgr⟩
        have h5 := (H3.out.swapXD.putL (v := .slice (some ⟨g, 0, none⟩) (D.length + 1 - 1) cap) (Y := D) (Fr.of_grown hgr) (owns_congr hO (by simp) (by
          rw [Nat.zero_mul, List.take_zero, List.nil_append, pcells_drop]; rfl)) (fun k hk => .inl (hown.trans hk))).swapXD
        have hd2 := blk_fr H3.out.d (Fr.of_grown hgr) (row_node H3.out.rd (by decide) H3.out.d)
        have q1 := blk_cell hd2 0
        have q2 := blk_free hd2 0
        simp only [List.getElem?_cons_zero] at q1
        obtain ⟨cko, cc', hck, -⟩ : ∃ ao c, ckv = .slice ao CK.length c ∧ True := by
          obtain ⟨ao, c, h, _⟩ := owns_form H3.out.kc
          rw [kptrs_length] at h
          exact ⟨ao, c, h, trivial⟩
        obtain ⟨dko, dc', hdk, -⟩ : ∃ ao c, dkv = .slice ao DK.length c ∧ True := by
          obtain ⟨ao, c, h, _⟩ := owns_form H3.out.kd
          rw [kptrs_length] at h
          exact ⟨ao, c, h, trivial⟩
        subst hck hdk
        simp only [Nat.add_sub_cancel] at h5
        have H5 := Lib.hid h5
        clear h5 hown hO hgr hd2 q0
        rcases HMV.out with ⟨rfl, rfl, rfl, rfl⟩ | ⟨q, rfl, rfl⟩
        · go_wp2_with (go_at_call 25; refine (leaf_any db _ _ _ _ _ H5.out.d).mono ?_; rintro e w' ⟨rfl, rfl⟩)
          go_end0
          exact ⟨rfl, _, _, _, _, S3.finish (CK' := []) (DK' := []) HL.out HU.out H5.out (by rw [kptrs_append, kptrs_append, kptrs_cons, kptrs_cons, kptrs_cons, kptrs_cons]; rfl) (liesAll_nil _) (liesAll_nil _) (fun a => Nat.le_refl _), rfl, rfl, rfl, rfl, rfl⟩
        · go_wp2_with (go_at_call 25; refine (leaf_any db _ _ _ _ _ H5.out.d).mono ?_; rintro e w' ⟨rfl, rfl⟩)
          clear q1 q2
          revert H5
          generalize w2.setCell ⟨db, 0, none⟩ (.slice (some ⟨g, 0, none⟩) D.length cap) = wc
          intro H5
          obtain ⟨dkg, kdc, hdk, -, -⟩ := nodes_some (owns_congr H5.out.kd (kptrs_length _) rfl) (by simp)
          simp only [Value.slice.injEq, List.length_cons] at hdk
          obtain ⟨rfl, -, rfl⟩ := hdk
          have hnk : World.nodes wc (.slice (some ⟨dkg, 0, none⟩) (DK'.length + 1) dc') (q :: DK') := owns_congr H5.out.kd (kptrs_length _) rfl
          obtain ⟨_, e, -, hq0⟩ := nodes_at hnk 0 (by simp)
          cases e
          simp only [List.getElem_cons_zero] at hq0
          have q0 := blk_cell H5.out.c 1
          have q1 := blk_cell H5.out.d 1
          simp only [List.getElem?_cons_succ, List.getElem?_cons_zero] at q0 q1
          have l1 := blk_lt H5.out.c
          have l2 := blk_lt H5.out.d
          have l3 : dkg < wc.heap.size := owns_lt H5.out.kd rfl
          have x6 : (0 : Int) < (DK'.length : Int) + 1 := by omega
          obtain ⟨i1, hi1, hy0, hy1, hy2⟩ := info_parts info51
          have hnews : ∀ j u, [Value.pointer (some ⟨q.b, 0, none⟩)][j]? = some u → (wc.alloc (.cells #[.pointer (some ⟨q.b, 0, none⟩)] 51)).drew.cell? ((⟨wc.heap.size, 0, none⟩ : Addr).add j) = some u :=
            World.news_of_block (blk_new wc [.pointer (some ⟨q.b, 0, none⟩)] 51)
          have hrc : (wc.alloc (.cells #[.pointer (some ⟨q.b, 0, none⟩)] 51)).drew.ownsRow 0 51 1 (.slice cko CK.length cc') CK.length (kptrs CK) := owns_congr (H5.out.kc.alloc _) (kptrs_length _) rfl
          have HN := Lib.hid hnews
          have HRC := Lib.hid hrc
          have H3 := H5
          clear H5 hnews hrc hnk
          simp only [List.length_cons]
          go_upto_region 5 with fail
          go_cut [] (fun wd => ∃ ck, S3 w (Nine xb cb db (.slice (some ⟨lg, 0, none⟩) ln lc) (.slice (some ⟨kg, 0, none⟩) kn kc) (.slice co C.length cc) (.slice cko CK.length cc') (.slice (some ⟨dg, 0, none⟩) (D.length + 1) dc) (.slice (some ⟨dkg, 0, none⟩) (DK'.length + 1) dc')) xb cb db (.slice (some ⟨lg, 0, none⟩) ln lc) (.slice (some ⟨kg, 0, none⟩) kn kc) cl ck (.slice (some ⟨g, 0, none⟩) D.length cap) (.slice (some ⟨dkg, 0, none⟩) (DK'.length + 1) dc') (L ++ p :: R) (C ++ [m]) D
            (kptrs (A ++ .node cb (.slice co C.length cc) (.slice cko CK.length cc') C CK :: .node db (.slice (some ⟨dg, 0, none⟩) (D.length + 1) dc) (.slice (some ⟨dkg, 0, none⟩) (DK'.length + 1) dc') (p :: D) (q :: DK') :: B)) (kptrs (CK ++ [q])) (kptrs (q :: DK')) wd)
          case first =>
            clear HL HU
            go_region_law (refine step_append_lies _ (by rfl) _ _ 55 (by rfl) 0 51 i1 _ 1 8 Try.underlying55 hi1 hy0 hy1 hy2 rfl (by decide) (.slice cko CK.length cc') CK.length (kptrs CK) (by rfl) HRC.out ⟨wc.heap.size, 0, none⟩ 1 1 [.pointer (some ⟨q.b, 0, none⟩)] (by rfl) (by rfl) HN.out (by simp [Value.oneCell']) (by decide) (by unfold maxLen; omega) (by omega) (Nat.zero_le _) (wc.heap.size + 1) (by simp) ?_; intro g cap w2 hown hgr hat hlt; have hc2 := blk_grown (w := (wc.alloc (.cells #[.pointer (some ⟨q.b, 0, none⟩)] 51)).drew) (blk_alloc H3.out.c _) hgr (fun e => row_node H3.out.kc (by decide) H3.out.c e.symm); have q3 := blk_cell hc2 1; have q4 := blk_free hc2 1; simp only [List.getElem?_cons_succ, List.getElem?_cons_zero] at q3; have HO2 := Lib.hid hown; have HG2 := Lib.hid hgr; have HAT2 := Lib.hid hat; clear hown hgr hat hc2)
            all_goals
              go_wp2_with fail
              go_meet
              have h4 := (H3.out.alloc (.cells #[.pointer (some ⟨q.b, 0, none⟩)] 51)).drew
              have h5 := (h4.swapXC.putK (v := .slice (some ⟨g, 0, none⟩) (CK.length + 1) cap) (YK := kptrs (CK ++ [q])) (Fr.of_grown HG2.out) (owns_congr HO2.out (by rw [kptrs_length]; simp) (by simp [kptrs])) (fun k hk => by
                simp only [Value.ownBlock, Option.some.injEq] at hk
                subst hk
                exact HAT2.out.imp id (fun e => by rw [e]; simp))).swapXC
              exact ⟨_, h5⟩
          case rest =>
            obtain ⟨ck, h3⟩ := hcut
            clear H3 HN HRC q0 q1 l1 l2 l3 hq0
            have hdel : Calls Try.prog 54 #[.slice (some ⟨dkg, 0, none⟩) (DK'.length + 1) dc', .int .i64 0, .int .i64 1] wc (Deleted 51 1 (.slice (some ⟨dkg, 0, none⟩) (DK'.length + 1) dc') (DK'.length + 1) 0 (kptrs (q :: DK')) wc) :=
              delK _ _ _ _ _ _ _ (owns_congr h3.kd (by rw [kptrs_length]; simp) rfl) (by omega) rfl rfl (kptrs_one _)
            have q0 := blk_cell h3.d 1
            simp only [List.getElem?_cons_succ, List.getElem?_cons_zero] at q0
            have HD := Lib.hid hdel
            have H3 := Lib.hid h3
            clear hdel h3
            go_wp2_with fail
            refine HD.out.mono ?_
            rintro e w2 ⟨g2, cap2, hown, rfl, hO, hgr⟩
            have h5 := (H3.out.swapXD.putK (v := .slice (some ⟨g2, 0, none⟩) (DK'.length + 1 - 1) cap2) (YK := kptrs DK') (Fr.of_grown hgr) (owns_congr hO (by rw [kptrs_length]; simp) (by
              rw [Nat.zero_mul, List.take_zero, List.nil_append, Nat.mul_one]; rfl)) (fun k hk => .inl (hown.trans hk))).swapXD
            have hd2 := blk_fr H3.out.d (Fr.of_grown hgr) (row_node H3.out.kd (by decide) H3.out.d)
            have q1 := blk_cell hd2 1
            have q2 := blk_free hd2 1
            simp only [List.getElem?_cons_succ, List.getElem?_cons_zero] at q1
            have H5 := Lib.hid h5
            clear h5 hown hO hgr hd2 q0
            go_wp2_with fail
            go_end0
            have hch := (lies_node.1 HL.out).2.2.2
            have h2 := (liesAll_append.1 hch).2
            rw [liesAll_cons, liesAll_cons] at h2
            have hd1 := liesAll_cons.1 (lies_node.1 h2.2.1).2.2.2
            exact ⟨rfl, _, _, _, _, S3.finish (CK' := CK ++ [q]) (DK' := DK') HL.out HU.out H5.out (by rw [kptrs_append, kptrs_append, kptrs_cons, kptrs_cons, kptrs_cons, kptrs_cons]; rfl)
              (liesAll_append.2 ⟨(lies_node.1 h2.1).2.2.2, liesAll_cons.2 ⟨hd1.1, liesAll_nil _⟩⟩) hd1.2 (fun a => by rw [cnts_append, cnts_cons, cnts_cons, cnts_nil]; omega), rfl, rfl, rfl, rfl, rfl⟩
end Go.Proofs.Ytaopiolbjnnnfaa
