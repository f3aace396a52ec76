/-
  right: a thing goes from a child to the next one.
-/
import Derived.Test.YtaopiolbjnnnfaaWrite
import Derived.Deep.QuietTactic
import Derived.BigQuiet
import Derived.Deep.DeepCutAuto
namespace Go.Proofs.Ytaopiolbjnnnfaa
open Go.RowKit

/-- the last child goes to the head of the next node's -/
def Moved (n : Nat) (ck dk ck' dk' : List MT) : Prop := (ck = [] ∧ dk = [] ∧ ck' = [] ∧ dk' = []) ∨ ∃ q, ck = ck' ++ [q] ∧ dk' = q :: dk ∧ ck'.length = n + 1

def RightPost (xb : Nat) (lv kv clv ckv dlv dkv : Value) (L R : List KV) (m p : KV) (A B : List MT) (cb db : Nat) (C D : List KV) (CK DK CK' DK' : List MT) (w : World) (e : Ending) (w' : World) : Prop :=
  e = .returned (.tuple #[]) ∧ ∃ lv' kv' c d, Turns w w' (.node xb lv kv (L ++ m :: R) (A ++ .node cb clv ckv (C ++ [p]) CK :: .node db dlv dkv D DK :: B)) (.node xb lv' kv' (L ++ p :: R) (A ++ c :: d :: B)) ∧
    c.b = cb ∧ c.l = C ∧ c.kids = CK' ∧ d.l = m :: D ∧ d.kids = DK'

def Rt1 (w : World) (M : Nat → Prop) (xb cb db : Nat) (xl xk cl ck dk : Value) (X C D : List KV) (XK CK DK : List Value) (W : World) : Prop :=
  ∃ dl, S3 w M xb cb db xl xk cl ck dl dk X C D XK CK DK W

set_option maxHeartbeats 2000000 in
set_option maxRecDepth 100000 in
theorem right_walk (xb i : Nat) (j : Int) (lv kv clv ckv dlv dkv : Value) (L R : List KV) (m p : KV) (A B : List MT) (cb db : Nat) (C D : List KV) (CK DK CK' DK' : List MT) (w : World)
    (hl : Lies w (.node xb lv kv (L ++ m :: R) (A ++ .node cb clv ckv (C ++ [p]) CK :: .node db dlv dkv D DK :: B))) (hu : Uniq (.node xb lv kv (L ++ m :: R) (A ++ .node cb clv ckv (C ++ [p]) CK :: .node db dlv dkv D DK :: B)))
    (hj : j = (i : Int)) (hi : L.length = i) (hA : A.length = i) (hn : L.length + R.length ≤ 7) (hC : C.length ≤ 7) (hD : D.length ≤ 7) (hCK : CK.length ≤ 8) (hDK : DK.length ≤ 8) (hmv : Moved C.length CK DK CK' DK') :
    Calls Try.prog 55 #[.pointer (some ⟨xb, 0, none⟩), .int .i64 j] w (RightPost xb lv kv clv ckv dlv dkv L R m p A B cb db C D CK DK CK' DK' w) := by
  subst hj
  have h3 := S3.begin hl hu
  obtain ⟨hx, hlp, hkn, hch⟩ := lies_node.1 hl
  obtain ⟨kg, kc, hkv, hkc, hkm⟩ := nodes_some hkn (by simp)
  obtain ⟨kn, hkl⟩ : ∃ kn, kn = (A ++ MT.node cb clv ckv (C ++ [p]) CK :: MT.node db dlv dkv D DK :: B).length := ⟨_, rfl⟩
  have hkn2 : i + 1 < kn := by rw [hkl]; simp; omega
  rw [← hkl] at hkv hkc
  subst hkv
  obtain ⟨_, e, -, hk0⟩ := nodes_at hkn i (by omega)
  cases e
  obtain ⟨_, e, -, hk1⟩ := nodes_at hkn (i + 1) (by omega)
  cases e
  rw [List.getElem_append_right (by omega)] at hk0 hk1
  simp only [hA, Nat.sub_self, Nat.add_sub_cancel_left, List.getElem_cons_zero, List.getElem_cons_succ, MT.b] at hk0 hk1
  have hx1 := blk_cell hx 1
  simp only [List.getElem?_cons_succ, List.getElem?_cons_zero] at hx1
  have hi7 : i ≤ 7 := by omega
  have w1 : IntKind.i64.wrap ((i : Int) + 1) = (i : Int) + 1 := IntWalk.i64_in _ (by omega)
  have w2 : (0 : Int) ≤ (i : Int) + 1 := by omega
  have w3 : ((i : Int) + 1).toNat = i + 1 := by omega
  have w4 : (i : Int) + 1 < (kn : Int) := by omega
  have w5 : (i : Int) < (kn : Int) := by omega
  have w6 : (0 : Int) ≤ (i : Int) := by omega
  have HL := Lib.hid hl
  have HU := Lib.hid hu
  have H3 := Lib.hid h3
  have HKL := Lib.hid hkl
  have HI := Lib.hid hi
  have HA := Lib.hid hA
  have HMV := Lib.hid hmv
  clear hl hu h3 hx hlp hkn hch hkl hi hA hmv
  go_enter Try.func55, Try.ntmps55
  go_upto_region 0 with fail
  go_cut [4, 5] (TwoAt w (Nine xb cb db lv (.slice (some ⟨kg, 0, none⟩) kn kc) clv ckv dlv dkv) xb cb db lv (.slice (some ⟨kg, 0, none⟩) kn kc) clv ckv dlv dkv (L ++ m :: R) (C ++ [p]) D
    (kptrs (A ++ .node cb clv ckv (C ++ [p]) CK :: .node db dlv dkv D DK :: B)) (kptrs CK) (kptrs DK))
  case first =>
    go_quiet (fail)
    go_wp2_with fail
    go_meet
    exact ⟨rfl, rfl, H3.out.quiet ((Fr.refl _ _).drewN _)⟩
  case rest =>
    obtain ⟨rfl, rfl, h3⟩ := hcut
    clear H3 hk0 hk1 hx1
    obtain ⟨cg, cc, hclv, hcc, hcm⟩ := pairs_some h3.rc (by simp)
    obtain ⟨dO, dc, hdlv, -⟩ := pairs_slice h3.rd
    obtain ⟨lg, lc, hlv, -⟩ := pairs_some h3.rx (by simp)
    obtain ⟨ln, hln⟩ : ∃ ln, ln = (L ++ m :: R).length := ⟨_, rfl⟩
    rw [← hln] at hlv
    rw [List.length_append, List.length_singleton] at hclv hcc
    subst hclv hdlv hlv
    obtain ⟨_, e, -, hm0, hm1⟩ := pairs_at h3.rx i (by simp [HI.out])
    cases e
    rw [List.getElem_append_right (by rw [HI.out]; omega)] at hm0 hm1
    simp only [HI.out, Nat.sub_self, List.getElem_cons_zero] at hm0 hm1
    have q0 := blk_cell h3.c 0
    have q1 := blk_cell h3.d 0
    have q2 := blk_cell h3.x 0
    simp only [List.getElem?_cons_zero] at q0 q1 q2
    have hil : (i : Int) < (ln : Int) := by have := HI.out; rw [hln]; simp; omega
    have l1 := blk_lt h3.c
    have l2 := blk_lt h3.d
    have l3 := blk_lt h3.x
    have l4 : lg < wc.heap.size := owns_lt h3.rx rfl
    have hins : Calls Try.prog 26 #[.slice dO D.length dc, .int .i64 0, .slice (some ⟨wc.heap.size, 0, none⟩) 1 1] (wc.alloc (.cells #[.string m.1, .int .i64 m.2] 34)).drew
        (Inserted 34 2 (.slice dO D.length dc) D.length 0 (pcells D) [.string m.1, .int .i64 m.2] (wc.alloc (.cells #[.string m.1, .int .i64 m.2] 34)).drew) :=
      insP _ _ 0 _ wc.heap.size _ _ _ (h3.rd.alloc _) (by omega) (blk_new wc _ _) (fun e => by have := owns_lt h3.rd e; omega) (by simp [Value.oneCell']) (pcells_one _) (by omega)
    have HINS := Lib.hid hins
    have H3 := Lib.hid h3
    have HLN := Lib.hid hln
    clear hins h3 hln
    go_upto_region 2 with fail
    go_cut [] (Rt1 w (Nine xb cb db (.slice (some ⟨lg, 0, none⟩) ln lc) (.slice (some ⟨kg, 0, none⟩) kn kc) (.slice (some ⟨cg, 0, none⟩) (C.length + 1) cc) ckv (.slice dO D.length dc) dkv) xb cb db (.slice (some ⟨lg, 0, none⟩) ln lc) (.slice (some ⟨kg, 0, none⟩) kn kc) (.slice (some ⟨cg, 0, none⟩) (C.length + 1) cc) ckv dkv (L ++ m :: R) (C ++ [p]) (m :: D)
      (kptrs (A ++ .node cb (.slice (some ⟨cg, 0, none⟩) (C.length + 1) cc) ckv (C ++ [p]) CK :: .node db (.slice dO D.length dc) dkv D DK :: B)) (kptrs CK) (kptrs DK))
    case first =>
      clear HL HU
      go_region_with (go_at_call 26; refine HINS.out.mono ?_; rintro e w2 ⟨g, cap, rfl, hown, hgr, hat⟩; have hd2 := blk_grown (w := (wc.alloc (.cells #[.string m.1, .int .i64 m.2] 34)).drew) (blk_alloc H3.out.d _) hgr (fun e => row_node H3.out.rd (by decide) H3.out.d e.symm); have q3 := blk_cell hd2 0; have q4 := blk_free hd2 0; simp only [List.getElem?_cons_zero] at q3; have HO2 := Lib.hid hown; have HG2 := Lib.hid hgr; have HAT2 := Lib.hid hat; clear hown hgr hat hd2)
      all_goals
        go_wp2_with fail
        go_meet
        have h4 := (H3.out.alloc (.cells #[.string m.1, .int .i64 m.2] 34)).drew
        have h5 := (h4.swapXD.putL (v := .slice (some ⟨g, 0, none⟩) (D.length + 1) cap) (Y := m :: D) (Fr.of_grown HG2.out) (owns_congr HO2.out (by simp) (by simp [pcells_cons])) (fun k hk => by
          simp only [Value.ownBlock, Option.some.injEq] at hk
          subst hk
          exact HAT2.out.imp id (fun e => by rw [e]; exact Nat.le_refl _))).swapXD
        exact ⟨_, h5⟩
    case rest =>
      obtain ⟨dl, h3⟩ := hcut
      clear H3 HINS q0 q1 q2 hm0 hm1 l1 l2 l3 l4
      obtain ⟨_, e, -, hp0, hp1⟩ := pairs_at h3.rc C.length (by simp)
      cases e
      rw [List.getElem_append_right (by omega)] at hp0 hp1
      simp only [Nat.sub_self, List.getElem_cons_zero] at hp0 hp1
      have q0 := blk_cell h3.x 0
      have q1 := blk_cell h3.c 0
      have q2 := blk_free h3.c 0
      simp only [List.getElem?_cons_zero] at q0 q1
      obtain ⟨_, e, -, hm0, hm1⟩ := pairs_at h3.rx i (by simp [HI.out])
      cases e
      rw [List.getElem_append_right (by rw [HI.out]; omega)] at hm0 hm1
      simp only [HI.out, Nat.sub_self, List.getElem_cons_zero] at hm0 hm1
      have f0 : wc.frozen? ⟨lg, i * 2, none⟩ = false := (owns_congr h3.rx HLN.out.symm rfl).frozenAt _
      have f1 : wc.frozen? ⟨lg, i * 2 + 1, none⟩ = false := (owns_congr h3.rx HLN.out.symm rfl).frozenAt _
      have n1 : ¬ lg = cg := fun e => h3.axc lg rfl (by rw [e]; rfl)
      have n2 : ¬ lg = cb := fun e => row_node h3.rx (by decide) h3.c (by rw [e]; rfl)
      have hCi : (C.length : Int) < (C.length : Int) + 1 := by omega
      have H3 := Lib.hid h3
      clear h3
      go_upto_region 3 with fail
      go_cut [] (S3 w (Nine xb cb db (.slice (some ⟨lg, 0, none⟩) ln lc) (.slice (some ⟨kg, 0, none⟩) kn kc) (.slice (some ⟨cg, 0, none⟩) (C.length + 1) cc) ckv (.slice dO D.length dc) dkv) xb cb db (.slice (some ⟨lg, 0, none⟩) ln lc) (.slice (some ⟨kg, 0, none⟩) kn kc) (.slice (some ⟨cg, 0, none⟩) C.length cc) ckv dl dkv (L ++ p :: R) C (m :: D)
        (kptrs (A ++ .node cb (.slice (some ⟨cg, 0, none⟩) (C.length + 1) cc) ckv (C ++ [p]) CK :: .node db (.slice dO D.length dc) dkv D DK :: B)) (kptrs CK) (kptrs DK))
      case first =>
        go_region
        go_wp2_with fail
        go_meet
        have h4 := H3.out.drew
        obtain ⟨a1, a2⟩ := write_pair (owns_congr h4.rx HLN.out.symm rfl) p i HI.out
        have h5 := h4.writeL a2 (owns_congr a1 (by rw [HLN.out]; simp) rfl)
        have h6 := owns_cut (owns_congr h5.rc (n' := C.length + 1) (by simp) rfl) C.length (by omega)
        rw [pcells_take, List.take_left' rfl] at h6
        exact (h5.swapXC.putL (v := .slice (some ⟨cg, 0, none⟩) C.length cc) (Y := C) (Fr.refl _ _) h6 (fun k hk => .inl hk)).swapXC
      case rest =>
        have h3 := hcut
        clear H3 hp0 hp1 q0 q1 q2 hm0 hm1 f0 f1 n1 n2
        obtain ⟨cko, cc', hck, -⟩ : ∃ ao c, ckv = .slice ao CK.length c ∧ True := by
          obtain ⟨ao, c, h, _⟩ := owns_form h3.kc
          rw [kptrs_length] at h
          exact ⟨ao, c, h, trivial⟩
        obtain ⟨dko, dc', hdk, -⟩ : ∃ ao c, dkv = .slice ao DK.length c ∧ True := by
          obtain ⟨ao, c, h, _⟩ := owns_form h3.kd
          rw [kptrs_length] at h
          exact ⟨ao, c, h, trivial⟩
        subst hck hdk
        rcases HMV.out with ⟨rfl, rfl, rfl, rfl⟩ | ⟨q, rfl, rfl, hq⟩
        · have H3 := Lib.hid h3
          clear h3
          go_wp2_with (go_at_call 25; refine (leaf_any cb _ _ _ _ _ H3.out.c).mono ?_; rintro e w' ⟨rfl, rfl⟩)
          go_end0
          exact ⟨rfl, _, _, _, _, S3.finish (CK' := []) (DK' := []) HL.out HU.out H3.out (by rw [kptrs_append, kptrs_append, kptrs_cons, kptrs_cons, kptrs_cons, kptrs_cons]; rfl) (liesAll_nil _) (liesAll_nil _) (fun a => Nat.le_refl _), rfl, rfl, rfl, rfl, rfl⟩
        · obtain ⟨kn2, hkn2⟩ : ∃ kn2, kn2 = (CK' ++ [q]).length := ⟨_, rfl⟩
          have hkn3 : kn2 = C.length + 2 := by rw [hkn2]; simp; omega
          rw [← hkn2] at h3
          obtain ⟨kcg, kcc, hck, hkcc, hkcm⟩ := nodes_some (owns_congr h3.kc (kptrs_length _) rfl) (by simp)
          rw [← hkn2] at hck
          simp only [Value.slice.injEq] at hck
          obtain ⟨rfl, -, rfl⟩ := hck
          have hnk : World.nodes wc (.slice (some ⟨kcg, 0, none⟩) kn2 cc') (CK' ++ [q]) := owns_congr h3.kc (kptrs_length _) rfl
          obtain ⟨_, e, -, hq0⟩ := nodes_at hnk (C.length + 1) (by simp; omega)
          cases e
          rw [List.getElem_append_right (by omega)] at hq0
          simp only [hq, Nat.sub_self, List.getElem_cons_zero] at hq0
          have q0 := blk_cell h3.c 1
          have q1 := blk_cell h3.d 1
          have q2 := blk_free h3.c 1
          simp only [List.getElem?_cons_succ, List.getElem?_cons_zero] at q0 q1
          have l1 := blk_lt h3.c
          have l2 := blk_lt h3.d
          have l3 : kcg < wc.heap.size := owns_lt h3.kc rfl
          have x1 : IntKind.i64.wrap ((C.length : Int) + 1) = (C.length : Int) + 1 := IntWalk.i64_in _ (by omega)
          have x2 : (0 : Int) ≤ (C.length : Int) + 1 := by omega
          have x3 : ((C.length : Int) + 1).toNat = C.length + 1 := by omega
          have x4 : (C.length : Int) + 1 < (kn2 : Int) := by omega
          have x5 : decide (kn2 = 0) = false := by simp; omega
          have x6 : C.length + 1 ≤ kn2 := by omega
          have x7 : C.length + 1 ≤ cc' := by rw [← hkn2] at hkcc; omega
          have hins : Calls Try.prog 45 #[.slice dko DK.length dc', .int .i64 0, .slice (some ⟨wc.heap.size, 0, none⟩) 1 1] (wc.alloc (.cells #[.pointer (some ⟨q.b, 0, none⟩)] 51)).drew
              (Inserted 51 1 (.slice dko DK.length dc') DK.length 0 (kptrs DK) [.pointer (some ⟨q.b, 0, none⟩)] (wc.alloc (.cells #[.pointer (some ⟨q.b, 0, none⟩)] 51)).drew) :=
            insK _ _ 0 _ wc.heap.size _ _ (owns_congr (h3.kd.alloc _) (kptrs_length _) rfl) (by omega) (blk_new wc _ _) (fun e => by have := owns_lt h3.kd e; omega) (by simp [Value.oneCell']) (kptrs_one _) (by omega)
          have HINS := Lib.hid hins
          have H3 := Lib.hid h3
          have HQ := Lib.hid hq
          have HKN2 := Lib.hid hkn2
          have HKN3 := Lib.hid hkn3
          clear hins h3 hq hkn2 hkn3 hnk hkcc hkcm
          go_wp2_with (go_at_call 25; refine (leaf_any cb _ _ _ _ _ H3.out.c).mono ?_; rintro e w' ⟨rfl, rfl⟩)
          go_upto_region 5 with fail
          go_cut [] (fun wd => ∃ dk, S3 w (Nine xb cb db (.slice (some ⟨lg, 0, none⟩) ln lc) (.slice (some ⟨kg, 0, none⟩) kn kc) (.slice (some ⟨cg, 0, none⟩) (C.length + 1) cc) (.slice (some ⟨kcg, 0, none⟩) kn2 cc') (.slice dO D.length dc) (.slice dko DK.length dc')) xb cb db (.slice (some ⟨lg, 0, none⟩) ln lc) (.slice (some ⟨kg, 0, none⟩) kn kc) (.slice (some ⟨cg, 0, none⟩) C.length cc) (.slice (some ⟨kcg, 0, none⟩) kn2 cc') dl dk (L ++ p :: R) C (m :: D)
            (kptrs (A ++ .node cb (.slice (some ⟨cg, 0, none⟩) (C.length + 1) cc) (.slice (some ⟨kcg, 0, none⟩) kn2 cc') (C ++ [p]) (CK' ++ [q]) :: .node db (.slice dO D.length dc) (.slice dko DK.length dc') D DK :: B)) (kptrs (CK' ++ [q])) (kptrs (q :: DK)) wd)
          case first =>
            clear HL HU
            go_region_with (go_at_call 45; refine HINS.out.mono ?_; rintro e w2 ⟨g, cap, rfl, hown, hgr, hat⟩; have hd2 := blk_grown (w := (wc.alloc (.cells #[.pointer (some ⟨q.b, 0, none⟩)] 51)).drew) (blk_alloc H3.out.d _) hgr (fun e => row_node H3.out.kd (by decide) H3.out.d e.symm); have q3 := blk_cell hd2 1; have q4 := blk_free hd2 1; simp only [List.getElem?_cons_succ, List.getElem?_cons_zero] at q3; have HO2 := Lib.hid hown; have HG2 := Lib.hid hgr; have HAT2 := Lib.hid hat; clear hown hgr hat hd2)
            all_goals
              go_wp2_with fail
              go_meet
              have h4 := (H3.out.alloc (.cells #[.pointer (some ⟨q.b, 0, none⟩)] 51)).drew
              have h5 := (h4.swapXD.putK (v := .slice (some ⟨g, 0, none⟩) (DK.length + 1) cap) (YK := kptrs (q :: DK)) (Fr.of_grown HG2.out) (owns_congr HO2.out (by rw [kptrs_length]; simp) (by simp [kptrs_cons])) (fun k hk => by
                simp only [Value.ownBlock, Option.some.injEq] at hk
                subst hk
                exact HAT2.out.imp id (fun e => by rw [e]; exact Nat.le_refl _))).swapXD
              exact ⟨_, h5⟩
          case rest =>
            obtain ⟨dk, h3⟩ := hcut
            clear H3 HINS q0 q1 q2 l1 l2 l3 hq0
            have q0 := blk_cell h3.c 1
            have q2 := blk_free h3.c 1
            simp only [List.getElem?_cons_succ, List.getElem?_cons_zero] at q0
            have H3 := Lib.hid h3
            clear h3
            go_wp2_with fail
            go_end0
            have h3 := H3.out
            have h6 := owns_cut (owns_congr h3.kc (n' := kn2) (by rw [kptrs_length]; exact HKN2.out.symm) rfl) (C.length + 1) x6
            rw [Nat.mul_one, kptrs_append, List.take_left' (by rw [kptrs_length]; exact HQ.out)] at h6
            have h7 := (h3.swapXC.putK (v := .slice (some ⟨kcg, 0, none⟩) (C.length + 1) cc') (YK := kptrs CK') (Fr.refl _ _) (owns_congr h6 (by rw [kptrs_length]; exact HQ.out.symm) rfl) (fun k hk => .inl hk)).swapXC
            have hch := (lies_node.1 HL.out).2.2.2
            have h2 := (liesAll_append.1 hch).2
            rw [liesAll_cons, liesAll_cons] at h2
            have hc1 := liesAll_append.1 (lies_node.1 h2.1).2.2.2
            exact ⟨rfl, _, _, _, _, S3.finish (CK' := CK') (DK' := q :: DK) HL.out HU.out h7 (by rw [kptrs_append, kptrs_append, kptrs_cons, kptrs_cons, kptrs_cons, kptrs_cons]; rfl) hc1.1
              (liesAll_cons.2 ⟨(liesAll_cons.1 hc1.2).1, (lies_node.1 h2.2.1).2.2.2⟩) (fun a => by rw [cnts_append, cnts_cons, cnts_cons, cnts_nil]; omega), rfl, rfl, rfl, rfl, rfl⟩
end Go.Proofs.Ytaopiolbjnnnfaa
