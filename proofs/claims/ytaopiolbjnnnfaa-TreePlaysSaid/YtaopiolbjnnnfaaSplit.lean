/-
  split: a full child into two.
-/
import Derived.Test.YtaopiolbjnnnfaaSplitEnd
namespace Go.Proofs.Ytaopiolbjnnnfaa
open Go.RowKit

/-- behind the first statements: the new node stands -/
structure SplitA (w : World) (xb cb : Nat) (lv kv clv ckv' : Value) (cl2 : List KV) (ck2 : List MT) (rb g1 cap1 : Nat) (rkv : Value) (W : World) : Prop where
  fr : Fr (fun a => a = cb) w W
  x : World.blk W xb [lv, kv] 57
  c : World.blk W cb [clv, ckv'] 57
  r : World.blk W rb [.slice (some ⟨g1, 0, none⟩) 3 cap1, rkv] 57
  rl : World.pairs W (.slice (some ⟨g1, 0, none⟩) 3 cap1) cl2
  rk : World.nodes W rkv ck2
  nrb : w.heap.size ≤ rb
  ng1 : w.heap.size ≤ g1
  nrk : ∀ k, rkv.ownBlock = some k → w.heap.size ≤ k

def SplitAx (w : World) (xb cb : Nat) (lv kv clv ckv : Value) (cl2 : List KV) (ck1 ck2 : List MT) (v5 : Value) (W : World) : Prop :=
  ∃ rb g1 cap1 rkv ckv', v5 = .pointer (some ⟨rb, 0, none⟩) ∧ SplitA w xb cb lv kv clv ckv' cl2 ck2 rb g1 cap1 rkv W ∧ World.nodes w ckv' ck1 ∧ (∀ k, ckv'.ownBlock = some k → ckv.ownBlock = some k)

/-- .. and its key has gone up -/
structure SplitB (w : World) (xb cb : Nat) (lv kv clv ckv' : Value) (l : List KV) (cl2 : List KV) (ck2 : List MT) (rb g1 cap1 : Nat) (rkv lv' : Value) (W : World) : Prop where
  fr : Fr (fun a => a = cb ∨ a = xb ∨ lv.ownBlock = some a) w W
  x : World.blk W xb [lv', kv] 57
  c : World.blk W cb [clv, ckv'] 57
  r : World.blk W rb [.slice (some ⟨g1, 0, none⟩) 3 cap1, rkv] 57
  rl : World.pairs W (.slice (some ⟨g1, 0, none⟩) 3 cap1) cl2
  rk : World.nodes W rkv ck2
  xl : World.pairs W lv' l
  old : ∀ k, lv'.ownBlock = some k → lv.ownBlock = some k ∨ w.heap.size ≤ k
  ne : lv'.ownBlock ≠ some g1

def SplitBx (w : World) (xb cb : Nat) (lv kv clv ckv' : Value) (l : List KV) (cl2 : List KV) (ck2 : List MT) (rb g1 cap1 : Nat) (rkv : Value) (W : World) : Prop :=
  ∃ g n cap, SplitB w xb cb lv kv clv ckv' l cl2 ck2 rb g1 cap1 rkv (.slice (some ⟨g, 0, none⟩) n cap) W

def SplitPost (xb : Nat) (lv kv clv ckv : Value) (L R : List KV) (A B : List MT) (cb : Nat) (cl1 cl2 : List KV) (m : KV) (ck1 ck2 : List MT) (w : World) (e : Ending) (w' : World) : Prop :=
  e = .returned (.tuple #[]) ∧ ∃ lv' kv' c r, Turns w w' (.node xb lv kv (L ++ R) (A ++ .node cb clv ckv (cl1 ++ m :: cl2) (ck1 ++ ck2) :: B)) (.node xb lv' kv' (L ++ m :: R) (A ++ c :: r :: B)) ∧
    c.b = cb ∧ c.l = cl1 ∧ c.kids = ck1 ∧ r.l = cl2 ∧ r.kids = ck2

set_option maxHeartbeats 2000000 in
set_option maxRecDepth 100000 in
theorem split_walk (xb i : Nat) (lv kv clv ckv : Value) (L R : List KV) (A B : List MT) (cb : Nat) (cl1 cl2 : List KV) (m : KV) (ck1 ck2 : List MT) (w : World)
    (hl : Lies w (.node xb lv kv (L ++ R) (A ++ .node cb clv ckv (cl1 ++ m :: cl2) (ck1 ++ ck2) :: B)))
    (hu : Uniq (.node xb lv kv (L ++ R) (A ++ .node cb clv ckv (cl1 ++ m :: cl2) (ck1 ++ ck2) :: B)))
    (hi : L.length = i) (hA : A.length = i) (h1 : cl1.length = 3) (h2 : cl2.length = 3) (hk : ck1 = [] ∧ ck2 = [] ∨ ck1.length = 4 ∧ ck2.length = 4) (hn : L.length + R.length ≤ 7) (hbn : B.length ≤ 7) :
    Calls Try.prog 23 #[.pointer (some ⟨xb, 0, none⟩), .int .i64 i] w (SplitPost xb lv kv clv ckv L R A B cb cl1 cl2 m ck1 ck2 w) := by
  obtain ⟨hx, hlp, hkn, hch⟩ := lies_node.1 hl
  obtain ⟨hAl, hcl, hBl⟩ : LiesAll w A ∧ Lies w _ ∧ LiesAll w B := by
    have := liesAll_append.1 hch
    exact ⟨this.1, (liesAll_cons.1 this.2).1, (liesAll_cons.1 this.2).2⟩
  obtain ⟨hc, hcp, hckn, hck⟩ := lies_node.1 hcl
  have hne : xb ≠ cb := fun e => by
    subst e
    have := hu xb
    rw [cnt_node, cnts_append, cnts_cons, cnt_node, one_self] at this
    omega
  obtain ⟨kg, hk1, -, hki⟩ : ∃ kg, (∃ kc, kv = .slice (some ⟨kg, 0, none⟩) (i + (B.length + 1)) kc) ∧ True ∧ w.cell? ⟨kg, i, none⟩ = some (.pointer (some ⟨cb, 0, none⟩)) := by
    obtain ⟨kg, kc, rfl, h⟩ := nodes_some hkn (by simp)
    obtain ⟨_, e, -, hc⟩ := nodes_at hkn i (by simp; omega)
    cases e
    rw [List.getElem_append_right (by omega)] at hc
    simp only [hA, Nat.sub_self, List.getElem_cons_zero, MT.b] at hc
    exact ⟨kg, ⟨kc, by simp [hA]⟩, trivial, hc⟩
  obtain ⟨kc, rfl⟩ := hk1
  obtain ⟨clg, clc, hclv, hclc, -⟩ := pairs_some hcp (by simp)
  rw [show (cl1 ++ m :: cl2).length = 7 by simp; omega] at hclv hclc
  subst hclv
  obtain ⟨lo, lc, hlv, hlc⟩ := pairs_slice hlp
  rw [List.length_append] at hlv
  subst hlv
  obtain ⟨cko, ckc, hckv, hckc⟩ := nodes_slice hckn
  obtain ⟨ckn, hckn'⟩ : ∃ ckn, ckn = (ck1 ++ ck2).length := ⟨_, rfl⟩
  rw [← hckn'] at hckv hckc
  subst hckv
  have n4 : ¬ clc = 4 := by omega
  have hkl : i < i + (B.length + 1) := by omega
  have hi7 : i ≤ 7 := by omega
  have hsep : ∀ k, (Value.slice lo (L.length + R.length) lc).ownBlock = some k → ¬ k = cb := fun k hk e => by
    obtain ⟨cur, hb⟩ := owns_blk hlp hk
    subst e
    exact absurd (blk_type hc hb) (by decide)
  have hxl : some xb ≠ (Value.slice lo (L.length + R.length) lc).ownBlock := fun e => by
    obtain ⟨cur, hb⟩ := owns_blk hlp e.symm
    exact absurd (blk_type hx hb) (by decide)
  have hn24 : (L.length + R.length + 1) * 24 ≤ 140737488355328 := by omega
  have HSEP := Lib.hid hsep
  have HXL := Lib.hid hxl
  have HN := Lib.hid hn24
  have HI := Lib.hid hi
  have HAL := Lib.hid hA
  have HBN := Lib.hid hbn
  have HAN : Hid (i ≤ 7) := by show i ≤ 7; omega
  have HKN : Hid (w.ownsRow 0 51 1 (.slice (some ⟨kg, 0, none⟩) (i + (B.length + 1)) kc) (i + (B.length + 1)) (kptrs (A ++ .node cb (.slice (some ⟨clg, 0, none⟩) 7 clc) (.slice cko ckn ckc) (cl1 ++ m :: cl2) (ck1 ++ ck2) :: B))) :=
    owns_congr hkn (by simp [hA]) rfl
  have HLP := Lib.hid hlp
  have HL := Lib.hid hl
  have HU := Lib.hid hu
  have HC := Lib.hid hc
  have HX := Lib.hid hx
  have HCP := Lib.hid hcp
  have HCK := Lib.hid hckn
  have H1 := Lib.hid h1
  have H2 := Lib.hid h2
  have HK := Lib.hid hk
  have HCN := Lib.hid hckn'
  have hx0 := blk_cell hx 0
  have hx1 := blk_cell hx 1
  have hc0 := blk_cell hc 0
  have hc1 := blk_cell hc 1
  simp only [List.getElem?_cons_succ, List.getElem?_cons_zero] at hx0 hx1 hc0 hc1
  clear hsep hxl hn24 hi hA h1 h2 hk hn hckn' hlc hl hu hx hlp hkn hch hAl hcl hBl hc hcp hckn hck
  go_enter Try.func23, Try.ntmps23
  go_wp2_with fail
  refine (cloP ⟨clg, 8, none⟩ 3 (clc - 4) (pcells cl2) w (by rw [pcells_length, H2.out]) (by omega) (pairs_piece HCP.out (X := cl1 ++ [m]) (Y := cl2) (Z := []) (by simp) 8 (by simp [H1.out])) (pcells_one _) (by omega)).mono ?_
  rintro e w1 ⟨g1, cap1, rfl, hown1, hF1, hge1⟩
  have HO1 : Hid (World.pairs w1 (.slice (some ⟨g1, 0, none⟩) 3 cap1) cl2) := by show w1.ownsRow 0 34 2 _ cl2.length _; rw [H2.out]; exact hown1
  have HF1 := Lib.hid hF1
  have hc1b := blk_fr HC.out hF1 (fun h => h)
  have hlt1 := blk_lt hc1b
  have hlt2 : xb < w1.heap.size := Nat.lt_of_lt_of_le (blk_lt HX.out) hF1.size
  have HC1 := Lib.hid hc1b
  have HX1 := Lib.hid (blk_fr HX.out hF1 (fun h => h))
  clear hown1 hF1 hc1b
  go_upto_if 23 with (go_at_call 25; refine (leaf_any cb _ _ _ _ _ (blk_alloc HC1.out _)).mono ?_; rintro e w' ⟨rfl, rfl⟩)
  go_cut [5] (SplitAx w xb cb (.slice lo (L.length + R.length) lc) (.slice (some ⟨kg, 0, none⟩) (i + (B.length + 1)) kc) (.slice (some ⟨clg, 0, none⟩) 7 clc) (.slice cko ckn ckc) cl2 ck1 ck2)
  case first =>
    have hr1 : World.blk (w1.alloc (.cells #[.slice (some ⟨g1, 0, none⟩) 3 cap1, .slice none 0 0] 57)) w1.heap.size [.slice (some ⟨g1, 0, none⟩) 3 cap1, .slice none 0 0] 57 := blk_new w1 _ _
    have hFa : Fr (fun _ => False) w (w1.alloc (.cells #[.slice (some ⟨g1, 0, none⟩) 3 cap1, .slice none 0 0] 57)) := HF1.out.alloc _
    have hca : World.blk (w1.alloc (.cells #[.slice (some ⟨g1, 0, none⟩) 3 cap1, .slice none 0 0] 57)) cb _ 57 := blk_alloc HC1.out _
    have hxa : World.blk (w1.alloc (.cells #[.slice (some ⟨g1, 0, none⟩) 3 cap1, .slice none 0 0] 57)) xb _ 57 := blk_alloc HX1.out _
    have hoa : World.pairs (w1.alloc (.cells #[.slice (some ⟨g1, 0, none⟩) 3 cap1, .slice none 0 0] 57)) (.slice (some ⟨g1, 0, none⟩) 3 cap1) cl2 := HO1.out.alloc _
    have hsz : w.heap.size ≤ w1.heap.size := HF1.out.size
    rcases HK.out with ⟨rfl, rfl⟩ | ⟨h4, h5⟩
    · obtain rfl : ckn = 0 := HCN.out
      have HA := Lib.hid (show SplitAx w xb cb (.slice lo (L.length + R.length) lc) (.slice (some ⟨kg, 0, none⟩) (i + (B.length + 1)) kc) (.slice (some ⟨clg, 0, none⟩) 7 clc) (.slice cko 0 ckc) cl2 [] [] (.pointer (some ⟨w1.heap.size, 0, none⟩)) (w1.alloc (.cells #[.slice (some ⟨g1, 0, none⟩) 3 cap1, .slice none 0 0] 57)) from
        ⟨w1.heap.size, g1, cap1, .slice none 0 0, .slice cko 0 ckc, rfl, ⟨hFa.mono (fun _ _ h => h.elim), hxa, hca, hr1, hoa, World.ownsRow_nil _ _ _ _, hsz, hge1, fun k hk => by simp [Value.ownBlock] at hk⟩, HCK.out, fun k hk => hk⟩)
      clear hr1 hFa hca hxa hoa
      go_wp2_with fail
      go_meet
      exact HA.out
    · have hck8 : ckn = 8 := by have := HCN.out; simp at this; omega
      subst hck8
      obtain ⟨ckg, _, hv, hckc'⟩ := nodes_some HCK.out (by intro e; have := HCN.out; rw [e] at this; simp at this)
      rw [← HCN.out] at hckc'
      simp only [Value.slice.injEq] at hv
      obtain ⟨rfl, -, rfl⟩ := hv
      have hckm : ckc ≤ maxLen := hckc'.2
      unfold maxLen at hckm
      have n5 : ¬ ckc = 4 := by omega
      have hka : World.nodes (w1.alloc (.cells #[.slice (some ⟨g1, 0, none⟩) 3 cap1, .slice none 0 0] 57)) (.slice (some ⟨ckg, 0, none⟩) 8 ckc) (ck1 ++ ck2) := owns_fr HCK.out hFa (fun _ _ h => h)
      have d1 : (w1.alloc (.cells #[.slice (some ⟨g1, 0, none⟩) 3 cap1, .slice none 0 0] 57)).cell? ⟨cb, 1, none⟩ = some (.slice (some ⟨ckg, 0, none⟩) 8 ckc) := blk_cell hca 1
      have H4 := Lib.hid h4
      have H5 := Lib.hid h5
      have HR1 := Lib.hid hr1
      have HFa := Lib.hid hFa
      have HCa := Lib.hid hca
      have HXa := Lib.hid hxa
      have HOa := Lib.hid hoa
      have HKa := Lib.hid hka
      clear hckc' h4 h5 hr1 hFa hca hxa hoa hka
      go_wp2_with fail
      refine (cloK ⟨ckg, 4, none⟩ 4 (ckc - 4) (kptrs ck2) _ (by rw [kptrs_length, H5.out]) (by omega) (nodes_piece HKa.out (X := ck1) (Y := ck2) (Z := []) (by simp) 4 H4.out.symm) (kptrs_one _) (by omega)).mono ?_
      rintro e w2 ⟨g2, cap2, rfl, hown2, hF2, hge2⟩
      have hr2 := blk_fr HR1.out hF2 (fun h => h)
      have hc2 := blk_fr HCa.out hF2 (fun h => h)
      have q1 := blk_cell hr2 1
      have q2 := blk_free hr2 1
      have q3 := blk_cell hc2 1
      have q4 := blk_free hc2 1
      simp only [List.getElem?_cons_succ, List.getElem?_cons_zero] at q1 q3
      have HO2 : Hid (World.nodes w2 (.slice (some ⟨g2, 0, none⟩) 4 cap2) ck2) := by show w2.ownsRow 0 51 1 _ ck2.length _; rw [H5.out]; exact hown2
      have HF2 := Lib.hid hF2
      have HR2 := Lib.hid hr2
      have HC2 := Lib.hid hc2
      have HX2 := Lib.hid (blk_fr HXa.out hF2 (fun h => h))
      have HOb := Lib.hid (owns_fr HOa.out hF2 (fun _ _ h => h))
      clear hown2 hF2 hr2 hc2 d1
      go_wp2_with fail
      go_meet
      have k1 : cb < w.heap.size := blk_lt HC.out
      have k2 : g1 < w1.heap.size := owns_lt HO1.out rfl
      have k3 : w1.heap.size + 1 ≤ g2 := by have := hge2; simp at this; omega
      have k4 : cb ≠ w1.heap.size := by omega
      have k5 : xb ≠ w1.heap.size := by omega
      refine ⟨w1.heap.size, g1, cap1, .slice (some ⟨g2, 0, none⟩) 4 cap2, .slice (some ⟨ckg, 0, none⟩) 4 ckc, rfl, ⟨?_, ?_, ?_, ?_, ?_, ?_, hsz, hge1, fun k hk => ?_⟩, ?_, fun k hk => hk⟩
      · have f1 : Fr (fun a => a = cb) w w2 := (HFa.out.mono (fun _ _ h => h.elim)).trans HF2.out (fun _ _ h => h.elim)
        exact (f1.setCell (p := ⟨w1.heap.size, 1, none⟩) (fun h => by simp at h; omega) _).setCell (p := ⟨cb, 1, none⟩) (fun _ => rfl) _
      · exact blk_set_other (blk_set_other HX2.out _ (by simpa using k5) _) _ (by simpa using hne) _
      · exact blk_set (blk_set_other HC2.out _ (by simpa using k4) _) 1 _
      · exact blk_set_other (blk_set HR2.out 1 _) _ (by simpa using (Ne.symm k4)) _
      · exact ownsRow_setCell_other (ownsRow_setCell_other HOb.out (by simp [Value.ownBlock]; omega) _) (by simp [Value.ownBlock]; omega) _
      · exact ownsRow_setCell_other (ownsRow_setCell_other HO2.out (by simp [Value.ownBlock]; omega) _) (by simp [Value.ownBlock]; omega) _
      · simp [Value.ownBlock] at hk; omega
      · have h8 := HCK.out
        unfold World.nodes at h8
        rw [← HCN.out] at h8
        have := owns_cut h8 4 (by omega)
        have e : kptrs (ck1 ++ ck2) = kptrs ck1 ++ kptrs ck2 := kptrs_append _ _
        unfold World.nodes
        rw [H4.out]
        rw [show (4 * 1 : Nat) = (kptrs ck1).length by rw [kptrs_length, H4.out], e, List.take_left] at this
        exact this
  case rest =>
    obtain ⟨rb, g1', cap1', rkv, ckv', rfl, HA, hnk, hok⟩ := hcut
    have f1 : ¬ clg = cb := fun e => by
      obtain ⟨cur, hb⟩ := owns_blk HCP.out (k := clg) rfl
      subst e
      exact absurd (blk_type HC.out hb) (by decide)
    have hcpw : World.pairs wc (.slice (some ⟨clg, 0, none⟩) 7 clc) (cl1 ++ m :: cl2) := owns_fr HCP.out HA.fr (fun k hk => by simp [Value.ownBlock] at hk; omega)
    obtain ⟨_, e, -, hm0, hm1⟩ := pairs_at hcpw 3 (by simp [H1.out])
    cases e
    rw [List.getElem_append_right (by rw [H1.out]; omega)] at hm0 hm1
    simp only [H1.out, Nat.sub_self, List.getElem_cons_zero, Nat.reduceMul, Nat.reduceAdd] at hm0 hm1
    have p0 := blk_cell HA.x 0
    have p1 := blk_free HA.x 0
    have p2 := blk_cell HA.c 0
    simp only [List.getElem?_cons_zero] at p0 p2
    have HAh := Lib.hid HA
    have HNK := Lib.hid hnk
    have HNEW := Lib.hid (And.intro HA.nrb (And.intro HA.ng1 HA.nrk))
    have HOK := Lib.hid hok
    clear HO1 HF1 HC1 HX1 hlt1 hlt2 hge1 HA hnk hok hcpw hki
    go_upto_region 5 with fail
    go_cut [] (SplitBx w xb cb (.slice lo (L.length + R.length) lc) (.slice (some ⟨kg, 0, none⟩) (i + (B.length + 1)) kc) (.slice (some ⟨clg, 0, none⟩) 7 clc) ckv' (L ++ m :: R) cl2 ck2 rb g1' cap1' rkv)
    case first =>
      have hlw : World.pairs wc (.slice lo (L.length + R.length) lc) (L ++ R) := owns_fr HLP.out HAh.out.fr (fun k hk e => HSEP.out k hk e)
      have hlo : ∀ k, (Value.slice lo (L.length + R.length) lc).ownBlock = some k → k < wc.heap.size := fun k hk => owns_lt hlw hk
      have hins : Calls Try.prog 26 #[.slice lo (L.length + R.length) lc, .int .i64 i, .slice (some ⟨wc.heap.size, 0, none⟩) 1 1] (wc.alloc (.cells #[.string m.1, .int .i64 m.2] 34)).drew
          (Inserted 34 2 (.slice lo (L.length + R.length) lc) (L.length + R.length) i (pcells (L ++ R)) [.string m.1, .int .i64 m.2] (wc.alloc (.cells #[.string m.1, .int .i64 m.2] 34)).drew) :=
        insP _ _ i _ wc.heap.size _ _ _ (by have := hlw.alloc (.cells #[.string m.1, .int .i64 m.2] 34); rw [List.length_append] at this; exact this) (by rw [← HI.out]; omega) (blk_new wc _ _) (fun e => by have := hlo _ e; omega) (by simp [Value.oneCell']) (pcells_one _) HN.out
      have hxw : xb < wc.heap.size := blk_lt HAh.out.x
      have HINS := Lib.hid hins
      clear hlw hlo hins
      go_region_with (go_at_call 26; refine HINS.out.mono ?_; rintro e w3 ⟨g, cap, rfl, hown3, hgrow3, hat3⟩; have hb3 : World.blk w3 xb _ 57 := blk_grown (w := (wc.alloc (.cells #[.string m.1, .int .i64 m.2] 34)).drew) (blk_alloc HAh.out.x _) hgrow3 HXL.out; have q0 := blk_cell hb3 0; have q1 := blk_free hb3 0; simp only [List.getElem?_cons_zero] at q0; have HO3 := Lib.hid hown3; have HG3 := Lib.hid hgrow3; have HAT3 := Lib.hid hat3; have HB3 := Lib.hid hb3; clear hown3 hgrow3 hat3 hb3)
      all_goals
        go_wp2_with fail
        go_meet
        have hA := HAh.out
        have hgr := HG3.out
        have hF3 : Fr (fun a => a = cb ∨ a = xb ∨ (Value.slice lo (L.length + R.length) lc).ownBlock = some a) w w3 :=
          (((hA.fr.mono (fun _ _ h => Or.inl h)).alloc (.cells #[.string m.1, .int .i64 m.2] 34)).drew).grown hgr (fun k hk _ => Or.inr (Or.inr hk))
        have hfar : ∀ {b : Nat} {c : List Value}, World.blk wc b c 57 → World.blk w3 b c 57 := fun {b c} hb => blk_grown (w := (wc.alloc (.cells #[.string m.1, .int .i64 m.2] 34)).drew) (blk_alloc hb _) hgr (fun e => by
          obtain ⟨cur, hq⟩ := owns_blk (owns_fr HLP.out hA.fr (fun k hk e => HSEP.out k hk e)) e.symm
          exact absurd (blk_type hb hq) (by decide))
        have hgl : g < w3.heap.size := owns_lt HO3.out rfl
        have hg1 : g1' < wc.heap.size := owns_lt hA.rl rfl
        have hlor : lo.map (·.block) = (Value.slice lo (L.length + R.length) lc).ownBlock := by cases lo <;> rfl
        refine ⟨g, L.length + R.length + 1, cap, hF3.setCell (p := ⟨xb, 0, none⟩) (fun _ => Or.inr (Or.inl rfl)) _, blk_set (hfar hA.x) 0 _, blk_set_other (hfar hA.c) _ (by simpa using Ne.symm hne) _,
          blk_set_other (hfar hA.r) _ (by intro e; have := hA.nrb; have := blk_lt HX.out; simp at e; omega) _, ?_, ?_, ?_, ?_, ?_⟩
        · refine ownsRow_setCell_other ?_ (fun e => by simp [Value.ownBlock] at e; have := hA.ng1; have := blk_lt HX.out; omega) _
          exact owns_fr (w := (wc.alloc (.cells #[.string m.1, .int .i64 m.2] 34)).drew) (hA.rl.alloc _) (Fr.of_grown hgr) (fun k hk e => by simp [Value.ownBlock] at hk; have := owns_lt HLP.out e; have := hA.ng1; omega)
        · refine ownsRow_setCell_other ?_ (fun e => by have h1 : w.heap.size ≤ xb := hA.nrk _ e; have := blk_lt HX.out; omega) _
          exact owns_fr (w := (wc.alloc (.cells #[.string m.1, .int .i64 m.2] 34)).drew) (hA.rk.alloc _) (Fr.of_grown hgr) (fun k hk e => by have := hA.nrk _ hk; have := owns_lt HLP.out e; omega)
        · refine ownsRow_setCell_other ?_ (fun e => ?_) _
          · have h := HO3.out
            rw [pcells_take, pcells_drop, List.take_append_of_le_length (by rw [HI.out]; omega), List.drop_append_of_le_length (by rw [HI.out]; omega), List.take_of_length_le (by rw [HI.out]; omega), List.drop_eq_nil_of_le (by rw [HI.out]; omega), List.nil_append] at h
            exact owns_congr h (by simp; omega) (by simp [pcells_append, pcells_cons])
          · obtain ⟨cur, hq⟩ := owns_blk HO3.out e
            exact absurd (blk_type (hfar hA.x) hq) (by decide)
        · intro k hk
          simp only [Value.ownBlock, Option.some.injEq] at hk
          subst hk
          rcases HAT3.out with h | h
          · exact Or.inl h
          · right; have := hA.fr.size; simp at h; omega
        · intro e
          simp only [Value.ownBlock, Option.some.injEq] at e
          subst e
          rcases HAT3.out with h | h
          · have := owns_lt HLP.out h; have := hA.ng1; omega
          · simp at h; omega
    case rest =>
      obtain ⟨g, n', cap, HB⟩ := hcut
      have hne2 : ∀ {k : Nat}, (Value.slice (some ⟨kg, 0, none⟩) (i + (B.length + 1)) kc).ownBlock = some k → ¬ (k = cb ∨ k = xb ∨ (Value.slice lo (L.length + R.length) lc).ownBlock = some k) := fun {k} hk hm => by
        obtain ⟨cur, hq⟩ := owns_blk HKN.out hk
        rcases hm with rfl | rfl | e
        · exact absurd (blk_type HC.out hq) (by decide)
        · exact absurd (blk_type HX.out hq) (by decide)
        · obtain ⟨cur', hq'⟩ := owns_blk HLP.out e
          exact absurd (blk_type hq' hq) (by decide)
      have hkw := owns_fr HKN.out HB.fr (fun k hk => hne2 hk)
      have hklt : kg < wc.heap.size := owns_lt hkw rfl
      have hins : Calls Try.prog 45 #[.slice (some ⟨kg, 0, none⟩) (i + (B.length + 1)) kc, .int .i64 ((i : Int) + 1), .slice (some ⟨wc.heap.size, 0, none⟩) 1 1] (wc.alloc (.cells #[.pointer (some ⟨rb, 0, none⟩)] 51))
          (Inserted 51 1 (.slice (some ⟨kg, 0, none⟩) (i + (B.length + 1)) kc) (i + (B.length + 1)) (i + 1) (kptrs (A ++ .node cb (.slice (some ⟨clg, 0, none⟩) 7 clc) (.slice cko ckn ckc) (cl1 ++ m :: cl2) (ck1 ++ ck2) :: B)) [.pointer (some ⟨rb, 0, none⟩)] (wc.alloc (.cells #[.pointer (some ⟨rb, 0, none⟩)] 51))) := by
        rw [show ((i : Int) + 1) = ((i + 1 : Nat) : Int) by omega]
        exact insK _ _ _ _ wc.heap.size _ _ (hkw.alloc _) (by omega) (blk_new wc _ _) (fun e => by simp [Value.ownBlock] at e; omega) (by simp [Value.oneCell']) (kptrs_one _) (by have := HBN.out; have := HAN.out; omega)
      have HINS := Lib.hid hins
      have p0 := blk_cell HB.x 1
      have p1 := blk_free HB.x 1
      simp only [List.getElem?_cons_succ, List.getElem?_cons_zero] at p0
      have HBh := Lib.hid HB
      have hxw : xb < wc.heap.size := blk_lt HB.x
      have HKNE := Lib.hid (fun k (hk : (Value.slice (some ⟨kg, 0, none⟩) (i + (B.length + 1)) kc).ownBlock = some k) => hne2 hk)
      clear hne2 hkw hklt hins HB
      go_wp2_with fail
      refine HINS.out.mono ?_
      rintro e w4 ⟨h, cap4, rfl, hown4, hgrow4, hat4⟩
      have hfar : ∀ {b : Nat} {c : List Value}, World.blk wc b c 57 → World.blk w4 b c 57 := fun {b c} hb => blk_grown (blk_alloc hb _) hgrow4 (fun e => by
        simp only [Value.ownBlock, Option.some.injEq] at e
        subst e
        obtain ⟨cur, hq⟩ := owns_blk (owns_fr HKN.out HBh.out.fr HKNE.out) (k := b) rfl
        exact absurd (blk_type hb hq) (by decide))
      have hx4 := hfar HBh.out.x
      have hc4 := hfar HBh.out.c
      have hr4 := hfar HBh.out.r
      have q0 := blk_cell hx4 1
      have q1 := blk_free hx4 1
      have q2 := blk_cell hc4 0
      have q3 := blk_free hc4 0
      simp only [List.getElem?_cons_succ, List.getElem?_cons_zero] at q0 q2
      have HX4 := Lib.hid hx4
      have HC4 := Lib.hid hc4
      have HR4 := Lib.hid hr4
      have HO4 := Lib.hid hown4
      have HG4 := Lib.hid hgrow4
      have HAT4 := Lib.hid hat4
      clear hfar hx4 hc4 hr4 hown4 hgrow4 hat4
      go_wp2_with fail
      go_end0
      have hB := HBh.out
      have kc51 : ∀ {k : Nat}, (Value.slice (some ⟨kg, 0, none⟩) (i + (B.length + 1)) kc).ownBlock = some k → ∃ c, World.blk wc k c 51 := fun {k} hk => owns_blk (owns_fr HKN.out hB.fr HKNE.out) hk
      have hkl0 : kg < w.heap.size := owns_lt HKN.out rfl
      have hcb : cb < w.heap.size := blk_lt HC.out
      have hxb : xb < w.heap.size := blk_lt HX.out
      have hrb : w.heap.size ≤ rb := HNEW.out.1
      have hcut3 : World.pairs w (.slice (some ⟨clg, 0, none⟩) 3 clc) cl1 := by
        have h7 : w.ownsRow 0 34 2 (.slice (some ⟨clg, 0, none⟩) 7 clc) 7 (pcells (cl1 ++ m :: cl2)) := owns_congr HCP.out (by simp [H1.out, H2.out]) rfl
        have := owns_cut h7 3 (by omega)
        refine owns_congr this H1.out.symm ?_
        rw [pcells_take, show cl1 ++ m :: cl2 = cl1 ++ (m :: cl2) from rfl, List.take_left' H1.out]
      have hF4 : Fr (fun a => a = cb ∨ a = xb ∨ (Value.slice lo (L.length + R.length) lc).ownBlock = some a ∨ (Value.slice (some ⟨kg, 0, none⟩) (i + (B.length + 1)) kc).ownBlock = some a) w w4 :=
        ((hB.fr.mono (fun _ _ h => h.elim Or.inl (fun h => Or.inr (h.elim Or.inl (fun h => Or.inr (Or.inl h)))))).alloc _).grown HG4.out (fun k hk _ => Or.inr (Or.inr (Or.inr hk)))
      have far34 : ∀ {v : Value} {l : List KV}, World.pairs wc v l → World.pairs ((w4.setCell ⟨xb, 1, none⟩ (.slice (some ⟨h, 0, none⟩) (i + (B.length + 1) + 1) cap4)).setCell ⟨cb, 0, none⟩ (.slice (some ⟨clg, 0, none⟩) 3 clc)) v l := fun {v l} hv => by
        have h1 : World.pairs w4 v l := owns_fr (hv.alloc (.cells #[.pointer (some ⟨rb, 0, none⟩)] 51)) (Fr.of_grown HG4.out) (fun k hk e => by
          obtain ⟨c, hq⟩ := owns_blk hv hk
          obtain ⟨c', hq'⟩ := kc51 e
          exact absurd (blk_type hq hq') (by decide))
        refine ownsRow_setCell_other (ownsRow_setCell_other h1 (fun e => ?_) _) (fun e => ?_) _
        · obtain ⟨c, hq⟩ := owns_blk h1 e
          exact absurd (blk_type HX4.out hq) (by decide)
        · obtain ⟨c, hq⟩ := owns_blk h1 e
          exact absurd (blk_type HC4.out hq) (by decide)
      have far51 : ∀ {v : Value} {n : Nat} {l : List Value}, w4.ownsRow 0 51 1 v n l → ((w4.setCell ⟨xb, 1, none⟩ (.slice (some ⟨h, 0, none⟩) (i + (B.length + 1) + 1) cap4)).setCell ⟨cb, 0, none⟩ (.slice (some ⟨clg, 0, none⟩) 3 clc)).ownsRow 0 51 1 v n l := fun {v n l} h1 => by
        refine ownsRow_setCell_other (ownsRow_setCell_other h1 (fun e => ?_) _) (fun e => ?_) _
        · obtain ⟨c, hq⟩ := owns_blk h1 e
          exact absurd (blk_type HX4.out hq) (by decide)
        · obtain ⟨c, hq⟩ := owns_blk h1 e
          exact absurd (blk_type HC4.out hq) (by decide)
      refine ⟨rfl, .slice (some ⟨g, 0, none⟩) n' cap, .slice (some ⟨h, 0, none⟩) (i + (B.length + 1) + 1) cap4, .node cb (.slice (some ⟨clg, 0, none⟩) 3 clc) ckv' cl1 ck1, .node rb (.slice (some ⟨g1', 0, none⟩) 3 cap1') rkv cl2 ck2,
        split_done xb cb _ _ _ (.slice (some ⟨clg, 0, none⟩) 3 clc) _ ckv' L R cl1 cl2 m A B ck1 ck2 rb (.slice (some ⟨g1', 0, none⟩) 3 cap1') rkv _ _ w _ HL.out HU.out hcut3 (fun k hk => hk) HNK.out HOK.out ⟨?_, ?_, ?_, ?_, ?_, ?_, ?_, ?_, ?_, ?_, ?_, ?_, ?_, ?_, ?_⟩, rfl, rfl, rfl, rfl, rfl⟩
      · exact (hF4.setCell (p := ⟨xb, 1, none⟩) (fun _ => Or.inr (Or.inl rfl)) _).setCell (p := ⟨cb, 0, none⟩) (fun _ => Or.inl rfl) _
      · exact blk_set_other (blk_set HX4.out 1 _) _ (by simpa using hne) _
      · exact blk_set (blk_set_other HC4.out _ (by simpa using Ne.symm hne) _) 0 _
      · exact blk_set_other (blk_set_other HR4.out _ (by intro e; simp at e; omega) _) _ (by intro e; simp at e; omega) _
      · exact far34 hB.rl
      · exact far51 (owns_fr (hB.rk.alloc _) (Fr.of_grown HG4.out) (fun k hk e => by
          have h1 := HNEW.out.2.2 k hk
          simp only [Value.ownBlock, Option.some.injEq] at e
          omega))
      · exact far34 hB.xl
      · refine far51 (owns_congr HO4.out (by simp [HAL.out]; omega) ?_)
        simp only [Nat.mul_one]
        rw [kptrs_append, kptrs_cons, List.take_append, List.drop_append, kptrs_length, HAL.out, List.take_of_length_le (by rw [kptrs_length, HAL.out]; omega), List.drop_eq_nil_of_le (by rw [kptrs_length, HAL.out]; omega)]
        rw [kptrs_append, kptrs_cons, kptrs_cons, show i + 1 - i = 1 by omega]
        simp [MT.b]
      · exact hB.old
      · intro k hk
        simp only [Value.ownBlock, Option.some.injEq] at hk
        subst hk
        rcases HAT4.out with e | e
        · exact Or.inl e
        · right; have := hB.fr.size; simp at e; omega
      · intro k hk e
        simp only [Value.ownBlock, Option.some.injEq] at e
        subst e
        exact hB.ne hk
      · intro k hk e
        simp only [Value.ownBlock, Option.some.injEq] at hk
        subst hk
        have h1 := HNEW.out.2.2 _ e
        have h2 : h < wc.heap.size := owns_lt hB.rk e
        rcases HAT4.out with e | e
        · simp only [Value.ownBlock, Option.some.injEq] at e; omega
        · simp at e; omega
      · exact hrb
      · intro k hk
        simp only [Value.ownBlock, Option.some.injEq] at hk
        subst hk
        exact HNEW.out.2.1
      · exact HNEW.out.2.2
end Go.Proofs.Ytaopiolbjnnnfaa
