/-
  Put.
-/
import Derived.Test.YtaopiolbjnnnfaaPutP
import Derived.Deep.LoopGhost
import Derived.Deep.DeepCutAuto
namespace Go.Proofs.Ytaopiolbjnnnfaa
open Go.RowKit

def PutPost (tb : Nat) (t : MT) (key : ByteArray) (n : Int) (s : List KV) (w : World) (e : Ending) (w' : World) : Prop :=
  e = .returned (.tuple #[.int .i64 ((look key s).getD 0), .bool (look key s).isSome]) ∧ After tb t w w' (put key n s)

/-- the root has room -/
def PutReady (tb : Nat) (t : MT) (s : List KV) (w wc : World) : Prop :=
  ∃ h1 t1, HeldAt wc tb h1 t1 s ∧ t1.l.length ≤ 6 ∧ Fr (fun a => a = tb ∨ 0 < cnt t a) w wc ∧ ∀ a, a < w.heap.size → cnt t1 a ≤ cnt t a

def PutWand (key : ByteArray) (n : Int) (d : Nat) (t : MT) (wr : World) (G : World → Prop) : Prop :=
  ∀ w' t', Turns wr w' t t' → Ok d t' → flat t' = put key n (flat t) → t.l.length ≤ t'.l.length → G w'

def PutRel (key : ByteArray) (n : Int) (o : Option Int) (tb : Nat) (tc : List Value) (G : World → Prop) (k : Nat) (p : Value) (wr : World) : Prop :=
  ∃ b lv kv l kids d flag, p = .pointer (some ⟨b, 0, none⟩) ∧ k = 2 * d + Bool.toNat flag ∧ (flag = true → l.length ≤ 6) ∧ (flag = false → 1 ≤ d ∧ Room key (.node b lv kv l kids)) ∧
    Lies wr (.node b lv kv l kids) ∧ Uniq (.node b lv kv l kids) ∧ Ok d (.node b lv kv l kids) ∧ Rising (flat (.node b lv kv l kids)) ∧ look key (flat (.node b lv kv l kids)) = o ∧ World.blk wr tb tc 53 ∧ cnt (.node b lv kv l kids) tb = 0 ∧
    PutWand key n d (.node b lv kv l kids) wr G

set_option maxHeartbeats 4000000 in
set_option maxRecDepth 100000 in
theorem put_walk (tb h : Nat) (t : MT) (s : List KV) (key : ByteArray) (n : Int) (w : World) (hh : HeldAt w tb h t s) (hs : s.length ≤ 4611686018427387904) :
    Calls Try.prog 10 #[.pointer (some ⟨tb, 0, none⟩), .string key, .int .i64 n] w (PutPost tb t key n s w) := by
  have ht0 := blk_cell hh.blk 0
  have ht1 := blk_free hh.blk 0
  have htt : tb < w.heap.size := blk_lt hh.blk
  simp only [List.getElem?_cons_zero] at ht0
  have HH := Lib.hid hh
  obtain ⟨b, lv, kv, l, kids⟩ := t
  obtain ⟨hx, hlp, hkn, hch⟩ := lies_node.1 hh.lies
  obtain ⟨lo, lc, rfl, -⟩ := pairs_slice hlp
  have HX := Lib.hid hx
  have HRS := Lib.hid hh.rising
  simp only [MT.b] at ht0
  clear hh hx hlp hkn hch
  go_enter Try.func10, Try.ntmps10
  go_upto_if 18 with (first
    | (go_at_call 21; refine (none_any tb _ _ _ HH.out.blk).mono ?_; rintro e w' ⟨rfl, rfl⟩)
    | (go_at_call 22; refine (full_any b _ _ _ _ _ HX.out).mono ?_; rintro e w' ⟨rfl, rfl⟩))
  go_cut [] (PutReady tb (.node b (.slice lo l.length lc) kv l kids) s w)
  case first =>
    by_cases h7 : l.length = 7
    · obtain ⟨cl1, m, cl2, ck1, ck2, e1, e2, c1, c2, c3, hc⟩ := full_cut HH.out.ok h7
      simp only [MT.l, MT.kids] at e1 e2
      have hgr := root_grows HH.out
      unfold rootTree at hgr
      have hsp := split_walk (w.heap.size + 1) 0 (.slice none 0 0) (.slice (some ⟨w.heap.size, 0, none⟩) 1 1) (.slice lo l.length lc) kv [] [] [] [] b cl1 cl2 m ck1 ck2 (rootWorld w tb b) (by rw [← e1, ← e2]; exact hgr.1) (by rw [← e1, ← e2]; exact hgr.2.1) rfl rfl c1 c2 c3 (by decide) (by decide)
      unfold rootWorld at hsp
      have HSP := Lib.hid hsp
      have HC := Lib.hid hc
      have HE := Lib.hid (And.intro e1 (And.intro e2 (And.intro c1 c2)))
      clear hsp hgr e1 e2 c1 c2 c3 hc
      go_wp2_with (go_at_call 23; refine HSP.out.mono ?_; rintro e w2 ⟨rfl, lv', kv', c, r, ht, -, k1, k2, k3, k4⟩; have HT := Lib.hid ht; have HK := Lib.hid (And.intro k1 (And.intro k2 (And.intro k3 k4))); clear ht k1 k2 k3 k4)
      go_meet
      obtain ⟨e1, e2, c1, c2⟩ := HE.out
      obtain ⟨k1, k2, k3, k4⟩ := HK.out
      obtain ⟨o1, o2, o3⟩ := HC.out c r k1 k2 k3 k4
      have ht := HT.out
      rw [← e1, ← e2] at ht
      obtain ⟨z1, z2, z3⟩ := root_split HH.out ht o1 o2 (by rw [k1, c1]) (by rw [k3, c2]) o3
      exact ⟨_, _, z1, by simp [MT.l], z2, z3⟩
    · have h8 : l.length < 7 := by have := HH.out.ok.len; simp only [MT.l] at this; omega
      go_wp2_with fail
      go_meet
      exact ⟨h, _, HH.out, by simp only [MT.l]; omega, Fr.refl _ _, fun a _ => Nat.le_refl _⟩
  case rest =>
    obtain ⟨h1, t1, hh1, h6, hF, hfew⟩ := hcut
    have HH1 := Lib.hid hh1
    have HF := Lib.hid hF
    have HFEW := Lib.hid hfew
    have q0 := blk_cell hh1.blk 0
    simp only [List.getElem?_cons_zero] at q0
    clear hh1 hF hfew ht0 ht1 htt
    obtain ⟨rt, hrt⟩ : ∃ rt, rt = t1.b := ⟨_, rfl⟩
    rw [← hrt] at q0
    have HRT := Lib.hid hrt
    clear hrt
    go_wp2_with fail
    go_loopg [8] (2 * h1 + 1) (fun k p wr => PutRel key n (look key s) tb [.pointer (some ⟨rt, 0, none⟩), .int .i64 (s.length : Nat)] (fun w' => ∀ wf, Fr (fun a => a = tb) w' wf → World.blk wf tb [.pointer (some ⟨rt, 0, none⟩), .int .i64 ((put key n s).length : Nat)] 53 →
      PutPost tb (.node b (.slice lo l.length lc) kv l kids) key n s w (.returned (.tuple #[.int .i64 ((look key s).getD 0), .bool (look key s).isSome])) wf) k p wr)
    case atStart =>
      have hh1 := HH1.out
      obtain rfl := HRT.out
      have htl := hh1.tells
      have hrs := hh1.rising
      rw [← htl] at hrs
      obtain ⟨b1, lv1, kv1, l1, k1⟩ := t1
      refine ⟨b1, lv1, kv1, l1, k1, h1, true, rfl, rfl, fun _ => h6, fun e => (by cases e), hh1.lies, hh1.uniq, hh1.ok, hrs, by rw [htl], hh1.blk, hh1.off, ?_⟩
      intro w' t' g1 g2 g3 g4 wf hf hb
      have hoff' := g1.off (blk_lt hh1.blk) hh1.off
      refine ⟨rfl, h1, t', ⟨?_, lies_fr hf _ g1.lies (fun a ha e => by subst e; omega), g1.uniq, hoff', g2, fun hh => Nat.le_trans (hh1.low hh) g4, rising_put hh1.rising, by rw [g3, htl]⟩, ?_, ?_⟩
      · rw [g1.root]; exact hb
      · exact (HF.out.trans g1.fr fun a ha h => .inr (by have := HFEW.out a ha; omega)).trans' (hf.mono fun a _ e => .inl e)
      · exact fun a ha => Nat.le_trans (g1.few a (Nat.lt_of_lt_of_le ha HF.out.size)) (HFEW.out a ha)
    case round =>
      clear HX HH1 HF HFEW HRT h6 HH q0
      obtain ⟨post, hpost⟩ : ∃ post : World → Prop, post = (fun w' => ∀ wf, Fr (fun a => a = tb) w' wf → World.blk wf tb [.pointer (some ⟨rt, 0, none⟩), .int .i64 ((put key n s).length : Nat)] 53 →
        PutPost tb (.node b (.slice lo l.length lc) kv l kids) key n s w (.returned (.tuple #[.int .i64 ((look key s).getD 0), .bool (look key s).isSome])) wf) := ⟨_, rfl⟩
      rw [← hpost] at hrel
      have HPOST := Lib.hid hpost
      clear hpost
      obtain ⟨b0, lv0, kv0, l0, kids0, d, flag, rfl, hgk, hfl1, hfl2, hl, hu, hk, hr, ho, hb, hoff, hw⟩ := hrel
      obtain ⟨hx, hlp, hkn, hch⟩ := lies_node.1 hl
      have h7 : l0.length ≤ 7 := hk.len
      obtain ⟨lo0, lc0, rfl, -⟩ := pairs_slice hlp
      obtain ⟨ko0, kc0, rfl, -⟩ := nodes_slice hkn
      obtain ⟨ln, hln⟩ : ∃ ln, ln = l0.length := ⟨_, rfl⟩
      obtain ⟨kn, hkn1⟩ : ∃ kn, kn = kids0.length := ⟨_, rfl⟩
      rw [← hln, ← hkn1] at hx hl hu hk hr hoff ho hw
      rw [← hln] at hlp
      rw [← hkn1] at hkn
      have hfl2' : flag = false → 1 ≤ d := fun e => (hfl2 e).1
      have hroom : flag = false → Room key (.node b0 (.slice lo0 ln lc0) (.slice ko0 kn kc0) l0 kids0) := fun e => (hfl2 e).2
      clear hfl2
      rcases key_cut key (rising_l hr) with ⟨L, R, hlr, g1, g2⟩ | ⟨L, m0, R, hlr, g1, g2⟩
      · simp only [MT.l] at hlr
        subst hlr
        have hin := in_absent b0 (.slice lo0 ln lc0) (.slice ko0 kn kc0) L R key wr hx hlp (rising_l hr) h7 g1 g2
        obtain ⟨i, hi⟩ : ∃ i, i = L.length := ⟨_, rfl⟩
        rw [← hi] at hin
        have hi7 : i ≤ 7 := by rw [hi]; simp at h7; omega
        have hlni : ln = i + R.length := by rw [hln, hi]; simp
        cases d with
        | zero =>
          obtain ⟨-, rfl⟩ := ok_zero.1 hk
          have hkn0 : kn = 0 := hkn1
          subst hkn0
          have h6 : (L ++ R).length ≤ 6 := by
            cases flag with
            | true => exact hfl1 rfl
            | false => exact absurd (hfl2' rfl) (by decide)
          have hlk : look key s = none := by
            rw [← ho, flat_leaf]
            exact look_none fun p hp => by
              rcases List.mem_append.1 hp with hp | hp
              · exact klt_ne (g1 p hp)
              · exact (klt_ne (g2 p hp)).symm
          have hput : put key n (L ++ R) = L ++ (key, n) :: R := by
            unfold put
            rw [lo_append, hi_append, lo_all g1, lo_none g2, hi_none g1, hi_all g2, List.append_nil, List.nil_append]
          have hpl := (put_len (n := n) HRS.out (key := key)).1 hlk
          have ws : IntKind.i64.wrap ((s.length : Int) + 1) = ((put key n s).length : Int) := by rw [IntWalk.i64_in _ (by omega), hpl]; simp
          have HIN := Lib.hid hin
          have HL := Lib.hid hl
          have HU := Lib.hid hu
          have HLK := Lib.hid hlk
          have HPUT := Lib.hid hput
          have HW := Lib.hid hw
          have HB := Lib.hid hb
          have HOFF := Lib.hid hoff
          have HLN := Lib.hid hln
          have HI := Lib.hid hi
          have HX := Lib.hid hx
          have HLP := Lib.hid hlp
          have hln6 : ln ≤ 6 := by omega
          clear hin hx hl hu hlk hput hpl hw hb hoff hlp hkn hch hr ho hk g1 g2 hgk hfl1 hfl2' hroom hln hkn1 h6 hi hlni h7
          go_wp2_with (first
            | (go_at_call 24; refine HIN.out.mono ?_; rintro e w1 ⟨rfl, hf1⟩
               have hx1 := blk_fr HX.out hf1 (fun h => h)
               have HX1 := Lib.hid hx1
               have q0 := blk_cell hx1 0
               simp only [List.getElem?_cons_zero] at q0
               have l1 := blk_lt hx1
               have HF1 := Lib.hid hf1; clear hf1 hx1)
            | (go_at_call 25; refine (leaf_any b0 _ _ _ _ _ HX1.out).mono ?_; rintro e w' ⟨rfl, rfl⟩)
            | (go_at_call 26
               have hfa : Fr (fun _ => False) wr (w1.alloc (.cells #[.string key, .int .i64 n] 34)) := HF1.out.alloc _
               have hla := lies_fr hfa _ HL.out (fun _ _ h => h)
               have hba := blk_fr HB.out hfa (fun h => h)
               have hlpa := owns_fr HLP.out hfa (fun _ _ h => h)
               have hins := insP (.slice lo0 ln lc0) ln i (pcells (L ++ R)) w1.heap.size (.string key) (.int .i64 n) (w1.alloc (.cells #[.string key, .int .i64 n] 34)) (owns_congr hlpa HLN.out.symm rfl) (by rw [HLN.out, HI.out]; simp) (blk_new w1 _ _) (fun e => by have := owns_lt (owns_fr HLP.out HF1.out (fun _ _ h => h)) e; omega) (by simp [Value.oneCell']) (pcells_one _) (by omega)
               refine hins.mono ?_; rintro e w2 ⟨g, cap, rfl, hown, hgr, hat⟩
               have hne : (Value.slice lo0 ln lc0).ownBlock ≠ some b0 := row_node hlpa (by decide) (lies_node.1 hla).1
               have hxa := blk_grown (lies_node.1 hla).1 hgr (fun e => hne e.symm)
               have ht1 : Fr (fun k => (Value.slice lo0 ln lc0).ownBlock = some k) (w1.alloc (.cells #[.string key, .int .i64 n] 34)) w2 := Fr.of_grown hgr
               have hb2 := blk_grown hba hgr (fun e => by have h0 := HOFF.out; rw [cnt_node, own_eq e.symm] at h0; omega)
               have q1 := blk_cell hxa 0
               have q2 := blk_free hxa 0
               have q3 := blk_cell hb2 1
               have q4 := blk_free hb2 1
               have nb : ¬ b0 = tb := fun e => by have h0 := HOFF.out; rw [cnt_node, e, one_self] at h0; omega
               have nb2 : ¬ tb = b0 := fun e => nb e.symm
               simp only [List.getElem?_cons_succ, List.getElem?_cons_zero] at q1 q3
               have HFA := Lib.hid hfa; have HLA := Lib.hid hla; have HBA := Lib.hid hba; have HOWN := Lib.hid hown; have HGR := Lib.hid hgr; have HAT := Lib.hid hat
               clear hfa hla hba hlpa hins hown hgr hat hxa ht1 hb2 hne))
          go_ret2
          have hpc : List.take (i * 2) (pcells (L ++ R)) ++ [.string key, .int .i64 n] ++ List.drop (i * 2) (pcells (L ++ R)) = pcells (L ++ (key, n) :: R) := by
            rw [pcells_take, pcells_drop, HI.out, List.take_left' rfl, List.drop_left' rfl, pcells_append, pcells_cons, List.append_assoc]; rfl
          have hln1 : ln + 1 = (L ++ (key, n) :: R).length := by rw [HLN.out]; simp; omega
          have hown : w2.ownsRow 0 34 2 (.slice (some ⟨g, 0, none⟩) (ln + 1) cap) (L ++ (key, n) :: R).length (pcells (L ++ (key, n) :: R)) := owns_congr HOWN.out hln1 hpc
          have ht := Turns.ahead HFA.out (Turns.lay HLA.out HU.out (Fr.of_grown HGR.out) hown (fun k hk => by
            simp only [Value.ownBlock, Option.some.injEq] at hk
            subst hk
            exact HAT.out.imp id (fun e => by rw [e]; exact Nat.le_refl _)))
          have hp := HW.out _ _ ht (ok_zero.2 ⟨by simp only [MT.l]; omega, rfl⟩) (by rw [flat_leaf, flat_leaf]; exact HPUT.out.symm) (by simp only [MT.l]; rw [← HLN.out]; omega)
          rw [HPOST.out] at hp
          have hfin := hp _ ((Fr.refl (fun a => a = tb) _).setCell (p := ⟨tb, 1, none⟩) (fun _ => rfl) _) (blk_congr (blk_set (ht.blk HOFF.out HB.out) 1 _) rfl)
          rw [HLK.out] at hfin
          exact hfin
        | succ k =>
          obtain ⟨A, c, B, rfl, hA, hB, hkc, hc3⟩ := kid_cut hk
          have hbl := below_of hr hA hB g1 g2
          have hik : i < kn := by rw [hi, hkn1]; simp; omega
          have hik2 : (i : Int) < (kn : Int) := by omega
          have hAi : A.length = i := by omega
          have hkn0 : decide (kn = 0) = false := by simp; omega
          have hfl := flat_at b0 (.slice lo0 ln lc0) (.slice ko0 kn kc0) L R A B c hA hB
          have hroom2 : flag = false → c.l.length ≤ 6 := fun e => hroom e L R A c B rfl rfl hA g1 g2
          have hputc : put key n (flat (.node b0 (.slice lo0 ln lc0) (.slice ko0 kn kc0) (L ++ R) (A ++ c :: B))) = before L A ++ (put key n (flat c) ++ after R B) := by rw [hfl, put_mid hbl.lo hbl.hi]
          obtain ⟨cb, clv, ckv, cl, ck⟩ := c
          simp only [MT.l] at hroom2 hc3
          have hlc := (liesAll_cons.1 (liesAll_append.1 hch).2).1
          obtain ⟨co, cc, rfl, -⟩ := pairs_slice (lies_node.1 hlc).2.1
          have HIN := Lib.hid hin
          have HL := Lib.hid hl
          have HU := Lib.hid hu
          have HW := Lib.hid hw
          have HB := Lib.hid hb
          have HOFF := Lib.hid hoff
          have HLN := Lib.hid hln
          have HI := Lib.hid hi
          have HAI := Lib.hid hAi
          have HKC := Lib.hid hkc
          have HR := Lib.hid hr
          have HFL := Lib.hid hfl
          have HPUT := Lib.hid hputc
          have HBL := Lib.hid hbl
          have HK := Lib.hid hk
          have HO := Lib.hid ho
          have HG := Lib.hid (And.intro g1 g2)
          have HLR := Lib.hid (And.intro hA hB)
          clear hin hx hl hu hw hb hoff hlp hkn hch hr ho hk g1 g2 hroom hln hkn1 hi hlni hfl hputc hbl hlc hA hB hAi hkc
          by_cases hc7 : cl.length = 7
          · have hft : flag = true := by
              cases flag with
              | true => rfl
              | false => have := hroom2 rfl; omega
            subst hft
            have hL6 := hfl1 rfl
            clear hfl1 hfl2' hroom2
            obtain ⟨cl1, m, cl2, ck1, ck2, e1, e2, c1, c2, c3, hc⟩ := full_cut HKC.out hc7
            simp only [MT.l, MT.kids] at e1 e2
            subst e1 e2
            have hsp : ∀ w1, Lies w1 (.node b0 (.slice lo0 ln lc0) (.slice ko0 kn kc0) (L ++ R) (A ++ .node cb (.slice co (cl1 ++ m :: cl2).length cc) ckv (cl1 ++ m :: cl2) (ck1 ++ ck2) :: B)) →
                Calls Try.prog 23 #[.pointer (some ⟨b0, 0, none⟩), .int .i64 i] w1 (SplitPost b0 (.slice lo0 ln lc0) (.slice ko0 kn kc0) (.slice co (cl1 ++ m :: cl2).length cc) ckv L R A B cb cl1 cl2 m ck1 ck2 w1) := fun w1 hl1 =>
              split_walk b0 i (.slice lo0 ln lc0) (.slice ko0 kn kc0) (.slice co (cl1 ++ m :: cl2).length cc) ckv L R A B cb cl1 cl2 m ck1 ck2 w1 hl1 HU.out HI.out.symm HAI.out c1 c2 c3 (by simp at h7; omega) (by have := HLR.out.2; simp at h7; omega)
            have HSP := Lib.hid hsp
            have HC := Lib.hid hc
            have HE := Lib.hid (And.intro c1 c2)
            have HGK := Lib.hid hgk
            clear hsp hc c1 c2 c3 hgk
            go_wp2_with (first
              | (go_at_call 24; refine HIN.out.mono ?_; rintro e w1 ⟨rfl, hf1⟩
                 have hl1 := lies_fr hf1 _ HL.out (fun _ _ h => h)
                 have hx1 := (lies_node.1 hl1).1
                 have HX1 := Lib.hid hx1
                 have HXC := Lib.hid (lies_node.1 (liesAll_cons.1 (liesAll_append.1 (lies_node.1 hl1).2.2.2).2).1).1
                 obtain ⟨_, _, _, e, -, q1, q2⟩ := kid_cell hl1
                 cases e
                 rw [HAI.out] at q2
                 have HSP1 := Lib.hid (HSP.out _ hl1)
                 have HF1 := Lib.hid hf1; clear hf1 hx1 hl1)
              | (go_at_call 25; refine (leaf_any b0 _ _ _ _ _ HX1.out).mono ?_; rintro e w' ⟨rfl, rfl⟩)
              | (go_at_call 22; refine (full_any cb _ _ _ _ _ HXC.out).mono ?_; rintro e w' ⟨rfl, rfl⟩)
              | (go_at_call 23; refine HSP1.out.mono ?_; rintro e w2 ⟨rfl, lv', kv', c, r, ht, -, k1, k2, k3, k4⟩; have HT := Lib.hid ht; have HKK := Lib.hid (And.intro k1 (And.intro k2 (And.intro k3 k4))); clear ht k1 k2 k3 k4))
            go_roundg (2 * (k + 1))
            case measure => rw [HGK.out]; simp
            case rel =>
              obtain ⟨k1, k2, k3, k4⟩ := HKK.out
              obtain ⟨o1, o2, o3⟩ := HC.out c r k1 k2 k3 k4
              have ht := Turns.ahead HF1.out HT.out
              obtain ⟨s1, s2⟩ := split_plain (lv' := lv') (kv' := kv') (m := m) HK.out (by simpa using hL6) HLR.out.1 HLR.out.2 o1 o2 (by rw [k1, HE.out.1]; exact Nat.le_refl _) (by rw [k3, HE.out.2]; exact Nat.le_refl _) o3
              refine ⟨b0, lv', kv', L ++ m :: R, A ++ c :: r :: B, k + 1, false, rfl, rfl, fun e => (by cases e), fun _ => ⟨by omega, room_split HLR.out.1 HG.out.1 HG.out.2 (by rw [k1, HE.out.1]; decide) (by rw [k3, HE.out.2]; decide)⟩, ht.lies, ht.uniq, s1, by rw [s2]; exact HR.out, by rw [s2]; exact HO.out,
                ht.blk HOFF.out HB.out, ht.off (blk_lt HB.out) HOFF.out, ?_⟩
              intro w' t' g1 g2 g3 g4
              have hp := HW.out w' t' (ht.trans g1) g2 (by rw [g3, s2]) (Nat.le_trans (by simp [MT.l]) g4)
              rw [HPOST.out] at hp
              exact hp
          · have hcl6 : cl.length ≤ 6 := by have := HKC.out.len; simp only [MT.l] at this; omega
            have hc8 : cl.length < 7 := by omega
            have HGK := Lib.hid hgk
            clear hgk hfl1 hfl2' hroom2 hc7
            go_wp2_with (first
              | (go_at_call 24; refine HIN.out.mono ?_; rintro e w1 ⟨rfl, hf1⟩
                 have hl1 := lies_fr hf1 _ HL.out (fun _ _ h => h)
                 have hx1 := (lies_node.1 hl1).1
                 have HX1 := Lib.hid hx1
                 have HXC := Lib.hid (lies_node.1 (liesAll_cons.1 (liesAll_append.1 (lies_node.1 hl1).2.2.2).2).1).1
                 obtain ⟨_, _, _, e, -, q1, q2⟩ := kid_cell hl1
                 cases e
                 rw [HAI.out] at q2
                 have HL1 := Lib.hid hl1
                 have HF1 := Lib.hid hf1; clear hf1 hx1 hl1)
              | (go_at_call 25; refine (leaf_any b0 _ _ _ _ _ HX1.out).mono ?_; rintro e w' ⟨rfl, rfl⟩)
              | (go_at_call 22; refine (full_any cb _ _ _ _ _ HXC.out).mono ?_; rintro e w' ⟨rfl, rfl⟩))
            go_roundg (2 * k + 1)
            case measure => rw [HGK.out]; omega
            case rel =>
              obtain ⟨hcl, hcu, hco⟩ := child_of HL1.out HU.out
              have hr2 := rising_kid HR.out HLR.out.1 HLR.out.2
              have ho2 : look key (flat (.node cb (.slice co cl.length cc) ckv cl ck)) = look key s := by rw [← HO.out, HFL.out, look_mid HBL.out.lo HBL.out.hi]
              refine ⟨cb, .slice co cl.length cc, ckv, cl, ck, k, true, rfl, rfl, fun _ => hcl6, fun e => (by cases e), hcl, hcu, HKC.out, hr2, ho2, blk_fr HB.out HF1.out (fun h => h), hco _ HOFF.out, ?_⟩
              intro w' t' g1 g2 g3 g4
              have g4' : cl.length ≤ t'.l.length := g4
              have hp := HW.out w' _ (Turns.ahead HF1.out (Turns.child HL1.out HU.out g1)) (turns_len HK.out g2 (by omega)) (by rw [HPUT.out, flat_at _ _ _ _ _ _ _ _ HLR.out.1 HLR.out.2, g3]) (Nat.le_refl _)
              rw [HPOST.out] at hp
              exact hp
      · simp only [MT.l] at hlr
        subst hlr
        have hin := in_there b0 (.slice lo0 ln lc0) (.slice ko0 kn kc0) L R key m0 wr hx hlp (rising_l hr) h7 g1 g2
        obtain ⟨P, Q, hfm⟩ := there_form hk
        obtain ⟨hP, hQ⟩ := there_lt hr (hfm _ _ _ _)
        have hlk : look key s = some m0 := by rw [← ho, hfm, look_mid hP hQ, look_self]
        have hput : ∀ lv' kv', put key n (flat (.node b0 (.slice lo0 ln lc0) (.slice ko0 kn kc0) (L ++ (key, m0) :: R) kids0)) = flat (.node b0 lv' kv' (L ++ (key, n) :: R) kids0) := fun lv' kv' => by
          rw [hfm, hfm, put_mid hP hQ, put_self]
        have hpl := (put_len (n := n) HRS.out (key := key)).2 (by rw [hlk]; simp)
        have hok2 : ∀ lv' kv', Ok d (.node b0 lv' kv' (L ++ (key, n) :: R) kids0) := fun lv' kv' => by
          cases d with
          | zero => have := ok_zero.1 hk; exact ok_zero.2 ⟨by have := this.1; simp [MT.l] at this ⊢; omega, this.2⟩
          | succ d => have := ok_node.1 hk; exact ok_node.2 ⟨by have := this.1; simp at this ⊢; omega, by have := this.2.1; simp at this ⊢; omega, this.2.2⟩
        have hil : L.length < ln := by rw [hln]; simp
        have hil2 : (L.length : Int) < (ln : Int) := by omega
        have HIN := Lib.hid hin
        have HL := Lib.hid hl
        have HU := Lib.hid hu
        have HLK := Lib.hid hlk
        have HPUT := Lib.hid hput
        have HPL := Lib.hid hpl
        have HOK := Lib.hid hok2
        have HW := Lib.hid hw
        have HB := Lib.hid hb
        have HOFF := Lib.hid hoff
        have HLN := Lib.hid hln
        clear hin hx hl hu hlk hput hpl hok2 hw hb hoff hlp hkn hch hr ho hk g1 g2 hP hQ hfm hgk hfl1 hfl2' hroom hln hkn1
        go_wp2_with (first
          | (go_at_call 24; refine HIN.out.mono ?_; rintro e w1 ⟨rfl, hf1⟩
             have hl1 := lies_fr hf1 _ HL.out (fun _ _ h => h)
             obtain ⟨hx1, hlp1, -, -⟩ := lies_node.1 hl1
             have hlp2 : World.pairs w1 _ _ := hlp1
             obtain ⟨_, rfl, -, p0, p1⟩ := pairs_at hlp1 L.length (by simp)
             rw [List.getElem_append_right (Nat.le_refl _)] at p0 p1
             simp only [Nat.sub_self, List.getElem_cons_zero] at p0 p1
             have q0 := blk_cell hx1 0
             simp only [List.getElem?_cons_zero] at q0
             have f1 := World.ownsRow.frozenAt (owns_congr hlp2 HLN.out.symm rfl) (L.length * 2 + 1)
             have HL1 := Lib.hid hl1; have HLP1 := Lib.hid hlp2
             have HF1 := Lib.hid hf1; clear hf1 hx1 hlp1 hlp2 hl1))
        go_ret2
        have hw2 := write_num (owns_congr HLP1.out HLN.out.symm rfl) n L.length rfl
        have ht := Turns.ahead HF1.out (Turns.write HL1.out HU.out hw2.2 (owns_congr hw2.1 (by rw [HLN.out]; simp) rfl))
        have hp := HW.out _ _ ht (HOK.out _ _) (HPUT.out _ _).symm (by simp [MT.l])
        rw [HPOST.out] at hp
        have hfin := hp _ (Fr.refl _ _) (blk_congr (ht.blk HOFF.out HB.out) (by rw [HPL.out]))
        rw [HLK.out] at hfin
        exact hfin
end Go.Proofs.Ytaopiolbjnnnfaa
