/-
  Get.
-/
import Derived.Test.YtaopiolbjnnnfaaHeld
import Derived.Deep.LoopGhost
namespace Go.Proofs.Ytaopiolbjnnnfaa
open Go.RowKit

def GotPost (o : Option Int) (w : World) (e : Ending) (w' : World) : Prop := e = .returned (.tuple #[.int .i64 (o.getD 0), .bool o.isSome]) ∧ Fr (fun _ => False) w w'

def GetRel (key : ByteArray) (o : Option Int) (w : World) (k : Nat) (p : Value) (wr : World) : Prop :=
  ∃ b lv kv l kids, p = .pointer (some ⟨b, 0, none⟩) ∧ Lies wr (.node b lv kv l kids) ∧ Ok k (.node b lv kv l kids) ∧ Rising (flat (.node b lv kv l kids)) ∧ look key (flat (.node b lv kv l kids)) = o ∧ Fr (fun _ => False) w wr

set_option maxHeartbeats 2000000 in
set_option maxRecDepth 100000 in
theorem get_walk (tb h : Nat) (t : MT) (s : List KV) (key : ByteArray) (w : World) (hh : HeldAt w tb h t s) :
    Calls Try.prog 20 #[.pointer (some ⟨tb, 0, none⟩), .string key] w (GotPost (look key s) w) := by
  have ht0 := blk_cell hh.blk 0
  simp only [List.getElem?_cons_zero] at ht0
  have HH := Lib.hid hh
  clear hh
  go_enter Try.func20, Try.ntmps20
  go_wp2_with (go_at_call 21; refine (none_any tb _ _ _ HH.out.blk).mono ?_; rintro e w' ⟨rfl, rfl⟩)
  go_loopg [6] h (fun k p wr => GetRel key (look key s) w k p wr)
  case atStart =>
    have hh := HH.out
    obtain ⟨b, lv, kv, l, kids⟩ := t
    exact ⟨b, lv, kv, l, kids, rfl, hh.lies, hh.ok, by rw [hh.tells]; exact hh.rising, by rw [hh.tells], Fr.refl _ _⟩
  case round =>
    obtain ⟨b, lv, kv, l, kids, rfl, hl, hk, hr, ho, hf⟩ := hrel
    obtain ⟨hx, hlp, hkn, hch⟩ := lies_node.1 hl
    have h7 : l.length ≤ 7 := hk.len
    obtain ⟨ko, kc, rfl, -⟩ := nodes_slice hkn
    rcases key_cut key (rising_l hr) with ⟨L, R, hlr, g1, g2⟩ | ⟨L, n, R, hlr, g1, g2⟩
    · simp only [MT.l] at hlr
      subst hlr
      have hin := in_absent b lv _ L R key wr hx hlp (rising_l hr) h7 g1 g2
      cases gk with
      | zero =>
        obtain ⟨-, rfl⟩ := ok_zero.1 hk
        have hlk : none = look key s := by
          rw [← ho, flat_leaf]
          exact (look_none fun p hp => by
            rcases List.mem_append.1 hp with hp | hp
            · exact klt_ne (g1 p hp)
            · exact (klt_ne (g2 p hp)).symm).symm
        have HIN := Lib.hid hin
        have HX := Lib.hid hx
        have HF := Lib.hid hf
        have HLK := Lib.hid hlk
        clear hin hx hf hlk hl hlp hkn hch hr ho g1 g2 hk
        go_wp2_with (first
          | (go_at_call 24; refine HIN.out.mono ?_; rintro e w1 ⟨rfl, hf1⟩; have HF1 := Lib.hid hf1; clear hf1)
          | (go_at_call 25; refine (leaf_any b _ _ _ _ _ (blk_fr HX.out HF1.out (fun h => h))).mono ?_; rintro e w' ⟨rfl, rfl⟩))
        go_ret2
        rw [← HLK.out]
        exact ⟨rfl, HF.out.trans' HF1.out⟩
      | succ k =>
        obtain ⟨A, c, B, rfl, hA, hB, hkc, -⟩ := kid_cut hk
        have hbl := below_of hr hA hB g1 g2
        obtain ⟨g, n, cc, e, hln, q1, q2⟩ := kid_cell hl
        cases e
        have q0 : b < wr.heap.size := blk_lt hx
        rw [← hA] at hln q2
        have hn0 : decide ((A ++ c :: B).length = 0) = false := by simp
        have q3 : (L.length : Int) < (A.length : Int) + ((B.length : Int) + 1) := by omega
        have HIN := Lib.hid hin
        have HL := Lib.hid hl
        have HR := Lib.hid hr
        have HF := Lib.hid hf
        have HO := Lib.hid ho
        have HBL := Lib.hid hbl
        have HKC := Lib.hid hkc
        clear hin hx hf hl hlp hkn hch hr ho g1 g2 hk hbl hkc hA hB q1 q2
        go_wp2_with (first
          | (go_at_call 24; refine HIN.out.mono ?_; rintro e w1 ⟨rfl, hf1⟩
             have hl1 := lies_fr hf1 _ HL.out (fun _ _ h => h)
             obtain ⟨g', n', cc', e, _, q1, q2⟩ := kid_cell hl1
             cases e
             rw [← HBL.out.lenL] at q2
             have HX1 := Lib.hid (lies_node.1 hl1).1
             have HL1 := Lib.hid hl1
             have HF1 := Lib.hid hf1; clear hf1 hl1)
          | (go_at_call 25; refine (leaf_any b _ _ _ _ _ HX1.out).mono ?_; rintro e w' ⟨rfl, rfl⟩))
        go_roundg k
        case measure => omega
        case rel =>
          have hfl := flat_at b lv (.slice (some ⟨g, 0, none⟩) (A ++ c :: B).length kc) L R A B c HBL.out.lenL HBL.out.lenR
          have hkid := (liesAll_cons.1 (liesAll_append.1 (lies_node.1 HL1.out).2.2.2).2).1
          have hr2 := rising_kid HR.out HBL.out.lenL HBL.out.lenR
          have ho2 : look key (flat c) = look key s := by rw [← HO.out, hfl, look_mid HBL.out.lo HBL.out.hi]
          obtain ⟨b1, lv1, kv1, l1, k1⟩ := c
          exact ⟨b1, lv1, kv1, l1, k1, rfl, hkid, HKC.out, hr2, ho2, HF.out.trans' HF1.out⟩
    · simp only [MT.l] at hlr
      subst hlr
      have hlk : some n = look key s := by
        rw [← ho]
        cases gk with
        | zero =>
          obtain ⟨-, rfl⟩ := ok_zero.1 hk
          rw [flat_leaf, show L ++ (key, n) :: R = L ++ ([(key, n)] ++ R) from rfl, look_mid g1 g2, look_self]
        | succ k =>
          obtain ⟨A, c, d, B, rfl, hA, hB, -⟩ := kids_cut hk
          rw [show L ++ (key, n) :: R = (L ++ [(key, n)]) ++ R by simp, show A ++ c :: d :: B = (A ++ [c]) ++ d :: B by simp] at hr ⊢
          have hfl := flat_at b lv (.slice ko ((A ++ [c]) ++ d :: B).length kc) (L ++ [(key, n)]) R (A ++ [c]) B d (by simp [hA]) hB
          rw [hfl, before_append _ _ _ _ hA, before_cons, before_nil] at hr ⊢
          rw [show before L A ++ (flat c ++ [(key, n)]) ++ (flat d ++ after R B) = (before L A ++ flat c) ++ ([(key, n)] ++ (flat d ++ after R B)) by simp] at hr ⊢
          rw [look_mid, look_self]
          · intro p hp
            exact (List.pairwise_append.1 hr).2.2 p hp (key, n) (by simp)
          · intro p hp
            exact (List.pairwise_cons.1 hr.right).1 p hp
      have hin := in_there b lv _ L R key n wr hx hlp (rising_l hr) h7 g1 g2
      obtain ⟨lg, lc, rfl, -, -⟩ := pairs_some hlp (by simp)
      have w1 : (L.length : Int) < (L.length : Int) + ((R.length : Int) + 1) := by omega
      have HIN := Lib.hid hin
      have HL := Lib.hid hl
      have HF := Lib.hid hf
      have HLK := Lib.hid hlk
      clear hin hx hf hlk hl hlp hkn hch hr ho g1 g2 hk
      go_wp2_with (first
        | (go_at_call 24; refine HIN.out.mono ?_; rintro e w1 ⟨rfl, hf1⟩
           have hl1 := lies_fr hf1 _ HL.out (fun _ _ h => h)
           obtain ⟨hx1, hlp1, -, -⟩ := lies_node.1 hl1
           obtain ⟨_, e, -, p0, p1⟩ := pairs_at hlp1 L.length (by simp)
           cases e
           rw [List.getElem_append_right (Nat.le_refl _)] at p0 p1
           simp only [Nat.sub_self, List.getElem_cons_zero] at p0 p1
           have q0 := blk_cell hx1 0
           simp only [List.getElem?_cons_zero] at q0
           have HF1 := Lib.hid hf1; clear hf1 hl1 hx1 hlp1))
      go_ret2
      rw [← HLK.out]
      exact ⟨rfl, HF.out.trans' HF1.out⟩
end Go.Proofs.Ytaopiolbjnnnfaa
