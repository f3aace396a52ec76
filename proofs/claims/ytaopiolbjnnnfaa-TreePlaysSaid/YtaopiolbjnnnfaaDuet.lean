/-
  step: a call on both; same; Height; trees of the call's own beside the document's; Shape of a held tree.
-/
import Derived.Test.YtaopiolbjnnnfaaRefS
import Derived.Test.YtaopiolbjnnnfaaCall
import Derived.Test.YtaopiolbjnnnfaaKnows
import Derived.Test.YtaopiolbjnnnfaaRefF
import Derived.Test.YtaopiolbjnnnfaaShapeL
import Derived.Deep.QuietTactic
import Derived.BigQuiet
namespace Go.Proofs.Ytaopiolbjnnnfaa
section
open Go.RowKit

set_option maxHeartbeats 1000000 in
theorem pair_walk (k : ByteArray) (n : Int) (x : Bool) (w : World) : Calls Try.prog 34 #[.agg #[.string k, .int .i64 n], .bool x, .agg #[.string k, .int .i64 n], .bool x] w (TruePost w) := by
  have hk : (k.toList == k.toList) = true := by simp
  go_enter Try.func34, Try.ntmps34
  go_wp2_with fail
  go_ret
  exact ⟨rfl, ((Fr.refl _ _).alloc _).alloc _⟩

def StepPost (tb rb : Nat) (E : Nat → Prop) (s : List KV) (w : World) (e : Ending) (w' : World) : Prop :=
  e = .returned (.bool true) ∧ ∃ s', TwinLeaves tb rb E s' w w' ∧ s'.length ≤ s.length + 1

set_option maxHeartbeats 4000000 in
set_option maxRecDepth 100000 in
theorem step_put (tb rb : Nat) (E : Nat → Prop) (s : List KV) (n : Int) (key : ByteArray) (w : World) (h : Twin w tb rb E s) (hs : (s.length + 1) * 24 ≤ 140737488355328) :
    Calls Try.prog 12 #[.pointer (some ⟨tb, 0, none⟩), .pointer (some ⟨rb, 0, none⟩), .agg #[.int .i64 0, .int .i64 n, .string key]] w (StepPost tb rb E s w) := by
  obtain ⟨F, sv, hT, hR, hd, hE⟩ := h
  have hr := hT.rising
  obtain ⟨nb, hnb⟩ : ∃ nb, nb = w.heap.size := ⟨_, rfl⟩
  have hal : Fr (fun _ => False) w (w.alloc (.cells #[.int .i64 0, .int .i64 n, .string key] 30)) := (Fr.refl _ _).alloc _
  have hb := blk_new w [.int .i64 0, .int .i64 n, .string key] 30
  rw [← hnb] at hb
  have hTb := hT.fr hal (fun _ _ h => h)
  have hRb := hR.fr hal (fun _ _ h => h)
  have hnF : ¬ F nb := fun e => by have := hT.lt e; omega
  have q0 := blk_cell hb 0
  have q1 := blk_cell hb 1
  have q2 := blk_cell hb 2
  simp only [List.getElem?_cons_succ, List.getElem?_cons_zero] at q0 q1 q2
  have HAL := Lib.hid hal
  have HB := Lib.hid hb
  have HT := Lib.hid hTb
  have HR := Lib.hid hRb
  have HD := Lib.hid hd
  have HE := Lib.hid hE
  have HNF := Lib.hid hnF
  have HNB := Lib.hid hnb
  have HRI := Lib.hid hr
  have HS := Lib.hid hs
  clear hal hb hTb hRb hd hE hnF hT hR hnb hr hs
  go_enter Try.func12, Try.ntmps12
  go_upto_region 1 with fail
  rw [← HNB.out]
  go_wp2_with fail
  refine (put_held key n _ HT.out (by have := HS.out; omega)).mono ?_
  rintro e w1 ⟨rfl, hl⟩
  obtain ⟨F', a1, a2, a3⟩ := hl
  have hb1 := blk_fr HB.out a2 HNF.out
  have hR1 := HR.out.fr a2 (fun x hx hF => HD.out x hF hx)
  have z1 := blk_cell hb1 1
  have z2 := blk_cell hb1 2
  simp only [List.getElem?_cons_succ, List.getElem?_cons_zero] at z1 z2
  have HL := Lib.hid (show Leaves tb F (put key n s) _ w1 from ⟨F', a1, a2, a3⟩)
  have HR1 := Lib.hid hR1
  clear a1 a2 a3 hb1 hR1 q0 q1 q2
  go_wp2_with fail
  refine (refput_walk rb sv s key n w1 HR1.out HS.out HRI.out).mono ?_
  rintro e w2 ⟨rfl, hl⟩
  have HL2 := Lib.hid hl
  clear hl z1 z2
  have hb : ((look key s).isSome == (look key s).isSome) = true := by simp
  go_wp2_with fail
  go_ret
  exact ⟨rfl, _, (Twin.both HR.out HE.out HD.out HL.out HL2.out).before HAL.out, put_length HRI.out⟩

set_option maxHeartbeats 4000000 in
set_option maxRecDepth 100000 in
theorem step_del (tb rb : Nat) (E : Nat → Prop) (s : List KV) (n : Int) (key : ByteArray) (w : World) (h : Twin w tb rb E s) (hs : (s.length + 1) * 24 ≤ 140737488355328) :
    Calls Try.prog 12 #[.pointer (some ⟨tb, 0, none⟩), .pointer (some ⟨rb, 0, none⟩), .agg #[.int .i64 1, .int .i64 n, .string key]] w (StepPost tb rb E s w) := by
  obtain ⟨F, sv, hT, hR, hd, hE⟩ := h
  have hr := hT.rising
  obtain ⟨nb, hnb⟩ : ∃ nb, nb = w.heap.size := ⟨_, rfl⟩
  have hal : Fr (fun _ => False) w (w.alloc (.cells #[.int .i64 1, .int .i64 n, .string key] 30)) := (Fr.refl _ _).alloc _
  have hb := blk_new w [.int .i64 1, .int .i64 n, .string key] 30
  rw [← hnb] at hb
  have hTb := hT.fr hal (fun _ _ h => h)
  have hRb := hR.fr hal (fun _ _ h => h)
  have hnF : ¬ F nb := fun e => by have := hT.lt e; omega
  have q0 := blk_cell hb 0
  have q1 := blk_cell hb 1
  have q2 := blk_cell hb 2
  simp only [List.getElem?_cons_succ, List.getElem?_cons_zero] at q0 q1 q2
  have HAL := Lib.hid hal
  have HB := Lib.hid hb
  have HT := Lib.hid hTb
  have HR := Lib.hid hRb
  have HD := Lib.hid hd
  have HE := Lib.hid hE
  have HNF := Lib.hid hnF
  have HNB := Lib.hid hnb
  have HRI := Lib.hid hr
  have HS := Lib.hid hs
  clear hal hb hTb hRb hd hE hnF hT hR hnb hr hs
  go_enter Try.func12, Try.ntmps12
  go_upto_region 1 with fail
  rw [← HNB.out]
  go_wp2_with fail
  refine (delete_held key _ HT.out (by have := HS.out; omega)).mono ?_
  rintro e w1 ⟨rfl, hl⟩
  obtain ⟨F', a1, a2, a3⟩ := hl
  have hb1 := blk_fr HB.out a2 HNF.out
  have hR1 := HR.out.fr a2 (fun x hx hF => HD.out x hF hx)
  have z2 := blk_cell hb1 2
  simp only [List.getElem?_cons_succ, List.getElem?_cons_zero] at z2
  have HL := Lib.hid (show Leaves tb F (del key s) _ w1 from ⟨F', a1, a2, a3⟩)
  have HR1 := Lib.hid hR1
  clear a1 a2 a3 hb1 hR1 q0 q1 q2
  go_wp2_with fail
  refine (refdel_walk rb sv s key w1 HR1.out HS.out HRI.out).mono ?_
  rintro e w2 ⟨rfl, hl⟩
  have HL2 := Lib.hid hl
  clear hl z2
  have hb : ((look key s).isSome == (look key s).isSome) = true := by simp
  go_wp2_with fail
  go_ret
  exact ⟨rfl, _, (Twin.both HR.out HE.out HD.out HL.out HL2.out).before HAL.out, Nat.le_trans (del_length HRI.out) (Nat.le_succ _)⟩

set_option maxHeartbeats 4000000 in
set_option maxRecDepth 100000 in
theorem step_get (tb rb : Nat) (E : Nat → Prop) (s : List KV) (n : Int) (key : ByteArray) (w : World) (h : Twin w tb rb E s) (hs : (s.length + 1) * 24 ≤ 140737488355328) :
    Calls Try.prog 12 #[.pointer (some ⟨tb, 0, none⟩), .pointer (some ⟨rb, 0, none⟩), .agg #[.int .i64 2, .int .i64 n, .string key]] w (StepPost tb rb E s w) := by
  obtain ⟨F, sv, hT, hR, hd, hE⟩ := h
  have hr := hT.rising
  obtain ⟨nb, hnb⟩ : ∃ nb, nb = w.heap.size := ⟨_, rfl⟩
  have hal : Fr (fun _ => False) w (w.alloc (.cells #[.int .i64 2, .int .i64 n, .string key] 30)) := (Fr.refl _ _).alloc _
  have hb := blk_new w [.int .i64 2, .int .i64 n, .string key] 30
  rw [← hnb] at hb
  have hTb := hT.fr hal (fun _ _ h => h)
  have hRb := hR.fr hal (fun _ _ h => h)
  have hnF : ¬ F nb := fun e => by have := hT.lt e; omega
  have q0 := blk_cell hb 0
  have q1 := blk_cell hb 1
  have q2 := blk_cell hb 2
  simp only [List.getElem?_cons_succ, List.getElem?_cons_zero] at q0 q1 q2
  have HAL := Lib.hid hal
  have HB := Lib.hid hb
  have HT := Lib.hid hTb
  have HR := Lib.hid hRb
  have HD := Lib.hid hd
  have HE := Lib.hid hE
  have HNF := Lib.hid hnF
  have HNB := Lib.hid hnb
  have HRI := Lib.hid hr
  have HS := Lib.hid hs
  clear hal hb hTb hRb hd hE hnF hT hR hnb hr hs
  go_enter Try.func12, Try.ntmps12
  go_upto_region 1 with fail
  rw [← HNB.out]
  go_wp2_with fail
  refine (get_held key _ HT.out).mono ?_
  rintro e w1 ⟨rfl, hf1⟩
  have hR1 := HR.out.fr hf1 (fun _ _ h => h)
  have z2 := blk_cell (blk_fr HB.out hf1 (fun h => h)) 2
  simp only [List.getElem?_cons_succ, List.getElem?_cons_zero] at z2
  have HR1 := Lib.hid hR1
  have HF1 := Lib.hid hf1
  clear hf1 hR1 q0 q1 q2
  go_wp2_with fail
  refine (refget_walk rb sv s key w1 HR1.out (by have := HS.out; omega) HRI.out).mono ?_
  rintro e w2 ⟨rfl, hf2⟩
  have HF2 := Lib.hid hf2
  clear hf2 z2
  have hb : ((look key s).isSome == (look key s).isSome) = true := by simp
  go_wp2_with fail
  go_ret
  exact ⟨rfl, s, ((Twin.same (show Twin _ tb rb E s from ⟨F, sv, HT.out, HR.out, HD.out, HE.out⟩) HF1.out).behind HF2.out).before HAL.out, by omega⟩

set_option maxHeartbeats 4000000 in
set_option maxRecDepth 100000 in
theorem step_next (tb rb : Nat) (E : Nat → Prop) (s : List KV) (n : Int) (key : ByteArray) (w : World) (h : Twin w tb rb E s) (hs : (s.length + 1) * 24 ≤ 140737488355328) :
    Calls Try.prog 12 #[.pointer (some ⟨tb, 0, none⟩), .pointer (some ⟨rb, 0, none⟩), .agg #[.int .i64 3, .int .i64 n, .string key]] w (StepPost tb rb E s w) := by
  obtain ⟨F, sv, hT, hR, hd, hE⟩ := h
  have hr := hT.rising
  obtain ⟨nb, hnb⟩ : ∃ nb, nb = w.heap.size := ⟨_, rfl⟩
  have hal : Fr (fun _ => False) w (w.alloc (.cells #[.int .i64 3, .int .i64 n, .string key] 30)) := (Fr.refl _ _).alloc _
  have hb := blk_new w [.int .i64 3, .int .i64 n, .string key] 30
  rw [← hnb] at hb
  have hTb := hT.fr hal (fun _ _ h => h)
  have hRb := hR.fr hal (fun _ _ h => h)
  have hnF : ¬ F nb := fun e => by have := hT.lt e; omega
  have q0 := blk_cell hb 0
  have q1 := blk_cell hb 1
  have q2 := blk_cell hb 2
  simp only [List.getElem?_cons_succ, List.getElem?_cons_zero] at q0 q1 q2
  have HAL := Lib.hid hal
  have HB := Lib.hid hb
  have HT := Lib.hid hTb
  have HR := Lib.hid hRb
  have HD := Lib.hid hd
  have HE := Lib.hid hE
  have HNF := Lib.hid hnF
  have HNB := Lib.hid hnb
  have HRI := Lib.hid hr
  have HS := Lib.hid hs
  clear hal hb hTb hRb hd hE hnF hT hR hnb hr hs
  go_enter Try.func12, Try.ntmps12
  go_upto_region 1 with fail
  rw [← HNB.out]
  go_wp2_with fail
  refine (next_held key _ HT.out).mono ?_
  rintro e w1 ⟨rfl, hf1⟩
  obtain ⟨pk, hpk⟩ : ∃ pk, pk = ((nxt key s).getD kv0).1 := ⟨_, rfl⟩
  obtain ⟨pn, hpn⟩ : ∃ pn, pn = ((nxt key s).getD kv0).2 := ⟨_, rfl⟩
  obtain ⟨px, hpx⟩ : ∃ px, px = (nxt key s).isSome := ⟨_, rfl⟩
  rw [← hpk, ← hpn, ← hpx]
  have hf1a := hf1.alloc (.cells #[.string pk, .int .i64 pn] 34)
  have hR1 := HR.out.fr hf1a (fun _ _ h => h)
  have z2 := blk_cell (blk_fr HB.out hf1a (fun h => h)) 2
  simp only [List.getElem?_cons_succ, List.getElem?_cons_zero] at z2
  obtain ⟨pb, hpb⟩ : ∃ pb, pb = w1.heap.size := ⟨_, rfl⟩
  have HPB := Lib.hid hpb
  have HPBK := Lib.hid (show World.blk (w1.alloc (.cells #[.string pk, .int .i64 pn] 34)) pb [.string pk, .int .i64 pn] 34 by rw [hpb]; exact blk_new w1 _ _)
  have HR1 := Lib.hid (show Calls Try.prog 33 _ _ (fun e w' => e = .returned (.tuple #[.agg #[.string pk, .int .i64 pn], .bool px]) ∧ Fr (fun _ => False) (w1.alloc (.cells #[.string pk, .int .i64 pn] 34)) w') from by
    have := refnext_walk rb sv s key _ hR1 (by have := HS.out; omega) HRI.out
    unfold PairPost at this
    rwa [← hpk, ← hpn, ← hpx] at this)
  have HF1 := Lib.hid hf1a
  clear hf1 hf1a hR1 q0 q1 q2 hpk hpn hpx hpb
  go_wp2_with fail
  rw [← HPB.out]
  refine HR1.out.mono ?_
  rintro e w2 ⟨rfl, hf2⟩
  obtain ⟨qb, hqb⟩ : ∃ qb, qb = w2.heap.size := ⟨_, rfl⟩
  have hf2a := hf2.alloc (.cells #[.string pk, .int .i64 pn] 64)
  have hqk := blk_new w2 [.string pk, .int .i64 pn] 64
  rw [← hqb] at hqk
  have hpk := blk_fr HPBK.out hf2a (fun h => h)
  have y0 := blk_cell hpk 0
  have y1 := blk_cell hpk 1
  have y2 := blk_cell hqk 0
  have y3 := blk_cell hqk 1
  simp only [List.getElem?_cons_succ, List.getElem?_cons_zero] at y0 y1 y2 y3
  have HQB := Lib.hid hqb
  have HF2 := Lib.hid hf2a
  clear hf2 hf2a z2 hqk hpk hqb
  go_wp2_with fail
  rw [← HQB.out]
  go_wp2_with fail
  refine (pair_walk pk pn px _).mono ?_
  rintro e w3 ⟨rfl, hf3⟩
  have HF3 := Lib.hid hf3
  clear hf3 y0 y1 y2 y3
  go_wp2_with fail
  go_ret
  exact ⟨rfl, s, (((Twin.same (show Twin _ tb rb E s from ⟨F, sv, HT.out, HR.out, HD.out, HE.out⟩) HF1.out).behind HF2.out).behind HF3.out).before HAL.out, by omega⟩

set_option maxHeartbeats 4000000 in
set_option maxRecDepth 100000 in
theorem step_back (tb rb : Nat) (E : Nat → Prop) (s : List KV) (n : Int) (key : ByteArray) (w : World) (h : Twin w tb rb E s) (hs : (s.length + 1) * 24 ≤ 140737488355328) :
    Calls Try.prog 12 #[.pointer (some ⟨tb, 0, none⟩), .pointer (some ⟨rb, 0, none⟩), .agg #[.int .i64 4, .int .i64 n, .string key]] w (StepPost tb rb E s w) := by
  obtain ⟨F, sv, hT, hR, hd, hE⟩ := h
  have hr := hT.rising
  obtain ⟨nb, hnb⟩ : ∃ nb, nb = w.heap.size := ⟨_, rfl⟩
  have hal : Fr (fun _ => False) w (w.alloc (.cells #[.int .i64 4, .int .i64 n, .string key] 30)) := (Fr.refl _ _).alloc _
  have hb := blk_new w [.int .i64 4, .int .i64 n, .string key] 30
  rw [← hnb] at hb
  have hTb := hT.fr hal (fun _ _ h => h)
  have hRb := hR.fr hal (fun _ _ h => h)
  have hnF : ¬ F nb := fun e => by have := hT.lt e; omega
  have q0 := blk_cell hb 0
  have q1 := blk_cell hb 1
  have q2 := blk_cell hb 2
  simp only [List.getElem?_cons_succ, List.getElem?_cons_zero] at q0 q1 q2
  have HAL := Lib.hid hal
  have HB := Lib.hid hb
  have HT := Lib.hid hTb
  have HR := Lib.hid hRb
  have HD := Lib.hid hd
  have HE := Lib.hid hE
  have HNF := Lib.hid hnF
  have HNB := Lib.hid hnb
  have HRI := Lib.hid hr
  have HS := Lib.hid hs
  clear hal hb hTb hRb hd hE hnF hT hR hnb hr hs
  go_enter Try.func12, Try.ntmps12
  go_upto_region 1 with fail
  rw [← HNB.out]
  go_wp2_with fail
  refine (back_held key _ HT.out).mono ?_
  rintro e w1 ⟨rfl, hf1⟩
  obtain ⟨pk, hpk⟩ : ∃ pk, pk = ((bck key s).getD kv0).1 := ⟨_, rfl⟩
  obtain ⟨pn, hpn⟩ : ∃ pn, pn = ((bck key s).getD kv0).2 := ⟨_, rfl⟩
  obtain ⟨px, hpx⟩ : ∃ px, px = (bck key s).isSome := ⟨_, rfl⟩
  rw [← hpk, ← hpn, ← hpx]
  have hf1a := hf1.alloc (.cells #[.string pk, .int .i64 pn] 34)
  have hR1 := HR.out.fr hf1a (fun _ _ h => h)
  have z2 := blk_cell (blk_fr HB.out hf1a (fun h => h)) 2
  simp only [List.getElem?_cons_succ, List.getElem?_cons_zero] at z2
  obtain ⟨pb, hpb⟩ : ∃ pb, pb = w1.heap.size := ⟨_, rfl⟩
  have HPB := Lib.hid hpb
  have HPBK := Lib.hid (show World.blk (w1.alloc (.cells #[.string pk, .int .i64 pn] 34)) pb [.string pk, .int .i64 pn] 34 by rw [hpb]; exact blk_new w1 _ _)
  have HR1 := Lib.hid (show Calls Try.prog 35 _ _ (fun e w' => e = .returned (.tuple #[.agg #[.string pk, .int .i64 pn], .bool px]) ∧ Fr (fun _ => False) (w1.alloc (.cells #[.string pk, .int .i64 pn] 34)) w') from by
    have := refback_walk rb sv s key _ hR1 (by have := HS.out; omega) HRI.out
    unfold PairPost at this
    rwa [← hpk, ← hpn, ← hpx] at this)
  have HF1 := Lib.hid hf1a
  clear hf1 hf1a hR1 q0 q1 q2 hpk hpn hpx hpb
  go_wp2_with fail
  rw [← HPB.out]
  refine HR1.out.mono ?_
  rintro e w2 ⟨rfl, hf2⟩
  obtain ⟨qb, hqb⟩ : ∃ qb, qb = w2.heap.size := ⟨_, rfl⟩
  have hf2a := hf2.alloc (.cells #[.string pk, .int .i64 pn] 64)
  have hqk := blk_new w2 [.string pk, .int .i64 pn] 64
  rw [← hqb] at hqk
  have hpk := blk_fr HPBK.out hf2a (fun h => h)
  have y0 := blk_cell hpk 0
  have y1 := blk_cell hpk 1
  have y2 := blk_cell hqk 0
  have y3 := blk_cell hqk 1
  simp only [List.getElem?_cons_succ, List.getElem?_cons_zero] at y0 y1 y2 y3
  have HQB := Lib.hid hqb
  have HF2 := Lib.hid hf2a
  clear hf2 hf2a z2 hqk hpk hqb
  go_wp2_with fail
  rw [← HQB.out]
  go_wp2_with fail
  refine (pair_walk pk pn px _).mono ?_
  rintro e w3 ⟨rfl, hf3⟩
  have HF3 := Lib.hid hf3
  clear hf3 y0 y1 y2 y3
  go_wp2_with fail
  go_ret
  exact ⟨rfl, s, (((Twin.same (show Twin _ tb rb E s from ⟨F, sv, HT.out, HR.out, HD.out, HE.out⟩) HF1.out).behind HF2.out).behind HF3.out).before HAL.out, by omega⟩

set_option maxHeartbeats 4000000 in
set_option maxRecDepth 100000 in
theorem step_other (tb rb : Nat) (E : Nat → Prop) (s : List KV) (kind n : Int) (key : ByteArray) (w : World) (h : Twin w tb rb E s) (hs : (s.length + 1) * 24 ≤ 140737488355328) (k0 : (kind == 0) = false) (k1 : (kind == 1) = false) (k2 : (kind == 2) = false) (k3 : (kind == 3) = false) (k4 : (kind == 4) = false) :
    Calls Try.prog 12 #[.pointer (some ⟨tb, 0, none⟩), .pointer (some ⟨rb, 0, none⟩), .agg #[.int .i64 kind, .int .i64 n, .string key]] w (StepPost tb rb E s w) := by
  obtain ⟨F, sv, hT, hR, hd, hE⟩ := h
  have hr := hT.rising
  obtain ⟨nb, hnb⟩ : ∃ nb, nb = w.heap.size := ⟨_, rfl⟩
  have hal : Fr (fun _ => False) w (w.alloc (.cells #[.int .i64 kind, .int .i64 n, .string key] 30)) := (Fr.refl _ _).alloc _
  have hb := blk_new w [.int .i64 kind, .int .i64 n, .string key] 30
  rw [← hnb] at hb
  have hTb := hT.fr hal (fun _ _ h => h)
  have hRb := hR.fr hal (fun _ _ h => h)
  have hnF : ¬ F nb := fun e => by have := hT.lt e; omega
  have q0 := blk_cell hb 0
  have q1 := blk_cell hb 1
  have q2 := blk_cell hb 2
  simp only [List.getElem?_cons_succ, List.getElem?_cons_zero] at q0 q1 q2
  have HAL := Lib.hid hal
  have HB := Lib.hid hb
  have HT := Lib.hid hTb
  have HR := Lib.hid hRb
  have HD := Lib.hid hd
  have HE := Lib.hid hE
  have HNF := Lib.hid hnF
  have HNB := Lib.hid hnb
  have HRI := Lib.hid hr
  have HS := Lib.hid hs
  clear hal hb hTb hRb hd hE hnF hT hR hnb hr hs
  go_enter Try.func12, Try.ntmps12
  go_upto_region 1 with fail
  rw [← HNB.out]
  go_wp2_with fail
  go_ret
  exact ⟨rfl, s, (Twin.same (show Twin _ tb rb E s from ⟨F, sv, HT.out, HR.out, HD.out, HE.out⟩) (Fr.refl _ _)).before HAL.out, by omega⟩

theorem step_walk (tb rb : Nat) (E : Nat → Prop) (s : List KV) (kind n : Int) (key : ByteArray) (w : World) (h : Twin w tb rb E s) (hs : (s.length + 1) * 24 ≤ 140737488355328) :
    Calls Try.prog 12 #[.pointer (some ⟨tb, 0, none⟩), .pointer (some ⟨rb, 0, none⟩), .agg #[.int .i64 kind, .int .i64 n, .string key]] w (StepPost tb rb E s w) := by
  by_cases h0 : kind = 0
  · subst h0; exact step_put tb rb E s n key w h hs
  by_cases h1 : kind = 1
  · subst h1; exact step_del tb rb E s n key w h hs
  by_cases h2 : kind = 2
  · subst h2; exact step_get tb rb E s n key w h hs
  by_cases h3 : kind = 3
  · subst h3; exact step_next tb rb E s n key w h hs
  by_cases h4 : kind = 4
  · subst h4; exact step_back tb rb E s n key w h hs
  exact step_other tb rb E s kind n key w h hs (by simpa using h0) (by simpa using h1) (by simpa using h2) (by simpa using h3) (by simpa using h4)
end

section
open Go.RowKit

set_option maxHeartbeats 2000000 in
set_option maxRecDepth 100000 in
theorem samepairs_walk (ao bo : Option Addr) (n c d : Nat) (s : List KV) (w : World) (ha : w.ownsRow 0 34 2 (.slice ao n c) n (pcells s)) (hb : w.ownsRow 0 64 2 (.slice bo n d) n (pcells s)) (hn : n = s.length) (hl : n ≤ 4611686018427387904) :
    Calls Try.prog 13 #[.slice ao n c, .slice bo n d] w (TruePost w) := by
  have HA := Lib.hid ha
  have HB := Lib.hid hb
  have HN := Lib.hid hn
  clear ha hb hn
  go_enter Try.func13, Try.ntmps13
  go_wp2_with fail
  go_loopw [5] (fun i wr => ∃ k : Nat, i = .int .i64 k ∧ k ≤ n ∧ Fr (fun _ => False) w wr) (fun i _ => n - (intOf i).toNat)
  case atStart => exact ⟨0, rfl, Nat.zero_le _, Fr.refl _ _⟩
  case round =>
    obtain ⟨k, rfl, hk, hfr⟩ := hrel
    by_cases hlt : k < n
    · have hlt4 : (k : Int) < (n : Int) := by omega
      have hk0 : (0 : Int) ≤ (k : Int) := by omega
      have hkp : k < s.length := by rw [← HN.out]; exact hlt
      obtain ⟨g1, rfl, p0, p1⟩ := row_at (owns_fr HA.out hfr (fun _ _ h => h)) HN.out k hkp
      obtain ⟨g2, rfl, p2, p3⟩ := row_at (owns_fr HB.out hfr (fun _ _ h => h)) HN.out k hkp
      obtain ⟨pk, hpk⟩ : ∃ pk, pk = s[k].1 := ⟨_, rfl⟩
      obtain ⟨pv, hpv⟩ : ∃ pv, pv = s[k].2 := ⟨_, rfl⟩
      rw [← hpk] at p0 p2
      rw [← hpv] at p1 p3
      have HFR := Lib.hid hfr
      clear hpk hpv hfr hkp
      go_wp2_with fail
      go_quiet (fail)
      go_wp2_with fail
      go_roundw
      case rel => exact ⟨k + 1, by go_num, by omega, HFR.out.drewN _⟩
      case measure => simp [intOf]; omega
    · have hlt4 : ¬ (k : Int) < (n : Int) := by omega
      have HFR := Lib.hid hfr
      clear hfr
      go_wp2_with fail
      go_ret
      exact ⟨rfl, HFR.out⟩

theorem pow4_succ (h : Nat) : pow4 (h + 1) = 4 * pow4 h := by rw [pow4]
theorem pow4_pos : ∀ h : Nat, 1 ≤ pow4 h
  | 0 => by rw [pow4]; exact Nat.le_refl _
  | h + 1 => by rw [pow4_succ]; have := pow4_pos h; omega
theorem pow4_mono : ∀ (d h : Nat), pow4 h ≤ pow4 (h + d)
  | 0, h => Nat.le_refl _
  | d + 1, h => by rw [← Nat.add_assoc, pow4_succ]; have := pow4_mono d h; omega

def HeightPost (n : Nat) (w : World) (e : Ending) (w' : World) : Prop := ∃ h : Nat, e = .returned (.int .i64 h) ∧ (∀ j, 2 * pow4 j ≤ n + 1 → j < h) ∧ w' = w

def HeightRel (h l : Value) : Prop := ∃ k m : Nat, h = .int .i64 k ∧ l = .int .i64 m ∧ m + 1 = 2 * pow4 k ∧ k ≤ 30 ∧ m ≤ 2305843009213693951

theorem pow4_30 : pow4 30 = 1152921504606846976 := by decide

theorem height_done {n k m : Nat} (hm : m + 1 = 2 * pow4 k) (h : n < m) : ∀ j, 2 * pow4 j ≤ n + 1 → j < k := by
  intro j hj
  rcases Nat.lt_or_ge j k with h' | h'
  · exact h'
  · have := pow4_mono (j - k) k
    rw [show k + (j - k) = j by omega] at this
    omega

set_option maxHeartbeats 2000000 in
set_option maxRecDepth 100000 in
theorem height_walk (n : Nat) (w : World) (hn : n ≤ 2305843009213693950) : Calls Try.prog 19 #[.int .i64 n] w (HeightPost n w) := by
  go_enter Try.func19, Try.ntmps19
  go_wp2_with fail
  go_loop [3, 4] (fun h l => HeightRel h l) (fun h _ => 30 - (intOf h).toNat)
  case atStart => exact ⟨0, 1, rfl, rfl, rfl, by omega, by omega⟩
  case round =>
    obtain ⟨k, m, rfl, rfl, hm, hk, hb⟩ := hrel
    by_cases hlt : m ≤ n ∧ k < 30
    · obtain ⟨h1, h2⟩ := hlt
      have hb2 : 4 * m + 3 ≤ 2305843009213693951 := by
        have h30 := pow4_mono (30 - (k + 1)) (k + 1)
        rw [show k + 1 + (30 - (k + 1)) = 30 by omega, pow4_30, pow4_succ] at h30
        omega
      have hm2 : 4 * m + 3 + 1 = 2 * pow4 (k + 1) := by rw [pow4_succ]; omega
      have h1i : (m : Int) ≤ (n : Int) := by omega
      have h2i : (k : Int) < 30 := by omega
      have HM2 := Lib.hid hm2
      clear hm2
      rcases Nat.eq_zero_or_pos k with rfl | hpos
      · have hm1 : m = 1 := by rw [pow4] at hm; omega
        subst hm1
        clear hm
        go_wp2_with fail
        go_round
        case rel => exact ⟨1, 7, rfl, rfl, by rw [pow4_succ, pow4], by omega, by omega⟩
        case measure => simp [intOf]
      · have hne : ((k : Int) + 1 == 1) = false := by simp; omega
        clear hm
        go_wp2_with fail
        go_round
        case rel => exact ⟨k + 1, 4 * m + 3, by go_num, by congr 1; omega, HM2.out, by omega, hb2⟩
        case measure => simp [intOf]; omega
    · have hend : (¬ (m : Int) ≤ (n : Int)) ∨ ((m : Int) ≤ (n : Int) ∧ ¬ (k : Int) < 30) := by omega
      have hdone : n < m := by
        rcases Nat.lt_or_ge n m with h | h
        · exact h
        · have hk30 : k = 30 := by omega
          rw [hk30, pow4_30] at hm
          omega
      have HD := Lib.hid (height_done hm hdone)
      clear hm hdone hlt
      rcases hend with h | ⟨h, h'⟩
      all_goals
        go_wp2_with fail
        go_ret
        exact ⟨k, rfl, HD.out, rfl⟩
end

section
open Go.RowKit

/-- a pair of trees that the call has made -/
def OwnTwin (w : World) (tb rb : Nat) (s : List KV) (wc : World) : Prop := ∃ E, Twin wc tb rb E s ∧ Fr (fun _ => False) w wc ∧ ∀ a, E a → w.heap.size ≤ a

section
variable {w wc wd : World} {tb rb ub qb : Nat} {s s1 s2 : List KV}

theorem OwnTwin.fr (h : OwnTwin w tb rb s wc) (hf : Fr (fun _ => False) wc wd) : OwnTwin w tb rb s wd := by
  obtain ⟨E, a, b, c⟩ := h
  exact ⟨E, a.fr hf (fun _ _ h => h), b.trans' hf, c⟩
theorem OwnTwin.frame (h : OwnTwin w tb rb s wc) : Fr (fun _ => False) w wc := by obtain ⟨E, a, b, c⟩ := h; exact b
theorem OwnTwin.row (h : OwnTwin w tb rb s wc) : ∃ ao c, RefAt wc rb (.slice ao s.length c) s := by
  obtain ⟨E, ⟨F, sv, -, a, -⟩, -⟩ := h
  obtain ⟨ao, c, rfl, -⟩ := owns_form a.row
  exact ⟨ao, c, a⟩
theorem OwnTwin.tree (h : OwnTwin w tb rb s wc) : ∃ F, Held wc tb F s := by
  obtain ⟨E, ⟨F, sv, a, -⟩, -⟩ := h
  exact ⟨F, a⟩

theorem leaves_own {E : Nat → Prop} {s' : List KV} (b : Fr (fun _ => False) w wc) (c : ∀ a, E a → w.heap.size ≤ a) (h : TwinLeaves tb rb E s' wc wd) : OwnTwin w tb rb s' wd := by
  obtain ⟨E', a1, a2, a3⟩ := h
  refine ⟨E', a1, b.trans a2 (fun j hj hE => by have := c j hE; omega), fun a ha => ?_⟩
  by_cases hlt : a < wc.heap.size
  · exact c a (a3 a hlt ha)
  · have := b.size; omega

def OwnStep (w : World) (tb rb : Nat) (s : List KV) (e : Ending) (wd : World) : Prop := e = .returned (.bool true) ∧ ∃ s', s'.length ≤ s.length + 1 ∧ OwnTwin w tb rb s' wd

theorem own_step (kind n : Int) (key : ByteArray) (h : OwnTwin w tb rb s wc) (hs : (s.length + 1) * 24 ≤ 140737488355328) :
    Calls Try.prog 12 #[.pointer (some ⟨tb, 0, none⟩), .pointer (some ⟨rb, 0, none⟩), .agg #[.int .i64 kind, .int .i64 n, .string key]] wc (OwnStep w tb rb s) := by
  obtain ⟨E, a, b, c⟩ := h
  exact (step_walk tb rb E s kind n key wc a hs).mono fun _ _ ⟨x, s', y, z⟩ => ⟨x, s', z, leaves_own b c y⟩

/-- a tree that was made, and the document's behind it -/
theorem twin_made {F : Nat → Prop} (h1 : Held wc tb F []) (hf : Fr (fun _ => False) wc wd) :
    Twin (wd.alloc (.cells #[.slice none 0 0] 39)) tb wd.heap.size (fun a => F a ∨ a = wd.heap.size) [] := by
  have hf2 := hf.alloc (.cells #[.slice none 0 0] 39)
  refine ⟨F, .slice none 0 0, h1.fr hf2 (fun _ _ h => h), ⟨blk_new wd [.slice none 0 0] 39, World.ownsRow_nil _ _ _ _⟩, fun a hF e => ?_, fun a => ⟨fun h => h.imp id .inl, fun h => h.imp id fun e => e.elim id fun e => by cases e⟩⟩
  rcases e with e | e
  · have := h1.lt hF; have := hf.size; omega
  · cases e

/-- two pairs, apart -/
def Plays (w : World) (tb rb ub qb : Nat) (s1 s2 : List KV) (wc : World) : Prop :=
  ∃ E G, Twin wc tb rb E s1 ∧ Twin wc ub qb G s2 ∧ (∀ a, E a → ¬ G a) ∧ Fr (fun _ => False) w wc ∧ (∀ a, E a → w.heap.size ≤ a) ∧ ∀ a, G a → w.heap.size ≤ a

theorem Plays.one (h : Plays w tb rb ub qb s1 s2 wc) : OwnTwin w tb rb s1 wc := by obtain ⟨E, G, a, b, c, d, e, f⟩ := h; exact ⟨E, a, d, e⟩
theorem Plays.two (h : Plays w tb rb ub qb s1 s2 wc) : OwnTwin w ub qb s2 wc := by obtain ⟨E, G, a, b, c, d, e, f⟩ := h; exact ⟨G, b, d, f⟩
theorem Plays.swap (h : Plays w tb rb ub qb s1 s2 wc) : Plays w ub qb tb rb s2 s1 wc := by obtain ⟨E, G, a, b, c, d, e, f⟩ := h; exact ⟨G, E, b, a, fun x hx hy => c x hy hx, d, f, e⟩
theorem Plays.fr (h : Plays w tb rb ub qb s1 s2 wc) (hf : Fr (fun _ => False) wc wd) : Plays w tb rb ub qb s1 s2 wd := by
  obtain ⟨E, G, a, b, c, d, e, f⟩ := h
  exact ⟨E, G, a.fr hf (fun _ _ h => h), b.fr hf (fun _ _ h => h), c, d.trans' hf, e, f⟩
theorem Plays.frame (h : Plays w tb rb ub qb s1 s2 wc) : Fr (fun _ => False) w wc := h.one.frame

def PlayStep (w : World) (tb rb ub qb : Nat) (s1 s2 : List KV) (e : Ending) (wd : World) : Prop := e = .returned (.bool true) ∧ ∃ s', s'.length ≤ s1.length + 1 ∧ Plays w tb rb ub qb s' s2 wd

theorem play_step (kind n : Int) (key : ByteArray) (h : Plays w tb rb ub qb s1 s2 wc) (hs : (s1.length + 1) * 24 ≤ 140737488355328) :
    Calls Try.prog 12 #[.pointer (some ⟨tb, 0, none⟩), .pointer (some ⟨rb, 0, none⟩), .agg #[.int .i64 kind, .int .i64 n, .string key]] wc (PlayStep w tb rb ub qb s1 s2) := by
  obtain ⟨E, G, a, b, c, d, e, f⟩ := h
  refine (step_walk tb rb E s1 kind n key wc a hs).mono ?_
  rintro en wd ⟨rfl, s', ⟨E', x1, x2, x3⟩, hl⟩
  refine ⟨rfl, s', hl, E', G, x1, b.fr x2 (fun y hG hE => c y hE hG), fun y hE hG => c y (x3 y (b.lt hG) hE) hG, d.trans x2 (fun j hj hE => by have := e j hE; omega), fun y hy => ?_, f⟩
  by_cases hlt : y < wc.heap.size
  · exact e y (x3 y hlt hy)
  · have := d.size; omega

/-- two trees that were made, one behind the other, and the document's behind them -/
theorem plays_made {w1 w2 : World} {F G : Nat → Prop} (h1 : Held w1 tb F []) (f1 : Fr (fun _ => False) w w1) (n1 : ∀ a, F a → w.heap.size ≤ a) (h2 : Held w2 ub G []) (f2 : Fr (fun _ => False) w1 w2) (n2 : ∀ a, G a → w1.heap.size ≤ a) :
    Plays w tb w2.heap.size ub (w2.heap.size + 1) [] [] ((w2.alloc (.cells #[.slice none 0 0] 39)).alloc (.cells #[.slice none 0 0] 39)) := by
  have hr : Fr (fun _ => False) w2 (w2.alloc (.cells #[.slice none 0 0] 39)) := (Fr.refl _ _).alloc _
  have hr2 := (Fr.refl (fun _ => False) (w2.alloc (.cells #[.slice none 0 0] 39))).alloc (.cells #[.slice none 0 0] 39)
  have t1 := (twin_made h1 f2).fr hr2 (fun _ _ h => h)
  have t2 := twin_made h2 hr
  have hsz : (w2.alloc (.cells #[.slice none 0 0] 39)).heap.size = w2.heap.size + 1 := by simp
  rw [hsz] at t2
  refine ⟨_, _, t1, t2, fun a ha hb => ?_, (f1.trans' f2).trans' (hr.trans' hr2), fun a ha => ?_, fun a ha => ?_⟩
  · rcases ha with ha | ha
    · have := h1.lt ha
      rcases hb with hb | hb
      · have := n2 a hb; omega
      · have := f2.size; omega
    · rcases hb with hb | hb
      · have := h2.lt hb; omega
      · omega
  · rcases ha with ha | ha
    · exact n1 a ha
    · have := f1.size; have := f2.size; omega
  · rcases ha with ha | ha
    · have := n2 a ha; have := f1.size; omega
    · have := f1.size; have := f2.size; omega
end

/-- what Shape tells of k pairs -/
structure Told4 (k : Nat) (st : Sh) : Prop where
  high : st.high ≤ 7
  low : 2 ≤ st.nodes → 3 ≤ st.low
  one : st.nodes = 1 → st.low = k ∧ st.high = k ∧ st.height = 1
  h1 : 1 ≤ st.height
  tall : 2 * pow4 (st.height - 1) ≤ k + 1
  wide : st.height ≤ st.nodes
  few : st.nodes ≤ k
  many : k ≤ 7 * st.nodes

def ShapeHeld (k : Nat) (w : World) (e : Ending) (w' : World) : Prop :=
  ∃ st : Sh, e = .returned (.tuple #[.int .i64 (st.height : Nat), .int .i64 (st.nodes : Nat), .int .i64 (st.low : Nat), .int .i64 (st.high : Nat)]) ∧ Fr (fun _ => False) w w' ∧ (k = 0 → st = ⟨0, 0, 0, 0⟩) ∧ (1 ≤ k → Told4 k st)

theorem shape_held {tb : Nat} {F : Nat → Prop} {s : List KV} (w : World) (hh : Held w tb F s) (hs : s.length ≤ 4611686018427387) : Calls Try.prog 18 #[.pointer (some ⟨tb, 0, none⟩)] w (ShapeHeld s.length w) := by
  obtain ⟨h, t, k, -⟩ := hh
  obtain ⟨a1, a2, a3, a4, a5⟩ := shape_of k.ok
  have hlen : (flat t).length = s.length := by rw [k.tells]
  have hroot := size_root k.ok k.low
  rw [hlen] at hroot
  have hn : (Sh.of t).nodes ≤ 4611686018427387904 := by
    rcases Nat.eq_zero_or_pos s.length with h0 | h0
    · cases h with
      | zero =>
        rw [a1]
        obtain ⟨b, lv, kv, l, kids⟩ := t
        obtain ⟨-, rfl⟩ := ok_zero.1 k.ok
        rw [nodesT_node, nodesA_nil]; omega
      | succ h =>
        have h1 := k.low (by omega)
        have h2 := height_le (h + 1) t k.ok k.low
        omega
    · have := hroot h0; omega
  refine (shape_walk tb h t s w k hs hn).mono ?_
  rintro e w' ⟨rfl, hf⟩
  refine ⟨_, rfl, hf, fun h0 => by rw [if_pos h0], fun h1 => ?_⟩
  rw [if_neg (by omega)]
  obtain ⟨b1, b2, b3, b4, b5, b6⟩ := hroot h1
  refine ⟨a3, a4, fun e1 => ?_, by omega, by rw [a2]; exact b1, by omega, by omega, by omega⟩
  have h0 : h = 0 := by
    rcases Nat.eq_zero_or_pos h with h0 | h0
    · exact h0
    · have := b6 h0; omega
  obtain ⟨c1, c2⟩ := a5 h0
  subst h0
  have hl : t.l.length = s.length := by
    obtain ⟨b, lv, kv, l, kids⟩ := t
    obtain ⟨-, e⟩ := ok_zero.1 k.ok
    simp only [MT.kids] at e
    subst e
    rw [← hlen, flat_leaf]; rfl
  exact ⟨by omega, by omega, by omega⟩
end
end Go.Proofs.Ytaopiolbjnnnfaa
