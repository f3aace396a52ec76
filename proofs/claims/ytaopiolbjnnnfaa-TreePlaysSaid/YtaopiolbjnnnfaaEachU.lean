/-
  each, called by Shape: the boxes, then the recursive closure. (printed by gen_eachst.py from EachT)
-/
import Derived.Test.YtaopiolbjnnnfaaEachT
import Derived.Test.YtaopiolbjnnnfaaEachS
import Derived.Laws.EntriesVeiled
namespace Go.Proofs.Ytaopiolbjnnnfaa
open Go.RowKit

section
variable {σ : Type} (N : σ → MT → Nat → σ) (P : σ → KV → σ) (Inv : Nat → σ → World → Prop) (M0 : Nat → Prop) (Good : σ → Prop)

set_option maxHeartbeats 4000000 in
set_option maxRecDepth 100000 in
theorem eachS_top (c1 c2 c3 c4 tb h : Nat) (t : MT) (s : List KV) (w : World) (hh : HeldAt w tb h t s) (hs : s.length ≤ 4611686018427387) (st0 : σ)
    (hN : ∀ B st w x deep, Inv B st w → Good (N st x deep) → Lies w x → B ≤ w.heap.size → Calls Try.prog 41 #[.pointer (some ⟨x.b, 0, none⟩), .int .i64 (deep : Nat), .pointer (some ⟨c1, 0, none⟩), .pointer (some ⟨c2, 0, none⟩), .pointer (some ⟨c3, 0, none⟩), .pointer (some ⟨c4, 0, none⟩)] w (Out Inv M0 B w (N st x deep)))
    (hP : ∀ B st w p, Inv B st w → Good (P st p) → B ≤ w.heap.size → Calls Try.prog 42 #[.agg #[.string p.1, .int .i64 p.2]] w (Out Inv M0 B w (P st p)))
    (hQ : ∀ B st w w', Inv B st w → Fr (fun _ => False) w w' → Inv B st w') (hGN : ∀ st x d, Good (N st x d) → Good st) (hGP : ∀ st p, Good (P st p) → Good st)
    (h0 : ∀ w', Fr (fun _ => False) w w' → Inv w'.heap.size st0 w') (hM : ∀ a, M0 a → a < w.heap.size ∧ cnt t a = 0) (hgood : Good (runT N P 1 st0 t)) :
    Calls Try.prog 27 #[.pointer (some ⟨tb, 0, none⟩), .func (.func 41) #[] #[.pointer (some ⟨c1, 0, none⟩), .pointer (some ⟨c2, 0, none⟩), .pointer (some ⟨c3, 0, none⟩), .pointer (some ⟨c4, 0, none⟩)], .func (.func 42) #[] #[]] w (Told Inv M0 (runT N P 1 st0 t) w) := by
  have hmf : ∀ (fn : Fn) (first cap : Array Value) (w : World), (Instr.makeFunc fn first cap).run Try.prog w = .ok (.func fn first cap) w := fun _ _ _ _ => rfl
  have HH := Lib.hid hh
  have q0 := blk_cell hh.blk 0
  have htt := blk_lt hh.blk
  simp only [List.getElem?_cons_zero] at q0
  clear hh
  go_enter Try.func27, Try.ntmps27
  go_upto_region 3 with fail
  have hb3 : World.blk (((w.alloc (.cells #[.func (.func 41) #[] #[.pointer (some ⟨c1, 0, none⟩), .pointer (some ⟨c2, 0, none⟩), .pointer (some ⟨c3, 0, none⟩), .pointer (some ⟨c4, 0, none⟩)]] 62)).alloc (.cells #[.func (.func 42) #[] #[]] 63)).alloc (.cells #[.func (.func 50) #[] #[.pointer (some ⟨w.heap.size, 0, none⟩), .pointer (some ⟨w.heap.size + 1 + 1, 0, none⟩), .pointer (some ⟨w.heap.size + 1, 0, none⟩)]] 62)) (w.heap.size + 1 + 1) [.func (.func 50) #[] #[.pointer (some ⟨w.heap.size, 0, none⟩), .pointer (some ⟨w.heap.size + 1 + 1, 0, none⟩), .pointer (some ⟨w.heap.size + 1, 0, none⟩)]] 62 := by
    have := blk_new ((w.alloc (.cells #[.func (.func 41) #[] #[.pointer (some ⟨c1, 0, none⟩), .pointer (some ⟨c2, 0, none⟩), .pointer (some ⟨c3, 0, none⟩), .pointer (some ⟨c4, 0, none⟩)]] 62)).alloc (.cells #[.func (.func 42) #[] #[]] 63)) [.func (.func 50) #[] #[.pointer (some ⟨w.heap.size, 0, none⟩), .pointer (some ⟨w.heap.size + 1 + 1, 0, none⟩), .pointer (some ⟨w.heap.size + 1, 0, none⟩)]] 62
    simpa using this
  have hb2 : World.blk (((w.alloc (.cells #[.func (.func 41) #[] #[.pointer (some ⟨c1, 0, none⟩), .pointer (some ⟨c2, 0, none⟩), .pointer (some ⟨c3, 0, none⟩), .pointer (some ⟨c4, 0, none⟩)]] 62)).alloc (.cells #[.func (.func 42) #[] #[]] 63)).alloc (.cells #[.func (.func 50) #[] #[.pointer (some ⟨w.heap.size, 0, none⟩), .pointer (some ⟨w.heap.size + 1 + 1, 0, none⟩), .pointer (some ⟨w.heap.size + 1, 0, none⟩)]] 62)) (w.heap.size + 1) [.func (.func 42) #[] #[]] 63 := by
    have := blk_alloc (blk_new (w.alloc (.cells #[.func (.func 41) #[] #[.pointer (some ⟨c1, 0, none⟩), .pointer (some ⟨c2, 0, none⟩), .pointer (some ⟨c3, 0, none⟩), .pointer (some ⟨c4, 0, none⟩)]] 62)) [.func (.func 42) #[] #[]] 63) (.cells #[.func (.func 50) #[] #[.pointer (some ⟨w.heap.size, 0, none⟩), .pointer (some ⟨w.heap.size + 1 + 1, 0, none⟩), .pointer (some ⟨w.heap.size + 1, 0, none⟩)]] 62)
    simpa using this
  have hb1 : World.blk (((w.alloc (.cells #[.func (.func 41) #[] #[.pointer (some ⟨c1, 0, none⟩), .pointer (some ⟨c2, 0, none⟩), .pointer (some ⟨c3, 0, none⟩), .pointer (some ⟨c4, 0, none⟩)]] 62)).alloc (.cells #[.func (.func 42) #[] #[]] 63)).alloc (.cells #[.func (.func 50) #[] #[.pointer (some ⟨w.heap.size, 0, none⟩), .pointer (some ⟨w.heap.size + 1 + 1, 0, none⟩), .pointer (some ⟨w.heap.size + 1, 0, none⟩)]] 62)) w.heap.size [.func (.func 41) #[] #[.pointer (some ⟨c1, 0, none⟩), .pointer (some ⟨c2, 0, none⟩), .pointer (some ⟨c3, 0, none⟩), .pointer (some ⟨c4, 0, none⟩)]] 62 :=
    blk_alloc (blk_alloc (blk_new w [.func (.func 41) #[] #[.pointer (some ⟨c1, 0, none⟩), .pointer (some ⟨c2, 0, none⟩), .pointer (some ⟨c3, 0, none⟩), .pointer (some ⟨c4, 0, none⟩)]] 62) _) _
  have hfe : Fr (fun _ => False) w (((w.alloc (.cells #[.func (.func 41) #[] #[.pointer (some ⟨c1, 0, none⟩), .pointer (some ⟨c2, 0, none⟩), .pointer (some ⟨c3, 0, none⟩), .pointer (some ⟨c4, 0, none⟩)]] 62)).alloc (.cells #[.func (.func 42) #[] #[]] 63)).alloc (.cells #[.func (.func 50) #[] #[.pointer (some ⟨w.heap.size, 0, none⟩), .pointer (some ⟨w.heap.size + 1 + 1, 0, none⟩), .pointer (some ⟨w.heap.size + 1, 0, none⟩)]] 62)) := (((Fr.refl _ _).alloc _).alloc _).alloc _
  have hsz : (((w.alloc (.cells #[.func (.func 41) #[] #[.pointer (some ⟨c1, 0, none⟩), .pointer (some ⟨c2, 0, none⟩), .pointer (some ⟨c3, 0, none⟩), .pointer (some ⟨c4, 0, none⟩)]] 62)).alloc (.cells #[.func (.func 42) #[] #[]] 63)).alloc (.cells #[.func (.func 50) #[] #[.pointer (some ⟨w.heap.size, 0, none⟩), .pointer (some ⟨w.heap.size + 1 + 1, 0, none⟩), .pointer (some ⟨w.heap.size + 1, 0, none⟩)]] 62)).heap.size = w.heap.size + 3 := by simp
  revert hb1 hb2 hb3 hfe hsz
  generalize (((w.alloc (.cells #[.func (.func 41) #[] #[.pointer (some ⟨c1, 0, none⟩), .pointer (some ⟨c2, 0, none⟩), .pointer (some ⟨c3, 0, none⟩), .pointer (some ⟨c4, 0, none⟩)]] 62)).alloc (.cells #[.func (.func 42) #[] #[]] 63)).alloc (.cells #[.func (.func 50) #[] #[.pointer (some ⟨w.heap.size, 0, none⟩), .pointer (some ⟨w.heap.size + 1 + 1, 0, none⟩), .pointer (some ⟨w.heap.size + 1, 0, none⟩)]] 62)) = we
  intro hb3 hb2 hb1 hfe hsz
  have hhe := HH.out.fr hfe (fun _ _ h => h)
  have q1 := blk_cell hhe.blk 0
  have q2 := blk_cell hb3 0
  simp only [List.getElem?_cons_zero] at q1 q2
  have hdr : Fr (fun _ => False) we we.drew := (Fr.refl _ _).drew
  have hbig := height_le h t HH.out.ok HH.out.low
  rw [HH.out.tells] at hbig
  have hcall := eachS_walk N P Inv M0 Good c1 c2 c3 c4 w.heap.size (w.heap.size + 1 + 1) (w.heap.size + 1) we.heap.size ⟨by omega, fun e => by have := (hM _ e).1; omega⟩ ⟨by omega, fun e => by have := (hM _ e).1; omega⟩ ⟨by omega, fun e => by have := (hM _ e).1; omega⟩
    (fun st w x deep => hN _ st w x deep) (fun st w p => hP _ st w p) (fun st w w' => hQ _ st w w') hGN hGP h t st0 1 we.drew hgood (lies_fr hdr t hhe.lies (fun _ _ h => h)) hhe.ok (by omega) (fun a ha => ⟨lies_lt t hhe.lies a ha, fun e => by have := (hM _ e).2; omega⟩)
    (hQ _ _ _ _ (h0 we hfe) hdr) (Nat.le_refl _) (blk_fr hb1 hdr (fun h => h)) (blk_fr hb3 hdr (fun h => h)) (blk_fr hb2 hdr (fun h => h))
  have HCALL := Lib.hid hcall
  have HFE := Lib.hid hfe
  have HSZ := Lib.hid hsz
  have HHE := Lib.hid hhe
  have l1 : w.heap.size + 1 + 1 < we.heap.size := by omega
  clear hcall hdr hb1 hb2 hb3 hfe hsz hbig hN hP hQ hGN hGP h0 hM hhe hmf q0
  go_wp2_with (go_at_call 21; refine (none_any tb _ _ _ HHE.out.blk).mono ?_; rintro e w' ⟨rfl, rfl⟩)
  go_region_with (go_at_call 50; refine HCALL.out.mono ?_; rintro e w2 ⟨rfl, hinv2, hf2⟩)
  all_goals
    go_wp2_with fail
    go_end0
    refine ⟨rfl, we.heap.size, HFE.out.size, hinv2, ?_⟩
    exact (HFE.out.mono fun _ _ h => h.elim).trans' (((Fr.refl _ _).drew).trans' (hf2.mono fun a _ h => h.imp id fun h => Nat.le_trans HFE.out.size h))
end
end Go.Proofs.Ytaopiolbjnnnfaa
