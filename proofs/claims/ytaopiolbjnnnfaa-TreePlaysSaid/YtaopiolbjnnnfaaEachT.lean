/-
  each, called by All: the boxes, then the recursive closure.
-/
import Derived.Test.YtaopiolbjnnnfaaAll
import Derived.Laws.EntriesVeiled
namespace Go.Proofs.Ytaopiolbjnnnfaa
open Go.RowKit

theorem height_le : ∀ (h : Nat) (t : MT), Ok h t → (1 ≤ h → 1 ≤ t.l.length) → h ≤ (flat t).length
  | 0, _, _, _ => Nat.zero_le _
  | h + 1, .node b lv kv l kids, hk, hlow => by
    have hk' := ok_node.1 hk
    have h1 := hlow (by omega)
    simp only [MT.l] at h1
    match kids, hk' with
    | [], hk' => simp at hk'
    | c :: B, hk' =>
      have hc := hk'.2.2 c (by simp)
      have ih := height_le h c hc.2 (fun _ => by omega)
      have hf := flat_at b lv kv [] l [] B c rfl (by have := hk'.2.1; simp at this; omega)
      simp only [List.nil_append] at hf
      rw [hf, before_nil]
      match l, B, h1, hk' with
      | p :: l, d :: B, _, _ => rw [after_cons]; simp; omega
      | p :: l, [], _, hk' => simp at hk'

section
variable {σ : Type} (N : σ → MT → Nat → σ) (P : σ → KV → σ) (Inv : Nat → σ → World → Prop) (M0 : Nat → Prop) (Good : σ → Prop)

def Told (st : σ) (w : World) (e : Ending) (w' : World) : Prop := e = .returned (.tuple #[]) ∧ ∃ B, w.heap.size ≤ B ∧ Inv B st w' ∧ Fr (fun a => M0 a ∨ w.heap.size ≤ a) w w'

set_option maxHeartbeats 4000000 in
set_option maxRecDepth 100000 in
theorem eachA_top (ob tb h : Nat) (t : MT) (s : List KV) (w : World) (hh : HeldAt w tb h t s) (hs : s.length ≤ 4611686018427387) (st0 : σ)
    (hN : ∀ B st w x deep, Inv B st w → Good (N st x deep) → Lies w x → B ≤ w.heap.size → Calls Try.prog 28 #[.pointer (some ⟨x.b, 0, none⟩), .int .i64 (deep : Nat)] w (Out Inv M0 B w (N st x deep)))
    (hP : ∀ B st w p, Inv B st w → Good (P st p) → B ≤ w.heap.size → Calls Try.prog 29 #[.agg #[.string p.1, .int .i64 p.2], .pointer (some ⟨ob, 0, none⟩)] w (Out Inv M0 B w (P st p)))
    (hQ : ∀ B st w w', Inv B st w → Fr (fun _ => False) w w' → Inv B st w') (hGN : ∀ st x d, Good (N st x d) → Good st) (hGP : ∀ st p, Good (P st p) → Good st)
    (h0 : ∀ w', Fr (fun _ => False) w w' → Inv w'.heap.size st0 w') (hM : ∀ a, M0 a → a < w.heap.size ∧ cnt t a = 0) (hgood : Good (runT N P 1 st0 t)) :
    Calls Try.prog 27 #[.pointer (some ⟨tb, 0, none⟩), .func (.func 28) #[] #[], .func (.func 29) #[] #[.pointer (some ⟨ob, 0, none⟩)]] w (Told Inv M0 (runT N P 1 st0 t) w) := by
  have hmf : ∀ (fn : Fn) (first cap : Array Value) (w : World), (Instr.makeFunc fn first cap).run Try.prog w = .ok (.func fn first cap) w := fun _ _ _ _ => rfl
  have HH := Lib.hid hh
  have q0 := blk_cell hh.blk 0
  have htt := blk_lt hh.blk
  simp only [List.getElem?_cons_zero] at q0
  clear hh
  go_enter Try.func27, Try.ntmps27
  go_upto_region 3 with fail
  have hb3 : World.blk (((w.alloc (.cells #[.func (.func 28) #[] #[]] 62)).alloc (.cells #[.func (.func 29) #[] #[.pointer (some ⟨ob, 0, none⟩)]] 63)).alloc (.cells #[.func (.func 50) #[] #[.pointer (some ⟨w.heap.size, 0, none⟩), .pointer (some ⟨w.heap.size + 1 + 1, 0, none⟩), .pointer (some ⟨w.heap.size + 1, 0, none⟩)]] 62)) (w.heap.size + 1 + 1) [.func (.func 50) #[] #[.pointer (some ⟨w.heap.size, 0, none⟩), .pointer (some ⟨w.heap.size + 1 + 1, 0, none⟩), .pointer (some ⟨w.heap.size + 1, 0, none⟩)]] 62 := by
    have := blk_new ((w.alloc (.cells #[.func (.func 28) #[] #[]] 62)).alloc (.cells #[.func (.func 29) #[] #[.pointer (some ⟨ob, 0, none⟩)]] 63)) [.func (.func 50) #[] #[.pointer (some ⟨w.heap.size, 0, none⟩), .pointer (some ⟨w.heap.size + 1 + 1, 0, none⟩), .pointer (some ⟨w.heap.size + 1, 0, none⟩)]] 62
    simpa using this
  have hb2 : World.blk (((w.alloc (.cells #[.func (.func 28) #[] #[]] 62)).alloc (.cells #[.func (.func 29) #[] #[.pointer (some ⟨ob, 0, none⟩)]] 63)).alloc (.cells #[.func (.func 50) #[] #[.pointer (some ⟨w.heap.size, 0, none⟩), .pointer (some ⟨w.heap.size + 1 + 1, 0, none⟩), .pointer (some ⟨w.heap.size + 1, 0, none⟩)]] 62)) (w.heap.size + 1) [.func (.func 29) #[] #[.pointer (some ⟨ob, 0, none⟩)]] 63 := by
    have := blk_alloc (blk_new (w.alloc (.cells #[.func (.func 28) #[] #[]] 62)) [.func (.func 29) #[] #[.pointer (some ⟨ob, 0, none⟩)]] 63) (.cells #[.func (.func 50) #[] #[.pointer (some ⟨w.heap.size, 0, none⟩), .pointer (some ⟨w.heap.size + 1 + 1, 0, none⟩), .pointer (some ⟨w.heap.size + 1, 0, none⟩)]] 62)
    simpa using this
  have hb1 : World.blk (((w.alloc (.cells #[.func (.func 28) #[] #[]] 62)).alloc (.cells #[.func (.func 29) #[] #[.pointer (some ⟨ob, 0, none⟩)]] 63)).alloc (.cells #[.func (.func 50) #[] #[.pointer (some ⟨w.heap.size, 0, none⟩), .pointer (some ⟨w.heap.size + 1 + 1, 0, none⟩), .pointer (some ⟨w.heap.size + 1, 0, none⟩)]] 62)) w.heap.size [.func (.func 28) #[] #[]] 62 :=
    blk_alloc (blk_alloc (blk_new w [.func (.func 28) #[] #[]] 62) _) _
  have hfe : Fr (fun _ => False) w (((w.alloc (.cells #[.func (.func 28) #[] #[]] 62)).alloc (.cells #[.func (.func 29) #[] #[.pointer (some ⟨ob, 0, none⟩)]] 63)).alloc (.cells #[.func (.func 50) #[] #[.pointer (some ⟨w.heap.size, 0, none⟩), .pointer (some ⟨w.heap.size + 1 + 1, 0, none⟩), .pointer (some ⟨w.heap.size + 1, 0, none⟩)]] 62)) := (((Fr.refl _ _).alloc _).alloc _).alloc _
  have hsz : (((w.alloc (.cells #[.func (.func 28) #[] #[]] 62)).alloc (.cells #[.func (.func 29) #[] #[.pointer (some ⟨ob, 0, none⟩)]] 63)).alloc (.cells #[.func (.func 50) #[] #[.pointer (some ⟨w.heap.size, 0, none⟩), .pointer (some ⟨w.heap.size + 1 + 1, 0, none⟩), .pointer (some ⟨w.heap.size + 1, 0, none⟩)]] 62)).heap.size = w.heap.size + 3 := by simp
  revert hb1 hb2 hb3 hfe hsz
  generalize (((w.alloc (.cells #[.func (.func 28) #[] #[]] 62)).alloc (.cells #[.func (.func 29) #[] #[.pointer (some ⟨ob, 0, none⟩)]] 63)).alloc (.cells #[.func (.func 50) #[] #[.pointer (some ⟨w.heap.size, 0, none⟩), .pointer (some ⟨w.heap.size + 1 + 1, 0, none⟩), .pointer (some ⟨w.heap.size + 1, 0, none⟩)]] 62)) = we
  intro hb3 hb2 hb1 hfe hsz
  have hhe := HH.out.fr hfe (fun _ _ h => h)
  have q1 := blk_cell hhe.blk 0
  have q2 := blk_cell hb3 0
  simp only [List.getElem?_cons_zero] at q1 q2
  have hdr : Fr (fun _ => False) we we.drew := (Fr.refl _ _).drew
  have hbig := height_le h t HH.out.ok HH.out.low
  rw [HH.out.tells] at hbig
  have hcall := eachA_walk N P Inv M0 Good ob w.heap.size (w.heap.size + 1 + 1) (w.heap.size + 1) we.heap.size ⟨by omega, fun e => by have := (hM _ e).1; omega⟩ ⟨by omega, fun e => by have := (hM _ e).1; omega⟩ ⟨by omega, fun e => by have := (hM _ e).1; omega⟩
    (fun st w x deep => hN _ st w x deep) (fun st w p => hP _ st w p) (fun st w w' => hQ _ st w w') hGN hGP h t st0 1 we.drew hgood (lies_fr hdr t hhe.lies (fun _ _ h => h)) hhe.ok (by omega) (fun a ha => ⟨lies_lt t hhe.lies a ha, fun e => by have := (hM _ e).2; omega⟩)
    (hQ _ _ _ _ (h0 we hfe) hdr) (Nat.le_refl _) (blk_fr hb1 hdr (fun h => h)) (blk_fr hb3 hdr (fun h => h)) (blk_fr hb2 hdr (fun h => h))
  have HCALL := Lib.hid hcall
  have HFE := Lib.hid hfe
  have HSZ := Lib.hid hsz
  have HHE := Lib.hid hhe
  have l1 : w.heap.size + 1 + 1 < we.heap.size := by omega
  clear hcall hdr hb1 hb2 hb3 hfe hsz hbig hN hP hQ hGN hGP h0 hM hhe hmf q0
  go_wp2_with (go_at_call 21; refine (none_any tb _ _ _ HHE.out.blk).mono ?_; rintro e w' ⟨rfl, rfl⟩)
  go_region_with (go_at_call 50; refine HCALL.out.mono ?_; rintro e w2 ⟨rfl, hinv2, hf2⟩)
  all_goals
    go_wp2_with fail
    go_end0
    refine ⟨rfl, we.heap.size, HFE.out.size, hinv2, ?_⟩
    exact (HFE.out.mono fun _ _ h => h.elim).trans' (((Fr.refl _ _).drew).trans' (hf2.mono fun a _ h => h.imp id fun h => Nat.le_trans HFE.out.size h))
end
end Go.Proofs.Ytaopiolbjnnnfaa
