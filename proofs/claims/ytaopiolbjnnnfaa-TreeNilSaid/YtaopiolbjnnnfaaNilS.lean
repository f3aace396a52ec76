/-
  Shape of no tree, and of one that nobody made.
-/
import Derived.Test.YtaopiolbjnnnfaaShapeT
import Derived.Test.YtaopiolbjnnnfaaNil
namespace Go.Proofs.Ytaopiolbjnnnfaa
open Go.RowKit

set_option maxHeartbeats 2000000 in
set_option maxRecDepth 100000 in
theorem nil_shape {p : Value} {w : World} (h : IsNone p w) : Calls Try.prog 18 #[p] w (NoShapePost w) := by
  have HH := Lib.hid h
  clear h
  go_enter Try.func18, Try.ntmps18
  go_upto_region 1 with fail
  have hb : ∀ (u : World) (n : Nat), n = u.heap.size → World.blk (u.alloc (.cells #[.int .i64 0] 3)) n [.int .i64 0] 3 := fun u n e => by subst e; exact blk_new u [.int .i64 0] 3
  have hq : Quad (w.heap.size + 1) (w.heap.size + 1 + 1) w.heap.size (w.heap.size + 1 + 1 + 1) 0 0 0 0 w ((((w.alloc (.cells #[.int .i64 0] 3)).alloc (.cells #[.int .i64 0] 3)).alloc (.cells #[.int .i64 0] 3)).alloc (.cells #[.int .i64 0] 3)) :=
    ⟨blk_alloc (blk_alloc (hb _ _ (by simp)) _) _, blk_alloc (hb _ _ (by simp)) _, blk_alloc (blk_alloc (blk_alloc (hb _ _ rfl) _) _) _, hb _ _ (by simp), by omega, (((((Fr.refl _ _).alloc _).alloc _).alloc _).alloc _)⟩
  have hfe : Fr (fun _ => False) w ((((w.alloc (.cells #[.int .i64 0] 3)).alloc (.cells #[.int .i64 0] 3)).alloc (.cells #[.int .i64 0] 3)).alloc (.cells #[.int .i64 0] 3)) := (((((Fr.refl _ _).alloc _).alloc _).alloc _).alloc _)
  revert hq hfe
  generalize ((((w.alloc (.cells #[.int .i64 0] 3)).alloc (.cells #[.int .i64 0] 3)).alloc (.cells #[.int .i64 0] 3)).alloc (.cells #[.int .i64 0] 3)) = we
  intro hq hfe
  obtain ⟨b0, hb0⟩ : ∃ b0, b0 = w.heap.size := ⟨_, rfl⟩
  rw [← hb0] at hq ⊢
  have hhe := HH.out.fr hfe
  have HQ := Lib.hid hq
  have HHE := Lib.hid hhe
  have HB0 := Lib.hid hb0
  clear hb hq hhe hb0 hfe
  go_wp2_with (go_at_call 14; refine (nil_len HHE.out).mono ?_; rintro e w2 ⟨rfl, hf⟩
               have hq : Quad (b0 + 1) (b0 + 1 + 1) b0 (b0 + 1 + 1 + 1) 0 0 0 0 w w2 := ⟨blk_fr HQ.out.bN hf (fun h => h), blk_fr HQ.out.bL hf (fun h => h), blk_fr HQ.out.bH hf (fun h => h), blk_fr HQ.out.bG hf (fun h => h), HQ.out.apart, HQ.out.fr.trans hf fun _ _ h => h.elim⟩
               have q1 := blk_cell hq.bN 0
               have q2 := blk_cell hq.bL 0
               have q3 := blk_cell hq.bH 0
               have q4 := blk_cell hq.bG 0
               have f1 := blk_free hq.bN 0
               have f2 := blk_free hq.bL 0
               have f3 := blk_free hq.bH 0
               have f4 := blk_free hq.bG 0
               have l1 := blk_lt hq.bN
               have l2 := blk_lt hq.bL
               have l3 := blk_lt hq.bH
               have l4 := blk_lt hq.bG
               simp only [List.getElem?_cons_zero] at q1 q2 q3 q4
               have HQ2 := Lib.hid hq
               clear hq hf)
  have hq2 := (((HQ2.out.setH 0).setN 0).setL 0).setG 0
  have z1 := blk_cell hq2.bN 0
  have z2 := blk_cell hq2.bL 0
  have z3 := blk_cell hq2.bH 0
  have z4 := blk_cell hq2.bG 0
  simp only [List.getElem?_cons_zero] at z1 z2 z3 z4
  refine bodyPost_ret (v := .tuple #[.int .i64 0, .int .i64 0, .int .i64 0, .int .i64 0]) (by simp [results, Try.results18, go_sem, z1, z2, z3, z4]) rfl ⟨rfl, hq2.fr.mono fun a ha e => ?_⟩
  have := HB0.out
  omega
end Go.Proofs.Ytaopiolbjnnnfaa
