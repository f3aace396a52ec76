/-
  Shape: the walk.
-/
import Derived.Test.YtaopiolbjnnnfaaShape
namespace Go.Proofs.Ytaopiolbjnnnfaa
open Go.RowKit

theorem shape2_walk (p : KV) (w : World) : Calls Try.prog 42 #[.agg #[.string p.1, .int .i64 p.2]] w fun e w' => e = .returned (.tuple #[]) ∧ Fr (fun _ => False) w w' := by
  go_enter Try.func42, Try.ntmps42
  go_wp2
  go_end0
  exact ⟨rfl, (Fr.refl _ _).alloc _⟩

theorem shaped_fr {cN cL cH cG B : Nat} {st : Sh} {w w' : World} (h : Shaped cN cL cH cG B st w) (hf : Fr (fun _ => False) w w') : Shaped cN cL cH cG B st w' := by
  obtain ⟨h1, h2, h3, h4, h5⟩ := h
  exact ⟨blk_fr h1 hf (fun h => h), blk_fr h2 hf (fun h => h), blk_fr h3 hf (fun h => h), blk_fr h4 hf (fun h => h), h5⟩

def Sh.of (t : MT) : Sh := runT Sh.step (fun st _ => st) 1 ⟨0, 0, t.l.length, 0⟩ t

def ShapePost (st : Sh) (w : World) (e : Ending) (w' : World) : Prop :=
  e = .returned (.tuple #[.int .i64 (st.height : Nat), .int .i64 (st.nodes : Nat), .int .i64 (st.low : Nat), .int .i64 (st.high : Nat)]) ∧ Fr (fun _ => False) w w'

set_option maxHeartbeats 4000000 in
set_option maxRecDepth 100000 in
theorem shape_walk (tb h : Nat) (t : MT) (s : List KV) (w : World) (hh : HeldAt w tb h t s) (hs : s.length ≤ 4611686018427387) (hn : (Sh.of t).nodes ≤ 4611686018427387904) :
    Calls Try.prog 18 #[.pointer (some ⟨tb, 0, none⟩)] w (ShapePost (if s.length = 0 then ⟨0, 0, 0, 0⟩ else Sh.of t) w) := by
  have hmf : ∀ (fn : Fn) (first cap : Array Value) (w : World), (Instr.makeFunc fn first cap).run Try.prog w = .ok (.func fn first cap) w := fun _ _ _ _ => rfl
  have HH := Lib.hid hh
  clear hh
  go_enter Try.func18, Try.ntmps18
  go_upto_region 1 with fail
  have hb : ∀ (u : World) (n : Nat), n = u.heap.size → World.blk (u.alloc (.cells #[.int .i64 0] 3)) n [.int .i64 0] 3 := fun u n e => by subst e; exact blk_new u [.int .i64 0] 3
  have hq : Quad (w.heap.size + 1) (w.heap.size + 1 + 1) w.heap.size (w.heap.size + 1 + 1 + 1) 0 0 0 0 w ((((w.alloc (.cells #[.int .i64 0] 3)).alloc (.cells #[.int .i64 0] 3)).alloc (.cells #[.int .i64 0] 3)).alloc (.cells #[.int .i64 0] 3)) :=
    ⟨blk_alloc (blk_alloc (hb _ _ (by simp)) _) _, blk_alloc (hb _ _ (by simp)) _, blk_alloc (blk_alloc (blk_alloc (hb _ _ rfl) _) _) _, hb _ _ (by simp), by omega, (((((Fr.refl _ _).alloc _).alloc _).alloc _).alloc _)⟩
  have hfe : Fr (fun _ => False) w ((((w.alloc (.cells #[.int .i64 0] 3)).alloc (.cells #[.int .i64 0] 3)).alloc (.cells #[.int .i64 0] 3)).alloc (.cells #[.int .i64 0] 3)) := (((((Fr.refl _ _).alloc _).alloc _).alloc _).alloc _)
  revert hq hfe
  generalize ((((w.alloc (.cells #[.int .i64 0] 3)).alloc (.cells #[.int .i64 0] 3)).alloc (.cells #[.int .i64 0] 3)).alloc (.cells #[.int .i64 0] 3)) = we
  intro hq hfe
  obtain ⟨b0, hb0⟩ : ∃ b0, b0 = w.heap.size := ⟨_, rfl⟩
  rw [← hb0] at hq ⊢
  have hhe := HH.out.fr hfe (fun _ _ h => h)
  have q1 := blk_cell hq.bN 0
  have q2 := blk_cell hq.bL 0
  have q3 := blk_cell hq.bH 0
  have q4 := blk_cell hq.bG 0
  have f1 := blk_free hq.bN 0
  have f2 := blk_free hq.bL 0
  have f3 := blk_free hq.bH 0
  have f4 := blk_free hq.bG 0
  have l1 := blk_lt hq.bN
  have l2 := blk_lt hq.bL
  have l3 := blk_lt hq.bH
  have l4 := blk_lt hq.bG
  have q5 := blk_cell hhe.blk 0
  simp only [List.getElem?_cons_zero] at q1 q2 q3 q4 q5
  have HQ := Lib.hid hq
  have HHE := Lib.hid hhe
  have HB0 := Lib.hid hb0
  by_cases hz : s.length = 0
  · have HZ := Lib.hid hz
    have hzi : (s.length : Int) = 0 := by omega
    clear hb hq hhe hb0 hfe hz hs hn
    go_wp2_with (go_at_call 14; refine (len_walk tb h t s _ HHE.out).mono ?_; rintro e w' ⟨rfl, rfl⟩)
    have hq2 := (((HQ.out.setH 0).setN 0).setL 0).setG 0
    have z1 := blk_cell hq2.bN 0
    have z2 := blk_cell hq2.bL 0
    have z3 := blk_cell hq2.bH 0
    have z4 := blk_cell hq2.bG 0
    simp only [List.getElem?_cons_zero] at z1 z2 z3 z4
    refine bodyPost_ret (v := .tuple #[.int .i64 0, .int .i64 0, .int .i64 0, .int .i64 0]) (by simp [results, Try.results18, go_sem, z1, z2, z3, z4]) rfl ⟨rfl, hq2.fr.mono fun a ha e => ?_⟩
    have := HB0.out
    omega
  · have hzi : ¬ (s.length : Int) = 0 := by omega
    obtain ⟨lo, lc, -, hx0⟩ := lies_len hhe.lies
    have hrb : ¬ t.b = b0 + 1 + 1 := fun e => by
      obtain ⟨bb, lv, kv, l, kids⟩ := t
      have := blk_type (lies_node.1 hhe.lies).1 (e ▸ hq.bL)
      cases this
    have hq2 := hq.setL (t.l.length : Nat)
    have hf2 : Fr (fun a => a = b0 + 1 + 1) we (we.setCell ⟨b0 + 1 + 1, 0, none⟩ (.int .i64 (t.l.length : Nat))) := (Fr.refl (fun a => a = b0 + 1 + 1) we).setCell (p := ⟨b0 + 1 + 1, 0, none⟩) (fun _ => rfl) _
    have hb2 : b0 + 1 + 1 = w.heap.size + 1 + 1 := by omega
    have hoffs : ∀ a, w.heap.size ≤ a → ¬ (a = tb ∨ 0 < cnt t a) := fun a ha e => by
      rcases e with rfl | e
      · have := blk_lt HH.out.blk; omega
      · have := lies_lt t HH.out.lies a e; omega
    have hhe2 := hhe.fr hf2 (fun a ha e => hoffs a (by omega) ha)
    have hsz : (we.setCell ⟨b0 + 1 + 1, 0, none⟩ (.int .i64 (t.l.length : Nat))).heap.size = we.heap.size := by simp
    have heach := eachS_top Sh.step (fun st _ => st) (Shaped (b0 + 1) (b0 + 1 + 1) b0 (b0 + 1 + 1 + 1)) (fun a => a = b0 + 1 ∨ a = b0 + 1 + 1 ∨ a = b0 ∨ a = b0 + 1 + 1 + 1) (fun st => st.nodes ≤ 4611686018427387904) (b0 + 1) (b0 + 1 + 1) b0 (b0 + 1 + 1 + 1) tb h t s (we.setCell ⟨b0 + 1 + 1, 0, none⟩ (.int .i64 (t.l.length : Nat))) hhe2 (by omega) ⟨0, 0, t.l.length, 0⟩
      (fun B st w x deep hi hg hl hB => shape1_walk _ _ _ _ B (by omega) st x deep w hi hg hl)
      (fun B st w p hi hg hB => (shape2_walk p w).mono (by rintro e w' ⟨rfl, hf⟩; exact ⟨rfl, shaped_fr hi hf, hf.mono fun _ _ h => h.elim⟩))
      (fun B st w w' hi hf => shaped_fr hi hf) (fun st x d hg => by have : st.nodes + 1 ≤ _ := hg; omega) (fun st p hg => hg)
      (fun w' hf => ⟨blk_fr hq2.bN hf (fun h => h), blk_fr hq2.bL hf (fun h => h), blk_fr hq2.bH hf (fun h => h), blk_fr hq2.bG hf (fun h => h), by have := hf.size; rw [hsz] at this; omega⟩)
      (fun a e => ⟨by rw [hsz]; omega, by have := hoffs a (by omega); omega⟩) hn
    have HEACH := Lib.hid heach
    have HF2 := Lib.hid hf2
    have HFE := Lib.hid hfe
    have HZ := Lib.hid hz
    clear hb hq hhe hb0 hfe hz hs hn hq2 hf2 hhe2 hsz heach hoffs hb2
    go_upto_region 5 with (first
      | (go_at_call 14; refine (len_walk tb h t s _ HHE.out).mono ?_; rintro e w' ⟨rfl, rfl⟩)
      | (go_at_call 27; refine HEACH.out.mono ?_; rintro e w2 ⟨rfl, B, hB, hshape, hf⟩; have HS := Lib.hid hshape; have HF := Lib.hid hf; clear hshape hf hB))
    obtain ⟨st, hst⟩ : ∃ st, st = Sh.of t := ⟨_, rfl⟩
    have hshape : Shaped (b0 + 1) (b0 + 1 + 1) b0 (b0 + 1 + 1 + 1) B st w2 := by rw [hst]; exact HS.out
    obtain ⟨h1, h2, h3, h4, -⟩ := hshape
    have hq2 : Quad (b0 + 1) (b0 + 1 + 1) b0 (b0 + 1 + 1 + 1) (st.nodes : Nat) (st.low : Nat) (st.height : Nat) (st.high : Nat) w2 w2 := ⟨h1, h2, h3, h4, by omega, Fr.refl _ _⟩
    have HST := Lib.hid hst
    have HQ2 := Lib.hid hq2
    have p1 := blk_cell h1 0
    have p2 := blk_cell h2 0
    have p3 := blk_cell h3 0
    have p4 := blk_cell h4 0
    have g1 := blk_free h1 0
    have g2 := blk_free h2 0
    have g3 := blk_free h3 0
    have g4 := blk_free h4 0
    simp only [List.getElem?_cons_zero] at p1 p2 p3 p4
    clear hst h1 h2 h3 h4 hq2 q1 q2 q3 q4 f1 f2 f3 f4 q5 HEACH HS
    go_cut [] (Quad (b0 + 1) (b0 + 1 + 1) b0 (b0 + 1 + 1 + 1) (st.nodes : Nat) (st.low : Nat) (st.height : Nat) (st.high : Nat) w2)
    case first =>
      go_region
      all_goals
        go_wp2_with fail
        go_meet
        exact (((((HQ2.out.setH _).setN _).setL _).setG _).drew)
    case rest =>
      have hq3 := hcut
      have z1 := blk_cell hq3.bN 0
      have z2 := blk_cell hq3.bL 0
      have z3 := blk_cell hq3.bH 0
      have z4 := blk_cell hq3.bG 0
      simp only [List.getElem?_cons_zero] at z1 z2 z3 z4
      clear hcut
      have HQ3 := Lib.hid hq3
      clear hq3
      go_wp2_with fail
      refine bodyPost_ret (v := .tuple #[.int .i64 (st.height : Nat), .int .i64 (st.nodes : Nat), .int .i64 (st.low : Nat), .int .i64 (st.high : Nat)]) (by simp [results, Try.results18, go_sem, z1, z2, z3, z4]) rfl ?_
      rw [← HST.out]
      refine ⟨rfl, ?_⟩
      have hb0 := HB0.out
      exact ((HFE.out.trans (HF2.out.mono (M' := fun a => w.heap.size ≤ a) fun a _ e => by omega) fun a ha e => by omega).trans HF.out fun a ha e => by rcases e with e | e; omega; simp at e; have := HFE.out.size; omega).trans HQ3.out.fr fun a ha e => by omega
end Go.Proofs.Ytaopiolbjnnnfaa
