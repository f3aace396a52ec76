/-
  Shape.
-/
import Derived.Test.YtaopiolbjnnnfaaEachU
import Derived.Test.YtaopiolbjnnnfaaAllT
namespace Go.Proofs.Ytaopiolbjnnnfaa
open Go.RowKit

structure Sh where
  height : Nat
  nodes : Nat
  low : Nat
  high : Nat

def Sh.step (st : Sh) (x : MT) (d : Nat) : Sh :=
  let low1 := if d = 2 ∧ st.nodes = 1 then x.l.length else st.low
  { height := max st.height d, nodes := st.nodes + 1, low := if 1 < d then min low1 x.l.length else low1, high := max st.high x.l.length }

def Shaped (cN cL cH cG B : Nat) (st : Sh) (w : World) : Prop :=
  World.blk w cN [.int .i64 (st.nodes : Nat)] 3 ∧ World.blk w cL [.int .i64 (st.low : Nat)] 3 ∧ World.blk w cH [.int .i64 (st.height : Nat)] 3 ∧ World.blk w cG [.int .i64 (st.high : Nat)] 3 ∧ (cN < B ∧ cL < B ∧ cH < B ∧ cG < B)

/-- the four variables -/
structure Quad (cN cL cH cG : Nat) (n l h g : Int) (w0 w : World) : Prop where
  bN : World.blk w cN [.int .i64 n] 3
  bL : World.blk w cL [.int .i64 l] 3
  bH : World.blk w cH [.int .i64 h] 3
  bG : World.blk w cG [.int .i64 g] 3
  apart : cN ≠ cL ∧ cN ≠ cH ∧ cN ≠ cG ∧ cL ≠ cH ∧ cL ≠ cG ∧ cH ≠ cG
  fr : Fr (fun a => a = cN ∨ a = cL ∨ a = cH ∨ a = cG) w0 w

section
variable {cN cL cH cG : Nat} {n l h g : Int} {w0 w : World}
theorem Quad.drew (q : Quad cN cL cH cG n l h g w0 w) : Quad cN cL cH cG n l h g w0 w.drew :=
  ⟨blk_fr q.bN (Fr.refl (fun _ => False) w).drew (fun h => h), blk_fr q.bL (Fr.refl (fun _ => False) w).drew (fun h => h), blk_fr q.bH (Fr.refl (fun _ => False) w).drew (fun h => h), blk_fr q.bG (Fr.refl (fun _ => False) w).drew (fun h => h), q.apart, q.fr.drew⟩
theorem Quad.setN (v : Int) (q : Quad cN cL cH cG n l h g w0 w) : Quad cN cL cH cG v l h g w0 (w.setCell ⟨cN, 0, none⟩ (.int .i64 v)) :=
  ⟨blk_congr (blk_set q.bN 0 _) rfl, blk_set_other q.bL _ (fun e => q.apart.1 e.symm) _, blk_set_other q.bH _ (fun e => q.apart.2.1 e.symm) _, blk_set_other q.bG _ (fun e => q.apart.2.2.1 e.symm) _, q.apart, q.fr.setCell (fun _ => .inl rfl) _⟩
theorem Quad.setL (v : Int) (q : Quad cN cL cH cG n l h g w0 w) : Quad cN cL cH cG n v h g w0 (w.setCell ⟨cL, 0, none⟩ (.int .i64 v)) :=
  ⟨blk_set_other q.bN _ (fun e => q.apart.1 e) _, blk_congr (blk_set q.bL 0 _) rfl, blk_set_other q.bH _ (fun e => q.apart.2.2.2.1 e.symm) _, blk_set_other q.bG _ (fun e => q.apart.2.2.2.2.1 e.symm) _, q.apart, q.fr.setCell (fun _ => .inr (.inl rfl)) _⟩
theorem Quad.setH (v : Int) (q : Quad cN cL cH cG n l h g w0 w) : Quad cN cL cH cG n l v g w0 (w.setCell ⟨cH, 0, none⟩ (.int .i64 v)) :=
  ⟨blk_set_other q.bN _ (fun e => q.apart.2.1 e) _, blk_set_other q.bL _ (fun e => q.apart.2.2.2.1 e) _, blk_congr (blk_set q.bH 0 _) rfl, blk_set_other q.bG _ (fun e => q.apart.2.2.2.2.2 e.symm) _, q.apart, q.fr.setCell (fun _ => .inr (.inr (.inl rfl))) _⟩
theorem Quad.setG (v : Int) (q : Quad cN cL cH cG n l h g w0 w) : Quad cN cL cH cG n l h v w0 (w.setCell ⟨cG, 0, none⟩ (.int .i64 v)) :=
  ⟨blk_set_other q.bN _ (fun e => q.apart.2.2.1 e) _, blk_set_other q.bL _ (fun e => q.apart.2.2.2.2.1 e) _, blk_set_other q.bH _ (fun e => q.apart.2.2.2.2.2 e) _, blk_congr (blk_set q.bG 0 _) rfl, q.apart, q.fr.setCell (fun _ => .inr (.inr (.inr rfl))) _⟩

theorem Quad.out {B : Nat} {st : Sh} (q : Quad cN cL cH cG n l h g w0 w) (hB : cN < B ∧ cL < B ∧ cH < B ∧ cG < B) (e1 : n = (st.nodes : Nat)) (e2 : l = (st.low : Nat)) (e3 : h = (st.height : Nat)) (e4 : g = (st.high : Nat)) :
    Out (Shaped cN cL cH cG) (fun a => a = cN ∨ a = cL ∨ a = cH ∨ a = cG) B w0 st (.returned (.tuple #[])) w := by
  subst e1 e2 e3 e4
  exact ⟨rfl, ⟨q.bN, q.bL, q.bH, q.bG, hB⟩, q.fr.mono fun _ _ h => .inl h⟩
end

theorem imax (a b : Nat) : (if (a : Int) ≤ (b : Int) then (b : Int) else (a : Int)) = ((max a b : Nat) : Int) := by
  by_cases h : a ≤ b
  · rw [if_pos (by omega)]; omega
  · rw [if_neg (by omega)]; omega
theorem imax2 (a d : Nat) (hd : d = 2) : (if (a : Int) < 2 then (2 : Int) else (a : Int)) = ((max a d : Nat) : Int) := by
  by_cases h : a < 2
  · rw [if_pos (by omega)]; omega
  · rw [if_neg (by omega)]; omega
theorem imax' (a b : Nat) : (if (a : Int) < (b : Int) then (b : Int) else (a : Int)) = ((max a b : Nat) : Int) := by
  by_cases h : a < b
  · rw [if_pos (by omega)]; omega
  · rw [if_neg (by omega)]; omega

set_option maxHeartbeats 4000000 in
set_option maxRecDepth 100000 in
theorem shape1_walk (cN cL cH cG B : Nat) (hd : cN ≠ cL ∧ cN ≠ cH ∧ cN ≠ cG ∧ cL ≠ cH ∧ cL ≠ cG ∧ cH ≠ cG) (st : Sh) (x : MT) (deep : Nat) (w : World) (h : Shaped cN cL cH cG B st w) (hg : (st.step x deep).nodes ≤ 4611686018427387904) (hl : Lies w x) :
    Calls Try.prog 41 #[.pointer (some ⟨x.b, 0, none⟩), .int .i64 (deep : Nat), .pointer (some ⟨cN, 0, none⟩), .pointer (some ⟨cL, 0, none⟩), .pointer (some ⟨cH, 0, none⟩), .pointer (some ⟨cG, 0, none⟩)] w
      (Out (Shaped cN cL cH cG) (fun a => a = cN ∨ a = cL ∨ a = cH ∨ a = cG) B w (st.step x deep)) := by
  obtain ⟨h1, h2, h3, h4, h5⟩ := h
  obtain ⟨co, cc, -, hx0⟩ := lies_len hl
  obtain ⟨n, hn⟩ : ∃ n, n = x.l.length := ⟨_, rfl⟩
  obtain ⟨d1, d2, d3, d4, d5, d6⟩ := hd
  rw [← hn] at hx0
  have q1 := blk_cell h1 0
  have q2 := blk_cell h2 0
  have q3 := blk_cell h3 0
  have q4 := blk_cell h4 0
  have f1 := blk_free h1 0
  have f2 := blk_free h2 0
  have f3 := blk_free h3 0
  have f4 := blk_free h4 0
  simp only [List.getElem?_cons_zero] at q1 q2 q3 q4
  have hns : st.nodes + 1 ≤ 4611686018427387904 := hg
  have wn : IntKind.i64.wrap ((st.nodes : Int) + 1) = ((st.nodes + 1 : Nat) : Int) := by rw [IntWalk.i64_in _ (by omega)]; omega
  have HQ := Lib.hid (Quad.mk (w0 := w) h1 h2 h3 h4 ⟨d1, d2, d3, d4, d5, d6⟩ (Fr.refl _ _))
  have HN := Lib.hid hn
  clear h1 h2 h3 h4 hn hl hg
  go_enter Try.func41, Try.ntmps41
  go_upto_region 6 with fail
  · rename_i hc1 hc2
    have c1 : deep = 2 ∧ st.nodes = 1 := ⟨by omega, by have := beq_iff_eq.1 hc2; omega⟩
    have c2 : 1 < deep := by omega
    clear hc2
    go_region
    go_end0
    have hn := HN.out
    refine Quad.out ((((((HQ.out.setL _).setN _).setL _).setH _).setG _).drew) h5 ?_ ?_ ?_ ?_
    all_goals simp only [Sh.step, ← hn, if_pos c1, if_pos c2]
    all_goals first | omega | exact imax _ _ | exact imax' _ _ | exact imax2 _ _ (by omega)
  · rename_i hc1 hc2
    have c1 : ¬ (deep = 2 ∧ st.nodes = 1) := fun e => by have := beq_eq_false_iff_ne.1 hc2; omega
    have c2 : 1 < deep := by omega
    clear hc2
    go_region
    go_end0
    have hn := HN.out
    refine Quad.out (((((HQ.out.setN _).setL _).setH _).setG _).drew) h5 ?_ ?_ ?_ ?_
    all_goals simp only [Sh.step, ← hn, if_neg c1, if_pos c2]
    all_goals first | omega | exact imax _ _ | exact imax' _ _ | exact imax2 _ _ (by omega)
  · rename_i hc1 hc2
    have c1 : ¬ (deep = 2 ∧ st.nodes = 1) := fun e => by omega
    have c2 : 1 < deep := by omega
    clear hc2
    go_region
    go_end0
    have hn := HN.out
    refine Quad.out (((((HQ.out.setN _).setL _).setH _).setG _).drew) h5 ?_ ?_ ?_ ?_
    all_goals simp only [Sh.step, ← hn, if_neg c1, if_pos c2]
    all_goals first | omega | exact imax _ _ | exact imax' _ _ | exact imax2 _ _ (by omega)
  · rename_i hc1 hc2
    have c1 : ¬ (deep = 2 ∧ st.nodes = 1) := fun e => by omega
    have c2 : ¬ 1 < deep := by omega
    clear hc2
    go_region
    go_end0
    have hn := HN.out
    refine Quad.out ((((HQ.out.setN _).setH _).setG _).drew) h5 ?_ ?_ ?_ ?_
    all_goals simp only [Sh.step, ← hn, if_neg c1, if_neg c2]
    all_goals first | omega | exact imax _ _ | exact imax' _ _ | exact imax2 _ _ (by omega)
end Go.Proofs.Ytaopiolbjnnnfaa
