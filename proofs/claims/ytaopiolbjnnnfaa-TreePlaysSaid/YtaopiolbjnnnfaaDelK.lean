/-
  slices.Delete of one node out of a slice of nodes.
-/
import Derived.Test.YtaopiolbjnnnfaaDelP
import Derived.Test.YtaopiolbjnnnfaaInsKg
namespace Go.Proofs.Ytaopiolbjnnnfaa
open Go.RowKit

set_option maxHeartbeats 1000000 in
set_option maxRecDepth 100000 in
theorem delK_at (g n c i : Nat) (cur xs : List Value) (w : World) (hi : i < n) (hnc : n ≤ c) (hc : c ≤ maxLen) (hg : World.blk w g cur 51) (hcl : cur.length = c)
    (hx : cur.take n = xs) (h1c : ∀ u ∈ xs, u.oneCell' = true) :
    Calls Try.prog 54 #[.slice (some ⟨g, 0, none⟩) n c, .int .i64 i, .int .i64 ((i : Int) + 1)] w fun e w' =>
      e = .returned (.slice (some ⟨g, 0, none⟩) (n - 1) c) ∧ ∃ cur', World.blk w' g cur' 51 ∧ cur'.length = c ∧ cur'.take (n - 1) = xs.take i ++ xs.drop (i + 1) ∧ w.grownBy w' (some g) := by
  obtain ⟨i0, hi0, hz0, hz1, hz2⟩ := info_parts info51
  unfold maxLen at hc
  have hsz : (Try.prog.info? 51).map (·.size) = some 1 := by rw [hi0]; simp [hz1]
  have hb1 : (0 : Int) ≤ (i : Int) + 1 := by omega
  have htn : ((i : Int) + 1).toNat = i + 1 := by omega
  have hz2' : ¬ ((i : Int) = (i : Int) + 1) := by omega
  have hin : i + 1 ≤ n := by omega
  have hin' : (i : Int) + 1 ≤ (n : Int) := by omega
  obtain ⟨X2, hX2⟩ : ∃ X2, X2 = xs.drop (i + 1) := ⟨_, rfl⟩
  have hX2l : X2.length = n - (i + 1) := by rw [hX2, ← hx]; simp; omega
  have h1X : ∀ u ∈ X2, u.oneCell' = true := by rw [hX2]; exact oneCell_drop h1c _
  have hX2c : ∀ j v, X2[j]? = some v → cur[i + 1 + j]? = some v := fun j v hj => by
    rw [hX2, ← hx, List.getElem?_drop, List.getElem?_take] at hj
    split at hj
    · exact hj
    · cases hj
  obtain ⟨W1, hW1⟩ : ∃ W1, W1 = w.drew.setRow g (splice cur i X2).toArray := ⟨_, rfl⟩
  have hG1 : World.blk W1 g (splice cur i X2) 51 := by rw [hW1]; exact blk_setRow (w := w.drew) hg _
  have hap : ∀ (ao : Addr) (cc : Nat) ty, (0 < n - (i + 1) → ao = ⟨g, i + 1, none⟩) →
      (Builtin.append_ #[55, 55] ty #[.slice (some ⟨g, 0, none⟩) i c, .slice (some ao) (n - (i + 1)) cc]).run Try.prog w.drew = .ok (.slice (some ⟨g, 0, none⟩) (n - 1) c) W1 := fun ao cc ty hao => by
    have h := run_append_room (P := Try.prog) w.drew 55 ty 51 i0 Try.underlying55 hi0 g i c cur.toArray hg ao (n - (i + 1)) cc X2 (by rw [hX2l, hz1, Nat.mul_one])
      (fun j v hj => by
        have hpos : 0 < n - (i + 1) := by
          have := (List.getElem?_eq_some_iff.1 hj).1
          omega
        rw [hao hpos]
        exact blk_piece (w := w.drew) hg _ hX2c j v hj) h1X (by omega) (by rw [hX2l, hz1]; simp; omega)
    rw [h, hW1, hz1, show i + (n - (i + 1)) = n - 1 by omega]
    simp [splice]
  obtain ⟨W2, hW2⟩ : ∃ W2, W2 = W1.setRow g (splice (splice cur i X2) (n - 1) [.pointer none]).toArray := ⟨_, rfl⟩
  have hS1l : (splice cur i X2).length = c := by rw [length_splice _ _ _ (by rw [hX2l, hcl]; omega), hcl]
  have hcl1 : ∀ ty cc, (Builtin.clear_ #[55] ty #[.slice (some ⟨g, n - 1, none⟩) 1 cc]).run Try.prog W1 = .ok (.tuple #[]) W2 := fun ty cc => by
    rw [hW2]
    exact run_clear_one W1 55 ty 51 i0 _ Try.underlying55 hi0 hz0 (by simp [Value.cells, Value.oneCell']) g (n - 1) cc _ 51 hG1 (by rw [hS1l]; simp [Value.cells]; omega)
  have hfin : World.blk W2 g (splice (splice cur i X2) (n - 1) [.pointer none]) 51 ∧ (splice (splice cur i X2) (n - 1) [.pointer none]).length = c ∧
      (splice (splice cur i X2) (n - 1) [.pointer none]).take (n - 1) = xs.take i ++ X2 ∧ w.grownBy W2 (some g) := by
    refine ⟨by rw [hW2]; exact blk_setRow hG1 _, ?_, ?_, by rw [hW2, hW1]; exact ((grown_drew w _).trans (grown_setRow _ _ _)).trans (grown_setRow _ _ _)⟩
    · rw [length_splice _ _ _ (by rw [hS1l]; simp; omega), hS1l]
    · rw [splice_before _ _ _ (by rw [hS1l]; omega)]
      have := splice_tail cur i X2 (by rw [hX2l, hcl]; omega)
      rw [show n - 1 = i + X2.length by rw [hX2l]; omega, this, ← hx, List.take_take, Nat.min_eq_left (by omega)]
  rw [← hX2]
  have HF := Lib.hid hfin
  have HC := Lib.hid hcl1
  have hn1 : n - (n - 1) = 1 := by omega
  have hcn : ¬ (c = n - 1) := by omega
  have hle : n - 1 ≤ n := by omega
  have hic : i ≤ c := by omega
  have hii : (i : Int) ≤ (i : Int) + 1 := by omega
  by_cases hci : c = i + 1
  · have HA := Lib.hid (hap ⟨g, 0, none⟩ 0 55 (by omega))
    clear hfin hcl1 hap hX2 hX2l h1X hX2c hW1 hG1 hW2 hx hg hcl hS1l
    obtain rfl : n = i + 1 := by omega
    obtain rfl : c = i + 1 := by omega
    simp only [Nat.sub_self] at HA
    go_enter Try.func54, Try.ntmps54
    go_wp2_with fail
    go_region_law (refine step_append_run rfl _ _ 55 55 rfl (.slice (some ⟨g, 0, none⟩) i (i + 1)) (.slice (some ⟨g, 0, none⟩) 0 0) (by simp [Act.eval, Act.put]) (by simp [Act.eval, Act.put]) HA.out ?_)
    go_wp2_with (refine wpList_clear_run _ rfl _ 55 rfl _ rfl (HC.out _ _) ?_)
    go_ret
    exact ⟨rfl, _, HF.out.1, HF.out.2.1, HF.out.2.2.1, HF.out.2.2.2⟩
  · have HA := Lib.hid (hap ⟨g, i + 1, none⟩ (c - (i + 1)) 55 (fun _ => rfl))
    clear hfin hcl1 hap hX2 hX2l h1X hX2c hW1 hG1 hW2 hx hg hcl hS1l
    go_enter Try.func54, Try.ntmps54
    go_wp2_with fail
    go_region_law (refine step_append_run rfl _ _ 55 55 rfl (.slice (some ⟨g, 0, none⟩) i c) (.slice (some ⟨g, i + 1, none⟩) (n - (i + 1)) (c - (i + 1))) (by simp [Act.eval, Act.put]) (by simp [Act.eval, Act.put]) HA.out ?_)
    go_wp2_with (refine wpList_clear_run _ rfl _ 55 rfl _ rfl (HC.out _ _) ?_)
    go_ret
    exact ⟨rfl, _, HF.out.1, HF.out.2.1, HF.out.2.2.1, HF.out.2.2.2⟩

theorem delK (sv : Value) (n i : Nat) (a b : Int) (xs : List Value) (w : World) (hown : w.ownsRow 0 51 1 sv n xs) (hi : i < n) (ha : a = (i : Int)) (hb : b = (i : Int) + 1) (h1c : ∀ u ∈ xs, u.oneCell' = true) :
    Calls Try.prog 54 #[sv, .int .i64 a, .int .i64 b] w (Deleted 51 1 sv n i xs w) := by
  subst ha; subst hb
  obtain ⟨ao, c, rfl, hnc, hc, hl, hn, ha⟩ := owns_form hown
  cases ao with
  | none => have := hn rfl; omega
  | some a =>
    obtain ⟨g, cur, rfl, hg, hcl, hct⟩ := ha a rfl
    simp only [Nat.mul_one] at hcl hct
    refine (delK_at g n c i cur xs w hi hnc hc hg hcl hct h1c).mono fun e w' ⟨he, cur', hg', hl', ht', hgr⟩ => ?_
    exact ⟨g, c, rfl, he, owns_mk hg' (by omega) hc (by rw [hl', Nat.mul_one]) (by simp only [Nat.mul_one]; exact ht'), hgr⟩
end Go.Proofs.Ytaopiolbjnnnfaa
