/-
  slices.Delete of one pair out of a slice of pairs.
-/
import Derived.Test.YtaopiolbjnnnfaaInsPg
namespace Go.Proofs.Ytaopiolbjnnnfaa
open Go.RowKit

set_option maxHeartbeats 1000000 in
set_option maxRecDepth 100000 in
theorem delP_at (g n c i : Nat) (cur xs : List Value) (w : World) (hi : i < n) (hnc : n ≤ c) (hc : c ≤ maxLen) (hg : World.blk w g cur 34) (hcl : cur.length = c * 2)
    (hx : cur.take (n * 2) = xs) (h1c : ∀ u ∈ xs, u.oneCell' = true) :
    Calls Try.prog 36 #[.slice (some ⟨g, 0, none⟩) n c, .int .i64 i, .int .i64 ((i : Int) + 1)] w fun e w' =>
      e = .returned (.slice (some ⟨g, 0, none⟩) (n - 1) c) ∧ ∃ cur', World.blk w' g cur' 34 ∧ cur'.length = c * 2 ∧ cur'.take ((n - 1) * 2) = xs.take (i * 2) ++ xs.drop ((i + 1) * 2) ∧ w.grownBy w' (some g) := by
  obtain ⟨i0, hi0, hz0, hz1, hz2⟩ := info_parts info34
  unfold maxLen at hc
  have hsz : (Try.prog.info? 34).map (·.size) = some 2 := by rw [hi0]; simp [hz1]
  have hb1 : (0 : Int) ≤ (i : Int) + 1 := by omega
  have htn : ((i : Int) + 1).toNat = i + 1 := by omega
  have hz2' : ¬ ((i : Int) = (i : Int) + 1) := by omega
  have hin : i + 1 ≤ n := by omega
  have hin' : (i : Int) + 1 ≤ (n : Int) := by omega
  obtain ⟨X2, hX2⟩ : ∃ X2, X2 = xs.drop ((i + 1) * 2) := ⟨_, rfl⟩
  have hX2l : X2.length = (n - (i + 1)) * 2 := by rw [hX2, ← hx]; simp; omega
  have h1X : ∀ u ∈ X2, u.oneCell' = true := by rw [hX2]; exact oneCell_drop h1c _
  have hX2c : ∀ j v, X2[j]? = some v → cur[(i + 1) * 2 + j]? = some v := fun j v hj => by
    rw [hX2, ← hx, List.getElem?_drop, List.getElem?_take] at hj
    split at hj
    · exact hj
    · cases hj
  obtain ⟨W1, hW1⟩ : ∃ W1, W1 = w.drew.setRow g (splice cur (i * 2) X2).toArray := ⟨_, rfl⟩
  have hG1 : World.blk W1 g (splice cur (i * 2) X2) 34 := by rw [hW1]; exact blk_setRow (w := w.drew) hg _
  have hap : ∀ (ao : Addr) (cc : Nat) ty, (0 < n - (i + 1) → ao = ⟨g, (i + 1) * 2, none⟩) →
      (Builtin.append_ #[31, 31] ty #[.slice (some ⟨g, 0, none⟩) i c, .slice (some ao) (n - (i + 1)) cc]).run Try.prog w.drew = .ok (.slice (some ⟨g, 0, none⟩) (n - 1) c) W1 := fun ao cc ty hao => by
    have h := run_append_room (P := Try.prog) w.drew 31 ty 34 i0 Try.underlying31 hi0 g i c cur.toArray hg ao (n - (i + 1)) cc X2 (by rw [hX2l, hz1])
      (fun j v hj => by
        have hpos : 0 < n - (i + 1) := by
          have := (List.getElem?_eq_some_iff.1 hj).1
          omega
        rw [hao hpos]
        exact blk_piece (w := w.drew) hg _ hX2c j v hj) h1X (by omega) (by rw [hX2l, hz1]; simp; omega)
    rw [h, hW1, hz1, show i + (n - (i + 1)) = n - 1 by omega]
    simp [splice]
  obtain ⟨W2, hW2⟩ : ∃ W2, W2 = W1.setRow g (splice (splice cur (i * 2) X2) ((n - 1) * 2) [.string ⟨#[]⟩, .int .i64 0]).toArray := ⟨_, rfl⟩
  have hS1l : (splice cur (i * 2) X2).length = c * 2 := by rw [length_splice _ _ _ (by rw [hX2l, hcl]; omega), hcl]
  have hcl1 : ∀ ty cc, (Builtin.clear_ #[31] ty #[.slice (some ⟨g, (n - 1) * 2, none⟩) 1 cc]).run Try.prog W1 = .ok (.tuple #[]) W2 := fun ty cc => by
    rw [hW2]
    exact run_clear_one W1 31 ty 34 i0 _ Try.underlying31 hi0 hz0 (by simp [Value.cells, Value.oneCell']) g ((n - 1) * 2) cc _ 34 hG1 (by rw [hS1l]; simp [Value.cells]; omega)
  have hfin : World.blk W2 g (splice (splice cur (i * 2) X2) ((n - 1) * 2) [.string ⟨#[]⟩, .int .i64 0]) 34 ∧ (splice (splice cur (i * 2) X2) ((n - 1) * 2) [.string ⟨#[]⟩, .int .i64 0]).length = c * 2 ∧
      (splice (splice cur (i * 2) X2) ((n - 1) * 2) [.string ⟨#[]⟩, .int .i64 0]).take ((n - 1) * 2) = xs.take (i * 2) ++ X2 ∧ w.grownBy W2 (some g) := by
    refine ⟨by rw [hW2]; exact blk_setRow hG1 _, ?_, ?_, by rw [hW2, hW1]; exact ((grown_drew w _).trans (grown_setRow _ _ _)).trans (grown_setRow _ _ _)⟩
    · rw [length_splice _ _ _ (by rw [hS1l]; simp; omega), hS1l]
    · rw [splice_before _ _ _ (by rw [hS1l]; omega)]
      have := splice_tail cur (i * 2) X2 (by rw [hX2l, hcl]; omega)
      rw [show (n - 1) * 2 = i * 2 + X2.length by rw [hX2l]; omega, this, ← hx, List.take_take, Nat.min_eq_left (by omega)]
  rw [← hX2]
  have HF := Lib.hid hfin
  have HC := Lib.hid hcl1
  have hn1 : n - (n - 1) = 1 := by omega
  have hcn : ¬ (c = n - 1) := by omega
  have hle : n - 1 ≤ n := by omega
  have hic : i ≤ c := by omega
  have hii : (i : Int) ≤ (i : Int) + 1 := by omega
  by_cases hci : c = i + 1
  · have HA := Lib.hid (hap ⟨g, 0, none⟩ 0 31 (by omega))
    clear hfin hcl1 hap hX2 hX2l h1X hX2c hW1 hG1 hW2 hx hg hcl hS1l
    obtain rfl : n = i + 1 := by omega
    obtain rfl : c = i + 1 := by omega
    simp only [Nat.sub_self] at HA
    go_enter Try.func36, Try.ntmps36
    go_wp2_with fail
    go_region_law (refine step_append_run rfl _ _ 31 31 rfl (.slice (some ⟨g, 0, none⟩) i (i + 1)) (.slice (some ⟨g, 0, none⟩) 0 0) (by simp [Act.eval, Act.put]) (by simp [Act.eval, Act.put]) HA.out ?_)
    go_wp2_with (refine wpList_clear_run _ rfl _ 31 rfl _ rfl (HC.out _ _) ?_)
    go_ret
    exact ⟨rfl, _, HF.out.1, HF.out.2.1, HF.out.2.2.1, HF.out.2.2.2⟩
  · have HA := Lib.hid (hap ⟨g, (i + 1) * 2, none⟩ (c - (i + 1)) 31 (fun _ => rfl))
    clear hfin hcl1 hap hX2 hX2l h1X hX2c hW1 hG1 hW2 hx hg hcl hS1l
    go_enter Try.func36, Try.ntmps36
    go_wp2_with fail
    go_region_law (refine step_append_run rfl _ _ 31 31 rfl (.slice (some ⟨g, 0, none⟩) i c) (.slice (some ⟨g, (i + 1) * 2, none⟩) (n - (i + 1)) (c - (i + 1))) (by simp [Act.eval, Act.put]) (by simp [Act.eval, Act.put]) HA.out ?_)
    go_wp2_with (refine wpList_clear_run _ rfl _ 31 rfl _ rfl (HC.out _ _) ?_)
    go_ret
    exact ⟨rfl, _, HF.out.1, HF.out.2.1, HF.out.2.2.1, HF.out.2.2.2⟩

/-- what Delete of one element leaves -/
def Deleted (e : TypeId) (size : Nat) (sv : Value) (n i : Nat) (xs : List Value) (w : World) (en : Ending) (w' : World) : Prop :=
  ∃ g cap, sv.ownBlock = some g ∧ en = .returned (.slice (some ⟨g, 0, none⟩) (n - 1) cap) ∧ w'.ownsRow 0 e size (.slice (some ⟨g, 0, none⟩) (n - 1) cap) (n - 1) (xs.take (i * size) ++ xs.drop ((i + 1) * size)) ∧
    w.grownBy w' sv.ownBlock

theorem delP (sv : Value) (n i : Nat) (a b : Int) (xs : List Value) (w : World) (hown : w.ownsRow 0 34 2 sv n xs) (hi : i < n) (ha : a = (i : Int)) (hb : b = (i : Int) + 1) (h1c : ∀ u ∈ xs, u.oneCell' = true) :
    Calls Try.prog 36 #[sv, .int .i64 a, .int .i64 b] w (Deleted 34 2 sv n i xs w) := by
  subst ha; subst hb
  obtain ⟨ao, c, rfl, hnc, hc, hl, hn, ha⟩ := owns_form hown
  cases ao with
  | none => have := hn rfl; omega
  | some a =>
    obtain ⟨g, cur, rfl, hg, hcl, hct⟩ := ha a rfl
    refine (delP_at g n c i cur xs w hi hnc hc hg hcl hct h1c).mono fun e w' ⟨he, cur', hg', hl', ht', hgr⟩ => ?_
    exact ⟨g, c, rfl, he, owns_mk hg' (by omega) hc hl' ht', hgr⟩
end Go.Proofs.Ytaopiolbjnnnfaa
