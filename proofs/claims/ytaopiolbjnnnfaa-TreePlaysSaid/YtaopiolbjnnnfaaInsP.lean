/-
  slices.Insert of one pair into a slice of pairs.
-/
import Derived.Test.YtaopiolbjnnnfaaRows
import Derived.Test.YtaopiolbjnnnfaaMem
import Derived.Lib.Overlaps
import Derived.Lib.AppendZerosOnto
import Derived.Deep.RegionLaw
namespace Go.Proofs.Ytaopiolbjnnnfaa
open Go.RowKit

theorem info34 : (Try.prog.info? 34).map (fun i => (i.zero, i.size, i.bytes)) = some (some (.agg #[.string ⟨#[]⟩, .int .i64 0]), 2, 24) := by kernel_rfl
theorem info51 : (Try.prog.info? 51).map (fun i => (i.zero, i.size, i.bytes)) = some (some (.pointer none), 1, 8) := by kernel_rfl

set_option maxHeartbeats 1000000 in
set_option maxRecDepth 100000 in
/-- at the end -/
theorem insP_end (sv : Value) (n : Nat) (xs : List Value) (vb : Nat) (x y : Value) (w : World) (hown : w.ownsRow 0 34 2 sv n xs) (hvb : World.blk w vb [x, y] 34)
    (h1 : ∀ u ∈ [x, y], u.oneCell' = true) (hb : (n + 1) * 24 ≤ 140737488355328) :
    Calls Try.prog 26 #[sv, .int .i64 n, .slice (some ⟨vb, 0, none⟩) 1 1] w fun e w' =>
      ∃ g cap, e = .returned (.slice (some ⟨g, 0, none⟩) (n + 1) cap) ∧ w'.ownsRow 0 34 2 (.slice (some ⟨g, 0, none⟩) (n + 1) cap) (n + 1) (xs ++ [x, y]) ∧ w.grownBy w' sv.ownBlock ∧ (sv.ownBlock = some g ∨ g = w.heap.size) := by
  obtain ⟨i0, hi0, hz0, hz1, hz2⟩ := info_parts info34
  obtain ⟨ao, c, rfl, hnc, hc, hl, hn, ha⟩ := owns_form hown
  unfold maxLen at hc
  have hnews : ∀ j u, [x, y][j]? = some u → w.cell? ((⟨vb, 0, none⟩ : Addr).add j) = some u := World.news_of_block hvb
  have HO := Lib.hid hown
  clear hown hn ha hl
  have HN := Lib.hid hnews
  clear hnews hvb
  by_cases hcn : c = n
  all_goals
    go_enter Try.func26, Try.ntmps26
    go_wp2_with (at_builtin; refine wpList_append_lies _ rfl _ _ 31 rfl 0 34 i0 _ 2 24 Try.underlying31 hi0 hz0 hz1 hz2 rfl (by decide) _ _ _ rfl HO.out ⟨vb, 0, none⟩ 1 1 [x, y] rfl rfl HN.out h1 (by decide) (by unfold maxLen; omega) hb (Nat.zero_le _) _ rfl ?_; intro g cap w1 hown1 hgrow hat hlt)
    go_ret
    exact ⟨_, _, rfl, hown1, hgrow, hat⟩

set_option maxHeartbeats 1000000 in
set_option maxRecDepth 100000 in
/-- inside, with room -/
theorem insP_shift (g n c i : Nat) (cur xs : List Value) (vb : Nat) (x y : Value) (w : World) (hi : i < n) (hroom : n + 1 ≤ c) (hc : c ≤ maxLen) (hg : World.blk w g cur 34) (hcl : cur.length = c * 2)
    (hx : cur.take (n * 2) = xs) (hvb : World.blk w vb [x, y] 34) (hne : vb ≠ g) (h1 : ∀ u ∈ [x, y], u.oneCell' = true) (h1c : ∀ u ∈ xs, u.oneCell' = true) :
    Calls Try.prog 26 #[.slice (some ⟨g, 0, none⟩) n c, .int .i64 i, .slice (some ⟨vb, 0, none⟩) 1 1] w fun e w' =>
      e = .returned (.slice (some ⟨g, 0, none⟩) (n + 1) c) ∧ ∃ cur', World.blk w' g cur' 34 ∧ cur'.length = c * 2 ∧ cur'.take ((n + 1) * 2) = xs.take (i * 2) ++ [x, y] ++ xs.drop (i * 2) ∧ w.grownBy w' (some g) := by
  obtain ⟨i0, hi0, hz0, hz1, hz2⟩ := info_parts info34
  unfold maxLen at hc
  have hsz : (Try.prog.info? 34).map (·.size) = some 2 := by rw [hi0]; simp [hz1]
  have hw1 : IntKind.i64.wrap ((i : Int) + 1) = (i : Int) + 1 := by rw [IntKind.wrap_i64]; omega
  have hb1 : (0 : Int) ≤ (i : Int) + 1 := by omega
  have htn : ((i : Int) + 1).toNat = i + 1 := by omega
  have hb2 : ¬ (c = i + 1) := by omega
  have hin : i ≤ n := by omega
  have hb3 : (i : Int) ≤ (n : Int) + 1 := by omega
  have hb4 : ¬ (c = i) := by omega
  have hz2' : ¬ ((i : Int) = (n : Int)) := by omega
  have hov : ∀ lb cb, (callFunc 48 #[.slice (some ⟨vb, 0, none⟩) 1 1, .slice (some ⟨g, (i + 1) * 2, none⟩) lb cb]).run Try.prog w = .ok (.value (.bool false)) w := fun lb cb => by
    rw [run_callFunc_extern Try.func48 (by kernel_rfl) (by kernel_rfl) (by kernel_rfl) (e := Extern.SlicesOverlaps.overlaps #[31, 31] #[4]) (by kernel_rfl),
      Lib.run_overlaps_apart w 31 4 34 Try.underlying31 2 (by intro w; simp [sizeOf, typeInfo, hi0, hz1]) ⟨vb, 0, none⟩ ⟨g, (i + 1) * 2, none⟩ 1 1 lb cb hne 34 34 2 (c * 2) (by have := hvb; unfold World.blk at this; simp [World.shape?, this])
        (by have := hg; unfold World.blk at this; simp [World.shape?, this, hcl]) (by omega) (blk_free hvb 0) (blk_free hvb 2)]
    rfl
  obtain ⟨X2, hX2⟩ : ∃ X2, X2 = xs.drop (i * 2) := ⟨_, rfl⟩
  have hX2l : X2.length = (n - i) * 2 := by rw [hX2, ← hx]; simp; omega
  have h1X : ∀ u ∈ X2, u.oneCell' = true := by rw [hX2]; exact oneCell_drop h1c _
  have hX2c : ∀ j v, X2[j]? = some v → cur[i * 2 + j]? = some v := fun j v hj => by
    rw [hX2, ← hx, List.getElem?_drop, List.getElem?_take] at hj
    split at hj
    · exact hj
    · cases hj
  obtain ⟨W1, hW1⟩ : ∃ W1, W1 = w.drew.setRow g (splice cur ((i + 1) * 2) X2).toArray := ⟨_, rfl⟩
  have hcp1 : ∀ ty dc sc, (Builtin.copy_ #[31, 31] ty #[.slice (some ⟨g, (i + 1) * 2, none⟩) (n - i) dc, .slice (some ⟨g, i * 2, none⟩) (n + 1 - i) sc]).run Try.prog w.drew = .ok (goInt (n - i : Nat)) W1 := fun ty dc sc => by
    rw [hW1]
    exact run_copy_sized w.drew 31 31 ty 34 2 g ((i + 1) * 2) (n - i) dc ⟨g, i * 2, none⟩ (n + 1 - i) sc cur 34 X2 Try.underlying31 hsz hg
      (n - i) (by omega) hX2l (blk_piece (w := w.drew) hg _ hX2c) (by rw [hX2l, hcl]; omega) h1X
  have hG1 : World.blk W1 g (splice cur ((i + 1) * 2) X2) 34 := by rw [hW1]; exact blk_setRow (w := w.drew) hg _
  have hR1 : w.grownBy W1 (some g) := by rw [hW1]; exact (grown_drew w _).trans (grown_setRow _ _ _)
  have hV1 : World.blk W1 vb [x, y] 34 := blk_grown hvb hR1 (fun e => hne (by simpa using e))
  obtain ⟨W2, hW2⟩ : ∃ W2, W2 = W1.setRow g (splice (splice cur ((i + 1) * 2) X2) (i * 2) [x, y]).toArray := ⟨_, rfl⟩
  have hcp2 : ∀ ty dc, (Builtin.copy_ #[31, 31] ty #[.slice (some ⟨g, i * 2, none⟩) (n + 1 - i) dc, .slice (some ⟨vb, 0, none⟩) 1 1]).run Try.prog W1 = .ok (goInt (1 : Nat)) W2 := fun ty dc => by
    rw [hW2]
    exact run_copy_sized W1 31 31 ty 34 2 g (i * 2) (n + 1 - i) dc ⟨vb, 0, none⟩ 1 1 _ 34 [x, y] Try.underlying31 hsz hG1
      1 (by omega) rfl (World.news_of_block hV1) (by rw [length_splice _ _ _ (by rw [hX2l, hcl]; omega), hcl]; simp; omega) h1
  have hfin : World.blk W2 g (splice (splice cur ((i + 1) * 2) X2) (i * 2) [x, y]) 34 ∧ (splice (splice cur ((i + 1) * 2) X2) (i * 2) [x, y]).length = c * 2 ∧
      (splice (splice cur ((i + 1) * 2) X2) (i * 2) [x, y]).take ((n + 1) * 2) = xs.take (i * 2) ++ [x, y] ++ X2 ∧ w.grownBy W2 (some g) := by
    refine ⟨by rw [hW2]; exact blk_setRow hG1 _, ?_, ?_, by rw [hW2]; exact hR1.trans (grown_setRow _ _ _)⟩
    · rw [length_splice _ _ _ (by rw [length_splice _ _ _ (by rw [hX2l, hcl]; omega), hcl]; simp; omega), length_splice _ _ _ (by rw [hX2l, hcl]; omega), hcl]
    · have := splice_ins cur (i * 2) 2 (n * 2) [x, y] X2 rfl (by rw [hX2l]; omega) (by rw [hcl]; omega) (by omega)
      rw [show (n + 1) * 2 = n * 2 + 2 by omega, show (i + 1) * 2 = i * 2 + 2 by omega, this, ← hx, List.take_take, Nat.min_eq_left (by omega)]
  rw [← hX2]
  have HF := Lib.hid hfin
  have HC1 := Lib.hid hcp1
  have HC2 := Lib.hid hcp2
  clear hfin hcp1 hcp2 hX2 hX2l h1X hX2c hW1 hG1 hR1 hV1 hW2 hx hg hvb hcl
  go_enter Try.func26, Try.ntmps26
  go_wp2_with (simp only [hov])
  go_region_law (refine step_copy_run rfl _ _ 31 31 rfl (.slice (some ⟨g, (i + 1) * 2, none⟩) (n - i) (c - (i + 1))) (.slice (some ⟨g, i * 2, none⟩) (n + 1 - i) (c - i)) (by simp [Act.eval, Act.put]) (by simp [Act.eval, Act.put]) (HC1.out _ _ _) ?_)
  go_wp2_with (refine wpList_copy_run _ rfl _ _ 31 31 rfl _ _ rfl rfl (HC2.out _ _) ?_)
  go_ret
  exact ⟨rfl, _, HF.out.1, HF.out.2.1, HF.out.2.2.1, HF.out.2.2.2⟩
end Go.Proofs.Ytaopiolbjnnnfaa
