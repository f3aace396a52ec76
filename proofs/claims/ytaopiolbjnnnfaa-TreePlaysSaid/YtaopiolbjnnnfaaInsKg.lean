/-
  slices.Insert of one node into a slice of nodes: where there is no room.
-/
import Derived.Test.YtaopiolbjnnnfaaInsK
namespace Go.Proofs.Ytaopiolbjnnnfaa
open Go.RowKit

set_option maxHeartbeats 1000000 in
set_option maxRecDepth 100000 in
/-- inside, without room -/
theorem insK_grow (g n c i : Nat) (cur xs : List Value) (vb : Nat) (x : Value) (w : World) (hi : i < n) (hnc : n ≤ c) (hroom : c < n + 1) (hc : c ≤ maxLen) (hg : World.blk w g cur 51) (hcl : cur.length = c)
    (hx : cur.take (n) = xs) (hvb : World.blk w vb [x] 51) (h1 : ∀ u ∈ [x], u.oneCell' = true) (h1c : ∀ u ∈ xs, u.oneCell' = true) (hb : (n + 1) * 8 ≤ 140737488355328) :
    Calls Try.prog 45 #[.slice (some ⟨g, 0, none⟩) n c, .int .i64 i, .slice (some ⟨vb, 0, none⟩) 1 1] w fun e w' =>
      ∃ c', e = .returned (.slice (some ⟨w.heap.size, 0, none⟩) (n + 1) c') ∧ ∃ cur', World.blk w' w.heap.size cur' 51 ∧ n + 1 ≤ c' ∧ c' ≤ maxLen ∧ cur'.length = c' ∧ cur'.take (n + 1) = xs.take (i) ++ [x] ++ xs.drop (i) ∧ w.grownBy w' none := by
  obtain ⟨i0, hi0, hz0, hz1, hz2⟩ := info_parts info51
  have hsz : (Try.prog.info? 51).map (·.size) = some 1 := by rw [hi0]; simp [hz1]
  obtain rfl : c = n := by omega
  obtain ⟨c', hc'⟩ : ∃ c', c' = grownCap w (c + 1) c 51 := ⟨_, rfl⟩
  have hc1 : c + 1 ≤ c' := by rw [hc']; exact grownCap_ge _ _ _ _
  have hc2 : c' ≤ maxLen := by rw [hc']; exact grownCap_le_maxLen _ _ _ _ (by unfold maxLen; omega)
  unfold maxLen at hc2 hc
  have hgl := blk_lt hg
  have hvl := blk_lt hvb
  have hxl : xs.length = c := by rw [← hx]; simp; omega
  obtain ⟨ROW, hROW⟩ : ∃ ROW, ROW = xs.take (i) ++ (Builtin.zeroCells (Value.pointer none).cells (c + 1 - i)).toList ++ (Builtin.zeroCells (Value.pointer none).cells (c' - (c + 1))).toList := ⟨_, rfl⟩
  have hRl : ROW.length = c' := by rw [hROW]; simp [size_zeroCells, Value.cells]; omega
  have hRt : ROW.take (i) = xs.take (i) := by
    rw [hROW, List.append_assoc, List.take_append_of_le_length (by simp; omega), List.take_take, Nat.min_self]
  have hold : (Builtin.firstCells i0.size i (.slice (some ⟨g, 0, none⟩) i c)).run Try.prog w.drew = .ok (xs.take (i)).toArray w.drew := by
    rw [hz1]
    exact run_firstCells_some w.drew 1 i ⟨g, 0, none⟩ i c (xs.take (i)) (by rw [List.length_take, hxl]; omega) (blk_piece (w := w.drew) hg 0 (fun j v hj => by
      rw [← hx, List.take_take, List.getElem?_take] at hj
      split at hj
      · simpa using hj
      · cases hj))
  have hkk : (c : Int) + 1 - (i : Int) = ((c + 1 - i : Nat) : Int) := by omega
  have hik : i + (c + 1 - i) = c + 1 := by omega
  obtain ⟨W0, hW0⟩ : ∃ W0, W0 = w.drew.alloc (.cells ROW.toArray 51) := ⟨_, rfl⟩
  have hrz : ∀ ty, (Builtin.append_ #[55, 3] ty #[.slice (some ⟨g, 0, none⟩) i c, .int .i64 ((c : Int) + 1 - (i : Int))]).run Try.prog w = .ok (.slice (some ⟨w.heap.size, 0, none⟩) (c + 1) c') W0 := fun ty => by
    have h := Lib.run_append_grow_zeros w 55 3 ty 51 i0 _ .i64 .i64 Try.underlying55 Try.underlying3 hi0 hz0 (some ⟨g, 0, none⟩) i c (xs.take (i)) hold (c + 1 - i) (by omega) (by omega) (by omega) (by omega) (by rw [hz2]; omega)
      (by rw [hz2, hik]; exact growslice_fits (by omega) hb)
    rw [hik, ← hc'] at h
    rw [hkk, h, hW0, hROW]
    congr 4
    apply Array.ext'
    simp
  obtain ⟨N, hN⟩ : ∃ N, N = w.heap.size := ⟨_, rfl⟩
  rw [← hN] at hrz ⊢
  have hG0 : World.blk W0 N ROW 51 := by rw [hW0, hN]; exact blk_new w.drew _ _
  have hR0 : w.grownBy W0 none := by rw [hW0]; exact (grown_drew w _).trans (World.grownBy_alloc _ _ _)
  have hg0 : World.blk W0 g cur 51 := blk_grown hg hR0 (by simp)
  have hv0 : World.blk W0 vb [x] 51 := blk_grown hvb hR0 (by simp)
  obtain ⟨W1, hW1⟩ : ∃ W1, W1 = W0.setRow N (splice ROW (i) [x]).toArray := ⟨_, rfl⟩
  have hcp1 : ∀ ty dc, (Builtin.copy_ #[55, 55] ty #[.slice (some ⟨N, i, none⟩) (c + 1 - i) dc, .slice (some ⟨vb, 0, none⟩) 1 1]).run Try.prog W0 = .ok (goInt (1 : Nat)) W1 := fun ty dc => by
    rw [hW1]
    exact run_copy_sized W0 55 55 ty 51 1 N (i) (c + 1 - i) dc ⟨vb, 0, none⟩ 1 1 ROW 51 [x] Try.underlying55 hsz hG0 1 (by omega) rfl (World.news_of_block hv0) (by rw [hRl]; simp; omega) h1
  have hG1 : World.blk W1 N (splice ROW (i) [x]) 51 := by rw [hW1]; exact blk_setRow hG0 _
  have hg1 : World.blk W1 g cur 51 := by rw [hW1]; exact blk_grown hg0 (grown_setRow _ _ _) (by simp; omega)
  have hS1l : (splice ROW (i) [x]).length = c' := by rw [length_splice _ _ _ (by rw [hRl]; simp; omega), hRl]
  obtain ⟨X2, hX2⟩ : ∃ X2, X2 = xs.drop (i) := ⟨_, rfl⟩
  have hX2l : X2.length = c - i := by rw [hX2]; simp; omega
  have h1X : ∀ u ∈ X2, u.oneCell' = true := by rw [hX2]; exact oneCell_drop h1c _
  have hX2c : ∀ j v, X2[j]? = some v → cur[i + j]? = some v := fun j v hj => by
    rw [hX2, ← hx, List.getElem?_drop, List.getElem?_take] at hj
    split at hj
    · exact hj
    · cases hj
  obtain ⟨W2, hW2⟩ : ∃ W2, W2 = W1.drew.setRow N (splice (splice ROW (i) [x]) (i + 1) X2).toArray := ⟨_, rfl⟩
  have hcp2 : ∀ ty dc sc, (Builtin.copy_ #[55, 55] ty #[.slice (some ⟨N, i + 1, none⟩) (c - i) dc, .slice (some ⟨g, i, none⟩) (c - i) sc]).run Try.prog W1.drew = .ok (goInt (c - i : Nat)) W2 := fun ty dc sc => by
    rw [hW2]
    exact run_copy_sized W1.drew 55 55 ty 51 1 N (i + 1) (c - i) dc ⟨g, i, none⟩ (c - i) sc _ 51 X2 Try.underlying55 hsz hG1 (c - i) (by omega) (by omega) (blk_piece (w := W1.drew) hg1 _ hX2c) (by rw [hS1l, hX2l]; omega) h1X
  have hfin : World.blk W2 N (splice (splice ROW (i) [x]) (i + 1) X2) 51 ∧ c + 1 ≤ c' ∧ c' ≤ maxLen ∧ (splice (splice ROW (i) [x]) (i + 1) X2).length = c' ∧
      (splice (splice ROW (i) [x]) (i + 1) X2).take (c + 1) = xs.take (i) ++ [x] ++ X2 ∧ w.grownBy W2 none := by
    refine ⟨by rw [hW2]; exact blk_setRow (w := W1.drew) hG1 _, hc1, by unfold maxLen; exact hc2, ?_, ?_, ?_⟩
    · rw [length_splice _ _ _ (by rw [hS1l, hX2l]; omega), hS1l]
    · have := splice_two ROW i 1 [x] X2 rfl (by rw [hRl, hX2l]; omega)
      rw [show c + 1 = i + 1 + X2.length by rw [hX2l]; omega, this, hRt]
    · rw [hW2, hW1]
      have k1 : ∀ (w1 : World) (cs : Array Value), w.grownBy w1 none → w.grownBy (w1.setRow N cs) none := fun w1 cs h =>
        ⟨h.os, h.tape, h.output, Nat.le_trans h.size (by simp [World.setRow]), fun k hk hn => by rw [setRow_other _ _ _ _ (by omega)]; exact h.block k hk hn⟩
      exact k1 _ _ ((k1 _ _ hR0).trans (grown_drew _ _))
  rw [← hX2]
  have HF := Lib.hid hfin
  have HC1 := Lib.hid hcp1
  have HC2 := Lib.hid hcp2
  have HRZ := Lib.hid hrz
  have hb2 : ¬ (c' = i + 1) := by omega
  have hb4 : ¬ (c' = i) := by omega
  have hb5 : ¬ (c = i) := by omega
  have hin : i ≤ c := by omega
  have hw1 : IntKind.i64.wrap ((i : Int) + 1) = (i : Int) + 1 := by rw [IntKind.wrap_i64]; omega
  have hb1 : (0 : Int) ≤ (i : Int) + 1 := by omega
  have htn : ((i : Int) + 1).toNat = i + 1 := by omega
  have hz2' : ¬ ((i : Int) = (c : Int)) := by omega
  have hi3 : (i : Int) ≤ (c : Int) := by omega
  clear hfin hcp1 hcp2 hrz hX2 hX2l h1X hX2c hW1 hG1 hW2 hx hg hvb hcl hold hkk hik hW0 hN hG0 hR0 hg0 hv0 hg1 hS1l hROW hRt hRl hxl hc' hgl hvl
  go_enter Try.func45, Try.ntmps45
  go_wp2_with (first | (at_builtin; refine Lib.wpList_append_run _ rfl _ _ 55 3 rfl _ _ rfl rfl _ _ (HRZ.out _) ?_) | (refine wpList_copy_run _ rfl _ _ 55 55 rfl _ _ rfl rfl (HC1.out _ _) ?_))
  go_region_law (refine step_copy_run rfl _ _ 55 55 rfl (.slice (some ⟨N, i + 1, none⟩) (c - i) (c' - (i + 1))) (.slice (some ⟨g, i, none⟩) (c - i) (c - i)) (by simp [Act.eval, Act.put]) (by simp [Act.eval, Act.put]) (HC2.out _ _ _) ?_)
  go_wp2
  go_ret
  exact ⟨_, rfl, _, HF.out.1, HF.out.2.1, HF.out.2.2.1, HF.out.2.2.2.1, HF.out.2.2.2.2.1, HF.out.2.2.2.2.2⟩

theorem insK (sv : Value) (n i : Nat) (xs : List Value) (vb : Nat) (x : Value) (w : World) (hown : w.ownsRow 0 51 1 sv n xs) (hi : i ≤ n) (hvb : World.blk w vb [x] 51)
    (hne : sv.ownBlock ≠ some vb) (h1 : ∀ u ∈ [x], u.oneCell' = true) (h1c : ∀ u ∈ xs, u.oneCell' = true) (hb : (n + 1) * 8 ≤ 140737488355328) :
    Calls Try.prog 45 #[sv, .int .i64 i, .slice (some ⟨vb, 0, none⟩) 1 1] w (Inserted 51 1 sv n i xs [x] w) := by
  by_cases hin : i = n
  · subst hin
    refine (insK_end sv i xs vb x w hown hvb h1 hb).mono fun e w' ⟨g, cap, he, ho, hg, hat⟩ => ?_
    have hl := hown.1
    refine ⟨g, cap, he, ?_, hg, hat⟩
    rw [List.take_of_length_le (by omega), List.drop_eq_nil_of_le (by omega), List.append_nil]
    exact ho
  · obtain ⟨ao, c, rfl, hnc, hc, hl, hn, ha⟩ := owns_form hown
    cases ao with
    | none => have := hn rfl; omega
    | some a =>
      obtain ⟨g, cur, rfl, hg, hcl, hct⟩ := ha a rfl
      simp only [Nat.mul_one] at hcl hct
      by_cases hroom : n + 1 ≤ c
      · refine (insK_shift g n c i cur xs vb x w (by omega) hroom hc hg hcl hct hvb (fun e => hne (by rw [e]; rfl)) h1 h1c).mono fun e w' ⟨he, cur', hg', hl', ht', hgr⟩ => ?_
        exact ⟨g, c, he, owns_mk hg' hroom hc (by rw [hl', Nat.mul_one]) (by rw [Nat.mul_one, Nat.mul_one]; exact ht'), hgr, .inl rfl⟩
      · refine (insK_grow g n c i cur xs vb x w (by omega) hnc (by omega) hc hg hcl hct hvb h1 h1c hb).mono fun e w' ⟨c', he, cur', hg', hc1, hc2, hl', ht', hgr⟩ => ?_
        exact ⟨w.heap.size, c', he, owns_mk hg' hc1 hc2 (by rw [hl', Nat.mul_one]) (by rw [Nat.mul_one, Nat.mul_one]; exact ht'), ⟨hgr.os, hgr.tape, hgr.output, hgr.size, fun k hk _ => hgr.block k hk (by simp)⟩, .inr rfl⟩
end Go.Proofs.Ytaopiolbjnnnfaa
