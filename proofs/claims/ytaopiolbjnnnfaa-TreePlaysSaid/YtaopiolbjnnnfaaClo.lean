/-
  slices.Clone, slices.Grow of nothing and slices.Concat at pairs and at nodes.
-/
import Derived.Test.YtaopiolbjnnnfaaDelK
namespace Go.Proofs.Ytaopiolbjnnnfaa
open Go.RowKit

/-- what Clone leaves: a row of its own -/
def Cloned (e : TypeId) (size : Nat) (n : Nat) (xs : List Value) (w : World) (en : Ending) (w' : World) : Prop :=
  ∃ g cap, en = .returned (.slice (some ⟨g, 0, none⟩) n cap) ∧ w'.ownsRow 0 e size (.slice (some ⟨g, 0, none⟩) n cap) n xs ∧ Fr (fun _ => False) w w' ∧ w.heap.size ≤ g

set_option maxHeartbeats 1000000 in
set_option maxRecDepth 100000 in
theorem cloP (ad : Addr) (n c : Nat) (xs : List Value) (w : World) (hl : xs.length = n * 2) (hn : 0 < n) (hnews : ∀ j u, xs[j]? = some u → w.cell? (ad.add j) = some u) (h1 : ∀ u ∈ xs, u.oneCell' = true) (hb : n * 24 ≤ 140737488355328) :
    Calls Try.prog 43 #[.slice (some ad) n c] w (Cloned 34 2 n xs w) := by
  obtain ⟨i0, hi0, hz0, hz1, hz2⟩ := info_parts info34
  have hnews' : ∀ j u, xs[j]? = some u → (w.alloc (.cells #[] 34)).cell? (ad.add j) = some u := fun j u hj => by
    have h := hnews j u hj
    rw [World.cell?_alloc_lt _ _ _ (World.block_lt_of_cell? w _ h)]; exact h
  have hown : (w.alloc (.cells #[] 34)).ownsRow 0 34 2 (.slice (some ⟨w.heap.size, 0, none⟩) 0 0) 0 [] :=
    World.ownsRow_made w #[] 0 (Nat.zero_le _) (by unfold maxLen; omega) rfl
  have HN := Lib.hid hnews'
  have HO := Lib.hid hown
  have hq := fun w : World => Lib.run_eql_slice_nil (P := Try.prog) w 31 34 (some ad) n c 0 0 Try.underlying31
  clear hnews hnews' hown
  go_enter Try.func43, Try.ntmps43
  go_wp2_with (at_builtin; refine wpList_append_lies _ rfl _ _ 31 rfl 0 34 i0 _ 2 24 Try.underlying31 hi0 hz0 hz1 hz2 rfl (by decide) (.slice (some ⟨w.heap.size, 0, none⟩) 0 0) 0 [] rfl HO.out ad n c xs rfl hl HN.out h1 hn (by unfold maxLen; omega) (by omega) (Nat.zero_le _) _ rfl ?_; intro g cap w1 hown1 hgrow hat hlt)
  go_ret
  simp only [List.nil_append, Nat.zero_add] at hown1
  have hF : Fr (fun _ => False) w w1 := ((Fr.refl _ w).alloc _).grown hgrow (fun k hk hlt => by simp [Value.ownBlock] at hk; omega)
  refine ⟨g, cap, by simp, hown1, hF, ?_⟩
  simp [Value.ownBlock] at hat
  omega
set_option maxHeartbeats 1000000 in
set_option maxRecDepth 100000 in
theorem cloK (ad : Addr) (n c : Nat) (xs : List Value) (w : World) (hl : xs.length = n) (hn : 0 < n) (hnews : ∀ j u, xs[j]? = some u → w.cell? (ad.add j) = some u) (h1 : ∀ u ∈ xs, u.oneCell' = true) (hb : n * 8 ≤ 140737488355328) :
    Calls Try.prog 44 #[.slice (some ad) n c] w (Cloned 51 1 n xs w) := by
  obtain ⟨i0, hi0, hz0, hz1, hz2⟩ := info_parts info51
  have hnews' : ∀ j u, xs[j]? = some u → (w.alloc (.cells #[] 51)).cell? (ad.add j) = some u := fun j u hj => by
    have h := hnews j u hj
    rw [World.cell?_alloc_lt _ _ _ (World.block_lt_of_cell? w _ h)]; exact h
  have hown : (w.alloc (.cells #[] 51)).ownsRow 0 51 1 (.slice (some ⟨w.heap.size, 0, none⟩) 0 0) 0 [] :=
    World.ownsRow_made w #[] 0 (Nat.zero_le _) (by unfold maxLen; omega) rfl
  have HN := Lib.hid hnews'
  have HO := Lib.hid hown
  have hq := fun w : World => Lib.run_eql_slice_nil (P := Try.prog) w 55 51 (some ad) n c 0 0 Try.underlying55
  clear hnews hnews' hown
  go_enter Try.func44, Try.ntmps44
  go_wp2_with (at_builtin; refine wpList_append_lies _ rfl _ _ 55 rfl 0 51 i0 _ 1 8 Try.underlying55 hi0 hz0 hz1 hz2 rfl (by decide) (.slice (some ⟨w.heap.size, 0, none⟩) 0 0) 0 [] rfl HO.out ad n c xs rfl (by omega) HN.out h1 hn (by unfold maxLen; omega) (by omega) (Nat.zero_le _) _ rfl ?_; intro g cap w1 hown1 hgrow hat hlt)
  go_ret
  simp only [List.nil_append, Nat.zero_add] at hown1
  have hF : Fr (fun _ => False) w w1 := ((Fr.refl _ w).alloc _).grown hgrow (fun k hk hlt => by simp [Value.ownBlock] at hk; omega)
  refine ⟨g, cap, by simp, hown1, hF, ?_⟩
  simp [Value.ownBlock] at hat
  omega

/-- what Grow of nothing leaves -/
def Grew (e : TypeId) (size : Nat) (w : World) (en : Ending) (w' : World) : Prop :=
  ∃ ao cap, en = .returned (.slice ao 0 cap) ∧ w'.ownsRow 0 e size (.slice ao 0 cap) 0 [] ∧ Fr (fun _ => False) w w' ∧ ∀ a, ao = some a → w.heap.size ≤ a.block

set_option maxHeartbeats 1000000 in
set_option maxRecDepth 100000 in
theorem groP (n : Nat) (w : World) (hb : n * 24 ≤ 140737488355328) :
    Calls Try.prog 61 #[.slice none 0 0, .int .i64 n] w (Grew 34 2 w) := by
  obtain ⟨i0, hi0, hz0, hz1, hz2⟩ := info_parts info34
  by_cases h0 : n = 0
  · subst h0
    go_enter Try.func61, Try.ntmps61
    go_wp2
    go_ret
    exact ⟨none, 0, rfl, World.ownsRow_nil _ _ _ _, Fr.refl _ _, fun a h => by cases h⟩
  · have h1 : 0 < n := by omega
    obtain ⟨c', hc'⟩ : ∃ c', c' = grownCap w n 0 34 := ⟨_, rfl⟩
    have hc1 : n ≤ c' := by rw [hc']; exact grownCap_ge _ _ _ _
    have hc2 : c' ≤ maxLen := by rw [hc']; exact grownCap_le_maxLen _ _ _ _ (by unfold maxLen; omega)
    obtain ⟨W1, hW1⟩ : ∃ W1, W1 = w.drew.alloc (.cells (Builtin.zeroCells (Value.agg #[.string ⟨#[]⟩, .int .i64 0]).cells n ++ Builtin.zeroCells (Value.agg #[.string ⟨#[]⟩, .int .i64 0]).cells (c' - n)) 34) := ⟨_, rfl⟩
    have hr : ∀ ty, (Builtin.append_ #[31, 3] ty #[.slice none 0 0, .int .i64 n]).run Try.prog w = .ok (.slice (some ⟨w.heap.size, 0, none⟩) n c') W1 := fun ty => by
      rw [hW1, hc']
      exact Lib.run_append_nil_zeros w 31 3 ty 34 i0 _ .i64 .i64 Try.underlying31 Try.underlying3 hi0 hz0 n h1 (by omega) (by omega) (by rw [hz2]; omega)
    have hF : Fr (fun _ => False) w W1 := by rw [hW1]; exact ((Fr.refl _ w).drew).alloc _
    have hO : W1.ownsRow 0 34 2 (.slice (some ⟨w.heap.size, 0, none⟩) 0 c') 0 [] := by
      rw [hW1]
      exact World.ownsRow_made w.drew _ c' (Nat.zero_le _) hc2 (by simp [size_zeroCells, Value.cells]; omega)
    have HR := Lib.hid hr
    unfold maxLen at hc2
    clear hr hW1 hc'
    go_enter Try.func61, Try.ntmps61
    go_wp2_with (at_builtin; refine Lib.wpList_append_run _ rfl _ _ 31 3 rfl _ _ rfl rfl _ _ (HR.out _) ?_)
    go_ret
    exact ⟨some ⟨w.heap.size, 0, none⟩, c', rfl, hO, hF, fun a h => by cases h; exact Nat.le_refl _⟩
set_option maxHeartbeats 1000000 in
set_option maxRecDepth 100000 in
theorem groK (n : Nat) (w : World) (hb : n * 8 ≤ 140737488355328) :
    Calls Try.prog 62 #[.slice none 0 0, .int .i64 n] w (Grew 51 1 w) := by
  obtain ⟨i0, hi0, hz0, hz1, hz2⟩ := info_parts info51
  by_cases h0 : n = 0
  · subst h0
    go_enter Try.func62, Try.ntmps62
    go_wp2
    go_ret
    exact ⟨none, 0, rfl, World.ownsRow_nil _ _ _ _, Fr.refl _ _, fun a h => by cases h⟩
  · have h1 : 0 < n := by omega
    obtain ⟨c', hc'⟩ : ∃ c', c' = grownCap w n 0 51 := ⟨_, rfl⟩
    have hc1 : n ≤ c' := by rw [hc']; exact grownCap_ge _ _ _ _
    have hc2 : c' ≤ maxLen := by rw [hc']; exact grownCap_le_maxLen _ _ _ _ (by unfold maxLen; omega)
    obtain ⟨W1, hW1⟩ : ∃ W1, W1 = w.drew.alloc (.cells (Builtin.zeroCells (Value.pointer none).cells n ++ Builtin.zeroCells (Value.pointer none).cells (c' - n)) 51) := ⟨_, rfl⟩
    have hr : ∀ ty, (Builtin.append_ #[55, 3] ty #[.slice none 0 0, .int .i64 n]).run Try.prog w = .ok (.slice (some ⟨w.heap.size, 0, none⟩) n c') W1 := fun ty => by
      rw [hW1, hc']
      exact Lib.run_append_nil_zeros w 55 3 ty 51 i0 _ .i64 .i64 Try.underlying55 Try.underlying3 hi0 hz0 n h1 (by omega) (by omega) (by rw [hz2]; omega)
    have hF : Fr (fun _ => False) w W1 := by rw [hW1]; exact ((Fr.refl _ w).drew).alloc _
    have hO : W1.ownsRow 0 51 1 (.slice (some ⟨w.heap.size, 0, none⟩) 0 c') 0 [] := by
      rw [hW1]
      exact World.ownsRow_made w.drew _ c' (Nat.zero_le _) hc2 (by simp [size_zeroCells, Value.cells]; omega)
    have HR := Lib.hid hr
    unfold maxLen at hc2
    clear hr hW1 hc'
    go_enter Try.func62, Try.ntmps62
    go_wp2_with (at_builtin; refine Lib.wpList_append_run _ rfl _ _ 55 3 rfl _ _ rfl rfl _ _ (HR.out _) ?_)
    go_ret
    exact ⟨some ⟨w.heap.size, 0, none⟩, c', rfl, hO, hF, fun a h => by cases h; exact Nat.le_refl _⟩
end Go.Proofs.Ytaopiolbjnnnfaa
