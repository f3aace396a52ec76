/-
  slices.Concat at pairs and at nodes.
-/
import Derived.Test.YtaopiolbjnnnfaaClo
import Derived.Deep.LoopGhost
namespace Go.Proofs.Ytaopiolbjnnnfaa
open Go.RowKit

/-- a value that may be appended: nil or a row -/
def Source (w : World) (e : TypeId) (size : Nat) (s : Value × Nat × List Value) : Prop := w.ownsRow 0 e size s.1 s.2.1 s.2.2

def sumLen (ss : List (Value × Nat × List Value)) : Nat := (ss.map (·.2.1)).sum
def joined (ss : List (Value × Nat × List Value)) : List Value := ss.flatMap (·.2.2)

theorem sumLen_take (ss : List (Value × Nat × List Value)) (k : Nat) (h : k < ss.length) : sumLen (ss.take (k + 1)) = sumLen (ss.take k) + ss[k].2.1 := by
  unfold sumLen; rw [List.take_succ_eq_append_getElem h, List.map_append, List.sum_append]; simp
theorem joined_take (ss : List (Value × Nat × List Value)) (k : Nat) (h : k < ss.length) : joined (ss.take (k + 1)) = joined (ss.take k) ++ ss[k].2.2 := by
  unfold joined; rw [List.take_succ_eq_append_getElem h, List.flatMap_append]; simp
theorem sumLen_le (ss : List (Value × Nat × List Value)) (k : Nat) : sumLen (ss.take k) ≤ sumLen ss := by
  have : sumLen ss = sumLen (ss.take k) + sumLen (ss.drop k) := by
    unfold sumLen; rw [← List.sum_append, ← List.map_append, List.take_append_drop]
  omega

def Concat (e : TypeId) (size : Nat) (ss : List (Value × Nat × List Value)) (w : World) (en : Ending) (w' : World) : Prop :=
  ∃ ao cap, en = .returned (.slice ao (sumLen ss) cap) ∧ w'.ownsRow 0 e size (.slice ao (sumLen ss) cap) (sumLen ss) (joined ss) ∧ Fr (fun _ => False) w w' ∧ ∀ a, ao = some a → w.heap.size ≤ a.block

def ConSlot (e : TypeId) (size : Nat) (ss : List (Value × Nat × List Value)) (w : World) (k : Nat) (v : Value) (wr : World) : Prop :=
  ∃ ao cap, v = .slice ao (sumLen (ss.take k)) cap ∧ wr.ownsRow 0 e size v (sumLen (ss.take k)) (joined (ss.take k)) ∧ Fr (fun _ => False) w wr ∧ ∀ a, ao = some a → w.heap.size ≤ a.block

set_option maxHeartbeats 1000000 in
set_option maxRecDepth 100000 in
theorem conP (sb : Nat) (ss : List (Value × Nat × List Value)) (w : World) (hsb : World.blk w sb (ss.map (·.1)) 31) (hs : ∀ s ∈ ss, Source w 34 2 s) (h1 : ∀ s ∈ ss, ∀ u ∈ s.2.2, u.oneCell' = true) (hb : sumLen ss * 24 ≤ 140737488355328) (hm : ss.length ≤ 3) :
    Calls Try.prog 52 #[.slice (some ⟨sb, 0, none⟩) ss.length ss.length] w (Concat 34 2 ss w) := by
  have HSB := Lib.hid hsb
  have HS := Lib.hid hs
  have H1 := Lib.hid h1
  clear hsb hs h1
  obtain ⟨i0, hi0, hz0, hz1, hz2⟩ := info_parts info34
  go_enter Try.func52, Try.ntmps52
  go_wp2
  go_loop [3, 11] (fun s i => ∃ k : Nat, k ≤ ss.length ∧ i = .int .i64 k ∧ s = .int .i64 (sumLen (ss.take k) : Nat)) (fun _ i => ss.length - (intOf i).toNat)
  case atStart => exact ⟨0, Nat.zero_le _, rfl, rfl⟩
  case round =>
    obtain ⟨k, hk, rfl, rfl⟩ := hrel
    by_cases hlt : k < ss.length
    · have hsk := HS.out ss[k] (List.getElem_mem hlt)
      obtain ⟨ao, c, hv, hnc, hc, hl, hn, ha⟩ := owns_form hsk
      have hck : w.cell? ⟨sb, k, none⟩ = some (.slice ao ss[k].2.1 c) := by
        rw [blk_cell HSB.out, List.getElem?_map, List.getElem?_eq_getElem hlt, ← hv]; rfl
      have hst := sumLen_take ss k hlt
      have hle := sumLen_le ss (k + 1)
      have hle2 : sumLen (ss.take k) + ss[k].2.1 ≤ sumLen ss := by omega
      have HST := Lib.hid hst
      clear hst hsk hv ha hn hl hnc hc hle
      go_wp2
      go_round
      case rel => exact ⟨k + 1, by omega, by go_num, by rw [HST.out]; go_num⟩
      case measure => simp [intOf]; omega
    · obtain rfl : k = ss.length := by omega
      rw [List.take_length]
      go_wp2_with fail
      refine (groP _ _ hb).mono ?_
      rintro e w1 ⟨ao, cap, rfl, hown1, hF1, hfr1⟩
      have HI := Lib.hid (show ConSlot 34 2 ss w 0 (.slice ao 0 cap) w1 from ⟨ao, cap, rfl, hown1, hF1, hfr1⟩)
      clear hown1 hF1 hfr1
      go_wp2_with fail
      go_loopw [6, 27] (fun v i wr => ∃ k : Nat, k ≤ ss.length ∧ i = .int .i64 k ∧ ConSlot 34 2 ss w k v wr) (fun _ i _ => ss.length - (intOf i).toNat)
      case atStart => exact ⟨0, Nat.zero_le _, rfl, HI.out⟩
      case round =>
        obtain ⟨k, hk, rfl, ao, cap, rfl, hown, hF, hfr⟩ := hrel
        by_cases hlt : k < ss.length
        · have hsk := HS.out ss[k] (List.getElem_mem hlt)
          have hsk' : wr.ownsRow 0 34 2 ss[k].1 ss[k].2.1 ss[k].2.2 := owns_fr hsk hF (fun _ _ h => h)
          obtain ⟨so, c, hv, hnc, hc, hl, hn, ha⟩ := owns_form hsk'
          have hck : wr.cell? ⟨sb, k, none⟩ = some (.slice so ss[k].2.1 c) := by
            rw [hF.cell (blk_lt HSB.out) (fun h => h), blk_cell HSB.out, List.getElem?_map, List.getElem?_eq_getElem hlt, ← hv]; rfl
          have h1k := H1.out ss[k] (List.getElem_mem hlt)
          have hst := sumLen_take ss k hlt
          have hjt := joined_take ss k hlt
          have hle := sumLen_le ss (k + 1)
          have hle2 : sumLen (ss.take k) + ss[k].2.1 ≤ sumLen ss := by omega
          obtain ⟨_, _, hcap⟩ : ∃ a b : Nat, sumLen (ss.take k) ≤ cap := by
            obtain ⟨ao', c', hv', hnc', _⟩ := owns_form hown
            cases hv'
            exact ⟨0, 0, hnc'⟩
          by_cases hz : ss[k].2.1 = 0
          · have hx0 : ss[k].2.2 = [] := List.eq_nil_of_length_eq_zero (by rw [hl, hz])
            have hap : ∀ ty, (Builtin.append_ #[31, 31] ty #[.slice ao (sumLen (ss.take k)) cap, .slice so ss[k].2.1 c]).run Try.prog wr = .ok (.slice ao (sumLen (ss.take k)) cap) wr := fun ty => by
              rw [hz]; exact run_append_zero wr 31 ty 34 i0 Try.underlying31 hi0 ao so _ cap c hcap
            have HN := Lib.hid (show ConSlot 34 2 ss w (k + 1) (.slice ao (sumLen (ss.take k)) cap) wr from
              ⟨ao, cap, by rw [hst, hz]; rfl, by rw [hst, hjt, hz, hx0, List.append_nil]; exact hown, hF, hfr⟩)
            have HAP := Lib.hid hap
            clear hap hst hjt hsk hsk' hv ha hn hl hnc hc hle hown hF hfr h1k hx0 hz hle2
            go_wp2_with (at_builtin; refine Lib.wpList_append_run _ rfl _ _ 31 31 rfl _ _ rfl rfl _ _ (HAP.out _) ?_)
            go_roundw
            case rel => exact ⟨k + 1, by omega, by go_num, HN.out⟩
            case measure => simp [intOf]; omega
          · obtain ⟨sa, rfl⟩ : ∃ sa, so = some sa := by
              cases so with
              | none => exact absurd (hn rfl).1 hz
              | some sa => exact ⟨sa, rfl⟩
            obtain ⟨g, cur, rfl, hg, hcl, hct⟩ := ha sa rfl
            have hnews : ∀ j u, ss[k].2.2[j]? = some u → wr.cell? ((⟨g, 0, none⟩ : Addr).add j) = some u := blk_piece hg 0 (fun j v hj => by
              rw [← hct, List.getElem?_take] at hj
              split at hj
              · simpa using hj
              · cases hj)
            have HNW := Lib.hid hnews
            have HO := Lib.hid hown
            have H1K := Lib.hid h1k
            have HL := Lib.hid hl
            have HST := Lib.hid hst
            have HJT := Lib.hid hjt
            have HFR := Lib.hid hfr
            have hzp : 0 < ss[k].2.1 := by omega
            clear hnews hown h1k hl hst hjt hsk hsk' hv ha hn hnc hc hle hfr hz hg hcl hct
            go_wp2_with (at_builtin; refine wpList_append_lies _ rfl _ _ 31 rfl 0 34 i0 _ 2 24 Try.underlying31 hi0 hz0 hz1 hz2 rfl (by decide) (.slice ao (sumLen (ss.take k)) cap) _ _ rfl HO.out ⟨g, 0, none⟩ _ c _ rfl HL.out HNW.out H1K.out hzp (by unfold maxLen; omega) (by omega) (Nat.zero_le _) _ rfl ?_; intro g' cap' w2 hown2 hgrow2 hat2 hlt2)
            go_roundw
            case rel =>
              refine ⟨k + 1, by omega, by go_num, some ⟨g', 0, none⟩, cap', by rw [HST.out], by rw [HST.out, HJT.out]; exact hown2, hF.grown hgrow2 (fun j hj hlt => ?_), fun a h => ?_⟩
              · cases ao with
                | none => cases hj
                | some a0 => simp [Value.ownBlock] at hj; have := HFR.out a0 rfl; omega
              · cases h
                show w.heap.size ≤ g'
                rcases hat2 with h2 | h2
                · cases ao with
                  | none => cases h2
                  | some a0 => simp [Value.ownBlock] at h2; have := HFR.out a0 rfl; omega
                · have := hF.size; simp; omega
            case measure => simp [intOf]; omega
        · obtain rfl : k = ss.length := by omega
          rw [List.take_length] at hown ⊢
          have HO := Lib.hid (show Concat 34 2 ss w (.returned (.slice ao (sumLen ss) cap)) wr from ⟨ao, cap, rfl, hown, hF, hfr⟩)
          clear hown hF hfr
          go_wp2
          go_ret
          exact HO.out
set_option maxHeartbeats 1000000 in
set_option maxRecDepth 100000 in
theorem conK (sb : Nat) (ss : List (Value × Nat × List Value)) (w : World) (hsb : World.blk w sb (ss.map (·.1)) 55) (hs : ∀ s ∈ ss, Source w 51 1 s) (h1 : ∀ s ∈ ss, ∀ u ∈ s.2.2, u.oneCell' = true) (hb : sumLen ss * 8 ≤ 140737488355328) (hm : ss.length ≤ 3) :
    Calls Try.prog 53 #[.slice (some ⟨sb, 0, none⟩) ss.length ss.length] w (Concat 51 1 ss w) := by
  have HSB := Lib.hid hsb
  have HS := Lib.hid hs
  have H1 := Lib.hid h1
  clear hsb hs h1
  obtain ⟨i0, hi0, hz0, hz1, hz2⟩ := info_parts info51
  go_enter Try.func53, Try.ntmps53
  go_wp2
  go_loop [3, 11] (fun s i => ∃ k : Nat, k ≤ ss.length ∧ i = .int .i64 k ∧ s = .int .i64 (sumLen (ss.take k) : Nat)) (fun _ i => ss.length - (intOf i).toNat)
  case atStart => exact ⟨0, Nat.zero_le _, rfl, rfl⟩
  case round =>
    obtain ⟨k, hk, rfl, rfl⟩ := hrel
    by_cases hlt : k < ss.length
    · have hsk := HS.out ss[k] (List.getElem_mem hlt)
      obtain ⟨ao, c, hv, hnc, hc, hl, hn, ha⟩ := owns_form hsk
      have hck : w.cell? ⟨sb, k, none⟩ = some (.slice ao ss[k].2.1 c) := by
        rw [blk_cell HSB.out, List.getElem?_map, List.getElem?_eq_getElem hlt, ← hv]; rfl
      have hst := sumLen_take ss k hlt
      have hle := sumLen_le ss (k + 1)
      have hle2 : sumLen (ss.take k) + ss[k].2.1 ≤ sumLen ss := by omega
      have HST := Lib.hid hst
      clear hst hsk hv ha hn hl hnc hc hle
      go_wp2
      go_round
      case rel => exact ⟨k + 1, by omega, by go_num, by rw [HST.out]; go_num⟩
      case measure => simp [intOf]; omega
    · obtain rfl : k = ss.length := by omega
      rw [List.take_length]
      go_wp2_with fail
      refine (groK _ _ hb).mono ?_
      rintro e w1 ⟨ao, cap, rfl, hown1, hF1, hfr1⟩
      have HI := Lib.hid (show ConSlot 51 1 ss w 0 (.slice ao 0 cap) w1 from ⟨ao, cap, rfl, hown1, hF1, hfr1⟩)
      clear hown1 hF1 hfr1
      go_wp2_with fail
      go_loopw [6, 27] (fun v i wr => ∃ k : Nat, k ≤ ss.length ∧ i = .int .i64 k ∧ ConSlot 51 1 ss w k v wr) (fun _ i _ => ss.length - (intOf i).toNat)
      case atStart => exact ⟨0, Nat.zero_le _, rfl, HI.out⟩
      case round =>
        obtain ⟨k, hk, rfl, ao, cap, rfl, hown, hF, hfr⟩ := hrel
        by_cases hlt : k < ss.length
        · have hsk := HS.out ss[k] (List.getElem_mem hlt)
          have hsk' : wr.ownsRow 0 51 1 ss[k].1 ss[k].2.1 ss[k].2.2 := owns_fr hsk hF (fun _ _ h => h)
          obtain ⟨so, c, hv, hnc, hc, hl, hn, ha⟩ := owns_form hsk'
          have hck : wr.cell? ⟨sb, k, none⟩ = some (.slice so ss[k].2.1 c) := by
            rw [hF.cell (blk_lt HSB.out) (fun h => h), blk_cell HSB.out, List.getElem?_map, List.getElem?_eq_getElem hlt, ← hv]; rfl
          have h1k := H1.out ss[k] (List.getElem_mem hlt)
          have hst := sumLen_take ss k hlt
          have hjt := joined_take ss k hlt
          have hle := sumLen_le ss (k + 1)
          have hle2 : sumLen (ss.take k) + ss[k].2.1 ≤ sumLen ss := by omega
          obtain ⟨_, _, hcap⟩ : ∃ a b : Nat, sumLen (ss.take k) ≤ cap := by
            obtain ⟨ao', c', hv', hnc', _⟩ := owns_form hown
            cases hv'
            exact ⟨0, 0, hnc'⟩
          by_cases hz : ss[k].2.1 = 0
          · have hx0 : ss[k].2.2 = [] := List.eq_nil_of_length_eq_zero (by rw [hl, hz])
            have hap : ∀ ty, (Builtin.append_ #[55, 55] ty #[.slice ao (sumLen (ss.take k)) cap, .slice so ss[k].2.1 c]).run Try.prog wr = .ok (.slice ao (sumLen (ss.take k)) cap) wr := fun ty => by
              rw [hz]; exact run_append_zero wr 55 ty 51 i0 Try.underlying55 hi0 ao so _ cap c hcap
            have HN := Lib.hid (show ConSlot 51 1 ss w (k + 1) (.slice ao (sumLen (ss.take k)) cap) wr from
              ⟨ao, cap, by rw [hst, hz]; rfl, by rw [hst, hjt, hz, hx0, List.append_nil]; exact hown, hF, hfr⟩)
            have HAP := Lib.hid hap
            clear hap hst hjt hsk hsk' hv ha hn hl hnc hc hle hown hF hfr h1k hx0 hz hle2
            go_wp2_with (at_builtin; refine Lib.wpList_append_run _ rfl _ _ 55 55 rfl _ _ rfl rfl _ _ (HAP.out _) ?_)
            go_roundw
            case rel => exact ⟨k + 1, by omega, by go_num, HN.out⟩
            case measure => simp [intOf]; omega
          · obtain ⟨sa, rfl⟩ : ∃ sa, so = some sa := by
              cases so with
              | none => exact absurd (hn rfl).1 hz
              | some sa => exact ⟨sa, rfl⟩
            obtain ⟨g, cur, rfl, hg, hcl, hct⟩ := ha sa rfl
            have hnews : ∀ j u, ss[k].2.2[j]? = some u → wr.cell? ((⟨g, 0, none⟩ : Addr).add j) = some u := blk_piece hg 0 (fun j v hj => by
              rw [← hct, List.getElem?_take] at hj
              split at hj
              · simpa using hj
              · cases hj)
            have HNW := Lib.hid hnews
            have HO := Lib.hid hown
            have H1K := Lib.hid h1k
            have HL := Lib.hid hl
            have HST := Lib.hid hst
            have HJT := Lib.hid hjt
            have HFR := Lib.hid hfr
            have hzp : 0 < ss[k].2.1 := by omega
            clear hnews hown h1k hl hst hjt hsk hsk' hv ha hn hnc hc hle hfr hz hg hcl hct
            go_wp2_with (at_builtin; refine wpList_append_lies _ rfl _ _ 55 rfl 0 51 i0 _ 1 8 Try.underlying55 hi0 hz0 hz1 hz2 rfl (by decide) (.slice ao (sumLen (ss.take k)) cap) _ _ rfl HO.out ⟨g, 0, none⟩ _ c _ rfl HL.out HNW.out H1K.out hzp (by unfold maxLen; omega) (by omega) (Nat.zero_le _) _ rfl ?_; intro g' cap' w2 hown2 hgrow2 hat2 hlt2)
            go_roundw
            case rel =>
              refine ⟨k + 1, by omega, by go_num, some ⟨g', 0, none⟩, cap', by rw [HST.out], by rw [HST.out, HJT.out]; exact hown2, hF.grown hgrow2 (fun j hj hlt => ?_), fun a h => ?_⟩
              · cases ao with
                | none => cases hj
                | some a0 => simp [Value.ownBlock] at hj; have := HFR.out a0 rfl; omega
              · cases h
                show w.heap.size ≤ g'
                rcases hat2 with h2 | h2
                · cases ao with
                  | none => cases h2
                  | some a0 => simp [Value.ownBlock] at h2; have := HFR.out a0 rfl; omega
                · have := hF.size; simp; omega
            case measure => simp [intOf]; omega
        · obtain rfl : k = ss.length := by omega
          rw [List.take_length] at hown ⊢
          have HO := Lib.hid (show Concat 51 1 ss w (.returned (.slice ao (sumLen ss) cap)) wr from ⟨ao, cap, rfl, hown, hF, hfr⟩)
          clear hown hF hfr
          go_wp2
          go_ret
          exact HO.out
end Go.Proofs.Ytaopiolbjnnnfaa
