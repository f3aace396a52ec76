/-
  All, of a tree and of none; Len; New.
-/
import Derived.Test.YtaopiolbjnnnfaaEachT
namespace Go.Proofs.Ytaopiolbjnnnfaa
open Go.RowKit

def AllPost (s : List KV) (w : World) (e : Ending) (w' : World) : Prop := ∃ sv, e = .returned sv ∧ w'.ownsRow w.heap.size 34 2 sv s.length (pcells s) ∧ Fr (fun _ => False) w w'

theorem gathered_fr {ob B : Nat} {st : List KV} {w w' : World} (h : Gathered ob B st w) (hf : Fr (fun _ => False) w w') : Gathered ob B st w' := by
  obtain ⟨sv, h1, h2, h3⟩ := h
  exact ⟨sv, blk_fr h1 hf (fun h => h), ownsRow_base (owns_fr (ownsRow_zero h2) hf (fun _ _ h => h)) (ownsRow_ge h2), h3⟩

set_option maxHeartbeats 4000000 in
set_option maxRecDepth 100000 in
theorem all_walk (tb h : Nat) (t : MT) (s : List KV) (w : World) (hh : HeldAt w tb h t s) (hs : s.length * 32 ≤ 140737488355328) : Calls Try.prog 11 #[.pointer (some ⟨tb, 0, none⟩)] w (AllPost s w) := by
  have hmf : ∀ (fn : Fn) (first cap : Array Value) (w : World), (Instr.makeFunc fn first cap).run Try.prog w = .ok (.func fn first cap) w := fun _ _ _ _ => rfl
  have hfa : Fr (fun _ => False) w (w.alloc (.cells #[.slice none 0 0] 31)) := (Fr.refl _ _).alloc _
  have hrun := run_flat 1 [] h t hh.ok
  rw [List.nil_append, hh.tells] at hrun
  have heach := eachA_top (fun s _ _ => s) (fun s p => s ++ [p]) (Gathered w.heap.size) (fun a => a = w.heap.size) (fun st : List KV => st.length * 32 ≤ 140737488355328) w.heap.size tb h t s (w.alloc (.cells #[.slice none 0 0] 31)) (hh.fr hfa (fun _ _ h => h)) (by omega) []
    (fun B st w x deep hi _ hl hB => (all1_walk _ _ w).mono (by rintro e w' ⟨rfl, rfl⟩; exact ⟨rfl, hi, Fr.refl _ _⟩))
    (fun B st w p hi hg hB => all2_walk _ B st p w hi hg hB)
    (fun B st w w' hi hf => gathered_fr hi hf) (fun _ _ _ h => h) (fun st p h => by simp at h ⊢; omega)
    (fun w' hf => ⟨.slice none 0 0, blk_fr (blk_new w [.slice none 0 0] 31) hf (fun h => h), World.ownsRow_nil _ _ _ _, by have := hf.size; simp at this; omega⟩)
    (fun a e => by subst e; exact ⟨by simp, new_off hh.lies (Nat.le_refl _)⟩) (by rw [hrun]; exact hs)
  rw [hrun] at heach
  have HEACH := Lib.hid heach
  clear heach hrun hfa hh
  go_enter Try.func11, Try.ntmps11
  go_wp2_with (go_at_call 27; refine HEACH.out.mono ?_; rintro e w2 ⟨rfl, B, hB, ⟨sv, hb, hrow, hob⟩, hf⟩; have q0 := blk_cell hb 0; simp only [List.getElem?_cons_zero] at q0; have HROW := Lib.hid hrow; have HF := Lib.hid hf; clear hb hrow hf)
  go_ret
  refine ⟨sv, rfl, ownsRow_base (ownsRow_zero HROW.out) (fun g hg => by have := ownsRow_ge HROW.out g hg; omega), ((Fr.refl (fun _ => False) w).alloc _).trans HF.out fun a ha e => by rcases e with e | e; omega; simp at e; omega⟩

theorem len_walk (tb h : Nat) (t : MT) (s : List KV) (w : World) (hh : HeldAt w tb h t s) : Calls Try.prog 14 #[.pointer (some ⟨tb, 0, none⟩)] w fun e w' => e = .returned (.int .i64 (s.length : Nat)) ∧ w = w' := by
  have q0 := blk_cell hh.blk 1
  simp only [List.getElem?_cons_succ, List.getElem?_cons_zero] at q0
  have HH := Lib.hid hh
  clear hh
  go_enter Try.func14, Try.ntmps14
  go_wp2_with (go_at_call 21; refine (none_any tb _ _ _ HH.out.blk).mono ?_; rintro e w' ⟨rfl, rfl⟩)
  go_ret
  exact ⟨rfl, rfl⟩

def NewPost (w : World) (e : Ending) (w' : World) : Prop := ∃ tb t, e = .returned (.pointer (some ⟨tb, 0, none⟩)) ∧ HeldAt w' tb 0 t [] ∧ Fr (fun _ => False) w w' ∧ w.heap.size ≤ tb ∧ ∀ a, 0 < cnt t a → w.heap.size ≤ a

theorem new_walk (w : World) : Calls Try.prog 8 #[] w (NewPost w) := by
  go_enter Try.func8, Try.ntmps8
  go_wp2
  go_ret
  have hb2 := blk_new (w.alloc (.cells #[.slice none 0 0, .slice none 0 0] 57)) [.pointer (some ⟨w.heap.size, 0, none⟩), .int .i64 0] 53
  rw [show (w.alloc (.cells #[.slice none 0 0, .slice none 0 0] 57)).heap.size = w.heap.size + 1 by simp] at hb2
  have hb1 := blk_alloc (blk_new w [.slice none 0 0, .slice none 0 0] 57) (.cells #[.pointer (some ⟨w.heap.size, 0, none⟩), .int .i64 0] 53)
  have hc : ∀ a, cnt (.node w.heap.size (.slice none 0 0) (.slice none 0 0) [] []) a = one w.heap.size a := fun a => by rw [cnt_node, cnts_nil, own_none]; rfl
  refine ⟨w.heap.size + 1, .node w.heap.size (.slice none 0 0) (.slice none 0 0) [] [], rfl, ⟨hb2, ?_, fun a => by rw [hc]; exact one_le_one _ _, by rw [hc, one_ne (by omega)], ok_zero.2 ⟨Nat.zero_le _, rfl⟩, fun h => absurd h (by decide), List.Pairwise.nil, flat_leaf _ _ _ _⟩, ((Fr.refl _ _).alloc _).alloc _, by omega, fun a ha => by rw [hc] at ha; rw [one_pos ha]; exact Nat.le_refl _⟩
  rw [lies_node]
  exact ⟨hb1, World.ownsRow_nil _ _ _ _, World.ownsRow_nil _ _ _ _, liesAll_nil _⟩
end Go.Proofs.Ytaopiolbjnnnfaa
