/-
  A pair written over another, in its row. No walk.
-/
import Derived.Test.YtaopiolbjnnnfaaTrio
namespace Go.Proofs.Ytaopiolbjnnnfaa
open Go.RowKit

/-- a pair written over another -/
theorem pcells_set (L R : List KV) (m p : KV) (i : Nat) (hi : L.length = i) : ((pcells (L ++ m :: R)).set (i * 2) (.string p.1)).set (i * 2 + 1) (.int .i64 p.2) = pcells (L ++ p :: R) := by
  rw [pcells_append, pcells_append, pcells_cons, pcells_cons]
  have hl : (pcells L).length = i * 2 := by rw [pcells_length, hi]
  rw [List.set_append_right _ _ (by omega), List.set_append_right _ _ (by omega), hl, Nat.sub_self, Nat.add_sub_cancel_left]
  rfl

theorem write_pair {W : World} {g n c : Nat} {L R : List KV} {m : KV} (h : W.ownsRow 0 34 2 (.slice (some ⟨g, 0, none⟩) n c) n (pcells (L ++ m :: R))) (p : KV) (i : Nat) (hi : L.length = i) :
    ((W.setCell ⟨g, i * 2, none⟩ (.string p.1)).setCell ⟨g, i * 2 + 1, none⟩ (.int .i64 p.2)).ownsRow 0 34 2 (.slice (some ⟨g, 0, none⟩) n c) n (pcells (L ++ p :: R)) ∧
      Fr (fun k => (Value.slice (some ⟨g, 0, none⟩) n c).ownBlock = some k) W ((W.setCell ⟨g, i * 2, none⟩ (.string p.1)).setCell ⟨g, i * 2 + 1, none⟩ (.int .i64 p.2)) := by
  have h1 := (h.stored (i * 2) (.string p.1)).1
  have h2 := (h1.stored (i * 2 + 1) (.int .i64 p.2)).1
  rw [pcells_set L R m p i hi] at h2
  exact ⟨h2, ((Fr.refl (fun k => (Value.slice (some ⟨g, 0, none⟩) n c).ownBlock = some k) W).setCell (p := ⟨g, i * 2, none⟩) (fun _ => rfl) _).setCell (p := ⟨g, i * 2 + 1, none⟩) (fun _ => rfl) _⟩

end Go.Proofs.Ytaopiolbjnnnfaa
