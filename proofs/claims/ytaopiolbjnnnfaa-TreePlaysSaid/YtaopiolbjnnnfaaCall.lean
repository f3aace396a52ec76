/-
  The tree's calls, told of a tree that is held.
-/
import Derived.Test.YtaopiolbjnnnfaaAllT
import Derived.Test.YtaopiolbjnnnfaaPut
import Derived.Test.YtaopiolbjnnnfaaDelete
import Derived.Test.YtaopiolbjnnnfaaBack
namespace Go.Proofs.Ytaopiolbjnnnfaa
open Go.RowKit

def HoldPost (o : Option Int) (tb : Nat) (F : Nat → Prop) (s' : List KV) (w : World) (e : Ending) (w' : World) : Prop :=
  e = .returned (.tuple #[.int .i64 (o.getD 0), .bool o.isSome]) ∧ Leaves tb F s' w w'

theorem put_held {tb : Nat} {F : Nat → Prop} {s : List KV} (key : ByteArray) (n : Int) (w : World) (hh : Held w tb F s) (hs : s.length ≤ 4611686018427387904) :
    Calls Try.prog 10 #[.pointer (some ⟨tb, 0, none⟩), .string key, .int .i64 n] w (HoldPost (look key s) tb F (put key n s) w) := by
  obtain ⟨h, t, k, e⟩ := hh
  exact (put_walk tb h t s key n w k hs).mono fun _ _ ⟨a, b⟩ => ⟨a, b.leaves k e⟩

theorem delete_held {tb : Nat} {F : Nat → Prop} {s : List KV} (key : ByteArray) (w : World) (hh : Held w tb F s) (hs : s.length ≤ 4611686018427387904) :
    Calls Try.prog 15 #[.pointer (some ⟨tb, 0, none⟩), .string key] w (HoldPost (look key s) tb F (del key s) w) := by
  obtain ⟨h, t, k, e⟩ := hh
  exact (delete_walk tb h t s key w k hs).mono fun _ _ ⟨a, b⟩ => ⟨a, b.leaves k e⟩

theorem get_held {tb : Nat} {F : Nat → Prop} {s : List KV} (key : ByteArray) (w : World) (hh : Held w tb F s) :
    Calls Try.prog 20 #[.pointer (some ⟨tb, 0, none⟩), .string key] w (GotPost (look key s) w) := by
  obtain ⟨h, t, k, -⟩ := hh
  exact get_walk tb h t s key w k

theorem next_held {tb : Nat} {F : Nat → Prop} {s : List KV} (key : ByteArray) (w : World) (hh : Held w tb F s) :
    Calls Try.prog 16 #[.pointer (some ⟨tb, 0, none⟩), .string key] w (PairPost (nxt key s) w) := by
  obtain ⟨h, t, k, -⟩ := hh
  exact next_walk tb h t s key w k

theorem back_held {tb : Nat} {F : Nat → Prop} {s : List KV} (key : ByteArray) (w : World) (hh : Held w tb F s) :
    Calls Try.prog 17 #[.pointer (some ⟨tb, 0, none⟩), .string key] w (PairPost (bck key s) w) := by
  obtain ⟨h, t, k, -⟩ := hh
  exact back_walk tb h t s key w k

theorem all_held {tb : Nat} {F : Nat → Prop} {s : List KV} (w : World) (hh : Held w tb F s) (hs : s.length * 32 ≤ 140737488355328) :
    Calls Try.prog 11 #[.pointer (some ⟨tb, 0, none⟩)] w (AllPost s w) := by
  obtain ⟨h, t, k, -⟩ := hh
  exact all_walk tb h t s w k hs

theorem len_held {tb : Nat} {F : Nat → Prop} {s : List KV} (w : World) (hh : Held w tb F s) :
    Calls Try.prog 14 #[.pointer (some ⟨tb, 0, none⟩)] w fun e w' => e = .returned (.int .i64 (s.length : Nat)) ∧ w = w' := by
  obtain ⟨h, t, k, -⟩ := hh
  exact len_walk tb h t s w k

def MadePost (w : World) (e : Ending) (w' : World) : Prop := ∃ tb F, e = .returned (.pointer (some ⟨tb, 0, none⟩)) ∧ Held w' tb F [] ∧ Fr (fun _ => False) w w' ∧ F tb ∧ ∀ a, F a → w.heap.size ≤ a

theorem new_held (w : World) : Calls Try.prog 8 #[] w (MadePost w) := by
  refine (new_walk w).mono ?_
  rintro e w' ⟨tb, t, rfl, hh, hf, h1, h2⟩
  exact ⟨tb, fun a => a = tb ∨ 0 < cnt t a, rfl, ⟨0, t, hh, fun _ => Iff.rfl⟩, hf, .inl rfl, fun a ha => by
    rcases ha with rfl | ha
    · exact h1
    · exact h2 a ha⟩

theorem put_length {key : ByteArray} {n : Int} {s : List KV} (hr : Rising s) : (put key n s).length ≤ s.length + 1 := by
  unfold put
  rcases rising_cut (key := key) hr with ⟨-, e⟩ | ⟨m, -, e⟩
  · have := congrArg List.length e; simp at this ⊢; omega
  · have := congrArg List.length e; simp at this ⊢; omega

theorem del_length {key : ByteArray} {s : List KV} (hr : Rising s) : (del key s).length ≤ s.length := by
  unfold del
  rcases rising_cut (key := key) hr with ⟨-, e⟩ | ⟨m, -, e⟩
  · have := congrArg List.length e; simp at this ⊢; omega
  · have := congrArg List.length e; simp at this ⊢; omega

/-- a held tree in a later world -/
theorem Leaves.held {tb : Nat} {F : Nat → Prop} {s' : List KV} {w w' : World} (h : Leaves tb F s' w w') : ∃ F', Held w' tb F' s' ∧ Fr F w w' ∧ ∀ a, a < w.heap.size → F' a → F a := h

theorem Held.at {w : World} {tb : Nat} {F : Nat → Prop} {s : List KV} (k : Held w tb F s) : F tb := by
  obtain ⟨h, t, k, e⟩ := k
  exact (e tb).2 (.inl rfl)
end Go.Proofs.Ytaopiolbjnnnfaa
