/-
  What a slice of calls reads as, and how it is told to the walks. No walk.
-/
import Derived.Test.YtaopiolbjnnnfaaRows
import Derived.Test.YtaopiolbjnnnfaaMem
import Derived.Deep.Slices
import Derived.Deep.Fields
import Derived.ChangeSame
import Derived.ProofKit
namespace Go.Proofs.Ytaopiolbjnnnfaa
open Go.ChangeShapes Go.WideShapes Go.Deep Go.RowKit

section
variable {H : Type} {enc : TypeId × Value → H} {P : Program} {w : World} {base : Nat} {spare : Nat → Bool} {held : Bool}
theorem open_slice_fields {t e : TypeId} {fs : Array Field} {fuel : Nat} {cs : List Value} {x : DataW H × List MemPlace} (ht : P.underlying t = some (.slice e)) (he : P.underlying e = some (.struct fs))
    (hone : oneCellFields P fs = true) (hC : P.cellsOf e = fs.size) (h : DataW.trod enc P w base spare held fuel t cs = some x) :
    (cs = [.slice none 0 0] ∧ x = (.nil, [])) ∨
    ∃ (a : Addr) (len cap m : Nat) (D : Nat → DataW H) (Pl : Nat → List MemPlace), cs = [.slice (some a) len cap] ∧ base ≤ a.block ∧ len ≤ cap ∧ cap ≤ maxLen ∧ m = (if spare a.block then cap else len) ∧
      x = (.slice ((List.range len).map D) ((List.range (m - len)).map fun j => D (len + j)), MemPlace.row a (m * fs.size) ++ (List.range m).flatMap Pl) ∧
      ∀ i, i < m → ∃ (ys : List (DataW H × List MemPlace)) (n : Nat), D i = .agg (ys.map (·.1)) ∧ Pl i = ys.flatMap (·.2) ∧ ys.length = fs.size ∧
        ∀ (j : Nat) (f : Field), fs[j]? = some f → ∃ (v : Value) (y : DataW H × List MemPlace), w.cell? (a.add (i * fs.size + j)) = some v ∧ ys[j]? = some y ∧ DataW.trod enc P w base spare held n f.type [v] = some y := by
  rcases open_slice ht h with h0 | ⟨a, len, cap, m, n, D, Pl, hcs, hb, hl, hm, hmm, hx, hi⟩
  · exact .inl h0
  · refine .inr ⟨a, len, cap, m, D, Pl, hcs, hb, hl, hm, hmm, by rw [hC] at hx; exact hx, fun i him => ?_⟩
    obtain ⟨cs', hc, ht'⟩ := hi i him
    rw [hC] at hc
    obtain ⟨ys, n', hn', hy, hlen, hyl, hf⟩ := DataW.trod_struct he ht'
    obtain ⟨_, hcl, hat⟩ := World.cells?_some hc
    simp only [Prod.mk.injEq] at hy
    refine ⟨ys, n', hy.1, hy.2, hyl, fun j f hj => ?_⟩
    obtain ⟨ho, hk⟩ := hone_of hone j f hj
    have hjl : j < fs.size := (Array.getElem?_eq_some_iff.1 hj).1
    have hcell := hat j hjl
    have hv : cs'[j]? = some (cs'[j]'(by omega)) := List.getElem?_eq_getElem (by omega)
    have h1 := hf j f hj
    rw [ho, hk] at h1
    have hone' : (cs'.drop j).take 1 = [cs'[j]'(by omega)] := by
      rw [List.drop_eq_getElem_cons (by omega)]
      rfl
    rw [hone'] at h1
    have hys : ys[j]? = some (ys[j]'(by omega)) := List.getElem?_eq_getElem (by omega)
    refine ⟨_, _, ?_, hys, h1.trans hys⟩
    rw [← Go.Deep.add_add, hcell, hv]
end

/-- a call: its kind, its number, its key -/
structure OpV where
  kind : Int
  n : Int
  key : ByteArray

/-- the calls lie there -/
def OpsAt (w : World) (ao : Option Addr) (os : List OpV) : Prop :=
  os = [] ∨ ∃ b off, ao = some ⟨b, off, none⟩ ∧ b < w.heap.size ∧ ∀ i (h : i < os.length),
    w.cell? ⟨b, off + i * 3, none⟩ = some (.int .i64 os[i].kind) ∧ w.cell? ⟨b, off + i * 3 + 1, none⟩ = some (.int .i64 os[i].n) ∧ w.cell? ⟨b, off + i * 3 + 2, none⟩ = some (.string os[i].key)

def Wf (os : List OpV) : Prop := ∀ o ∈ os, (Lit.int .i64 o.n).wf = true ∧ o.key.size ≤ maxLen

theorem OpsAt.fr {w w' : World} {ao : Option Addr} {os : List OpV} (h : OpsAt w ao os) (hf : Fr (fun _ => False) w w') : OpsAt w' ao os := by
  rcases h with h | ⟨b, off, e, hb, hc⟩
  · exact .inl h
  · refine .inr ⟨b, off, e, Nat.lt_of_lt_of_le hb hf.size, fun i hi => ?_⟩
    obtain ⟨h1, h2, h3⟩ := hc i hi
    exact ⟨(hf.cell (p := ⟨b, off + i * 3, none⟩) hb (fun h => h)).trans h1, (hf.cell (p := ⟨b, off + i * 3 + 1, none⟩) hb (fun h => h)).trans h2, (hf.cell (p := ⟨b, off + i * 3 + 2, none⟩) hb (fun h => h)).trans h3⟩

theorem OpsAt.cells {w : World} {b off : Nat} {os : List OpV} (h : OpsAt w (some ⟨b, off, none⟩) os) {i : Nat} (hi : i < os.length) :
    w.cell? ⟨b, off + i * 3, none⟩ = some (.int .i64 os[i].kind) ∧ w.cell? ⟨b, off + i * 3 + 1, none⟩ = some (.int .i64 os[i].n) ∧ w.cell? ⟨b, off + i * 3 + 2, none⟩ = some (.string os[i].key) := by
  rcases h with h | ⟨b, off, e, hb, hc⟩
  · subst h; cases hi
  · cases e; exact hc i hi

theorem OpsAt.addr {w : World} {ao : Option Addr} {os : List OpV} (h : OpsAt w ao os) (h0 : 0 < os.length) : ∃ b off, ao = some ⟨b, off, none⟩ := by
  rcases h with h | ⟨b, off, e, -⟩
  · subst h; cases h0
  · exact ⟨b, off, e⟩

theorem list_of {α : Type} {Q : Nat → α → Prop} : ∀ n : Nat, (∀ i, i < n → ∃ x, Q i x) → ∃ l : List α, l.length = n ∧ ∀ i (h : i < l.length), Q i l[i]
  | 0, _ => ⟨[], rfl, fun i h => by cases h⟩
  | n + 1, hq => by
    obtain ⟨l, hl, hp⟩ := list_of n (fun i h => hq i (by omega))
    obtain ⟨x, hx⟩ := hq n (by omega)
    refine ⟨l ++ [x], by simp [hl], fun i h => ?_⟩
    by_cases c : i < l.length
    · rw [List.getElem_append_left c]; exact hp i c
    · have e : i = n := by simp at h; omega
      subst e
      rw [List.getElem_append_right (by omega)]
      simpa [hl] using hx

section
variable {H : Type} {enc : TypeId × Value → H} {w : World} {base : Nat} {spare : Nat → Bool} {held : Bool}

theorem open_ops {fuel : Nat} {ao : Option Addr} {len cap : Nat} {x : DataW H × List MemPlace} (h : DataW.trod enc Try.prog w base spare held fuel 22 [.slice ao len cap] = some x) :
    ∃ os : List OpV, os.length = len ∧ OpsAt w ao os ∧ Wf os ∧ len ≤ maxLen ∧ (x.1 = .nil ∧ len = 0 ∨ ∃ es sp, x.1 = .slice es sp ∧ es.length = len) := by
  rcases open_slice_fields Try.underlying22 Try.underlying30 (by kernel_rfl) (by kernel_rfl) h with ⟨hcs, rfl⟩ | ⟨a, l, c, m, D, Pl, hcs, hb, hl, hc, hm, rfl, hi⟩
  · simp at hcs
    obtain ⟨rfl, rfl, rfl⟩ := hcs
    exact ⟨[], rfl, .inl rfl, (fun o h => by cases h), Nat.zero_le _, .inl ⟨rfl, rfl⟩⟩
  · simp at hcs
    obtain ⟨rfl, rfl, rfl⟩ := hcs
    have hlm : len ≤ m := by rw [hm]; split <;> omega
    have hq : ∀ i, i < len → ∃ o : OpV, w.cell? (a.add (i * 3)) = some (.int .i64 o.kind) ∧ w.cell? (a.add (i * 3 + 1)) = some (.int .i64 o.n) ∧ w.cell? (a.add (i * 3 + 2)) = some (.string o.key) ∧ (Lit.int .i64 o.n).wf = true ∧ o.key.size ≤ maxLen := by
      intro i hil
      obtain ⟨ys, n, -, -, -, hf⟩ := hi i (by omega)
      obtain ⟨v0, y0, hc0, -, ht0⟩ := hf 0 _ rfl
      obtain ⟨v1, y1, hc1, -, ht1⟩ := hf 1 _ rfl
      obtain ⟨v2, y2, hc2, -, ht2⟩ := hf 2 _ rfl
      obtain ⟨k, e0, -, -⟩ := DataW.trod_int Try.underlying3 ht0
      obtain ⟨m, e1, -, wm⟩ := DataW.trod_int Try.underlying3 ht1
      obtain ⟨s, e2, -, ws⟩ := DataW.trod_string Try.underlying9 ht2
      simp at e0 e1 e2
      subst e0 e1 e2
      exact ⟨⟨k, m, s⟩, hc0, hc1, hc2, wm, ws⟩
    obtain ⟨os, hlen, hos⟩ := list_of len hq
    refine ⟨os, hlen, ?_, fun o ho => ?_, by omega, .inr ⟨_, _, rfl, by simp⟩⟩
    · rcases Nat.eq_zero_or_pos os.length with h0 | h0
      · exact .inl (List.eq_nil_of_length_eq_zero h0)
      · right
        obtain ⟨b, off, sp⟩ := a
        have h1 := (hos 0 h0).1
        have hsp : sp = none := by simpa [Addr.add] using World.cell?_spot h1
        subst hsp
        refine ⟨b, off, rfl, ?_, fun i hi => ?_⟩
        · have := World.block_lt_of_cell? w _ h1
          simpa [Addr.add] using this
        · obtain ⟨h1, h2, h3, -⟩ := hos i hi
          have hadd : ∀ j, (⟨b, off, none⟩ : Addr).add j = ⟨b, off + j, none⟩ := fun j => by unfold Addr.add; split <;> simp_all
          rw [hadd] at h1 h2 h3
          exact ⟨h1, by rw [Nat.add_assoc]; exact h2, by rw [Nat.add_assoc]; exact h3⟩
    · obtain ⟨i, hi, rfl⟩ := List.getElem_of_mem ho
      obtain ⟨-, -, -, h4, h5⟩ := hos i hi
      exact ⟨h4, h5⟩
end
end Go.Proofs.Ytaopiolbjnnnfaa
