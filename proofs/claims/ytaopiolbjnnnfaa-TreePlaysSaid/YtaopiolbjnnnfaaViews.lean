/-
  How slices of pairs and of nodes are read.
-/
import Derived.Test.YtaopiolbjnnnfaaTree
import Derived.Test.YtaopiolbjnnnfaaCon
import Derived.Deep.RegionHeld3
import Derived.Deep.DeepCutAuto
namespace Go.Proofs.Ytaopiolbjnnnfaa
open Go.RowKit

/-- a slice of pairs opened -/
theorem pairs_form {w : World} {v : Value} {l : List KV} (h : World.pairs w v l) :
    ∃ ao c, v = .slice ao l.length c ∧ l.length ≤ c ∧ c ≤ maxLen ∧ (ao = none → l = []) ∧ ∀ a, ao = some a → ∃ g cur, a = ⟨g, 0, none⟩ ∧ World.blk w g cur 34 ∧ cur.length = c * 2 ∧ cur.take (l.length * 2) = pcells l := by
  obtain ⟨ao, c, hv, h1, h2, h3, h4, h5⟩ := owns_form h
  exact ⟨ao, c, hv, h1, h2, fun e => List.eq_nil_of_length_eq_zero (h4 e).1, h5⟩

theorem nodes_form {w : World} {v : Value} {k : List MT} (h : World.nodes w v k) :
    ∃ ao c, v = .slice ao k.length c ∧ k.length ≤ c ∧ c ≤ maxLen ∧ (ao = none → k = []) ∧ ∀ a, ao = some a → ∃ g cur, a = ⟨g, 0, none⟩ ∧ World.blk w g cur 51 ∧ cur.length = c ∧ cur.take k.length = kptrs k := by
  obtain ⟨ao, c, hv, h1, h2, h3, h4, h5⟩ := owns_form h
  refine ⟨ao, c, hv, h1, h2, fun e => List.eq_nil_of_length_eq_zero (h4 e).1, fun a ha => ?_⟩
  obtain ⟨g, cur, h6, h7, h8, h9⟩ := h5 a ha
  exact ⟨g, cur, h6, h7, by simpa using h8, by simpa using h9⟩

/-- reading one child -/
theorem nodes_at {w : World} {ao : Option Addr} {n c : Nat} {k : List MT} (h : World.nodes w (.slice ao n c) k) (i : Nat) (hi : i < k.length) :
    ∃ g, ao = some ⟨g, 0, none⟩ ∧ n = k.length ∧ w.cell? ⟨g, i, none⟩ = some (.pointer (some ⟨k[i].b, 0, none⟩)) := by
  obtain ⟨ao', c', hv, hnc, hc, hn, ha⟩ := nodes_form h
  cases hv
  cases ao with
  | none => have := hn rfl; subst this; simp at hi
  | some a =>
    obtain ⟨g, cur, rfl, hg, hcl, hct⟩ := ha a rfl
    refine ⟨g, rfl, rfl, ?_⟩
    rw [blk_cell hg]
    have : (kptrs k)[i]? = some (.pointer (some ⟨k[i].b, 0, none⟩)) := by simp [kptrs, hi]
    rw [← hct, List.getElem?_take, if_pos hi] at this
    exact this

theorem addr_block (b o j : Nat) : ((⟨b, o, none⟩ : Addr).add j).block = b := by unfold Addr.add; split <;> rfl

theorem blk_type {w : World} {b : Nat} {c c' : List Value} {t t' : TypeId} (h : World.blk w b c t) (k : World.blk w b c' t') : t = t' := by
  unfold World.blk at h k
  rw [h] at k
  simpa using (Obj.cells.inj (Option.some.inj k)).2.1

/-- a piece of a slice's cells -/
theorem pairs_piece {w : World} {g n c : Nat} {l X Y Z : List KV} (h : World.pairs w (.slice (some ⟨g, 0, none⟩) n c) l) (hl : l = X ++ Y ++ Z) (o : Nat) (ho : o = X.length * 2) :
    ∀ j u, (pcells Y)[j]? = some u → w.cell? ((⟨g, o, none⟩ : Addr).add j) = some u := by
  obtain ⟨ao, c', hv, h1, h2, h3, h4⟩ := pairs_form h
  cases hv
  obtain ⟨g', cur, hg, hb, hcl, hct⟩ := h4 _ rfl
  cases hg
  refine blk_piece hb o fun j v hj => ?_
  subst hl
  have hh : (pcells (X ++ Y ++ Z))[o + j]? = some v := by
    rw [List.append_assoc, pcells_append, List.getElem?_append_right (by rw [pcells_length]; omega), pcells_length, ho, Nat.add_sub_cancel_left, pcells_append, List.getElem?_append_left (List.getElem?_eq_some_iff.1 hj).1]
    exact hj
  rw [← hct, List.getElem?_take] at hh
  split at hh
  · exact hh
  · cases hh

theorem nodes_piece {w : World} {g n c : Nat} {l X Y Z : List MT} (h : World.nodes w (.slice (some ⟨g, 0, none⟩) n c) l) (hl : l = X ++ Y ++ Z) (o : Nat) (ho : o = X.length) :
    ∀ j u, (kptrs Y)[j]? = some u → w.cell? ((⟨g, o, none⟩ : Addr).add j) = some u := by
  obtain ⟨ao, c', hv, h1, h2, h3, h4⟩ := nodes_form h
  cases hv
  obtain ⟨g', cur, hg, hb, hcl, hct⟩ := h4 _ rfl
  cases hg
  refine blk_piece hb o fun j v hj => ?_
  subst hl
  have hh : (kptrs (X ++ Y ++ Z))[o + j]? = some v := by
    rw [List.append_assoc, kptrs_append, List.getElem?_append_right (by rw [kptrs_length]; omega), kptrs_length, ho, Nat.add_sub_cancel_left, kptrs_append, List.getElem?_append_left (List.getElem?_eq_some_iff.1 hj).1]
    exact hj
  rw [← hct, List.getElem?_take] at hh
  split at hh
  · exact hh
  · cases hh

/-- not nil: at the head of a block -/
theorem pairs_some {w : World} {v : Value} {l : List KV} (h : World.pairs w v l) (hl : l ≠ []) : ∃ g c, v = .slice (some ⟨g, 0, none⟩) l.length c ∧ l.length ≤ c ∧ c ≤ maxLen := by
  obtain ⟨ao, c, hv, h1, h2, h3, h4⟩ := pairs_form h
  cases ao with
  | none => exact absurd (h3 rfl) hl
  | some a =>
    obtain ⟨g, cur, rfl, _⟩ := h4 a rfl
    exact ⟨g, c, hv, h1, h2⟩
theorem nodes_some {w : World} {v : Value} {l : List MT} (h : World.nodes w v l) (hl : l ≠ []) : ∃ g c, v = .slice (some ⟨g, 0, none⟩) l.length c ∧ l.length ≤ c ∧ c ≤ maxLen := by
  obtain ⟨ao, c, hv, h1, h2, h3, h4⟩ := nodes_form h
  cases ao with
  | none => exact absurd (h3 rfl) hl
  | some a =>
    obtain ⟨g, cur, rfl, _⟩ := h4 a rfl
    exact ⟨g, c, hv, h1, h2⟩
theorem pairs_slice {w : World} {v : Value} {l : List KV} (h : World.pairs w v l) : ∃ ao c, v = .slice ao l.length c ∧ l.length ≤ c := by
  obtain ⟨ao, c, hv, h1, _⟩ := pairs_form h
  exact ⟨ao, c, hv, h1⟩
theorem nodes_slice {w : World} {v : Value} {l : List MT} (h : World.nodes w v l) : ∃ ao c, v = .slice ao l.length c ∧ l.length ≤ c := by
  obtain ⟨ao, c, hv, h1, _⟩ := nodes_form h
  exact ⟨ao, c, hv, h1⟩

end Go.Proofs.Ytaopiolbjnnnfaa
