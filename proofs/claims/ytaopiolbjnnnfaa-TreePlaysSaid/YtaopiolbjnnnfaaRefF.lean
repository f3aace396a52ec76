/-
  The document's own tree: a rising row. find.
-/
import Derived.Test.YtaopiolbjnnnfaaHeld
namespace Go.Proofs.Ytaopiolbjnnnfaa
open Go.RowKit

/-- a pair of a row, whichever the pairs' type -/
theorem row_at {w : World} {e : TypeId} {ao : Option Addr} {n m c : Nat} {l : List KV} (h : w.ownsRow 0 e 2 (.slice ao n c) m (pcells l)) (hm : m = l.length) (i : Nat) (hi : i < l.length) :
    ∃ g, ao = some ⟨g, 0, none⟩ ∧ w.cell? ⟨g, i * 2, none⟩ = some (.string l[i].1) ∧ w.cell? ⟨g, i * 2 + 1, none⟩ = some (.int .i64 l[i].2) := by
  subst hm
  obtain ⟨ao', c', hv, hnc, hc, hl, hn, ha⟩ := owns_form h
  cases hv
  cases ao with
  | none => have := (hn rfl).1; omega
  | some a =>
    obtain ⟨g, cur, rfl, hg, hcl, hct⟩ := ha a rfl
    refine ⟨g, rfl, ?_, ?_⟩
    · rw [blk_cell hg]
      have := pcells_key l i hi
      rw [← hct, List.getElem?_take] at this
      split at this
      · exact this
      · cases this
    · rw [blk_cell hg]
      have := pcells_num l i hi
      rw [← hct, List.getElem?_take] at this
      split at this
      · exact this
      · cases this

/-- the document's tree in memory -/
structure RefAt (w : World) (rb : Nat) (sv : Value) (s : List KV) : Prop where
  blk : World.blk w rb [sv] 39
  row : w.ownsRow 0 64 2 sv s.length (pcells s)

def Ref (w : World) (rb : Nat) (F : Nat → Prop) (s : List KV) : Prop := ∃ sv, RefAt w rb sv s ∧ ∀ a, F a ↔ (a = rb ∨ sv.ownBlock = some a)

theorem RefAt.fr {w w' : World} {rb : Nat} {sv : Value} {s : List KV} {M : Nat → Prop} (h : RefAt w rb sv s) (hf : Fr M w w') (hm : ∀ a, (a = rb ∨ sv.ownBlock = some a) → ¬ M a) : RefAt w' rb sv s :=
  ⟨blk_fr h.blk hf (hm rb (.inl rfl)), owns_fr h.row hf (fun k hk => hm k (.inr hk))⟩

def FindPost (i : Nat) (there : Bool) (w : World) (e : Ending) (w' : World) : Prop := e = .returned (.tuple #[.int .i64 (i : Nat), .bool there]) ∧ Fr (fun _ => False) w w'

theorem getElem_left {α : Type} {s L R : List α} (e : s = L ++ R) {i : Nat} (hi : i < L.length) (h : i < s.length) : s[i] ∈ L := by
  subst e
  rw [List.getElem_append_left hi]
  exact List.getElem_mem hi

set_option maxHeartbeats 2000000 in
set_option maxRecDepth 100000 in
theorem find_walk (rb : Nat) (sv : Value) (s L R : List KV) (there : Bool) (key : ByteArray) (w : World) (h : RefAt w rb sv s) (hs : s.length ≤ 4611686018427387904) (e : s = L ++ R) (h1 : ∀ p ∈ L, klt p.1 key)
    (h2 : there = false ∧ (∀ p ∈ R, klt key p.1) ∨ there = true ∧ ∃ n R', R = (key, n) :: R') :
    Calls Try.prog 51 #[.pointer (some ⟨rb, 0, none⟩), .string key] w (FindPost L.length there w) := by
  obtain ⟨ao, c, rfl, -, -, -, -, -⟩ := owns_form h.row
  obtain ⟨n, hn⟩ : ∃ n, n = s.length := ⟨_, rfl⟩
  obtain ⟨hb, hr⟩ := h
  rw [← hn] at hb hr
  have q0 := blk_cell hb 0
  simp only [List.getElem?_cons_zero] at q0
  have HR := Lib.hid hr
  have HE := Lib.hid e
  have HN := Lib.hid hn
  have H1 := Lib.hid h1
  have H2 := Lib.hid h2
  have hn2 : n ≤ 4611686018427387904 := by omega
  clear hb hr e hn h1 h2 hs
  go_enter Try.func51, Try.ntmps51
  go_wp2_with fail
  go_loopw [6] (fun v wr => ∃ i : Nat, v = .int .i64 i ∧ i ≤ L.length ∧ wr = w) (fun v _ => n - (intOf v).toNat)
  case atStart => exact ⟨0, rfl, Nat.zero_le _, rfl⟩
  case round =>
    obtain ⟨i, rfl, hi, rfl⟩ := hrel
    have hL : L.length + R.length = n := by rw [HN.out, HE.out]; simp
    have wi : IntKind.i64.wrap ((i : Int) + 1) = (i : Int) + 1 := IntWalk.i64_in _ (by omega)
    by_cases hin : i < n
    · have hin2 : (i : Int) < (n : Int) := by omega
      obtain ⟨g, rfl, p0, -⟩ := row_at HR.out HN.out i (by have := HN.out; omega)
      obtain ⟨pk, hpk⟩ : ∃ pk, pk = (s[i]'(by have := HN.out; omega)).1 := ⟨_, rfl⟩
      rw [← hpk] at p0
      have HPK := Lib.hid hpk
      clear hpk
      by_cases hlt : i < L.length
      · have hk : Op.bytesLess pk.toList key.toList = true := by
          rw [less_klt, decide_eq_true_iff, HPK.out]
          refine H1.out _ ?_
          exact getElem_left HE.out hlt _
        go_wp2_with fail
        go_roundw
        case rel => exact ⟨i + 1, rfl, hlt, by trivial⟩
        case measure => simp [intOf]; omega
      · obtain rfl : i = L.length := by omega
        have hidx : s[L.length]'(by have := HN.out; omega) = R[0]'(by omega) := by
          simp only [HE.out]
          rw [List.getElem_append_right (Nat.le_refl _)]
          simp
        have hk : Op.bytesLess pk.toList key.toList = false ∧ (pk.toList == key.toList) = there := by
          rw [less_klt, decide_eq_false_iff_not, beq_keys, HPK.out, hidx]
          rcases H2.out with ⟨rfl, h⟩ | ⟨rfl, m, R', rfl⟩
          · have := h _ (List.getElem_mem (by omega : 0 < R.length))
            exact ⟨klt_asymm this, by rw [decide_eq_false_iff_not]; exact (klt_ne this).symm⟩
          · simp [klt_irrefl]
        obtain ⟨hk1, hk2⟩ := hk
        clear hidx
        go_wp2_with fail
        go_region
        all_goals
          go_wp2_with fail
          go_ret2
          exact ⟨rfl, (Fr.refl _ _).drew⟩
    · have hiL : i = L.length := by omega
      have hR0 : R.length = 0 := by omega
      have hth : there = false := by
        rcases H2.out with ⟨h, -⟩ | ⟨-, m, R', rfl⟩
        · exact h
        · simp at hR0
      have hnL : n = L.length := by omega
      subst hth hiL
      have hin2 : ¬ (L.length : Int) < (n : Int) := by omega
      clear hR0 hL
      subst hnL
      go_wp2_with fail
      go_ret2
      exact ⟨rfl, Fr.refl _ _⟩
end Go.Proofs.Ytaopiolbjnnnfaa
