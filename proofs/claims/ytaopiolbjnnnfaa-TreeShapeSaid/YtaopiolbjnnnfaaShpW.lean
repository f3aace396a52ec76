/-
  TreeShape's walk.
-/
import Derived.Test.YtaopiolbjnnnfaaDuet
import Derived.Test.YtaopiolbjnnnfaaOps
namespace Go.Proofs.Ytaopiolbjnnnfaa
open Go.RowKit

def ShpRel (w : World) (tb rb ln : Nat) (i : Value) (wr : World) : Prop := ∃ (k : Nat) (s : List KV), i = .int .i64 k ∧ k ≤ ln ∧ s.length ≤ k ∧ OwnTwin w tb rb s wr

set_option maxHeartbeats 8000000 in
set_option maxRecDepth 100000 in
theorem shp_walk (ao : Option Addr) (cap : Nat) (os : List OpV) (w : World) (ho : OpsAt w ao os) (hl : os.length * 32 ≤ 140737488351232) :
    Calls Try.prog 6 #[.slice ao os.length cap] w (TruePost w) := by
  have HO := Lib.hid ho
  obtain ⟨ln, hln⟩ : ∃ ln, ln = os.length := ⟨_, rfl⟩
  rw [← hln] at hl ⊢
  have HLN := Lib.hid hln
  clear ho hln
  go_enter Try.func6, Try.ntmps6
  go_wp2_with fail
  refine (new_held w).mono ?_
  rintro e w1 ⟨tb, F, rfl, h1, f1, t1, n1⟩
  have ht := twin_made h1 (Fr.refl (fun _ => False) w1)
  have hf := f1.alloc (.cells #[.slice none 0 0] 39)
  obtain ⟨rb, hrb⟩ : ∃ rb, rb = w1.heap.size := ⟨_, rfl⟩
  rw [← hrb] at ht
  have H1 := Lib.hid (show OwnTwin w tb rb [] (w1.alloc (.cells #[.slice none 0 0] 39)) from ⟨_, ht, hf, fun a ha => by
    rcases ha with ha | ha
    · exact n1 a ha
    · have := f1.size; omega⟩)
  have HRB := Lib.hid hrb
  clear h1 f1 t1 n1 ht hf hrb
  go_wp2_with fail
  rw [← HRB.out]
  refine (knows_walk _).mono ?_
  rintro e w2 ⟨rfl, f2⟩
  have H2 := Lib.hid (H1.out.fr f2)
  clear f2
  go_wp2_with fail
  go_loopw [5] (fun i wr => ShpRel w tb rb ln i wr) (fun i _ => ln - (intOf i).toNat)
  case atStart => exact ⟨0, [], rfl, by omega, Nat.le_refl _, H2.out⟩
  case round =>
    obtain ⟨k, s, rfl, hk, hs, hst⟩ := hrel
    by_cases hlt : k < ln
    · have hlt3 : (k : Int) < (ln : Int) := by omega
      have hk0 : (0 : Int) ≤ (k : Int) := by omega
      have hko : k < os.length := by rw [← HLN.out]; exact hlt
      obtain ⟨b, off, rfl⟩ := HO.out.addr (by omega)
      obtain ⟨c0, c1, c2⟩ := (HO.out.fr hst.frame).cells hko
      obtain ⟨key, hkey⟩ : ∃ key, key = os[k].key := ⟨_, rfl⟩
      obtain ⟨n, hn⟩ : ∃ n, n = os[k].n := ⟨_, rfl⟩
      obtain ⟨kind, hkind⟩ : ∃ kind, kind = os[k].kind := ⟨_, rfl⟩
      rw [← hkind] at c0
      rw [← hn] at c1
      rw [← hkey] at c2
      have HP := Lib.hid (own_step kind n key hst (by omega))
      clear hkey hn hkind hst
      go_wp2_with fail
      refine HP.out.mono ?_
      rintro e w3 ⟨rfl, s', hs', h3⟩
      obtain ⟨F', hT⟩ := h3.tree
      have HSH := Lib.hid (shape_held w3 hT (by omega))
      have H3 := Lib.hid h3
      clear hT h3 c0 c1 c2
      go_wp2_with fail
      refine HSH.out.mono ?_
      rintro e w4 ⟨st, rfl, hf4, hz, hp⟩
      have h4 := H3.out.fr hf4
      obtain ⟨ro, rc, hrow⟩ := h4.row
      have q0 := blk_cell hrow.blk 0
      simp only [List.getElem?_cons_zero] at q0
      obtain ⟨kn, hkn⟩ : ∃ kn, kn = s'.length := ⟨_, rfl⟩
      rw [← hkn] at q0 hz hp
      have H4 := Lib.hid h4
      have HKN := Lib.hid hkn
      have hkb : kn ≤ 4398046511104 := by omega
      clear hf4 h4 hrow hkn
      rcases Nat.eq_zero_or_pos kn with rfl | hpos
      · have hst := hz rfl
        subst hst
        clear hz hp
        go_wp2_with fail
        go_roundw
        case rel => exact ⟨k + 1, s', by go_num, by omega, by omega, H4.out⟩
        case measure => simp [intOf]; omega
      · obtain ⟨t1, t2, t3, t4, t5, t6, t7, t8⟩ := hp hpos
        obtain ⟨ht, nd, lo, g⟩ := st
        simp only at t1 t2 t3 t4 t5 t6 t7 t8
        have hkz : ((kn : Int) == 0) = false := by simp; omega
        have i1 : ¬ (7 : Int) < (g : Int) := by omega
        have i4 : ¬ (ht : Int) < 1 := by omega
        have i5 : ¬ (nd : Int) < (ht : Int) := by omega
        have i6 : ¬ (kn : Int) < (nd : Int) := by omega
        have i7 : ¬ (7 : Int) * (nd : Int) < (kn : Int) := by omega
        have i8 : (nd : Int) ≤ 4398046511104 := by omega
        have HHT := Lib.hid (show 1 ≤ ht ∧ 2 * pow4 (ht - 1) ≤ kn + 1 from ⟨t4, t5⟩)
        by_cases h1 : nd = 1
        · obtain ⟨rfl, rfl, rfl⟩ := t3 h1
          subst h1
          clear hz hp t1 t2 t3 t4 t5 t6 t7 t8
          go_wp2_with (go_at_call 19; refine (height_walk _ _ (by omega)).mono ?_; rintro e w5 ⟨hh, rfl, hj, rfl⟩; have i9 : ¬ (hh : Int) < (1 : Int) := (by have := hj 0 (by rw [pow4]; omega); omega); clear hj)
          go_roundw
          case rel => exact ⟨k + 1, s', by go_num, by omega, by omega, H4.out⟩
          case measure => simp [intOf]; omega
        · have i2 : (1 : Int) < (nd : Int) := by omega
          have i3 : ¬ (lo : Int) < 3 := by have := t2 (by omega); omega
          have hne : ((nd : Int) == 1) = false := by simp; omega
          clear hz hp t1 t2 t3 t4 t5 t6 t7 t8
          go_wp2_with (go_at_call 19; refine (height_walk _ _ (by omega)).mono ?_; rintro e w5 ⟨hh, rfl, hj, rfl⟩; have i9 : ¬ (hh : Int) < (ht : Int) := (by have := HHT.out; have := hj (ht - 1) (by omega); omega); clear hj)
          go_roundw
          case rel => exact ⟨k + 1, s', by go_num, by omega, by omega, H4.out⟩
          case measure => simp [intOf]; omega
    · have hlt3 : ¬ (k : Int) < (ln : Int) := by omega
      have HE := Lib.hid hst.frame
      clear hst
      go_wp2_with fail
      go_ret
      exact ⟨rfl, HE.out⟩
end Go.Proofs.Ytaopiolbjnnnfaa
