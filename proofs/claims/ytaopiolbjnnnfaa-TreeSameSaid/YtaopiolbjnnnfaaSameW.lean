/-
  TreeSame's walk.
-/
import Derived.Test.YtaopiolbjnnnfaaSameS
import Derived.Test.YtaopiolbjnnnfaaRefF
import Derived.StillTailTactics
import Derived.Deep.RegionHeld3
import Derived.Deep.QuietTactic
import Derived.BigQuiet
namespace Go.Proofs.Ytaopiolbjnnnfaa
open Go.RowKit

def SameRel (w : World) (tb ub mb : Nat) (os : List OpV) (i : Value) (wr : World) : Prop :=
  ∃ k : Nat, i = .int .i64 k ∧ k ≤ os.length ∧ SameSt w tb ub mb (puts (os.take k)) [] (puts (os.take k)) k wr

def turn (r : Int) (n i : Nat) : Nat := ((((i : Int) + r.tmod n).tmod n + n) % n).toNat

def SameRel2 (w : World) (tb ub mb : Nat) (os : List OpV) (r : Int) (i : Value) (wr : World) : Prop :=
  ∃ (k : Nat) (s2 : List KV), i = .int .i64 k ∧ k ≤ os.length ∧ SameSt w tb ub mb (puts os) s2 (puts os) os.length wr ∧ Late os (turn r os.length) s2 k

set_option maxHeartbeats 4000000 in
set_option maxRecDepth 100000 in
theorem same_walk (ao : Option Addr) (cap : Nat) (os : List OpV) (r : Int) (w : World) (ho : OpsAt w ao os) (hw : Wf os) (hl : os.length ≤ maxLen) :
    Calls Try.prog 3 #[.slice ao os.length cap, .int .i64 r] w (TruePost w) := by
  have hmm := @run_makeMap Try.prog
  have HO := Lib.hid ho
  have HW := Lib.hid hw
  unfold maxLen at hl
  obtain ⟨ln, hln⟩ : ∃ ln, ln = os.length := ⟨_, rfl⟩
  rw [← hln] at hl ⊢
  have HLN := Lib.hid hln
  clear ho hw hln
  go_enter Try.func3, Try.ntmps3
  go_wp2_with fail
  refine (new_held w).mono ?_
  rintro e w1 ⟨tb, F, rfl, h1, f1, t1, n1⟩
  have H1 := Lib.hid h1
  have F1 := Lib.hid f1
  have N1 := Lib.hid n1
  clear h1 f1 t1 n1
  go_wp2_with fail
  refine (new_held w1).mono ?_
  rintro e w2 ⟨ub, G, rfl, h2, f2, t2, n2⟩
  have H2 := Lib.hid h2
  have F2 := Lib.hid f2
  have N2 := Lib.hid n2
  clear h2 f2 t2 n2
  go_wp2_with fail
  refine (knows_walk w2).mono ?_
  rintro e w3 ⟨rfl, f3⟩
  have HS := Lib.hid (SameSt.made H1.out F1.out N1.out H2.out F2.out N2.out f3)
  have F3 := Lib.hid ((F1.out.trans' F2.out).trans' f3)
  clear f3
  by_cases hbig : 2000 < ln
  · have hbig2 : (2000 : Int) < (ln : Int) := by omega
    go_wp2_with fail
    go_ret
    exact ⟨rfl, F3.out⟩
  · have hbig2 : ¬ (2000 : Int) < (ln : Int) := by omega
    obtain ⟨mb, hmb⟩ : ∃ mb, mb = w3.heap.size := ⟨_, rfl⟩
    have hs : SameSt w tb ub mb [] [] [] 0 (w3.alloc (.map #[] 0)) := by rw [hmb]; exact HS.out
    have HS0 := Lib.hid hs
    have HMB := Lib.hid hmb
    clear HS hs hmb
    go_wp2_with fail
    rw [← HMB.out]
    go_loopw [8] (fun i wr => SameRel w tb ub mb os i wr) (fun i _ => ln - (intOf i).toNat)
    case atStart => exact ⟨0, rfl, Nat.zero_le _, HS0.out⟩
    case round =>
      obtain ⟨k, rfl, hk, hst⟩ := hrel
      have hkn : k ≤ ln := by rw [HLN.out]; exact hk
      by_cases hlt : k < ln
      · have hlt2 : (k : Int) < (ln : Int) := by omega
        have hk0 : (0 : Int) ≤ (k : Int) := by omega
        have hko : k < os.length := by rw [← HLN.out]; exact hlt
        have hframe := hst.frame
        obtain ⟨b, off, rfl⟩ := HO.out.addr (by omega)
        obtain ⟨-, c1, c2⟩ := (HO.out.fr hframe).cells hko
        obtain ⟨key, hkey⟩ : ∃ key, key = os[k].key := ⟨_, rfl⟩
        obtain ⟨n, hn⟩ : ∃ n, n = os[k].n := ⟨_, rfl⟩
        rw [← hn] at c1
        rw [← hkey] at c2
        have hwf := HW.out _ (List.getElem_mem hko)
        rw [← hn, ← hkey] at hwf
        have hsn : puts (os.take (k + 1)) = put key n (puts (os.take k)) := by rw [List.take_succ_eq_append_getElem hko, puts_snoc, ← hn, ← hkey]
        have hpl := puts_len (os.take k)
        have hpr := puts_rising (os.take k)
        rw [List.length_take] at hpl
        have hp := Lib.hid ((hst.next (Fr.refl _ _).drew).put1 key n (by omega))
        have HSN := Lib.hid hsn
        have HE := Lib.hid (show os[k].n = n ∧ os[k].key = key from ⟨hn.symm, hkey.symm⟩)
        have HPR := Lib.hid hpr
        have HWF := Lib.hid hwf
        have HK := Lib.hid hk
        clear hsn hpr hwf hst hkey hn hpl hframe hk
        go_wp2_with fail
        go_still_tail 11, (by kernel_rfl)
        change wpList _ _ _ _ _ wr.drew
        go_wp2_with (go_at_call 10; refine hp.out.mono ?_; rintro e w4 ⟨rfl, h4⟩)
        obtain ⟨-, d1, d2⟩ := (HO.out.fr h4.frame).cells hko
        rw [show os[k].n = n from HE.out.1] at d1
        rw [show os[k].key = key from HE.out.2] at d2
        obtain ⟨w5, hrun, h5⟩ := (h4.next (Fr.refl _ _).drew).store HPR.out key n HWF.out.2 HWF.out.1 (by unfold maxLen; omega)
        have H5 := Lib.hid h5
        clear h4 h5 hp
        go_still_tail 11, (by kernel_rfl)
        change wpList _ _ _ _ _ w4.drew
        go_wp2_with fail
        go_roundw
        case rel => exact ⟨k + 1, by go_num, by omega, by rw [HSN.out]; exact H5.out⟩
        case measure => simp [intOf]; omega
      · have hlt2 : ¬ (k : Int) < (ln : Int) := by omega
        have hkl : k = os.length := by have := HLN.out; omega
        subst hkl
        rw [List.take_length] at hst
        have HST := Lib.hid hst
        clear hst hkn hk
        go_wp2_with fail
        go_loopw [9] (fun i wr => SameRel2 w tb ub mb os r i wr) (fun i _ => ln - (intOf i).toNat)
        case atStart => exact ⟨0, [], rfl, Nat.zero_le _, HST.out, Late.zero _ _⟩
        case round =>
          obtain ⟨k, s2, rfl, hk, hst, hlate⟩ := hrel
          have hkn : k ≤ ln := by rw [HLN.out]; exact hk
          have HLATE := Lib.hid hlate
          have HK := Lib.hid hk
          clear hlate hk
          by_cases hlt : k < ln
          · have hlt3 : (k : Int) < (ln : Int) := by omega
            have hk0 : (0 : Int) ≤ (k : Int) := by omega
            have hpos : (0 : Int) < (ln : Int) := by omega
            obtain ⟨⟨m1, m2⟩, ⟨m3, m4⟩, m5, m6⟩ := turn_lt r ln k (by omega)
            rw [Int.add_emod_right] at m5 m6
            obtain ⟨q, hq⟩ : ∃ q : Nat, (((k : Int) + r.tmod ln).tmod ln % ln) = (q : Int) := ⟨_, (Int.toNat_of_nonneg m5).symm⟩
            have hqlt : q < ln := by omega
            have hq0 : (0 : Int) ≤ (q : Int) := by omega
            have hq1 : (q : Int) < (ln : Int) := by omega
            have hqt : turn r os.length k = q := by unfold turn; rw [← HLN.out, Int.add_emod_right, hq]; omega
            have hqo : q < os.length := by rw [← HLN.out]; exact hqlt
            obtain ⟨b, off, rfl⟩ := HO.out.addr (by omega)
            obtain ⟨-, -, c2⟩ := (HO.out.fr hst.frame).cells hqo
            have hs2 := HLATE.out.step (by rw [hqt]; exact hqo)
            simp only [hqt] at hs2
            obtain ⟨key, hkey⟩ : ∃ key, key = os[q].key := ⟨_, rfl⟩
            have hwf := (HW.out _ (List.getElem_mem hqo)).2
            rw [← hkey] at c2 hs2 hwf
            have hget := (hst.next (Fr.refl _ _).drew).get key hwf
            have hlen2 := HLATE.out.len
            have hp := Lib.hid ((hst.next (Fr.refl _ _).drew).put2 key ((look key (puts os)).getD 0) (by omega))
            obtain ⟨nv, hnv⟩ : ∃ nv, nv = (look key (puts os)).getD 0 := ⟨_, rfl⟩
            rw [← hnv] at hget hp hs2
            have HS2 := Lib.hid hs2
            clear hs2 hqt hkey hwf hst hnv hlen2
            go_wp2_with fail
            rw [Int.add_emod_right, hq]
            clear m1 m2 m3 m4 m5 m6 hq
            go_still_tail 13, (by kernel_rfl)
            change wpList _ _ _ _ _ wr.drew
            go_wp2_with (go_at_call 10; refine hp.out.mono ?_; rintro e w4 ⟨rfl, h4⟩)
            have H4 := Lib.hid h4
            clear h4
            go_roundw
            case rel => exact ⟨k + 1, _, by go_num, by have := HLN.out; omega, H4.out, HS2.out⟩
            case measure => simp [intOf]; omega
          · have hlt3 : ¬ (k : Int) < (ln : Int) := by omega
            have hkl : k = os.length := by have := HLN.out; omega
            subst hkl
            have he : s2 = puts os := HLATE.out.all fun j hj => turn_all r os.length (by omega) j hj
            subst he
            obtain ⟨pn, hpn⟩ : ∃ pn, pn = (puts os).length := ⟨_, rfl⟩
            have hb32 : (puts os).length * 32 ≤ 140737488355328 := by have := puts_len os; have := HLN.out; omega
            have hpm : pn ≤ 2000 := by have := puts_len os; have := HLN.out; omega
            have HA1 := Lib.hid (hst.all1 hb32)
            have HST2 := Lib.hid hst
            have HPN := Lib.hid hpn
            have HB32 := Lib.hid hb32
            clear hst HLATE hkn hpn hb32
            go_wp2_with fail
            refine HA1.out.mono ?_
            rintro e wa ⟨sv, rfl, hrow, hfa⟩
            obtain ⟨ao1, c1, rfl, -⟩ := owns_form (ownsRow_zero hrow)
            have hst2 := HST2.out.next hfa
            have HA2 := Lib.hid (hst2.all2 HB32.out)
            have R1 := Lib.hid (ownsRow_zero hrow)
            have HST3 := Lib.hid hst2
            clear hst2 hrow hfa
            go_wp2_with fail
            refine HA2.out.mono ?_
            rintro e wb ⟨sv, rfl, hrow, hfb⟩
            obtain ⟨ao2, c2, rfl, -⟩ := owns_form (ownsRow_zero hrow)
            have hst3 := HST3.out.next hfb
            have R3 := Lib.hid (owns_fr R1.out hfb (fun _ _ h => h))
            have R2 := Lib.hid (ownsRow_zero hrow)
            have HFB := Lib.hid hst3.frame
            have hlen := hst3.len
            clear hst3 hrow hfb
            rw [← HPN.out] at hlen ⊢
            go_wp2_with fail
            go_loopw [13] (fun i wr => ∃ k : Nat, i = .int .i64 k ∧ k ≤ pn ∧ Fr (fun _ => False) wb wr) (fun i _ => pn - (intOf i).toNat)
            case atStart => exact ⟨0, rfl, Nat.zero_le _, Fr.refl _ _⟩
            case round =>
              obtain ⟨k, rfl, hk, hfr⟩ := hrel
              by_cases hlt : k < pn
              · have hlt4 : (k : Int) < (pn : Int) := by omega
                have hk0 : (0 : Int) ≤ (k : Int) := by omega
                have hkp : k < (puts os).length := by rw [← HPN.out]; exact hlt
                obtain ⟨g1, rfl, p0, p1⟩ := row_at (owns_fr R3.out hfr (fun _ _ h => h)) rfl k hkp
                obtain ⟨g2, rfl, p2, p3⟩ := row_at (owns_fr R2.out hfr (fun _ _ h => h)) rfl k hkp
                obtain ⟨pk, hpk⟩ : ∃ pk, pk = (puts os)[k].1 := ⟨_, rfl⟩
                obtain ⟨pv, hpv⟩ : ∃ pv, pv = (puts os)[k].2 := ⟨_, rfl⟩
                rw [← hpk] at p0 p2
                rw [← hpv] at p1 p3
                have HFR := Lib.hid hfr
                clear hpk hpv hfr
                go_wp2_with fail
                go_quiet (fail)
                go_wp2_with fail
                go_roundw
                case rel => exact ⟨k + 1, by go_num, by omega, HFR.out.drewN _⟩
                case measure => simp [intOf]; omega
              · have hlt4 : ¬ (k : Int) < (pn : Int) := by omega
                have HFR := Lib.hid hfr
                clear hfr
                go_wp2_with fail
                go_ret
                exact ⟨rfl, HFB.out.trans' HFR.out⟩
end Go.Proofs.Ytaopiolbjnnnfaa
