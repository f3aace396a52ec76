/-
  TreeOrder's walk.
-/
import Derived.Test.YtaopiolbjnnnfaaKnows
import Derived.Test.YtaopiolbjnnnfaaOps
import Derived.Test.YtaopiolbjnnnfaaRefF
import Derived.StillTailTactics
import Derived.Deep.QuietTactic
import Derived.BigQuiet
namespace Go.Proofs.Ytaopiolbjnnnfaa
open Go.RowKit

theorem cut_key {s : List KV} (hr : Rising s) (k : Nat) (hk : k < s.length) : lo s[k].1 s = s.take k ∧ hi s[k].1 s = s.drop (k + 1) := by
  have e : s = s.take k ++ ([s[k]] ++ s.drop (k + 1)) := by
    rw [List.singleton_append, ← List.drop_eq_getElem_cons hk]; exact (List.take_append_drop ..).symm
  have hr2 := hr
  rw [e] at hr2
  have h1 : ∀ p ∈ s.take k, klt p.1 s[k].1 := fun p hp => (List.pairwise_append.1 hr2).2.2 p hp s[k] (List.mem_append_left _ (List.mem_singleton.2 rfl))
  have h2 : ∀ p ∈ s.drop (k + 1), klt s[k].1 p.1 := fun p hp => (List.pairwise_cons.1 (List.pairwise_append.1 hr2).2.1).1 p (by simpa using hp)
  obtain ⟨key, hkey⟩ : ∃ key, key = s[k].1 := ⟨_, rfl⟩
  obtain ⟨n, hn⟩ : ∃ n, n = s[k].2 := ⟨_, rfl⟩
  have hkn : s[k] = (key, n) := by rw [hkey, hn]
  rw [← hkey] at h1 h2 ⊢
  rw [hkn] at e
  constructor
  · conv => lhs; rw [e]
    rw [lo_mid h1 h2, lo_self, List.append_nil]
  · conv => lhs; rw [e]
    rw [hi_mid h1 h2, hi_self, List.nil_append]

theorem nxt_at {s : List KV} (hr : Rising s) (k : Nat) (hk : k < s.length) : nxt s[k].1 s = s[k + 1]? := by
  unfold nxt
  rw [(cut_key hr k hk).2, List.head?_drop]

theorem bck_zero {s : List KV} (hr : Rising s) (hk : 0 < s.length) : bck s[0].1 s = none := by
  unfold bck
  rw [(cut_key hr 0 hk).1]; rfl

theorem bck_succ {s : List KV} (hr : Rising s) (k : Nat) (hk : k + 1 < s.length) : bck s[k + 1].1 s = some s[k] := by
  unfold bck
  rw [(cut_key hr (k + 1) hk).1, List.take_succ_eq_append_getElem (by omega), List.getLast?_append]
  simp

theorem rising_at {s : List KV} (hr : Rising s) (k : Nat) (hk : k + 1 < s.length) : klt s[k].1 s[k + 1].1 :=
  List.pairwise_iff_getElem.1 hr k (k + 1) (by omega) hk (by omega)

theorem Own.rising {w wc : World} {tb : Nat} {s : List KV} (h : Own w wc tb s) : Rising s := by obtain ⟨F, a, -⟩ := h; exact a.rising
theorem Own.frame {w wc : World} {tb : Nat} {s : List KV} (h : Own w wc tb s) : Fr (fun _ => False) w wc := by obtain ⟨F, a, b, c⟩ := h; exact b

theorem cell_next {w w' : World} (hf : Fr (fun _ => False) w w') {p : Addr} {v : Value} (h : w.cell? p = some v) : w'.cell? p = some v :=
  (hf.cell (World.block_lt_of_cell? w _ h) (fun h => h)).trans h

def OrdRel (w : World) (tb ln : Nat) (i : Value) (wr : World) : Prop :=
  ∃ (k : Nat) (s : List KV), i = .int .i64 k ∧ k ≤ ln ∧ k ≤ 2000 ∧ s.length ≤ k ∧ Own w wr tb s

set_option maxHeartbeats 4000000 in
set_option maxRecDepth 100000 in
theorem order_walk (ao : Option Addr) (cap : Nat) (os : List OpV) (w : World) (ho : OpsAt w ao os) (hl : os.length ≤ maxLen) :
    Calls Try.prog 5 #[.slice ao os.length cap] w (TruePost w) := by
  have HO := Lib.hid ho
  unfold maxLen at hl
  obtain ⟨ln, hln⟩ : ∃ ln, ln = os.length := ⟨_, rfl⟩
  rw [← hln] at hl ⊢
  have HLN := Lib.hid hln
  clear ho hln
  go_enter Try.func5, Try.ntmps5
  go_wp2_with fail
  refine (own_new w).mono ?_
  rintro e w1 ⟨tb, rfl, h1, -, -⟩
  have H1 := Lib.hid h1
  clear h1
  go_wp2_with fail
  refine (knows_walk w1).mono ?_
  rintro e w2 ⟨rfl, f2⟩
  have H2 := Lib.hid (H1.out.fr f2)
  clear f2
  go_wp2_with fail
  go_loopw [4] (fun i wr => OrdRel w tb ln i wr) (fun i _ => ln - (intOf i).toNat)
  case atStart => exact ⟨0, [], rfl, by omega, by omega, Nat.le_refl _, H2.out⟩
  case round =>
    obtain ⟨k, s, rfl, hk, hk2, hs, hst⟩ := hrel
    by_cases hlt : k < ln ∧ k < 2000
    · obtain ⟨hlt, hlt2⟩ := hlt
      have hlt3 : (k : Int) < (ln : Int) := by omega
      have hlt4 : (k : Int) < 2000 := by omega
      have hk0 : (0 : Int) ≤ (k : Int) := by omega
      have hko : k < os.length := by rw [← HLN.out]; exact hlt
      obtain ⟨b, off, rfl⟩ := HO.out.addr (by omega)
      obtain ⟨c0, c1, c2⟩ := (HO.out.fr hst.frame).cells hko
      obtain ⟨key, hkey⟩ : ∃ key, key = os[k].key := ⟨_, rfl⟩
      obtain ⟨n, hn⟩ : ∃ n, n = os[k].n := ⟨_, rfl⟩
      obtain ⟨kind, hkind⟩ : ∃ kind, kind = os[k].kind := ⟨_, rfl⟩
      rw [← hkind] at c0
      rw [← hn] at c1
      rw [← hkey] at c2
      have hr := hst.rising
      by_cases h1 : kind = 1
      · subst h1
        have HP := Lib.hid (own_delete key hst (by omega))
        have HD := Lib.hid (del_length (key := key) hr)
        clear hkey hn hr hst
        go_wp2_with (go_at_call 15; refine HP.out.mono ?_; rintro e w4 ⟨rfl, h4⟩; have H4 := Lib.hid h4; clear h4)
        go_roundw
        case rel => exact ⟨k + 1, _, by go_num, by omega, by omega, by have := HD.out; omega, H4.out⟩
        case measure => simp [intOf]; omega
      · have h1b : (kind == 1) = false := by simpa using h1
        have HP := Lib.hid (own_put key n (hst.fr (Fr.refl _ _).drew) (by omega))
        have HD := Lib.hid (put_length (key := key) (n := n) hr)
        clear hkey hn hr hst hkind h1
        go_wp2_with fail
        go_still_tail 11, (by kernel_rfl)
        change wpList _ _ _ _ _ wr.drew
        go_wp2_with (go_at_call 10; refine HP.out.mono ?_; rintro e w4 ⟨rfl, h4⟩)
        have H4 := Lib.hid h4
        clear h4
        go_roundw
        case rel => exact ⟨k + 1, _, by go_num, by omega, by omega, by have := HD.out; omega, H4.out⟩
        case measure => simp [intOf]; omega
    · have hends : (¬ (k : Int) < (ln : Int)) ∨ ((k : Int) < (ln : Int) ∧ ¬ (k : Int) < 2000) := by omega
      have hs32 : s.length * 32 ≤ 140737488355328 := by omega
      have hs20 : s.length ≤ 2000 := by omega
      obtain ⟨pn, hpn⟩ : ∃ pn, pn = s.length := ⟨_, rfl⟩
      have hpm : pn ≤ 2000 := by omega
      have HA := Lib.hid (own_all hst hs32)
      have HST := Lib.hid hst
      have HPN := Lib.hid hpn
      clear hst hs hpn hs32 hs20
      rcases hends with hend | ⟨hend, hend2⟩
      all_goals
        go_wp2_with fail
        refine HA.out.mono ?_
        rintro e wa ⟨sv, rfl, hrow, hfa⟩
        obtain ⟨ao1, c1, rfl, -⟩ := owns_form (ownsRow_zero hrow)
        have R1 := Lib.hid (ownsRow_zero hrow)
        have HS2 := Lib.hid (HST.out.fr hfa)
        clear hrow hfa
        rw [← HPN.out]
        go_wp2_with fail
        refine (own_len HS2.out).mono ?_
        rintro e w' ⟨rfl, rfl⟩
        rw [← HPN.out]
        go_wp2_with fail
        go_loopw [6] (fun i wr => ∃ k : Nat, i = .int .i64 k ∧ k ≤ pn ∧ Fr (fun _ => False) wa wr) (fun i _ => pn - (intOf i).toNat)
        case atStart => exact ⟨0, rfl, Nat.zero_le _, Fr.refl _ _⟩
        case round =>
          obtain ⟨k, rfl, hk, hfr⟩ := hrel
          by_cases hlt : k < pn
          · have hlt4 : (k : Int) < (pn : Int) := by omega
            cases k with
            | zero =>
              have HFR := Lib.hid hfr
              clear hfr
              go_wp2_with fail
              go_roundw
              case rel => exact ⟨1, by go_num, by omega, HFR.out⟩
              case measure => simp [intOf]; omega
            | succ j =>
              have wj : IntKind.i64.wrap (((j + 1 : Nat) : Int) - 1) = (j : Int) := by rw [IntWalk.i64_in _ (by omega)]; omega
              have hj0 : (0 : Int) ≤ (j : Int) := by omega
              have hj1 : (j : Int) < (pn : Int) := by omega
              have hjz : ¬ ((j + 1 : Nat) : Int) = 0 := by omega
              have hkp : j + 1 < s.length := by have := HPN.out; omega
              obtain ⟨pj, hpj⟩ : ∃ pj, pj = s[j] := ⟨_, rfl⟩
              obtain ⟨pk, hpk⟩ : ∃ pk, pk = s[j + 1] := ⟨_, rfl⟩
              have hrow := owns_fr R1.out hfr (fun _ _ h => h)
              obtain ⟨g, rfl, p0, p1⟩ := row_at hrow rfl j (by omega)
              obtain ⟨_, e, p2, p3⟩ := row_at hrow rfl (j + 1) hkp
              cases e
              rw [← hpj] at p0 p1
              rw [← hpk] at p2 p3
              have hst := HS2.out.fr hfr
              have HNX := Lib.hid (show Calls Try.prog 16 _ wr (PairPost (some pk) wr) from by
                have hnx := own_next pj.1 hst
                rwa [show nxt pj.1 s = some pk by rw [hpj, nxt_at hst.rising j (by omega), List.getElem?_eq_getElem hkp, hpk]] at hnx)
              have HBK := Lib.hid (show bck pk.1 s = some pj by rw [hpk, bck_succ hst.rising j hkp, hpj])
              have HLT := Lib.hid (show klt pj.1 pk.1 by rw [hpj, hpk]; exact rising_at hst.rising j hkp)
              have HST1 := Lib.hid hst
              have HFR := Lib.hid hfr
              clear hpj hpk hst hrow hfr hkp
              go_wp2_with fail
              refine HNX.out.mono ?_
              rintro e w4 ⟨rfl, hf4⟩
              obtain ⟨pb, hpb⟩ : ∃ pb, pb = w4.heap.size := ⟨_, rfl⟩
              have hal := hf4.alloc (.cells #[.string pk.1, .int .i64 pk.2] 34)
              have HPB := Lib.hid hpb
              have HPBK := Lib.hid (show World.blk (w4.alloc (.cells #[.string pk.1, .int .i64 pk.2] 34)) pb [.string pk.1, .int .i64 pk.2] 34 by rw [hpb]; exact blk_new w4 _ _)
              have HB := Lib.hid (show Calls Try.prog 17 _ _ (PairPost (some pj) (w4.alloc (.cells #[.string pk.1, .int .i64 pk.2] 34))) from HBK.out ▸ own_back pk.1 (HST1.out.fr hal))
              have r2 := cell_next hal p2
              have r3 := cell_next hal p3
              have HAL := Lib.hid hal
              clear hf4 hpb hal
              simp only [Option.getD_some, Option.isSome_some]
              go_wp2_with fail
              rw [← HPB.out]
              refine HB.out.mono ?_
              rintro e w5 ⟨rfl, hf5⟩
              obtain ⟨qb, hqb⟩ : ∃ qb, qb = w5.heap.size := ⟨_, rfl⟩
              have hal2 := hf5.alloc (.cells #[.string pj.1, .int .i64 pj.2] 34)
              have hq := blk_new w5 [.string pj.1, .int .i64 pj.2] 34
              rw [← hqb] at hq
              have hp := blk_alloc (blk_fr HPBK.out hf5 (fun h => h)) (.cells #[.string pj.1, .int .i64 pj.2] 34)
              have z0 := cell_next (HAL.out.trans' hal2) p0
              have z1 := cell_next (HAL.out.trans' hal2) p1
              have z2 := cell_next (HAL.out.trans' hal2) p2
              have z3 := cell_next (HAL.out.trans' hal2) p3
              have z4 := blk_cell hp 0
              have z5 := blk_cell hp 1
              have z6 := blk_cell hq 0
              have z7 := blk_cell hq 1
              simp only [List.getElem?_cons_succ, List.getElem?_cons_zero] at z4 z5 z6 z7
              have hless : Op.bytesLess pj.1.toList pk.1.toList = true := by rw [less_klt, decide_eq_true_iff]; exact HLT.out
              have hless2 : Op.bytesLess pk.1.toList pj.1.toList = false := by rw [less_klt, decide_eq_false_iff_not]; exact klt_asymm HLT.out
              have heq : (pk.1.toList == pj.1.toList) = false := by rw [beq_keys, decide_eq_false_iff_not]; exact (klt_ne HLT.out).symm
              have HQB := Lib.hid hqb
              have HEND := Lib.hid ((HFR.out.trans' HAL.out).trans' hal2)
              clear hf5 hqb hal2 hq hp p0 p1 p2 p3 r2 r3 wj
              simp only [Option.getD_some, Option.isSome_some]
              obtain ⟨ak, av⟩ := pj
              obtain ⟨bk, bv⟩ := pk
              simp only at *
              go_wp2_with fail
              rw [← HQB.out]
              go_quiet (fail)
              go_wp2_with fail
              go_roundw
              case rel => exact ⟨j + 1 + 1, by go_num, by omega, HEND.out.drewN _⟩
              case measure => simp [intOf]; omega
          · have hlt4 : ¬ (k : Int) < (pn : Int) := by omega
            have HEND := Lib.hid (HS2.out.frame.trans' hfr)
            by_cases hz : pn = 0
            · have hz2 : ¬ (0 : Int) < (pn : Int) := by omega
              clear hfr hz
              go_wp2_with fail
              go_ret
              exact ⟨rfl, HEND.out⟩
            · obtain ⟨m, hm⟩ : ∃ m, pn = m + 1 := ⟨pn - 1, by omega⟩
              have hz2 : (0 : Int) < (pn : Int) := by omega
              have wm : IntKind.i64.wrap ((pn : Int) - 1) = (m : Int) := by rw [IntWalk.i64_in _ (by omega)]; omega
              have hm0 : (0 : Int) ≤ (m : Int) := by omega
              have hm1 : (m : Int) < (pn : Int) := by omega
              have hms : m < s.length := by have := HPN.out; omega
              have hml : s.length = m + 1 := by have := HPN.out; omega
              have hrow := owns_fr R1.out hfr (fun _ _ h => h)
              obtain ⟨g, rfl, p0, -⟩ := row_at hrow rfl m hms
              obtain ⟨_, e, p2, -⟩ := row_at hrow rfl 0 (by omega)
              cases e
              obtain ⟨mk, hmk⟩ : ∃ mk, mk = s[m].1 := ⟨_, rfl⟩
              obtain ⟨zk, hzk⟩ : ∃ zk, zk = (s[0]'(by omega)).1 := ⟨_, rfl⟩
              rw [← hmk] at p0
              rw [← hzk] at p2
              simp only [Nat.zero_mul] at p2
              have hst := HS2.out.fr hfr
              have HNX := Lib.hid (show Calls Try.prog 16 _ wr (PairPost none wr) from by
                have hnx := own_next mk hst
                rwa [show nxt mk s = none by rw [hmk, nxt_at hst.rising m hms, List.getElem?_eq_none (by omega)]] at hnx)
              have HBK := Lib.hid (show bck zk s = none by rw [hzk, bck_zero hst.rising (by omega)])
              have HST1 := Lib.hid hst
              clear hfr hz hm hms hml hrow hmk hzk hst
              go_wp2_with fail
              refine HNX.out.mono ?_
              rintro e w4 ⟨rfl, hf4⟩
              have hal := hf4.alloc (.cells #[.string kv0.1, .int .i64 kv0.2] 34)
              have HB := Lib.hid (show Calls Try.prog 17 _ _ (PairPost none (w4.alloc (.cells #[.string kv0.1, .int .i64 kv0.2] 34))) from HBK.out ▸ own_back zk (HST1.out.fr hal))
              have r2 := cell_next hal p2
              have HAL := Lib.hid hal
              clear hf4 hal
              simp only [Option.getD_none, Option.isSome_none]
              go_wp2_with fail
              refine HB.out.mono ?_
              rintro e w5 ⟨rfl, hf5⟩
              have HF5 := Lib.hid hf5
              clear hf5
              simp only [Option.getD_none, Option.isSome_none]
              go_wp2_with fail
              go_ret
              exact ⟨rfl, ((HEND.out.trans' HAL.out).trans' HF5.out).alloc _⟩
end Go.Proofs.Ytaopiolbjnnnfaa
