/-
  each, as All goes: the recursive closure.
-/
import Derived.Test.YtaopiolbjnnnfaaRun
import Derived.Deep.QuietTactic
import Derived.BigQuiet
import Derived.Deep.DeepCutAuto
namespace Go.Proofs.Ytaopiolbjnnnfaa
open Go.RowKit

section
variable {σ : Type} (N : σ → MT → Nat → σ) (P : σ → KV → σ) (Inv : Nat → σ → World → Prop) (M0 : Nat → Prop) (Good : σ → Prop)

def Out (B : Nat) (w : World) (st : σ) (e : Ending) (w' : World) : Prop := e = .returned (.tuple #[]) ∧ Inv B st w' ∧ Fr (fun a => M0 a ∨ B ≤ a) w w'

set_option maxHeartbeats 4000000 in
set_option maxRecDepth 100000 in
theorem eachA_walk (ob nb wb pb : Nat) (B : Nat) (hnb : nb < B ∧ ¬ M0 nb) (hwb : wb < B ∧ ¬ M0 wb) (hpb : pb < B ∧ ¬ M0 pb)
    (hN : ∀ st w x deep, Inv B st w → Good (N st x deep) → Lies w x → B ≤ w.heap.size → Calls Try.prog 28 #[.pointer (some ⟨x.b, 0, none⟩), .int .i64 (deep : Nat)] w (Out Inv M0 B w (N st x deep)))
    (hP : ∀ st w p, Inv B st w → Good (P st p) → B ≤ w.heap.size → Calls Try.prog 29 #[.agg #[.string p.1, .int .i64 p.2], .pointer (some ⟨ob, 0, none⟩)] w (Out Inv M0 B w (P st p)))
    (hQ : ∀ st w w', Inv B st w → Fr (fun _ => False) w w' → Inv B st w') (hGN : ∀ st x d, Good (N st x d) → Good st) (hGP : ∀ st p, Good (P st p) → Good st) (h : Nat) : ∀ (t : MT) (st : σ) (deep : Nat) (w : World), Good (runT N P deep st t) → Lies w t → Ok h t → deep + h ≤ 4611686018427387904 → (∀ a, 0 < cnt t a → a < B ∧ ¬ M0 a) → Inv B st w → B ≤ w.heap.size →
      World.blk w nb [.func (.func 28) #[] #[]] 62 → World.blk w wb [.func (.func 50) #[] #[.pointer (some ⟨nb, 0, none⟩), .pointer (some ⟨wb, 0, none⟩), .pointer (some ⟨pb, 0, none⟩)]] 62 → World.blk w pb [.func (.func 29) #[] #[.pointer (some ⟨ob, 0, none⟩)]] 63 →
      Calls Try.prog 50 #[.pointer (some ⟨t.b, 0, none⟩), .int .i64 (deep : Nat), .pointer (some ⟨nb, 0, none⟩), .pointer (some ⟨wb, 0, none⟩), .pointer (some ⟨pb, 0, none⟩)] w (Out Inv M0 B w (runT N P deep st t)) := by
  induction h using Nat.strongRecOn with
  | _ h ih =>
    intro t st deep w hgood hl hk hd hoff hinv hB h1 h2 h3
    obtain ⟨b, lv, kv, l, kids⟩ := t
    obtain ⟨hx, hlp, hkn, hch⟩ := lies_node.1 hl
    have h7 : l.length ≤ 7 := hk.len
    obtain ⟨lo, lc, rfl, -⟩ := pairs_slice hlp
    obtain ⟨ko, kc, rfl, -⟩ := nodes_slice hkn
    obtain ⟨ln, hln⟩ : ∃ ln, ln = l.length := ⟨_, rfl⟩
    obtain ⟨kn, hkn1⟩ : ∃ kn, kn = kids.length := ⟨_, rfl⟩
    have hcall := hN st w _ deep hinv (by rw [runT_node] at hgood; exact good_runW hGN hGP deep _ l kids hgood) hl hB
    have q0 := blk_cell h1 0
    simp only [List.getElem?_cons_zero] at q0
    obtain ⟨fin, hfin⟩ : ∃ fin, fin = runT N P deep st (.node b (.slice lo l.length lc) (.slice ko kids.length kc) l kids) := ⟨_, rfl⟩
    obtain ⟨st0, hst0⟩ : ∃ st0, st0 = N st (.node b (.slice lo l.length lc) (.slice ko kids.length kc) l kids) deep := ⟨_, rfl⟩
    have hfin2 : runW N P deep st0 l kids = fin := by rw [hfin, hst0, runT_node]
    rw [← hst0] at hcall
    have hgf : Good fin := by rw [hfin]; exact hgood
    have HGF := Lib.hid hgf
    have HGP := Lib.hid (And.intro hGN hGP)
    clear hgood hgf hGN hGP
    rw [← hln, ← hkn1] at hcall hl hoff hk hfin hx
    have HBASE : Hid (∀ w', Fr (fun a => M0 a ∨ B ≤ a) w w' → Lies w' (.node b (.slice lo ln lc) (.slice ko kn kc) l kids) ∧ World.blk w' b [.slice lo ln lc, .slice ko kn kc] 57 ∧ World.blk w' nb [.func (.func 28) #[] #[]] 62 ∧
        World.blk w' wb [.func (.func 50) #[] #[.pointer (some ⟨nb, 0, none⟩), .pointer (some ⟨wb, 0, none⟩), .pointer (some ⟨pb, 0, none⟩)]] 62 ∧ World.blk w' pb [.func (.func 29) #[] #[.pointer (some ⟨ob, 0, none⟩)]] 63 ∧ B ≤ w'.heap.size) := Lib.hid fun w' hf => by
      have hl' := lies_fr hf _ hl (fun a ha e => by have := hoff a ha; rcases e with e | e; exact this.2 e; omega)
      exact ⟨hl', (lies_node.1 hl').1, blk_fr h1 hf (fun e => by rcases e with e | e; exact hnb.2 e; omega), blk_fr h2 hf (fun e => by rcases e with e | e; exact hwb.2 e; omega), blk_fr h3 hf (fun e => by rcases e with e | e; exact hpb.2 e; omega), Nat.le_trans hB hf.size⟩
    have HCALL := Lib.hid hcall
    have HOFF := Lib.hid hoff
    have HPP := Lib.hid hP
    have HK := Lib.hid hk
    have HKIDS : Hid (kids = [] ∨ kids.length = l.length + 1) := Lib.hid (by
      cases h with
      | zero => exact .inl (ok_zero.1 hk).2
      | succ h => exact .inr (ok_node.1 hk).2.1)
    have HFIN := Lib.hid hfin2
    have HLN := Lib.hid (And.intro hln hkn1)
    have HIH := Lib.hid ih
    have HQ := Lib.hid hQ
    have hln7 : ln ≤ 7 := by omega
    have w1 : IntKind.i64.wrap ((ln : Int) + 1) = (ln : Int) + 1 := IntWalk.i64_in _ (by omega)
    have hd2 : deep ≤ 4611686018427387904 := by omega
    simp only [MT.b]
    rw [← hln, ← hkn1, ← hfin]
    clear hcall hoff hP hk hfin2 hln hkn1 ih hN hl hx hlp hkn hch h1 h2 h3 hB hinv hnb hwb hpb hfin hst0 h7 hQ
    go_enter Try.func50, Try.ntmps50
    go_wp2_with (go_at_call 28; refine HCALL.out.mono ?_; rintro e w1 ⟨rfl, hinv1, hf1⟩; obtain ⟨b1, b2, -⟩ := HBASE.out _ hf1; have q1 := blk_cell b2 0; simp only [List.getElem?_cons_zero] at q1; have HINV1 := Lib.hid hinv1; have HF1 := Lib.hid hf1; clear hinv1 hf1 b1 b2)
    go_loopw [18] (fun v wr => ∃ i st1, v = .int .i64 (i : Nat) ∧ Fr (fun a => M0 a ∨ B ≤ a) w wr ∧ Inv B st1 wr ∧ ((i ≤ ln ∧ runW N P deep st1 (l.drop i) (kids.drop i) = fin) ∨ (i = ln + 1 ∧ st1 = fin))) (fun v _ => ln + 1 - (intOf v).toNat)
    case atStart =>
      exact ⟨0, st0, rfl, HF1.out, HINV1.out, .inl ⟨Nat.zero_le _, HFIN.out⟩⟩
    case round =>
      clear HINV1 HF1 HCALL q0 q1
      obtain ⟨i, st1, rfl, hf, hinv, hrel⟩ := hrel
      have HF := Lib.hid hf
      have HINV := Lib.hid hinv
      obtain ⟨b1, b2, b3, b4, b5, b6⟩ := HBASE.out _ hf
      have q1 := blk_cell b2 0
      have q2 := blk_cell b2 1
      have q3 := blk_cell b4 0
      simp only [List.getElem?_cons_succ, List.getElem?_cons_zero] at q1 q2 q3
      have HX := Lib.hid b2
      rcases hrel with ⟨hi, hrun⟩ | ⟨rfl, rfl⟩
      · have hc : (i : Int) < (ln : Int) + 1 := by omega
        have hi7 : i ≤ 7 := by omega
        have wi : IntKind.i64.wrap ((i : Int) + 1) = (i : Int) + 1 := IntWalk.i64_in _ (by omega)
        have wd : IntKind.i64.wrap ((deep : Int) + 1) = (deep : Int) + 1 := IntWalk.i64_in _ (by omega)
        -- what stands behind the child
        obtain ⟨st2, hst2, hrun2⟩ : ∃ st2, (kids = [] ∧ st2 = st1 ∨ ∃ hik : i < kids.length, st2 = runT N P (deep + 1) st1 kids[i]) ∧
            ((∃ hil : i < l.length, runW N P deep (P st2 l[i]) (l.drop (i + 1)) (kids.drop (i + 1)) = fin) ∨ (i = ln ∧ st2 = fin)) := by
          rcases HKIDS.out with hk0 | hkl
          · refine ⟨st1, .inl ⟨hk0, rfl⟩, ?_⟩
            subst hk0
            by_cases hil : i < l.length
            · refine .inl ⟨hil, ?_⟩
              rw [List.drop_eq_getElem_cons hil, List.drop_nil, runW_nil, List.foldl_cons] at hrun
              rw [List.drop_nil, runW_nil]; exact hrun
            · refine .inr ⟨by have := HLN.out.1; omega, ?_⟩
              rw [List.drop_eq_nil_of_le (by omega), List.drop_nil, runW_nil] at hrun
              exact hrun
          · have hik : i < kids.length := by have := HLN.out.1; omega
            refine ⟨_, .inr ⟨hik, rfl⟩, ?_⟩
            rw [List.drop_eq_getElem_cons hik] at hrun
            by_cases hil : i < l.length
            · refine .inl ⟨hil, ?_⟩
              rw [List.drop_eq_getElem_cons hil, runW_cons] at hrun
              exact hrun
            · refine .inr ⟨by have := HLN.out.1; omega, ?_⟩
              rw [List.drop_eq_nil_of_le (by omega), runW_last] at hrun
              exact hrun
        have HGS : Hid (Good st2) := Lib.hid (by
          rcases hrun2 with ⟨hil, hr⟩ | ⟨-, hs⟩
          · exact HGP.out.2 _ _ (good_runW HGP.out.1 HGP.out.2 deep _ _ _ (by rw [hr]; exact HGF.out))
          · rw [hs]; exact HGF.out)
        have HST2 := Lib.hid hst2
        have HRUN2 := Lib.hid hrun2
        clear hf hinv b1 b2 b3 b4 b5 b6 hst2 hrun2 hrun
        go_upto_if 23 with (go_at_call 25; refine (leaf_any b _ _ _ _ _ HX.out).mono ?_; rintro e w' ⟨rfl, rfl⟩)
        go_cut [] (fun wd => Inv B st2 wd ∧ Fr (fun a => M0 a ∨ B ≤ a) w wd)
        case first =>
          rcases HST2.out with ⟨hk0, hs⟩ | ⟨hik, hs⟩
          · have hkn0 : kn = 0 := by rw [HLN.out.2, hk0]; rfl
            subst hs
            clear hk0
            subst hkn0
            go_wp2_with fail
            go_meet
            exact ⟨HINV.out, HF.out⟩
          · have hkn0 : (!decide (kn = 0)) = true := by have := HLN.out.2; simp; omega
            have hikn : (i : Int) < (kn : Int) := by have := HLN.out.2; omega
            obtain ⟨b1, b2, b3, b4, b5, b6⟩ := HBASE.out _ HF.out
            obtain ⟨g, rfl, -, p0⟩ := nodes_at (lies_node.1 b1).2.2.1 i hik
            obtain ⟨c, hc1⟩ : ∃ c, c = kids[i] := ⟨_, rfl⟩
            rw [← hc1] at p0 hs
            have hmem : c ∈ kids := by rw [hc1]; exact List.getElem_mem _
            obtain ⟨h', hh'⟩ : ∃ h', h = h' + 1 := by
              cases h with
              | zero => have := (ok_zero.1 HK.out).2; simp only [MT.kids] at this; rw [this] at hmem; cases hmem
              | succ h' => exact ⟨h', rfl⟩
            have hdr : Fr (fun _ => False) wr wr.drew := (Fr.refl _ _).drew
            have hb := HBASE.out wr.drew (HF.out.trans' (hdr.mono fun _ _ h => h.elim))
            have hrec := HIH.out h' (by omega) c st1 (deep + 1) wr.drew (by rw [← hs]; exact HGS.out) (liesAll_mem (lies_node.1 hb.1).2.2.2 hmem) (by rw [hh'] at HK; exact ((ok_node.1 HK.out).2.2 c hmem).2) (by omega) (fun a ha => HOFF.out a (by
              obtain ⟨A, B', e⟩ := List.append_of_mem hmem
              rw [cnt_node, e, cnts_append, cnts_cons]; omega)) (HQ.out _ _ _ HINV.out hdr) hb.2.2.2.2.2 hb.2.2.1 hb.2.2.2.1 hb.2.2.2.2.1
            rw [← hs] at hrec
            rw [show ((deep + 1 : Nat) : Int) = (deep : Int) + 1 by omega] at hrec
            have HREC := Lib.hid hrec
            clear hrec hb b1 b2 b3 b4 b5 b6 hs hc1 hmem hh' hdr hik
            go_wp2_with fail
            rotate_left
            · rename_i hx; rw [hkn0] at hx; cases hx
            go_region_with (go_at_call 50; refine HREC.out.mono ?_; rintro e w2 ⟨rfl, hinv2, hf2⟩)
            all_goals
              go_wp2_with fail
              go_meet
              exact ⟨hinv2, (HF.out.trans' ((Fr.refl _ _).drew)).trans' hf2⟩
        case rest =>
          obtain ⟨hinv2, hf2⟩ := hcut
          obtain ⟨b1, b2, b3, b4, b5, b6⟩ := HBASE.out _ hf2
          have hdr : Fr (fun _ => False) wc wc.drew := (Fr.refl _ _).drew
          have hbd := HBASE.out wc.drew (hf2.trans' (hdr.mono fun _ _ h => h.elim))
          have q4 := blk_cell b2 0
          have q5 := blk_cell b5 0
          simp only [List.getElem?_cons_zero] at q4 q5
          have HF2 := Lib.hid hf2
          have HINV2 := Lib.hid hinv2
          rcases HRUN2.out with ⟨hil, hrun⟩ | ⟨hil, hs⟩
          · have hiln : (i : Int) < (ln : Int) := by have := HLN.out.1; omega
            obtain ⟨g, rfl, -, p0, p1⟩ := pairs_at (lies_node.1 b1).2.1 i hil
            obtain ⟨p, hp⟩ : ∃ p, p = l[i] := ⟨_, rfl⟩
            rw [← hp] at p0 p1 hrun
            have hcall := HPP.out st2 wc.drew p (HQ.out _ _ _ hinv2 hdr) (good_runW HGP.out.1 HGP.out.2 deep _ _ _ (by rw [hrun]; exact HGF.out)) hbd.2.2.2.2.2
            have HCALL := Lib.hid hcall
            have HRUN := Lib.hid hrun
            clear hcall hrun hp hbd hdr b1 b2 b3 b4 b5 b6 hf2 hinv2 q1 q2 q3 hil
            go_wp2_with fail
            go_region_with (go_at_call 29; refine HCALL.out.mono ?_; rintro e w3 ⟨rfl, hinv3, hf3⟩; have HINV3 := Lib.hid hinv3; have HF3 := Lib.hid hf3; clear hinv3 hf3)
            all_goals
              go_wp2_with fail
              go_roundw
              case rel => exact ⟨i + 1, _, rfl, (HF2.out.trans' ((Fr.refl _ _).drew)).trans' HF3.out, HINV3.out, .inl ⟨by omega, HRUN.out⟩⟩
              case measure => simp [intOf]; omega
          · subst hs
            have hiln : ¬ (i : Int) < (ln : Int) := by omega
            subst hil
            clear hbd hdr b1 b2 b3 b4 b5 b6 hf2 hinv2 q1 q2 q3
            go_wp2_with fail
            go_roundw
            case rel => exact ⟨i + 1, _, rfl, HF2.out, HINV2.out, .inr ⟨rfl, rfl⟩⟩
            case measure => simp [intOf]
      · clear hf hinv b1 b2 b3 b4 b5 b6
        have hc : ¬ ((ln + 1 : Nat) : Int) < (ln : Int) + 1 := by omega
        go_wp2_with fail
        go_end0
        exact ⟨rfl, HINV.out, HF.out⟩
end
end Go.Proofs.Ytaopiolbjnnnfaa
