/-
  TreePlays's walk.
-/
import Derived.Test.YtaopiolbjnnnfaaDuet
import Derived.Test.YtaopiolbjnnnfaaOps
import Derived.Deep.RegionHeld3
namespace Go.Proofs.Ytaopiolbjnnnfaa
open Go.RowKit

def PlyRel (w : World) (tb rb ub qb l1 l2 : Nat) (i : Value) (wr : World) : Prop := ∃ (k : Nat) (s1 s2 : List KV), i = .int .i64 k ∧ (k ≤ l1 ∨ k ≤ l2) ∧ s1.length ≤ k ∧ s2.length ≤ k ∧ Plays w tb rb ub qb s1 s2 wr

theorem play_step2 {w wc : World} {tb rb ub qb : Nat} {s1 s2 : List KV} (kind n : Int) (key : ByteArray) (h : Plays w tb rb ub qb s1 s2 wc) (hs : (s2.length + 1) * 24 ≤ 140737488355328) :
    Calls Try.prog 12 #[.pointer (some ⟨ub, 0, none⟩), .pointer (some ⟨qb, 0, none⟩), .agg #[.int .i64 kind, .int .i64 n, .string key]] wc
      (fun e wd => e = .returned (.bool true) ∧ ∃ s', s'.length ≤ s2.length + 1 ∧ Plays w tb rb ub qb s1 s' wd) := by
  refine (play_step kind n key h.swap hs).mono ?_
  rintro e wd ⟨rfl, s', hl, h'⟩
  exact ⟨rfl, s', hl, h'.swap⟩

def AllAt (n : Nat) (s : List KV) (w : World) (e : Ending) (w' : World) : Prop := ∃ ao c, e = .returned (.slice ao n c) ∧ w'.ownsRow 0 34 2 (.slice ao n c) n (pcells s) ∧ Fr (fun _ => False) w w'

theorem all_at {n : Nat} {s : List KV} {w w' : World} {e : Ending} (h : AllPost s w e w') (hn : n = s.length) : AllAt n s w e w' := by
  subst hn
  obtain ⟨sv, rfl, hrow, hf⟩ := h
  obtain ⟨ao, c, rfl, -⟩ := owns_form (ownsRow_zero hrow)
  exact ⟨ao, c, rfl, ownsRow_zero hrow, hf⟩

set_option maxHeartbeats 8000000 in
set_option maxRecDepth 100000 in
theorem ply_walk (ao bo : Option Addr) (cap cap2 : Nat) (os us : List OpV) (w : World) (ho : OpsAt w ao os) (hu : OpsAt w bo us) (hl : os.length * 32 ≤ 140737488351232) (hl2 : us.length * 32 ≤ 140737488351232) :
    Calls Try.prog 4 #[.slice ao os.length cap, .slice bo us.length cap2] w (TruePost w) := by
  have HO := Lib.hid ho
  have HU := Lib.hid hu
  obtain ⟨ln, hln⟩ : ∃ ln, ln = os.length := ⟨_, rfl⟩
  obtain ⟨un, hun⟩ : ∃ un, un = us.length := ⟨_, rfl⟩
  rw [← hln] at hl ⊢
  rw [← hun] at hl2 ⊢
  have HLN := Lib.hid hln
  have HUN := Lib.hid hun
  clear ho hu hln hun
  go_enter Try.func4, Try.ntmps4
  go_wp2_with fail
  refine (new_held w).mono ?_
  rintro e w1 ⟨tb, F, rfl, h1, f1, t1, n1⟩
  have H1 := Lib.hid h1
  have F1 := Lib.hid f1
  have N1 := Lib.hid n1
  clear h1 f1 t1 n1
  go_wp2_with fail
  refine (new_held w1).mono ?_
  rintro e w2 ⟨ub, G, rfl, h2, f2, t2, n2⟩
  have hp := plays_made H1.out F1.out N1.out h2 f2 n2
  obtain ⟨rb, hrb⟩ : ∃ rb, rb = w2.heap.size := ⟨_, rfl⟩
  rw [← hrb] at hp
  have HP := Lib.hid hp
  have HRB := Lib.hid hrb
  clear h2 f2 t2 n2 hp hrb
  go_wp2_with fail
  simp only [← HRB.out]
  refine (knows_walk _).mono ?_
  rintro e w3 ⟨rfl, f3⟩
  have HP3 := Lib.hid (HP.out.fr f3)
  clear f3
  go_wp2_with fail
  go_loopw [9] (fun i wr => PlyRel w tb rb ub (rb + 1) ln un i wr) (fun i _ => ln + un - (intOf i).toNat)
  case atStart => exact ⟨0, [], [], rfl, .inl (by omega), Nat.le_refl _, Nat.le_refl _, HP3.out⟩
  case round =>
    obtain ⟨k, s1, s2, rfl, hk, hs1, hs2, hst⟩ := hrel
    have hkb : k ≤ 4398046511104 := by omega
    have hk0 : (0 : Int) ≤ (k : Int) := by omega
    by_cases hlt : k < ln
    · have hlt3 : (k : Int) < (ln : Int) := by omega
      have ck : k < os.length := by rw [← HLN.out]; exact hlt
      obtain ⟨cb, coff, rfl⟩ := HO.out.addr (by omega)
      obtain ⟨c0, c1, c2⟩ := (HO.out.fr hst.frame).cells ck
      obtain ⟨ckey, chkey⟩ : ∃ key, key = os[k].key := ⟨_, rfl⟩
      obtain ⟨cn, chn⟩ : ∃ n, n = os[k].n := ⟨_, rfl⟩
      obtain ⟨ckind, chkind⟩ : ∃ kind, kind = os[k].kind := ⟨_, rfl⟩
      rw [← chkind] at c0
      rw [← chn] at c1
      rw [← chkey] at c2
      have HS := Lib.hid (play_step ckind cn ckey hst (by omega))
      clear chkey chn chkind hst ck
      by_cases hlu : k < un
      · have hlu3 : (k : Int) < (un : Int) := by omega
        have dk : k < us.length := by rw [← HUN.out]; exact hlu
        go_wp2_with fail
        refine HS.out.mono ?_
        rintro e w4 ⟨rfl, s1', hs1', h4⟩
        obtain ⟨db, doff, rfl⟩ := HU.out.addr (by omega)
        obtain ⟨d0, d1, d2⟩ := (HU.out.fr h4.frame).cells dk
        obtain ⟨dkey, dhkey⟩ : ∃ key, key = us[k].key := ⟨_, rfl⟩
        obtain ⟨dn, dhn⟩ : ∃ n, n = us[k].n := ⟨_, rfl⟩
        obtain ⟨dkind, dhkind⟩ : ∃ kind, kind = us[k].kind := ⟨_, rfl⟩
        rw [← dhkind] at d0
        rw [← dhn] at d1
        rw [← dhkey] at d2
        have HS2 := Lib.hid (play_step2 dkind dn dkey h4 (by omega))
        clear dhkey dhn dhkind h4 dk c0 c1 c2
        go_wp2_with fail
        refine HS2.out.mono ?_
        rintro e w5 ⟨rfl, s2', hs2', h5⟩
        have H5 := Lib.hid h5
        clear h5 d0 d1 d2
        go_wp2_with fail
        go_roundw
        case rel => exact ⟨k + 1, s1', s2', by go_num, by omega, by omega, by omega, H5.out⟩
        case measure => simp [intOf]; omega
      · have hlu3 : ¬ (k : Int) < (un : Int) := by omega
        go_wp2_with fail
        refine HS.out.mono ?_
        rintro e w4 ⟨rfl, s1', hs1', h4⟩
        have H4 := Lib.hid h4
        clear h4 c0 c1 c2
        go_wp2_with fail
        go_roundw
        case rel => exact ⟨k + 1, s1', s2, by go_num, by omega, by omega, by omega, H4.out⟩
        case measure => simp [intOf]; omega
    · have hlt3 : ¬ (k : Int) < (ln : Int) := by omega
      by_cases hlu : k < un
      · have hlu3 : (k : Int) < (un : Int) := by omega
        have dk : k < us.length := by rw [← HUN.out]; exact hlu
        obtain ⟨db, doff, rfl⟩ := HU.out.addr (by omega)
        obtain ⟨d0, d1, d2⟩ := (HU.out.fr hst.frame).cells dk
        obtain ⟨dkey, dhkey⟩ : ∃ key, key = us[k].key := ⟨_, rfl⟩
        obtain ⟨dn, dhn⟩ : ∃ n, n = us[k].n := ⟨_, rfl⟩
        obtain ⟨dkind, dhkind⟩ : ∃ kind, kind = us[k].kind := ⟨_, rfl⟩
        rw [← dhkind] at d0
        rw [← dhn] at d1
        rw [← dhkey] at d2
        have HS2 := Lib.hid (play_step2 dkind dn dkey hst (by omega))
        clear dhkey dhn dhkind hst dk
        go_wp2_with fail
        refine HS2.out.mono ?_
        rintro e w5 ⟨rfl, s2', hs2', h5⟩
        have H5 := Lib.hid h5
        clear h5 d0 d1 d2
        go_wp2_with fail
        go_roundw
        case rel => exact ⟨k + 1, s1, s2', by go_num, by omega, by omega, by omega, H5.out⟩
        case measure => simp [intOf]; omega
      · have hlu3 : ¬ (k : Int) < (un : Int) := by omega
        obtain ⟨F1, g1⟩ := hst.one.tree
        obtain ⟨F2, g2⟩ := hst.two.tree
        obtain ⟨ro1, rc1, hr1⟩ := hst.one.row
        obtain ⟨ro2, rc2, hr2⟩ := hst.two.row
        obtain ⟨n1, hn1⟩ : ∃ n, n = s1.length := ⟨_, rfl⟩
        obtain ⟨n2, hn2⟩ : ∃ n, n = s2.length := ⟨_, rfl⟩
        have hb1 : n1 ≤ 4398046511104 := by omega
        have hb2 : n2 ≤ 4398046511104 := by omega
        have HA1 := Lib.hid (show ∀ x, Fr (fun _ => False) wr x → Calls Try.prog 11 #[.pointer (some ⟨tb, 0, none⟩)] x (AllAt n1 s1 x) from fun x hf => (all_held x (g1.fr hf (fun _ _ h => h)) (by omega)).mono fun _ _ h => all_at h hn1)
        have HA2 := Lib.hid (show ∀ x, Fr (fun _ => False) wr x → Calls Try.prog 11 #[.pointer (some ⟨ub, 0, none⟩)] x (AllAt n2 s2 x) from fun x hf => (all_held x (g2.fr hf (fun _ _ h => h)) (by omega)).mono fun _ _ h => all_at h hn2)
        have HS1 := Lib.hid (show ∀ x ao c, Fr (fun _ => False) wr x → x.ownsRow 0 34 2 (.slice ao n1 c) n1 (pcells s1) → Calls Try.prog 13 #[.slice ao n1 c, .slice ro1 n1 rc1] x (TruePost x) from fun x ao c hf hx =>
          samepairs_walk ao ro1 n1 c rc1 s1 x hx (by rw [hn1]; exact (hr1.fr hf (fun _ _ h => h)).row) hn1 (by omega))
        have HS2 := Lib.hid (show ∀ x ao c, Fr (fun _ => False) wr x → x.ownsRow 0 34 2 (.slice ao n2 c) n2 (pcells s2) → Calls Try.prog 13 #[.slice ao n2 c, .slice ro2 n2 rc2] x (TruePost x) from fun x ao c hf hx =>
          samepairs_walk ao ro2 n2 c rc2 s2 x hx (by rw [hn2]; exact (hr2.fr hf (fun _ _ h => h)).row) hn2 (by omega))
        have HL1 := Lib.hid (show ∀ x, Fr (fun _ => False) wr x → Calls Try.prog 14 #[.pointer (some ⟨tb, 0, none⟩)] x (fun e w' => e = .returned (.int .i64 (n1 : Nat)) ∧ x = w') from fun x hf => by rw [hn1]; exact len_held x (g1.fr hf (fun _ _ h => h)))
        have HL2 := Lib.hid (show ∀ x, Fr (fun _ => False) wr x → Calls Try.prog 14 #[.pointer (some ⟨ub, 0, none⟩)] x (fun e w' => e = .returned (.int .i64 (n2 : Nat)) ∧ x = w') from fun x hf => by rw [hn2]; exact len_held x (g2.fr hf (fun _ _ h => h)))
        have q1 := blk_cell hr1.blk 0
        have q2 := blk_cell hr2.blk 0
        simp only [List.getElem?_cons_zero, ← hn1, ← hn2] at q1 q2
        have HFR := Lib.hid hst.frame
        clear g1 g2 hr1 hr2 hn1 hn2 hst
        go_wp2_with fail
        go_region_held3 (fun w' => w'.cell? ⟨rb, 0, none⟩ = some (.slice ro1 n1 rc1) ∧ w'.cell? ⟨rb + 1, 0, none⟩ = some (.slice ro2 n2 rc2)) (go_keep)
          (first
            | (go_at_call 11; refine (HA2.out _ X2.out).mono ?_; rintro e x3 ⟨ao2, c2, rfl, hrow, hf⟩; have X3 := Lib.hid (X2.out.trans' hf); have R2 := Lib.hid hrow; have y5 := cell_next X3.out q1; have y6 := cell_next X3.out q2; clear hrow hf)
            | (go_at_call 13; refine (HS2.out _ _ _ X3.out R2.out).mono ?_; rintro e x4 ⟨rfl, hf⟩; have X4 := Lib.hid (X3.out.trans' hf); have y7 := cell_next X4.out q1; have y8 := cell_next X4.out q2; clear hf)
            | (go_at_call 14; have _t := tok; refine (HL2.out _ X4.out).mono ?_; rintro e x6 ⟨rfl, rfl⟩)
            | (go_at_call 11; refine (HA1.out _ (Fr.refl _ _).drew).mono ?_; rintro e x1 ⟨ao1, c1, rfl, hrow, hf⟩; have X1 := Lib.hid (((Fr.refl (fun _ => False) wr).drew).trans' hf); have R1 := Lib.hid hrow; have y1 := cell_next X1.out q1; have y2 := cell_next X1.out q2; clear hrow hf)
            | (go_at_call 13; refine (HS1.out _ _ _ X1.out R1.out).mono ?_; rintro e x2 ⟨rfl, hf⟩; have X2 := Lib.hid (X1.out.trans' hf); have y3 := cell_next X2.out q1; have y4 := cell_next X2.out q2; clear hf)
            | (go_at_call 14; refine (HL1.out _ X4.out).mono ?_; rintro e x5 ⟨rfl, rfl⟩; have tok := X4))
        go_wp2_with fail
        go_ret
        exact ⟨rfl, HFR.out.trans' X4.out⟩
end Go.Proofs.Ytaopiolbjnnnfaa
