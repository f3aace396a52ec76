/-
  The document's own tree: find's callers that only read; rows put together.
-/
import Derived.Test.YtaopiolbjnnnfaaRefF
import Derived.Test.YtaopiolbjnnnfaaBack
import Derived.Test.YtaopiolbjnnnfaaGet
import Derived.Test.YtaopiolbjnnnfaaAll
namespace Go.Proofs.Ytaopiolbjnnnfaa
section
open Go.RowKit

/-- where a key stands in a row, with what find says there -/
theorem find_cut (rb : Nat) (sv : Value) (s : List KV) (key : ByteArray) (w : World) (h : RefAt w rb sv s) (hs : s.length ≤ 4611686018427387904) (hr : Rising s) :
    (look key s = none ∧ ∃ L R, s = L ++ R ∧ L = lo key s ∧ R = hi key s ∧ Calls Try.prog 51 #[.pointer (some ⟨rb, 0, none⟩), .string key] w (FindPost L.length false w)) ∨
    (∃ n L R, look key s = some n ∧ s = L ++ (key, n) :: R ∧ L = lo key s ∧ R = hi key s ∧ Calls Try.prog 51 #[.pointer (some ⟨rb, 0, none⟩), .string key] w (FindPost L.length true w)) := by
  have h1 : ∀ p ∈ lo key s, klt p.1 key := fun p hp => by simpa using (List.mem_filter.1 hp).2
  have h2 : ∀ p ∈ hi key s, klt key p.1 := fun p hp => by simpa using (List.mem_filter.1 hp).2
  rcases rising_cut (key := key) hr with ⟨a, e⟩ | ⟨n, a, e⟩
  · exact .inl ⟨a, _, _, e, rfl, rfl, find_walk rb sv s _ _ false key w h hs e h1 (.inl ⟨rfl, h2⟩)⟩
  · exact .inr ⟨n, _, _, a, e, rfl, rfl, find_walk rb sv s _ _ true key w h hs e h1 (.inr ⟨rfl, n, _, rfl⟩)⟩

set_option maxHeartbeats 2000000 in
set_option maxRecDepth 100000 in
theorem refget_walk (rb : Nat) (sv : Value) (s : List KV) (key : ByteArray) (w : World) (h : RefAt w rb sv s) (hs : s.length ≤ 4611686018427387904) (hr : Rising s) :
    Calls Try.prog 32 #[.pointer (some ⟨rb, 0, none⟩), .string key] w (GotPost (look key s) w) := by
  rcases find_cut rb sv s key w h hs hr with ⟨a, L, R, e, -, -, hc⟩ | ⟨n, L, R, a, e, -, -, hc⟩
  · rw [a]
    have HC := Lib.hid hc
    clear hc e a h hr hs
    go_enter Try.func32, Try.ntmps32
    go_wp2_with (go_at_call 51; refine HC.out.mono ?_; rintro e w1 ⟨rfl, hf⟩; have HF := Lib.hid hf; clear hf)
    go_ret2
    exact ⟨rfl, HF.out⟩
  · rw [a]
    have HC := Lib.hid hc
    obtain ⟨ao, c, rfl, -, -, -, -, -⟩ := owns_form h.row
    have hLn : L.length < s.length := by rw [e]; simp
    obtain ⟨i, hi⟩ : ∃ i, i = L.length := ⟨_, rfl⟩
    rw [← hi] at hc
    have HC := Lib.hid hc
    obtain ⟨ln, hln⟩ : ∃ ln, ln = s.length := ⟨_, rfl⟩
    have hil : (i : Int) < (ln : Int) := by omega
    rw [← hln] at h
    have HH := Lib.hid h
    have HI := Lib.hid hi
    have HE := Lib.hid e
    have HLN := Lib.hid hln
    clear hc e a h hr hs hi hLn hln
    go_enter Try.func32, Try.ntmps32
    go_wp2_with (go_at_call 51; refine HC.out.mono ?_; rintro e w1 ⟨rfl, hf⟩
                 have h1 := HH.out.fr hf (fun _ _ h => h)
                 have q0 := blk_cell h1.blk 0
                 simp only [List.getElem?_cons_zero] at q0
                 obtain ⟨g, rfl, p0, p1⟩ := row_at h1.row rfl i (by rw [HE.out, HI.out]; simp)
                 simp only [HE.out, HI.out] at p0 p1
                 rw [List.getElem_append_right (Nat.le_refl _)] at p0 p1
                 simp only [Nat.sub_self, List.getElem_cons_zero] at p0 p1
                 simp only [← HI.out] at p0 p1
                 have HF := Lib.hid hf; clear hf h1)
    go_ret2
    exact ⟨rfl, HF.out⟩
end

section
open Go.RowKit

set_option maxHeartbeats 2000000 in
set_option maxRecDepth 100000 in
theorem refnext_at (rb : Nat) (ao : Option Addr) (ln c i j : Nat) (there : Bool) (key : ByteArray) (s : List KV) (w : World) (h : RefAt w rb (.slice ao ln c) s) (hs : s.length ≤ 4611686018427387) (hln : ln = s.length) (hi : there = false ∧ i = j ∨ there = true ∧ i = j + 1) (hj : j ≤ s.length)
    (hc : Calls Try.prog 51 #[.pointer (some ⟨rb, 0, none⟩), .string key] (w.alloc (.cells #[.string ⟨#[]⟩, .int .i64 0] 64)) (FindPost j there (w.alloc (.cells #[.string ⟨#[]⟩, .int .i64 0] 64)))) :
    Calls Try.prog 33 #[.pointer (some ⟨rb, 0, none⟩), .string key] w (PairPost s[i]? w) := by
  obtain ⟨nb, hnb⟩ : ∃ nb, nb = w.heap.size := ⟨_, rfl⟩
  have hjj : j ≤ 4611686018427387 := by omega
  have hba : World.blk (w.alloc (.cells #[.string ⟨#[]⟩, .int .i64 0] 64)) nb [.string ⟨#[]⟩, .int .i64 0] 64 := by rw [hnb]; exact blk_new w _ _
  have hfa : Fr (fun _ => False) w (w.alloc (.cells #[.string ⟨#[]⟩, .int .i64 0] 64)) := (Fr.refl _ _).alloc _
  have hha := h.fr hfa (fun _ _ h => h)
  have hnr : nb ≠ rb := fun e => by have := blk_lt h.blk; omega
  have hno : (Value.slice ao ln c).ownBlock ≠ some nb := fun e => by have := owns_lt h.row e; omega
  have HBA := Lib.hid hba
  have HFA := Lib.hid hfa
  have HHA := Lib.hid hha
  have HLN := Lib.hid hln
  have HC := Lib.hid hc
  have HNB := Lib.hid hnb
  have hlns : ln ≤ 4611686018427387 := by omega
  by_cases hin : i < s.length
  · obtain ⟨m, hm⟩ : ∃ m, m = s[i] := ⟨_, rfl⟩
    have hsm : s[i]? = some m := by rw [hm, List.getElem?_eq_getElem hin]
    rw [hsm]
    have HM := Lib.hid (show ∃ h : i < s.length, s[i] = m from ⟨hin, hm.symm⟩)
    have hil : (i : Int) < (ln : Int) := by omega
    rcases hi with ⟨rfl, rfl⟩ | ⟨rfl, rfl⟩
    · clear h hc hs hj hba hfa hha hln hnb hin hm hsm
      go_enter Try.func33, Try.ntmps33
      go_upto_region 1 with fail
      rw [← HNB.out]
      go_wp2_with (go_at_call 51; refine HC.out.mono ?_; rintro e w1 ⟨rfl, hf⟩
                   have h1 := HHA.out.fr hf (fun _ _ h => h)
                   have hb1 := blk_fr HBA.out hf (fun h => h)
                   obtain ⟨hmi, hme⟩ := HM.out
                   obtain ⟨_, rfl, p0, p1⟩ := row_at h1.row rfl i hmi
                   rw [hme] at p0 p1
                   have q0 := blk_cell h1.blk 0
                   have r0 := blk_cell hb1 0
                   have r1 := blk_cell hb1 1
                   have r2 := blk_free hb1 0
                   have r3 := blk_free hb1 1
                   have r4 := blk_lt hb1
                   simp only [List.getElem?_cons_succ, List.getElem?_cons_zero] at q0 r0 r1
                   have HB1 := Lib.hid hb1
                   have HF := Lib.hid hf; clear hf h1 hb1 hme)
      have hz := blk_set (blk_set HB1.out 0 (.string m.1)) 1 (.int .i64 m.2)
      have z0 := blk_cell hz 0
      have z1 := blk_cell hz 1
      simp only [List.set_cons_zero, List.set_cons_succ, List.getElem?_cons_succ, List.getElem?_cons_zero] at z0 z1
      refine bodyPost_ret (v := .tuple #[.agg #[.string m.1, .int .i64 m.2], .bool true]) (by simp [results, Try.results33, go_sem, z0, z1]) rfl ⟨rfl, ?_⟩
      exact fr_new (rb := nb) ((((HFA.out.trans' HF.out).mono (M' := fun a => a = nb) fun _ _ h => h.elim).setCell (p := ⟨nb, 0, none⟩) (fun _ => rfl) _).setCell (p := ⟨nb, 1, none⟩) (fun _ => rfl) _) HNB.out
    · have wj : IntKind.i64.wrap ((j : Int) + 1) = (j : Int) + 1 := IntWalk.i64_in _ (by omega)
      clear h hc hs hj hba hfa hha hln hnb hin hm hsm
      go_enter Try.func33, Try.ntmps33
      go_upto_region 1 with fail
      rw [← HNB.out]
      go_wp2_with (go_at_call 51; refine HC.out.mono ?_; rintro e w1 ⟨rfl, hf⟩
                   have h1 := HHA.out.fr hf (fun _ _ h => h)
                   have hb1 := blk_fr HBA.out hf (fun h => h)
                   obtain ⟨hmi, hme⟩ := HM.out
                   obtain ⟨_, rfl, p0, p1⟩ := row_at h1.row rfl (j + 1) hmi
                   rw [hme] at p0 p1
                   have q0 := blk_cell h1.blk 0
                   have r0 := blk_cell hb1 0
                   have r1 := blk_cell hb1 1
                   have r2 := blk_free hb1 0
                   have r3 := blk_free hb1 1
                   have r4 := blk_lt hb1
                   simp only [List.getElem?_cons_succ, List.getElem?_cons_zero] at q0 r0 r1
                   have HB1 := Lib.hid hb1
                   have HF := Lib.hid hf; clear hf h1 hb1 hme)
      have hz := blk_set (blk_set HB1.out 0 (.string m.1)) 1 (.int .i64 m.2)
      have z0 := blk_cell hz 0
      have z1 := blk_cell hz 1
      simp only [List.set_cons_zero, List.set_cons_succ, List.getElem?_cons_succ, List.getElem?_cons_zero] at z0 z1
      refine bodyPost_ret (v := .tuple #[.agg #[.string m.1, .int .i64 m.2], .bool true]) (by simp [results, Try.results33, go_sem, z0, z1]) rfl ⟨rfl, ?_⟩
      exact fr_new (rb := nb) ((((HFA.out.trans' HF.out).mono (M' := fun a => a = nb) fun _ _ h => h.elim).setCell (p := ⟨nb, 0, none⟩) (fun _ => rfl) _).setCell (p := ⟨nb, 1, none⟩) (fun _ => rfl) _) HNB.out
  · have hsm : s[i]? = none := List.getElem?_eq_none (by omega)
    rw [hsm]
    have hil : (ln : Int) ≤ (i : Int) := by omega
    rcases hi with ⟨rfl, rfl⟩ | ⟨rfl, rfl⟩
    · clear h hc hs hj hba hfa hha hln hnb hin hsm
      go_enter Try.func33, Try.ntmps33
      go_upto_region 1 with fail
      rw [← HNB.out]
      go_wp2_with (go_at_call 51; refine HC.out.mono ?_; rintro e w1 ⟨rfl, hf⟩
                   have h1 := HHA.out.fr hf (fun _ _ h => h)
                   have hb1 := blk_fr HBA.out hf (fun h => h)
                   have q0 := blk_cell h1.blk 0
                   have r0 := blk_cell hb1 0
                   have r1 := blk_cell hb1 1
                   have r2 := blk_free hb1 0
                   have r3 := blk_free hb1 1
                   have r4 := blk_lt hb1
                   simp only [List.getElem?_cons_succ, List.getElem?_cons_zero] at q0 r0 r1
                   have HB1 := Lib.hid hb1
                   have HF := Lib.hid hf; clear hf h1 hb1)
      have hz := blk_set (blk_set HB1.out 0 (.string ⟨#[]⟩)) 1 (.int .i64 0)
      have z0 := blk_cell hz 0
      have z1 := blk_cell hz 1
      simp only [List.set_cons_zero, List.set_cons_succ, List.getElem?_cons_succ, List.getElem?_cons_zero] at z0 z1
      refine bodyPost_ret (v := .tuple #[.agg #[.string ⟨#[]⟩, .int .i64 0], .bool false]) (by simp [results, Try.results33, go_sem, z0, z1]) rfl ⟨rfl, ?_⟩
      exact fr_new (rb := nb) ((((HFA.out.trans' HF.out).mono (M' := fun a => a = nb) fun _ _ h => h.elim).setCell (p := ⟨nb, 0, none⟩) (fun _ => rfl) _).setCell (p := ⟨nb, 1, none⟩) (fun _ => rfl) _) HNB.out
    · have wj : IntKind.i64.wrap ((j : Int) + 1) = (j : Int) + 1 := IntWalk.i64_in _ (by omega)
      clear h hc hs hj hba hfa hha hln hnb hin hsm
      go_enter Try.func33, Try.ntmps33
      go_upto_region 1 with fail
      rw [← HNB.out]
      go_wp2_with (go_at_call 51; refine HC.out.mono ?_; rintro e w1 ⟨rfl, hf⟩
                   have h1 := HHA.out.fr hf (fun _ _ h => h)
                   have hb1 := blk_fr HBA.out hf (fun h => h)
                   have q0 := blk_cell h1.blk 0
                   have r0 := blk_cell hb1 0
                   have r1 := blk_cell hb1 1
                   have r2 := blk_free hb1 0
                   have r3 := blk_free hb1 1
                   have r4 := blk_lt hb1
                   simp only [List.getElem?_cons_succ, List.getElem?_cons_zero] at q0 r0 r1
                   have HB1 := Lib.hid hb1
                   have HF := Lib.hid hf; clear hf h1 hb1)
      have hz := blk_set (blk_set HB1.out 0 (.string ⟨#[]⟩)) 1 (.int .i64 0)
      have z0 := blk_cell hz 0
      have z1 := blk_cell hz 1
      simp only [List.set_cons_zero, List.set_cons_succ, List.getElem?_cons_succ, List.getElem?_cons_zero] at z0 z1
      refine bodyPost_ret (v := .tuple #[.agg #[.string ⟨#[]⟩, .int .i64 0], .bool false]) (by simp [results, Try.results33, go_sem, z0, z1]) rfl ⟨rfl, ?_⟩
      exact fr_new (rb := nb) ((((HFA.out.trans' HF.out).mono (M' := fun a => a = nb) fun _ _ h => h.elim).setCell (p := ⟨nb, 0, none⟩) (fun _ => rfl) _).setCell (p := ⟨nb, 1, none⟩) (fun _ => rfl) _) HNB.out
end

section
open Go.RowKit

set_option maxHeartbeats 2000000 in
set_option maxRecDepth 100000 in
theorem refback_at (rb : Nat) (ao : Option Addr) (ln c j : Nat) (there : Bool) (key : ByteArray) (s : List KV) (w : World) (h : RefAt w rb (.slice ao ln c) s) (hs : s.length ≤ 4611686018427387) (hln : ln = s.length) (hj : j ≤ s.length)
    (hc : Calls Try.prog 51 #[.pointer (some ⟨rb, 0, none⟩), .string key] (w.alloc (.cells #[.string ⟨#[]⟩, .int .i64 0] 64)) (FindPost j there (w.alloc (.cells #[.string ⟨#[]⟩, .int .i64 0] 64)))) :
    Calls Try.prog 35 #[.pointer (some ⟨rb, 0, none⟩), .string key] w (PairPost (s.take j).getLast? w) := by
  obtain ⟨nb, hnb⟩ : ∃ nb, nb = w.heap.size := ⟨_, rfl⟩
  have hjj : j ≤ 4611686018427387 := by omega
  have hba : World.blk (w.alloc (.cells #[.string ⟨#[]⟩, .int .i64 0] 64)) nb [.string ⟨#[]⟩, .int .i64 0] 64 := by rw [hnb]; exact blk_new w _ _
  have hfa : Fr (fun _ => False) w (w.alloc (.cells #[.string ⟨#[]⟩, .int .i64 0] 64)) := (Fr.refl _ _).alloc _
  have hha := h.fr hfa (fun _ _ h => h)
  have HBA := Lib.hid hba
  have HFA := Lib.hid hfa
  have HHA := Lib.hid hha
  have HC := Lib.hid hc
  have HNB := Lib.hid hnb
  cases j with
  | zero =>
    clear h hc hs hj hba hfa hha hln hnb
    rw [List.take_zero, List.getLast?_nil]
    go_enter Try.func35, Try.ntmps35
    go_upto_region 1 with fail
    rw [← HNB.out]
    go_wp2_with (go_at_call 51; refine HC.out.mono ?_; rintro e w1 ⟨rfl, hf⟩
                 have hb1 := blk_fr HBA.out hf (fun h => h)
                 have r0 := blk_cell hb1 0
                 have r1 := blk_cell hb1 1
                 have r2 := blk_free hb1 0
                 have r3 := blk_free hb1 1
                 have r4 := blk_lt hb1
                 simp only [List.getElem?_cons_succ, List.getElem?_cons_zero] at r0 r1
                 have HB1 := Lib.hid hb1
                 have HF := Lib.hid hf; clear hf hb1)
    have hz := blk_set (blk_set HB1.out 0 (.string ⟨#[]⟩)) 1 (.int .i64 0)
    have z0 := blk_cell hz 0
    have z1 := blk_cell hz 1
    simp only [List.set_cons_zero, List.set_cons_succ, List.getElem?_cons_succ, List.getElem?_cons_zero] at z0 z1
    refine bodyPost_ret (v := .tuple #[.agg #[.string ⟨#[]⟩, .int .i64 0], .bool false]) (by simp [results, Try.results35, go_sem, z0, z1]) rfl ⟨rfl, ?_⟩
    exact fr_new (rb := nb) ((((HFA.out.trans' HF.out).mono (M' := fun a => a = nb) fun _ _ h => h.elim).setCell (p := ⟨nb, 0, none⟩) (fun _ => rfl) _).setCell (p := ⟨nb, 1, none⟩) (fun _ => rfl) _) HNB.out
  | succ k =>
    have hk : k < s.length := by omega
    obtain ⟨m, hm⟩ : ∃ m, m = s[k] := ⟨_, rfl⟩
    have hsm : (s.take (k + 1)).getLast? = some m := by
      rw [List.take_succ_eq_append_getElem hk, List.getLast?_append]; simp [hm]
    rw [hsm]
    have HM := Lib.hid (show ∃ h : k < s.length, s[k] = m from ⟨hk, hm.symm⟩)
    have hil : (k : Int) < (ln : Int) := by omega
    have wk : IntKind.i64.wrap (((k + 1 : Nat) : Int) - 1) = (k : Int) := by rw [IntWalk.i64_in _ (by omega)]; omega
    clear h hc hs hj hba hfa hha hln hnb hm hsm hk
    go_enter Try.func35, Try.ntmps35
    go_upto_region 1 with fail
    rw [← HNB.out]
    go_wp2_with (go_at_call 51; refine HC.out.mono ?_; rintro e w1 ⟨rfl, hf⟩
                 have h1 := HHA.out.fr hf (fun _ _ h => h)
                 have hb1 := blk_fr HBA.out hf (fun h => h)
                 obtain ⟨hmi, hme⟩ := HM.out
                 obtain ⟨_, rfl, p0, p1⟩ := row_at h1.row rfl k hmi
                 rw [hme] at p0 p1
                 have q0 := blk_cell h1.blk 0
                 have r0 := blk_cell hb1 0
                 have r1 := blk_cell hb1 1
                 have r2 := blk_free hb1 0
                 have r3 := blk_free hb1 1
                 have r4 := blk_lt hb1
                 simp only [List.getElem?_cons_succ, List.getElem?_cons_zero] at q0 r0 r1
                 have HB1 := Lib.hid hb1
                 have HF := Lib.hid hf; clear hf h1 hb1 hme)
    have hz := blk_set (blk_set HB1.out 0 (.string m.1)) 1 (.int .i64 m.2)
    have z0 := blk_cell hz 0
    have z1 := blk_cell hz 1
    simp only [List.set_cons_zero, List.set_cons_succ, List.getElem?_cons_succ, List.getElem?_cons_zero] at z0 z1
    refine bodyPost_ret (v := .tuple #[.agg #[.string m.1, .int .i64 m.2], .bool true]) (by simp [results, Try.results35, go_sem, z0, z1]) rfl ⟨rfl, ?_⟩
    exact fr_new (rb := nb) ((((HFA.out.trans' HF.out).mono (M' := fun a => a = nb) fun _ _ h => h.elim).setCell (p := ⟨nb, 0, none⟩) (fun _ => rfl) _).setCell (p := ⟨nb, 1, none⟩) (fun _ => rfl) _) HNB.out
end

section
open Go.RowKit

theorem refnext_walk (rb : Nat) (sv : Value) (s : List KV) (key : ByteArray) (w : World) (h : RefAt w rb sv s) (hs : s.length ≤ 4611686018427387) (hr : Rising s) :
    Calls Try.prog 33 #[.pointer (some ⟨rb, 0, none⟩), .string key] w (PairPost (nxt key s) w) := by
  obtain ⟨ao, c, rfl, -⟩ := owns_form h.row
  have h' := h.fr ((Fr.refl (fun _ => False) w).alloc (.cells #[.string ⟨#[]⟩, .int .i64 0] 64)) (fun _ _ h => h)
  rcases find_cut rb _ s key _ h' (by omega) hr with ⟨-, L, R, e, hL, hR, hc⟩ | ⟨n, L, R, -, e, hL, hR, hc⟩
  · have k := refnext_at rb ao s.length c L.length L.length false key s w h hs rfl (.inl ⟨rfl, rfl⟩) (by rw [e]; simp) hc
    rwa [show s[L.length]? = nxt key s by unfold nxt; rw [← hR, e, List.getElem?_append_right (Nat.le_refl _), Nat.sub_self, List.head?_eq_getElem?]] at k
  · have k := refnext_at rb ao s.length c (L.length + 1) L.length true key s w h hs rfl (.inr ⟨rfl, rfl⟩) (by rw [e]; simp) hc
    rwa [show s[L.length + 1]? = nxt key s by unfold nxt; rw [← hR, e, List.getElem?_append_right (by omega), Nat.add_sub_cancel_left, List.getElem?_cons_succ, List.head?_eq_getElem?]] at k

theorem refback_walk (rb : Nat) (sv : Value) (s : List KV) (key : ByteArray) (w : World) (h : RefAt w rb sv s) (hs : s.length ≤ 4611686018427387) (hr : Rising s) :
    Calls Try.prog 35 #[.pointer (some ⟨rb, 0, none⟩), .string key] w (PairPost (bck key s) w) := by
  obtain ⟨ao, c, rfl, -⟩ := owns_form h.row
  have h' := h.fr ((Fr.refl (fun _ => False) w).alloc (.cells #[.string ⟨#[]⟩, .int .i64 0] 64)) (fun _ _ h => h)
  rcases find_cut rb _ s key _ h' (by omega) hr with ⟨-, L, R, e, hL, hR, hc⟩ | ⟨n, L, R, -, e, hL, hR, hc⟩
  all_goals
    have k := refback_at rb ao s.length c L.length _ key s w h hs rfl (by rw [e]; simp) hc
    rwa [show (s.take L.length).getLast? = bck key s by unfold bck; rw [← hL, e, List.take_left]] at k

theorem cell_next {w w' : World} (hf : Fr (fun _ => False) w w') {p : Addr} {v : Value} (h : w.cell? p = some v) : w'.cell? p = some v :=
  (hf.cell (World.block_lt_of_cell? w _ h) (fun h => h)).trans h

/-! ### rows put together -/

theorem info64 : (Try.prog.info? 64).map (fun i => (i.zero, i.size, i.bytes)) = some (some (.agg #[.string ⟨#[]⟩, .int .i64 0]), 2, 24) := by kernel_rfl

/-- a row that the call gathers -/
structure Gath (w wc : World) (v : Value) (n : Nat) (l : List KV) : Prop where
  len : n = l.length
  row : wc.ownsRow w.heap.size 64 2 v n (pcells l)
  fr : Fr (fun _ => False) w wc

theorem Gath.alloc {w wc : World} {v : Value} {n : Nat} {l : List KV} (h : Gath w wc v n l) (o : Obj) : Gath w (wc.alloc o) v n l := ⟨h.len, h.row.alloc o, h.fr.alloc o⟩
theorem Gath.drew {w wc : World} {v : Value} {n : Nat} {l : List KV} (h : Gath w wc v n l) : Gath w wc.drew v n l := ⟨h.len, h.row, h.fr.drew⟩

theorem Gath.form {w wc : World} {v : Value} {n : Nat} {l : List KV} (h : Gath w wc v n l) : ∃ ao c, v = .slice ao n c := by
  obtain ⟨ao, c, e, -⟩ := owns_form (ownsRow_zero h.row)
  exact ⟨ao, c, e⟩

/-- what is appended: nothing, or cells that lie there -/
def Piece (so : Option Addr) (m : Nat) (l : List KV) (wc : World) : Prop := m = l.length ∧ (m = 0 ∨ ∃ ad, so = some ad ∧ ∀ j u, (pcells l)[j]? = some u → wc.cell? (ad.add j) = some u)

theorem gath_append {w wc : World} {v : Value} {n : Nat} {l l2 : List KV} {so : Option Addr} {m sc : Nat} (h : Gath w wc v n l) (hp : Piece so m l2 wc) (hb : (n + m) * 24 ≤ 140737488355328) :
    ∃ v' w', (Builtin.append_ #[37, 37] 37 #[v, .slice so m sc]).run Try.prog wc = .ok v' w' ∧ Gath w w' v' (n + m) (l ++ l2) ∧ Fr (fun a => v.ownBlock = some a) wc w' := by
  obtain ⟨hm, hs⟩ := hp
  obtain ⟨i0, hi0, hz0, hz1, hz2⟩ := info_parts info64
  have hlen : (pcells l2).length = m * 2 := by rw [pcells_length, hm]
  rcases Nat.eq_zero_or_pos m with h0 | h0
  · obtain ⟨ao, c, rfl, hnc, -⟩ := owns_form (ownsRow_zero h.row)
    subst h0
    refine ⟨_, _, run_append_zero wc 37 37 64 i0 Try.underlying37 hi0 ao so n c sc hnc, ?_⟩
    have : l2 = [] := List.eq_nil_of_length_eq_zero hm.symm
    subst this
    rw [List.append_nil]
    exact ⟨h, Fr.refl _ _⟩
  · rcases hs with hs | ⟨ad, rfl, hc⟩
    · omega
    · obtain ⟨g, cap, w', hr, hown, hg, hat, hlt⟩ := run_append_lies (P := Try.prog) wc 37 37 w.heap.size 64 i0 _ 2 24 Try.underlying37 hi0 hz0 hz1 hz2 rfl (by decide) v n _ h.row ad m sc (pcells l2) hlen hc (pcells_one l2) h0 (by unfold maxLen; omega) hb h.fr.size _ rfl
      refine ⟨_, w', hr, ⟨by rw [h.len, List.length_append, hm], by rw [pcells_append]; exact hown, h.fr.grown hg fun k hk hlt => ?_⟩, Fr.of_grown hg⟩
      have := (h.row.lt k hk).1
      omega

theorem piece_low {w wc : World} {rb ln c i : Nat} {ao : Option Addr} {s : List KV} (h : RefAt w rb (.slice ao ln c) s) (hi : i ≤ s.length) (hf : Fr (fun _ => False) w wc) : Piece ao i (s.take i) wc := by
  refine ⟨by simp; omega, ?_⟩
  rcases Nat.eq_zero_or_pos i with h0 | h0
  · exact .inl h0
  · right
    obtain ⟨ao', c', hv, hnc, hc, hl, hn, ha⟩ := owns_form (owns_fr h.row hf (fun _ _ h => h))
    cases hv
    cases ao with
    | none => have := (hn rfl).1; omega
    | some a =>
      obtain ⟨g, cur, rfl, hg, hcl, hct⟩ := ha a rfl
      refine ⟨_, rfl, blk_piece hg 0 fun j v hj => ?_⟩
      rw [← pcells_take, ← hct, List.take_take, List.getElem?_take] at hj
      split at hj
      · simpa using hj
      · cases hj

theorem piece_high {w wc : World} {rb ln c i : Nat} {ao : Option Addr} {s : List KV} (h : RefAt w rb (.slice ao ln c) s) (hln : ln = s.length) (hi : i ≤ s.length) (hf : Fr (fun _ => False) w wc) :
    Piece (if c = i then ao else ao.map (·.add (i * 2))) (ln - i) (s.drop i) wc := by
  refine ⟨by simp; omega, ?_⟩
  rcases Nat.eq_zero_or_pos (ln - i) with h0 | h0
  · exact .inl h0
  · right
    obtain ⟨ao', c', hv, hnc, hc, hl, hn, ha⟩ := owns_form (owns_fr h.row hf (fun _ _ h => h))
    cases hv
    cases ao with
    | none => have := (hn rfl).1; omega
    | some a =>
      obtain ⟨g, cur, rfl, hg, hcl, hct⟩ := ha a rfl
      rw [if_neg (by omega)]
      refine ⟨⟨g, i * 2, none⟩, by simp [Addr.add]; omega, blk_piece hg (i * 2) fun j v hj => ?_⟩
      rw [← pcells_drop, ← hct, List.getElem?_drop, List.getElem?_take] at hj
      split at hj
      · exact hj
      · cases hj

theorem piece_one {wc : World} {b : Nat} {p : KV} (h : World.blk wc b [.string p.1, .int .i64 p.2] 64) : Piece (some ⟨b, 0, none⟩) 1 [p] wc :=
  ⟨rfl, .inr ⟨_, rfl, blk_piece h 0 fun j v hj => by simpa [pcells] using hj⟩⟩

theorem run_cut_low (ao : Option Addr) (n c i : Nat) (hnc : n ≤ c) (hi : i ≤ n) (ha : ∀ a, ao = some a → ∃ g, a = ⟨g, 0, none⟩) (wx : World) :
    (Instr.slice 37 (.slice ao n c) none (some (.int .i64 (i : Int))) none).run Try.prog wx = .ok (.slice ao i c) wx := by
  obtain ⟨i0, hi0, hz0, hz1, hz2⟩ := info_parts info64
  have h0 : (if c = 0 then ao else ao.map fun x => x.add 0) = ao := by
    split
    · rfl
    · cases ao with
      | none => rfl
      | some a => obtain ⟨g, rfl⟩ := ha a rfl; rfl
  simp [Instr.slice, Instr.sliceBounds, Instr.sliceBound, asIntOf, run_underlying Try.underlying37, sizeOf, typeInfo, hi0, h0]
  intro h; omega

theorem run_cut_high (ao : Option Addr) (n c i : Nat) (hi : i ≤ n) (wx : World) :
    (Instr.slice 37 (.slice ao n c) (some (.int .i64 (i : Int))) none none).run Try.prog wx = .ok (.slice (if c = i then ao else ao.map (·.add (i * 2))) (n - i) (c - i)) wx := by
  obtain ⟨i0, hi0, hz0, hz1, hz2⟩ := info_parts info64
  simp [Instr.slice, Instr.sliceBounds, Instr.sliceBound, asIntOf, run_underlying Try.underlying37, sizeOf, typeInfo, hi0, hz1]
  intro h; omega

theorem gath_zero {w wc : World} {b : Nat} (hf : Fr (fun _ => False) w wc) (hb : World.blk wc b [] 64) (hn : w.heap.size ≤ b) : Gath w wc (.slice (some ⟨b, 0, none⟩) 0 0) 0 [] :=
  ⟨rfl, ownsRow_base (owns_mk hb (Nat.le_refl _) (Nat.zero_le _) rfl rfl) (fun g hg => by cases hg; exact hn), hf⟩

/-- behind the first append, the pair not yet laid .. -/
theorem gath_first {w : World} {i c : Nat} {ao : Option Addr} {L : List KV} (hp : ∀ wc, Fr (fun _ => False) w wc → Piece ao i L wc) (hb : i * 24 ≤ 140737488355328) :
    ∃ v' w', (Builtin.append_ #[37, 37] 37 #[.slice (some ⟨w.heap.size, 0, none⟩) 0 0, .slice ao i c]).run Try.prog (w.alloc (.cells #[] 64)).drew = .ok v' w' ∧ Gath w w' v' i L := by
  have hf : Fr (fun _ => False) w (w.alloc (.cells #[] 64)).drew := ((Fr.refl _ _).alloc _).drew
  obtain ⟨v', w', hr, hg, -⟩ := gath_append (sc := c) (gath_zero hf (show World.blk (w.alloc (.cells #[] 64)).drew w.heap.size [] 64 from blk_new w [] 64) (Nat.le_refl _)) (hp _ hf) (by omega)
  rw [Nat.zero_add, List.nil_append] at hg
  exact ⟨v', w', hr, hg⟩

/-- .. the pair laid behind the row .. -/
theorem gath_first2 {w : World} {i c : Nat} {ao : Option Addr} {L : List KV} (p : KV) (hp : ∀ wc, Fr (fun _ => False) w wc → Piece ao i L wc) (hb : i * 24 ≤ 140737488355328) :
    ∃ v' w', (Builtin.append_ #[37, 37] 37 #[.slice (some ⟨w.heap.size, 0, none⟩) 0 0, .slice ao i c]).run Try.prog ((w.alloc (.cells #[] 64)).alloc (.cells #[.string p.1, .int .i64 p.2] 64)).drew = .ok v' w' ∧ Gath w w' v' i L ∧
      World.blk w' (w.heap.size + 1) [.string p.1, .int .i64 p.2] 64 := by
  have hf : Fr (fun _ => False) w ((w.alloc (.cells #[] 64)).alloc (.cells #[.string p.1, .int .i64 p.2] 64)).drew := (((Fr.refl _ _).alloc _).alloc _).drew
  have h2 : World.blk ((w.alloc (.cells #[] 64)).alloc (.cells #[.string p.1, .int .i64 p.2] 64)).drew (w.heap.size + 1) [.string p.1, .int .i64 p.2] 64 := by
    have := blk_new (w.alloc (.cells #[] 64)) [.string p.1, .int .i64 p.2] 64
    rw [show (w.alloc (.cells #[] 64)).heap.size = w.heap.size + 1 by simp] at this
    exact this
  obtain ⟨v', w', hr, hg, hfa⟩ := gath_append (sc := c) (gath_zero hf (show World.blk ((w.alloc (.cells #[] 64)).alloc (.cells #[.string p.1, .int .i64 p.2] 64)).drew w.heap.size [] 64 from blk_alloc (blk_new w [] 64) _) (Nat.le_refl _)) (hp _ hf) (by omega)
  rw [Nat.zero_add, List.nil_append] at hg
  exact ⟨v', w', hr, hg, blk_fr h2 hfa (fun e => by simp [Value.ownBlock] at e)⟩

/-- .. or ahead of it -/
theorem gath_first3 {w : World} {i c : Nat} {ao : Option Addr} {L : List KV} (p : KV) (hp : ∀ wc, Fr (fun _ => False) w wc → Piece ao i L wc) (hb : i * 24 ≤ 140737488355328) :
    ∃ v' w', (Builtin.append_ #[37, 37] 37 #[.slice (some ⟨w.heap.size + 1, 0, none⟩) 0 0, .slice ao i c]).run Try.prog ((w.alloc (.cells #[.string p.1, .int .i64 p.2] 64)).alloc (.cells #[] 64)).drew = .ok v' w' ∧ Gath w w' v' i L ∧
      World.blk w' w.heap.size [.string p.1, .int .i64 p.2] 64 := by
  have hf : Fr (fun _ => False) w ((w.alloc (.cells #[.string p.1, .int .i64 p.2] 64)).alloc (.cells #[] 64)).drew := (((Fr.refl _ _).alloc _).alloc _).drew
  have h2 : World.blk ((w.alloc (.cells #[.string p.1, .int .i64 p.2] 64)).alloc (.cells #[] 64)).drew w.heap.size [.string p.1, .int .i64 p.2] 64 := blk_alloc (blk_new w [.string p.1, .int .i64 p.2] 64) _
  have h1 : World.blk ((w.alloc (.cells #[.string p.1, .int .i64 p.2] 64)).alloc (.cells #[] 64)).drew (w.heap.size + 1) [] 64 := by
    have := blk_new (w.alloc (.cells #[.string p.1, .int .i64 p.2] 64)) [] 64
    rw [show (w.alloc (.cells #[.string p.1, .int .i64 p.2] 64)).heap.size = w.heap.size + 1 by simp] at this
    exact this
  obtain ⟨v', w', hr, hg, hfa⟩ := gath_append (sc := c) (gath_zero hf h1 (by omega)) (hp _ hf) (by omega)
  rw [Nat.zero_add, List.nil_append] at hg
  exact ⟨v', w', hr, hg, blk_fr h2 hfa (fun e => by simp [Value.ownBlock] at e)⟩

def RefLeaves (rb : Nat) (sv : Value) (s' : List KV) (w w' : World) : Prop :=
  ∃ sv', RefAt w' rb sv' s' ∧ Fr (fun a => a = rb ∨ sv.ownBlock = some a) w w' ∧ ∀ k, sv'.ownBlock = some k → sv.ownBlock = some k ∨ w.heap.size ≤ k

/-- the row stands -/
theorem gath_done {w w' : World} {rb : Nat} {sv v : Value} {s s' : List KV} {n : Nat} (h : RefAt w rb sv s) (hg : Gath w w' v n s') :
    RefLeaves rb sv s' w (w'.setCell ⟨rb, 0, none⟩ v) := by
  have hb := blk_fr h.blk hg.fr (fun h => h)
  have hlt := blk_lt h.blk
  have hrow := ownsRow_zero hg.row
  have hv : ∀ k, v.ownBlock = some k → w.heap.size ≤ k := fun k hk => (hg.row.lt k hk).1
  have hf : Fr (fun a => a = rb) w' (w'.setCell ⟨rb, 0, none⟩ v) := (Fr.refl (fun a => a = rb) w').setCell (p := ⟨rb, 0, none⟩) (fun _ => rfl) v
  refine ⟨v, ⟨blk_set hb 0 v, owns_congr (owns_fr hrow hf fun k hk e => ?_) hg.len rfl⟩, (hg.fr.mono (M' := fun a => a = rb ∨ sv.ownBlock = some a) (fun _ _ h => h.elim)).trans hf (fun j _ e => .inl e), fun k hk => .inr (hv k hk)⟩
  have := hv k hk
  omega
end
end Go.Proofs.Ytaopiolbjnnnfaa
