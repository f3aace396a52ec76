/-
  TreePlays: two trees, by turns: each does what the document says, call by call. For every two rows of calls.
-/
import Derived.Test.YtaopiolbjnnnfaaRows
import Derived.Test.YtaopiolbjnnnfaaPlyW
import Derived.WalkKit
import Derived.ProofKit
import Derived.OpenShut
import Derived.ShutString
import Derived.ChangeOld
import Derived.Below
import Derived.SizedLaws
namespace Go.Proofs.Ytaopiolbjnnnfaa.treePlays
open Go.ChangeShapes Go.WideShapes Go.ChangeAt Go.RowKit
open Go.ChangeMaps (open_string shut_string)

theorem own : ownKnob Try.prog.godebug = none := by kernel_rfl
theorem laidOut : laidOutB Try.prog = true := by kernel_rfl
theorem bytes30 : Try.prog.bytesOf 30 = 32 := by kernel_rfl

set_option maxRecDepth 100000 in
theorem lifted (os : Os) (started : os.Started) (H : Type) (enc : TypeId × Value → H) :
    ReturnsInHanded {} Try.checked os 4 .any (Rows.treePlaysSpec.pre6 enc Try.prog Try.f4 Rows.treePlaysRow.domain false) (Rows.treePlaysSpec.post enc Try.prog Try.f4 false true false false) := by
  refine returnsInHanded_of_change_sized (C := Try.checked) own started (by kernel_rfl) Try.func4
    (ChangeSpec.witness6 (enc := enc) (C := Try.checked) false ⟨#[], #[.slice none 0 0, .slice none 0 0], []⟩ 8 (by kernel_rfl) (by kernel_rfl) (by kernel_rfl) (by kernel_rfl)) ?_
  intro W base args ds gs before hval0 hW hcnd hsz0 _
  have hval : ∀ (j : Nat) t v, Try.f4.params[j]? = some t → args[j]? = some v → Value.okWide Try.prog W .any base t v := hval0
  have hsz : (DataW.weightsEach Try.prog (Try.f4.params.toList ++ Rows.treePlaysSpec.plain.varTypes Try.prog) (ds ++ gs)).all (· ≤ reachBytes) = true := hsz0
  have hW' := hW
  obtain ⟨p, q, hA0, hV, rfl, hfz, hnd⟩ := hW
  have hA : DataW.TrodAll enc Try.prog W 0 (fun _ => true) true Try.f4.params.toList args.toList ds p := hA0
  rw [Try.params4] at hA hval hsz
  obtain ⟨v0, vs0, d0, ds0, p0, q0, hargs, rfl, rfl, h0, r0⟩ := trodAll_cons hA
  obtain ⟨v1, vs1, d1, ds1, p1, q1, rfl, rfl, rfl, h1, r1⟩ := trodAll_cons r0
  obtain ⟨rfl, rfl, rfl⟩ := trodAll_nil r1
  obtain rfl : args = #[v0, v1] := by cases args; simp_all
  obtain ⟨rfl, rfl⟩ := trodVars_none hV
  obtain ⟨a0, len0, cap0, rfl⟩ := okWide_slice Try.underlying22 (hval 0 22 v0 rfl rfl)
  have k0 := h0
  have lt0 : ∀ x ∈ p0, x.block < W.heap.size := by obtain ⟨m, hm⟩ := k0; exact DataW.trod_lt m _ _ _ hm
  obtain ⟨ops0, rfl, o0, wf0, l0, b0⟩ : ∃ ops : List OpV, ops.length = len0 ∧ OpsAt W a0 ops ∧ Wf ops ∧ len0 ≤ maxLen ∧ len0 * 32 ≤ 140737488351232 := by
    obtain ⟨fuel, hf⟩ := h0
    obtain ⟨ops, e, o1, o2, o3, o4⟩ := open_ops (ao := a0) (len := len0) (cap := cap0) (by simpa [Value.cells] using hf)
    refine ⟨ops, e, o1, o2, o3, ?_⟩
    rcases o4 with ⟨-, rfl⟩ | ⟨es, sp, hd, hl⟩
    · omega
    · have hb := sized_slice hsz (j := 0) (t := 22) (e := 30) (elems := es) (spare := sp) rfl (by rw [← hd]; rfl) Try.underlying22
      rw [bytes30] at hb
      simp only [reachBytes] at hb
      omega
  obtain ⟨a1, len1, cap1, rfl⟩ := okWide_slice Try.underlying22 (hval 1 22 v1 rfl rfl)
  have k1 := h1
  have lt1 : ∀ x ∈ p1, x.block < W.heap.size := by obtain ⟨m, hm⟩ := k1; exact DataW.trod_lt m _ _ _ hm
  obtain ⟨ops1, rfl, o1, wf1, l1, b1⟩ : ∃ ops : List OpV, ops.length = len1 ∧ OpsAt W a1 ops ∧ Wf ops ∧ len1 ≤ maxLen ∧ len1 * 32 ≤ 140737488351232 := by
    obtain ⟨fuel, hf⟩ := h1
    obtain ⟨ops, e, o1, o2, o3, o4⟩ := open_ops (ao := a1) (len := len1) (cap := cap1) (by simpa [Value.cells] using hf)
    refine ⟨ops, e, o1, o2, o3, ?_⟩
    rcases o4 with ⟨-, rfl⟩ | ⟨es, sp, hd, hl⟩
    · omega
    · have hb := sized_slice hsz (j := 1) (t := 22) (e := 30) (elems := es) (spare := sp) rfl (by rw [← hd]; rfl) Try.underlying22
      rw [bytes30] at hb
      simp only [reachBytes] at hb
      omega
  clear hA0 hval0
  refine (ply_walk a0 a1 cap0 cap1 ops0 ops1 W o0 o1 b0 b1).mono fun e W' ⟨he, hg⟩ => ?_
  subst he
  have bel := hg.below (Nat.le_refl _) (fun _ _ h => h)
  exact ⟨_, rfl, _, _, _, [], _, [], hW', trodAll_mk1 (shut_bool Try.underlying4 _), (trodAll_cons_mk (Below.trod laidOut (by kernel_rfl) (of_decide_eq_true (by kernel_rfl)) k0 bel lt0) (trodAll_cons_mk (Below.trod laidOut (by kernel_rfl) (of_decide_eq_true (by kernel_rfl)) k1 bel lt1) trodAll_mk0)), rfl, bel.frame _, fun h => by cases h⟩

/-- TreePlays answers true, whatever the calls -/
theorem proved : Rows.TreePlaysSaid :=
  OpenClaim.holds_of_wide 4 Try.f4 rfl rfl rfl rfl rfl rfl rfl ⟨rfl, rfl, rfl, rfl, rfl⟩ rfl rfl rfl rfl rfl (by kernel_rfl) Try.func4 (by kernel_rfl)
    (of_decide_eq_true (by kernel_rfl)) (by unfold Func.isWrapper; rw [if_neg (by decide +kernel)]; exact ⟨rfl, rfl⟩)
    (fun os started H enc _ => lifted os started H enc)
#print axioms proved
end Go.Proofs.Ytaopiolbjnnnfaa.treePlays
