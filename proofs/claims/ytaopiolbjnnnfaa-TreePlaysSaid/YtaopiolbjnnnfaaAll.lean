/-
  All.
-/
import Derived.Test.YtaopiolbjnnnfaaEachA
namespace Go.Proofs.Ytaopiolbjnnnfaa
open Go.RowKit

theorem all1_walk (a b : Value) (w : World) : Calls Try.prog 28 #[a, b] w fun e w' => e = .returned (.tuple #[]) ∧ w = w' := by
  go_enter Try.func28, Try.ntmps28
  go_wp2
  go_end0
  exact ⟨rfl, rfl⟩

/-- what All has gathered -/
def Gathered (ob B : Nat) (st : List KV) (w : World) : Prop := ∃ sv, World.blk w ob [sv] 31 ∧ w.ownsRow B 34 2 sv st.length (pcells st) ∧ ob < B

theorem ownsRow_zero {w : World} {B : Nat} {e : TypeId} {s : Nat} {v : Value} {n : Nat} {xs : List Value} (h : w.ownsRow B e s v n xs) : w.ownsRow 0 e s v n xs := by
  refine ⟨h.1, h.2.imp id ?_⟩
  rintro ⟨g, cap, cur, a, b, c⟩
  exact ⟨g, cap, cur, a, Nat.zero_le _, c⟩

theorem ownsRow_base {w : World} {B : Nat} {e : TypeId} {s : Nat} {v : Value} {n : Nat} {xs : List Value} (h : w.ownsRow 0 e s v n xs) (hb : ∀ g, v.ownBlock = some g → B ≤ g) : w.ownsRow B e s v n xs := by
  refine ⟨h.1, h.2.imp id ?_⟩
  rintro ⟨g, cap, cur, a, -, c⟩
  exact ⟨g, cap, cur, a, hb g (by rw [a]; rfl), c⟩

theorem ownsRow_ge {w : World} {B : Nat} {e : TypeId} {s : Nat} {v : Value} {n : Nat} {xs : List Value} (h : w.ownsRow B e s v n xs) (g : Nat) (hg : v.ownBlock = some g) : B ≤ g := by
  rcases h.2 with ⟨rfl, -⟩ | ⟨g', cap, cur, rfl, b, -⟩
  · cases hg
  · simp only [Value.ownBlock, Option.some.injEq] at hg; omega

set_option maxHeartbeats 2000000 in
set_option maxRecDepth 100000 in
theorem all2_walk (ob B : Nat) (st : List KV) (p : KV) (w : World) (h : Gathered ob B st w) (hg : (st ++ [p]).length * 32 ≤ 140737488355328) (hB : B ≤ w.heap.size) :
    Calls Try.prog 29 #[.agg #[.string p.1, .int .i64 p.2], .pointer (some ⟨ob, 0, none⟩)] w (Out (Gathered ob) (fun a => a = ob) B w (st ++ [p])) := by
  obtain ⟨sv, hb, hrow, hob⟩ := h
  have q0 := blk_cell hb 0
  have q1 := blk_free hb 0
  have q2 := blk_lt hb
  simp only [List.getElem?_cons_zero] at q0
  have hW : Hid (((w.alloc (.cells #[.string p.1, .int .i64 p.2] 34)).alloc (.cells #[.string p.1, .int .i64 p.2] 34)).ownsRow B 34 2 sv st.length (pcells st)) := Lib.hid ((hrow.alloc _).alloc _)
  have hnews : ∀ j u, [Value.string p.1, .int .i64 p.2][j]? = some u → ((w.alloc (.cells #[.string p.1, .int .i64 p.2] 34)).alloc (.cells #[.string p.1, .int .i64 p.2] 34)).cell? ((⟨w.heap.size + 1, 0, none⟩ : Addr).add j) = some u := by
    have := World.news_of_block (blk_new (w.alloc (.cells #[.string p.1, .int .i64 p.2] 34)) [.string p.1, .int .i64 p.2] 34)
    simpa using this
  obtain ⟨i0, hi0, hz0, hz1, hz2⟩ := info_parts info34
  have HN := Lib.hid hnews
  have HB := Lib.hid hb
  have hbb := blk_alloc (blk_alloc hb (.cells #[.string p.1, .int .i64 p.2] 34)) (.cells #[.string p.1, .int .i64 p.2] 34)
  have HBB := Lib.hid hbb
  have hsv : sv.ownBlock ≠ some ob := by
    intro e
    rcases hrow.2 with ⟨rfl, -⟩ | ⟨g, cap, cur, rfl, hbg, -⟩
    · cases e
    · simp only [Value.ownBlock, Option.some.injEq] at e; omega
  have HSV := Lib.hid hsv
  have hlen : (st.length + 1) * 32 ≤ 140737488355328 := by simpa using hg
  have HROW := Lib.hid hrow
  clear hnews hb hbb hsv hrow hg
  go_enter Try.func29, Try.ntmps29
  go_wp2_with (at_builtin; refine wpList_append_lies _ (by rfl) _ _ 31 (by rfl) B 34 i0 _ 2 24 Try.underlying31 hi0 hz0 hz1 hz2 rfl (by decide) sv st.length (pcells st) (by rfl) hW.out ⟨w.heap.size + 1, 0, none⟩ 1 1 [.string p.1, .int .i64 p.2] (by rfl) (by rfl) HN.out (by simp [Value.oneCell']) (by decide) (by unfold maxLen; omega) (by omega) (by simp; omega) (w.heap.size + 2) (by simp) ?_; intro g cap w2 hown hgr hat hlt; have hb2 := blk_grown HBB.out hgr (fun e => HSV.out e.symm); have q3 := blk_cell hb2 0; have q4 := blk_free hb2 0; simp only [List.getElem?_cons_zero] at q3; have HO2 := Lib.hid hown; have HG2 := Lib.hid hgr; have HAT2 := Lib.hid hat; have HB2 := Lib.hid hb2; clear hown hgr hat hb2)
  go_end0
  have hgB := ownsRow_ge HO2.out g rfl
  have hf2 : Fr (fun a => a = ob) w2 (w2.setCell ⟨ob, 0, none⟩ (.slice (some ⟨g, 0, none⟩) (st.length + 1) cap)) := (Fr.refl (fun a => a = ob) w2).setCell (p := ⟨ob, 0, none⟩) (fun _ => rfl) _
  refine ⟨rfl, ⟨_, blk_congr (blk_set HB2.out 0 _) rfl, ?_, hob⟩, ?_⟩
  · have h0 := owns_fr (ownsRow_zero HO2.out) hf2 (fun k hk e => by simp only [Value.ownBlock, Option.some.injEq] at hk; omega)
    refine ownsRow_base (owns_congr h0 (by simp) ?_) (fun k hk => by simp only [Value.ownBlock, Option.some.injEq] at hk; omega)
    rw [pcells_append]; rfl
  · refine Fr.trans' (b := w2) (Fr.grown (((Fr.refl _ _).alloc _).alloc _) HG2.out fun k hk _ => .inr (ownsRow_ge hW.out k hk)) (hf2.mono fun a _ e => .inl e)

end Go.Proofs.Ytaopiolbjnnnfaa
