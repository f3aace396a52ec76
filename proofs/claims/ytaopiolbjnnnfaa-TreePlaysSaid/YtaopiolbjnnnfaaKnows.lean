/-
  A tree of the call's own; knows: the least key comes first.
-/
import Derived.Test.YtaopiolbjnnnfaaCall
namespace Go.Proofs.Ytaopiolbjnnnfaa
open Go.RowKit

/-- a tree that the call has made -/
def Own (w wc : World) (tb : Nat) (s : List KV) : Prop := ∃ F, Held wc tb F s ∧ Fr (fun _ => False) w wc ∧ ∀ a, F a → w.heap.size ≤ a

theorem Own.fr {w wc wd : World} {tb : Nat} {s : List KV} (h : Own w wc tb s) (hf : Fr (fun _ => False) wc wd) : Own w wd tb s := by
  obtain ⟨F, a, b, c⟩ := h
  exact ⟨F, a.fr hf (fun _ _ h => h), b.trans' hf, c⟩

theorem Own.leaves {w wc wd : World} {tb : Nat} {F : Nat → Prop} {s' : List KV} (b : Fr (fun _ => False) w wc) (c : ∀ a, F a → w.heap.size ≤ a) (h : Leaves tb F s' wc wd) : Own w wd tb s' := by
  obtain ⟨F', a1, a2, a3⟩ := h
  refine ⟨F', a1, b.trans a2 (fun j hj hF => by have := c j hF; omega), fun a ha => ?_⟩
  by_cases hlt : a < wc.heap.size
  · exact c a (a3 a hlt ha)
  · have := b.size; omega

def OwnPost (o : Option Int) (w : World) (tb : Nat) (s' : List KV) (e : Ending) (wd : World) : Prop :=
  e = .returned (.tuple #[.int .i64 (o.getD 0), .bool o.isSome]) ∧ Own w wd tb s'

theorem own_put {w wc : World} {tb : Nat} {s : List KV} (key : ByteArray) (n : Int) (h : Own w wc tb s) (hs : s.length ≤ 4611686018427387904) :
    Calls Try.prog 10 #[.pointer (some ⟨tb, 0, none⟩), .string key, .int .i64 n] wc (OwnPost (look key s) w tb (put key n s)) := by
  obtain ⟨F, a, b, c⟩ := h
  exact (put_held key n wc a hs).mono fun _ _ ⟨x, y⟩ => ⟨x, Own.leaves b c y⟩

theorem own_delete {w wc : World} {tb : Nat} {s : List KV} (key : ByteArray) (h : Own w wc tb s) (hs : s.length ≤ 4611686018427387904) :
    Calls Try.prog 15 #[.pointer (some ⟨tb, 0, none⟩), .string key] wc (OwnPost (look key s) w tb (del key s)) := by
  obtain ⟨F, a, b, c⟩ := h
  exact (delete_held key wc a hs).mono fun _ _ ⟨x, y⟩ => ⟨x, Own.leaves b c y⟩

theorem own_next {w wc : World} {tb : Nat} {s : List KV} (key : ByteArray) (h : Own w wc tb s) : Calls Try.prog 16 #[.pointer (some ⟨tb, 0, none⟩), .string key] wc (PairPost (nxt key s) wc) := by
  obtain ⟨F, a, -⟩ := h
  exact next_held key wc a
theorem own_back {w wc : World} {tb : Nat} {s : List KV} (key : ByteArray) (h : Own w wc tb s) : Calls Try.prog 17 #[.pointer (some ⟨tb, 0, none⟩), .string key] wc (PairPost (bck key s) wc) := by
  obtain ⟨F, a, -⟩ := h
  exact back_held key wc a
theorem own_len {w wc : World} {tb : Nat} {s : List KV} (h : Own w wc tb s) : Calls Try.prog 14 #[.pointer (some ⟨tb, 0, none⟩)] wc fun e w' => e = .returned (.int .i64 (s.length : Nat)) ∧ wc = w' := by
  obtain ⟨F, a, -⟩ := h
  exact len_held wc a
theorem own_all {w wc : World} {tb : Nat} {s : List KV} (h : Own w wc tb s) (hs : s.length * 32 ≤ 140737488355328) : Calls Try.prog 11 #[.pointer (some ⟨tb, 0, none⟩)] wc (AllPost s wc) := by
  obtain ⟨F, a, -⟩ := h
  exact all_held wc a hs

def OwnMade (w : World) (e : Ending) (wd : World) : Prop := ∃ tb, e = .returned (.pointer (some ⟨tb, 0, none⟩)) ∧ Own w wd tb [] ∧ tb < wd.heap.size ∧ w.heap.size ≤ tb
theorem own_new (w : World) : Calls Try.prog 8 #[] w (OwnMade w) := by
  refine (new_held w).mono ?_
  rintro e w1 ⟨tb, F, rfl, hh, hf, h1, h2⟩
  exact ⟨tb, rfl, ⟨F, hh, hf, h2⟩, hh.lt h1, h2 tb h1⟩

abbrev ka : ByteArray := ⟨#[97]⟩
abbrev kb : ByteArray := ⟨#[98]⟩
abbrev ke : ByteArray := ⟨#[]⟩

theorem know1 : look kb [] = none := by decide
theorem know2 : put kb 1 [] = [(kb, 1)] := by decide
theorem know3 : look ka [(kb, 1)] = none := by decide
theorem know4 : put ka 2 [(kb, 1)] = [(ka, 2), (kb, 1)] := by decide
theorem know5 : nxt ke [(ka, 2), (kb, 1)] = some (ka, 2) := by decide
theorem know6 : look kb [(ka, 2), (kb, 1)] = some 1 := by decide
theorem know7 : del kb [(ka, 2), (kb, 1)] = [(ka, 2)] := by decide

def TruePost (w : World) (e : Ending) (w' : World) : Prop := e = .returned (.bool true) ∧ Fr (fun _ => False) w w'

set_option maxHeartbeats 2000000 in
set_option maxRecDepth 100000 in
theorem knows_walk (w : World) : Calls Try.prog 9 #[] w (TruePost w) := by
  go_enter Try.func9, Try.ntmps9
  go_wp2_with fail
  refine (own_new w).mono ?_
  rintro e w1 ⟨tb, rfl, h1, -, -⟩
  have H1 := Lib.hid (own_put kb 1 h1 (by decide))
  rw [know1, know2] at H1
  clear h1
  go_wp2_with fail
  refine H1.out.mono ?_
  rintro e w2 ⟨rfl, h2⟩
  have H2 := Lib.hid (own_put ka 2 h2 (by decide))
  rw [know3, know4] at H2
  clear h2
  go_wp2_with fail
  refine H2.out.mono ?_
  rintro e w3 ⟨rfl, h3⟩
  have H3 := Lib.hid (own_next ke h3)
  rw [know5] at H3
  have K3 := Lib.hid h3
  clear h3
  go_wp2_with fail
  refine H3.out.mono ?_
  rintro e w4 ⟨rfl, hf⟩
  obtain ⟨F, a1, b1, c1⟩ := K3.out.fr hf
  have hal := (Fr.refl (fun _ => False) w4).alloc (.cells #[.string ka, .int .i64 2] 34)
  have H4 := Lib.hid (delete_held kb _ (a1.fr hal (fun _ _ h => h)) (by decide))
  rw [know6, know7] at H4
  obtain ⟨pb, hpb⟩ : ∃ pb, pb = w4.heap.size := ⟨_, rfl⟩
  have HB := Lib.hid (show World.blk (w4.alloc (.cells #[.string ka, .int .i64 2] 34)) pb [.string ka, .int .i64 2] 34 by rw [hpb]; exact blk_new w4 _ _)
  have HN := Lib.hid (show ¬ F pb from fun e => by have := a1.lt e; omega)
  have HO := Lib.hid (show Fr (fun _ => False) w (w4.alloc (.cells #[.string ka, .int .i64 2] 34)) from b1.trans' hal)
  have HC := Lib.hid c1
  have HPB := Lib.hid hpb
  clear hf a1 b1 c1 hal hpb
  go_wp2_with fail
  rw [← HPB.out]
  refine H4.out.mono ?_
  rintro e w5 ⟨rfl, hl⟩
  have hb5 := blk_fr HB.out hl.choose_spec.2.1 HN.out
  have q0 := blk_cell hb5 0
  have q1 := blk_cell hb5 1
  simp only [List.getElem?_cons_succ, List.getElem?_cons_zero] at q0 q1
  have h5 := Own.leaves HO.out HC.out hl
  have H5 := Lib.hid h5
  clear hl hb5 h5
  go_wp2_with (go_at_call 14; refine (own_len H5.out).mono ?_; rintro e w' ⟨rfl, rfl⟩)
  go_ret
  obtain ⟨F, a, b, c⟩ := H5.out
  exact ⟨rfl, b⟩
end Go.Proofs.Ytaopiolbjnnnfaa
