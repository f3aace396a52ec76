/-
  The calls on no tree, and on one that nobody made.
-/
import Derived.Test.YtaopiolbjnnnfaaSrch
import Derived.Laws.EntriesVeiled
namespace Go.Proofs.Ytaopiolbjnnnfaa
open Go.RowKit

/-- no tree, or one that nobody made -/
def IsNone (p : Value) (w : World) : Prop := p = .pointer none ∨ ∃ b, p = .pointer (some ⟨b, 0, none⟩) ∧ World.blk w b [.pointer none, .int .i64 0] 53

theorem IsNone.fr {p : Value} {w w' : World} (h : IsNone p w) (hf : Fr (fun _ => False) w w') : IsNone p w' := by
  rcases h with h | ⟨b, h, hb⟩
  · exact .inl h
  · exact .inr ⟨b, h, blk_fr hb hf (fun h => h)⟩

theorem none_p {p : Value} {w : World} (h : IsNone p w) : Calls Try.prog 21 #[p] w fun e w' => e = .returned (.bool true) ∧ w = w' := by
  rcases h with rfl | ⟨b, rfl, hb⟩
  · exact none_nil w
  · exact none_bare b _ w hb

def NoPost (w : World) (e : Ending) (w' : World) : Prop := e = .returned (.tuple #[.int .i64 0, .bool false]) ∧ Fr (fun _ => False) w w'
def NoPairPost (w : World) (e : Ending) (w' : World) : Prop := e = .returned (.tuple #[.agg #[.string ⟨#[]⟩, .int .i64 0], .bool false]) ∧ Fr (fun _ => False) w w'
def NoShapePost (w : World) (e : Ending) (w' : World) : Prop := e = .returned (.tuple #[.int .i64 0, .int .i64 0, .int .i64 0, .int .i64 0]) ∧ Fr (fun _ => False) w w'
def NoRowPost (w : World) (e : Ending) (w' : World) : Prop := e = .returned (.slice none 0 0) ∧ Fr (fun _ => False) w w'
def NoLenPost (w : World) (e : Ending) (w' : World) : Prop := e = .returned (.int .i64 0) ∧ Fr (fun _ => False) w w'

theorem nil_put {p : Value} {w : World} (key : ByteArray) (n : Int) (h : IsNone p w) : Calls Try.prog 10 #[p, .string key, .int .i64 n] w (NoPost w) := by
  have H := Lib.hid h
  clear h
  go_enter Try.func10, Try.ntmps10
  go_wp2_with (go_at_call 21; refine (none_p H.out).mono ?_; rintro e w' ⟨rfl, rfl⟩)
  go_ret2
  exact ⟨rfl, Fr.refl _ _⟩

theorem nil_get {p : Value} {w : World} (key : ByteArray) (h : IsNone p w) : Calls Try.prog 20 #[p, .string key] w (NoPost w) := by
  have H := Lib.hid h
  clear h
  go_enter Try.func20, Try.ntmps20
  go_wp2_with (go_at_call 21; refine (none_p H.out).mono ?_; rintro e w' ⟨rfl, rfl⟩)
  go_ret2
  exact ⟨rfl, Fr.refl _ _⟩

set_option maxRecDepth 100000 in
theorem nil_delete {p : Value} {w : World} (key : ByteArray) (h : IsNone p w) : Calls Try.prog 15 #[p, .string key] w (NoPost w) := by
  have H := Lib.hid h
  clear h
  go_enter Try.func15, Try.ntmps15
  go_wp2_with (go_at_call 20; refine (nil_get key H.out).mono ?_; rintro e w' ⟨rfl, hf⟩; have HF := Lib.hid hf; clear hf)
  go_ret2
  exact ⟨rfl, HF.out⟩

theorem nil_len {p : Value} {w : World} (h : IsNone p w) : Calls Try.prog 14 #[p] w (NoLenPost w) := by
  have H := Lib.hid h
  clear h
  go_enter Try.func14, Try.ntmps14
  go_wp2_with (go_at_call 21; refine (none_p H.out).mono ?_; rintro e w' ⟨rfl, rfl⟩)
  go_ret
  exact ⟨rfl, Fr.refl _ _⟩

theorem nil_next {p : Value} {w : World} (key : ByteArray) (h : IsNone p w) : Calls Try.prog 16 #[p, .string key] w (NoPairPost w) := by
  have h1 := h.fr ((Fr.refl (fun _ => False) w).alloc (.cells #[.string ⟨#[]⟩, .int .i64 0] 34))
  have H := Lib.hid h1
  clear h h1
  go_enter Try.func16, Try.ntmps16
  go_wp2_with (go_at_call 21; refine (none_p H.out).mono ?_; rintro e w' ⟨rfl, rfl⟩)
  refine bodyPost_ret (v := .tuple #[.agg #[.string ⟨#[]⟩, .int .i64 0], .bool false]) (by simp [results, Try.results16, go_sem]) rfl ⟨rfl, ?_⟩
  exact (Fr.refl _ _).alloc _

theorem nil_back {p : Value} {w : World} (key : ByteArray) (h : IsNone p w) : Calls Try.prog 17 #[p, .string key] w (NoPairPost w) := by
  have h1 := h.fr ((Fr.refl (fun _ => False) w).alloc (.cells #[.string ⟨#[]⟩, .int .i64 0] 34))
  have H := Lib.hid h1
  clear h h1
  go_enter Try.func17, Try.ntmps17
  go_wp2_with (go_at_call 21; refine (none_p H.out).mono ?_; rintro e w' ⟨rfl, rfl⟩)
  refine bodyPost_ret (v := .tuple #[.agg #[.string ⟨#[]⟩, .int .i64 0], .bool false]) (by simp [results, Try.results17, go_sem]) rfl ⟨rfl, ?_⟩
  exact (Fr.refl _ _).alloc _

set_option maxRecDepth 100000 in
theorem nil_each {p : Value} {w : World} (f g : Fn) (fc fd gc gd : Array Value) (h : IsNone p w) : Calls Try.prog 27 #[p, .func f fc fd, .func g gc gd] w (fun e w' => e = .returned (.tuple #[]) ∧ Fr (fun _ => False) w w') := by
  have hmf : ∀ (fn : Fn) (first cap : Array Value) (w : World), (Instr.makeFunc fn first cap).run Try.prog w = .ok (.func fn first cap) w := fun _ _ _ _ => rfl
  have H := Lib.hid h
  clear h
  go_enter Try.func27, Try.ntmps27
  go_wp2_with (go_at_call 21; refine (none_p (H.out.fr ((((Fr.refl (fun _ => False) w).alloc _).alloc _).alloc _))).mono ?_; rintro e w' ⟨rfl, rfl⟩)
  go_end0
  exact ⟨rfl, (((Fr.refl _ _).alloc _).alloc _).alloc _⟩

def NoEach (w : World) (e : Ending) (w' : World) : Prop := e = .returned (.tuple #[]) ∧ Fr (fun _ => False) w w'

theorem nil_all {p : Value} {w : World} (h : IsNone p w) : Calls Try.prog 11 #[p] w (NoRowPost w) := by
  have hmf : ∀ (fn : Fn) (first cap : Array Value) (w : World), (Instr.makeFunc fn first cap).run Try.prog w = .ok (.func fn first cap) w := fun _ _ _ _ => rfl
  have hb := blk_new w [.slice none 0 0] 31
  have HB := Lib.hid hb
  have H := Lib.hid h
  clear h hb
  go_enter Try.func11, Try.ntmps11
  go_wp2_with (go_at_call 27; refine (nil_each _ _ _ _ _ _ (H.out.fr ((Fr.refl (fun _ => False) w).alloc _))).mono ?_; rintro e w' ⟨rfl, hf⟩; have q0 := blk_cell (blk_fr HB.out hf (fun h => h)) 0; simp only [List.getElem?_cons_zero] at q0; have HF := Lib.hid hf; clear hf)
  go_ret
  exact ⟨rfl, ((Fr.refl (fun _ => False) w).alloc _).trans' HF.out⟩
end Go.Proofs.Ytaopiolbjnnnfaa
