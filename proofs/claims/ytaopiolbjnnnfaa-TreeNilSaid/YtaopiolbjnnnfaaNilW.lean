/-
  TreeNil's walk.
-/
import Derived.Test.YtaopiolbjnnnfaaKnows
import Derived.Test.YtaopiolbjnnnfaaNilS
namespace Go.Proofs.Ytaopiolbjnnnfaa
open Go.RowKit

def NilRel (w : World) (t i : Value) (wr : World) : Prop := ∃ k : Nat, i = .int .i64 k ∧ k ≤ 2 ∧ IsNone t wr ∧ Fr (fun _ => False) w wr

set_option maxHeartbeats 4000000 in
set_option maxRecDepth 100000 in
theorem nil_walk (key : ByteArray) (n : Int) (w : World) : Calls Try.prog 7 #[.string key, .int .i64 n] w (TruePost w) := by
  go_enter Try.func7, Try.ntmps7
  go_wp2_with fail
  go_loopw [5, 6] (fun t i wr => NilRel w t i wr) (fun _ i _ => 2 - (intOf i).toNat)
  case atStart => exact ⟨0, rfl, by omega, .inl rfl, Fr.refl _ _⟩
  case round =>
    obtain ⟨k, rfl, hk, hn, hf⟩ := hrel
    have H0 := Lib.hid hn
    have F0 := Lib.hid hf
    clear hn hf
    by_cases hlt : k < 2
    · have hlt2 : (k : Int) < 2 := by omega
      go_wp2_with (first
        | (go_at_call 10; refine (nil_put _ _ H0.out).mono ?_; rintro e w1 ⟨rfl, hf⟩; have H1 := Lib.hid (H0.out.fr hf); have F1 := Lib.hid (F0.out.trans' hf); clear hf)
        | (go_at_call 20; refine (nil_get _ H1.out).mono ?_; rintro e w2 ⟨rfl, hf⟩; have H2 := Lib.hid (H1.out.fr hf); have F2 := Lib.hid (F1.out.trans' hf); clear hf)
        | (go_at_call 15; refine (nil_delete _ H2.out).mono ?_; rintro e w3 ⟨rfl, hf⟩; have H3 := Lib.hid (H2.out.fr hf); have F3 := Lib.hid (F2.out.trans' hf); clear hf)
        | (go_at_call 16; refine (nil_next _ H3.out).mono ?_; rintro e w4 ⟨rfl, hf⟩; have H4 := Lib.hid (H3.out.fr hf); have F4 := Lib.hid (F3.out.trans' hf); clear hf)
        | (go_at_call 17; refine (nil_back _ (H4.out.fr ((Fr.refl _ _).alloc _))).mono ?_; rintro e w5 ⟨rfl, hf⟩; have H5 := Lib.hid (H4.out.fr (((Fr.refl _ _).alloc _).trans' hf)); have F5 := Lib.hid ((F4.out.alloc _).trans' hf); clear hf)
        | (go_at_call 18; refine (nil_shape (H5.out.fr ((Fr.refl _ _).alloc _))).mono ?_; rintro e w6 ⟨rfl, hf⟩; have H6 := Lib.hid (H5.out.fr (((Fr.refl _ _).alloc _).trans' hf)); have F6 := Lib.hid ((F5.out.alloc _).trans' hf); clear hf)
        | (go_at_call 11; refine (nil_all H6.out).mono ?_; rintro e w7 ⟨rfl, hf⟩; have H7 := Lib.hid (H6.out.fr hf); have F7 := Lib.hid (F6.out.trans' hf); clear hf)
        | (go_at_call 14; refine (nil_len H7.out).mono ?_; rintro e w8 ⟨rfl, hf⟩; have F8 := Lib.hid (F7.out.trans' hf); clear hf))
      go_roundw
      case rel => exact ⟨k + 1, by go_num, by omega, .inr ⟨_, rfl, blk_new _ _ _⟩, F8.out.alloc _⟩
      case measure => simp [intOf]; omega
    · have hge : ¬ (k : Int) < 2 := by omega
      go_wp2_with (go_at_call 9; refine (knows_walk _).mono ?_; rintro e w1 ⟨rfl, hf⟩; have F1 := Lib.hid (F0.out.trans' hf); clear hf)
      go_ret
      exact ⟨rfl, F1.out⟩
end Go.Proofs.Ytaopiolbjnnnfaa
