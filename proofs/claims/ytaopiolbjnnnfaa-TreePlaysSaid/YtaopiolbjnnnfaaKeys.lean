/-
  The order of keys: byte strings, lexicographically. No program.
-/
import Derived.Lib.Bytealg
import Derived.Lib.Strings
namespace Go.Proofs.Ytaopiolbjnnnfaa

theorem cb_self : ∀ a : List UInt8, Lib.compareBytes a a = 0
  | [] => rfl
  | x :: a => by
    unfold Lib.compareBytes
    rw [if_neg (UInt8.lt_irrefl x), if_neg (UInt8.lt_irrefl x)]
    exact cb_self a

theorem cb_eq : ∀ a b : List UInt8, Lib.compareBytes a b = 0 → a = b
  | [], [], _ => rfl
  | [], _ :: _, h => by simp [Lib.compareBytes] at h
  | _ :: _, [], h => by simp [Lib.compareBytes] at h
  | x :: a, y :: b, h => by
    unfold Lib.compareBytes at h
    split at h
    · cases h
    · split at h
      · cases h
      · rename_i h1 h2
        have hxy : x = y := UInt8.le_antisymm (UInt8.not_lt.1 h2) (UInt8.not_lt.1 h1)
        rw [hxy, cb_eq a b h]

theorem cb_swap : ∀ a b : List UInt8, Lib.compareBytes b a = - Lib.compareBytes a b
  | [], [] => rfl
  | [], _ :: _ => by simp [Lib.compareBytes]
  | _ :: _, [] => by simp [Lib.compareBytes]
  | x :: a, y :: b => by
    unfold Lib.compareBytes
    by_cases h1 : x < y
    · have h2 : ¬ y < x := fun h => UInt8.lt_irrefl x (UInt8.lt_trans h1 h)
      rw [if_neg h2, if_pos h1, if_pos h1]; rfl
    · by_cases h2 : y < x
      · rw [if_pos h2, if_neg h1, if_pos h2]
      · rw [if_neg h2, if_neg h1, if_neg h1, if_neg h2]
        exact cb_swap a b

theorem cb_trans : ∀ a b c : List UInt8, Lib.compareBytes a b < 0 → Lib.compareBytes b c < 0 → Lib.compareBytes a c < 0
  | [], [], _, h, _ => by simp [Lib.compareBytes] at h
  | _ :: _, [], _, h, _ => by simp [Lib.compareBytes] at h
  | [], _ :: _, [], _, h => by simp [Lib.compareBytes] at h
  | [], _ :: _, _ :: _, _, _ => by simp [Lib.compareBytes]
  | _ :: _, _ :: _, [], _, h => by simp [Lib.compareBytes] at h
  | x :: a, y :: b, z :: c, h, k => by
    unfold Lib.compareBytes at h k ⊢
    by_cases h1 : x < y
    · by_cases k1 : y < z
      · rw [if_pos (UInt8.lt_trans h1 k1)]; decide
      · rw [if_neg k1] at k
        by_cases k2 : z < y
        · rw [if_pos k2] at k; simp at k
        · have hyz : y = z := UInt8.le_antisymm (UInt8.not_lt.1 k2) (UInt8.not_lt.1 k1)
          subst hyz
          rw [if_pos h1]; decide
    · rw [if_neg h1] at h
      by_cases h2 : y < x
      · rw [if_pos h2] at h; simp at h
      · rw [if_neg h2] at h
        have hxy : x = y := UInt8.le_antisymm (UInt8.not_lt.1 h2) (UInt8.not_lt.1 h1)
        subst hxy
        by_cases k1 : x < z
        · rw [if_pos k1]; decide
        · rw [if_neg k1] at k ⊢
          by_cases k2 : z < x
          · rw [if_pos k2] at k; simp at k
          · rw [if_neg k2] at k ⊢
            exact cb_trans a b c h k

theorem bytesLess_cb : ∀ a b : List UInt8, Op.bytesLess a b = decide (Lib.compareBytes a b < 0)
  | [], [] => rfl
  | [], _ :: _ => by simp [Lib.compareBytes, Op.bytesLess]
  | _ :: _, [] => by simp [Lib.compareBytes, Op.bytesLess]
  | x :: a, y :: b => by
    unfold Lib.compareBytes Op.bytesLess
    by_cases h1 : x < y
    · rw [if_pos h1]; simp [h1]
    · rw [if_neg h1]
      by_cases h2 : y < x
      · rw [if_pos h2]
        have hne : (x == y) = false := by
          rw [beq_eq_false_iff_ne]; intro e; subst e; exact h1 h2
        simp [h1, hne]
      · rw [if_neg h2]
        have hxy : x = y := UInt8.le_antisymm (UInt8.not_lt.1 h2) (UInt8.not_lt.1 h1)
        subst hxy
        simp [h1, bytesLess_cb a b]

/-- how two keys stand -/
def kcmp (a b : ByteArray) : Int := Lib.compareBytes a.data.toList b.data.toList
/-- a is below b -/
def klt (a b : ByteArray) : Prop := kcmp a b < 0
instance (a b : ByteArray) : Decidable (klt a b) := inferInstanceAs (Decidable (kcmp a b < 0))

theorem kcmp_self (a : ByteArray) : kcmp a a = 0 := cb_self _
theorem kcmp_eq {a b : ByteArray} (h : kcmp a b = 0) : a = b := by
  have := cb_eq _ _ h
  obtain ⟨⟨la⟩⟩ := a
  obtain ⟨⟨lb⟩⟩ := b
  simp at this
  rw [this]
theorem kcmp_iff {a b : ByteArray} : kcmp a b = 0 ↔ a = b := ⟨kcmp_eq, fun h => h ▸ kcmp_self a⟩
theorem klt_irrefl (a : ByteArray) : ¬ klt a a := by unfold klt; rw [kcmp_self]; decide
theorem klt_trans {a b c : ByteArray} (h : klt a b) (k : klt b c) : klt a c := cb_trans _ _ _ h k
theorem kcmp_swap (a b : ByteArray) : kcmp b a = - kcmp a b := cb_swap _ _
theorem klt_asymm {a b : ByteArray} (h : klt a b) : ¬ klt b a := fun k => klt_irrefl a (klt_trans h k)
theorem klt_of_not {a b : ByteArray} (h : ¬ klt a b) (hne : a ≠ b) : klt b a := by
  unfold klt at h ⊢
  rw [kcmp_swap]
  have : kcmp a b ≠ 0 := fun e => hne (kcmp_eq e)
  omega
theorem klt_ne {a b : ByteArray} (h : klt a b) : a ≠ b := fun e => klt_irrefl b (e ▸ h)
theorem not_klt_trans {a b c : ByteArray} (h : ¬ klt a b) (k : klt c b) : klt c a := by
  by_cases e : a = b
  · exact e ▸ k
  · exact klt_trans k (klt_of_not h e)
theorem klt_of_lt_of_not {a b c : ByteArray} (h : klt a b) (k : ¬ klt c b) : klt a c := not_klt_trans k h
theorem less_klt (a b : ByteArray) : Op.bytesLess a.toList b.toList = decide (klt a b) := by
  rw [Lib.toList_data, Lib.toList_data, bytesLess_cb]; rfl
theorem beq_keys (a b : ByteArray) : (a.toList == b.toList) = decide (a = b) := by
  rw [Lib.toList_data, Lib.toList_data]
  obtain ⟨⟨la⟩⟩ := a
  obtain ⟨⟨lb⟩⟩ := b
  by_cases h : la = lb
  · subst h; simp
  · have : ¬ ((ByteArray.mk (Array.mk la)) = (ByteArray.mk (Array.mk lb))) := fun e => h (by simpa using e)
    simp [this, h]
end Go.Proofs.Ytaopiolbjnnnfaa
