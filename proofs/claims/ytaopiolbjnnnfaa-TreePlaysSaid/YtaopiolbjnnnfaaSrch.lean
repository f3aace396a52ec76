/-
  The search in a node: compare, the binary search, in; and the small questions leaf, full, none.
-/
import Derived.Test.YtaopiolbjnnnfaaRows
import Derived.Test.YtaopiolbjnnnfaaMem
import Derived.Test.YtaopiolbjnnnfaaKeys
import Derived.Deep.LoopGhost
import Derived.Laws.Externs
namespace Go.Proofs.Ytaopiolbjnnnfaa
open Go.RowKit

/-- a key and its number -/
abbrev KV := ByteArray × Int
/-- a row of pairs, cell by cell -/
def pcells (l : List KV) : List Value := l.flatMap fun p => [.string p.1, .int .i64 p.2]

theorem pcells_nil : pcells [] = [] := rfl
theorem pcells_cons (p : KV) (l : List KV) : pcells (p :: l) = .string p.1 :: .int .i64 p.2 :: pcells l := rfl
theorem pcells_append (a b : List KV) : pcells (a ++ b) = pcells a ++ pcells b := by simp [pcells]
theorem pcells_length (l : List KV) : (pcells l).length = l.length * 2 := by
  induction l with
  | nil => rfl
  | cons p l ih => rw [pcells_cons]; simp only [List.length_cons, ih]; omega
theorem pcells_one (l : List KV) : ∀ u ∈ pcells l, u.oneCell' = true := by
  intro u hu
  simp only [pcells, List.mem_flatMap] at hu
  obtain ⟨p, _, hp⟩ := hu
  simp at hp
  rcases hp with rfl | rfl <;> rfl
theorem pcells_key (l : List KV) (i : Nat) (h : i < l.length) : (pcells l)[i * 2]? = some (.string l[i].1) := by
  induction l generalizing i with
  | nil => simp at h
  | cons p l ih =>
    cases i with
    | zero => rfl
    | succ i =>
      rw [pcells_cons, show (i + 1) * 2 = i * 2 + 1 + 1 by omega]
      simp only [List.getElem?_cons_succ, List.getElem_cons_succ]
      exact ih i (by simpa using h)
theorem pcells_num (l : List KV) (i : Nat) (h : i < l.length) : (pcells l)[i * 2 + 1]? = some (.int .i64 l[i].2) := by
  induction l generalizing i with
  | nil => simp at h
  | cons p l ih =>
    cases i with
    | zero => rfl
    | succ i =>
      rw [pcells_cons, show (i + 1) * 2 + 1 = i * 2 + 1 + 1 + 1 by omega]
      simp only [List.getElem?_cons_succ, List.getElem_cons_succ]
      exact ih i (by simpa using h)
theorem pcells_take (l : List KV) (i : Nat) : (pcells l).take (i * 2) = pcells (l.take i) := by
  induction l generalizing i with
  | nil => simp [pcells]
  | cons p l ih =>
    cases i with
    | zero => simp [pcells]
    | succ i => rw [List.take_succ_cons, pcells_cons, pcells_cons, show (i + 1) * 2 = i * 2 + 1 + 1 by omega, List.take_succ_cons, List.take_succ_cons, ih]
theorem pcells_drop (l : List KV) (i : Nat) : (pcells l).drop (i * 2) = pcells (l.drop i) := by
  induction l generalizing i with
  | nil => simp [pcells]
  | cons p l ih =>
    cases i with
    | zero => simp
    | succ i => rw [List.drop_succ_cons, pcells_cons, show (i + 1) * 2 = i * 2 + 1 + 1 by omega, List.drop_succ_cons, List.drop_succ_cons, ih]

/-- the pairs of a slice -/
def World.pairs (w : World) (v : Value) (l : List KV) : Prop := w.ownsRow 0 34 2 v l.length (pcells l)

/-- reading one pair -/
theorem pairs_at {w : World} {ao : Option Addr} {n c : Nat} {l : List KV} (h : World.pairs w (.slice ao n c) l) (i : Nat) (hi : i < l.length) :
    ∃ g, ao = some ⟨g, 0, none⟩ ∧ n = l.length ∧ w.cell? ⟨g, i * 2, none⟩ = some (.string l[i].1) ∧ w.cell? ⟨g, i * 2 + 1, none⟩ = some (.int .i64 l[i].2) := by
  obtain ⟨ao', c', hv, hnc, hc, hl, hn, ha⟩ := owns_form h
  cases hv
  cases ao with
  | none => have := (hn rfl).1; omega
  | some a =>
    obtain ⟨g, cur, rfl, hg, hcl, hct⟩ := ha a rfl
    refine ⟨g, rfl, rfl, ?_, ?_⟩
    · rw [blk_cell hg]
      have := pcells_key l i hi
      rw [← hct, List.getElem?_take] at this
      split at this
      · exact this
      · cases this
    · rw [blk_cell hg]
      have := pcells_num l i hi
      rw [← hct, List.getElem?_take] at this
      split at this
      · exact this
      · cases this

theorem cmpstr_any (a b : ByteArray) (w : World) :
    Calls Try.prog 59 #[.string a, .string b] w fun e w' => e = .returned (.int .i64 (kcmp a b)) ∧ w = w' := by
  have hc : (callFunc 67 #[.string a, .string b]).run Try.prog w = .ok (.value (.int .i64 (kcmp a b))) w := by
    rw [run_callFunc_extern Try.func67 (by kernel_rfl) (by kernel_rfl) (by kernel_rfl) (e := Extern.BytealgCompare.compare) (by kernel_rfl), Lib.run_compareString]
    rfl
  go_enter Try.func59, Try.ntmps59
  go_wp2_with (first | go_in | simp only [hc])
  go_ret
  exact ⟨rfl, rfl⟩

theorem compare_any (k : ByteArray) (n : Int) (key : ByteArray) (w : World) :
    Calls Try.prog 46 #[.agg #[.string k, .int .i64 n], .string key] w fun e w' => e = .returned (.int .i64 (kcmp k key)) ∧ Fr (fun _ => False) w w' := by
  go_enter Try.func46, Try.ntmps46
  go_wp2_with (go_at_call 59; refine (cmpstr_any _ _ _).mono ?_; rintro e w' ⟨rfl, rfl⟩)
  go_ret
  exact ⟨rfl, (Fr.refl _ _).alloc _⟩

/-- where a key stands in a rising row -/
def Place (key : ByteArray) (l : List KV) (i : Nat) (there : Bool) : Prop :=
  i ≤ l.length ∧ (∀ p ∈ l.take i, klt p.1 key) ∧ (∀ p ∈ l.drop i, ¬ klt p.1 key) ∧ there = decide (∃ h : i < l.length, l[i].1 = key)

/-- rising keys -/
def Rising (l : List KV) : Prop := l.Pairwise fun p q => klt p.1 q.1

theorem rising_lt {l : List KV} (h : Rising l) {i j : Nat} (hij : i < j) (hj : j < l.length) : klt l[i].1 l[j].1 :=
  List.pairwise_iff_getElem.1 h i j (by omega) hj hij

def Found (key : ByteArray) (l : List KV) (w : World) (e : Ending) (w' : World) : Prop :=
  ∃ i there, e = .returned (.tuple #[.int .i64 (i : Nat), .bool there]) ∧ Place key l i there ∧ Fr (fun _ => False) w w'

theorem place_of {key : ByteArray} {l : List KV} (hr : Rising l) (i : Nat) (hi : i ≤ l.length) (hlo : ∀ t, (ht : t < i) → klt (l[t]'(by omega)).1 key) (hhi : ∀ h : i < l.length, ¬ klt l[i].1 key) :
    (∀ p ∈ l.take i, klt p.1 key) ∧ (∀ p ∈ l.drop i, ¬ klt p.1 key) := by
  constructor
  · intro p hp
    obtain ⟨t, ht, rfl⟩ := List.mem_iff_getElem.1 hp
    rw [List.getElem_take]
    exact hlo t (by simp at ht; omega)
  · intro p hp
    obtain ⟨t, ht, rfl⟩ := List.mem_iff_getElem.1 hp
    rw [List.getElem_drop]
    simp at ht
    cases t with
    | zero => exact hhi (by omega)
    | succ t => exact fun hk => hhi (by omega) (klt_trans (rising_lt hr (i := i) (j := i + (t + 1)) (by omega) (by omega)) hk)

def Between (key : ByteArray) (l : List KV) (i j : Nat) : Prop :=
  i ≤ j ∧ j ≤ l.length ∧ (∀ t, (ht : t < i) → ∀ h : t < l.length, klt l[t].1 key) ∧ (∀ t, j ≤ t → ∀ h : t < l.length, ¬ klt l[t].1 key)

set_option maxHeartbeats 1000000 in
set_option maxRecDepth 100000 in
theorem bsearch_any (v : Value) (l : List KV) (key : ByteArray) (w : World) (hv : World.pairs w v l) (hr : Rising l) (hb : l.length ≤ 4611686018427387904) :
    Calls Try.prog 47 #[v, .string key, .func (.func 46) #[] #[]] w (Found key l w) := by
  obtain ⟨ao, c, rfl, hnc, hc, hl, hn, ha⟩ := owns_form hv
  clear ha hn hl hc hnc
  have HV := Lib.hid hv
  have HR := Lib.hid hr
  clear hv hr
  go_enter Try.func47, Try.ntmps47
  go_wp2_with fail
  go_loopw [9, 10] (fun a b wr => ∃ i j : Nat, a = .int .i64 i ∧ b = .int .i64 j ∧ Between key l i j ∧ Fr (fun _ => False) w wr) (fun a b _ => (intOf b).toNat - (intOf a).toNat)
  case atStart => exact ⟨0, l.length, rfl, rfl, ⟨Nat.zero_le _, Nat.le_refl _, fun t ht => by omega, fun t h1 h2 => by omega⟩, Fr.refl _ _⟩
  case round =>
    obtain ⟨i, j, rfl, rfl, hbt, hF⟩ := hrel
    have hij := hbt.1
    have hjl := hbt.2.1
    by_cases hlt : i < j
    · have hh1 : i ≤ (i + j) / 2 := by omega
      have hh2 : (i + j) / 2 < j := by omega
      have hh3 : (i + j) / 2 < l.length := by omega
      obtain ⟨g, rfl, _, hk, hnn⟩ := pairs_at (owns_fr HV.out hF (fun _ _ h => h)) ((i + j) / 2) hh3
      obtain ⟨pk, hpk⟩ : ∃ pk, pk = l[(i + j) / 2].1 := ⟨_, rfl⟩
      obtain ⟨pn, hpn⟩ : ∃ pn, pn = l[(i + j) / 2].2 := ⟨_, rfl⟩
      rw [← hpk] at hk
      rw [← hpn] at hnn
      have HBT := Lib.hid hbt
      have HPK := Lib.hid hpk
      clear hbt hpk hpn
      by_cases hcmp : kcmp pk key < 0
      · go_wp2_with (go_at_call 46; refine (compare_any _ _ _ _).mono ?_; rintro e w1 ⟨rfl, hF1⟩)
        go_roundw
        case rel =>
          refine ⟨(i + j) / 2 + 1, j, by go_num, rfl, ⟨by omega, HBT.out.2.1, fun t ht h => ?_, HBT.out.2.2.2⟩, hF.trans' hF1⟩
          by_cases e : t = (i + j) / 2
          · subst e; rw [← HPK.out]; exact hcmp
          · exact klt_trans (rising_lt HR.out (i := t) (j := (i + j) / 2) (by omega) (by omega)) (by rw [← HPK.out]; exact hcmp)
        case measure => simp [intOf]; omega
      · go_wp2_with (go_at_call 46; refine (compare_any _ _ _ _).mono ?_; rintro e w1 ⟨rfl, hF1⟩)
        go_roundw
        case rel =>
          refine ⟨i, (i + j) / 2, rfl, by go_num, ⟨by omega, by omega, HBT.out.2.2.1, fun t ht h => ?_⟩, hF.trans' hF1⟩
          by_cases e : t = (i + j) / 2
          · subst e; rw [← HPK.out]; unfold klt; omega
          · intro hk
            have hx : klt pk key := by rw [HPK.out]; exact klt_trans (rising_lt HR.out (i := (i + j) / 2) (j := t) (by omega) h) hk
            unfold klt at hx
            omega
        case measure => simp [intOf]; omega
    · obtain rfl : i = j := by omega
      have HP := Lib.hid (place_of HR.out i hjl (fun t ht => hbt.2.2.1 t ht (by omega)) (fun h => hbt.2.2.2 i (Nat.le_refl _) h))
      clear hbt
      by_cases hil : i < l.length
      · obtain ⟨g, rfl, _, hk, hnn⟩ := pairs_at (owns_fr HV.out hF (fun _ _ h => h)) i hil
        obtain ⟨pk, hpk⟩ : ∃ pk, pk = l[i].1 := ⟨_, rfl⟩
        obtain ⟨pn, hpn⟩ : ∃ pn, pn = l[i].2 := ⟨_, rfl⟩
        rw [← hpk] at hk
        rw [← hpn] at hnn
        have HPK := Lib.hid hpk
        clear hpk hpn
        go_wp2_with (go_at_call 46; refine (compare_any _ _ _ _).mono ?_; rintro e w1 ⟨rfl, hF1⟩)
        go_ret2
        refine ⟨i, decide (∃ h : i < l.length, l[i].1 = key), ?_, ⟨hjl, HP.out.1, HP.out.2, rfl⟩, hF.trans' hF1⟩
        have hb : (kcmp pk key == 0) = decide (∃ h : i < l.length, l[i].1 = key) := by
          rw [Bool.eq_iff_iff, beq_iff_eq, decide_eq_true_iff, kcmp_iff, HPK.out]
          exact ⟨fun h => ⟨hil, h⟩, fun ⟨_, h⟩ => h⟩
        rw [← hb]
        rfl
      · go_wp2_with fail
        go_ret2
        refine ⟨i, decide (∃ h : i < l.length, l[i].1 = key), ?_, ⟨hjl, HP.out.1, HP.out.2, rfl⟩, hF⟩
        have hb : false = decide (∃ h : i < l.length, l[i].1 = key) := by
          symm; rw [decide_eq_false_iff_not]; exact fun ⟨h, _⟩ => hil h
        rw [← hb]
        rfl

theorem in_any (xb : Nat) (lv kv : Value) (l : List KV) (key : ByteArray) (w : World) (hx : World.blk w xb [lv, kv] 57) (hv : World.pairs w lv l) (hr : Rising l) (hb : l.length ≤ 4611686018427387904) :
    Calls Try.prog 24 #[.pointer (some ⟨xb, 0, none⟩), .string key] w (Found key l w) := by
  have hc := blk_cell hx 0
  obtain ⟨ao, c, hlv, hnc, hc', hl, hn, ha⟩ := owns_form hv
  have HV := Lib.hid hv
  have HR := Lib.hid hr
  subst hlv
  clear hx hv hr ha hn hl hc' hnc
  simp only [List.getElem?_cons_zero] at hc
  go_enter Try.func24, Try.ntmps24
  go_wp2_with (go_at_call 47; refine (bsearch_any _ l key _ HV.out HR.out hb).mono ?_; rintro e w1 ⟨i, there, rfl, hp, hF⟩)
  go_ret2
  exact ⟨i, there, rfl, hp, hF⟩

theorem leaf_any (xb : Nat) (lv : Value) (ao : Option Addr) (n c : Nat) (w : World) (hx : World.blk w xb [lv, .slice ao n c] 57) :
    Calls Try.prog 25 #[.pointer (some ⟨xb, 0, none⟩)] w fun e w' => e = .returned (.bool (decide (n = 0))) ∧ w = w' := by
  have hc := blk_cell hx 1
  simp only [List.getElem?_cons_succ, List.getElem?_cons_zero] at hc
  clear hx
  go_enter Try.func25, Try.ntmps25
  go_wp2
  go_ret
  refine ⟨?_, rfl⟩
  have hb : ((n : Int) == 0) = decide (n = 0) := by rw [Bool.eq_iff_iff, beq_iff_eq, decide_eq_true_iff]; omega
  rw [← hb]
  rfl

theorem full_any (xb : Nat) (kv : Value) (ao : Option Addr) (n c : Nat) (w : World) (hx : World.blk w xb [.slice ao n c, kv] 57) :
    Calls Try.prog 22 #[.pointer (some ⟨xb, 0, none⟩)] w fun e w' => e = .returned (.bool (decide (n = 7))) ∧ w = w' := by
  have hc := blk_cell hx 0
  simp only [List.getElem?_cons_zero] at hc
  clear hx
  go_enter Try.func22, Try.ntmps22
  go_wp2
  go_ret
  refine ⟨?_, rfl⟩
  have hb : ((n : Int) == 7) = decide (n = 7) := by rw [Bool.eq_iff_iff, beq_iff_eq, decide_eq_true_iff]; omega
  rw [← hb]
  rfl

/-- none: of a tree that has a root -/
theorem none_any (tb : Nat) (r : Addr) (n : Value) (w : World) (ht : World.blk w tb [.pointer (some r), n] 53) :
    Calls Try.prog 21 #[.pointer (some ⟨tb, 0, none⟩)] w fun e w' => e = .returned (.bool false) ∧ w = w' := by
  have hc := blk_cell ht 0
  simp only [List.getElem?_cons_zero] at hc
  clear ht
  go_enter Try.func21, Try.ntmps21
  go_wp2
  go_ret
  exact ⟨rfl, rfl⟩

/-- .. of no tree -/
theorem none_nil (w : World) : Calls Try.prog 21 #[.pointer none] w fun e w' => e = .returned (.bool true) ∧ w = w' := by
  go_enter Try.func21, Try.ntmps21
  go_wp2
  go_ret
  exact ⟨rfl, rfl⟩

/-- .. of one that nobody made -/
theorem none_bare (tb : Nat) (n : Value) (w : World) (ht : World.blk w tb [.pointer none, n] 53) :
    Calls Try.prog 21 #[.pointer (some ⟨tb, 0, none⟩)] w fun e w' => e = .returned (.bool true) ∧ w = w' := by
  have hc := blk_cell ht 0
  simp only [List.getElem?_cons_zero] at hc
  clear ht
  go_enter Try.func21, Try.ntmps21
  go_wp2
  go_ret
  exact ⟨rfl, rfl⟩
end Go.Proofs.Ytaopiolbjnnnfaa
