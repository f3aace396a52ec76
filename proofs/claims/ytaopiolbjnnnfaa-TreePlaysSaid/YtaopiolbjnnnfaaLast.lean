/-
  last: the last thing below goes.
-/
import Derived.Test.YtaopiolbjnnnfaaOne
import Derived.Deep.LoopGhost
namespace Go.Proofs.Ytaopiolbjnnnfaa
open Go.RowKit

def LastPost (h : Nat) (t : MT) (w : World) (e : Ending) (w' : World) : Prop :=
  ∃ t' s y, e = .returned (.agg #[.string y.1, .int .i64 y.2]) ∧ flat t = s ++ [y] ∧ flat t' = s ∧ Turns w w' t t' ∧ Ok h t' ∧ t.l.length ≤ t'.l.length + 1

def LastWand (t : MT) (k : Nat) (wr : World) (G : World → KV → Prop) : Prop :=
  ∀ w' t' s y, flat t = s ++ [y] → Turns wr w' t t' → Ok k t' → flat t' = s → t.l.length ≤ t'.l.length + 1 → G w' y

def LastRel (rb : Nat) (cells : List Value) (G : World → KV → Prop) (k : Nat) (p : Value) (wr : World) : Prop :=
  ∃ b lv kv l kids, p = .pointer (some ⟨b, 0, none⟩) ∧ Lies wr (.node b lv kv l kids) ∧ Uniq (.node b lv kv l kids) ∧ Ok k (.node b lv kv l kids) ∧ 1 ≤ l.length ∧ World.blk wr rb cells 34 ∧ cnt (.node b lv kv l kids) rb = 0 ∧
    LastWand (.node b lv kv l kids) k wr G

set_option maxHeartbeats 2000000 in
set_option maxRecDepth 100000 in
theorem last_walk (h : Nat) (t : MT) (w : World) (hl : Lies w t) (hu : Uniq t) (hk : Ok h t) (hn : 1 ≤ t.l.length) :
    Calls Try.prog 37 #[.pointer (some ⟨t.b, 0, none⟩)] w (LastPost h t w) := by
  have HL := Lib.hid hl
  have HU := Lib.hid hu
  have HK := Lib.hid hk
  clear hl hu hk
  go_enter Try.func37, Try.ntmps37
  go_wp2_with fail
  obtain ⟨rb, hrb⟩ : ∃ rb, rb = w.heap.size := ⟨_, rfl⟩
  rw [← hrb]
  have HRB := Lib.hid hrb
  clear hrb
  go_loopg [0] h (fun k p wr => LastRel rb [.string ⟨#[]⟩, .int .i64 0] (fun W y => ∀ wf, Fr (fun a => a = rb) W wf → LastPost h t w (.returned (.agg #[.string y.1, .int .i64 y.2])) wf) k p wr)
  case atStart =>
    obtain rfl := HRB.out
    have hf : Fr (fun _ => False) w (w.alloc (.cells #[.string ⟨#[]⟩, .int .i64 0] 34)) := (Fr.refl _ _).alloc _
    obtain ⟨b, lv, kv, l, kids⟩ := t
    refine ⟨b, lv, kv, l, kids, rfl, lies_fr hf _ HL.out (fun _ _ h => h), HU.out, HK.out, hn, blk_new w [.string ⟨#[]⟩, .int .i64 0] 34, new_off HL.out (Nat.le_refl _), ?_⟩
    intro w' t' s y h1 h2 h3 h4 h5 wf hwf
    exact ⟨t', s, y, rfl, h1, h4, (Turns.ahead hf h2).late hwf (fun a ha => by omega) (fun a ha => by
      subst ha; exact h2.off (by simp) (new_off HL.out (Nat.le_refl _))), h3, h5⟩
  case round =>
    obtain ⟨b, lv, kv, l, kids, rfl, hl, hu, hk, hn1, hb, hoff, hw⟩ := hrel
    obtain ⟨hx, hlp, hkn, hch⟩ := lies_node.1 hl
    cases gk with
    | zero =>
      obtain ⟨h7, rfl⟩ := ok_zero.1 hk
      simp only [MT.l] at h7
      obtain ⟨s, y, rfl⟩ := snoc_of l hn1
      obtain ⟨g, c, rfl, hcc, hcm⟩ := pairs_some hlp (by simp)
      obtain ⟨ko, kc, rfl, -⟩ := nodes_slice hkn
      have hx0 := blk_cell hx 0
      obtain ⟨_, e, -, hp0, hp1⟩ := pairs_at hlp s.length (by simp)
      cases e
      rw [List.getElem_append_right (by omega)] at hp0 hp1
      simp only [Nat.sub_self, List.getElem_cons_zero] at hp0 hp1
      simp only [List.getElem?_cons_zero, List.length_append, List.length_singleton] at hx0 h7 hcc
      have hgt : g < wr.heap.size := owns_lt hlp rfl
      have hbt : b < wr.heap.size := blk_lt hx
      have w1 : IntKind.i64.wrap (((s.length + 1 : Nat) : Int) - 1) = (s.length : Int) := by rw [IntWalk.i64_in _ (by omega)]; omega
      have w2 : (s.length : Int) < (s.length : Int) + 1 := by omega
      have w3 : s.length ≤ s.length + 1 := by omega
      have w4 : s.length ≤ c := by omega
      have hf0 := blk_free hx 0
      have hrbt : rb < wr.heap.size := blk_lt hb
      have hr0 := blk_cell hb 0
      have hr1 := blk_cell hb 1
      have hg0 := blk_free hb 0
      have hg1 := blk_free hb 1
      simp only [List.getElem?_cons_succ, List.getElem?_cons_zero] at hr0 hr1
      have hne : ¬ rb = b := fun e => by have := blk_type hb (e ▸ hx); cases this
      have HLL := Lib.hid hl
      have HUU := Lib.hid hu
      have HW := Lib.hid hw
      have HX := Lib.hid hx
      have HB := Lib.hid hb
      have HP := Lib.hid hlp
      have HOFF := Lib.hid hoff
      clear hl hu hk hw hx hb hlp hoff hkn hch hcm hn1
      go_wp2_with (go_at_call 25; refine (leaf_any b _ _ _ _ _ HX.out).mono ?_; rintro e w' ⟨rfl, rfl⟩)
      have hcut := owns_cut (owns_congr HP.out rfl rfl) s.length (by simp)
      rw [pcells_take, List.take_left' rfl] at hcut
      have ht := Turns.lay (v := .slice (some ⟨g, 0, none⟩) s.length c) (Y := s) HLL.out HUU.out (Fr.refl _ _) hcut (fun k hk => .inl hk)
      have hfin : Fr (fun a => a = rb) (wr.setCell ⟨b, 0, none⟩ (.slice (some ⟨g, 0, none⟩) s.length c)) ((((wr.setCell ⟨b, 0, none⟩ (.slice (some ⟨g, 0, none⟩) s.length c)).setCell ⟨rb, 0, none⟩ (.string y.1)).setCell ⟨rb, 1, none⟩ (.int .i64 y.2)).alloc
          (.cells #[.string y.1, .int .i64 y.2] 34)) :=
        (((Fr.refl (fun a => a = rb) _).setCell (p := ⟨rb, 0, none⟩) (fun _ => rfl) _).setCell (p := ⟨rb, 1, none⟩) (fun _ => rfl) _).alloc _
      have hpost := HW.out _ _ s y (flat_leaf _ _ _ _) ht (ok_zero.2 ⟨by simp only [MT.l]; omega, rfl⟩) (flat_leaf _ _ _ _) (by simp [MT.l]) _ hfin
      exact bodyPost_ret (v := .agg #[.string y.1, .int .i64 y.2]) (by simp [results, Try.results37, go_sem, hr0, hr1, hrbt]) rfl hpost
    | succ k =>
      have hlen := ok_node.1 hk
      obtain ⟨A, c, rfl⟩ := snoc_of kids (by omega)
      have hAl : l.length = A.length := by have := hlen.2.1; simp at this; omega
      have hbound : l.length ≤ 7 := hlen.1
      obtain ⟨lo, lc, rfl, -⟩ := pairs_slice hlp
      obtain ⟨kg, kc, rfl, -, -⟩ := nodes_some hkn (by simp)
      have hx0 := blk_cell hx 0
      simp only [List.getElem?_cons_zero] at hx0
      have hfill := fill_walk k b l.length (.slice lo l.length lc) (.slice (some ⟨kg, 0, none⟩) (A ++ [c]).length kc) l [] A [] c wr (by rwa [List.append_nil]) (by rwa [List.append_nil]) (by rwa [List.append_nil]) hAl hAl.symm (by simpa using hn1)
      have HFILL := Lib.hid hfill
      have HW := Lib.hid hw
      have HX := Lib.hid hx
      have HB := Lib.hid hb
      have HOFF := Lib.hid hoff
      have HA := Lib.hid hAl
      have hkn0 : decide ((A ++ [c]).length = 0) = false := by simp
      clear hl hu hk hw hx hb hlp hoff hkn hch hfill hlen hAl
      go_wp2_with (first
        | (go_at_call 25; refine (leaf_any b _ _ _ _ _ HX.out).mono ?_; rintro e w' ⟨rfl, rfl⟩)
        | (go_at_call 40; refine HFILL.out.mono ?_; rintro e w2 ⟨lv', kv', L', R', A', c', B', u, v, rfl, ht, hok, h4, hL', hR', hlen, f1, f2, f3⟩; obtain ⟨g, n, cc, rfl, hln, q1, q2⟩ := kid_cell ht.lies; have q3 : (A'.length : Int) < (n : Int) := by omega
           have HT := Lib.hid ht; have HOK := Lib.hid hok; have HF := Lib.hid (And.intro f1 (And.intro f2 (And.intro f3 (And.intro hL' hR')))); clear ht hok f1 f2 f3 hL' hR'))
      go_roundg k
      case measure => omega
      case rel =>
        obtain ⟨f1, f2, f3, hL', hR'⟩ := HF.out
        have ht := HT.out
        have hok := HOK.out
        rw [List.append_nil] at ht
        rw [after_nil] at f3
        obtain ⟨e1, e2⟩ := List.append_eq_nil_iff.1 f3.symm
        obtain ⟨rfl, rfl⟩ := after_none hR' e2
        subst e1
        rw [List.append_nil] at ht hok f2
        obtain ⟨hcl, hcu, hco⟩ := child_of ht.lies ht.uniq
        have hrb : cnt c' rb = 0 := hco _ (ht.off (blk_lt HB.out) HOFF.out)
        have hflat : flat (.node b (.slice lo l.length lc) (.slice (some ⟨kg, 0, none⟩) (A ++ [c]).length kc) l (A ++ [c])) = before L' A' ++ flat c' := by
          have := flat_at b (.slice lo l.length lc) (.slice (some ⟨kg, 0, none⟩) (A ++ [c]).length kc) l [] A [] c HA.out rfl
          rw [List.append_nil] at this
          rw [this, f1, f2, after_nil]
          simp
        have hW := HW.out
        have hb2 := ht.blk HOFF.out HB.out
        obtain ⟨b1, lv1, kv1, l1, k1⟩ := c'
        refine ⟨b1, lv1, kv1, l1, k1, rfl, hcl, hcu, ((ok_node.1 hok).2.2 _ (by simp)).2, by simp only [MT.l] at h4; omega, hb2, hrb, ?_⟩
        intro w' t' s y g1 g2 g3 g4 g5
        have hch := Turns.child ht.lies ht.uniq g2
        refine hW w' _ (before L' A' ++ s) y (by rw [hflat, g1, List.append_assoc]) (ht.trans hch) (turns_len hok g3 (by omega)) ?_ (by simp only [MT.l]; simpa using hlen)
        have := flat_at b lv' (.slice (some ⟨g, 0, none⟩) n cc) L' [] A' [] t' hL' rfl
        rw [List.append_nil, after_nil, List.append_nil] at this
        rw [this, g4]
end Go.Proofs.Ytaopiolbjnnnfaa
