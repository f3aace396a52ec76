/-
  first: the first thing below goes.
-/
import Derived.Test.YtaopiolbjnnnfaaLast
import Derived.Deep.LoopGhost
namespace Go.Proofs.Ytaopiolbjnnnfaa
open Go.RowKit

def FirstPost (h : Nat) (t : MT) (w : World) (e : Ending) (w' : World) : Prop :=
  ∃ t' s y, e = .returned (.agg #[.string y.1, .int .i64 y.2]) ∧ flat t = y :: s ∧ flat t' = s ∧ Turns w w' t t' ∧ Ok h t' ∧ t.l.length ≤ t'.l.length + 1

def FirstWand (t : MT) (k : Nat) (wr : World) (G : World → KV → Prop) : Prop :=
  ∀ w' t' s y, flat t = y :: s → Turns wr w' t t' → Ok k t' → flat t' = s → t.l.length ≤ t'.l.length + 1 → G w' y

def FirstRel (rb : Nat) (cells : List Value) (G : World → KV → Prop) (k : Nat) (p : Value) (wr : World) : Prop :=
  ∃ b lv kv l kids, p = .pointer (some ⟨b, 0, none⟩) ∧ Lies wr (.node b lv kv l kids) ∧ Uniq (.node b lv kv l kids) ∧ Ok k (.node b lv kv l kids) ∧ 1 ≤ l.length ∧ World.blk wr rb cells 34 ∧ cnt (.node b lv kv l kids) rb = 0 ∧
    FirstWand (.node b lv kv l kids) k wr G

set_option maxHeartbeats 2000000 in
set_option maxRecDepth 100000 in
theorem first_walk (h : Nat) (t : MT) (w : World) (hl : Lies w t) (hu : Uniq t) (hk : Ok h t) (hn : 1 ≤ t.l.length) :
    Calls Try.prog 38 #[.pointer (some ⟨t.b, 0, none⟩)] w (FirstPost h t w) := by
  have HL := Lib.hid hl
  have HU := Lib.hid hu
  have HK := Lib.hid hk
  clear hl hu hk
  go_enter Try.func38, Try.ntmps38
  go_wp2_with fail
  obtain ⟨rb, hrb⟩ : ∃ rb, rb = w.heap.size := ⟨_, rfl⟩
  rw [← hrb]
  have HRB := Lib.hid hrb
  clear hrb
  go_loopg [0] h (fun k p wr => FirstRel rb [.string ⟨#[]⟩, .int .i64 0] (fun W y => ∀ wf, Fr (fun a => a = rb) W wf → FirstPost h t w (.returned (.agg #[.string y.1, .int .i64 y.2])) wf) k p wr)
  case atStart =>
    obtain rfl := HRB.out
    have hf : Fr (fun _ => False) w (w.alloc (.cells #[.string ⟨#[]⟩, .int .i64 0] 34)) := (Fr.refl _ _).alloc _
    obtain ⟨b, lv, kv, l, kids⟩ := t
    refine ⟨b, lv, kv, l, kids, rfl, lies_fr hf _ HL.out (fun _ _ h => h), HU.out, HK.out, hn, blk_new w [.string ⟨#[]⟩, .int .i64 0] 34, new_off HL.out (Nat.le_refl _), ?_⟩
    intro w' t' s y h1 h2 h3 h4 h5 wf hwf
    exact ⟨t', s, y, rfl, h1, h4, (Turns.ahead hf h2).late hwf (fun a ha => by omega) (fun a ha => by
      subst ha; exact h2.off (by simp) (new_off HL.out (Nat.le_refl _))), h3, h5⟩
  case round =>
    obtain ⟨b, lv, kv, l, kids, rfl, hl, hu, hk, hn1, hb, hoff, hw⟩ := hrel
    obtain ⟨hx, hlp, hkn, hch⟩ := lies_node.1 hl
    cases gk with
    | zero =>
      obtain ⟨h7, rfl⟩ := ok_zero.1 hk
      simp only [MT.l] at h7
      obtain ⟨y, s, rfl⟩ : ∃ y s, l = y :: s := by
        cases l with
        | nil => simp at hn1
        | cons y s => exact ⟨y, s, rfl⟩
      obtain ⟨g, c, rfl, hcc, hcm⟩ := pairs_some hlp (by simp)
      obtain ⟨ko, kc, rfl, -⟩ := nodes_slice hkn
      have hx0 := blk_cell hx 0
      obtain ⟨_, e, -, hp0, hp1⟩ := pairs_at hlp 0 (by simp)
      cases e
      simp only [List.getElem_cons_zero, Nat.zero_mul, Nat.zero_add] at hp0 hp1
      simp only [List.getElem?_cons_zero, List.length_cons] at hx0 h7 hcc
      have hgt : g < wr.heap.size := owns_lt hlp rfl
      have hbt : b < wr.heap.size := blk_lt hx
      have w2 : (0 : Int) < (s.length : Int) + 1 := by omega
      have hf0 := blk_free hx 0
      have hrbt : rb < wr.heap.size := blk_lt hb
      have hne : ¬ rb = b := fun e => by have := blk_type hb (e ▸ hx); cases this
      have hgb : ¬ g = rb := fun e => by subst e; have := off_own hoff; rw [own_some, one_self] at this; cases this
      have hfa : Fr (fun _ => False) wr (wr.alloc (.cells #[.string y.1, .int .i64 y.2] 34)) := (Fr.refl _ _).alloc _
      have hla := lies_fr hfa _ hl (fun _ _ h => h)
      have hdel : Calls Try.prog 36 #[.slice (some ⟨g, 0, none⟩) (s.length + 1) c, .int .i64 0, .int .i64 1] (wr.alloc (.cells #[.string y.1, .int .i64 y.2] 34)) (Deleted 34 2 (.slice (some ⟨g, 0, none⟩) (s.length + 1) c) (s.length + 1) 0 (pcells (y :: s)) (wr.alloc (.cells #[.string y.1, .int .i64 y.2] 34))) :=
        delP _ _ _ _ _ _ _ (owns_congr (lies_node.1 hla).2.1 (by simp) rfl) (by omega) rfl rfl (pcells_one _)
      have HD := Lib.hid hdel
      have HLA := Lib.hid hla
      have HFA := Lib.hid hfa
      have HLL := Lib.hid hl
      have HUU := Lib.hid hu
      have HW := Lib.hid hw
      have HX := Lib.hid hx
      have HB := Lib.hid hb
      have HP := Lib.hid hlp
      have HOFF := Lib.hid hoff
      clear hl hu hk hw hx hb hlp hoff hkn hch hcm hn1 hfa hla hdel
      go_wp2_with (first
        | (go_at_call 25; refine (leaf_any b _ _ _ _ _ HX.out).mono ?_; rintro e w' ⟨rfl, rfl⟩)
        | (go_at_call 36; refine HD.out.mono ?_; rintro e w2 ⟨g2, cap2, hown, rfl, hO, hgr⟩
           have hb2 := blk_grown (blk_alloc HX.out (.cells #[.string y.1, .int .i64 y.2] 34)) hgr (fun e => row_node HP.out (by decide) HX.out e.symm)
           have q1 := blk_cell hb2 0
           have q2 := blk_free hb2 0
           have hb3 := blk_grown (blk_new wr [.string y.1, .int .i64 y.2] 34) hgr (fun e => by simp only [Value.ownBlock, Option.some.injEq] at e; omega)
           have q3 := blk_cell hb3 0
           have q4 := blk_cell hb3 1
           have hb4 := blk_grown (blk_alloc HB.out (.cells #[.string y.1, .int .i64 y.2] 34)) hgr (fun e => by simp only [Value.ownBlock, Option.some.injEq] at e; omega)
           have q5 := blk_cell hb4 0
           have q6 := blk_free hb4 0
           have q7 := blk_cell hb4 1
           have q8 := blk_free hb4 1
           have q9 := blk_lt hb2
           have q10 := blk_lt hb3
           have q11 := blk_lt hb4
           have q12 : ¬ wr.heap.size = b := by omega
           simp only [List.getElem?_cons_succ, List.getElem?_cons_zero] at q1 q3 q4 q5 q7
           have HOWN := Lib.hid hown; have HO := Lib.hid hO; have HGR := Lib.hid hgr; clear hown hO hgr hb2 hb3 hb4))
      have ht := Turns.lay (v := .slice (some ⟨g2, 0, none⟩) (s.length + 1 - 1) cap2) (Y := s) HLA.out HUU.out (Fr.of_grown HGR.out) (owns_congr HO.out (by simp) (by
        rw [Nat.zero_mul, List.take_zero, List.nil_append, pcells_drop]; rfl)) (fun k hk => .inl (HOWN.out.trans hk))
      have ht2 := Turns.ahead HFA.out ht
      simp only [Nat.add_sub_cancel] at ht2
      have hfin : Fr (fun a => a = rb) (w2.setCell ⟨b, 0, none⟩ (.slice (some ⟨g2, 0, none⟩) s.length cap2)) (((w2.setCell ⟨b, 0, none⟩ (.slice (some ⟨g2, 0, none⟩) s.length cap2)).setCell ⟨rb, 0, none⟩ (.string y.1)).setCell ⟨rb, 1, none⟩ (.int .i64 y.2)) :=
        ((Fr.refl (fun a => a = rb) _).setCell (p := ⟨rb, 0, none⟩) (fun _ => rfl) _).setCell (p := ⟨rb, 1, none⟩) (fun _ => rfl) _
      have hpost := HW.out _ _ s y (flat_leaf _ _ _ _) ht2 (ok_zero.2 ⟨by simp only [MT.l]; omega, rfl⟩) (flat_leaf _ _ _ _) (by simp [MT.l]) _ hfin
      exact bodyPost_ret (v := .agg #[.string y.1, .int .i64 y.2]) (by simp [results, Try.results38, go_sem, q5, q7]) rfl hpost
    | succ k =>
      have hlen := ok_node.1 hk
      obtain ⟨c, B, rfl⟩ : ∃ c B, kids = c :: B := by
        cases kids with
        | nil => simp at hlen
        | cons c B => exact ⟨c, B, rfl⟩
      have hAl : l.length = B.length := by have := hlen.2.1; simp at this; omega
      obtain ⟨lo, lc, rfl, -⟩ := pairs_slice hlp
      obtain ⟨kg, kc, rfl, -, -⟩ := nodes_some hkn (by simp)
      have hfill := fill_walk k b 0 (.slice lo l.length lc) (.slice (some ⟨kg, 0, none⟩) (c :: B).length kc) [] l [] B c wr hl hu hk rfl rfl (by simpa using hn1)
      have HFILL := Lib.hid hfill
      have HW := Lib.hid hw
      have HX := Lib.hid hx
      have HB := Lib.hid hb
      have HOFF := Lib.hid hoff
      have HA := Lib.hid hAl
      have hkn0 : decide ((c :: B).length = 0) = false := by simp
      clear hl hu hk hw hx hb hlp hoff hkn hch hfill hlen hAl
      go_wp2_with (first
        | (go_at_call 25; refine (leaf_any b _ _ _ _ _ HX.out).mono ?_; rintro e w' ⟨rfl, rfl⟩)
        | (go_at_call 40; refine HFILL.out.mono ?_; rintro e w2 ⟨lv', kv', L', R', A', c', B', u, v, rfl, ht, hok, h4, hL', hR', hlen, f1, f2, f3⟩; obtain ⟨g, n, cc, rfl, hln, q1, q2⟩ := kid_cell ht.lies; have q3 : (A'.length : Int) < (n : Int) := by omega
           have HT := Lib.hid ht; have HOK := Lib.hid hok; have HF := Lib.hid (And.intro f1 (And.intro f2 (And.intro f3 (And.intro hL' hR')))); clear ht hok f1 f2 f3 hL' hR'))
      go_roundg k
      case measure => omega
      case rel =>
        obtain ⟨f1, f2, f3, hL', hR'⟩ := HF.out
        have ht := HT.out
        have hok := HOK.out
        simp only [List.nil_append] at ht
        rw [before_nil] at f1
        obtain ⟨e2, e1⟩ := List.append_eq_nil_iff.1 f1.symm
        obtain ⟨rfl, rfl⟩ := before_none hL' e2
        subst e1
        simp only [List.nil_append] at ht hok f2
        obtain ⟨hcl, hcu, hco⟩ := child_of (A := []) ht.lies ht.uniq
        have hrb : cnt c' rb = 0 := hco _ (ht.off (blk_lt HB.out) HOFF.out)
        have hflat : flat (.node b (.slice lo l.length lc) (.slice (some ⟨kg, 0, none⟩) (c :: B).length kc) l (c :: B)) = flat c' ++ after R' B' := by
          have := flat_at b (.slice lo l.length lc) (.slice (some ⟨kg, 0, none⟩) (c :: B).length kc) [] l [] B c rfl HA.out
          rw [List.nil_append, List.nil_append] at this
          rw [this, f3, f2, before_nil]
          simp
        have hW := HW.out
        have hb2 := ht.blk HOFF.out HB.out
        obtain ⟨b1, lv1, kv1, l1, k1⟩ := c'
        refine ⟨b1, lv1, kv1, l1, k1, rfl, hcl, hcu, ((ok_node.1 hok).2.2 _ (by simp)).2, by simp only [MT.l] at h4; omega, hb2, hrb, ?_⟩
        intro w' t' s y g1 g2 g3 g4 g5
        have hch := Turns.child (A := []) ht.lies ht.uniq g2
        refine hW w' _ (s ++ after R' B') y (by rw [hflat, g1, List.cons_append]) (ht.trans hch) (turns_len (A := []) hok g3 (by omega)) ?_ (by simp only [MT.l]; simpa using hlen)
        have := flat_at b lv' (.slice (some ⟨g, 0, none⟩) n cc) [] R' [] B' t' rfl hR'
        rw [before_nil, List.nil_append] at this
        rw [this, g4, List.nil_append]
end Go.Proofs.Ytaopiolbjnnnfaa
