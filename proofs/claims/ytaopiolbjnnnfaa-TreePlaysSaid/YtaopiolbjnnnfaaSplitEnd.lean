/-
  split: what its last world holds is the turned tree. No walk.
-/
import Derived.Test.YtaopiolbjnnnfaaViews
namespace Go.Proofs.Ytaopiolbjnnnfaa
open Go.RowKit

theorem uniq_apart {b b' : Nat} {n : Nat} (h : one b b + one b' b + n ≤ 1) : b ≠ b' := fun e => by subst e; rw [one_self] at h; omega

theorem own_le_one (v : Value) (a : Nat) : own v a ≤ 1 := by unfold own; split <;> omega
theorem one_le_one (b a : Nat) : one b a ≤ 1 := by unfold one; split <;> omega
theorem own_eq {v : Value} {a : Nat} (h : v.ownBlock = some a) : own v a = 1 := by simp [own, h]
theorem own_ne {v : Value} {a : Nat} (h : v.ownBlock ≠ some a) : own v a = 0 := by simp [own, h]

/-- which type a block that is counted has -/
theorem own_pairs_type {w : World} {v : Value} {l : List KV} (h : World.pairs w v l) {a : Nat} (ha : 0 < own v a) : ∃ c, World.blk w a c 34 := owns_blk h (own_pos ha)
theorem own_nodes_type {w : World} {v : Value} {l : List MT} (h : World.nodes w v l) {a : Nat} (ha : 0 < own v a) : ∃ c, World.blk w a c 51 := owns_blk h (own_pos ha)

structure SplitC (w : World) (xb cb : Nat) (lv kv clv' ckv' : Value) (l : List KV) (cl2 : List KV) (ck2 kids' : List MT) (rb : Nat) (rlv rkv lv' kv' : Value) (W : World) : Prop where
  fr : Fr (fun a => a = cb ∨ a = xb ∨ lv.ownBlock = some a ∨ kv.ownBlock = some a) w W
  x : World.blk W xb [lv', kv'] 57
  c : World.blk W cb [clv', ckv'] 57
  r : World.blk W rb [rlv, rkv] 57
  rl : World.pairs W rlv cl2
  rk : World.nodes W rkv ck2
  xl : World.pairs W lv' l
  xk : World.nodes W kv' kids'
  lold : ∀ k, lv'.ownBlock = some k → lv.ownBlock = some k ∨ w.heap.size ≤ k
  kold : ∀ k, kv'.ownBlock = some k → kv.ownBlock = some k ∨ w.heap.size ≤ k
  lne : ∀ k, lv'.ownBlock = some k → rlv.ownBlock ≠ some k
  kne : ∀ k, kv'.ownBlock = some k → rkv.ownBlock ≠ some k
  rnew : w.heap.size ≤ rb
  rlnew : ∀ k, rlv.ownBlock = some k → w.heap.size ≤ k
  rknew : ∀ k, rkv.ownBlock = some k → w.heap.size ≤ k

theorem split_done (xb cb : Nat) (lv kv clv clv' ckv ckv' : Value) (L R cl1 cl2 : List KV) (m : KV) (A B ck1 ck2 : List MT) (rb : Nat) (rlv rkv lv' kv' : Value) (w W : World)
    (hl : Lies w (.node xb lv kv (L ++ R) (A ++ .node cb clv ckv (cl1 ++ m :: cl2) (ck1 ++ ck2) :: B)))
    (hu : Uniq (.node xb lv kv (L ++ R) (A ++ .node cb clv ckv (cl1 ++ m :: cl2) (ck1 ++ ck2) :: B)))
    (hcl : World.pairs w clv' cl1) (hcv : ∀ k, clv'.ownBlock = some k → clv.ownBlock = some k) (hck : World.nodes w ckv' ck1) (hkv : ∀ k, ckv'.ownBlock = some k → ckv.ownBlock = some k)
    (h : SplitC w xb cb lv kv clv' ckv' (L ++ m :: R) cl2 ck2 (A ++ .node cb clv' ckv' cl1 ck1 :: .node rb rlv rkv cl2 ck2 :: B) rb rlv rkv lv' kv' W) :
    Turns w W (.node xb lv kv (L ++ R) (A ++ .node cb clv ckv (cl1 ++ m :: cl2) (ck1 ++ ck2) :: B))
      (.node xb lv' kv' (L ++ m :: R) (A ++ .node cb clv' ckv' cl1 ck1 :: .node rb rlv rkv cl2 ck2 :: B)) := by
  have hc0 : ∀ a, cnt (.node xb lv kv (L ++ R) (A ++ .node cb clv ckv (cl1 ++ m :: cl2) (ck1 ++ ck2) :: B)) a =
      one xb a + own lv a + own kv a + (cnts A a + (one cb a + own clv a + own ckv a + (cnts ck1 a + cnts ck2 a) + cnts B a)) := fun a => by
    rw [cnt_node, cnts_append, cnts_cons, cnt_node, cnts_append]
  have hc1 : ∀ a, cnt (.node xb lv' kv' (L ++ m :: R) (A ++ .node cb clv' ckv' cl1 ck1 :: .node rb rlv rkv cl2 ck2 :: B)) a =
      one xb a + own lv' a + own kv' a + (cnts A a + (one cb a + own clv' a + own ckv' a + cnts ck1 a + (one rb a + own rlv a + own rkv a + cnts ck2 a + cnts B a))) := fun a => by
    rw [cnt_node, cnts_append, cnts_cons, cnts_cons, cnt_node, cnt_node]
  have hu' : ∀ a, one xb a + own lv a + own kv a + (cnts A a + (one cb a + own clv a + own ckv a + (cnts ck1 a + cnts ck2 a) + cnts B a)) ≤ 1 := fun a => by rw [← hc0]; exact hu a
  have hlt := lies_lt _ hl
  obtain ⟨hx, hlp, hkn, hch⟩ := lies_node.1 hl
  obtain ⟨hAl, hcl0, hBl⟩ : LiesAll w A ∧ Lies w _ ∧ LiesAll w B := by
    have := liesAll_append.1 hch
    exact ⟨this.1, (liesAll_cons.1 this.2).1, (liesAll_cons.1 this.2).2⟩
  obtain ⟨hc, hcp, hckn, hckl⟩ := lies_node.1 hcl0
  have hck1 := (liesAll_append.1 hckl).1
  have hck2 := (liesAll_append.1 hckl).2
  have hcvle : ∀ a, own clv' a ≤ own clv a := fun a => by
    by_cases e : clv'.ownBlock = some a
    · rw [own_eq (hcv a e)]; exact own_le_one _ _
    · rw [own_ne e]; omega
  have hkvle : ∀ a, own ckv' a ≤ own ckv a := fun a => by
    by_cases e : ckv'.ownBlock = some a
    · rw [own_eq (hkv a e)]; exact own_le_one _ _
    · rw [own_ne e]; omega
  -- blocks that have not changed
  have hsafe : ∀ a, 0 < cnts A a + own clv a + own ckv a + cnts ck1 a + cnts ck2 a + cnts B a → ¬ (a = cb ∨ a = xb ∨ lv.ownBlock = some a ∨ kv.ownBlock = some a) := fun a ha hm => by
    have k := hu' a
    rcases hm with rfl | rfl | e | e
    · rw [one_self] at k; omega
    · rw [one_self] at k; omega
    · rw [own_eq e] at k; omega
    · rw [own_eq e] at k; omega
  have few : ∀ a, a < w.heap.size → cnt (.node xb lv' kv' (L ++ m :: R) (A ++ .node cb clv' ckv' cl1 ck1 :: .node rb rlv rkv cl2 ck2 :: B)) a ≤
      cnt (.node xb lv kv (L ++ R) (A ++ .node cb clv ckv (cl1 ++ m :: cl2) (ck1 ++ ck2) :: B)) a := fun a ha => by
    rw [hc0, hc1]
    have e1 : own lv' a ≤ own lv a := by
      by_cases e : lv'.ownBlock = some a
      · rcases h.lold a e with k | k
        · rw [own_eq k]; exact own_le_one _ _
        · omega
      · rw [own_ne e]; omega
    have e2 : own kv' a ≤ own kv a := by
      by_cases e : kv'.ownBlock = some a
      · rcases h.kold a e with k | k
        · rw [own_eq k]; exact own_le_one _ _
        · omega
      · rw [own_ne e]; omega
    have e3 : one rb a = 0 := one_ne (fun e => by have := h.rnew; omega)
    have e4 : own rlv a = 0 := own_ne (fun e => by have := h.rlnew a e; omega)
    have e5 : own rkv a = 0 := own_ne (fun e => by have := h.rknew a e; omega)
    have e6 := hcvle a
    have e7 := hkvle a
    omega
  refine ⟨?_, fun a => ?_, rfl, h.fr.mono (fun a _ hm => ?_), few⟩
  · rw [lies_node, liesAll_append, liesAll_cons, liesAll_cons, lies_node, lies_node]
    refine ⟨h.x, h.xl, h.xk, liesAll_fr h.fr A hAl (fun a ha => hsafe a (by omega)), ⟨h.c, ?_, ?_, liesAll_fr h.fr ck1 hck1 (fun a ha => hsafe a (by omega))⟩, ⟨h.r, h.rl, h.rk, liesAll_fr h.fr ck2 hck2 (fun a ha => hsafe a (by omega))⟩,
      liesAll_fr h.fr B hBl (fun a ha => hsafe a (by omega))⟩
    · exact owns_fr hcl h.fr (fun k hk => hsafe k (by rw [own_eq (hcv k hk)]; omega))
    · exact owns_fr hck h.fr (fun k hk => hsafe k (by rw [own_eq (hkv k hk)]; omega))
  · by_cases ha : a < w.heap.size
    · exact Nat.le_trans (few a ha) (hu a)
    · have z : ¬ 0 < cnt (.node xb lv kv (L ++ R) (A ++ .node cb clv ckv (cl1 ++ m :: cl2) (ck1 ++ ck2) :: B)) a := fun hp => ha (hlt a hp)
      rw [hc0] at z
      rw [hc1]
      have e6 := hcvle a
      have e7 := hkvle a
      have b1 := own_le_one lv' a
      have b2 := own_le_one kv' a
      have b3 := one_le_one rb a
      have b4 := own_le_one rlv a
      have b5 := own_le_one rkv a
      have t1 : 0 < own lv' a → ∃ c, World.blk W a c 34 := own_pairs_type h.xl
      have t2 : 0 < own rlv a → ∃ c, World.blk W a c 34 := own_pairs_type h.rl
      have t3 : 0 < own kv' a → ∃ c, World.blk W a c 51 := own_nodes_type h.xk
      have t4 : 0 < own rkv a → ∃ c, World.blk W a c 51 := own_nodes_type h.rk
      have t5 : 0 < one rb a → ∃ c, World.blk W a c 57 := fun hp => by rw [one_pos hp]; exact ⟨_, h.r⟩
      have x1 : ¬ (0 < own lv' a ∧ 0 < own rlv a) := fun ⟨p, q⟩ => h.lne a (own_pos p) (own_pos q)
      have x2 : ¬ (0 < own kv' a ∧ 0 < own rkv a) := fun ⟨p, q⟩ => h.kne a (own_pos p) (own_pos q)
      have d1 : ∀ {s t : TypeId}, s ≠ t → (∃ c, World.blk W a c s) → (∃ c, World.blk W a c t) → False := fun hne ⟨_, p⟩ ⟨_, q⟩ => hne (blk_type p q)
      have y1 : ¬ (0 < own lv' a ∧ 0 < own kv' a) := fun ⟨p, q⟩ => d1 (by decide) (t1 p) (t3 q)
      have y2 : ¬ (0 < own lv' a ∧ 0 < own rkv a) := fun ⟨p, q⟩ => d1 (by decide) (t1 p) (t4 q)
      have y3 : ¬ (0 < own lv' a ∧ 0 < one rb a) := fun ⟨p, q⟩ => d1 (by decide) (t1 p) (t5 q)
      have y4 : ¬ (0 < own rlv a ∧ 0 < own kv' a) := fun ⟨p, q⟩ => d1 (by decide) (t2 p) (t3 q)
      have y5 : ¬ (0 < own rlv a ∧ 0 < own rkv a) := fun ⟨p, q⟩ => d1 (by decide) (t2 p) (t4 q)
      have y6 : ¬ (0 < own rlv a ∧ 0 < one rb a) := fun ⟨p, q⟩ => d1 (by decide) (t2 p) (t5 q)
      have y7 : ¬ (0 < own kv' a ∧ 0 < one rb a) := fun ⟨p, q⟩ => d1 (by decide) (t3 p) (t5 q)
      have y8 : ¬ (0 < own rkv a ∧ 0 < one rb a) := fun ⟨p, q⟩ => d1 (by decide) (t4 p) (t5 q)
      omega
  · show 0 < cnt _ _
    rw [hc0]
    rcases hm with rfl | rfl | e | e
    · rw [one_self a]; omega
    · rw [one_self a]; omega
    · rw [own_eq e]; omega
    · rw [own_eq e]; omega
end Go.Proofs.Ytaopiolbjnnnfaa
