/-
  A node and two of its children while they are being changed: three node blocks, six slices. No walk.
-/
import Derived.Test.YtaopiolbjnnnfaaSplitEnd
namespace Go.Proofs.Ytaopiolbjnnnfaa
open Go.RowKit

/-- a value's block is one of M, or new since w -/
def Mine (w : World) (M : Nat → Prop) (v : Value) : Prop := ∀ k, v.ownBlock = some k → M k ∨ w.heap.size ≤ k
/-- two values in two blocks -/
def Apart (v u : Value) : Prop := ∀ k, v.ownBlock = some k → u.ownBlock ≠ some k
theorem Apart.symm {v u : Value} (h : Apart v u) : Apart u v := fun k hk e => h k e hk

structure S3 (w : World) (M : Nat → Prop) (xb cb db : Nat) (xl xk cl ck dl dk : Value) (X C D : List KV) (XK CK DK : List Value) (W : World) : Prop where
  fr : Fr M w W
  x : World.blk W xb [xl, xk] 57
  c : World.blk W cb [cl, ck] 57
  d : World.blk W db [dl, dk] 57
  rx : W.ownsRow 0 34 2 xl X.length (pcells X)
  rc : W.ownsRow 0 34 2 cl C.length (pcells C)
  rd : W.ownsRow 0 34 2 dl D.length (pcells D)
  kx : W.ownsRow 0 51 1 xk XK.length XK
  kc : W.ownsRow 0 51 1 ck CK.length CK
  kd : W.ownsRow 0 51 1 dk DK.length DK
  mx : M xb
  mc : M cb
  md : M db
  nxc : xb ≠ cb
  nxd : xb ≠ db
  ncd : cb ≠ db
  oxl : Mine w M xl
  ocl : Mine w M cl
  odl : Mine w M dl
  oxk : Mine w M xk
  ock : Mine w M ck
  odk : Mine w M dk
  axc : Apart xl cl
  axd : Apart xl dl
  acd : Apart cl dl
  bxc : Apart xk ck
  bxd : Apart xk dk
  bcd : Apart ck dk

/-- three nodes, whatever their slices -/
def Trio (w : World) (M : Nat → Prop) (xb cb db : Nat) (X C D : List KV) (XK CK DK : List Value) (W : World) : Prop :=
  ∃ xl xk cl ck dl dk, S3 w M xb cb db xl xk cl ck dl dk X C D XK CK DK W

/-- the two children are at hand -/
def TwoAt (w : World) (M : Nat → Prop) (xb cb db : Nat) (xl xk cl ck dl dk : Value) (X C D : List KV) (XK CK DK : List Value) (a b : Value) (W : World) : Prop :=
  a = .pointer (some ⟨cb, 0, none⟩) ∧ b = .pointer (some ⟨db, 0, none⟩) ∧ S3 w M xb cb db xl xk cl ck dl dk X C D XK CK DK W

section
variable {w W : World} {M : Nat → Prop} {xb cb db : Nat} {xl xk cl ck dl dk : Value} {X C D : List KV} {XK CK DK : List Value}

theorem S3.swapXC (h : S3 w M xb cb db xl xk cl ck dl dk X C D XK CK DK W) : S3 w M cb xb db cl ck xl xk dl dk C X D CK XK DK W :=
  ⟨h.fr, h.c, h.x, h.d, h.rc, h.rx, h.rd, h.kc, h.kx, h.kd, h.mc, h.mx, h.md, h.nxc.symm, h.ncd, h.nxd, h.ocl, h.oxl, h.odl, h.ock, h.oxk, h.odk, h.axc.symm, h.acd, h.axd, h.bxc.symm, h.bcd, h.bxd⟩
theorem S3.swapCD (h : S3 w M xb cb db xl xk cl ck dl dk X C D XK CK DK W) : S3 w M xb db cb xl xk dl dk cl ck X D C XK DK CK W :=
  ⟨h.fr, h.x, h.d, h.c, h.rx, h.rd, h.rc, h.kx, h.kd, h.kc, h.mx, h.md, h.mc, h.nxd, h.nxc, h.ncd.symm, h.oxl, h.odl, h.ocl, h.oxk, h.odk, h.ock, h.axd, h.axc, h.acd.symm, h.bxd, h.bxc, h.bcd.symm⟩
theorem S3.swapXD (h : S3 w M xb cb db xl xk cl ck dl dk X C D XK CK DK W) : S3 w M db cb xb dl dk cl ck xl xk D C X DK CK XK W := (h.swapCD.swapXC).swapCD

/-- blocks laid, draws -/
theorem S3.quiet {W' : World} (h : S3 w M xb cb db xl xk cl ck dl dk X C D XK CK DK W) (hf : Fr (fun _ => False) W W') : S3 w M xb cb db xl xk cl ck dl dk X C D XK CK DK W' :=
  ⟨h.fr.trans hf (fun _ _ h => h.elim), blk_fr h.x hf (fun h => h), blk_fr h.c hf (fun h => h), blk_fr h.d hf (fun h => h), owns_fr h.rx hf (fun _ _ h => h), owns_fr h.rc hf (fun _ _ h => h), owns_fr h.rd hf (fun _ _ h => h),
    owns_fr h.kx hf (fun _ _ h => h), owns_fr h.kc hf (fun _ _ h => h), owns_fr h.kd hf (fun _ _ h => h), h.mx, h.mc, h.md, h.nxc, h.nxd, h.ncd, h.oxl, h.ocl, h.odl, h.oxk, h.ock, h.odk, h.axc, h.axd, h.acd, h.bxc, h.bxd, h.bcd⟩
theorem S3.alloc (h : S3 w M xb cb db xl xk cl ck dl dk X C D XK CK DK W) (o : Obj) : S3 w M xb cb db xl xk cl ck dl dk X C D XK CK DK (W.alloc o) := h.quiet ((Fr.refl _ _).alloc o)
theorem S3.drew (h : S3 w M xb cb db xl xk cl ck dl dk X C D XK CK DK W) : S3 w M xb cb db xl xk cl ck dl dk X C D XK CK DK W.drew := h.quiet (Fr.refl _ _).drew

/-- a row of pairs is no row of nodes, and no node -/
theorem row34_51 {W : World} {v u : Value} {n m : Nat} {xs ys : List Value} (h : W.ownsRow 0 34 2 v n xs) (k : W.ownsRow 0 51 1 u m ys) : Apart v u := fun j hj e => by
  obtain ⟨c, p⟩ := owns_blk h hj
  obtain ⟨c', q⟩ := owns_blk k e
  exact absurd (blk_type p q) (by decide)
theorem row_node {W : World} {e : TypeId} {s : Nat} {v : Value} {n : Nat} {xs c : List Value} {b : Nat} (h : W.ownsRow 0 e s v n xs) (he : e ≠ 57) (hb : World.blk W b c 57) : v.ownBlock ≠ some b := fun hk => by
  obtain ⟨c', q⟩ := owns_blk h hk
  exact he (blk_type q hb)

/-- the pairs of the first node are laid anew -/
theorem S3.putL {W' : World} {v : Value} {Y : List KV} (h : S3 w M xb cb db xl xk cl ck dl dk X C D XK CK DK W) (hf : Fr (fun k => xl.ownBlock = some k) W W') (hv : W'.ownsRow 0 34 2 v Y.length (pcells Y))
    (hat : ∀ k, v.ownBlock = some k → xl.ownBlock = some k ∨ W.heap.size ≤ k) : S3 w M xb cb db v xk cl ck dl dk Y C D XK CK DK (W'.setCell ⟨xb, 0, none⟩ v) := by
  have nx : xl.ownBlock ≠ some xb := row_node h.rx (by decide) h.x
  have nc : xl.ownBlock ≠ some cb := row_node h.rx (by decide) h.c
  have nd : xl.ownBlock ≠ some db := row_node h.rx (by decide) h.d
  have hx := blk_fr h.x hf nx
  have hc := blk_fr h.c hf nc
  have hd := blk_fr h.d hf nd
  have r34 : ∀ {u : Value} {n : Nat} {xs : List Value}, W'.ownsRow 0 34 2 u n xs → (W'.setCell ⟨xb, 0, none⟩ v).ownsRow 0 34 2 u n xs := fun k => ownsRow_setCell_other k (row_node k (by decide) hx) _
  have r51 : ∀ {u : Value} {n : Nat} {xs : List Value}, W'.ownsRow 0 51 1 u n xs → (W'.setCell ⟨xb, 0, none⟩ v).ownsRow 0 51 1 u n xs := fun k => ownsRow_setCell_other k (row_node k (by decide) hx) _
  have hfr : Fr M w W' := h.fr.trans hf (fun j hj e => (h.oxl j e).elim id (fun k => by omega))
  have apart : ∀ {u : Value} {n : Nat} {xs : List Value}, W.ownsRow 0 34 2 u n xs → Apart xl u → Apart v u := fun {u n xs} ho ha k hk e => by
    rcases hat k hk with e' | e'
    · exact ha k e' e
    · have := owns_lt ho e; omega
  refine ⟨hfr.setCell (p := ⟨xb, 0, none⟩) (fun _ => h.mx) _, blk_set hx 0 _, blk_set_other hc _ h.nxc.symm _, blk_set_other hd _ h.nxd.symm _, r34 hv, r34 (owns_fr h.rc hf fun k hk e => h.axc k e hk), r34 (owns_fr h.rd hf fun k hk e => h.axd k e hk),
    r51 (owns_fr h.kx hf fun k hk e => row34_51 h.rx h.kx k e hk), r51 (owns_fr h.kc hf fun k hk e => row34_51 h.rx h.kc k e hk), r51 (owns_fr h.kd hf fun k hk e => row34_51 h.rx h.kd k e hk), h.mx, h.mc, h.md, h.nxc, h.nxd, h.ncd, ?_, h.ocl, h.odl, h.oxk, h.ock, h.odk,
    apart h.rc h.axc, apart h.rd h.axd, h.acd, h.bxc, h.bxd, h.bcd⟩
  intro k hk
  rcases hat k hk with e | e
  · exact h.oxl k e
  · right; have := h.fr.size; omega

/-- the children of the first node are laid anew -/
theorem S3.putK {W' : World} {v : Value} {YK : List Value} (h : S3 w M xb cb db xl xk cl ck dl dk X C D XK CK DK W) (hf : Fr (fun k => xk.ownBlock = some k) W W') (hv : W'.ownsRow 0 51 1 v YK.length YK)
    (hat : ∀ k, v.ownBlock = some k → xk.ownBlock = some k ∨ W.heap.size ≤ k) : S3 w M xb cb db xl v cl ck dl dk X C D YK CK DK (W'.setCell ⟨xb, 1, none⟩ v) := by
  have nx : xk.ownBlock ≠ some xb := row_node h.kx (by decide) h.x
  have nc : xk.ownBlock ≠ some cb := row_node h.kx (by decide) h.c
  have nd : xk.ownBlock ≠ some db := row_node h.kx (by decide) h.d
  have hx := blk_fr h.x hf nx
  have hc := blk_fr h.c hf nc
  have hd := blk_fr h.d hf nd
  have r34 : ∀ {u : Value} {n : Nat} {xs : List Value}, W'.ownsRow 0 34 2 u n xs → (W'.setCell ⟨xb, 1, none⟩ v).ownsRow 0 34 2 u n xs := fun k => ownsRow_setCell_other k (row_node k (by decide) hx) _
  have r51 : ∀ {u : Value} {n : Nat} {xs : List Value}, W'.ownsRow 0 51 1 u n xs → (W'.setCell ⟨xb, 1, none⟩ v).ownsRow 0 51 1 u n xs := fun k => ownsRow_setCell_other k (row_node k (by decide) hx) _
  have hfr : Fr M w W' := h.fr.trans hf (fun j hj e => (h.oxk j e).elim id (fun k => by omega))
  have apart : ∀ {u : Value} {n : Nat} {xs : List Value}, W.ownsRow 0 51 1 u n xs → Apart xk u → Apart v u := fun {u n xs} ho ha k hk e => by
    rcases hat k hk with e' | e'
    · exact ha k e' e
    · have := owns_lt ho e; omega
  refine ⟨hfr.setCell (p := ⟨xb, 1, none⟩) (fun _ => h.mx) _, blk_set hx 1 _, blk_set_other hc _ h.nxc.symm _, blk_set_other hd _ h.nxd.symm _, r34 (owns_fr h.rx hf fun k hk e => row34_51 h.rx h.kx k hk e), r34 (owns_fr h.rc hf fun k hk e => row34_51 h.rc h.kx k hk e),
    r34 (owns_fr h.rd hf fun k hk e => row34_51 h.rd h.kx k hk e), r51 hv, r51 (owns_fr h.kc hf fun k hk e => h.bxc k e hk), r51 (owns_fr h.kd hf fun k hk e => h.bxd k e hk), h.mx, h.mc, h.md, h.nxc, h.nxd, h.ncd, h.oxl, h.ocl, h.odl, ?_, h.ock, h.odk,
    h.axc, h.axd, h.acd, apart h.kc h.bxc, apart h.kd h.bxd, h.bcd⟩
  intro k hk
  rcases hat k hk with e | e
  · exact h.oxk k e
  · right; have := h.fr.size; omega

/-- the pairs of the first node are written in place -/
theorem S3.writeL {W' : World} {Y : List KV} (h : S3 w M xb cb db xl xk cl ck dl dk X C D XK CK DK W) (hf : Fr (fun k => xl.ownBlock = some k) W W') (hv : W'.ownsRow 0 34 2 xl Y.length (pcells Y)) : S3 w M xb cb db xl xk cl ck dl dk Y C D XK CK DK W' :=
  ⟨h.fr.trans hf (fun j hj e => (h.oxl j e).elim id (fun k => by omega)), blk_fr h.x hf (row_node h.rx (by decide) h.x), blk_fr h.c hf (row_node h.rx (by decide) h.c), blk_fr h.d hf (row_node h.rx (by decide) h.d), hv, owns_fr h.rc hf (fun k hk e => h.axc k e hk),
    owns_fr h.rd hf (fun k hk e => h.axd k e hk), owns_fr h.kx hf (fun k hk e => row34_51 h.rx h.kx k e hk), owns_fr h.kc hf (fun k hk e => row34_51 h.rx h.kc k e hk), owns_fr h.kd hf (fun k hk e => row34_51 h.rx h.kd k e hk), h.mx, h.mc, h.md, h.nxc, h.nxd, h.ncd,
    h.oxl, h.ocl, h.odl, h.oxk, h.ock, h.odk, h.axc, h.axd, h.acd, h.bxc, h.bxd, h.bcd⟩

theorem three_le {a b c : Nat} (ha : a ≤ 1) (hb : b ≤ 1) (hc : c ≤ 1) (x : ¬ (0 < a ∧ 0 < b)) (y : ¬ (0 < a ∧ 0 < c)) (z : ¬ (0 < b ∧ 0 < c)) : a + b + c ≤ 1 := by omega
theorem three_pos {a b c : Nat} {p : Prop} (h : 0 < a + b + c) (x : 0 < a → p) (y : 0 < b → p) (z : 0 < c → p) : p := by
  by_cases h1 : 0 < a
  · exact x h1
  · by_cases h2 : 0 < b
    · exact y h2
    · exact z (by omega)

/-- each of the nine blocks is met once -/
theorem S3.sum (h : S3 w M xb cb db xl xk cl ck dl dk X C D XK CK DK W) (a : Nat) : one xb a + one cb a + one db a + (own xl a + own cl a + own dl a) + (own xk a + own ck a + own dk a) ≤ 1 ∧
    (0 < one xb a + one cb a + one db a + (own xl a + own cl a + own dl a) + (own xk a + own ck a + own dk a) → M a ∨ w.heap.size ≤ a) := by
  have b1 := one_le_one xb a
  have b2 := one_le_one cb a
  have b3 := one_le_one db a
  have b4 := own_le_one xl a
  have b5 := own_le_one cl a
  have b6 := own_le_one dl a
  have b7 := own_le_one xk a
  have b8 := own_le_one ck a
  have b9 := own_le_one dk a
  have t1 : 0 < one xb a → ∃ c, World.blk W a c 57 := fun hp => by rw [one_pos hp]; exact ⟨_, h.x⟩
  have t2 : 0 < one cb a → ∃ c, World.blk W a c 57 := fun hp => by rw [one_pos hp]; exact ⟨_, h.c⟩
  have t3 : 0 < one db a → ∃ c, World.blk W a c 57 := fun hp => by rw [one_pos hp]; exact ⟨_, h.d⟩
  have t4 : 0 < own xl a → ∃ c, World.blk W a c 34 := fun hp => owns_blk h.rx (own_pos hp)
  have t5 : 0 < own cl a → ∃ c, World.blk W a c 34 := fun hp => owns_blk h.rc (own_pos hp)
  have t6 : 0 < own dl a → ∃ c, World.blk W a c 34 := fun hp => owns_blk h.rd (own_pos hp)
  have t7 : 0 < own xk a → ∃ c, World.blk W a c 51 := fun hp => owns_blk h.kx (own_pos hp)
  have t8 : 0 < own ck a → ∃ c, World.blk W a c 51 := fun hp => owns_blk h.kc (own_pos hp)
  have t9 : 0 < own dk a → ∃ c, World.blk W a c 51 := fun hp => owns_blk h.kd (own_pos hp)
  have x1 : ¬ (0 < one xb a ∧ 0 < one cb a) := fun ⟨p, q⟩ => h.nxc ((one_pos p).symm.trans (one_pos q))
  have x2 : ¬ (0 < one xb a ∧ 0 < one db a) := fun ⟨p, q⟩ => h.nxd ((one_pos p).symm.trans (one_pos q))
  have x3 : ¬ (0 < one cb a ∧ 0 < one db a) := fun ⟨p, q⟩ => h.ncd ((one_pos p).symm.trans (one_pos q))
  have x4 : ¬ (0 < own xl a ∧ 0 < own cl a) := fun ⟨p, q⟩ => h.axc a (own_pos p) (own_pos q)
  have x5 : ¬ (0 < own xl a ∧ 0 < own dl a) := fun ⟨p, q⟩ => h.axd a (own_pos p) (own_pos q)
  have x6 : ¬ (0 < own cl a ∧ 0 < own dl a) := fun ⟨p, q⟩ => h.acd a (own_pos p) (own_pos q)
  have x7 : ¬ (0 < own xk a ∧ 0 < own ck a) := fun ⟨p, q⟩ => h.bxc a (own_pos p) (own_pos q)
  have x8 : ¬ (0 < own xk a ∧ 0 < own dk a) := fun ⟨p, q⟩ => h.bxd a (own_pos p) (own_pos q)
  have x9 : ¬ (0 < own ck a ∧ 0 < own dk a) := fun ⟨p, q⟩ => h.bcd a (own_pos p) (own_pos q)
  have d1 : ∀ {s t : TypeId}, s ≠ t → (∃ c, World.blk W a c s) → (∃ c, World.blk W a c t) → False := fun hne ⟨_, p⟩ ⟨_, q⟩ => hne (blk_type p q)
  have n57 : 0 < one xb a + one cb a + one db a → ∃ c, World.blk W a c 57 := fun hp => three_pos hp t1 t2 t3
  have n34 : 0 < own xl a + own cl a + own dl a → ∃ c, World.blk W a c 34 := fun hp => three_pos hp t4 t5 t6
  have n51 : 0 < own xk a + own ck a + own dk a → ∃ c, World.blk W a c 51 := fun hp => three_pos hp t7 t8 t9
  refine ⟨three_le (three_le b1 b2 b3 x1 x2 x3) (three_le b4 b5 b6 x4 x5 x6) (three_le b7 b8 b9 x7 x8 x9) (fun ⟨p, q⟩ => d1 (by decide) (n57 p) (n34 q)) (fun ⟨p, q⟩ => d1 (by decide) (n57 p) (n51 q)) (fun ⟨p, q⟩ => d1 (by decide) (n34 p) (n51 q)), fun hp => ?_⟩
  exact three_pos hp (fun p => three_pos p (fun q => .inl (one_pos q ▸ h.mx)) (fun q => .inl (one_pos q ▸ h.mc)) (fun q => .inl (one_pos q ▸ h.md)))
    (fun p => three_pos p (fun q => h.oxl a (own_pos q)) (fun q => h.ocl a (own_pos q)) (fun q => h.odl a (own_pos q)))
    (fun p => three_pos p (fun q => h.oxk a (own_pos q)) (fun q => h.ock a (own_pos q)) (fun q => h.odk a (own_pos q)))

end

/-- the nine blocks -/
def nine (xb cb db : Nat) (xl xk cl ck dl dk : Value) (a : Nat) : Nat := one xb a + one cb a + one db a + (own xl a + own cl a + own dl a) + (own xk a + own ck a + own dk a)
def Nine (xb cb db : Nat) (xl xk cl ck dl dk : Value) (a : Nat) : Prop := 0 < nine xb cb db xl xk cl ck dl dk a

theorem cnt_trio (xb cb db : Nat) (lv kv clv ckv dlv dkv : Value) (X C D : List KV) (A B CK DK : List MT) (a : Nat) :
    cnt (.node xb lv kv X (A ++ .node cb clv ckv C CK :: .node db dlv dkv D DK :: B)) a = nine xb cb db lv kv clv ckv dlv dkv a + (cnts A a + cnts B a + cnts CK a + cnts DK a) := by
  rw [cnt_node, cnts_append, cnts_cons, cnts_cons, cnt_node, cnt_node]; unfold nine; omega

theorem apart_of {v u : Value} {n : Nat → Nat} (h : ∀ a, own v a + own u a + n a ≤ 1) : Apart v u := fun k hk e => by
  have := h k
  rw [own_eq hk, own_eq e] at this
  omega

theorem S3.begin {w : World} {xb cb db : Nat} {lv kv clv ckv dlv dkv : Value} {X C D : List KV} {A B CK DK : List MT}
    (hl : Lies w (.node xb lv kv X (A ++ .node cb clv ckv C CK :: .node db dlv dkv D DK :: B))) (hu : Uniq (.node xb lv kv X (A ++ .node cb clv ckv C CK :: .node db dlv dkv D DK :: B))) :
    S3 w (Nine xb cb db lv kv clv ckv dlv dkv) xb cb db lv kv clv ckv dlv dkv X C D (kptrs (A ++ .node cb clv ckv C CK :: .node db dlv dkv D DK :: B)) (kptrs CK) (kptrs DK) w := by
  have hu' : ∀ a, nine xb cb db lv kv clv ckv dlv dkv a ≤ 1 := fun a => by have := hu a; rw [cnt_trio] at this; omega
  obtain ⟨hx, hxl, hxk, hch⟩ := lies_node.1 hl
  have h2 := (liesAll_append.1 hch).2
  rw [liesAll_cons, liesAll_cons] at h2
  obtain ⟨hc, hcl, hck, _⟩ := lies_node.1 h2.1
  obtain ⟨hd, hdl, hdk, _⟩ := lies_node.1 h2.2.1
  have un : ∀ {b b' : Nat}, (∀ a, one b a + one b' a ≤ nine xb cb db lv kv clv ckv dlv dkv a) → b ≠ b' := fun {b b'} h e => by
    subst e
    have h1 := h b
    have h2 := hu' b
    rw [one_self] at h1
    omega
  have ua : ∀ {v u : Value}, (∀ a, own v a + own u a ≤ nine xb cb db lv kv clv ckv dlv dkv a) → Apart v u := fun {v u} h k hk e => by
    have h1 := h k
    have h2 := hu' k
    rw [own_eq hk, own_eq e] at h1
    omega
  have um : ∀ {v : Value}, (∀ a, own v a ≤ nine xb cb db lv kv clv ckv dlv dkv a) → Mine w (Nine xb cb db lv kv clv ckv dlv dkv) v := fun {v} h k hk => .inl (by
    have h1 := h k
    rw [own_eq hk] at h1
    exact h1)
  have ub : ∀ {b : Nat}, (∀ a, one b a ≤ nine xb cb db lv kv clv ckv dlv dkv a) → Nine xb cb db lv kv clv ckv dlv dkv b := fun {b} h => by
    have h1 := h b
    rw [one_self] at h1
    exact h1
  refine ⟨Fr.refl _ _, hx, hc, hd, hxl, hcl, hdl, ?_, ?_, ?_, ub ?_, ub ?_, ub ?_, un ?_, un ?_, un ?_, um ?_, um ?_, um ?_, um ?_, um ?_, um ?_, ua ?_, ua ?_, ua ?_, ua ?_, ua ?_, ua ?_⟩
  · rw [kptrs_length]; exact hxk
  · rw [kptrs_length]; exact hck
  · rw [kptrs_length]; exact hdk
  all_goals (intro a; unfold nine; omega)

theorem S3.finish {w W : World} {xb cb db : Nat} {lv kv clv ckv dlv dkv xl xk cl ck dl dk : Value} {X C D X' C' D' : List KV} {A B CK DK CK' DK' : List MT} {XKv : List Value}
    (hl : Lies w (.node xb lv kv X (A ++ .node cb clv ckv C CK :: .node db dlv dkv D DK :: B))) (hu : Uniq (.node xb lv kv X (A ++ .node cb clv ckv C CK :: .node db dlv dkv D DK :: B)))
    (h : S3 w (Nine xb cb db lv kv clv ckv dlv dkv) xb cb db xl xk cl ck dl dk X' C' D' XKv (kptrs CK') (kptrs DK') W)
    (hk : XKv = kptrs (A ++ .node cb cl ck C' CK' :: .node db dl dk D' DK' :: B))
    (h1 : LiesAll w CK') (h2 : LiesAll w DK') (hn : ∀ a, cnts CK' a + cnts DK' a ≤ cnts CK a + cnts DK a) :
    Turns w W (.node xb lv kv X (A ++ .node cb clv ckv C CK :: .node db dlv dkv D DK :: B)) (.node xb xl xk X' (A ++ .node cb cl ck C' CK' :: .node db dl dk D' DK' :: B)) := by
  have hu' : ∀ a, nine xb cb db lv kv clv ckv dlv dkv a + (cnts A a + cnts B a + cnts CK a + cnts DK a) ≤ 1 := fun a => by have := hu a; rwa [cnt_trio] at this
  have hlt := lies_lt _ hl
  obtain ⟨_, _, _, hch⟩ := lies_node.1 hl
  have hA := (liesAll_append.1 hch).1
  have hB := (liesAll_cons.1 (liesAll_cons.1 (liesAll_append.1 hch).2).2).2
  have safe : ∀ a, 0 < cnts A a + cnts B a + cnts CK' a + cnts DK' a → ¬ Nine xb cb db lv kv clv ckv dlv dkv a := fun a ha hm => by
    have := hu' a
    have := hn a
    unfold Nine at hm
    omega
  have few : ∀ a, cnt (.node xb xl xk X' (A ++ .node cb cl ck C' CK' :: .node db dl dk D' DK' :: B)) a ≤ 1 ∧ (a < w.heap.size →
      cnt (.node xb xl xk X' (A ++ .node cb cl ck C' CK' :: .node db dl dk D' DK' :: B)) a ≤ cnt (.node xb lv kv X (A ++ .node cb clv ckv C CK :: .node db dlv dkv D DK :: B)) a) := fun a => by
    rw [cnt_trio, cnt_trio]
    obtain ⟨s1, s2⟩ := h.sum a
    have e1 := hu' a
    have e2 := hn a
    have e3 := hlt a
    rw [cnt_trio] at e3
    have s1' : nine xb cb db xl xk cl ck dl dk a ≤ 1 := s1
    by_cases hp : 0 < nine xb cb db xl xk cl ck dl dk a
    · rcases s2 hp with hm | hm
      · unfold Nine at hm
        omega
      · have : ¬ 0 < nine xb cb db lv kv clv ckv dlv dkv a + (cnts A a + cnts B a + cnts CK a + cnts DK a) := fun hq => by have := e3 hq; omega
        omega
    · omega
  refine ⟨?_, fun a => (few a).1, rfl, h.fr.mono (fun a _ hm => ?_), fun a ha => (few a).2 ha⟩
  · subst hk
    rw [lies_node, liesAll_append, liesAll_cons, liesAll_cons, lies_node, lies_node]
    refine ⟨h.x, h.rx, owns_congr h.kx (by rw [kptrs_length]) rfl, liesAll_fr h.fr A hA (fun a ha => safe a (by omega)), ⟨h.c, h.rc, owns_congr h.kc (by rw [kptrs_length]) rfl, liesAll_fr h.fr CK' h1 (fun a ha => safe a (by omega))⟩,
      ⟨h.d, h.rd, owns_congr h.kd (by rw [kptrs_length]) rfl, liesAll_fr h.fr DK' h2 (fun a ha => safe a (by omega))⟩, liesAll_fr h.fr B hB (fun a ha => safe a (by omega))⟩
  · show 0 < cnt _ _
    rw [cnt_trio]
    unfold Nine at hm
    omega

/-- .. with the third node dropped -/
theorem S3.finishOne {w W : World} {xb cb db : Nat} {lv kv clv ckv dlv dkv xl xk cl ck dl dk : Value} {X C D X' C' D' : List KV} {A B CK DK CK' : List MT} {XKv DKv : List Value}
    (hl : Lies w (.node xb lv kv X (A ++ .node cb clv ckv C CK :: .node db dlv dkv D DK :: B))) (hu : Uniq (.node xb lv kv X (A ++ .node cb clv ckv C CK :: .node db dlv dkv D DK :: B)))
    (h : S3 w (Nine xb cb db lv kv clv ckv dlv dkv) xb cb db xl xk cl ck dl dk X' C' D' XKv (kptrs CK') DKv W)
    (hk : XKv = kptrs (A ++ .node cb cl ck C' CK' :: B))
    (h1 : LiesAll w CK') (hn : ∀ a, cnts CK' a ≤ cnts CK a + cnts DK a) :
    Turns w W (.node xb lv kv X (A ++ .node cb clv ckv C CK :: .node db dlv dkv D DK :: B)) (.node xb xl xk X' (A ++ .node cb cl ck C' CK' :: B)) := by
  have hu' : ∀ a, nine xb cb db lv kv clv ckv dlv dkv a + (cnts A a + cnts B a + cnts CK a + cnts DK a) ≤ 1 := fun a => by have := hu a; rwa [cnt_trio] at this
  have hlt := lies_lt _ hl
  obtain ⟨_, _, _, hch⟩ := lies_node.1 hl
  have hA := (liesAll_append.1 hch).1
  have hB := (liesAll_cons.1 (liesAll_cons.1 (liesAll_append.1 hch).2).2).2
  have hc1 : ∀ a, cnt (.node xb xl xk X' (A ++ .node cb cl ck C' CK' :: B)) a ≤ nine xb cb db xl xk cl ck dl dk a + (cnts A a + cnts B a + cnts CK' a) := fun a => by
    rw [cnt_node, cnts_append, cnts_cons, cnt_node]; unfold nine; omega
  have safe : ∀ a, 0 < cnts A a + cnts B a + cnts CK' a → ¬ Nine xb cb db lv kv clv ckv dlv dkv a := fun a ha hm => by
    have := hu' a
    have := hn a
    unfold Nine at hm
    omega
  have few : ∀ a, cnt (.node xb xl xk X' (A ++ .node cb cl ck C' CK' :: B)) a ≤ 1 ∧ (a < w.heap.size →
      cnt (.node xb xl xk X' (A ++ .node cb cl ck C' CK' :: B)) a ≤ cnt (.node xb lv kv X (A ++ .node cb clv ckv C CK :: .node db dlv dkv D DK :: B)) a) := fun a => by
    rw [cnt_trio]
    obtain ⟨s1, s2⟩ := h.sum a
    have e0 := hc1 a
    have e1 := hu' a
    have e2 := hn a
    have e3 := hlt a
    rw [cnt_trio] at e3
    have s1' : nine xb cb db xl xk cl ck dl dk a ≤ 1 := s1
    by_cases hp : 0 < nine xb cb db xl xk cl ck dl dk a
    · rcases s2 hp with hm | hm
      · unfold Nine at hm
        omega
      · have : ¬ 0 < nine xb cb db lv kv clv ckv dlv dkv a + (cnts A a + cnts B a + cnts CK a + cnts DK a) := fun hq => by have := e3 hq; omega
        omega
    · omega
  refine ⟨?_, fun a => (few a).1, rfl, h.fr.mono (fun a _ hm => ?_), fun a ha => (few a).2 ha⟩
  · subst hk
    rw [lies_node, liesAll_append, liesAll_cons, lies_node]
    exact ⟨h.x, h.rx, owns_congr h.kx (by rw [kptrs_length]) rfl, liesAll_fr h.fr A hA (fun a ha => safe a (by omega)), ⟨h.c, h.rc, owns_congr h.kc (by rw [kptrs_length]) rfl, liesAll_fr h.fr CK' h1 (fun a ha => safe a (by omega))⟩,
      liesAll_fr h.fr B hB (fun a ha => safe a (by omega))⟩
  · show 0 < cnt _ _
    rw [cnt_trio]
    unfold Nine at hm
    omega
end Go.Proofs.Ytaopiolbjnnnfaa
