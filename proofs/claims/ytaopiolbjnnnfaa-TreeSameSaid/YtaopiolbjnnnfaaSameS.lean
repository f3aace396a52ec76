/-
  Two trees and a map of the call's own. No walk.
-/
import Derived.Test.YtaopiolbjnnnfaaSameP
import Derived.Test.YtaopiolbjnnnfaaKnows
namespace Go.Proofs.Ytaopiolbjnnnfaa
open Go.RowKit Go.Maps Go.WideMaps

structure Same3 (w wc : World) (tb ub mb : Nat) (F G : Nat → Prop) (D : DataW Unit) (s1 s2 sm : List KV) (k : Nat) : Prop where
  t : Held wc tb F s1
  u : Held wc ub G s2
  m : wc.ownsMap Try.prog 9 (plainElem Try.prog 3) mb k D
  rd : Reads D sm
  fg : ∀ a, F a → ¬ G a
  fm : ¬ F mb
  gm : ¬ G mb
  ff : ∀ a, F a → w.heap.size ≤ a
  gf : ∀ a, G a → w.heap.size ≤ a
  mf : w.heap.size ≤ mb
  fr : Fr (fun _ => False) w wc

def SameSt (w : World) (tb ub mb : Nat) (s1 s2 sm : List KV) (k : Nat) (wc : World) : Prop := ∃ F G D, Same3 w wc tb ub mb F G D s1 s2 sm k

section
variable {w wc wd : World} {tb ub mb k : Nat} {s1 s2 sm : List KV}

theorem SameSt.next (h : SameSt w tb ub mb s1 s2 sm k wc) (hf : Fr (fun _ => False) wc wd) : SameSt w tb ub mb s1 s2 sm k wd := by
  obtain ⟨F, G, D, h⟩ := h
  exact ⟨F, G, D, h.t.fr hf (fun _ _ h => h), h.u.fr hf (fun _ _ h => h), ownsMap_fr h.m hf (fun h => h), h.rd, h.fg, h.fm, h.gm, h.ff, h.gf, h.mf, h.fr.trans' hf⟩

theorem SameSt.frame (h : SameSt w tb ub mb s1 s2 sm k wc) : Fr (fun _ => False) w wc := by
  obtain ⟨F, G, D, h⟩ := h
  exact h.fr

def SamePost (o : Option Int) (w : World) (tb ub mb : Nat) (s1 s2 sm : List KV) (k : Nat) (e : Ending) (wd : World) : Prop :=
  e = .returned (.tuple #[.int .i64 (o.getD 0), .bool o.isSome]) ∧ SameSt w tb ub mb s1 s2 sm k wd

theorem SameSt.put1 (h : SameSt w tb ub mb s1 s2 sm k wc) (key : ByteArray) (n : Int) (hs : s1.length ≤ 4611686018427387904) :
    Calls Try.prog 10 #[.pointer (some ⟨tb, 0, none⟩), .string key, .int .i64 n] wc (SamePost (look key s1) w tb ub mb (put key n s1) s2 sm k) := by
  obtain ⟨F, G, D, h⟩ := h
  refine (put_held key n wc h.t hs).mono ?_
  rintro e wd ⟨rfl, F', a1, a2, a3⟩
  refine ⟨rfl, F', G, D, a1, h.u.fr a2 (fun a hg hf => h.fg a hf hg), ownsMap_fr h.m a2 h.fm, h.rd, fun a hf hg => ?_, fun hf => ?_, h.gm, fun a ha => ?_, h.gf, h.mf, h.fr.trans a2 fun a hlt hf => by have := h.ff a hf; omega⟩
  · exact h.fg a (a3 a (h.u.lt hg) hf) hg
  · exact h.fm (a3 mb h.m.lt hf)
  · by_cases hlt : a < wc.heap.size
    · exact h.ff a (a3 a hlt ha)
    · have := h.fr.size; omega

theorem SameSt.put2 (h : SameSt w tb ub mb s1 s2 sm k wc) (key : ByteArray) (n : Int) (hs : s2.length ≤ 4611686018427387904) :
    Calls Try.prog 10 #[.pointer (some ⟨ub, 0, none⟩), .string key, .int .i64 n] wc (SamePost (look key s2) w tb ub mb s1 (put key n s2) sm k) := by
  obtain ⟨F, G, D, h⟩ := h
  refine (put_held key n wc h.u hs).mono ?_
  rintro e wd ⟨rfl, G', a1, a2, a3⟩
  refine ⟨rfl, F, G', D, h.t.fr a2 (fun a hf hg => h.fg a hf hg), a1, ownsMap_fr h.m a2 h.gm, h.rd, fun a hf hg => ?_, h.fm, fun hg => ?_, h.ff, fun a ha => ?_, h.mf, h.fr.trans a2 fun a hlt hg => by have := h.gf a hg; omega⟩
  · exact h.fg a hf (a3 a (h.t.lt hf) hg)
  · exact h.gm (a3 mb h.m.lt hg)
  · by_cases hlt : a < wc.heap.size
    · exact h.gf a (a3 a hlt ha)
    · have := h.fr.size; omega

theorem mapLaw : Keyed Try.prog 9 := string_keyed Try.underlying9
theorem mapZero (w : World) : (zeroValue 3).run Try.prog w = .ok (.int .i64 0) w := by kernel_rfl

theorem SameSt.store (h : SameSt w tb ub mb s1 s2 sm k wc) (hs : Rising sm) (key : ByteArray) (n : Int) (hk : key.size ≤ maxLen) (hn : (Lit.int .i64 n).wf = true) (hlt : k < maxLen) :
    ∃ wd, (Instr.mapUpdate 26 (.map (some mb)) (.string key) (.int .i64 n)).run Try.prog wc = .ok () wd ∧ SameSt w tb ub mb s1 s2 (put key n sm) (k + 1) wd := by
  obtain ⟨F, G, D, h⟩ := h
  obtain ⟨wd, hrun, hown, hg⟩ := h.m.update mapLaw Try.underlying26 hlt (keyOf_string_mk Try.underlying9 hk) (plainElem_int Try.underlying3 hn)
  have hf : Fr (fun a => some mb = some a) wc wd := Fr.of_grown hg
  have hmb : ∀ a, some mb = some a → mb = a := fun a e => by cases e; rfl
  exact ⟨wd, hrun, F, G, _, h.t.fr hf (fun a ha e => h.fm (hmb a e ▸ ha)), h.u.fr hf (fun a ha e => h.gm (hmb a e ▸ ha)), hown, h.rd.put hs key n, h.fg, h.fm, h.gm, h.ff, h.gf, h.mf,
    h.fr.trans hf fun a hlt e => by have := hmb a e; have := h.mf; omega⟩

theorem SameSt.get (h : SameSt w tb ub mb s1 s2 sm k wc) (key : ByteArray) (hk : key.size ≤ maxLen) :
    (Instr.lookup 26 (.map (some mb)) (.string key) false).run Try.prog wc = .ok (.int .i64 ((look key sm).getD 0)) wc := by
  obtain ⟨F, G, D, h⟩ := h
  obtain ⟨c, hrun, hat, -⟩ := h.m.lookup_int mapLaw Try.underlying26 Try.underlying3 (mapZero _) (keyOf_string_mk Try.underlying9 hk)
  rw [h.rd.atKey] at hat
  cases hat
  exact hrun

theorem SameSt.len (h : SameSt w tb ub mb s1 s2 sm k wc) (ty : TypeId) : (Builtin.len_ #[26] ty #[.map (some mb)]).run Try.prog wc = .ok (.int .i64 sm.length) wc := by
  obtain ⟨F, G, D, h⟩ := h
  rw [h.m.len Try.underlying26 ty, h.rd.size]

theorem SameSt.all1 (h : SameSt w tb ub mb s1 s2 sm k wc) (hs : s1.length * 32 ≤ 140737488355328) : Calls Try.prog 11 #[.pointer (some ⟨tb, 0, none⟩)] wc (AllPost s1 wc) := by
  obtain ⟨F, G, D, h⟩ := h
  exact all_held wc h.t hs
theorem SameSt.all2 (h : SameSt w tb ub mb s1 s2 sm k wc) (hs : s2.length * 32 ≤ 140737488355328) : Calls Try.prog 11 #[.pointer (some ⟨ub, 0, none⟩)] wc (AllPost s2 wc) := by
  obtain ⟨F, G, D, h⟩ := h
  exact all_held wc h.u hs
end

/-- two trees that were made, one behind the other; then a map -/
theorem SameSt.made {w w1 w2 w3 : World} {tb ub : Nat} {F G : Nat → Prop} (h1 : Held w1 tb F []) (f1 : Fr (fun _ => False) w w1) (n1 : ∀ a, F a → w.heap.size ≤ a) (h2 : Held w2 ub G []) (f2 : Fr (fun _ => False) w1 w2) (n2 : ∀ a, G a → w1.heap.size ≤ a)
    (f3 : Fr (fun _ => False) w2 w3) : SameSt w tb ub w3.heap.size [] [] [] 0 (w3.alloc (.map #[] 0)) := by
  have hf := f3.alloc (.map #[] 0)
  refine ⟨F, G, _, (h1.fr f2 (fun _ _ h => h)).fr hf (fun _ _ h => h), h2.fr hf (fun _ _ h => h), World.ownsMap_made _ _ _ _, Reads.empty, fun a hF hG => ?_, fun hF => ?_, fun hG => ?_, n1, fun a ha => ?_, ?_, (f1.trans' f2).trans' hf⟩
  · have := h1.lt hF; have := n2 a hG; omega
  · have := h1.lt hF; have := f2.size; have := f3.size; omega
  · have := h2.lt hG; have := f3.size; omega
  · have := n2 a ha; have := f1.size; omega
  · have := f1.size; have := f2.size; have := f3.size; omega
end Go.Proofs.Ytaopiolbjnnnfaa
