/- The memory of CopyAll: two rows of the call's own; what the checks read. -/
import Derived.Test.YtjjoelhemhnojaaCopyN
set_option linter.unusedVariables false
namespace Go.Proofs.Ytjjoelhemhnojaa
open Go.RowKit Go.Instr
open Hp Cp

/-- Two rows of the call's own, apart. -/
structure Two (W w : World) (rv pv : Value) (rs ps : List Int) : Prop where
  r : w.ownsRow W.heap.size 3 1 rv rs.length (rs.map (Value.int .i64))
  p : w.ownsRow W.heap.size 3 1 pv ps.length (ps.map (Value.int .i64))
  apart : ∀ g, rv.ownBlock = some g → pv.ownBlock ≠ some g
  kept : Keeps (fun _ => False) W w
namespace Two
variable {W w w' : World} {rv pv v2 : Value} {rs ps l2 : List Int}
theorem none_ (h : Two W w rv pv rs ps) (hk : Keeps (fun _ => False) w w') : Two W w' rv pv rs ps :=
  ⟨ownsRow_kept h.r fun g hg => hk.block g (own_lt h.r hg) id, ownsRow_kept h.p fun g hg => hk.block g (own_lt h.p hg) id, h.apart, h.kept.trans hk⟩
theorem left (h : Two W w rv pv rs ps) (ho : w'.ownsRow W.heap.size 3 1 v2 l2.length (l2.map (Value.int .i64))) (hg : w.grownBy w' rv.ownBlock) (hat : v2.ownBlock = rv.ownBlock ∨ v2.ownBlock = some w.heap.size) : Two W w' v2 pv l2 ps := by
  refine ⟨ho, ownsRow_kept h.p fun g hgg => hg.block g (own_lt h.p hgg) (fun e => h.apart g e.symm hgg), fun g hgg e => ?_, h.kept.grown hg fun g hgg hlt => ?_⟩
  · rcases hat with hat | hat
    · exact h.apart g (hat ▸ hgg) e
    · rw [hat] at hgg
      cases hgg
      have := own_lt h.p e
      omega
  · have := own_ge h.r g hgg
    omega
theorem right (h : Two W w rv pv rs ps) (ho : w'.ownsRow W.heap.size 3 1 v2 l2.length (l2.map (Value.int .i64))) (hg : w.grownBy w' pv.ownBlock) (hat : v2.ownBlock = pv.ownBlock ∨ v2.ownBlock = some w.heap.size) : Two W w' rv v2 rs l2 := by
  refine ⟨ownsRow_kept h.r fun g hgg => hg.block g (own_lt h.r hgg) (fun e => h.apart g hgg e.symm), ho, fun g hgg e => ?_, h.kept.grown hg fun g hgg hlt => ?_⟩
  · rcases hat with hat | hat
    · exact h.apart g hgg (hat ▸ e)
    · rw [hat] at e
      cases e
      have := own_lt h.r hgg
      omega
  · have := own_ge h.p g hgg
    omega
end Two
/-- The roots, by numbers. -/
def rootsI (m : Nat) (R : List Int) : List Int := if m = 0 then [] else (R.take 10).map fun x => cutX m x - 1
theorem rootsI_bd (m : Nat) (R : List Int) : ∀ y ∈ rootsI m R, -1 ≤ y ∧ y < (m : Int) := by
  intro y hy
  unfold rootsI at hy
  split at hy
  · exact (List.not_mem_nil hy).elim
  · obtain ⟨x, _, rfl⟩ := List.mem_map.1 hy
    have := cutX_bd m x
    omega
theorem rootsI_len (m : Nat) (R : List Int) : (rootsI m R).length = if m = 0 then 0 else min R.length 10 := by
  unfold rootsI
  split
  · rfl
  · rw [List.length_map, List.length_take]; omega
theorem rootsI_take {m : Nat} {R : List Int} (hm : 0 < m) {i : Nat} {x : Int} (hi : i < 10) (hx : R[i]? = some x) : (rootsI m R).take (i + 1) = (rootsI m R).take i ++ [cutX m x - 1] := by
  have : (rootsI m R)[i]? = some (cutX m x - 1) := by
    unfold rootsI
    rw [if_neg (by omega), List.getElem?_map, List.getElem?_take, if_pos hi, hx]; rfl
  rw [List.take_add_one, this]; rfl
theorem rootsI_end {m : Nat} {R : List Int} {i : Nat} (h : R.length ≤ i ∨ 10 ≤ i ∨ m = 0) : (rootsI m R).take i = rootsI m R := by
  refine List.take_of_length_le ?_
  rw [rootsI_len]
  split <;> omega
/-- The new numbers of those that live. -/
def toI (ls : List Hp.Ob) (L : List Int) : List Int := (List.range L.length).map fun j => (szI ls (L.take j) : Int)
theorem toI_at (ls : List Hp.Ob) {L : List Int} {j : Nat} (h : j < L.length) : (toI ls L)[j]? = some (szI ls (L.take j) : Int) := by
  unfold toI
  rw [List.getElem?_map, List.getElem?_range h]; rfl
theorem toI_take (ls : List Hp.Ob) {L : List Int} {j : Nat} (h : j < L.length) : (toI ls L).take (j + 1) = (toI ls L).take j ++ [(szI ls (L.take j) : Int)] := by
  rw [List.take_add_one, toI_at ls h]; rfl
theorem toI_length (ls : List Hp.Ob) (L : List Int) : (toI ls L).length = L.length := by simp [toI]
/-- Where the roots have come to. -/
def mvI (ls : List Hp.Ob) (rs : List Int) : List Int := rs.map fun r => if r < 0 then -1 else (szI ls ((orderI ls rs).take (idxI (orderI ls rs) r).toNat) : Int)
/-- What the checks of CopyAll read. -/
structure CpAll (wc w : World) (ls : List Hp.Ob) (rs : List Int) (A1 A9 A10 A15 A16 A17 : Option Addr) (p g : Nat) : Prop where
  obs : ObsIn w w.heap.size A1 ls.length ls
  rts : Sees w w.heap.size A9 rs.length (rs.map (Value.int .i64))
  ps : Sees w w.heap.size A10 rs.length ((rs.map (pl ls)).map (Value.int .i64))
  mv : Sees w w.heap.size A15 rs.length ((mvI ls rs).map (Value.int .i64))
  lv : Sees w w.heap.size A16 (orderI ls rs).length ((orderI ls rs).map (Value.int .i64))
  tos : Sees w w.heap.size A17 (orderI ls rs).length ((toI ls (orderI ls rs)).map (Value.int .i64))
  h : Solo wc w p 300 (laidO ls)
  g : Solo wc w g 300 (copyO (laidO ls) refB (rs.map (pl ls)))
theorem CpAll.keeps {wc w w' : World} {ls : List Hp.Ob} {rs : List Int} {A1 A9 A10 A15 A16 A17 : Option Addr} {p g : Nat} (h : CpAll wc w ls rs A1 A9 A10 A15 A16 A17 p g) (hk : Keeps (fun _ => False) w w') : CpAll wc w' ls rs A1 A9 A10 A15 A16 A17 p g := by
  have hb : Below w.heap.size w w' := hk.below (Nat.le_refl _) fun _ => False.elim
  have hs : ∀ (A : Option Addr) (n : Nat) (xs : List Value), Sees w w.heap.size A n xs → Sees w' w'.heap.size A n xs := fun A n xs h => (h.below hb).more hk.size
  refine ⟨?_, hs _ _ _ h.rts, hs _ _ _ h.ps, hs _ _ _ h.mv, hs _ _ _ h.lv, hs _ _ _ h.tos, h.h.keeps hk, h.g.keeps hk⟩
  obtain ⟨h1, h2⟩ := h.obs.below hb
  refine ⟨h1, fun hn => ?_⟩
  obtain ⟨b, off, e, hlt, hc⟩ := h2 hn
  refine ⟨b, off, e, Nat.lt_of_lt_of_le hlt hk.size, fun i o ho => ?_⟩
  obtain ⟨c1, A2, c2, c3, c4⟩ := hc i o ho
  exact ⟨c1, A2, c2, c3, c4.more hk.size⟩
end Go.Proofs.Ytjjoelhemhnojaa
