/- The walk of the heap's Make where there is room. -/
import Derived.Test.YtjjoelhemhnojaaHeapE
set_option linter.unusedVariables false
namespace Go.Proofs.Ytjjoelhemhnojaa
open Go.RowKit
open Hp

/-- The struct and its two rows. -/
structure Parts (w : World) (B p N : Nat) (wv sv : Value) (nw ns : Nat) (ws ss : List Value) : Prop where
  ge : B ≤ p
  blk : w.heap[p]? = some (.cells #[.int .i64 (N : Int), wv, sv] 66 (0, 0))
  words : w.ownsRow B 21 1 wv nw ws
  marks : w.ownsRow B 4 1 sv ns ss
theorem own_type {w : World} {B n g : Nat} {e : TypeId} {v : Value} {xs : List Value} (h : w.ownsRow B e 1 v n xs) (hg : v.ownBlock = some g) : ∃ cur, w.heap[g]? = some (.cells cur e (0, 0)) := by
  rcases h.2 with ⟨rfl, _⟩ | ⟨g', cap, cur, rfl, _, hh, _⟩
  · cases hg
  · cases hg; exact ⟨cur, hh⟩
theorem lt_of_heap {w : World} {k : Nat} {o : Go.Obj} (h : w.heap[k]? = some o) : k < w.heap.size := by
  rcases Nat.lt_or_ge k w.heap.size with h' | h'
  · exact h'
  · rw [Array.getElem?_eq_none h'] at h; cases h
namespace Parts
variable {w w2 : World} {B p N nw ns : Nat} {wv sv : Value} {ws ss : List Value}
theorem keep (P : Parts w B p N wv sv nw ns ws ss) {G : Nat → Prop} (hk : Keeps G w w2) (h1 : ¬ G p) (h2 : ∀ g, wv.ownBlock = some g → ¬ G g) (h3 : ∀ g, sv.ownBlock = some g → ¬ G g) : Parts w2 B p N wv sv nw ns ws ss := by
  refine ⟨P.ge, (hk.block p (lt_of_heap P.blk) h1).trans P.blk, ownsRow_kept P.words fun g hg => ?_, ownsRow_kept P.marks fun g hg => ?_⟩
  · obtain ⟨cur, hc⟩ := own_type P.words hg
    exact hk.block g (lt_of_heap hc) (h2 g hg)
  · obtain ⟨cur, hc⟩ := own_type P.marks hg
    exact hk.block g (lt_of_heap hc) (h3 g hg)
theorem none_ (P : Parts w B p N wv sv nw ns ws ss) (hk : Keeps (fun _ => False) w w2) : Parts w2 B p N wv sv nw ns ws ss := P.keep hk id (fun _ _ => id) (fun _ _ => id)
theorem cells (P : Parts w B p N wv sv nw ns ws ss) : w.cell? ⟨p, 0, none⟩ = some (.int .i64 (N : Int)) ∧ w.cell? ⟨p, 1, none⟩ = some wv ∧ w.cell? ⟨p, 2, none⟩ = some sv ∧ (∀ j, w.frozen? ⟨p, j, none⟩ = false) := by
  refine ⟨?_, ?_, ?_, fun j => frozen_of_row w p j _ 66 P.blk⟩ <;> rw [cell_of_row w p _ _ 66 (0, 0) P.blk] <;> rfl
theorem store1 (P : Parts w B p N wv sv nw ns ws ss) (hk : Keeps (fun k => wv.ownBlock = some k) w w2) {v2 : Value} {n2 : Nat} {xs2 : List Value} (hrow : w2.ownsRow B 21 1 v2 n2 xs2) :
    w2.cell? ⟨p, 1, none⟩ = some wv ∧ w2.cell? ⟨p, 2, none⟩ = some sv ∧ w2.frozen? ⟨p, 1, none⟩ = false ∧ Parts (w2.setCell ⟨p, 1, none⟩ v2) B p N v2 sv n2 ns xs2 ss := by
  have hb : w2.heap[p]? = some (.cells #[.int .i64 (N : Int), wv, sv] 66 (0, 0)) := (hk.block p (lt_of_heap P.blk) (fun e => by obtain ⟨cur, hc⟩ := own_type P.words e; rw [P.blk] at hc; cases hc)).trans P.blk
  refine ⟨by rw [cell_of_row w2 p _ _ 66 (0, 0) hb]; rfl, by rw [cell_of_row w2 p _ _ 66 (0, 0) hb]; rfl, frozen_of_row w2 p 1 _ 66 hb, P.ge, heap_setCell_same w2 p 1 _ 66 v2 hb, ownsRow_kept hrow fun g hg => ?_, ownsRow_kept P.marks fun g hg => ?_⟩
  · refine Below.heap_setCell _ _ _ _ fun e => ?_
    obtain ⟨cur, hc⟩ := own_type hrow hg
    subst e
    rw [hb] at hc; cases hc
  · obtain ⟨cur, hc⟩ := own_type P.marks hg
    refine (Below.heap_setCell _ _ _ _ fun e => ?_).trans (hk.block g (lt_of_heap hc) fun e => ?_)
    · subst e; rw [P.blk] at hc; cases hc
    · obtain ⟨cur', hc'⟩ := own_type P.words e; rw [hc] at hc'; cases hc'
theorem store2 (P : Parts w B p N wv sv nw ns ws ss) (hk : Keeps (fun k => sv.ownBlock = some k) w w2) {v2 : Value} {n2 : Nat} {xs2 : List Value} (hrow : w2.ownsRow B 4 1 v2 n2 xs2) :
    w2.cell? ⟨p, 2, none⟩ = some sv ∧ w2.frozen? ⟨p, 2, none⟩ = false ∧ Parts (w2.setCell ⟨p, 2, none⟩ v2) B p N wv v2 nw n2 ws xs2 := by
  have hb : w2.heap[p]? = some (.cells #[.int .i64 (N : Int), wv, sv] 66 (0, 0)) := (hk.block p (lt_of_heap P.blk) (fun e => by obtain ⟨cur, hc⟩ := own_type P.marks e; rw [P.blk] at hc; cases hc)).trans P.blk
  refine ⟨by rw [cell_of_row w2 p _ _ 66 (0, 0) hb]; rfl, frozen_of_row w2 p 2 _ 66 hb, P.ge, heap_setCell_same w2 p 2 _ 66 v2 hb, ownsRow_kept P.words fun g hg => ?_, ownsRow_kept hrow fun g hg => ?_⟩
  · obtain ⟨cur, hc⟩ := own_type P.words hg
    refine (Below.heap_setCell _ _ _ _ fun e => ?_).trans (hk.block g (lt_of_heap hc) fun e => ?_)
    · subst e; rw [P.blk] at hc; cases hc
    · obtain ⟨cur', hc'⟩ := own_type P.marks e; rw [hc] at hc'; cases hc'
  · refine Below.heap_setCell _ _ _ _ fun e => ?_
    obtain ⟨cur, hc⟩ := own_type hrow hg
    subst e
    rw [hb] at hc; cases hc
theorem keep_one {w w1 w2 : World} {v : Value} (hK : Keeps (fun _ => False) w w1) (hg : w1.grownBy w2 v.ownBlock) : Keeps (fun j => v.ownBlock = some j) w w2 :=
  (hK.more fun _ _ h => h.elim).grown hg fun g hg _ => hg
theorem keep_two {w w1 w2 w3 : World} {v v2 : Value} (hK : Keeps (fun _ => False) w w1) (hg : w1.grownBy w2 v.ownBlock) (hat : v2.ownBlock = v.ownBlock ∨ v2.ownBlock = some w1.heap.size) (hg2 : w2.grownBy w3 v2.ownBlock) : Keeps (fun j => v.ownBlock = some j) w w3 :=
  ((hK.more fun _ _ h => h.elim).grown hg fun g hg _ => hg).grown hg2 fun g hg2' hlt => by
    rcases hat with e | e
    · rw [← e]; exact hg2'
    · rw [e] at hg2'
      have := Option.some.inj hg2'
      have := hK.size
      omega
theorem at_two {w w1 w2 : World} {v v2 v3 : Value} (hs : w.heap.size ≤ w1.heap.size) (hg : w1.heap.size ≤ w2.heap.size) (hat : v2.ownBlock = v.ownBlock ∨ v2.ownBlock = some w1.heap.size) (hat2 : v3.ownBlock = v2.ownBlock ∨ v3.ownBlock = some w2.heap.size) : ∀ g, v3.ownBlock = some g → v.ownBlock = some g ∨ w.heap.size ≤ g := by
  intro g h
  rcases hat2 with e | e
  · rcases hat with e' | e'
    · rw [← e', ← e]; exact .inl h
    · rw [e, e'] at h
      have := Option.some.inj h
      exact .inr (by omega)
  · rw [e] at h
    have := Option.some.inj h
    exact .inr (by omega)
end Parts
theorem new_sees (w : World) (cs : Array Value) (e : TypeId) : Sees (w.alloc (.cells cs e)) (w.heap.size + 1) (some ⟨w.heap.size, 0, none⟩) cs.size cs.toList := by
  refine ⟨by simp, fun _ => ⟨w.heap.size, 0, rfl, by omega, fun j u hu => ?_⟩⟩
  rw [Nat.zero_add, World.cell?_alloc_mark, ← Array.getElem?_toList]
  exact hu
end Go.Proofs.Ytjjoelhemhnojaa
