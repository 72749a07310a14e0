/- A heap of words in memory: where the struct lies, what its rows hold; what a step leaves alone. Conditions: none. -/
import Derived.Test.YtjjoelhemhnojaaWords
import Derived.Test.YtjjoelhemhnojaaHeapLaw
set_option linter.unusedVariables false
namespace Go.Proofs.Ytjjoelhemhnojaa
open Go.RowKit
open Hp

/-- A step that changes no old block but those of F. -/
structure Keeps (F : Nat → Prop) (a w : World) : Prop where
  os : w.os = a.os
  tape : w.tape = a.tape
  output : w.output = a.output
  size : a.heap.size ≤ w.heap.size
  block : ∀ k, k < a.heap.size → ¬ F k → w.heap[k]? = a.heap[k]?

namespace Keeps
variable {F G : Nat → Prop} {a b w : World}
theorem refl (F : Nat → Prop) (a : World) : Keeps F a a := ⟨rfl, rfl, rfl, Nat.le_refl _, fun _ _ _ => rfl⟩
theorem trans (h : Keeps F a b) (h' : Keeps F b w) : Keeps F a w :=
  ⟨h'.os.trans h.os, h'.tape.trans h.tape, h'.output.trans h.output, Nat.le_trans h.size h'.size, fun k hk hF => (h'.block k (Nat.lt_of_lt_of_le hk h.size) hF).trans (h.block k hk hF)⟩
theorem more (h : Keeps F a w) (hFG : ∀ k, k < a.heap.size → F k → G k) : Keeps G a w := ⟨h.os, h.tape, h.output, h.size, fun k hk hF => h.block k hk fun hf => hF (hFG k hk hf)⟩
theorem drew (h : Keeps F a w) : Keeps F a w.drew := ⟨h.os, h.tape, h.output, h.size, h.block⟩
theorem drewN (h : Keeps F a w) (n : Nat) : Keeps F a (w.drewN n) := ⟨h.os, h.tape, h.output, h.size, h.block⟩
theorem alloc (h : Keeps F a w) (o : Go.Obj) : Keeps F a (w.alloc o) :=
  ⟨h.os, h.tape, h.output, Nat.le_trans h.size (by rw [show (w.alloc o).heap.size = w.heap.size + 1 from by simp]; omega), fun k hk hF => (Below.heap_alloc w o k (Nat.lt_of_lt_of_le hk h.size)).trans (h.block k hk hF)⟩
theorem grown (h : Keeps F a w) {w' : World} {row : Option Nat} (hg : w.grownBy w' row) (hr : ∀ g, row = some g → g < a.heap.size → F g) : Keeps F a w' :=
  ⟨hg.os.trans h.os, hg.tape.trans h.tape, hg.output.trans h.output, Nat.le_trans h.size hg.size, fun k hk hF => (hg.block k (Nat.lt_of_lt_of_le hk h.size) (fun e => hF (hr k e.symm hk))).trans (h.block k hk hF)⟩
theorem setCell (h : Keeps F a w) {q : Addr} (hq : q.block < a.heap.size → F q.block) (u : Value) : Keeps F a (w.setCell q u) :=
  ⟨h.os, h.tape, h.output, by rw [show (w.setCell q u).heap.size = w.heap.size from by simp [World.setCell]]; exact h.size, fun k hk hF => (Below.heap_setCell w q u k (fun e => hF (by subst e; exact hq hk))).trans (h.block k hk hF)⟩
theorem below (h : Keeps F a w) {B : Nat} (hB : B ≤ a.heap.size) (hF : ∀ k, F k → B ≤ k) : Below B a w :=
  ⟨h.os, h.tape, h.output, h.size, fun k hk => h.block k (Nat.lt_of_lt_of_le hk hB) fun hf => by have := hF k hf; omega⟩
end Keeps

theorem ownsRow_kept {w w' : World} {base : Nat} {e : TypeId} {size n : Nat} {v : Value} {xs : List Value} (h : w.ownsRow base e size v n xs) (hk : ∀ g, v.ownBlock = some g → w'.heap[g]? = w.heap[g]?) : w'.ownsRow base e size v n xs := by
  obtain ⟨h1, h2⟩ := h
  refine ⟨h1, ?_⟩
  rcases h2 with h2 | ⟨g, cap, cur, hv, hb, hh, h3⟩
  · exact .inl h2
  · exact .inr ⟨g, cap, cur, hv, hb, (hk g (by rw [hv]; rfl)).trans hh, h3⟩

/-- A heap of n words in use by objs, at block p. -/
structure HeapIn (w : World) (B : Nat) (F : Nat → Prop) (p N : Nat) (objs : List Hp.Ob) : Prop where
  fine : ∀ o ∈ objs, okO o
  le : (flat objs).length ≤ N
  most : N ≤ 1048576
  here : B ≤ p ∧ F p
  low : ∀ k, F k → B ≤ k ∧ k < w.heap.size
  rows : ∃ wv sv, w.heap[p]? = some (.cells #[.int .i64 (N : Int), wv, sv] 66 (0, 0)) ∧ w.ownsRow B 21 1 wv (flat objs).length ((flat objs).map (Value.int .i32)) ∧
    w.ownsRow B 4 1 sv (flat objs).length ((marks objs).map Value.bool) ∧ (∀ g, wv.ownBlock = some g → F g) ∧ (∀ g, sv.ownBlock = some g → F g)

theorem HeapIn.keep {w w' : World} {B p N : Nat} {F : Nat → Prop} {objs : List Hp.Ob} (h : HeapIn w B F p N objs) (hs : w.heap.size ≤ w'.heap.size) (hk : ∀ k, F k → w'.heap[k]? = w.heap[k]?) : HeapIn w' B F p N objs := by
  obtain ⟨wv, sv, h1, h2, h3, h4, h5⟩ := h.rows
  exact ⟨h.fine, h.le, h.most, h.here, fun k hf => ⟨(h.low k hf).1, Nat.lt_of_lt_of_le (h.low k hf).2 hs⟩, wv, sv, (hk p h.here.2).trans h1, ownsRow_kept h2 (fun g hg => hk g (h4 g hg)), ownsRow_kept h3 (fun g hg => hk g (h5 g hg)), h4, h5⟩
theorem HeapIn.drew {w : World} {B p N : Nat} {F : Nat → Prop} {objs : List Hp.Ob} (h : HeapIn w B F p N objs) : HeapIn w.drew B F p N objs := h.keep (Nat.le_refl _) fun _ _ => rfl
theorem HeapIn.drewN {w : World} {B p N : Nat} {F : Nat → Prop} {objs : List Hp.Ob} (h : HeapIn w B F p N objs) (k : Nat) : HeapIn (w.drewN k) B F p N objs := h.keep (Nat.le_refl _) fun _ _ => rfl
theorem HeapIn.keeps {w w' : World} {B p N : Nat} {F G : Nat → Prop} {objs : List Hp.Ob} (h : HeapIn w B F p N objs) (hk : Keeps G w w') (hd : ∀ k, F k → ¬ G k) : HeapIn w' B F p N objs :=
  h.keep hk.size fun k hf => hk.block k (h.low k hf).2 (hd k hf)
/-- What the walk reads. -/
theorem HeapIn.reads {w : World} {B p N : Nat} {F : Nat → Prop} {objs : List Hp.Ob} (h : HeapIn w B F p N objs) : ∃ A c A2 c2, w.cell? ⟨p, 0, none⟩ = some (.int .i64 (N : Int)) ∧ w.cell? ⟨p, 1, none⟩ = some (.slice A (flat objs).length c) ∧
    w.cell? ⟨p, 2, none⟩ = some (.slice A2 (flat objs).length c2) ∧ Sees w w.heap.size A (flat objs).length ((flat objs).map (Value.int .i32)) ∧ Sees w w.heap.size A2 (flat objs).length ((marks objs).map Value.bool) ∧ (A = none → c = 0) := by
  obtain ⟨wv, sv, h1, h2, h3, h4, h5⟩ := h.rows
  obtain ⟨A, c, rfl, hA⟩ := Sees.of_own h2
  obtain ⟨A2, c2, rfl, hA2⟩ := Sees.of_own h3
  refine ⟨A, c, A2, c2, ?_, ?_, ?_, hA, hA2, ?_⟩
  · rw [cell_of_row w p 0 _ 66 (0, 0) h1]; rfl
  · rw [cell_of_row w p 1 _ 66 (0, 0) h1]; rfl
  · rw [cell_of_row w p 2 _ 66 (0, 0) h1]; rfl
  · rintro rfl
    rcases h2.2 with ⟨he, _⟩ | ⟨g, cap, cur, he, _⟩
    · exact (Value.slice.inj he).2.2
    · cases he
/-- A word is put. -/
theorem HeapIn.put {w : World} {B p N : Nat} {F : Nat → Prop} {objs : List Hp.Ob} (h : HeapIn w B F p N objs) {a : Int} {o : Hp.Ob} {i : Nat} (hl : lookO objs a = some o) (hi : i < o.2.length) (x : Int) :
    ∃ b c, w.cell? ⟨p, 1, none⟩ = some (.slice (some ⟨b, 0, none⟩) (flat objs).length c) ∧ (∀ j, w.frozen? ⟨b, j, none⟩ = false) ∧ (∃ u, w.cell? ⟨b, a.toNat + 2 + i, none⟩ = some u) ∧
      HeapIn (w.setCell ⟨b, a.toNat + 2 + i, none⟩ (.int .i32 x)) B F p N (Hp.put objs a i x) ∧ Keeps F w (w.setCell ⟨b, a.toNat + 2 + i, none⟩ (.int .i32 x)) := by
  obtain ⟨wv, sv, h1, h2, h3, h4, h5⟩ := h.rows
  obtain ⟨n, hn, hle, hm, hk, hlen, hw, ho⟩ := look_some _ hl
  obtain ⟨b, c, rfl, _⟩ := h2.form (by omega)
  have hst := h2.stored (a.toNat + 2 + i) (.int .i32 x)
  have hF : F b := h4 b rfl
  have hat := h2.cellAt (a.toNat + 2 + i) (by omega)
  have hbw : w.heap[b]? ≠ w.heap[p]? := by
    rw [h1]
    rcases h2.2 with ⟨he, _⟩ | ⟨g, cap, cur, he, _, hh, _⟩
    · cases he
    · cases he; rw [hh]; intro e; cases e
  have hbs : sv.ownBlock ≠ some b := by
    intro e
    rcases h3.2 with ⟨rfl, _⟩ | ⟨g, cap, cur, rfl, _, hh, _⟩
    · cases e
    · cases e
      rcases h2.2 with ⟨he, _⟩ | ⟨g, cap, cur, he, _, hh', _⟩
      · cases he
      · cases he; rw [hh] at hh'; cases hh'
  have hK : Keeps F w (w.setCell ⟨b, a.toNat + 2 + i, none⟩ (.int .i32 x)) := (Keeps.refl F w).setCell (fun _ => hF) _
  refine ⟨b, c, ?_, fun j => h2.frozenAt j, ⟨((flat objs).map (Value.int .i32))[a.toNat + 2 + i]'(by simp; omega), by rw [hat]; exact List.getElem?_eq_getElem _⟩, ⟨?_, ?_, h.most, h.here, ?_, ?_⟩, hK⟩
  · rw [cell_of_row w p 1 _ 66 (0, 0) h1]; rfl
  · intro q hq
    exact put_fine _ h.fine a i x q hq
  · rw [put_flat_length]; exact h.le
  · intro k hk'
    exact ⟨(h.low k hk').1, Nat.lt_of_lt_of_le (h.low k hk').2 hK.size⟩
  · refine ⟨_, sv, (Below.heap_setCell _ _ _ _ (fun e => hbw (by subst e; rfl))).trans h1, ?_, ?_, h4, h5⟩
    · rw [put_flat_length, put_flat _ hl hi, List.map_set]
      exact hst.1
    · rw [put_flat_length, put_marks]
      exact ownsRow_kept h3 fun g hg => Below.heap_setCell _ _ _ _ (fun e => hbs (by subst e; exact hg))
end Go.Proofs.Ytjjoelhemhnojaa
