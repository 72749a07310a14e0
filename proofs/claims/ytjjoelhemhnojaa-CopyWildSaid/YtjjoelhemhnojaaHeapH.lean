/- Make, said of heaps. -/
import Derived.Test.YtjjoelhemhnojaaHeapG
set_option linter.unusedVariables false
namespace Go.Proofs.Ytjjoelhemhnojaa
open Go.RowKit
open Hp

/-- F with what a step has made. -/
def grownF (F : Nat → Prop) (a w : World) : Nat → Prop := fun j => F j ∨ (a.heap.size ≤ j ∧ j < w.heap.size)
theorem own_lt {w : World} {B n g : Nat} {e : TypeId} {v : Value} {xs : List Value} (h : w.ownsRow B e 1 v n xs) (hg : v.ownBlock = some g) : g < w.heap.size := by
  obtain ⟨cur, hc⟩ := own_type h hg
  exact lt_of_heap hc
theorem HeapIn.make {w : World} {B p N : Nat} {F : Nat → Prop} {objs : List Hp.Ob} (h : HeapIn w B F p N objs) (k : Int) (n : Nat) (hyes : mayO k n = true) (hroom : (n : Int) + 2 ≤ (N : Int) - (flat objs).length) :
    Calls Try.prog 17 #[.pointer (some ⟨p, 0, none⟩), .int .i64 k, .int .i64 (n : Int)] w fun e w' => e = .returned (.tuple #[.int .i64 ((flat objs).length : Int), .bool true]) ∧
      HeapIn w' B (grownF F w w') p N (objs ++ [(k, List.replicate n 0)]) ∧ Keeps F w w' := by
  obtain ⟨wv, sv, h1, h2, h3, h4, h5⟩ := h.rows
  have hlow := h.low p h.here.2
  have hmay : 0 ≤ k ∧ k ≤ 10000 ∧ n ≤ 1000 := by have := hyes; simp [mayO] at this; omega
  refine (parts_make (n := n) ⟨h.here.1, h1, h2, h3⟩ k (by omega) hyes (by omega) h.most).mono ?_
  rintro e w' ⟨rfl, v2, s2, hp, hk, hv, hs⟩
  have hfl : (flat (objs ++ [(k, List.replicate n 0)])).length = (flat objs).length + 2 + n := by rw [flat_append, List.length_append]; simp [flat]; omega
  refine ⟨rfl, ⟨?_, by rw [hfl]; omega, h.most, ⟨h.here.1, .inl h.here.2⟩, ?_, v2, s2, hp.blk, ?_, ?_, ?_, ?_⟩, hk.more ?_⟩
  · intro o ho
    rcases List.mem_append.1 ho with ho | ho
    · exact h.fine o ho
    · rw [List.mem_singleton.1 ho]
      exact ⟨hmay.1, hmay.2.1, by simpa using hmay.2.2⟩
  · rintro j (hj | hj)
    · exact ⟨(h.low j hj).1, Nat.lt_of_lt_of_le (h.low j hj).2 hk.size⟩
    · exact ⟨by omega, hj.2⟩
  · rw [hfl]
    have := hp.words
    simpa [flat_append, flat] using this
  · rw [hfl]
    have := hp.marks
    rw [show (flat objs).length + 1 + (n + 1) = (flat objs).length + 2 + n from by omega] at this
    simpa [marks_append, marks] using this
  · intro g hg
    rcases hv g hg with h' | h'
    · exact .inl (h4 g h')
    · exact .inr ⟨h', own_lt hp.words hg⟩
  · intro g hg
    rcases hs g hg with h' | h'
    · exact .inl (h5 g h')
    · exact .inr ⟨h', own_lt hp.marks hg⟩
  · rintro j _ (rfl | hj | hj)
    · exact h.here.2
    · exact h4 j hj
    · exact h5 j hj
end Go.Proofs.Ytjjoelhemhnojaa
