/- Objects by numbers that came in, opened to their cells. -/
import Derived.Test.YtjjoelhemhnojaaCopyL
import Derived.Test.YtjjoelhemhnojaaHeapQ
set_option linter.unusedVariables false
namespace Go.Proofs.Ytjjoelhemhnojaa
open Go.ChangeShapes Go.WideShapes Go.Deep Go.RowKit
open Hp Cp

theorem ints_opened {H : Type} {enc : TypeId × Value → H} {w : World} {n : Nat} {v : Value} {y : DataW H × List MemPlace} (h : DataW.trod enc Try.prog w 0 (fun _ => true) true n 41 [v] = some y) :
    ∃ (A : Option Addr) (l c : Nat) (xs : List Int), v = .slice A l c ∧ (l : Int) ≤ 9223372036854775807 ∧ Sees w w.heap.size A l (xs.map (Value.int .i64)) ∧ ∀ x ∈ xs, -9223372036854775808 ≤ x ∧ x ≤ 9223372036854775807 := by
  have key : ∃ A l c zs, v = .slice A l c ∧ IsRow .i64 w A l c zs := by
    rcases open_ints Try.underlying41 Try.underlying3 (by kernel_rfl) h with ⟨hcs, _⟩ | ⟨x, l, c, zs, hcs, _, hl, hm, hz, _, hcell, hwz⟩
    · exact ⟨none, 0, 0, [], by simpa using hcs, .inl ⟨rfl, rfl, rfl, rfl⟩⟩
    · exact ⟨some x, l, c, zs, by simpa using hcs, .inr ⟨_, rfl, hl, hm, by simpa using hz, hcell, hwz⟩⟩
  obtain ⟨A, l, c, zs, rfl, hr⟩ := key
  obtain ⟨h1, h2, _, h4, h5, h6⟩ := hr.cells
  exact ⟨A, l, c, zs.take l, rfl, by unfold maxLen at h2; omega, h6, fun x hx => in64_of (h5 x (List.mem_of_mem_take hx))⟩
/-- What the row's reading tells of the law's objects. -/
structure ObsRow (w : World) (a : Option Addr) (len cap : Nat) (os : List Hp.Ob) : Prop where
  obs : ObsIn w w.heap.size a len os
  wide : Wide os
  few : (len : Int) ≤ 9223372036854775807
  lens : ∀ o ∈ os, (o.2.length : Int) ≤ 9223372036854775807
theorem obs_of {H : Type} {enc : TypeId × Value → H} {w : World} {fuel : Nat} {a : Option Addr} {len cap : Nat} {x : DataW H × List MemPlace} (h : DataW.trod enc Try.prog w 0 (fun _ => true) true fuel 48 [.slice a len cap] = some x) : ∃ os, ObsRow w a len cap os := by
  rcases open_slice_fields Try.underlying48 Try.underlying56 (by kernel_rfl) (by kernel_rfl) h with ⟨hcs, _⟩ | ⟨ad, len', cap', m, D, Pl, hcs, _, hlc, hcm, hm, _, hi⟩
  · simp at hcs
    obtain ⟨rfl, rfl, rfl⟩ := hcs
    exact ⟨[], ⟨rfl, fun h => absurd h (by omega)⟩, fun o ho => (List.not_mem_nil ho).elim, by omega, fun o ho => (List.not_mem_nil ho).elim⟩
  · simp at hcs
    obtain ⟨rfl, rfl, rfl⟩ := hcs
    simp at hm
    subst hm
    have key : ∀ i, i < m → ∃ o : Hp.Ob, (-9223372036854775808 ≤ o.1 ∧ o.1 ≤ 9223372036854775807) ∧ (∀ x ∈ o.2, -9223372036854775808 ≤ x ∧ x ≤ 9223372036854775807) ∧ (o.2.length : Int) ≤ 9223372036854775807 ∧ w.cell? (ad.add (i * 2)) = some (.int .i64 o.1) ∧
        ∃ A2 c2, w.cell? (ad.add (i * 2 + 1)) = some (.slice A2 o.2.length c2) ∧ Sees w w.heap.size A2 o.2.length (o.2.map (Value.int .i64)) := by
      intro i him
      obtain ⟨ys, n, _, _, _, hf⟩ := hi i him
      obtain ⟨v0, y0, c0, _, t0⟩ := hf 0 _ rfl
      obtain ⟨v1, y1, c1, _, t1⟩ := hf 1 _ rfl
      obtain ⟨z0, rfl, w0⟩ := int_cell Try.underlying3 t0
      obtain ⟨A2, l, c2, xs, rfl, hl, hs, hw⟩ := ints_opened t1
      have hxl : xs.length = l := by have := hs.1; simpa using this
      subst hxl
      exact ⟨(z0, xs), in64_of w0, hw, hl, c0, A2, c2, c1, hs⟩
    obtain ⟨f, hf⟩ := choose_lt (α := Hp.Ob) key
    obtain ⟨b, off, spot⟩ := ad
    have hall : ∀ o ∈ (List.range len).map f, ∃ i, i < m ∧ o = f i := fun o ho => by
      obtain ⟨i, hi', rfl⟩ := List.mem_map.1 ho
      exact ⟨i, by have := List.mem_range.1 hi'; omega, rfl⟩
    refine ⟨(List.range len).map f, ⟨by simp, fun hn => ?_⟩, fun o ho => ?_, by unfold maxLen at hcm; omega, fun o ho => ?_⟩
    · have h0 := (hf 0 (by omega)).2.2.2.1
      have hspot : spot = none := by simpa [Addr.add] using World.cell?_spot h0
      subst hspot
      have hadd : ∀ j, (⟨b, off, none⟩ : Addr).add j = ⟨b, off + j, none⟩ := fun j => by unfold Addr.add; split <;> simp_all
      refine ⟨b, off, rfl, ?_, fun i o ho => ?_⟩
      · have := cell_lt h0
        simpa [Addr.add] using this
      · rw [List.getElem?_map] at ho
        obtain ⟨i', hi', rfl⟩ := Option.map_eq_some_iff.1 ho
        have hil : i < len := by
          have := (List.getElem?_eq_some_iff.1 hi').1
          simpa using this
        rw [List.getElem?_range hil] at hi'
        cases hi'
        obtain ⟨_, _, _, c0, A2, c2, c1, hs⟩ := hf i (by omega)
        rw [hadd] at c0 c1
        exact ⟨c0, A2, c2, by rw [Nat.add_assoc]; exact c1, hs⟩
    · obtain ⟨i, him, rfl⟩ := hall o ho
      exact ⟨(hf i him).1, (hf i him).2.1⟩
    · obtain ⟨i, him, rfl⟩ := hall o ho
      exact (hf i him).2.2.1
end Go.Proofs.Ytjjoelhemhnojaa
