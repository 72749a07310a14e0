/- A slice of the law's steps that came in, opened to its cells. -/
import Derived.Test.YtjjoelhemhnojaaHeapP
import Derived.Deep.Slices
import Derived.Deep.Fields
import Derived.ChangeSame
set_option linter.unusedVariables false
namespace Go.Proofs.Ytjjoelhemhnojaa
open Go.ChangeShapes Go.WideShapes Go.Deep Go.RowKit
section
variable {H : Type} {enc : TypeId × Value → H} {P : Program} {w : World} {base : Nat} {spare : Nat → Bool} {held : Bool}
theorem open_slice_fields {t e : TypeId} {fs : Array Field} {fuel : Nat} {cs : List Value} {x : DataW H × List MemPlace} (ht : P.underlying t = some (.slice e)) (he : P.underlying e = some (.struct fs))
    (hone : oneCellFields P fs = true) (hC : P.cellsOf e = fs.size) (h : DataW.trod enc P w base spare held fuel t cs = some x) :
    (cs = [.slice none 0 0] ∧ x = (.nil, [])) ∨
    ∃ (a : Addr) (len cap m : Nat) (D : Nat → DataW H) (Pl : Nat → List MemPlace), cs = [.slice (some a) len cap] ∧ base ≤ a.block ∧ len ≤ cap ∧ cap ≤ maxLen ∧ m = (if spare a.block then cap else len) ∧
      x = (.slice ((List.range len).map D) ((List.range (m - len)).map fun j => D (len + j)), MemPlace.row a (m * fs.size) ++ (List.range m).flatMap Pl) ∧
      ∀ i, i < m → ∃ (ys : List (DataW H × List MemPlace)) (n : Nat), D i = .agg (ys.map (·.1)) ∧ Pl i = ys.flatMap (·.2) ∧ ys.length = fs.size ∧
        ∀ (j : Nat) (f : Field), fs[j]? = some f → ∃ (v : Value) (y : DataW H × List MemPlace), w.cell? (a.add (i * fs.size + j)) = some v ∧ ys[j]? = some y ∧ DataW.trod enc P w base spare held n f.type [v] = some y := by
  rcases open_slice ht h with h0 | ⟨a, len, cap, m, n, D, Pl, hcs, hb, hl, hm, hmm, hx, hi⟩
  · exact .inl h0
  · refine .inr ⟨a, len, cap, m, D, Pl, hcs, hb, hl, hm, hmm, by rw [hC] at hx; exact hx, fun i him => ?_⟩
    obtain ⟨cs', hc, ht'⟩ := hi i him
    rw [hC] at hc
    obtain ⟨ys, n', hn', hy, hlen, hyl, hf⟩ := DataW.trod_struct he ht'
    obtain ⟨_, hcl, hat⟩ := World.cells?_some hc
    simp only [Prod.mk.injEq] at hy
    refine ⟨ys, n', hy.1, hy.2, hyl, fun j f hj => ?_⟩
    obtain ⟨ho, hk⟩ := hone_of hone j f hj
    have hjl : j < fs.size := (Array.getElem?_eq_some_iff.1 hj).1
    have hcell := hat j hjl
    have hv : cs'[j]? = some (cs'[j]'(by omega)) := List.getElem?_eq_getElem (by omega)
    have h1 := hf j f hj
    rw [ho, hk] at h1
    have hone' : (cs'.drop j).take 1 = [cs'[j]'(by omega)] := by
      rw [List.drop_eq_getElem_cons (by omega)]
      rfl
    rw [hone'] at h1
    have hys : ys[j]? = some (ys[j]'(by omega)) := List.getElem?_eq_getElem (by omega)
    refine ⟨_, _, ?_, hys, h1.trans hys⟩
    rw [← Go.Deep.add_add, hcell, hv]
end

theorem int_cell {H : Type} {enc : TypeId × Value → H} {w : World} {base : Nat} {spare : Nat → Bool} {held : Bool} {t : TypeId} {k : IntKind} {n : Nat} {v : Value} {y : DataW H × List MemPlace} (ht : Try.prog.underlying t = some (.int k)) (h : DataW.trod enc Try.prog w base spare held n t [v] = some y) :
    ∃ z, v = .int k z ∧ (Lit.int k z).wf = true := by
  obtain ⟨z, hz, _, hw⟩ := DataW.trod_int ht h
  exact ⟨z, by simpa using hz, hw⟩
theorem opsIn_of {H : Type} {enc : TypeId × Value → H} {w : World} {fuel : Nat} {a : Option Addr} {len cap : Nat} {x : DataW H × List MemPlace} (h : DataW.trod enc Try.prog w 0 (fun _ => true) true fuel 22 [.slice a len cap] = some x) : ∃ ops, OpsIn w w.heap.size a len ops := by
  rcases open_slice_fields Try.underlying22 Try.underlying28 (by kernel_rfl) (by kernel_rfl) h with ⟨hcs, _⟩ | ⟨ad, len', cap', m, D, Pl, hcs, _, hlc, _, hm, _, hi⟩
  · simp at hcs
    obtain ⟨rfl, rfl, rfl⟩ := hcs
    exact ⟨[], rfl, (fun o ho => (List.not_mem_nil ho).elim), fun h => absurd h (by omega)⟩
  · simp at hcs
    obtain ⟨rfl, rfl, rfl⟩ := hcs
    simp at hm
    subst hm
    have key : ∀ i, i < m → ∃ o : OpT, o.ok ∧ w.cell? (ad.add (i * 6)) = some (.int .i64 o.kind) ∧ w.cell? (ad.add (i * 6 + 1)) = some (.int .i64 o.k) ∧ w.cell? (ad.add (i * 6 + 2)) = some (.int .i64 o.n) ∧
        w.cell? (ad.add (i * 6 + 3)) = some (.int .i64 o.at_) ∧ w.cell? (ad.add (i * 6 + 4)) = some (.int .i64 o.i) ∧ w.cell? (ad.add (i * 6 + 5)) = some (.int .i32 o.x) := by
      intro i him
      obtain ⟨ys, n, _, _, _, hf⟩ := hi i him
      obtain ⟨v0, y0, c0, _, t0⟩ := hf 0 _ rfl
      obtain ⟨v1, y1, c1, _, t1⟩ := hf 1 _ rfl
      obtain ⟨v2, y2, c2, _, t2⟩ := hf 2 _ rfl
      obtain ⟨v3, y3, c3, _, t3⟩ := hf 3 _ rfl
      obtain ⟨v4, y4, c4, _, t4⟩ := hf 4 _ rfl
      obtain ⟨v5, y5, c5, _, t5⟩ := hf 5 _ rfl
      obtain ⟨z0, rfl, w0⟩ := int_cell Try.underlying3 t0
      obtain ⟨z1, rfl, w1⟩ := int_cell Try.underlying3 t1
      obtain ⟨z2, rfl, w2⟩ := int_cell Try.underlying3 t2
      obtain ⟨z3, rfl, w3⟩ := int_cell Try.underlying3 t3
      obtain ⟨z4, rfl, w4⟩ := int_cell Try.underlying3 t4
      obtain ⟨z5, rfl, w5⟩ := int_cell Try.underlying21 t5
      exact ⟨⟨z0, z1, z2, z3, z4, z5⟩, ⟨in64_of w0, in64_of w1, in64_of w2, in64_of w3, in64_of w4, in32_of w5⟩, c0, c1, c2, c3, c4, c5⟩
    obtain ⟨b, off, spot⟩ := ad
    obtain ⟨f, hf⟩ : ∃ f : Nat → OpT, ∀ i, i < m → (f i).ok ∧ w.cell? ((⟨b, off, spot⟩ : Addr).add (i * 6)) = some (.int .i64 (f i).kind) ∧ w.cell? ((⟨b, off, spot⟩ : Addr).add (i * 6 + 1)) = some (.int .i64 (f i).k) ∧ w.cell? ((⟨b, off, spot⟩ : Addr).add (i * 6 + 2)) = some (.int .i64 (f i).n) ∧
        w.cell? ((⟨b, off, spot⟩ : Addr).add (i * 6 + 3)) = some (.int .i64 (f i).at_) ∧ w.cell? ((⟨b, off, spot⟩ : Addr).add (i * 6 + 4)) = some (.int .i64 (f i).i) ∧ w.cell? ((⟨b, off, spot⟩ : Addr).add (i * 6 + 5)) = some (.int .i32 (f i).x) :=
      ⟨fun i => if h : i < m then (key i h).choose else ⟨0, 0, 0, 0, 0, 0⟩, fun i h => by have := (key i h).choose_spec; simpa only [dif_pos h] using this⟩
    refine ⟨(List.range len).map f, by simp, ?_, fun hn => ?_⟩
    · intro o ho
      obtain ⟨i, hi', rfl⟩ := List.mem_map.1 ho
      have him : i < m := by have := List.mem_range.1 hi'; omega
      exact (hf i him).1
    · have h0 := (hf 0 (by omega)).2.1
      have hspot : spot = none := by simpa [Addr.add] using World.cell?_spot h0
      subst hspot
      have hadd : ∀ j, (⟨b, off, none⟩ : Addr).add j = ⟨b, off + j, none⟩ := fun j => by unfold Addr.add; split <;> simp_all
      refine ⟨b, off, rfl, ?_, fun i o ho => ?_⟩
      · have := cell_lt h0
        simpa [Addr.add] using this
      · rw [List.getElem?_map] at ho
        obtain ⟨i', hi', rfl⟩ := Option.map_eq_some_iff.1 ho
        have hil : i < len := by
          have := (List.getElem?_eq_some_iff.1 hi').1
          simpa using this
        rw [List.getElem?_range hil] at hi'
        cases hi'
        have him : i < m := by omega
        obtain ⟨_, c0, c1, c2, c3, c4, c5⟩ := hf i him
        rw [hadd] at c0 c1 c2 c3 c4 c5
        simp only [← Nat.add_assoc] at c1 c2 c3 c4 c5
        exact ⟨c0, c1, c2, c3, c4, c5⟩
end Go.Proofs.Ytjjoelhemhnojaa
