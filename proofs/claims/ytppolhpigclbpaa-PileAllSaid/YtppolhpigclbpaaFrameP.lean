/- Slices of values and of the law's steps that came in, opened to their cells. -/
import Derived.Test.YtppolhpigclbpaaFrameO
import Derived.Deep.Slices
import Derived.Deep.Fields
import Derived.ChangeSame
set_option linter.unusedVariables false
namespace Go.Proofs.Ytppolhpigclbpaa
open Go.ChangeShapes Go.WideShapes Go.Deep Go.RowKit
section
variable {H : Type} {enc : TypeId × Value → H} {P : Program} {w : World} {base : Nat} {spare : Nat → Bool} {held : Bool}
theorem open_slice_fields {t e : TypeId} {fs : Array Field} {fuel : Nat} {cs : List Value} {x : DataW H × List MemPlace} (ht : P.underlying t = some (.slice e)) (he : P.underlying e = some (.struct fs))
    (hone : oneCellFields P fs = true) (hC : P.cellsOf e = fs.size) (h : DataW.trod enc P w base spare held fuel t cs = some x) :
    (cs = [.slice none 0 0] ∧ x = (.nil, [])) ∨
    ∃ (a : Addr) (len cap m : Nat) (D : Nat → DataW H) (Pl : Nat → List MemPlace), cs = [.slice (some a) len cap] ∧ base ≤ a.block ∧ len ≤ cap ∧ cap ≤ maxLen ∧ m = (if spare a.block then cap else len) ∧
      x = (.slice ((List.range len).map D) ((List.range (m - len)).map fun j => D (len + j)), MemPlace.row a (m * fs.size) ++ (List.range m).flatMap Pl) ∧
      ∀ i, i < m → ∃ (ys : List (DataW H × List MemPlace)) (n : Nat), D i = .agg (ys.map (·.1)) ∧ Pl i = ys.flatMap (·.2) ∧ ys.length = fs.size ∧
        ∀ (j : Nat) (f : Field), fs[j]? = some f → ∃ (v : Value) (y : DataW H × List MemPlace), w.cell? (a.add (i * fs.size + j)) = some v ∧ ys[j]? = some y ∧ DataW.trod enc P w base spare held n f.type [v] = some y := by
  rcases open_slice ht h with h0 | ⟨a, len, cap, m, n, D, Pl, hcs, hb, hl, hm, hmm, hx, hi⟩
  · exact .inl h0
  · refine .inr ⟨a, len, cap, m, D, Pl, hcs, hb, hl, hm, hmm, by rw [hC] at hx; exact hx, fun i him => ?_⟩
    obtain ⟨cs', hc, ht'⟩ := hi i him
    rw [hC] at hc
    obtain ⟨ys, n', hn', hy, hlen, hyl, hf⟩ := DataW.trod_struct he ht'
    obtain ⟨_, hcl, hat⟩ := World.cells?_some hc
    simp only [Prod.mk.injEq] at hy
    refine ⟨ys, n', hy.1, hy.2, hyl, fun j f hj => ?_⟩
    obtain ⟨ho, hk⟩ := hone_of hone j f hj
    have hjl : j < fs.size := (Array.getElem?_eq_some_iff.1 hj).1
    have hcell := hat j hjl
    have hv : cs'[j]? = some (cs'[j]'(by omega)) := List.getElem?_eq_getElem (by omega)
    have h1 := hf j f hj
    rw [ho, hk] at h1
    have hone' : (cs'.drop j).take 1 = [cs'[j]'(by omega)] := by
      rw [List.drop_eq_getElem_cons (by omega)]
      rfl
    rw [hone'] at h1
    have hys : ys[j]? = some (ys[j]'(by omega)) := List.getElem?_eq_getElem (by omega)
    refine ⟨_, _, ?_, hys, h1.trans hys⟩
    rw [← Go.Deep.add_add, hcell, hv]
variable {n : Nat} {v : Value} {y : DataW H × List MemPlace}
theorem int_cell {t : TypeId} {k : IntKind} (ht : P.underlying t = some (.int k)) (h : DataW.trod enc P w base spare held n t [v] = some y) : ∃ z, v = .int k z ∧ (Lit.int k z).wf = true := by
  obtain ⟨z, hz, _, hw⟩ := DataW.trod_int ht h
  exact ⟨z, by simpa using hz, hw⟩
theorem bool_cell {t : TypeId} (ht : P.underlying t = some .bool) (h : DataW.trod enc P w base spare held n t [v] = some y) : ∃ z, v = .bool z := by
  obtain ⟨z, hz, _⟩ := DataW.trod_bool ht h
  exact ⟨z, by simpa using hz⟩
end
theorem add_lit0 (b off j : Nat) : (⟨b, off, none⟩ : Addr).add j = ⟨b, off + j, none⟩ := by unfold Addr.add; split <;> simp_all
theorem vals_cell {H : Type} {enc : TypeId × Value → H} {w : World} {base n : Nat} {held : Bool} {v : Value} {x : DataW H × List MemPlace} (h : DataW.trod enc Try.prog w base (fun _ => true) held n 29 [v] = some x) : ∃ a len cap vs, v = .slice a len cap ∧ ValsIn w a len cap vs := by
  rcases open_slice_fields Try.underlying29 Try.underlying39 (by kernel_rfl) (by kernel_rfl) h with ⟨hcs, _⟩ | ⟨ad, len', cap', m, D, Pl, hcs, _, hlc, hmc, hm, _, hi⟩
  · simp at hcs
    subst hcs
    exact ⟨none, 0, 0, [], rfl, ⟨Sees.nil_ _ _ _, Nat.le_refl _, Nat.zero_le _, fun _ => rfl, fun v hv => (List.not_mem_nil hv).elim⟩⟩
  · simp at hcs
    subst hcs
    simp at hm
    subst hm
    have key : ∀ i, i < m → ∃ o : V, inI32 o.2 ∧ w.cell? (ad.add (i * 2)) = some (.bool o.1) ∧ w.cell? (ad.add (i * 2 + 1)) = some (.int .i32 o.2) := by
      intro i him
      obtain ⟨ys, n, _, _, _, hf⟩ := hi i him
      obtain ⟨v0, y0, c0, _, t0⟩ := hf 0 _ rfl
      obtain ⟨v1, y1, c1, _, t1⟩ := hf 1 _ rfl
      obtain ⟨z0, rfl⟩ := bool_cell Try.underlying4 t0
      obtain ⟨z1, rfl, w1⟩ := int_cell Try.underlying21 t1
      exact ⟨(z0, z1), in32_of' w1, c0, c1⟩
    obtain ⟨b, off, spot⟩ := ad
    obtain ⟨f, hf⟩ : ∃ f : Nat → V, ∀ i, i < m → inI32 (f i).2 ∧ w.cell? ((⟨b, off, spot⟩ : Addr).add (i * 2)) = some (.bool (f i).1) ∧ w.cell? ((⟨b, off, spot⟩ : Addr).add (i * 2 + 1)) = some (.int .i32 (f i).2) :=
      ⟨fun i => if h : i < m then (key i h).choose else (false, 0), fun i h => by have := (key i h).choose_spec; simpa only [dif_pos h] using this⟩
    refine ⟨_, _, _, (List.range len').map f, rfl, ⟨⟨by rw [vCells_length]; simp, fun hn => ?_⟩, hlc, hmc, (fun e => by cases e), ?_⟩⟩
    · have h0 := (hf 0 (by omega)).2.1
      have hspot : spot = none := by simpa [Addr.add] using World.cell?_spot h0
      subst hspot
      refine ⟨b, off, rfl, ?_, fun j u hu => ?_⟩
      · have := cell_lt h0
        simpa [Addr.add] using this
      · have hjl : j < len' * 2 := by have := (List.getElem?_eq_some_iff.1 hu).1; rw [vCells_length] at this; simpa using this
        have hil : j / 2 < len' := by omega
        have hv : ((List.range len').map f)[j / 2]? = some (f (j / 2)) := by simp [hil]
        obtain ⟨q0, q1⟩ := vCells_at _ hv
        obtain ⟨_, c0, c1⟩ := hf (j / 2) (by omega)
        rw [add_lit0] at c0 c1
        rcases Nat.mod_two_eq_zero_or_one j with hj | hj
        · have e : j / 2 * 2 = j := by omega
          rw [e] at q0 c0
          rw [hu] at q0
          rw [c0, q0]
        · have e : j / 2 * 2 + 1 = j := by omega
          rw [e] at q1 c1
          rw [hu] at q1
          rw [c1, q1]
    · intro o ho
      obtain ⟨i, hi', rfl⟩ := List.mem_map.1 ho
      exact (hf i (by have := List.mem_range.1 hi'; omega)).1
theorem vals_of {H : Type} {enc : TypeId × Value → H} {w : World} {fuel : Nat} {a : Option Addr} {len cap : Nat} {x : DataW H × List MemPlace} (h : DataW.trod enc Try.prog w 0 (fun _ => true) true fuel 29 [.slice a len cap] = some x) : ∃ vs, ValsIn w a len cap vs := by
  obtain ⟨a', l', c', vs, he, hv⟩ := vals_cell h
  cases he
  exact ⟨vs, hv⟩
/-- One of the law's steps. -/
structure OpF where
  kind : Int
  i : Int
  a : Option Addr
  len : Nat
  cap : Nat
  vs : List V
structure OpF.ok (w : World) (o : OpF) : Prop where
  kind : -9223372036854775808 ≤ o.kind ∧ o.kind ≤ 9223372036854775807
  i : -9223372036854775808 ≤ o.i ∧ o.i ≤ 9223372036854775807
  vs : ValsIn w o.a o.len o.cap o.vs
structure OpsF (w : World) (a : Option Addr) (len cap : Nat) (ops : List OpF) : Prop where
  size : ops.length = len
  le : len ≤ cap ∧ cap ≤ maxLen
  ok : ∀ o ∈ ops, o.ok w
  cells : 0 < len → ∃ b off, a = some ⟨b, off, none⟩ ∧ b < w.heap.size ∧ ∀ i o, ops[i]? = some o → w.cell? ⟨b, off + i * 3, none⟩ = some (.int .i64 o.kind) ∧ w.cell? ⟨b, off + i * 3 + 1, none⟩ = some (.int .i64 o.i) ∧ w.cell? ⟨b, off + i * 3 + 2, none⟩ = some (.slice o.a o.len o.cap)
theorem opsF_of {H : Type} {enc : TypeId × Value → H} {w : World} {fuel : Nat} {a : Option Addr} {len cap : Nat} {x : DataW H × List MemPlace} (h : DataW.trod enc Try.prog w 0 (fun _ => true) true fuel 43 [.slice a len cap] = some x) : ∃ ops, OpsF w a len cap ops := by
  rcases open_slice_fields Try.underlying43 Try.underlying45 (by kernel_rfl) (by kernel_rfl) h with ⟨hcs, _⟩ | ⟨ad, len', cap', m, D, Pl, hcs, _, hlc, hmc, hm, _, hi⟩
  · simp at hcs
    obtain ⟨rfl, rfl, rfl⟩ := hcs
    exact ⟨[], rfl, ⟨Nat.le_refl _, Nat.zero_le _⟩, (fun o ho => (List.not_mem_nil ho).elim), fun h => absurd h (by omega)⟩
  · simp at hcs
    obtain ⟨rfl, rfl, rfl⟩ := hcs
    simp at hm
    subst hm
    have key : ∀ i, i < m → ∃ o : OpF, o.ok w ∧ w.cell? (ad.add (i * 3)) = some (.int .i64 o.kind) ∧ w.cell? (ad.add (i * 3 + 1)) = some (.int .i64 o.i) ∧ w.cell? (ad.add (i * 3 + 2)) = some (.slice o.a o.len o.cap) := by
      intro i him
      obtain ⟨ys, n, _, _, _, hf⟩ := hi i him
      obtain ⟨v0, y0, c0, _, t0⟩ := hf 0 _ rfl
      obtain ⟨v1, y1, c1, _, t1⟩ := hf 1 _ rfl
      obtain ⟨v2, y2, c2, _, t2⟩ := hf 2 _ rfl
      obtain ⟨z0, rfl, w0⟩ := int_cell Try.underlying3 t0
      obtain ⟨z1, rfl, w1⟩ := int_cell Try.underlying3 t1
      obtain ⟨a', l', c', vs, rfl, hv⟩ := vals_cell t2
      exact ⟨⟨z0, z1, a', l', c', vs⟩, ⟨in64_of w0, in64_of w1, hv⟩, c0, c1, c2⟩
    obtain ⟨b, off, spot⟩ := ad
    obtain ⟨f, hf⟩ : ∃ f : Nat → OpF, ∀ i, i < m → (f i).ok w ∧ w.cell? ((⟨b, off, spot⟩ : Addr).add (i * 3)) = some (.int .i64 (f i).kind) ∧ w.cell? ((⟨b, off, spot⟩ : Addr).add (i * 3 + 1)) = some (.int .i64 (f i).i) ∧ w.cell? ((⟨b, off, spot⟩ : Addr).add (i * 3 + 2)) = some (.slice (f i).a (f i).len (f i).cap) :=
      ⟨fun i => if h : i < m then (key i h).choose else ⟨0, 0, none, 0, 0, []⟩, fun i h => by have := (key i h).choose_spec; simpa only [dif_pos h] using this⟩
    refine ⟨(List.range len).map f, by simp, ⟨hlc, hmc⟩, ?_, fun hn => ?_⟩
    · intro o ho
      obtain ⟨i, hi', rfl⟩ := List.mem_map.1 ho
      have him : i < m := by have := List.mem_range.1 hi'; omega
      exact (hf i him).1
    · have h0 := (hf 0 (by omega)).2.1
      have hspot : spot = none := by simpa [Addr.add] using World.cell?_spot h0
      subst hspot
      refine ⟨b, off, rfl, ?_, fun i o ho => ?_⟩
      · have := cell_lt h0
        simpa [Addr.add] using this
      · rw [List.getElem?_map] at ho
        obtain ⟨i', hi', rfl⟩ := Option.map_eq_some_iff.1 ho
        have hil : i < len := by
          have := (List.getElem?_eq_some_iff.1 hi').1
          simpa using this
        rw [List.getElem?_range hil] at hi'
        cases hi'
        have him : i < m := by omega
        obtain ⟨_, c0, c1, c2⟩ := hf i him
        rw [add_lit0] at c0 c1 c2
        simp only [← Nat.add_assoc] at c1 c2
        exact ⟨c0, c1, c2⟩
end Go.Proofs.Ytppolhpigclbpaa
