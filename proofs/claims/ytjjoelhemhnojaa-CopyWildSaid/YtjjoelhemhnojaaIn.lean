/- What a slice of integers that came in shows. Conditions: none. -/
import Derived.Test.YtjjoelhemhnojaaHeapK
set_option linter.unusedVariables false
namespace Go.Proofs.Ytjjoelhemhnojaa
open Go.RowKit
open Hp

/-- What the row's reading tells of a slice of integers. -/
def IsRow (k : IntKind) (w : World) (a : Option Addr) (len cap : Nat) (zs : List Int) : Prop :=
  (a = none ∧ len = 0 ∧ cap = 0 ∧ zs = []) ∨
  ∃ x, a = some x ∧ len ≤ cap ∧ cap ≤ maxLen ∧ zs.length = cap ∧ (∀ i, i < zs.length → w.cell? (x.add i) = some (.int k (zs.getD i 0))) ∧ ∀ n ∈ zs, (Lit.int k n).wf = true

theorem cell_lt {w : World} {p : Addr} {v : Value} (h : w.cell? p = some v) : p.block < w.heap.size := by
  rcases Nat.lt_or_ge p.block w.heap.size with hlt | hge
  · exact hlt
  · simp [World.cell?, Array.getElem?_eq_none hge] at h
theorem IsRow.cells {k : IntKind} {w : World} {a : Option Addr} {len cap : Nat} {zs : List Int} (h : IsRow k w a len cap zs) :
    len ≤ cap ∧ cap ≤ maxLen ∧ (a = none → cap = 0) ∧ zs.length = cap ∧ (∀ n ∈ zs, (Lit.int k n).wf = true) ∧ Sees w w.heap.size a len ((zs.take len).map (Value.int k)) := by
  rcases h with ⟨rfl, rfl, rfl, rfl⟩ | ⟨x, rfl, hl, hm, hz, hc, hw⟩
  · exact ⟨Nat.le_refl _, Nat.zero_le _, fun _ => rfl, rfl, (fun n hn => by simp at hn), Sees.nil_ _ _ _⟩
  · refine ⟨hl, hm, (fun e => by simp at e), hz, hw, by rw [List.length_map, List.length_take]; omega, fun hn => ?_⟩
    obtain ⟨b, off, spot⟩ := x
    have h0 := hc 0 (by omega)
    have hspot : spot = none := by simpa [Addr.add] using World.cell?_spot h0
    subst hspot
    refine ⟨b, off, rfl, ?_, fun j u hu => ?_⟩
    · have := cell_lt h0
      simpa [Addr.add] using this
    · rw [List.getElem?_map, List.getElem?_take] at hu
      split at hu
      · rename_i hj
        have hj' : j < zs.length := by omega
        rw [List.getElem?_eq_getElem hj'] at hu
        cases hu
        have := hc j hj'
        rw [List.getD_eq_getElem?_getD, List.getElem?_eq_getElem hj'] at this
        unfold Addr.add at this
        split at this
        · rename_i hj0; subst hj0; exact this
        · exact this
      · cases hu
theorem in32_of {n : Int} (h : (Lit.int .i32 n).wf = true) : inI32 n := by
  simp [Lit.wf, IntKind.min, IntKind.max, IntKind.signed, IntKind.bits] at h
  exact h
/-- Where objects begin. -/
def placesFrom (n : Nat) : List Hp.Ob → List Nat
  | [] => []
  | o :: l => n :: placesFrom (n + 2 + o.2.length) l
theorem placesFrom_append (l : List Hp.Ob) : ∀ (n : Nat) (o : Hp.Ob), placesFrom n (l ++ [o]) = placesFrom n l ++ [n + (flat l).length] := by
  induction l with
  | nil => intro n o; simp [placesFrom, flat]
  | cons p l ih =>
    intro n o
    simp only [List.cons_append, placesFrom, ih]
    simp [flat]
    omega
theorem placesFrom_length (l : List Hp.Ob) : ∀ n, (placesFrom n l).length = l.length := by
  induction l with
  | nil => intro n; rfl
  | cons p l ih => intro n; simp [placesFrom, ih]
theorem places_look (l : List Hp.Ob) : ∀ (n : Nat) {i a : Nat}, (placesFrom n l)[i]? = some a → n ≤ a ∧ ∃ o, l[i]? = some o ∧ lookO l ((a : Int) - n) = some o := by
  induction l with
  | nil => intro n i a h; simp [placesFrom] at h
  | cons p l ih =>
    intro n i a h
    cases i with
    | zero =>
      simp [placesFrom] at h
      subst h
      exact ⟨Nat.le_refl _, p, rfl, by unfold lookO; rw [if_pos (by omega)]⟩
    | succ i =>
      simp only [placesFrom, List.getElem?_cons_succ] at h
      obtain ⟨h1, o, h2, h3⟩ := ih _ h
      refine ⟨by omega, o, h2, ?_⟩
      unfold lookO
      rw [if_neg (by omega), ← h3]
      congr 1
      omega
end Go.Proofs.Ytjjoelhemhnojaa
