/- A map of the call's own, keyed by ints: what a look-up gives, what a store of a new key leaves. No conditions but the types. -/
import Derived.Test.YtjjoelhemhnojaaHeapJ
import Derived.Maps.Own
set_option linter.unusedVariables false
namespace Go.Proofs.Ytjjoelhemhnojaa
open Go.RowKit

/-- What the map holds, in the order in which it came. -/
def IMap (w : World) (b : Nat) (l : List (Int × Value)) : Prop := ∃ (es : Array MapEntry) (clock : Nat), w.heap[b]? = some (Obj.map es clock) ∧ es.toList.map (fun e => (e.key, e.val)) = l.map (fun p => (Value.int .i64 p.1, p.2))
def found (l : List (Int × Value)) (x : Int) : Option Value := (l.find? fun p => p.1 == x).map (·.2)
theorem find_now (x : Int) : ∀ (es : List MapEntry) (l : List (Int × Value)) (i : Nat), es.map (fun e => (e.key, e.val)) = l.map (fun p => (Value.int .i64 p.1, p.2)) → ∃ r, Instr.findNow (.int .i64) (.int .i64 x) es i = some r ∧ r.map (·.2) = found l x
  | [], [], i, _ => ⟨none, rfl, rfl⟩
  | [], _ :: _, i, h => by cases h
  | _ :: _, [], i, h => by cases h
  | e :: es, p :: l, i, h => by
    simp only [List.map_cons, List.cons.injEq, Prod.mk.injEq] at h
    obtain ⟨⟨h1, h2⟩, h3⟩ := h
    by_cases hx : x = p.1
    · subst hx
      exact ⟨some (i, e.val), by simp [Instr.findNow, h1, Instr.sameNow], by simp [found, h2]⟩
    · obtain ⟨r, hr, hv⟩ := find_now x es l (i + 1) h3
      refine ⟨r, ?_, ?_⟩
      · simp [Instr.findNow, h1, Instr.sameNow, show (x == p.1) = false from by simpa using hx, hr]
      · rw [hv]
        simp [found, show (p.1 == x) = false from by simpa using fun e => hx e.symm]
section
variable {P : Program} {w w' : World} {b : Nat} {l : List (Int × Value)} {t k e : TypeId} {z : Value}
theorem IMap.look (h : IMap w b l) (ht : P.underlying t = some (.map k e)) (hk : P.underlying k = some (.int .i64)) (hz : (zeroValue e).run P w = .ok z w) (x : Int) : (Instr.lookup t (.map (some b)) (.int .i64 x) false).run P w = .ok ((found l x).getD z) w := by
  obtain ⟨es, clock, hb, hes⟩ := h
  obtain ⟨r, hr, hv⟩ := find_now x es.toList l 0 hes
  have hf := MapKept.run_findKey (w := w) hk hr
  have hc := MapKept.run_checkKey (P := P) (w := w) (k := .int .i64 x) hk rfl es.isEmpty 9999
  rw [← hv]
  cases r with
  | none => simp [Instr.lookup, run_underlying ht, MapKept.run_getObj_map hb, hc, hf, Result.andThen, hz]
  | some q => simp [Instr.lookup, run_underlying ht, MapKept.run_getObj_map hb, hc, hf, Result.andThen]
theorem IMap.look2 (h : IMap w b l) (ht : P.underlying t = some (.map k e)) (hk : P.underlying k = some (.int .i64)) (hz : (zeroValue e).run P w = .ok z w) (x : Int) : (Instr.lookup t (.map (some b)) (.int .i64 x) true).run P w = .ok (.tuple #[(found l x).getD z, .bool (found l x).isSome]) w := by
  obtain ⟨es, clock, hb, hes⟩ := h
  obtain ⟨r, hr, hv⟩ := find_now x es.toList l 0 hes
  have hf := MapKept.run_findKey (w := w) hk hr
  have hc := MapKept.run_checkKey (P := P) (w := w) (k := .int .i64 x) hk rfl es.isEmpty 9999
  rw [← hv]
  cases r with
  | none => simp [Instr.lookup, run_underlying ht, MapKept.run_getObj_map hb, hc, hf, Result.andThen, hz]
  | some q => simp [Instr.lookup, run_underlying ht, MapKept.run_getObj_map hb, hc, hf, Result.andThen]
theorem IMap.put (h : IMap w b l) (ht : P.underlying t = some (.map k e)) (hk : P.underlying k = some (.int .i64)) {x : Int} (hn : found l x = none) (v : Value) : ∃ w', (Instr.mapUpdate t (.map (some b)) (.int .i64 x) v).run P w = .ok () w' ∧ IMap w' b (l ++ [(x, v)]) ∧ Keeps (fun k => k = b) w w' ∧ w'.heap.size = w.heap.size := by
  obtain ⟨es, clock, hb, hes⟩ := h
  obtain ⟨r, hr, hv⟩ := find_now x es.toList l 0 hes
  rw [hn] at hv
  have hrn : r = none := by cases r with | none => rfl | some q => cases hv
  subst hrn
  have hf := MapKept.run_findKey (w := w) hk hr
  have hc := MapKept.run_checkKey (P := P) (w := w) (k := .int .i64 x) hk rfl false 9999
  have hset := MapKept.heap_set (o' := Obj.map (es.push { key := .int .i64 x, val := v, born := clock }) (clock + 1)) hb
  refine ⟨{ w with heap := w.heap.setIfInBounds b (Obj.map (es.push { key := .int .i64 x, val := v, born := clock }) (clock + 1)) }, ?_, ⟨_, _, hset.1, ?_⟩, ⟨rfl, rfl, rfl, ?_, fun j _ hne => hset.2 j hne⟩, ?_⟩
  · simp [Instr.mapUpdate, run_underlying ht, MapKept.run_getObj_map hb, hc, hf, Result.andThen, MapKept.run_setObj_map _ hb]
  · simp [Array.toList_push, hes]
  · simp
  · simp
theorem IMap.kept {G : Nat → Prop} (h : IMap w b l) (hk : Keeps G w w') (hb : ¬ G b) : IMap w' b l := by
  obtain ⟨es, clock, h1, h2⟩ := h
  exact ⟨es, clock, (hk.block b (lt_of_heap h1) hb).trans h1, h2⟩
theorem IMap.lt (h : IMap w b l) : b < w.heap.size := by
  obtain ⟨es, clock, h1, h2⟩ := h
  exact lt_of_heap h1
theorem IMap.made (w : World) : IMap (w.alloc (.map #[] 0)) w.heap.size [] := ⟨#[], 0, (MapKept.heap_alloc w _).1, rfl⟩
end
theorem found_append (l : List (Int × Value)) (x y : Int) (v : Value) : found (l ++ [(x, v)]) y = (found l y).or (if x = y then some v else none) := by
  unfold found
  rw [List.find?_append]
  cases h : List.find? (fun p => p.1 == y) l with
  | some q => simp
  | none =>
    by_cases hx : x = y
    · simp [hx]
    · simp [hx, show (x == y) = false from by simpa using hx]
end Go.Proofs.Ytjjoelhemhnojaa
