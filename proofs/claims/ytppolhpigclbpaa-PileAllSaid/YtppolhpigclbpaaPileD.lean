/- The walks of the row's Push and Pop. -/
import Derived.Test.YtppolhpigclbpaaPileC
import Derived.Deep.AppendLies
import Derived.Deep.RegionLaw
set_option linter.unusedVariables false
namespace Go.Proofs.Ytppolhpigclbpaa
open Go.RowKit

theorem Try.info83 : (Try.prog.info? 83).map (fun i => (i.zero, i.size, i.bytes)) = some (some (.agg #[.int .i64 0, .int .i64 0]), 2, 16) := by kernel_rfl
/-- A pile at block p: its row, its map. -/
structure PileAt (w : World) (B : Nat) (p b : Nat) (lv : Value) (ts : List T) : Prop where
  head : w.heap[p]? = some (Go.Obj.cells #[lv, .map (some b)] 79 (0, 0))
  row : w.ownsRow B 83 2 lv ts.length (tCells ts)
theorem PileAt.apart {w : World} {B p b : Nat} {lv : Value} {ts : List T} (h : PileAt w B p b lv ts) : ∀ g, lv.ownBlock = some g → g ≠ p := by
  intro g hg e
  obtain ⟨_, _, cur, hc⟩ := own_type3 h.row hg
  subst e
  rw [h.head] at hc; cases hc
theorem PileAt.set {w w2 : World} {B p b : Nat} {lv lv2 : Value} {ts ts2 : List T} (h : PileAt w B p b lv ts) (hp : w2.heap[p]? = w.heap[p]?) (ho : w2.ownsRow B 83 2 lv2 ts2.length (tCells ts2)) : PileAt (w2.setCell ⟨p, 0, none⟩ lv2) B p b lv2 ts2 := by
  have hh := hp.trans h.head
  refine ⟨heap_setCell_same w2 p 0 _ 79 _ hh, ownsRow_kept ho fun g hg => Below.heap_setCell _ _ _ _ fun e => ?_⟩
  obtain ⟨_, _, cur, hc⟩ := own_type3 ho hg
  have e' : g = p := e
  subst e'
  rw [hh] at hc; cases hc
theorem PileAt.keep {w w2 : World} {B p b : Nat} {lv : Value} {ts : List T} {G : Nat → Prop} (h : PileAt w B p b lv ts) (hk : Keeps G w w2) (hp : ¬ G p) (hr : ∀ g, lv.ownBlock = some g → ¬ G g) : PileAt w2 B p b lv ts :=
  ⟨(hk.block p (lt_of_heap h.head) hp).trans h.head, ownsRow_kept h.row fun g hg => hk.block g (own_type3 h.row hg).2.1 (hr g hg)⟩
theorem PileAt.none_ {w w2 : World} {B p b : Nat} {lv : Value} {ts : List T} (h : PileAt w B p b lv ts) (hk : Keeps (fun _ => False) w w2) : PileAt w2 B p b lv ts := h.keep hk id fun _ _ => id
set_option maxHeartbeats 1000000 in
theorem row_push (w : World) (B p b : Nat) (lv : Value) (ts : List T) (t : T) (h : PileAt w B p b lv ts) (hB : B ≤ w.heap.size) (hn : ts.length ≤ 1000) : Calls Try.prog 74 #[.pointer (some ⟨p, 0, none⟩), .iface 83 (.agg #[.int .i64 t.1, .int .i64 t.2])] w fun e w' => e = .returned (.tuple #[]) ∧ ∃ lv', PileAt w' B p b lv' (ts ++ [t]) ∧ (∀ k, lv'.ownBlock = some k → lv.ownBlock = some k ∨ w.heap.size ≤ k) ∧ Keeps (fun k => k = p ∨ lv.ownBlock = some k) w w' := by
  obtain ⟨i0, hi0, hz0, hz1, hz2⟩ := info_parts Try.info83
  have hc : w.cell? ⟨p, 0, none⟩ = some lv := by rw [cell_of_row w p 0 _ 79 (0, 0) h.head]; rfl
  have hc' : (w.alloc (.cells #[.int .i64 t.1, .int .i64 t.2] 83)).cell? ⟨p, 0, none⟩ = some lv := (World.cell?_alloc_lt w _ ⟨p, 0, none⟩ (lt_of_heap h.head)).trans hc
  have hz : ∀ j, w.frozen? ⟨p, j, none⟩ = false := fun j => frozen_of_row w p j _ 79 h.head
  have H := hide h
  have HO := hide ((h.row.drew).alloc (.cells #[.int .i64 t.1, .int .i64 t.2] 83))
  have HN := hide (fun j u (hu : ([Value.int .i64 t.1, .int .i64 t.2] : List Value)[j]? = some u) => show (w.drew.alloc (.cells #[.int .i64 t.1, .int .i64 t.2] 83)).cell? ((⟨w.heap.size, 0, none⟩ : Addr).add j) = some u from by
    rw [add_lit0, Nat.zero_add]
    have := World.cell?_alloc_mark w.drew #[.int .i64 t.1, .int .i64 t.2] 83 (0, 0) j
    rw [show w.drew.heap.size = w.heap.size from rfl] at this
    rw [this, ← Array.getElem?_toList]
    exact hu)
  have HN3 := hide hn
  have hta : ∀ w, (Instr.typeAssert (.iface 83 (.agg #[.int .i64 t.1, .int .i64 t.2])) 20 83 false).run Try.prog w = .ok (.agg #[.int .i64 t.1, .int .i64 t.2]) w := fun _ => by kernel_rfl
  clear h
  generalize hts : ts.length = n at *
  have HTS := hide hts
  clear hts
  go_enter Try.func74, Try.ntmps74
  go_upto_region 0 with fail
  go_region_law (refine step_append_lies _ rfl (.tmp 7) (.tmp 10) 77 rfl B 83 i0 _ 2 16 Try.underlying77 hi0 hz0 hz1 hz2 (by rfl) (by omega) lv n (tCells ts) (by rfl) HO.out ⟨w.heap.size, 0, none⟩ 1 1 [.int .i64 t.1, .int .i64 t.2] (by rfl) (by rfl) HN.out (by intro u hu; simp at hu; rcases hu with rfl | rfl <;> rfl) (by omega) (by unfold maxLen; omega) (by omega) (by simp; omega) _ rfl ?_; intro g cap w2 hown hg hat hlt; have hp2 : w2.heap[p]? = w.heap[p]? := (hg.block p (by have := lt_of_heap H.out.head; simp; omega) (fun e => H.out.apart p e.symm rfl)).trans (Below.heap_alloc w.drew _ p (lt_of_heap H.out.head)); have q1 : w2.cell? ⟨p, 0, none⟩ = some lv := (World.cell?_of_block hp2).trans hc; have q2 : w2.frozen? ⟨p, 0, none⟩ = false := frozen_of_row w2 p 0 _ 79 (hp2.trans H.out.head); have HE := hide (H.out.set hp2 (ts2 := ts ++ [t]) (show w2.ownsRow B 83 2 (.slice (some ⟨g, 0, none⟩) (n + 1) cap) (ts ++ [t]).length (tCells (ts ++ [t])) from by rw [List.length_append, HTS.out, tCells_append]; exact hown)); have HK := hide ((((Keeps.refl (fun k => k = p ∨ lv.ownBlock = some k) w).alloc (.cells #[.int .i64 t.1, .int .i64 t.2] 83)).drew.grown hg (fun g hg _ => .inr hg)).setCell (q := ⟨p, 0, none⟩) (fun _ => .inl rfl) (.slice (some ⟨g, 0, none⟩) (n + 1) cap)); have HAT := hide (show ∀ k, (Value.slice (some ⟨g, 0, none⟩) (n + 1) cap).ownBlock = some k → lv.ownBlock = some k ∨ w.heap.size ≤ k from fun k hk => by cases hk; exact hat.imp id fun e => (by have e2 : g = w.heap.size + 1 := (by simpa using e); exact (show w.heap.size ≤ g by omega))); clear hown hg hat hlt hp2)
  all_goals go_end0
  all_goals exact ⟨rfl, _, HE.out, HAT.out, HK.out⟩
set_option maxHeartbeats 1000000 in
theorem row_pop (w : World) (B p b n : Nat) (lv : Value) (ts : List T) (h : PileAt w B p b lv ts) (hn : ts.length = n + 1) (hn3 : n ≤ 1000) : Calls Try.prog 73 #[.pointer (some ⟨p, 0, none⟩)] w fun e w' => e = .returned (.iface 83 (.agg #[.int .i64 (at_ ts n).1, .int .i64 (at_ ts n).2])) ∧ ∃ lv', PileAt w' B p b lv' (ts.take n) ∧ lv'.ownBlock = lv.ownBlock ∧ Keeps (fun k => k = p) w w' := by
  have hrow := h.row
  rw [hn] at hrow
  obtain ⟨g, c, rfl, _⟩ := hrow.form (by omega)
  obtain ⟨A, c', he, hc1, hc2, hs, _⟩ := Sees.of_ownN hrow
  cases he
  obtain ⟨b1, off, he, hb, c0, c1⟩ := SeesT.at2 hs (k := n) (by omega)
  cases he
  rw [Nat.zero_add] at c0 c1
  have hc3 : (c : Int) ≤ 9223372036854775807 := by unfold maxLen at hc2; omega
  have q0 : w.cell? ⟨p, 0, none⟩ = some (.slice (some ⟨g, 0, none⟩) (n + 1) c) := by rw [cell_of_row w p 0 _ 79 (0, 0) h.head]; rfl
  have hz : ∀ j, w.frozen? ⟨p, j, none⟩ = false := fun j => frozen_of_row w p j _ 79 h.head
  have htl : (ts.take n).length = n := by rw [List.length_take]; omega
  have hps : p < w.heap.size := lt_of_heap h.head
  have hset := h.set rfl (ts2 := ts.take n) (lv2 := .slice (some ⟨g, 0, none⟩) n c) (by
    rw [htl]
    have := ownsRow_take (A := some ⟨g, 0, none⟩) (c := c) (show w.ownsRow B 83 2 (.slice (some ⟨g, 0, none⟩) (n + 1) c) (n + 1) (tCells ts) from hrow) (m := n) (by omega)
    rw [← tCells_take] at this
    exact this)
  have hk0 := (Keeps.refl (fun k => k = p) w).setCell (q := ⟨p, 0, none⟩) (fun _ => rfl) (.slice (some ⟨g, 0, none⟩) n c)
  have HE := hide (hset.none_ ((Keeps.refl (fun _ => False) _).alloc (.cells #[.int .i64 (at_ ts n).1, .int .i64 (at_ ts n).2] 83)))
  have HK := hide (hk0.alloc (.cells #[.int .i64 (at_ ts n).1, .int .i64 (at_ ts n).2] 83))
  clear h hrow hs htl hset hk0
  generalize at_ ts n = t at *
  generalize ts.take n = us at *
  go_enter Try.func73, Try.ntmps73
  go_wp2_with fail
  go_ret
  exact ⟨rfl, _, HE.out, rfl, HK.out⟩
end Go.Proofs.Ytppolhpigclbpaa
