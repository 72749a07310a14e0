/- Memory words of the frame's walks: steps that keep old blocks; rows whose elements have several cells; an append onto such a row. No conditions. -/
import Derived.Test.YtppolhpigclbpaaWords
import Derived.Test.YtppolhpigclbpaaRows
import Derived.Deep.RegionWith
import Derived.Deep.DeepCutAuto
import Derived.Deep.CutBlock
import Derived.IntWalk
import Derived.Laws.CopyOwn
set_option linter.unusedVariables false
namespace Go.Proofs.Ytppolhpigclbpaa
open Go.RowKit

/-- A step that changes no old block but those of F. -/
structure Keeps (F : Nat → Prop) (a w : World) : Prop where
  os : w.os = a.os
  tape : w.tape = a.tape
  output : w.output = a.output
  size : a.heap.size ≤ w.heap.size
  block : ∀ k, k < a.heap.size → ¬ F k → w.heap[k]? = a.heap[k]?

namespace Keeps
variable {F G : Nat → Prop} {a b w : World}
theorem refl (F : Nat → Prop) (a : World) : Keeps F a a := ⟨rfl, rfl, rfl, Nat.le_refl _, fun _ _ _ => rfl⟩
theorem trans (h : Keeps F a b) (h' : Keeps F b w) : Keeps F a w :=
  ⟨h'.os.trans h.os, h'.tape.trans h.tape, h'.output.trans h.output, Nat.le_trans h.size h'.size, fun k hk hF => (h'.block k (Nat.lt_of_lt_of_le hk h.size) hF).trans (h.block k hk hF)⟩
theorem more (h : Keeps F a w) (hFG : ∀ k, k < a.heap.size → F k → G k) : Keeps G a w := ⟨h.os, h.tape, h.output, h.size, fun k hk hF => h.block k hk fun hf => hF (hFG k hk hf)⟩
theorem drew (h : Keeps F a w) : Keeps F a w.drew := ⟨h.os, h.tape, h.output, h.size, h.block⟩
theorem drewN (h : Keeps F a w) (n : Nat) : Keeps F a (w.drewN n) := ⟨h.os, h.tape, h.output, h.size, h.block⟩
theorem alloc (h : Keeps F a w) (o : Go.Obj) : Keeps F a (w.alloc o) :=
  ⟨h.os, h.tape, h.output, Nat.le_trans h.size (by rw [show (w.alloc o).heap.size = w.heap.size + 1 from by simp]; omega), fun k hk hF => (Below.heap_alloc w o k (Nat.lt_of_lt_of_le hk h.size)).trans (h.block k hk hF)⟩
theorem grown (h : Keeps F a w) {w' : World} {row : Option Nat} (hg : w.grownBy w' row) (hr : ∀ g, row = some g → g < a.heap.size → F g) : Keeps F a w' :=
  ⟨hg.os.trans h.os, hg.tape.trans h.tape, hg.output.trans h.output, Nat.le_trans h.size hg.size, fun k hk hF => (hg.block k (Nat.lt_of_lt_of_le hk h.size) (fun e => hF (hr k e.symm hk))).trans (h.block k hk hF)⟩
theorem setCell (h : Keeps F a w) {q : Addr} (hq : q.block < a.heap.size → F q.block) (u : Value) : Keeps F a (w.setCell q u) :=
  ⟨h.os, h.tape, h.output, by rw [show (w.setCell q u).heap.size = w.heap.size from by simp [World.setCell]]; exact h.size, fun k hk hF => (Below.heap_setCell w q u k (fun e => hF (by subst e; exact hq hk))).trans (h.block k hk hF)⟩
theorem below (h : Keeps F a w) {B : Nat} (hB : B ≤ a.heap.size) (hF : ∀ k, F k → B ≤ k) : Below B a w :=
  ⟨h.os, h.tape, h.output, h.size, fun k hk => h.block k (Nat.lt_of_lt_of_le hk hB) fun hf => by have := hF k hf; omega⟩
end Keeps

theorem ownsRow_kept {w w' : World} {base : Nat} {e : TypeId} {size n : Nat} {v : Value} {xs : List Value} (h : w.ownsRow base e size v n xs) (hk : ∀ g, v.ownBlock = some g → w'.heap[g]? = w.heap[g]?) : w'.ownsRow base e size v n xs := by
  obtain ⟨h1, h2⟩ := h
  refine ⟨h1, ?_⟩
  rcases h2 with h2 | ⟨g, cap, cur, hv, hb, hh, h3⟩
  · exact .inl h2
  · exact .inr ⟨g, cap, cur, hv, hb, (hk g (by rw [hv]; rfl)).trans hh, h3⟩

theorem ownsRow_less {w : World} {base base' : Nat} {e : TypeId} {size n : Nat} {v : Value} {xs : List Value} (h : w.ownsRow base e size v n xs) (hb : base' ≤ base) : w.ownsRow base' e size v n xs := by
  obtain ⟨h1, h2⟩ := h
  refine ⟨h1, ?_⟩
  rcases h2 with h2 | ⟨g, cap, cur, hv, hg, h3⟩
  · exact .inl h2
  · exact .inr ⟨g, cap, cur, hv, Nat.le_trans hb hg, h3⟩
theorem lt_of_heap {w : World} {k : Nat} {o : Go.Obj} (h : w.heap[k]? = some o) : k < w.heap.size := by
  rcases Nat.lt_or_ge k w.heap.size with h' | h'
  · exact h'
  · rw [Array.getElem?_eq_none h'] at h; cases h
theorem own_type3 {w : World} {B n g : Nat} {e : TypeId} {s : Nat} {v : Value} {xs : List Value} (h : w.ownsRow B e s v n xs) (hg : v.ownBlock = some g) : B ≤ g ∧ g < w.heap.size ∧ ∃ cur, w.heap[g]? = some (.cells cur e (0, 0)) := by
  rcases h.2 with ⟨rfl, _⟩ | ⟨g', cap, cur, rfl, hb, hh, _⟩
  · cases hg
  · cases hg; exact ⟨hb, lt_of_heap hh, cur, hh⟩
/-- The cells of a block that a step left alone. -/
theorem Keeps.cellsOf {G : Nat → Prop} {w w' : World} (hk : Keeps G w w') {b : Nat} {cs : Array Value} {t : TypeId} (hb : w.heap[b]? = some (Go.Obj.cells cs t (0, 0))) (hG : ¬ G b) (j : Nat) : w'.cell? ⟨b, j, none⟩ = cs[j]? ∧ w'.heap[b]? = some (Go.Obj.cells cs t (0, 0)) := by
  have := (hk.block b (lt_of_heap hb) hG).trans hb
  exact ⟨by rw [cell_of_row w' b j cs t (0, 0) this], this⟩
theorem grown_cells {W w' : World} {row : Option Nat} (hg : W.grownBy w' row) {b : Nat} {cs : Array Value} {t : TypeId} (hb : W.heap[b]? = some (Go.Obj.cells cs t (0, 0))) (hr : row ≠ some b) (j : Nat) : w'.cell? ⟨b, j, none⟩ = cs[j]? := by
  have := (hg.block b (lt_of_heap hb) (fun e => hr e.symm)).trans hb
  rw [cell_of_row w' b j cs t (0, 0) this]
theorem new_sees (w : World) (cs : Array Value) (e : TypeId) : Sees (w.alloc (.cells cs e)) (w.heap.size + 1) (some ⟨w.heap.size, 0, none⟩) cs.size cs.toList := by
  refine ⟨by simp, fun _ => ⟨w.heap.size, 0, rfl, by omega, fun j u hu => ?_⟩⟩
  rw [Nat.zero_add, World.cell?_alloc_mark, ← Array.getElem?_toList]
  exact hu
/-- What the row's reading tells of a slice of integers. -/
def IsRow (k : IntKind) (w : World) (a : Option Addr) (len cap : Nat) (zs : List Int) : Prop :=
  (a = none ∧ len = 0 ∧ cap = 0 ∧ zs = []) ∨
  ∃ x, a = some x ∧ len ≤ cap ∧ cap ≤ maxLen ∧ zs.length = cap ∧ (∀ i, i < zs.length → w.cell? (x.add i) = some (.int k (zs.getD i 0))) ∧ ∀ n ∈ zs, (Lit.int k n).wf = true

theorem cell_lt {w : World} {p : Addr} {v : Value} (h : w.cell? p = some v) : p.block < w.heap.size := by
  rcases Nat.lt_or_ge p.block w.heap.size with hlt | hge
  · exact hlt
  · simp [World.cell?, Array.getElem?_eq_none hge] at h
theorem IsRow.cells {k : IntKind} {w : World} {a : Option Addr} {len cap : Nat} {zs : List Int} (h : IsRow k w a len cap zs) :
    len ≤ cap ∧ cap ≤ maxLen ∧ (a = none → cap = 0) ∧ zs.length = cap ∧ (∀ n ∈ zs, (Lit.int k n).wf = true) ∧ Sees w w.heap.size a len ((zs.take len).map (Value.int k)) := by
  rcases h with ⟨rfl, rfl, rfl, rfl⟩ | ⟨x, rfl, hl, hm, hz, hc, hw⟩
  · exact ⟨Nat.le_refl _, Nat.zero_le _, fun _ => rfl, rfl, (fun n hn => by simp at hn), Sees.nil_ _ _ _⟩
  · refine ⟨hl, hm, (fun e => by simp at e), hz, hw, by rw [List.length_map, List.length_take]; omega, fun hn => ?_⟩
    obtain ⟨b, off, spot⟩ := x
    have h0 := hc 0 (by omega)
    have hspot : spot = none := by simpa [Addr.add] using World.cell?_spot h0
    subst hspot
    refine ⟨b, off, rfl, ?_, fun j u hu => ?_⟩
    · have := cell_lt h0
      simpa [Addr.add] using this
    · rw [List.getElem?_map, List.getElem?_take] at hu
      split at hu
      · rename_i hj
        have hj' : j < zs.length := by omega
        rw [List.getElem?_eq_getElem hj'] at hu
        cases hu
        have := hc j hj'
        rw [List.getD_eq_getElem?_getD, List.getElem?_eq_getElem hj'] at this
        unfold Addr.add at this
        split at this
        · rename_i hj0; subst hj0; exact this
        · exact this
      · cases hu
theorem tmod_lo (z : Int) (m : Nat) (hm : 0 < m) : -(m : Int) < z.tmod m ∧ z.tmod m < m := by
  have h1 : z.tmod (m : Int) < m := Int.tmod_lt_of_pos z (by omega)
  have := Int.lt_tmod_of_pos z (show (0 : Int) < m by omega)
  omega
theorem emod_nat (y : Int) (m : Nat) (hm : 0 < m) : ∃ q : Nat, y % m = (q : Int) ∧ q < m := by
  have h4 := Int.emod_nonneg y (show (m : Int) ≠ 0 by omega)
  have h5 := Int.emod_lt_of_pos y (show (0 : Int) < m by omega)
  exact ⟨(y % m).toNat, by omega, by omega⟩
theorem quiet_l {P : Program} {f : FuncId} {args : Array Value} {w : World} {n : Nat} {v : Value}
    (h : Calls P f args (w.drewN n) fun e w' => e = .returned v ∧ w.drewN n = w') : Calls P f args (w.drewN n) fun e w'' => e = .returned v ∧ ∃ m, w'' = w.drewN m :=
  h.mono fun _ _ ⟨he, hm⟩ => ⟨he, n, hm.symm⟩

theorem ret_int {k : IntKind} {a b : Int} (h : a = b) : Ending.returned (.int k a) = .returned (.int k b) := by rw [h]
theorem ret_bool {a b : Bool} (h : a = b) : Ending.returned (.bool a) = .returned (.bool b) := by rw [h]
theorem in64_of {n : Int} (h : (Lit.int .i64 n).wf = true) : -9223372036854775808 ≤ n ∧ n ≤ 9223372036854775807 := by
  simp [Lit.wf, IntKind.min, IntKind.max, IntKind.signed, IntKind.bits] at h
  exact h
def inI32 (x : Int) : Prop := -2147483648 ≤ x ∧ x ≤ 2147483647
theorem in32_of' {n : Int} (h : (Lit.int .i32 n).wf = true) : inI32 n := by
  simp [Lit.wf, IntKind.min, IntKind.max, IntKind.signed, IntKind.bits] at h
  exact h
theorem below_keeps {w w1 w2 : World} (h : Below w.heap.size w w1) (hk : Keeps (fun _ => False) w1 w2) : Below w.heap.size w w2 := h.trans (hk.below h.size fun _ => False.elim)
theorem below_trans {w w1 w2 : World} (h : Below w.heap.size w w1) (h2 : Below w1.heap.size w1 w2) : Below w.heap.size w w2 := h.trans (h2.mono h.size)
theorem Keeps.sees {w W : World} {C n : Nat} {A : Option Addr} {xs : List Value} (h : Sees w C A n xs) (hC : C ≤ w.heap.size) (hk : Keeps (fun _ => False) w W) : Sees W C A n xs := h.below (hk.below hC fun _ h => h.elim)
/-- What the call owns shows itself, elements of several cells. -/
theorem Sees.of_ownN {w : World} {base size n : Nat} {e : TypeId} {v : Value} {xs : List Value} (h : w.ownsRow base e size v n xs) : ∃ A c, v = .slice A n c ∧ n ≤ c ∧ c ≤ maxLen ∧ Sees w w.heap.size A (n * size) xs ∧ (A = none → c = 0) ∧ (∀ b o, A = some ⟨b, o, none⟩ → base ≤ b ∧ o = 0) := by
  obtain ⟨h1, h2⟩ := h
  rcases h2 with ⟨rfl, rfl⟩ | ⟨g, cap, cur, rfl, hb, hh, hnc, hcm, hsz, ht⟩
  · have : xs = [] := List.eq_nil_of_length_eq_zero (by simpa using h1)
    subst this
    exact ⟨none, 0, rfl, Nat.le_refl _, Nat.zero_le _, by rw [Nat.zero_mul]; exact Sees.nil_ _ _ _, fun _ => rfl, fun b o e => by cases e⟩
  · refine ⟨some ⟨g, 0, none⟩, cap, rfl, hnc, hcm, ⟨h1, fun hn => ⟨g, 0, rfl, lt_of_heap hh, fun j u hu => ?_⟩⟩, (fun e => by cases e), fun b o e => by cases e; exact ⟨hb, rfl⟩⟩
    rw [Nat.zero_add, cell_of_row w g j cur e (0, 0) hh]
    rw [← ht, List.getElem?_take] at hu
    split at hu
    · simpa using hu
    · cases hu
section
variable {P : Program} (w : World)
/-- append(own, slice...): from any slice, nil let in; elements of several cells. -/
theorem run_append_seesN (base : Nat) (t ty e : TypeId) (i : TypeInfo) (z : Value) (size bytes : Nat) (ht : P.underlying t = some (.slice e)) (hi : P.info? e = some i) (hz : i.zero = some z)
    (hsize : i.size = size) (hby : i.bytes = bytes) (hzs : z.cells.size = size) (hs0 : 0 < size)
    (v : Value) (n : Nat) (xs : List Value) (hown : w.ownsRow base e size v n xs)
    (B : Nat) (A : Option Addr) (m c : Nat) (news : List Value) (hr : Sees w B A (m * size) news) (hc0 : A = none → c = 0) (h1 : ∀ u ∈ news, u.oneCell' = true)
    (h63 : n + m ≤ maxLen) (hbytes : (n + m) * bytes ≤ 140737488355328) (hbase : base ≤ w.heap.size) :
    ∃ v' w', (Builtin.append_ #[t, t] ty #[v, .slice A m c]).run P w = .ok v' w' ∧ w'.ownsRow base e size v' (n + m) (xs ++ news) ∧ w.grownBy w' v.ownBlock ∧
      (v'.ownBlock = v.ownBlock ∨ v'.ownBlock = some w.heap.size) := by
  obtain ⟨hl, hr⟩ := hr
  by_cases hm : m = 0
  · subst hm
    have hn : news = [] := List.eq_nil_of_length_eq_zero (by simpa using hl)
    subst hn
    rcases A with _ | ad
    · rw [hc0 rfl]
      exact ⟨v, w, run_append_owned_none w base t ty e i size ht hi v n xs hown, by simpa using hown, World.grownBy.refl w _, .inl rfl⟩
    · obtain ⟨v', w', hrun, h2, h3, _, h5⟩ := run_append_own_at (P := P) w base t ty e i z size bytes ht hi hz hsize hby hzs hs0 v n xs hown ad 0 c [] (by simp) (fun j u hu => by simp at hu) (fun u hu => by cases hu) h63 hbytes hbase
      exact ⟨v', w', hrun, h2, h3, h5⟩
  · obtain ⟨b, off, rfl, _, hcell⟩ := hr (Nat.mul_pos (by omega) hs0)
    obtain ⟨v', w', hrun, h2, h3, _, h5⟩ := run_append_own_at (P := P) w base t ty e i z size bytes ht hi hz hsize hby hzs hs0 v n xs hown ⟨b, off, none⟩ m c news (by omega)
      (fun j u hu => by have := hcell j u hu; unfold Addr.add; split
                        · rename_i hj; subst hj; exact this
                        · exact this) h1 h63 hbytes hbase
    exact ⟨v', w', hrun, h2, h3, h5⟩
theorem wpList_append_seesN {ops : Array Oper} {rest : List Oper} {o : Oper} {a : Act} {Q : Exit → Act → World → Prop} (hgd : o.guard = none) (s x : Operand) (t : TypeId)
    (ho : o.op = .call { callee := .builtin .append, args := #[s, x], argTypes := #[t, t] })
    (base : Nat) (e : TypeId) (i : TypeInfo) (z : Value) (size bytes : Nat) (ht : P.underlying t = some (.slice e)) (hi : P.info? e = some i) (hz : i.zero = some z)
    (hsize : i.size = size) (hby : i.bytes = bytes) (hzs : z.cells.size = size) (hs0 : 0 < size)
    (v : Value) (n : Nat) (xs : List Value) (hs : a.eval s = v) (hown : w.ownsRow base e size v n xs)
    (B : Nat) (A : Option Addr) (m c : Nat) (news : List Value) (hx : a.eval x = .slice A m c) (hr : Sees w B A (m * size) news) (hc0 : A = none → c = 0) (h1 : ∀ u ∈ news, u.oneCell' = true)
    (h63 : n + m ≤ maxLen) (hbytes : (n + m) * bytes ≤ 140737488355328) (hbase : base ≤ w.heap.size)
    (h : ∀ v' w', w'.ownsRow base e size v' (n + m) (xs ++ news) → w.grownBy w' v.ownBlock → (v'.ownBlock = v.ownBlock ∨ v'.ownBlock = some w.heap.size) → wpList P ops Q rest (a.put o.dst v') w') : wpList P ops Q (o :: rest) a w := by
  refine wpList_plain hgd fun K hK => ?_
  obtain ⟨v', w', hrun, h2, h3, h4⟩ := run_append_seesN (P := P) w base t o.type e i z size bytes ht hi hz hsize hby hzs hs0 v n xs hown B A m c news hr hc0 h1 h63 hbytes hbase
  unfold Oper.wp execOp
  simp only [ho, resolve, invoke, builtin, Sem.run_bind, Sem.run_pure, Result.andThen_ok, List.map_toArray, List.map_cons, List.map_nil, hs, hx, hrun]
  exact hK _ _ (h v' w' h2 h3 h4)
/-- copy(row, slice): a row that is known whole takes the slice's elements at its head. -/
theorem run_copy_seesN (dT sT ty elem : TypeId) (i : TypeInfo) (size : Nat) (hu : P.underlying dT = some (.slice elem)) (hi : P.info? elem = some i) (hsize : i.size = size)
    (g dLen dCap : Nat) (cur : Array Value) (t : TypeId) (hg : w.heap[g]? = some (.cells cur t (0, 0))) (B : Nat) (A : Option Addr) (m c : Nat) (news : List Value) (hr : Sees w B A (m * size) news) (hm : m ≤ dLen) (hs0 : 0 < size)
    (hfit : m * size ≤ cur.size) (h1 : ∀ u ∈ news, u.oneCell' = true) :
    ∃ w', (Builtin.copy_ #[dT, sT] ty #[.slice (some ⟨g, 0, none⟩) dLen dCap, .slice A m c]).run P w = .ok (goInt m) w' ∧ w'.heap[g]? = some (.cells (news ++ cur.toList.drop (m * size)).toArray t (0, 0)) ∧ Keeps (fun k => k = g) w w' := by
  have hmin : min m dLen = m := by omega
  have hmin' : Nat.min m dLen = m := hmin
  by_cases hm0 : m = 0
  · subst hm0
    have hl : ∀ (x : Addr), (loadCells x 0).run P w = .ok #[] w := fun x => by simpa using run_loadCells_list (P := P) w x [] (by simp)
    have hn : news = [] := List.eq_nil_of_length_eq_zero (by simpa using hr.1)
    refine ⟨w, ?_, by rw [hn]; simpa using hg, Keeps.refl _ w⟩
    cases A <;> simp [Builtin.copy_, run_underlying hu, Builtin.lenOf, Builtin.firstCells, sizeOf, typeInfo, hi, storeCells, hl, hmin]
  · obtain ⟨b, off, rfl, _, hcell⟩ := hr.2 (Nat.mul_pos (by omega) hs0)
    have hl := run_loadCells_list (P := P) w ⟨b, off, none⟩ news (fun j u hu' => by
      have := hcell j u hu'
      unfold Addr.add
      split
      · rename_i hj; subst hj; exact this
      · exact this)
    have hnl : news.length = m * size := hr.1
    have hst := run_storeCells_at P g 0 t news 0 cur w hg (by simpa [hnl] using hfit) h1
    refine ⟨_, ?_, setRow_heap w g cur _ t _ hg, ⟨rfl, rfl, rfl, by simp [World.setRow], fun k hk hne => setRow_other w g k _ (fun e => hne (by simpa using e))⟩⟩
    · simp [Builtin.copy_, run_underlying hu, Builtin.lenOf, Builtin.firstCells, sizeOf, typeInfo, hi, hsize, hmin', ← hnl, hl, hst]
theorem wpList_copy_seesN {ops : Array Oper} {rest : List Oper} {o : Oper} {a : Act} {Q : Exit → Act → World → Prop} (hgd : o.guard = none) (d s : Operand) (dT sT : TypeId)
    (ho : o.op = .call { callee := .builtin .copy, args := #[d, s], argTypes := #[dT, sT] }) (elem : TypeId) (i : TypeInfo) (size : Nat) (hu : P.underlying dT = some (.slice elem)) (hi : P.info? elem = some i) (hsize : i.size = size)
    (g dLen dCap : Nat) (cur : Array Value) (t : TypeId) (hd : a.eval d = .slice (some ⟨g, 0, none⟩) dLen dCap) (hg : w.heap[g]? = some (.cells cur t (0, 0))) (B : Nat) (A : Option Addr) (m c : Nat) (news : List Value) (hs : a.eval s = .slice A m c) (hr : Sees w B A (m * size) news) (hm : m ≤ dLen) (hs0 : 0 < size)
    (hfit : m * size ≤ cur.size) (h1 : ∀ u ∈ news, u.oneCell' = true)
    (h : ∀ w', Hid (w'.heap[g]? = some (.cells (news ++ cur.toList.drop (m * size)).toArray t (0, 0))) → Keeps (fun k => k = g) w w' → wpList P ops Q rest (a.put o.dst (goInt m)) w') : wpList P ops Q (o :: rest) a w := by
  refine wpList_plain hgd fun K hK => ?_
  obtain ⟨w', hrun, h2, h3⟩ := run_copy_seesN (P := P) w dT sT o.type elem i size hu hi hsize g dLen dCap cur t hg B A m c news hr hm hs0 hfit h1
  unfold Oper.wp execOp
  simp only [ho, resolve, invoke, builtin, Sem.run_bind, Sem.run_pure, Result.andThen_ok, List.map_toArray, List.map_cons, List.map_nil, hd, hs, hrun]
  exact hK _ _ (h w' h2 h3)
end
end Go.Proofs.Ytppolhpigclbpaa
