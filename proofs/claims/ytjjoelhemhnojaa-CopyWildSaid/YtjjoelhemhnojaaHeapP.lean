/- The walk of the law HeapAll. -/
import Derived.Test.YtjjoelhemhnojaaHeapO
import Derived.Deep.RegionLaw
import Derived.Deep.AppendLies
set_option linter.unusedVariables false
namespace Go.Proofs.Ytjjoelhemhnojaa
open Go.RowKit
open Hp

/-- One step of the law's, as it came in. -/
structure OpT where
  kind : Int
  k : Int
  n : Int
  at_ : Int
  i : Int
  x : Int
def OpT.ok (o : OpT) : Prop := (-9223372036854775808 ≤ o.kind ∧ o.kind ≤ 9223372036854775807) ∧ (-9223372036854775808 ≤ o.k ∧ o.k ≤ 9223372036854775807) ∧ (-9223372036854775808 ≤ o.n ∧ o.n ≤ 9223372036854775807) ∧
  (-9223372036854775808 ≤ o.at_ ∧ o.at_ ≤ 9223372036854775807) ∧ (-9223372036854775808 ≤ o.i ∧ o.i ≤ 9223372036854775807) ∧ (-2147483648 ≤ o.x ∧ o.x ≤ 2147483647)
def OpsIn (w : World) (B : Nat) (A : Option Addr) (n : Nat) (ops : List OpT) : Prop :=
  ops.length = n ∧ (∀ o ∈ ops, o.ok) ∧ (0 < n → ∃ b off, A = some ⟨b, off, none⟩ ∧ b < B ∧ ∀ (i : Nat) (o : OpT), ops[i]? = some o →
    w.cell? ⟨b, off + i * 6, none⟩ = some (.int .i64 o.kind) ∧ w.cell? ⟨b, off + i * 6 + 1, none⟩ = some (.int .i64 o.k) ∧ w.cell? ⟨b, off + i * 6 + 2, none⟩ = some (.int .i64 o.n) ∧
    w.cell? ⟨b, off + i * 6 + 3, none⟩ = some (.int .i64 o.at_) ∧ w.cell? ⟨b, off + i * 6 + 4, none⟩ = some (.int .i64 o.i) ∧ w.cell? ⟨b, off + i * 6 + 5, none⟩ = some (.int .i32 o.x))
theorem OpsIn.keep {w w' : World} {B n : Nat} {A : Option Addr} {ops : List OpT} (h : OpsIn w B A n ops) (hk : ∀ p : Addr, p.block < B → w'.cell? p = w.cell? p) : OpsIn w' B A n ops := by
  refine ⟨h.1, h.2.1, fun hn => ?_⟩
  obtain ⟨b, off, hA, hb, hc⟩ := h.2.2 hn
  refine ⟨b, off, hA, hb, fun i o ho => ?_⟩
  obtain ⟨c0, c1, c2, c3, c4, c5⟩ := hc i o ho
  exact ⟨(hk _ hb).trans c0, (hk _ hb).trans c1, (hk _ hb).trans c2, (hk _ hb).trans c3, (hk _ hb).trans c4, (hk _ hb).trans c5⟩
theorem OpsIn.below {w w' : World} {B n : Nat} {A : Option Addr} {ops : List OpT} (h : OpsIn w B A n ops) (hb : Below B w w') : OpsIn w' B A n ops := h.keep fun _ hp => hb.cell hp
/-- What holds at each round's head. -/
def AllRel (w : World) (p N top : Nat) (lv used i : Value) (wr : World) : Prop :=
  ∃ (j : Nat) (objs : List Hp.Ob) (gs : List Nat) (T : Nat), i = .int .i64 (j : Int) ∧ j ≤ top ∧ used = .int .i64 ((flat objs).length : Int) ∧ objs.length ≤ j ∧ (∀ x ∈ flat objs, inI32 x) ∧ AllSt w wr T p N objs objs gs lv
def AllEnd (w : World) (p N : Nat) (lv used : Value) (wr : World) : Prop :=
  ∃ (objs : List Hp.Ob) (gs : List Nat) (T : Nat), used = .int .i64 ((flat objs).length : Int) ∧ objs.length ≤ 50 ∧ (∀ x ∈ flat objs, inI32 x) ∧ AllSt w wr T p N objs objs gs lv
theorem Try.info33 : (Try.prog.info? 33).map (fun i => (i.zero, i.size, i.bytes)) = some (some (.agg #[.int .i64 0, .int .i64 0, .slice none 0 0]), 3, 40) := by kernel_rfl
set_option maxHeartbeats 1000000 in
theorem make_no2 {w : World} {B p N : Nat} {F : Nat → Prop} {objs : List Hp.Ob} (h : HeapIn w B F p N objs) (k n : Int) (hno : mayO k n = false) :
    Calls Try.prog 17 #[.pointer (some ⟨p, 0, none⟩), .int .i64 k, .int .i64 n] w fun e w' => e = .returned (.tuple #[.int .i64 (-1), .bool false]) ∧ Keeps (fun _ => False) w w' := by
  obtain ⟨A, c, A2, c2, h0, h1, h2, hw, hs, hc⟩ := h.reads
  have hm := fun W => may_any k n W
  rw [hno] at hm
  have C := fun W => hide (hm W)
  clear hw hs h hc hm hno h1 h2
  go_enter Try.func17, Try.ntmps17
  go_wp2
  go_quiet ((go_at_call 37; exact quiet_l (C _).out))
  go_wp2
  go_ret2
  exact ⟨rfl, (Keeps.refl _ w).drewN _⟩
theorem AllSt.make_no {w0 w : World} {T p N : Nat} {ho objs : List Hp.Ob} {gs : List Nat} {lv : Value} (h : AllSt w0 w T p N ho objs gs lv) (k n : Int) (hno : ¬ (mayO k n = true ∧ n + 2 ≤ (N : Int) - (flat ho).length)) :
    Calls Try.prog 17 #[.pointer (some ⟨p, 0, none⟩), .int .i64 k, .int .i64 n] w fun e w' => e = .returned (.tuple #[.int .i64 (-1), .bool false]) ∧ AllSt w0 w' T p N ho objs gs lv ∧ Keeps (fun k => k < T) w w' := by
  obtain ⟨F, h1, h2⟩ := h.heapIn
  have hc : Calls Try.prog 17 #[.pointer (some ⟨p, 0, none⟩), .int .i64 k, .int .i64 n] w fun e w' => e = .returned (.tuple #[.int .i64 (-1), .bool false]) ∧ Keeps (fun _ => False) w w' := by
    cases hm : mayO k n with
    | false => exact make_no2 h1 k n hm
    | true =>
      refine Go.Proofs.Ytjjoelhemhnojaa.make_no h1 k n (.inr (by by_cases hh : n + 2 ≤ (N : Int) - (flat ho).length; exact absurd ⟨hm, hh⟩ hno; omega)) ?_
      simp [mayO] at hm
      omega
  exact hc.mono fun e w' ⟨he, hk⟩ => ⟨he, h.none_ hk, hk.more fun _ _ => False.elim⟩
/-- The cells of a block that a step left alone. -/
theorem Keeps.cellsOf {G : Nat → Prop} {w w' : World} (hk : Keeps G w w') {b : Nat} {cs : Array Value} {t : TypeId} (hb : w.heap[b]? = some (Go.Obj.cells cs t (0, 0))) (hG : ¬ G b) (j : Nat) : w'.cell? ⟨b, j, none⟩ = cs[j]? ∧ w'.heap[b]? = some (Go.Obj.cells cs t (0, 0)) := by
  have := (hk.block b (lt_of_heap hb) hG).trans hb
  exact ⟨by rw [cell_of_row w' b j cs t (0, 0) this], this⟩
theorem AllSt.lvT {w0 w : World} {T p N : Nat} {ho objs : List Hp.Ob} {gs : List Nat} {lv : Value} (h : AllSt w0 w T p N ho objs gs lv) : ∀ g, lv.ownBlock = some g → g < T := by
  obtain ⟨⟨F, h1, h2, h3, h4, h5, h6, h7, h8⟩, hb, ht⟩ := h
  exact fun g hg => (h4 g hg).2.2
theorem grown_cells {W w' : World} {row : Option Nat} (hg : W.grownBy w' row) {b : Nat} {cs : Array Value} {t : TypeId} (hb : W.heap[b]? = some (Go.Obj.cells cs t (0, 0))) (hr : row ≠ some b) (j : Nat) : w'.cell? ⟨b, j, none⟩ = cs[j]? := by
  have := (hg.block b (lt_of_heap hb) (fun e => hr e.symm)).trans hb
  rw [cell_of_row w' b j cs t (0, 0) this]
theorem zeros_cells (m : Nat) : madeCells #[.int .i32 0] m = (((List.replicate m (0 : Int)).map (Value.int .i32)).toArray) := by
  apply Array.ext'
  rw [toList_madeCells_one]
  simp
theorem AllRel.listed {w w2 w3 : World} {p N top j L m g cap : Nat} {k : Int} {objs : List Hp.Ob} {gs : List Nat} {lv : Value} {X : Go.Obj} (hj : j + 1 ≤ top) (hol : objs.length ≤ j) (hL : (flat objs).length = L) (hio : ∀ x ∈ flat objs, inI32 x) (hmay : mayO k m = true)
    (h : AllSt w w2 w2.heap.size p N (objs ++ [(k, List.replicate m 0)]) objs gs lv) (hk : Keeps (fun _ => False) w2 (((w2.alloc (Go.Obj.cells (madeCells #[.int .i32 0] m) 21)).alloc X).drew))
    (ho : w3.ownsRow w.heap.size 33 3 (.slice (some ⟨g, 0, none⟩) (objs.length + 1) cap) (objs.length + 1) (recCells 0 objs gs ++ [.int .i64 (L : Int), .int .i64 k, .slice (some ⟨w2.heap.size, 0, none⟩) m m]))
    (hg : (((w2.alloc (Go.Obj.cells (madeCells #[.int .i32 0] m) 21)).alloc X).drew).grownBy w3 lv.ownBlock) (hat : lv.ownBlock = some g ∨ g = w2.heap.size + 2) (used : Value) (hu : used = .int .i64 ((L : Int) + ((m : Int) + 2))) :
    AllRel w p N top (.slice (some ⟨g, 0, none⟩) (objs.length + 1) cap) used (.int .i64 ((j : Int) + 1)) w3 := by
  have h1 : 0 ≤ k ∧ k ≤ 10000 ∧ m ≤ 1000 := by have := hmay; simp [mayO] at this; omega
  refine ⟨j + 1, objs ++ [(k, List.replicate m 0)], gs ++ [w2.heap.size], w3.heap.size, by go_num, hj, ?_, by simp; omega, ?_, ?_⟩
  · rw [hu, flat_append, List.length_append, hL]
    simp [flat]
    omega
  · intro x hx
    rw [flat_append] at hx
    rcases List.mem_append.1 hx with hx | hx
    · exact hio x hx
    · simp [flat] at hx
      unfold inI32
      rcases hx with rfl | rfl | ⟨_, rfl⟩ <;> omega
  · refine h.listed (o := (k, List.replicate m 0)) hk (Nat.le_refl _) (by simp; omega) ?_ (by rw [hL]; simpa using ho) hg ?_
    · rw [← zeros_cells]
      show ((w2.alloc _).alloc X).heap[w2.heap.size]? = _
      rw [Below.heap_alloc _ _ _ (by simp)]
      exact heap_alloc_new w2 _
    · rcases hat with e | e
      · exact .inl e.symm
      · right
        subst e
        simp [Value.ownBlock]
theorem flat_put_mem {objs : List Hp.Ob} {a : Int} {o : Hp.Ob} {i : Nat} {x y : Int} (hl : lookO objs a = some o) (hi : i < o.2.length) (hy : y ∈ flat (Hp.put objs a i x)) : y ∈ flat objs ∨ y = x := by
  rw [put_flat _ hl hi] at hy
  exact List.mem_or_eq_of_mem_set hy
theorem AllRel.wrote {w w2 : World} {p N top j T k a g i : Nat} {x : Int} {objs : List Hp.Ob} {gs : List Nat} {lv : Value} {o : Hp.Ob} (hj : j + 1 ≤ top) (hol : objs.length ≤ j) (hio : ∀ y ∈ flat objs, inI32 y) (hx : inI32 x) (hl : lookO objs (a : Int) = some o) (hi : i < o.2.length)
    (hp : (placesFrom 0 objs)[k]? = some a) (hk : objs[k]? = some o) (h : AllSt w (w2.setCell ⟨g, i, none⟩ (.int .i32 x)) T p N (Hp.put objs (a : Int) i x) (objs.set k (o.1, o.2.set i x)) gs lv) :
    AllRel w p N top lv (.int .i64 ((flat objs).length : Int)) (.int .i64 ((j : Int) + 1)) (w2.setCell ⟨g, i, none⟩ (.int .i32 x)) := by
  have hs : Hp.put objs (a : Int) i x = objs.set k (o.1, o.2.set i x) := by
    have := put_set objs 0 i x hp hk
    simpa using this
  refine ⟨j + 1, objs.set k (o.1, o.2.set i x), gs, T, by go_num, hj, ?_, by simp; omega, ?_, by rw [hs] at h; exact h⟩
  · rw [← hs, put_flat_length]
  · intro y hy
    rw [← hs] at hy
    rcases flat_put_mem hl hi hy with hy | rfl
    · exact hio y hy
    · exact hx
theorem AllSt.put_no {w0 w : World} {T p N : Nat} {ho objs : List Hp.Ob} {gs : List Nat} {lv : Value} (h : AllSt w0 w T p N ho objs gs lv) (a i x : Int) (hin : i < 0 ∨ lenO ho a ≤ i) :
    Calls Try.prog 18 #[.pointer (some ⟨p, 0, none⟩), .int .i64 a, .int .i64 i, .int .i32 x] w fun e w' => e = .returned (.bool false) ∧ w = w' := by
  obtain ⟨F, h1, _⟩ := h.heapIn
  exact put_out h1 a i x hin
/-- Behind the words' copy: both heaps, the list, the copy's own row. -/
def Tail (w : World) (T p N S1 S2 pg Ng L : Nat) (objs : List Hp.Ob) (gs : List Nat) (lv v : Value) (wr : World) : Prop :=
  AllSt w wr T p N objs objs gs lv ∧ (∃ G, HeapIn wr w.heap.size G pg Ng objs ∧ ∀ k, G k → S2 ≤ k) ∧ (∃ xs, wr.ownsRow S1 21 1 v L xs)
theorem Tail.drewN {w wr : World} {T p N S1 S2 pg Ng L : Nat} {objs : List Hp.Ob} {gs : List Nat} {lv v : Value} (h : Tail w T p N S1 S2 pg Ng L objs gs lv v wr) (q : Nat) : Tail w T p N S1 S2 pg Ng L objs gs lv v (wr.drewN q) := by
  obtain ⟨h1, ⟨G, h2, h3⟩, xs, h4⟩ := h
  exact ⟨h1.none_ ((Keeps.refl _ _).drewN q), ⟨G, h2.drewN q, h3⟩, xs, h4⟩
theorem Tail.store {w wr : World} {T p N S1 S2 pg Ng L : Nat} {objs : List Hp.Ob} {gs : List Nat} {lv v : Value} (h : Tail w T p N S1 S2 pg Ng L objs gs lv v wr) (hT : T ≤ S1) (hv : ∀ g, v.ownBlock = some g → g < S2) {j : Nat} (hj : j < L) :
    ∃ g c, v = .slice (some ⟨g, 0, none⟩) L c ∧ (∃ u, wr.cell? ⟨g, j, none⟩ = some u) ∧ wr.frozen? ⟨g, j, none⟩ = false ∧ ∀ u, Tail w T p N S1 S2 pg Ng L objs gs lv v (wr.setCell ⟨g, j, none⟩ u) := by
  obtain ⟨h1, ⟨G, h2, h3⟩, xs, h4⟩ := h
  obtain ⟨g, c, rfl, hg, _⟩ := h4.form (by omega)
  have hl := h4.1
  have hat := h4.cellAt j (by omega)
  refine ⟨g, c, rfl, ⟨xs[j]'(by omega), by rw [hat]; exact List.getElem?_eq_getElem _⟩, h4.frozenAt j, fun u => ⟨h1.keeps (((Keeps.refl (fun k => k = g) wr)).setCell (fun _ => rfl) u) (fun k hk => by subst hk; omega), ⟨G, h2.keep (by simp [World.setCell]) fun k hk => Below.heap_setCell _ _ _ _ (fun e => ?_), h3⟩, _, (h4.stored j u).1⟩⟩
  have := hv g rfl
  have := h3 k hk
  have e' : k = g := e
  omega
theorem Tail.same1 {w wr : World} {T p N S1 S2 pg Ng L : Nat} {objs : List Hp.Ob} {gs : List Nat} {A : Option Addr} {c : Nat} {v : Value} (h : Tail w T p N S1 S2 pg Ng L objs gs (.slice A objs.length c) v wr) (hn : (objs.length : Int) ≤ 1000) :
    Calls Try.prog 22 #[.pointer (some ⟨p, 0, none⟩), .slice A objs.length c, .int .i64 ((flat objs).length : Int)] wr fun e w' => e = .returned (.bool true) ∧ ∃ q, w' = wr.drewN q := by
  obtain ⟨h1, ⟨G, h2, h3⟩, xs, h4⟩ := h
  obtain ⟨F, f1, _⟩ := h1.heapIn
  obtain ⟨A', c', he, hr⟩ := h1.recs
  obtain ⟨rfl, _, rfl⟩ := Value.slice.inj he
  exact same_any wr _ p N T F A objs.length c objs f1 hr hn
theorem Tail.same2 {w wr : World} {T p N S1 S2 pg Ng L : Nat} {objs : List Hp.Ob} {gs : List Nat} {A : Option Addr} {c : Nat} {v : Value} (h : Tail w T p N S1 S2 pg Ng L objs gs (.slice A objs.length c) v wr) (hn : (objs.length : Int) ≤ 1000) :
    Calls Try.prog 22 #[.pointer (some ⟨pg, 0, none⟩), .slice A objs.length c, .int .i64 ((flat objs).length : Int)] wr fun e w' => e = .returned (.bool true) ∧ ∃ q, w' = wr.drewN q := by
  obtain ⟨h1, ⟨G, h2, h3⟩, xs, h4⟩ := h
  obtain ⟨A', c', he, hr⟩ := h1.recs
  obtain ⟨rfl, _, rfl⟩ := Value.slice.inj he
  exact same_any wr _ pg Ng T G A objs.length c objs h2 hr hn
set_option maxRecDepth 100000 in
set_option maxHeartbeats 4000000 in
theorem heapAll_walk (a0 : Int) (a1 : Option Addr) (len1 cap1 : Nat) (ops : List OpT) (w : World) (w0 : (Lit.int .i64 a0).wf = true) (w1 : OpsIn w w.heap.size a1 len1 ops) :
    Calls Try.prog 3 #[.int .i64 a0, .slice a1 len1 cap1] w fun e w' => e = .returned (.bool true) ∧ Below w.heap.size w w' := by
  have h0 := in64_of w0
  clear w0
  have HB := hide (begun13_any w)
  have HOP := hide w1
  clear w1
  go_enter Try.func3, Try.ntmps3
  go_wp2_with fail
  refine HB.out.mono ?_
  rintro e wb ⟨rfl, hbb⟩
  have HBB := hide hbb
  clear hbb HB
  go_upto_if 25 with fail
  go_cut [0] (fun v wx => v = .int .i64 (min a0 3000) ∧ wx = wb)
  case first =>
    as_aux_lemma =>
      by_cases h3 : 3000 < a0
      · have hm : min a0 3000 = 3000 := by omega
        have HM := hide hm
        clear hm
        go_wp2
        go_meet
        exact ⟨by rw [HM.out], rfl⟩
      · have hm : min a0 3000 = a0 := by omega
        have HM := hide hm
        clear hm
        go_wp2
        go_meet
        exact ⟨by rw [HM.out], rfl⟩
  case rest =>
    obtain ⟨rfl, rfl⟩ := hcut
    obtain ⟨wb2, rfl⟩ : ∃ x : World, x = wc := ⟨_, rfl⟩
    have hmm : -9223372036854775808 ≤ min a0 3000 ∧ min a0 3000 ≤ 3000 := by omega
    generalize min a0 3000 = n at *
    clear h0
    have N1 := hide (Solo.new n HBB.out)
    go_upto_region 7 with ((with_reducible refine N1.out.mono ?_); rintro e wn ⟨rfl, hs⟩; have HS := hide hs; clear hs)
    clear N1
    go_cut [7] (fun v wx => v = .int .i64 (clampN n : Int) ∧ wx = wn)
    case first =>
      as_aux_lemma =>
        by_cases h3 : 0 ≤ n
        · have hm : (clampN n : Int) = n := by unfold clampN; omega
          have HM := hide hm
          clear hm
          go_wp2
          all_goals
            go_meet
            exact ⟨by rw [HM.out], rfl⟩
        · have hm : (clampN n : Int) = 0 := by unfold clampN; omega
          have HM := hide hm
          clear hm
          go_wp2
          all_goals
            go_meet
            exact ⟨by rw [HM.out], rfl⟩
    case rest =>
      obtain ⟨rfl, rfl⟩ := hcut
      have hN : (clampN n : Int) ≤ 3000 := by unfold clampN; omega
      generalize clampN n = N at *
      have hrel0 : AllRel w wb2.heap.size N (min len1 50) (.slice none 0 0) (.int .i64 0) (.int .i64 0) wc := by
        obtain ⟨F, f1, f2⟩ := HS.out
        exact ⟨0, [], [], wc.heap.size, rfl, by omega, rfl, by simp, by simp [flat], ⟨F, f1, fun k hk => (f1.low k hk).2, World.ownsRow_nil _ _ _ _, (fun g hg => by cases hg), rfl, List.nodup_nil, (fun g hg => by cases hg), fun i g o hg => by simp at hg⟩, f2, Nat.le_refl _⟩
      have HR0 := hide hrel0
      clear HS hrel0
      generalize wb2.heap.size = p at *
      go_upto_block 0 with fail
      go_cut [8, 9] (fun lv us wx => AllEnd w p N lv us wx)
      case first =>
        go_wp2
        go_loopw [8, 9, 10] (fun lv us i wr => AllRel w p N (min len1 50) lv us i wr) (fun _ _ i _ => (min len1 50) - (intOf i).toNat)
        case atStart => exact HR0.out
        case round =>
          clear HR0
          obtain ⟨j, objs, gs, T, rfl, hj, rfl, hoj, hio, hst⟩ := hrel
          by_cases hlt : j < len1 ∧ j < 50
          · obtain ⟨hlt1, hlt2⟩ := hlt
            obtain ⟨b, off, hA, hb, hc⟩ := (HOP.out.below hst.below).2.2 (by omega)
            have hjo : j < ops.length := by rw [HOP.out.1]; exact hlt1
            have hgo := List.getElem?_eq_getElem hjo
            have hok := HOP.out.2.1 _ (List.getElem_mem hjo)
            generalize ops[j] = o at *
            obtain ⟨c0, c1, c2, c3, c4, c5⟩ := hc j o hgo
            obtain ⟨b0, b1, b2, b3, b4, b5⟩ := hok
            subst hA
            have HST := hide hst
            have HIO := hide hio
            have HOJ := hide hoj
            have hlt1' : (j : Int) < (len1 : Int) := by omega
            have hlt2' : (j : Int) < 50 := by omega
            obtain ⟨okind, ok, on, oat, oi, ox⟩ := o
            dsimp only at c0 c1 c2 c3 c4 c5 b0 b1 b2 b3 b4 b5
            clear hst hio hoj hc hgo hjo hlt1 hlt2
            by_cases hk : okind = 0
            · subst hk
              have hkA : Keeps (fun _ => False) wr (wr.alloc (.cells #[.int .i64 0, .int .i64 ok, .int .i64 on, .int .i64 oat, .int .i64 oi, .int .i32 ox] 28)) := (Keeps.refl _ wr).alloc _
              have hnew := heap_alloc_new wr (Go.Obj.cells #[.int .i64 0, .int .i64 ok, .int .i64 on, .int .i64 oat, .int .i64 oi, .int .i32 ox] 28)
              have hst1 := HST.out.none_ hkA
              have hT := HST.out.top
              by_cases hyes : mayO ok on = true ∧ on + 2 ≤ (N : Int) - (flat objs).length
              · 
                as_aux_lemma =>
                  obtain ⟨hy, hroom⟩ := hyes
                  have hy' := hy
                  simp [mayO] at hy'
                  obtain ⟨⟨⟨k0, k1⟩, n0⟩, n1⟩ := hy'
                  obtain ⟨m, rfl⟩ := Int.eq_ofNat_of_zero_le n0
                  have M1 := hide (hst1.make ok m hy (by omega))
                  have HNEW := hide hnew
                  have HT := hide hT
                  have hfl : ((flat objs).length : Int) ≤ N := by obtain ⟨F, f1, _⟩ := HST.out.heapIn; have := f1.le; omega
                  obtain ⟨i0, hi0, hz0, hz1, hz2⟩ := info_parts Try.info21
                  obtain ⟨i1, hj0, hy0, hy1, hy2⟩ := info_parts Try.info33
                  have hmk : ∀ W : World, (Instr.makeSlice 31 (.int .i64 (m : Int)) (.int .i64 (m : Int))).run Try.prog W = .ok (.slice (some ⟨W.heap.size, 0, none⟩) m m) (W.alloc (.cells (madeCells #[.int .i32 0] m) 21)) := by
                    intro W
                    have := run_make (P := Try.prog) W 31 21 i0 (.int .i32 0) Try.underlying31 hi0 hz0 .i64 .i64 m m (by omega) (by omega) (by rw [hz2]; omega) (by omega)
                    rw [hz1] at this
                    simp only [Int.toNat_natCast, Nat.mul_one] at this
                    exact this
                  have HJ := hide hj0
                  have HY0 := hide hy0
                  have HY1 := hide hy1
                  have HY2 := hide hy2
                  clear hst1 hnew hkA hT hi0 hz0 hz1 hz2 hj0 hy0 hy1 hy2
                  generalize hL : (flat objs).length = L at *
                  have HL := hide hL
                  have HMAY := hide hy
                  clear hL hy
                  have e1 : decide (0 ≤ ok) = true := by simp; omega
                  have e2 : decide (ok ≤ 10000) = true := by simp; omega
                  have e4 : decide ((m : Int) ≤ 1000) = true := by simp; omega
                  have e5 : decide ((m : Int) + 2 ≤ (N : Int) - (L : Int)) = true := by simp; omega
                  go_wp2_with (go_at_call 17; (with_reducible refine M1.out.mono ?_); rintro e w2 ⟨rfl, hst2, hk2⟩; have f := fun j => (hk2.cellsOf HNEW.out (by have := HT.out; omega) j).1; have f1 : w2.cell? ⟨wr.heap.size, 1, none⟩ = some (.int .i64 ok) := f 1; have f2 : w2.cell? ⟨wr.heap.size, 2, none⟩ = some (.int .i64 (m : Int)) := f 2; have HS2 := hide hst2; have HB2 := hide ((hk2.cellsOf HNEW.out (by have := HT.out; omega) 0).2); clear f hst2 hk2)
                  have hgl := HS2.out.glen
                  have kA : Keeps (fun _ => False) w2 (((w2.alloc (.cells (madeCells #[.int .i32 0] m) 21)).alloc (.cells #[.int .i64 (L : Int), .int .i64 ok, .slice (some ⟨w2.heap.size, 0, none⟩) m m] 33)).drew) := (((Keeps.refl _ w2).alloc _).alloc _).drew
                  have HKA := hide kA
                  have HROW := hide (HS2.out.none_ kA).row
                  have hnews : ∀ i u, [Value.int .i64 (L : Int), .int .i64 ok, .slice (some ⟨w2.heap.size, 0, none⟩) m m][i]? = some u → (((w2.alloc (.cells (madeCells #[.int .i32 0] m) 21)).alloc (.cells #[.int .i64 (L : Int), .int .i64 ok, .slice (some ⟨w2.heap.size, 0, none⟩) m m] 33)).drew).cell? ((⟨w2.heap.size + 1, 0, none⟩ : Addr).add i) = some u := by
                    have := World.news_of_block (heap_alloc_new (w2.alloc (.cells (madeCells #[.int .i32 0] m) 21)) (Go.Obj.cells #[.int .i64 (L : Int), .int .i64 ok, .slice (some ⟨w2.heap.size, 0, none⟩) m m] 33))
                    simpa using this
                  have HNEWS := hide hnews
                  have f3 : (w2.alloc (.cells (madeCells #[.int .i32 0] m) 21)).cell? ⟨wr.heap.size, 1, none⟩ = some (.int .i64 ok) := (World.cell?_alloc_lt w2 _ _ (lt_of_heap HB2.out)).trans f1
                  have f4 : (w2.alloc (.cells (madeCells #[.int .i32 0] m) 21)).cell? ⟨wr.heap.size, 2, none⟩ = some (.int .i64 (m : Int)) := (World.cell?_alloc_lt w2 _ _ (lt_of_heap HB2.out)).trans f2
                  have hone : ∀ u ∈ [Value.int .i64 (L : Int), .int .i64 ok, .slice (some ⟨w2.heap.size, 0, none⟩) m m], u.oneCell' = true := by
                    intro u hu
                    simp at hu
                    rcases hu with rfl | rfl | rfl <;> rfl
                  have HONE := hide hone
                  have hbase : w.heap.size ≤ (((w2.alloc (.cells (madeCells #[.int .i32 0] m) 21)).alloc (.cells #[.int .i64 (L : Int), .int .i64 ok, .slice (some ⟨w2.heap.size, 0, none⟩) m m] 33)).drew).heap.size := Nat.le_trans HS2.out.below.size kA.size
                  have HBASE := hide hbase
                  have hol : objs.length ≤ 50 := by have := HOJ.out; omega
                  have hlvT := HST.out.lvT
                  have hne : u8.ownBlock ≠ some wr.heap.size := fun e => by have := hlvT _ e; have := HT.out; omega
                  have HNE := hide hne
                  have hB3 := (HKA.out.cellsOf HB2.out id 0).2
                  have HB3 := hide hB3
                  clear hgl kA hnews hone hbase hlvT hne hB3
                  go_region_law ((refine step_append_lies _ (by rfl) (.tmp 103) (.tmp 111) 26 (by rfl) w.heap.size 33 i1 _ 3 40 Try.underlying26 HJ.out HY0.out HY1.out HY2.out (by rfl) (by omega) u8 objs.length _ (by rfl) HROW.out ⟨w2.heap.size + 1, 0, none⟩ 1 1 _ (by rfl) (by rfl) HNEWS.out HONE.out (by omega) (by unfold maxLen; omega) (by omega) HBASE.out (w2.heap.size + 2) (by simp) ?_; intro g cap w3 hown3 hg3 hat3 hlt3; have f5 : w3.cell? ⟨wr.heap.size, 2, none⟩ = some (.int .i64 (m : Int)) := grown_cells hg3 HB3.out HNE.out 2; have HO3 := hide hown3; have HG3 := hide hg3; have HA3 := hide hat3; clear hown3 hg3 hat3 hlt3))
                  all_goals
                    go_wp2
                    go_roundw
                    case rel => exact AllRel.listed (by omega) HOJ.out HL.out HIO.out HMAY.out HS2.out HKA.out HO3.out HG3.out HA3.out _ rfl
                    case measure => simp [intOf]; omega
              · 
                as_aux_lemma =>
                  have M1 := hide (hst1.make_no ok on hyes)
                  have HNEW := hide hnew
                  have HT := hide hT
                  have hways : ok < 0 ∨ (0 ≤ ok ∧ 10000 < ok) ∨ (0 ≤ ok ∧ ok ≤ 10000 ∧ on < 0) ∨ (0 ≤ ok ∧ ok ≤ 10000 ∧ 0 ≤ on ∧ 1000 < on) ∨ (0 ≤ ok ∧ ok ≤ 10000 ∧ 0 ≤ on ∧ on ≤ 1000 ∧ (N : Int) - (flat objs).length < on + 2) := by
                    simp only [mayO, Bool.and_eq_true, decide_eq_true_eq] at hyes
                    omega
                  have hfl : ((flat objs).length : Int) ≤ N := by obtain ⟨F, f1, _⟩ := HST.out.heapIn; have := f1.le; omega
                  clear hst1 hnew hkA hyes hT
                  generalize hL : (flat objs).length = L at *
                  have HL := hide hL
                  clear hL
                  rcases hways with h | ⟨h1, h⟩ | ⟨h1, h2, h⟩ | ⟨h1, h2, h3, h⟩ | ⟨h1, h2, h3, h4, h⟩
                  · have e1 : decide (0 ≤ ok) = false := by simp; omega
                    go_wp2_with (go_at_call 17; (with_reducible refine M1.out.mono ?_); rintro e w2 ⟨rfl, hst2, hk2⟩; have f := fun j => (hk2.cellsOf HNEW.out (by have := HT.out; omega) j).1; have f1 : w2.cell? ⟨wr.heap.size, 1, none⟩ = some (.int .i64 ok) := f 1; have f2 : w2.cell? ⟨wr.heap.size, 2, none⟩ = some (.int .i64 on) := f 2; have HS2 := hide hst2; clear f hst2 hk2)
                    go_roundw
                    case rel => exact ⟨j + 1, objs, gs, T, by go_num, by omega, by rw [HL.out], by have := HOJ.out; omega, HIO.out, HS2.out⟩
                    case measure => simp [intOf]; omega
                  · have e1 : decide (0 ≤ ok) = true := by simp; omega
                    have e2 : decide (ok ≤ 10000) = false := by simp; omega
                    go_wp2_with (go_at_call 17; (with_reducible refine M1.out.mono ?_); rintro e w2 ⟨rfl, hst2, hk2⟩; have f := fun j => (hk2.cellsOf HNEW.out (by have := HT.out; omega) j).1; have f1 : w2.cell? ⟨wr.heap.size, 1, none⟩ = some (.int .i64 ok) := f 1; have f2 : w2.cell? ⟨wr.heap.size, 2, none⟩ = some (.int .i64 on) := f 2; have HS2 := hide hst2; clear f hst2 hk2)
                    go_roundw
                    case rel => exact ⟨j + 1, objs, gs, T, by go_num, by omega, by rw [HL.out], by have := HOJ.out; omega, HIO.out, HS2.out⟩
                    case measure => simp [intOf]; omega
                  · have e1 : decide (0 ≤ ok) = true := by simp; omega
                    have e2 : decide (ok ≤ 10000) = true := by simp; omega
                    have e3 : decide (0 ≤ on) = false := by simp; omega
                    go_wp2_with (go_at_call 17; (with_reducible refine M1.out.mono ?_); rintro e w2 ⟨rfl, hst2, hk2⟩; have f := fun j => (hk2.cellsOf HNEW.out (by have := HT.out; omega) j).1; have f1 : w2.cell? ⟨wr.heap.size, 1, none⟩ = some (.int .i64 ok) := f 1; have f2 : w2.cell? ⟨wr.heap.size, 2, none⟩ = some (.int .i64 on) := f 2; have HS2 := hide hst2; clear f hst2 hk2)
                    go_roundw
                    case rel => exact ⟨j + 1, objs, gs, T, by go_num, by omega, by rw [HL.out], by have := HOJ.out; omega, HIO.out, HS2.out⟩
                    case measure => simp [intOf]; omega
                  · have e1 : decide (0 ≤ ok) = true := by simp; omega
                    have e2 : decide (ok ≤ 10000) = true := by simp; omega
                    have e3 : decide (0 ≤ on) = true := by simp; omega
                    have e4 : decide (on ≤ 1000) = false := by simp; omega
                    go_wp2_with (go_at_call 17; (with_reducible refine M1.out.mono ?_); rintro e w2 ⟨rfl, hst2, hk2⟩; have f := fun j => (hk2.cellsOf HNEW.out (by have := HT.out; omega) j).1; have f1 : w2.cell? ⟨wr.heap.size, 1, none⟩ = some (.int .i64 ok) := f 1; have f2 : w2.cell? ⟨wr.heap.size, 2, none⟩ = some (.int .i64 on) := f 2; have HS2 := hide hst2; clear f hst2 hk2)
                    go_roundw
                    case rel => exact ⟨j + 1, objs, gs, T, by go_num, by omega, by rw [HL.out], by have := HOJ.out; omega, HIO.out, HS2.out⟩
                    case measure => simp [intOf]; omega
                  · have e1 : decide (0 ≤ ok) = true := by simp; omega
                    have e2 : decide (ok ≤ 10000) = true := by simp; omega
                    have e3 : decide (0 ≤ on) = true := by simp; omega
                    have e4 : decide (on ≤ 1000) = true := by simp; omega
                    have e5 : decide (on + 2 ≤ (N : Int) - (L : Int)) = false := by simp; omega
                    go_wp2_with (go_at_call 17; (with_reducible refine M1.out.mono ?_); rintro e w2 ⟨rfl, hst2, hk2⟩; have f := fun j => (hk2.cellsOf HNEW.out (by have := HT.out; omega) j).1; have f1 : w2.cell? ⟨wr.heap.size, 1, none⟩ = some (.int .i64 ok) := f 1; have f2 : w2.cell? ⟨wr.heap.size, 2, none⟩ = some (.int .i64 on) := f 2; have HS2 := hide hst2; clear f hst2 hk2)
                    go_roundw
                    case rel => exact ⟨j + 1, objs, gs, T, by go_num, by omega, by rw [HL.out], by have := HOJ.out; omega, HIO.out, HS2.out⟩
                    case measure => simp [intOf]; omega
            · 
              as_aux_lemma =>
                have hk0 : (okind == 0) = false := by simpa using hk
                have hnl := HST.out.row
                have HX := hide (HST.out.none_ ((Keeps.refl _ wr).alloc (.cells #[.int .i64 okind, .int .i64 ok, .int .i64 on, .int .i64 oat, .int .i64 oi, .int .i32 ox] 28)))
                by_cases hempty : objs.length = 0
                · have HREL := hide (show AllRel w p N (min len1 50) u8 (.int .i64 ((flat objs).length : Int)) (.int .i64 ((j : Int) + 1)) (wr.alloc (.cells #[.int .i64 okind, .int .i64 ok, .int .i64 on, .int .i64 oat, .int .i64 oi, .int .i32 ox] 28)) from
                    ⟨j + 1, objs, gs, T, by go_num, by omega, rfl, by have := HOJ.out; omega, HIO.out, HX.out⟩)
                  obtain ⟨A8, c8, hlv, _⟩ := HST.out.recs
                  rw [hempty] at hlv
                  subst hlv
                  clear hnl hempty hk
                  generalize ((flat objs).length : Int) = L at *
                  go_wp2
                  go_roundw
                  case rel => exact HREL.out
                  case measure => simp [intOf]; omega
                · have hm1 : 0 < objs.length := by omega
                  have hol : objs.length ≤ 50 := by have := HOJ.out; omega
                  obtain ⟨G, cap, hlv, hG1, hG2⟩ := hnl.form hm1
                  obtain ⟨q, hq, hq2⟩ := emod_nat (oat.tmod objs.length) objs.length hm1
                  obtain ⟨ht1, ht2⟩ := tmod_lo oat objs.length hm1
                  have hgo := List.getElem?_eq_getElem hq2
                  have hgp := List.getElem?_eq_getElem (show q < (placesFrom 0 objs).length by rw [placesFrom_length]; exact hq2)
                  have hgg := List.getElem?_eq_getElem (show q < gs.length by rw [HST.out.glen]; exact hq2)
                  generalize objs[q] = o' at *
                  generalize (placesFrom 0 objs)[q]'(by rw [placesFrom_length]; exact hq2) = a at *
                  generalize gs[q]'(by rw [HST.out.glen]; exact hq2) = g at *
                  obtain ⟨r0, r1, r2⟩ := recCells_at objs 0 gs hgp hgo hgg
                  subst hlv
                  have d0 : wr.cell? ⟨G, q * 3, none⟩ = some (.int .i64 (a : Int)) := (hnl.cellAt (q * 3) (by omega)).trans r0
                  have d1 : wr.cell? ⟨G, q * 3 + 1, none⟩ = some (.int .i64 o'.1) := (hnl.cellAt (q * 3 + 1) (by omega)).trans r1
                  have d2 : wr.cell? ⟨G, q * 3 + 2, none⟩ = some (.slice (some ⟨g, 0, none⟩) o'.2.length o'.2.length) := (hnl.cellAt (q * 3 + 2) (by omega)).trans r2
                  have hqn : (oat.tmod (objs.length : Int) % (objs.length : Int)).toNat = q := by rw [hq]; rfl
                  rw [← hqn] at d0 d1 d2
                  obtain ⟨hlow, o2, ho2, hlk⟩ := places_look objs 0 hgp
                  rw [show ((a : Int) - ((0 : Nat) : Int)) = (a : Int) from by omega] at hlk
                  obtain rfl : o2 = o' := by rw [ho2] at hgo; cases hgo; rfl
                  have hqa : 0 ≤ oat.tmod (objs.length : Int) % (objs.length : Int) := by rw [hq]; omega
                  have hqb : oat.tmod (objs.length : Int) % (objs.length : Int) < (objs.length : Int) := by rw [hq]; omega
                  have hlo : lenO objs (a : Int) = (o2.2.length : Int) := by unfold lenO; rw [hlk]
                  have hfin := (HST.out.heapIn).elim fun F hF => hF.1.fine o2 (List.mem_of_getElem? ho2)
                  obtain ⟨f1, f2, f3⟩ := hfin
                  have hol0 : ((objs.length : Int) == 0) = false := beq_eq_false_iff_ne.2 (by omega)
                  have hol1 : 0 < (objs.length : Int) := by omega
                  have hol2 : (objs.length : Int) ≤ 50 := by omega
                  have X1 := HX.out.none_ ((Keeps.refl _ _).alloc (.cells #[.int .i64 (a : Int), .int .i64 o2.1, .slice (some ⟨g, 0, none⟩) o2.2.length o2.2.length] 33))
                  have n0 := heap_alloc_new wr (Go.Obj.cells #[.int .i64 okind, .int .i64 ok, .int .i64 on, .int .i64 oat, .int .i64 oi, .int .i32 ox] 28)
                  have n1 := heap_alloc_new (wr.alloc (Go.Obj.cells #[.int .i64 okind, .int .i64 ok, .int .i64 on, .int .i64 oat, .int .i64 oi, .int .i32 ox] 28)) (Go.Obj.cells #[.int .i64 (a : Int), .int .i64 o2.1, .slice (some ⟨g, 0, none⟩) o2.2.length o2.2.length] 33)
                  have n2 := (((Keeps.refl (fun _ => False) (wr.alloc (Go.Obj.cells #[.int .i64 okind, .int .i64 ok, .int .i64 on, .int .i64 oat, .int .i64 oi, .int .i32 ox] 28))).alloc (.cells #[.int .i64 (a : Int), .int .i64 o2.1, .slice (some ⟨g, 0, none⟩) o2.2.length o2.2.length] 33)).cellsOf n0 id 0).2
                  rw [show (wr.alloc (Go.Obj.cells #[.int .i64 okind, .int .i64 ok, .int .i64 on, .int .i64 oat, .int .i64 oi, .int .i32 ox] 28)).heap.size = wr.heap.size + 1 from by simp] at n1
                  have HT := hide HST.out.top
                  have HN1 := hide n1
                  have HN2 := hide n2
                  have HGG := hide hgg
                  have HGO := hide ho2
                  have HGP := hide hgp
                  have HLK := hide hlk
                  have HOX := hide (show inI32 ox from b5)
                  by_cases hin : 0 ≤ oi ∧ oi < (o2.2.length : Int)
                  · obtain ⟨i, rfl⟩ := Int.eq_ofNat_of_zero_le hin.1
                    have hi2 : (i : Int) < (o2.2.length : Int) := hin.2
                    have P1 := hide (X1.put (a : Int) i ox (by rw [hlo]; exact hi2))
                    have HI2 := hide (show i < o2.2.length by omega)
                    clear hgo hgp hgg ho2 hlk hlo n0 n1 n2 X1 HX hnl hq hqn r0 r1 r2 hin hempty hk hm1
                    generalize hol9 : objs.length = ol at *
                    generalize hvl : o2.2.length = vl at *
                    have HOL9 := hide hol9
                    have HVL := hide hvl
                    clear hol9 hvl
                    generalize hfl : (flat objs).length = L at *
                    have HFL := hide hfl
                    clear hfl
                    go_wp2_with (go_at_call 18; (with_reducible refine P1.out.mono ?_); rintro e w2 ⟨rfl, hst2, hk2⟩; have g1 := fun j => (hk2.cellsOf HN2.out (by have := HT.out; omega) j).1; have g2 := fun j => (hk2.cellsOf HN1.out (by have := HT.out; omega) j).1; have f4 : w2.cell? ⟨wr.heap.size, 4, none⟩ = some (.int .i64 (i : Int)) := g1 4; have f5 : w2.cell? ⟨wr.heap.size, 5, none⟩ = some (.int .i32 ox) := g1 5; have f6 : w2.cell? ⟨wr.heap.size + 1, 2, none⟩ = some (.slice (some ⟨g, 0, none⟩) vl vl) := g2 2; obtain ⟨⟨uu, huu⟩, hzz, hset⟩ := hst2.word HGG.out HGO.out (by rw [HVL.out]; exact HI2.out); have HSET := hide (hset ox); clear g1 g2 hst2 hk2 hset)
                    go_roundw
                    case rel => exact (by rw [← HFL.out]; exact AllRel.wrote (by omega) (by rw [HOL9.out]; exact HOJ.out) HIO.out HOX.out HLK.out (by rw [HVL.out]; exact HI2.out) HGP.out HGO.out HSET.out)
                    case measure => simp [intOf]; omega
                  · have hw : oi < 0 ∨ (0 ≤ oi ∧ (o2.2.length : Int) ≤ oi) := by omega
                    have P1 := hide (X1.put_no (a : Int) oi ox (by rw [hlo]; omega))
                    have HX1 := hide X1
                    clear hgo hgp hgg ho2 hlk hlo n0 n1 n2 X1 HX hnl hq hqn r0 r1 r2 hin hempty hk hm1
                    generalize hol9 : objs.length = ol at *
                    generalize hvl : o2.2.length = vl at *
                    have HOL9 := hide hol9
                    clear hol9 hvl
                    have hvl1 : (vl : Int) ≤ 1000 := by omega
                    have HREL : AllRel w p N (min len1 50) _ (.int .i64 ((flat objs).length : Int)) (.int .i64 ((j : Int) + 1)) _ := ⟨j + 1, objs, gs, T, by go_num, by omega, rfl, by have := HOJ.out; have := HOL9.out; omega, HIO.out, HX1.out⟩
                    have HR2 := hide HREL
                    clear HREL HX1
                    generalize (flat objs).length = L at *
                    rcases hw with h | ⟨h, h'⟩
                    · have e1 : decide (0 ≤ oi) = false := by simp; omega
                      go_wp2_with (go_at_call 18; (with_reducible refine P1.out.mono ?_); rintro e w2 ⟨rfl, rfl⟩)
                      go_roundw
                      case rel => exact HR2.out
                      case measure => simp [intOf]; omega
                    · have e1 : decide (0 ≤ oi) = true := by simp; omega
                      have e2 : decide (oi < (vl : Int)) = false := by simp; omega
                      go_wp2_with (go_at_call 18; (with_reducible refine P1.out.mono ?_); rintro e w2 ⟨rfl, rfl⟩)
                      go_roundw
                      case rel => exact HR2.out
                      case measure => simp [intOf]; omega
          · 
            as_aux_lemma =>
              have HE := hide (show AllEnd w p N u8 (.int .i64 ((flat objs).length : Int)) wr from ⟨objs, gs, T, rfl, by omega, hio, hst⟩)
              have hji : ¬ ((j : Int) < len1) ∨ ¬ ((j : Int) < 50) := by omega
              clear hst hio hoj
              generalize (flat objs).length = L at *
              rcases hji with h | h
              · go_wp2
                go_meet
                exact HE.out
              · go_wp2
                all_goals
                  go_meet
                  exact HE.out
      case rest =>
        as_aux_lemma =>
          obtain ⟨objs, gs, T, rfl, hol, hio, hst⟩ := hcut
          obtain ⟨F, f1, f2⟩ := hst.heapIn
          have hLN : (flat objs).length ≤ N := f1.le
          have W1 := hide (words_in f1)
          have HST := hide hst
          have HF1 := hide f1
          have HIO := hide hio
          have SZ := hide hst.top
          clear hst f1 f2 HR0 hio
          go_wp2_with fail
          refine W1.out.mono ?_
          rintro e w2 ⟨v, rfl, hown, hk2⟩
          obtain ⟨A9, c9, hv9, hs9⟩ := Sees.of_own hown
          have hc9 : A9 = none → c9 = 0 := by
            rintro rfl
            subst hv9
            rcases hown.2 with ⟨he, _⟩ | ⟨g, cap, cur, he, _⟩
            · exact (Value.slice.inj he).2.2
            · cases he
          have hst2 := HST.out.none_ hk2
          have hvb : ∀ g, v.ownBlock = some g → g < w2.heap.size := fun g hg => own_lt hown hg
          have OF := hide (HeapIn.of_any (w := w2) (B := w.heap.size) (C := w2.heap.size) hst2.below.size (Nat.le_refl _) objs hs9 hc9 (by omega) HIO.out HF1.out.fine ((flat objs).length : Int) (by unfold clampN; omega))
          have HOW := hide hown
          have HS2 := hide hst2
          have HVB := hide hvb
          clear hown hs9 hc9 hst2 hk2 hvb W1
          obtain ⟨A8, c8, rfl, _⟩ := HS2.out.recs
          subst hv9
          go_wp2_with fail
          refine OF.out.mono ?_
          rintro e w3 ⟨rfl, hg3, hk3⟩
          have htail : Tail w T p N wc.heap.size w2.heap.size w2.heap.size (clampN ((flat objs).length : Int)) (flat objs).length objs gs (.slice A8 objs.length c8) (.slice A9 (flat objs).length c9) w3 := ⟨HS2.out.none_ hk3, ⟨_, hg3, fun k hk => hk.1⟩, _, ownsRow_kept HOW.out fun g hg => hk3.block g (own_lt HOW.out hg) id⟩
          have HTL := hide htail
          have Z1 := hide (htail.1.heapIn.elim fun F hF => size_in hF.1)
          have S1 := hide (htail.same1 (by omega))
          clear hg3 hk3 htail OF HOW
          go_wp2_with (first
            | (go_at_call 21; (with_reducible refine Z1.out.mono ?_); rintro e w' ⟨rfl, rfl⟩)
            | (go_at_call 22; (with_reducible refine S1.out.mono ?_); rintro e w' ⟨rfl, q1, rfl⟩; have S2 := hide ((HTL.out.drewN q1).same2 (by omega)))
            | (go_at_call 22; (with_reducible refine S2.out.mono ?_); rintro e w' ⟨rfl, q2, rfl⟩))
          have HT2 := hide (HTL.out.drewN (q1 + q2))
          have hL4 : ((flat objs).length : Int) ≤ 3000 := by omega
          have hN4 : (objs.length : Int) ≤ 1000 := by omega
          clear HTL S1 S2 Z1 HST HF1 HS2 hol hLN
          generalize hLL : (flat objs).length = L at *
          have HLL := hide hLL
          clear hLL
          go_loopw [202, 20] (fun iv _ wr => ∃ j : Nat, iv = .int .i64 (j : Int) ∧ j ≤ L ∧ Tail w T p N wc.heap.size w2.heap.size w2.heap.size (clampN (L : Int)) L objs gs (.slice A8 objs.length c8) (.slice A9 L c9) wr) (fun iv _ _ => L - (intOf iv).toNat)
          case atStart => exact ⟨0, rfl, by omega, HT2.out⟩
          case round =>
            clear HT2
            obtain ⟨j, rfl, hj, htl⟩ := hrel
            by_cases hlt : j < L
            · obtain ⟨g, c, hv, ⟨u, hu⟩, hz, hset⟩ := htl.store SZ.out HVB.out hlt
              obtain ⟨rfl, _, rfl⟩ := Value.slice.inj hv
              have HSET := hide (hset (.int .i32 77))
              have hlt' : (j : Int) < (L : Int) := by omega
              clear hset htl hlt hv
              go_wp2
              go_roundw
              case rel => exact ⟨j + 1, by go_num, by omega, HSET.out⟩
              case measure => simp [intOf]; omega
            · obtain rfl : j = L := by omega
              have S1 := hide (htl.same1 hN4)
              rw [HLL.out] at S1
              have HTL := hide htl
              clear htl hlt
              go_wp2_with (first
                | (go_at_call 22; (with_reducible refine S1.out.mono ?_); rintro e w' ⟨rfl, q3, rfl⟩; have S2 := (HTL.out.drewN q3).same2 hN4; rw [HLL.out] at S2; have HS2 := hide S2; clear S2)
                | (go_at_call 22; (with_reducible refine HS2.out.mono ?_); rintro e w' ⟨rfl, q4, rfl⟩))
              go_ret
              exact ⟨rfl, bel_drewN HTL.out.1.below _⟩
end Go.Proofs.Ytjjoelhemhnojaa
