/- The walk of the heap's Of: words cut into objects. -/
import Derived.Test.YtjjoelhemhnojaaHeapH
import Derived.Test.YtjjoelhemhnojaaHeapLaw2
import Derived.Deep.RegionWith
import Derived.IntWalk
import Derived.Deep.DeepCutAuto
set_option linter.unusedVariables false
namespace Go.Proofs.Ytjjoelhemhnojaa
open Go.RowKit
open Hp

theorem Keeps.sees {w W : World} {C n : Nat} {A : Option Addr} {xs : List Value} (h : Sees w C A n xs) (hC : C ≤ w.heap.size) (hk : Keeps (fun _ => False) w W) : Sees W C A n xs := h.below (hk.below hC fun _ h => h.elim)
theorem store_facts {w1 w2 : World} {B p N nw ns n2 : Nat} {wv sv v2 : Value} {ws ss xs2 : List Value} (P : Parts w1 B p N wv sv nw ns ws ss) (K2 : Keeps (fun _ => False) w1 w2) (R2 : w2.ownsRow B 21 1 v2 n2 xs2) (X : Go.Obj) :
    (w2.cell? ⟨p, 1, none⟩ = some wv ∧ w2.cell? ⟨p, 2, none⟩ = some sv ∧ w2.frozen? ⟨p, 1, none⟩ = false ∧ w2.frozen? ⟨p, 2, none⟩ = false) ∧
    ((w2.alloc X).cell? ⟨p, 1, none⟩ = some wv ∧ (w2.alloc X).cell? ⟨p, 2, none⟩ = some sv ∧ (w2.alloc X).frozen? ⟨p, 1, none⟩ = false ∧ (w2.alloc X).frozen? ⟨p, 2, none⟩ = false) ∧
    ((w2.setCell ⟨p, 1, none⟩ v2).cell? ⟨p, 2, none⟩ = some sv ∧ (w2.setCell ⟨p, 1, none⟩ v2).frozen? ⟨p, 2, none⟩ = false) ∧
    (((w2.setCell ⟨p, 1, none⟩ v2).alloc X).cell? ⟨p, 2, none⟩ = some sv ∧ ((w2.setCell ⟨p, 1, none⟩ v2).alloc X).frozen? ⟨p, 2, none⟩ = false) ∧
    (((w2.alloc X).setCell ⟨p, 1, none⟩ v2).cell? ⟨p, 2, none⟩ = some sv ∧ ((w2.alloc X).setCell ⟨p, 1, none⟩ v2).frozen? ⟨p, 2, none⟩ = false) := by
  have Ka : Keeps (fun _ => False) w2 (w2.alloc X) := (Keeps.refl _ w2).alloc X
  obtain ⟨e0, e1, e2, ez⟩ := (P.none_ K2).cells
  obtain ⟨f0, f1, f2, fz⟩ := ((P.none_ K2).none_ Ka).cells
  obtain ⟨_, _, _, P3⟩ := (P.none_ K2).store1 (Keeps.refl _ w2) R2
  obtain ⟨g0, g1, g2, gz⟩ := P3.cells
  obtain ⟨k0, k1, k2, kz⟩ := (P3.none_ ((Keeps.refl (fun _ => False) _).alloc X)).cells
  obtain ⟨_, _, _, P4⟩ := ((P.none_ K2).none_ Ka).store1 (Keeps.refl _ _) (ownsRow_kept R2 fun g hg => Ka.block g (own_lt R2 hg) id)
  obtain ⟨l0, l1, l2, lz⟩ := P4.cells
  exact ⟨⟨e1, e2, ez 1, ez 2⟩, ⟨f1, f2, fz 1, fz 2⟩, ⟨g2, gz 2⟩, ⟨k2, kz 2⟩, ⟨l2, lz 2⟩⟩
theorem store_end {w w1 W : World} {B N nw ns L : Nat} {wv sv v2 s2 : Value} {ws ss xs ys : List Value} (hK : Keeps (fun _ => False) w w1) (P : Parts w1 B w.heap.size N wv sv nw ns ws ss) (K : Keeps (fun _ => False) w1 W) (R1 : W.ownsRow B 21 1 v2 L xs) (R2 : W.ownsRow B 4 1 s2 L ys) :
    Parts ((W.setCell ⟨w.heap.size, 1, none⟩ v2).setCell ⟨w.heap.size, 2, none⟩ s2) B w.heap.size N v2 s2 L L xs ys ∧ Keeps (fun _ => False) w ((W.setCell ⟨w.heap.size, 1, none⟩ v2).setCell ⟨w.heap.size, 2, none⟩ s2) := by
  have PW := P.none_ K
  obtain ⟨_, _, _, P3⟩ := PW.store1 (Keeps.refl _ W) R1
  have hne : ∀ g, s2.ownBlock = some g → g ≠ w.heap.size := by
    intro g hg e
    obtain ⟨cur, hc⟩ := own_type R2 hg
    subst e
    rw [PW.blk] at hc
    cases hc
  have R3 : (W.setCell ⟨w.heap.size, 1, none⟩ v2).ownsRow B 4 1 s2 L ys := ownsRow_kept R2 fun g hg => Below.heap_setCell _ _ _ _ (hne g hg)
  obtain ⟨_, _, P4⟩ := P3.store2 (Keeps.refl _ _) R3
  exact ⟨P4, ((hK.trans K).setCell (q := ⟨w.heap.size, 1, none⟩) (fun h => absurd h (Nat.lt_irrefl _)) _).setCell (q := ⟨w.heap.size, 2, none⟩) (fun h => absurd h (Nat.lt_irrefl _)) _⟩
theorem store_end2 {w w1 W : World} {B N nw ns L : Nat} {wv sv v2 s2 : Value} {ws ss xs ys : List Value} (X : Go.Obj) (hK : Keeps (fun _ => False) w w1) (P : Parts w1 B w.heap.size N wv sv nw ns ws ss) (K : Keeps (fun _ => False) w1 W) (R1 : W.ownsRow B 21 1 v2 L xs)
    (R2 : ((W.setCell ⟨w.heap.size, 1, none⟩ v2).alloc X).ownsRow B 4 1 s2 L ys) :
    Parts (((W.setCell ⟨w.heap.size, 1, none⟩ v2).alloc X).setCell ⟨w.heap.size, 2, none⟩ s2) B w.heap.size N v2 s2 L L xs ys ∧ Keeps (fun _ => False) w (((W.setCell ⟨w.heap.size, 1, none⟩ v2).alloc X).setCell ⟨w.heap.size, 2, none⟩ s2) := by
  have PW := P.none_ K
  obtain ⟨_, _, _, P3⟩ := PW.store1 (Keeps.refl _ W) R1
  have P3' := P3.none_ ((Keeps.refl (fun _ => False) _).alloc X)
  obtain ⟨_, _, P4⟩ := P3'.store2 (Keeps.refl _ _) R2
  exact ⟨P4, ((((hK.trans K).setCell (q := ⟨w.heap.size, 1, none⟩) (fun h => absurd h (Nat.lt_irrefl _)) _)).alloc X).setCell (q := ⟨w.heap.size, 2, none⟩) (fun h => absurd h (Nat.lt_irrefl _)) _⟩
theorem made_row (W : World) {B L : Nat} (hB : B ≤ W.heap.size) (hL : L ≤ 2000000) : (W.alloc (.cells (madeCells #[.bool false] L) 4)).ownsRow B 4 1 (.slice (some ⟨W.heap.size, 0, none⟩) L L) L (List.replicate L (.bool false)) := by
  have h := World.ownsRow_lit (base := B) (e := 4) (size := 1) W (madeCells #[.bool false] L) L hB (by unfold maxLen; omega) (by simp [madeCells])
  rw [toList_madeCells_one] at h
  exact h
theorem made_row_at (W : World) {B L s : Nat} (hs : W.heap.size = s) (hB : B ≤ s) (hL : L ≤ 2000000) : (W.alloc (.cells (madeCells #[.bool false] L) 4)).ownsRow B 4 1 (.slice (some ⟨s, 0, none⟩) L L) L (List.replicate L (.bool false)) := by
  subst hs
  exact made_row W hB hL
theorem Parts.mark {w : World} {B p N nw L : Nat} {wv sv : Value} {ws ss : List Value} (P : Parts w B p N wv sv nw L ws ss) {a : Nat} (ha : a < L) (u' : Value) :
    ∃ g c, sv = .slice (some ⟨g, 0, none⟩) L c ∧ B ≤ g ∧ (∃ u, w.cell? ⟨g, a, none⟩ = some u) ∧ w.frozen? ⟨g, a, none⟩ = false ∧ Parts (w.setCell ⟨g, a, none⟩ u') B p N wv sv nw L ws (ss.set a u') := by
  obtain ⟨g, c, rfl, _⟩ := P.marks.form (by omega)
  have hlen : ss.length = L := by have := P.marks.1; omega
  have hst := P.marks.stored a u'
  have hat := P.marks.cellAt a (by omega)
  obtain ⟨cur, hcur⟩ := own_type P.marks (g := g) rfl
  have hne : g ≠ p := by rintro rfl; rw [P.blk] at hcur; cases hcur
  refine ⟨g, c, rfl, ownBlock_ge P.marks g rfl, ⟨ss[a]'(by omega), by rw [hat]; exact List.getElem?_eq_getElem _⟩, P.marks.frozenAt a, P.ge, (Below.heap_setCell _ _ _ _ fun e => hne (by subst e; rfl)).trans P.blk, ownsRow_kept P.words fun h hh => ?_, hst.1⟩
  refine Below.heap_setCell _ _ _ _ fun e => ?_
  obtain ⟨cur', hc'⟩ := own_type P.words hh
  subst e
  rw [hcur] at hc'
  cases hc'
theorem Parts.heapIn {w : World} {p N L : Nat} {wv sv : Value} {objs : List Hp.Ob} {xs : List Int} {ms : List Bool} (B : Nat) (P : Parts w p p N wv sv L L (xs.map (Value.int .i32)) (ms.map Value.bool)) (hB : B ≤ p)
    (hx : xs = flat objs) (hm : ms = Hp.marks objs) (hL : xs.length = L) (hf : ∀ o ∈ objs, okO o) (hle : L ≤ N) (hN : N ≤ 1048576) : HeapIn w B (fun k => p ≤ k ∧ k < w.heap.size) p N objs := by
  subst hx hm hL
  exact ⟨hf, hle, hN, ⟨hB, Nat.le_refl _, lt_of_heap P.blk⟩, fun k hk => ⟨Nat.le_trans hB hk.1, hk.2⟩, wv, sv, P.blk, ownsRow_less P.words hB, ownsRow_less P.marks hB,
    fun g hg => ⟨ownBlock_ge P.words g hg, own_lt P.words hg⟩, fun g hg => ⟨ownBlock_ge P.marks g hg, own_lt P.marks hg⟩⟩
/-- What Of gives. -/
def OfPost (w : World) (B N : Nat) (xs : List Int) (e : Ending) (w' : World) : Prop :=
  Keeps (fun _ => False) w w' ∧
  ((∃ objs, xs = flat objs ∧ (∀ o ∈ objs, okO o) ∧ xs.length ≤ N ∧ e = .returned (.tuple #[.pointer (some ⟨w.heap.size, 0, none⟩), .bool true]) ∧ HeapIn w' B (fun k => w.heap.size ≤ k ∧ k < w'.heap.size) w.heap.size N objs) ∨
   ((N < xs.length ∨ ¬ ∃ objs, flat objs = xs ∧ ∀ o ∈ objs, okO o) ∧ e = .returned (.tuple #[.pointer none, .bool false])))
/-- What holds at each round's head. -/
def OfRel (w : World) (N L : Nat) (xs : List Int) (i : Value) (wr : World) : Prop :=
  ∃ (done : List Hp.Ob) (rest : List Int) (v2 s2 : Value), xs = flat done ++ rest ∧ (∀ o ∈ done, okO o) ∧ i = .int .i64 ((flat done).length : Int) ∧
    Parts wr w.heap.size w.heap.size N v2 s2 L L (xs.map (Value.int .i32)) ((marks done ++ List.replicate rest.length false).map Value.bool) ∧ Keeps (fun _ => False) w wr
def inI32 (x : Int) : Prop := -2147483648 ≤ x ∧ x ≤ 2147483647
theorem ret_none_of {w w' : World} {B N : Nat} {xs : List Int} (hk : Keeps (fun _ => False) w w') (h : N < xs.length ∨ ¬ ∃ objs, flat objs = xs ∧ ∀ o ∈ objs, okO o) : OfPost w B N xs (.returned (.tuple #[.pointer none, .bool false])) w' := ⟨hk, .inr ⟨h, rfl⟩⟩
theorem ret_some_of {w w' : World} {B N L : Nat} {xs : List Int} (hk : Keeps (fun _ => False) w w') {done : List Hp.Ob} {v2 s2 : Value} (hB : B ≤ w.heap.size) (hx : xs = flat done) (hf : ∀ o ∈ done, okO o) (hL : xs.length = L) (hle : L ≤ N) (hN : N ≤ 1048576)
    (P : Parts w' w.heap.size w.heap.size N v2 s2 L L (xs.map (Value.int .i32)) ((marks done ++ List.replicate 0 false).map Value.bool)) : OfPost w B N xs (.returned (.tuple #[.pointer (some ⟨w.heap.size, 0, none⟩), .bool true])) w' :=
  ⟨hk, .inl ⟨done, hx, hf, by omega, rfl, P.heapIn B hB hx (by simp) hL hf hle hN⟩⟩
theorem OfRel.step {w wr : World} {N L : Nat} {xs : List Int} {done : List Hp.Ob} {k : Int} {m : Nat} {tl : List Int} {v2 s2 : Value} (hx : xs = flat done ++ k :: (m : Int) :: tl) (hf : ∀ o ∈ done, okO o) (hm : m ≤ tl.length) (hmay : mayO k m = true)
    (P : Parts wr w.heap.size w.heap.size N v2 s2 L L (xs.map (Value.int .i32)) (((marks done ++ List.replicate (tl.length + 2) false).map Value.bool).set (flat done).length (.bool true))) (hk : Keeps (fun _ => False) w wr) (i : Value)
    (hi : i = .int .i64 (((flat done).length : Int) + (2 + (m : Int)))) : OfRel w N L xs i wr := by
  have h1 : 0 ≤ k ∧ k ≤ 10000 ∧ m ≤ 1000 := by have := hmay; simp [mayO] at this; omega
  refine ⟨done ++ [(k, tl.take m)], tl.drop m, v2, s2, by rw [hx]; exact flat_step done k m tl hm, ?_, ?_, ?_, hk⟩
  · intro o ho
    rcases List.mem_append.1 ho with ho | ho
    · exact hf o ho
    · rw [List.mem_singleton.1 ho]
      exact ⟨h1.1, h1.2.1, by simp; omega⟩
  · rw [hi, flat_append]
    simp [flat]
    omega
  · rw [← marks_step done k m tl hm, List.map_set]
    exact P
theorem bad_one (done : List Hp.Ob) (k : Int) : ¬ ∃ objs, flat objs = flat done ++ [k] ∧ ∀ o ∈ objs, okO o := no_objs done [k] trivial
theorem bad_may (done : List Hp.Ob) (k n : Int) (tl : List Int) (h : mayO k n = false) : ¬ ∃ objs, flat objs = flat done ++ k :: n :: tl ∧ ∀ o ∈ objs, okO o := no_objs done _ (by
  show ¬ _
  simp [mayO] at h
  omega)
theorem bad_long (done : List Hp.Ob) (k n : Int) (tl : List Int) (h : (tl.length : Int) < n) : ¬ ∃ objs, flat objs = flat done ++ k :: n :: tl ∧ ∀ o ∈ objs, okO o := no_objs done _ (by
  show ¬ _
  omega)
set_option maxHeartbeats 8000000 in
theorem of_any (w : World) (B C : Nat) (hB : B ≤ w.heap.size) (hC : C ≤ w.heap.size) (A : Option Addr) (L c : Nat) (xs : List Int) (hs : Sees w C A L (xs.map (Value.int .i32))) (hc : A = none → c = 0) (hL : L ≤ 2000000) (hI : ∀ x ∈ xs, inI32 x) (n : Int) :
    Calls Try.prog 20 #[.slice A L c, .int .i64 n] w (OfPost w B (clampN n) xs) := by
  have hxl : xs.length = L := by simpa using hs.1
  have NW := hide (new_any n w w.heap.size (Nat.le_refl _))
  have CL := fun W (hk : Keeps (fun _ => False) w W) => hide (clone_any W C (Nat.le_trans hC hk.size) A L c xs (hk.sees hs hC) hc (by omega))
  have hN1 : clampN n ≤ 1048576 := by unfold clampN; omega
  have HC := hide hc
  have HS := hide hs
  have HXL := hide hxl
  have HII := hide hI
  have HBB := hide hB
  clear hs hc hxl hI hB
  generalize clampN n = N at *
  go_enter Try.func20, Try.ntmps20
  by_cases hNL : N < L
  · go_wp2_with (go_at_call 16; refine NW.out.mono ?_; rintro e w1 ⟨rfl, hin, hk1⟩; obtain ⟨wv, sv, hq1, hq2, hq3, _, _⟩ := hin.rows; have P1 : Parts w1 w.heap.size w.heap.size N wv sv _ _ _ _ := ⟨Nat.le_refl _, hq1, hq2, hq3⟩; obtain ⟨h0, h1, h2, hz⟩ := P1.cells; have HP1 := hide P1; have HK1 := hide hk1; clear P1 hk1 hin hq1 hq2 hq3)
    go_ret2
    exact ret_none_of HK1.out (.inl (by rw [HXL.out]; exact hNL))
  · go_upto_region 4 with (go_at_call 16; refine NW.out.mono ?_; rintro e w1 ⟨rfl, hin, hk1⟩; obtain ⟨wv, sv, hq1, hq2, hq3, _, _⟩ := hin.rows; have P1 : Parts w1 w.heap.size w.heap.size N wv sv _ _ _ _ := ⟨Nat.le_refl _, hq1, hq2, hq3⟩; obtain ⟨h0, h1, h2, hz⟩ := P1.cells; have HP1 := hide P1; have HK1 := hide hk1; clear P1 hk1 hin hq1 hq2 hq3)
    go_cut [17] (fun s wx => ∃ v2 s2, Parts wx w.heap.size w.heap.size N v2 s2 L L (xs.map (Value.int .i32)) (List.replicate L (Value.bool false)) ∧ Keeps (fun _ => False) w wx)
    case first =>
      obtain ⟨i1, hj0, hy0, hy1, hy2⟩ := info_parts Try.info4
      have hmk : ∀ W : World, (Instr.makeSlice 64 (.int .i64 (L : Int)) (.int .i64 (L : Int))).run Try.prog W = .ok (.slice (some ⟨W.heap.size, 0, none⟩) L L) (W.alloc (.cells (madeCells #[.bool false] L) 4)) := by
        intro W
        have := run_make (P := Try.prog) W 64 4 i1 (.bool false) Try.underlying64 hj0 hy0 .i64 .i64 L L (by omega) (by omega) (by rw [hy2]; omega) (by omega)
        rw [hy1] at this
        simp only [Int.toNat_natCast, Nat.mul_one] at this
        exact this
      have hd : Keeps (fun _ => False) w w1.drew := HK1.out.drew
      have hd2 : Keeps (fun _ => False) w (w1.drew.alloc (.cells (madeCells #[.bool false] L) 4)) := hd.alloc _
      have CL1 := CL _ hd
      have CL2 := CL _ hd2
      clear hd hd2
      have HD := hide CL
      clear CL
      have hz1 := hz 1
      have hz2 := hz 2
      clear hz
      have hb1 : w.heap.size ≤ w1.drew.heap.size := HK1.out.size
      have hb2 : w.heap.size ≤ (w1.drew.alloc (.cells (madeCells #[.bool false] L) 4)).heap.size := Nat.le_trans hb1 (((Keeps.refl (fun _ => False) w1.drew).alloc (.cells (madeCells #[.bool false] L) 4)).size)
      have HB1 := hide hb1
      have HB2 := hide hb2
      clear hb1 hb2
      go_region_with (first
        | (go_at_call 38
           refine CL1.out.mono ?_
           rintro e w2 ⟨v2, rfl, hown2, hk2⟩
           obtain ⟨A3, c3, rfl, _⟩ := Sees.of_own hown2
           have K2 : Keeps (fun _ => False) w1 w2 := ((Keeps.refl _ w1).drew).trans hk2
           have R2 := ownsRow_less hown2 HB1.out
           obtain ⟨⟨e1, e2, ez1, ez2⟩, ⟨f1, f2, fz1, fz2⟩, ⟨g2, gz2⟩, ⟨k2, kz2⟩, ⟨l2, lz2⟩⟩ := store_facts HP1.out K2 R2 (.cells (madeCells #[.bool false] L) 4)
           have HR2 := hide R2
           have HK2 := hide K2
           have HKK := hide hk2
           clear K2 R2 hown2 hk2)
        | (go_at_call 38
           refine CL2.out.mono ?_
           rintro e w2 ⟨v2, rfl, hown2, hk2⟩
           obtain ⟨A3, c3, rfl, _⟩ := Sees.of_own hown2
           have K2 : Keeps (fun _ => False) w1 w2 := (((Keeps.refl _ w1).drew).alloc (.cells (madeCells #[.bool false] L) 4)).trans hk2
           have R2 := ownsRow_less hown2 HB2.out
           obtain ⟨⟨e1, e2, ez1, ez2⟩, ⟨f1, f2, fz1, fz2⟩, ⟨g2, gz2⟩, ⟨k2, kz2⟩, ⟨l2, lz2⟩⟩ := store_facts HP1.out K2 R2 (.cells (madeCells #[.bool false] L) 4)
           have HR2 := hide R2
           have HK2 := hide K2
           have HKK := hide hk2
           clear K2 R2 hown2 hk2))
      all_goals go_wp2
      all_goals go_meet
      · have hs2 : w.heap.size ≤ w2.heap.size := Nat.le_trans HK1.out.size HK2.out.size
        exact ⟨_, _, store_end HK1.out HP1.out (HK2.out.alloc _) (ownsRow_kept HR2.out fun g hg => Below.heap_alloc _ _ _ (own_lt HR2.out hg)) (made_row w2 hs2 hL)⟩
      · have hs2 : w.heap.size ≤ w2.heap.size := Nat.le_trans HK1.out.size HK2.out.size
        exact ⟨_, _, store_end2 _ HK1.out HP1.out HK2.out HR2.out (made_row_at (w2.setCell ⟨w.heap.size, 1, none⟩ (.slice A3 L c3)) (by simp [World.setCell]) hs2 hL)⟩
      · have hs1 : w.heap.size ≤ w1.heap.size := HK1.out.size
        exact ⟨_, _, store_end HK1.out HP1.out HK2.out HR2.out (ownsRow_kept (made_row w1.drew hs1 hL) fun g hg => HKK.out.block g (own_lt (made_row w1.drew hs1 hL) hg) id)⟩
    case rest =>
      clear h0 h1 h2 hz CL NW HP1 HK1
      obtain ⟨v2, s2, hPx, hKx⟩ := hcut
      have hrel0 : OfRel w N L xs (.int .i64 0) wc := ⟨[], xs, v2, s2, rfl, fun o ho => (List.not_mem_nil ho).elim, rfl, by simpa [marks, HXL.out] using hPx, hKx⟩
      have HR0 := hide hrel0
      clear hPx hKx hrel0
      go_wp2
      go_loopw [7] (fun i wr => OfRel w N L xs i wr) (fun i _ => L - (intOf i).toNat)
      case atStart => exact HR0.out
      case round =>
        clear HR0
        obtain ⟨done, rest, v2, s2, hx, hf, rfl, hP, hK⟩ := hrel
        have hxl := HXL.out
        have hsee := hK.sees HS.out hC
        have HF := hide hf
        have HK := hide hK
        have HP := hide hP
        clear hf hK hP
        match rest, hx with
        | [], hx =>
          have hal : (flat done).length = L := by rw [← hxl, hx]; simp
          have HX := hide hx
          clear hx
          rw [hal]
          clear hxl hsee
          go_wp2
          go_ret2
          exact ret_some_of HK.out HBB.out (by simpa using HX.out) HF.out HXL.out (by omega) hN1 (by simpa using HP.out)
        | [k], hx =>
          have hal : (flat done).length + 1 = L := by rw [← hxl, hx]; simp
          have HX := hide hx
          clear hx hxl hsee
          generalize (flat done).length = a at *
          subst hal
          go_wp2
          go_quiet (fail)
          go_wp2
          go_ret2
          exact ret_none_of (HK.out.drewN _) (.inr (by rw [HX.out]; exact bad_one done k))
        | k :: m :: tl, hx =>
          have hal : (flat done).length + 2 + tl.length = L := by rw [← hxl, hx]; simp; omega
          have hk := HII.out k (by rw [hx]; simp)
          have hm := HII.out m (by rw [hx]; simp)
          obtain ⟨b, off, u, hA, hb, hu, hcell0⟩ := hsee.at_ (k := (flat done).length) (by omega)
          rw [hx] at hu
          simp at hu
          subst hu
          obtain ⟨b', off', u', hA', hb', hu', hcell1⟩ := hsee.at_ (k := (flat done).length + 1) (by omega)
          rw [hA] at hA'
          obtain ⟨rfl, rfl⟩ : b = b' ∧ off = off' := by simpa using hA'
          rw [hx] at hu'
          simp at hu'
          subst hu'
          have MY := fun W => hide (may_any k m W)
          subst hA
          unfold inI32 at hk hm
          have HX := hide hx
          have HMY := hide (show mayO k m = mayO k m from rfl)
          generalize hr : mayO k m = r at MY HMY
          have HRR := hide hr
          clear hx hxl hsee hr
          have hmay1 : r = true → 0 ≤ m := by intro h; have := HRR.out; rw [h] at this; simp [mayO] at this; omega
          obtain ⟨h0, h1, h2, hz⟩ := HP.out.cells
          generalize ha : (flat done).length = a at *
          have HAA := hide ha
          have HAL := hide hal
          have hlt : a + 1 < L := by omega
          clear ha hal
          have e1 : IntKind.i64.wrap ((a : Int) + 1) = (a : Int) + 1 := IntWalk.i64_in _ (by omega)
          have e2 : ((a : Int) + 1 == (L : Int)) = false := by simp; omega
          cases r
          · clear hmay1
            go_wp2
            go_quiet ((go_at_call 37; exact quiet_l (MY _).out))
            go_wp2
            go_ret2
            exact ret_none_of (HK.out.drewN _) (.inr (by rw [HX.out]; exact bad_may done k m tl HRR.out))
          · have hm0 := hmay1 rfl
            clear hmay1
            by_cases hlong : m ≤ (L : Int) - a - 2
            · obtain ⟨g, c2, rfl, hgB, ⟨u3, hu3⟩, hz3, hP3⟩ := HP.out.mark (a := a) (by omega) (.bool true)
              have HP3 := hide hP3
              clear hP3
              go_wp2
              go_quiet ((go_at_call 37; exact quiet_l (MY _).out))
              go_wp2
              go_roundw
              case rel =>
                obtain ⟨m, rfl⟩ := Int.eq_ofNat_of_zero_le hm0
                obtain rfl := HAA.out
                exact OfRel.step HX.out HF.out (by have := HAL.out; omega) HRR.out (HP3.out.none_ ((Keeps.refl _ _).drewN nq)) ((HK.out.drewN nq).setCell (fun h => by simp at h; omega) _) _ rfl
              case measure => simp [intOf]; omega
            · go_wp2
              go_quiet ((go_at_call 37; exact quiet_l (MY _).out))
              go_wp2
              go_ret2
              exact ret_none_of (HK.out.drewN _) (.inr (by rw [HX.out]; exact bad_long done k m tl (by have := HAL.out; omega)))
end Go.Proofs.Ytjjoelhemhnojaa
