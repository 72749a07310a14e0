/- Copy and Live, said of heaps of the call's own; at no heap; the first look of the laws on copying. -/
import Derived.Test.YtjjoelhemhnojaaCopyC
import Derived.Test.YtjjoelhemhnojaaIn
set_option linter.unusedVariables false
namespace Go.Proofs.Ytjjoelhemhnojaa
open Go.RowKit Go.Instr
open Hp Cp

theorem HeapIn.less {w : World} {B B' p N : Nat} {F : Nat → Prop} {objs : List Hp.Ob} (h : HeapIn w B F p N objs) (hB : B' ≤ B) : HeapIn w B' F p N objs := by
  obtain ⟨wv, sv, h1, h2, h3, h4⟩ := h.rows
  exact ⟨h.fine, h.le, h.most, ⟨Nat.le_trans hB h.here.1, h.here.2⟩, fun k hk => ⟨Nat.le_trans hB (h.low k hk).1, (h.low k hk).2⟩, wv, sv, h1, ownsRow_less h2 hB, ownsRow_less h3 hB, h4⟩
theorem keeps_of_below {w w' : World} (h : Below w.heap.size w w') : Keeps (fun _ => False) w w' := ⟨h.os, h.tape, h.output, h.size, fun k hk _ => h.block k hk⟩
/-- What is copied of H. -/
def copyO (H : List Hp.Ob) (R : Int → Nat → Bool) (roots : List Int) : List Hp.Ob := (liveF H R roots).map (trO H R (liveF H R roots))
def movedO (H : List Hp.Ob) (R : Int → Nat → Bool) (roots : List Int) : List Int := roots.map (newO H (liveF H R roots))
section
variable {W0 w w' : World} {p N : Nat} {H : List Hp.Ob} {R : Int → Nat → Bool}
theorem Solo.copy (h : Solo W0 w p N H) (hI : ∀ x ∈ flat H, inI32 x) {A : Option Addr} {n cap : Nat} {roots : List Int} (hs : Sees w w.heap.size A n (roots.map (Value.int .i64))) (hn : n ≤ 2000000) (rv : Value) (hR : RefsOk rv R) :
    Calls Try.prog 31 #[.pointer (some ⟨p, 0, none⟩), rv, .slice A n cap] w fun e w' => ∃ A' c', e = .returned (.tuple #[.pointer (some ⟨w.heap.size, 0, none⟩), .slice A' n c']) ∧ Sees w' w'.heap.size A' n ((movedO H R roots).map (Value.int .i64)) ∧ (A' = none → c' = 0) ∧
      Solo W0 w' w.heap.size N (copyO H R roots) ∧ Solo W0 w' p N H ∧ Keeps (fun _ => False) w w' := by
  obtain ⟨F, h1, h2⟩ := h
  refine (copy_any h1 hI A n cap roots hs hn rv R hR).mono ?_
  rintro e w' ⟨v, rfl, ho, ⟨G, hG, _⟩, hk⟩
  have hb := h2.trans (hk.below h2.size fun _ => False.elim)
  obtain ⟨A', c', rfl, hA⟩ := Sees.of_own ho
  refine ⟨A', c', rfl, ?_, ?_, ⟨G, hG.less h2.size, hb⟩, ⟨F, h1.keeps hk fun _ _ => id, hb⟩, hk⟩
  · unfold movedO
    rw [List.map_map]
    exact hA
  · rintro rfl
    rcases ho.2 with ⟨he, _⟩ | ⟨g, cap, cur, he, _⟩
    · exact (Value.slice.inj he).2.2
    · cases he
theorem Solo.live (h : Solo W0 w p N H) (hI : ∀ x ∈ flat H, inI32 x) {A : Option Addr} {n cap : Nat} {roots : List Int} (hs : Sees w w.heap.size A n (roots.map (Value.int .i64))) (hn : n ≤ 2000000) (rv : Value) (hR : RefsOk rv R) :
    Calls Try.prog 36 #[.pointer (some ⟨p, 0, none⟩), rv, .slice A n cap] w fun e w' => e = .returned (.int .i64 ((flat (copyO H R roots)).length : Int)) ∧ Solo W0 w' p N H ∧ Keeps (fun _ => False) w w' := by
  have C := hide (h.copy hI (cap := cap) hs hn rv hR)
  clear h hI hs hn hR
  go_enter Try.func36, Try.ntmps36
  go_wp2_with fail
  refine C.out.mono ?_
  rintro e w2 ⟨A', c', rfl, _, _, h1, h2, hk⟩
  have U := hide h1.used
  have H2 := hide h2
  have HK := hide hk
  clear h1 h2 hk C
  go_wp2_with (go_at_call 26; (with_reducible refine U.out.mono ?_); rintro e w' ⟨rfl, rfl⟩)
  go_ret
  exact ⟨rfl, H2.out, HK.out⟩
end
theorem none_copy (w : World) (rv s : Value) : Calls Try.prog 31 #[.pointer none, rv, s] w fun e w' => e = .returned (.tuple #[.pointer none, .slice none 0 0]) ∧ w = w' := by
  go_enter Try.func31, Try.ntmps31
  go_wp2_with fail
  go_ret2
  exact ⟨rfl, rfl⟩
theorem none_live (w : World) (rv s : Value) : Calls Try.prog 36 #[.pointer none, rv, s] w fun e w' => e = .returned (.int .i64 0) ∧ w = w' := by
  have C := hide (none_copy w rv s)
  have U := hide (none_used w)
  go_enter Try.func36, Try.ntmps36
  go_wp2_with (first | (go_at_call 31; (with_reducible refine C.out.mono ?_); rintro e w' ⟨rfl, rfl⟩) | (go_at_call 26; (with_reducible refine U.out.mono ?_); rintro e w' ⟨rfl, rfl⟩))
  go_ret
  exact ⟨rfl, rfl⟩
theorem begun40_any (w : World) : Calls Try.prog 40 #[] w fun e w' => e = .returned (.bool true) ∧ Below w.heap.size w w' := by
  have B := hide (begun13_any w)
  go_enter Try.func40, Try.ntmps40
  go_wp2_with fail
  refine B.out.mono ?_
  rintro e w2 ⟨rfl, hb⟩
  have HB := hide hb
  clear hb B
  go_wp2_with fail
  go_ret
  exact ⟨rfl, HB.out⟩
theorem refs_ok : RefsOk (.func (.func 32) #[] #[]) refB := .inr ⟨rfl, rfl⟩
/-- Cells that a short slice shows. -/
theorem Sees.cells {w : World} {B n : Nat} {A : Option Addr} {xs : List Value} (h : Sees w B A n xs) (hn : 0 < n) : ∃ b off, A = some ⟨b, off, none⟩ ∧ ∀ j u, xs[j]? = some u → w.cell? ⟨b, off + j, none⟩ = some u := by
  obtain ⟨b, off, h1, _, h2⟩ := h.2 hn
  exact ⟨b, off, h1, h2⟩
set_option maxHeartbeats 2000000 in
theorem begun14_any (w : World) : Calls Try.prog 28 #[] w fun e w' => e = .returned (.bool true) ∧ Below w.heap.size w w' := by
  have N0 := hide (Solo.new (W0 := w) (w := w) 30 (Below.refl _ _))
  rw [show clampN 30 = 30 from rfl] at N0
  go_enter Try.func28, Try.ntmps28
  go_wp2_with fail
  refine N0.out.mono ?_
  rintro e w1 ⟨rfl, hin1⟩
  have M1 := hide (hin1.make 2 1 rfl (by simp [flat]))
  rw [show (flat []).length = 0 from rfl] at M1
  clear hin1
  go_wp2_with fail
  refine M1.out.mono ?_
  rintro e w2 ⟨rfl, hin2⟩
  have M2 := hide (hin2.make 2 1 rfl (by simp [flat]))
  rw [show (flat ([] ++ [(2, List.replicate 1 0)])).length = 3 from rfl] at M2
  clear hin2
  go_wp2_with fail
  refine M2.out.mono ?_
  rintro e w3 ⟨rfl, hin3⟩
  have M3 := hide (hin3.make 4 0 rfl (by simp [flat]))
  rw [show (flat ([] ++ [(2, List.replicate 1 0)] ++ [(2, List.replicate 1 0)])).length = 6 from rfl] at M3
  clear hin3
  go_wp2_with fail
  refine M3.out.mono ?_
  rintro e w4 ⟨rfl, hin4⟩
  have M4 := hide (hin4.put 3 0 7 (by decide +kernel))
  rw [show Hp.put ([] ++ [(2, List.replicate 1 0)] ++ [(2, List.replicate 1 0)] ++ [(4, List.replicate 0 0)]) 3 0 7 = [(2, [0]), (2, [7]), (4, [])] from rfl] at M4
  clear hin4
  go_wp2_with fail
  refine M4.out.mono ?_
  rintro e w5 ⟨rfl, hin5⟩
  have hka : Keeps (fun _ => False) w5 (w5.alloc (.cells #[.int .i64 6, .int .i64 (-1), .int .i64 3] 3)) := (Keeps.refl _ w5).alloc _
  have hs5 := new_sees w5 #[.int .i64 6, .int .i64 (-1), .int .i64 3] 3
  have hsz5 : (w5.alloc (.cells #[.int .i64 6, .int .i64 (-1), .int .i64 3] 3)).heap.size = w5.heap.size + 1 := by simp
  have m5 := ((hin5.keeps hka).copy (R := refB) (roots := [6, -1, 3]) (cap := 3) (by unfold inI32; decide +kernel) (by simpa using hs5) (by omega) _ refs_ok)
  rw [show copyO [(2, [0]), (2, [7]), (4, [])] refB [6, -1, 3] = [(4, []), (2, [1])] from by decide +kernel, show movedO [(2, [0]), (2, [7]), (4, [])] refB [6, -1, 3] = [0, -1, 2] from by decide +kernel, hsz5] at m5
  have M5 := hide m5
  clear hin5 hka hs5 m5 hsz5
  go_wp2_with fail
  refine M5.out.mono ?_
  rintro e w6 ⟨A, c, rfl, hsee, hc0, hg6, hin6, hk6⟩
  obtain ⟨b, off, rfl, hcl⟩ := hsee.cells (by omega)
  have hc0' := hcl 0 _ rfl
  have hc1' := hcl 1 _ rfl
  have hc2' := hcl 2 _ rfl
  have hlt6 : b < w6.heap.size := cell_lt hc0'
  have B := hide (begun40_any w6)
  have HIN6 := hide hin6
  have HG6 := hide hg6
  clear hsee hc0 hg6 hin6 hk6 hcl N0 M1 M2 M3 M4 M5
  rw [Nat.add_zero] at hc0'
  go_wp2_with fail
  refine B.out.mono ?_
  rintro e w7 ⟨rfl, hb7⟩
  have hk7 := keeps_of_below hb7
  have hg7 := HG6.out.keeps hk7
  have hin7 := HIN6.out.keeps hk7
  have e0 : w7.cell? ⟨b, off, none⟩ = some (.int .i64 0) := (World.cell?_of_block (hk7.block b hlt6 id)).trans hc0'
  have e1 : w7.cell? ⟨b, off + 1, none⟩ = some (.int .i64 (-1)) := (World.cell?_of_block (hk7.block b hlt6 id)).trans hc1'
  have e2 : w7.cell? ⟨b, off + 2, none⟩ = some (.int .i64 2) := (World.cell?_of_block (hk7.block b hlt6 id)).trans hc2'
  have hka : Keeps (fun _ => False) w7 (w7.alloc (.cells #[.int .i64 3] 3)) := (Keeps.refl _ w7).alloc _
  have hs7 := new_sees w7 #[.int .i64 3] 3
  have L1 := hide ((hin7.keeps hka).live (R := refB) (roots := [3]) (cap := 1) (by unfold inI32; decide +kernel) (by simpa using hs7) (by omega) _ refs_ok)
  rw [show (flat (copyO [(2, [0]), (2, [7]), (4, [])] refB [3])).length = 5 from by decide +kernel] at L1
  have K1 := hide hg7.used
  have K2 := hide hg7.size
  have K3 := hide (hg7.kind 0)
  have K4 := hide (hg7.kind 2)
  have K5 := hide (hg7.get 2 0)
  rw [show (flat [(4, []), (2, [1])]).length = 5 from rfl] at K1
  rw [show kindO [(4, []), (2, [1])] 0 = 4 from rfl] at K3
  rw [show kindO [(4, []), (2, [1])] 2 = 2 from rfl] at K4
  rw [show getO [(4, []), (2, [1])] 2 0 = 1 from rfl] at K5
  clear hc0' hc1' hc2' hb7 hk7 hg7 hin7 hka hs7 B HG6 HIN6
  go_wp2_with (first
    | (go_at_call 26; (with_reducible refine K1.out.mono ?_); rintro e w' ⟨rfl, rfl⟩)
    | (go_at_call 21; (with_reducible refine K2.out.mono ?_); rintro e w' ⟨rfl, rfl⟩)
    | (go_at_call 24; (with_reducible refine K3.out.mono ?_); rintro e w' ⟨rfl, rfl⟩)
    | (go_at_call 24; (with_reducible refine K4.out.mono ?_); rintro e w' ⟨rfl, rfl⟩)
    | (go_at_call 27; (with_reducible refine K5.out.mono ?_); rintro e w' ⟨rfl, rfl⟩)
    | (go_at_call 36; (with_reducible refine L1.out.mono ?_); rintro e w8 ⟨rfl, h8, k8⟩; have u8 := h8.used; rw [show (flat [(2, [0]), (2, [7]), (4, [])]).length = 8 from rfl] at u8; have U8 := hide u8; have HB8 := hide h8.below; clear h8 k8 u8)
    | (go_at_call 26; (with_reducible refine U8.out.mono ?_); rintro e w' ⟨rfl, rfl⟩))
  go_ret
  exact ⟨rfl, HB8.out⟩
end Go.Proofs.Ytjjoelhemhnojaa
