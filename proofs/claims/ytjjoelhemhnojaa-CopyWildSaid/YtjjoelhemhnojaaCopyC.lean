/- The walk of Copy. -/
import Derived.Test.YtjjoelhemhnojaaCopyB
import Derived.Deep.CutBlock
import Derived.Deep.DeepCutAuto
import Derived.IntWalk
import Derived.StillTailTactics
set_option linter.unusedVariables false
namespace Go.Proofs.Ytjjoelhemhnojaa
open Go.RowKit Go.Instr
open Hp Cp

section
variable {w0 w w' : World} {Fo : Nat → Prop} {p N c t i m : Nat} {H : List Hp.Ob} {R : Int → Nat → Bool} {FL L : List Int}
/-- What the walk reads of a copier. -/
theorem CpIn.reads (h : CpIn w0 w Fo p N H R FL c t L i m) : ∃ mb A cc, w.cell? ⟨c, 0, none⟩ = some (.pointer (some ⟨p, 0, none⟩)) ∧ w.cell? ⟨c, 1, none⟩ = some (.pointer (some ⟨t, 0, none⟩)) ∧ w.cell? ⟨c, 2, none⟩ = some (.map (some mb)) ∧
    w.cell? ⟨c, 3, none⟩ = some (.slice A L.length cc) ∧ Sees w w.heap.size A L.length (L.map (Value.int .i64)) ∧ (∀ a ∈ L, (Instr.lookup 70 (.map (some mb)) (.int .i64 a) false).run Try.prog w = .ok (.int .i64 (offO H FL a : Int)) w) := by
  obtain ⟨G, mb, ov, h1, h2, h3, h4, h5⟩ := h.body
  obtain ⟨A, cc, rfl, hA⟩ := Sees.of_own h4
  refine ⟨mb, A, cc, ?_, ?_, ?_, ?_, hA, fun a ha => ?_⟩
  · rw [cell_of_row w c 0 _ 72 (0, 0) h2]; rfl
  · rw [cell_of_row w c 1 _ 72 (0, 0) h2]; rfl
  · rw [cell_of_row w c 2 _ 72 (0, 0) h2]; rfl
  · rw [cell_of_row w c 3 _ 72 (0, 0) h2]; rfl
  · have hl := h3.look (P := Try.prog) (t := 70) (k := 3) (e := 3) (z := .int .i64 0) Try.underlying70 Try.underlying3 (by kernel_rfl) a
    rw [found_places (fun a => Value.int .i64 (offO H FL a : Int)), if_pos ha] at hl
    exact hl
/-- A word of a copy is put. -/
theorem CpIn.put (h : CpIn w0 w Fo p N H R FL c t L i m) (hF : Cp.Good H FL) {a x : Int} (hj : L[i]? = some a) (hx : (objO H a).2[m]? = some x) :
    Calls Try.prog 18 #[.pointer (some ⟨t, 0, none⟩), .int .i64 (offO H FL a : Int), .int .i64 (m : Int), .int .i32 (trW H R FL (objO H a).1 m x)] w fun e w' => e = .returned (.bool true) ∧ CpIn w0 w' Fo p N H R FL c t L i (m + 1) ∧ Keeps Fo w w' ∧ ∀ k, w'.cell? ⟨c, k, none⟩ = w.cell? ⟨c, k, none⟩ := by
  obtain ⟨G, mb, ov, h1, h2, h3, h4, g1, g2, g3, g4, n1, n2, n3⟩ := h.body
  obtain ⟨o, ho, ho1, ho2⟩ := look_copy (R := R) (i := i) (m := m) hF.nd h.pre hj
  have hm : m < (objO H a).2.length := (List.getElem?_eq_some_iff.1 hx).1
  refine (put_in h1 (offO H FL a : Int) m _ (by unfold lenO; rw [ho]; simp; omega)).mono ?_
  rintro e w' ⟨rfl, hi, hk⟩
  have hkF := hk.more fun k _ hg => g1 k hg
  rw [put_copy hF.nd h.pre hj hx] at hi
  exact ⟨rfl, ⟨h.below.trans (hkF.below h.below.size fun k hf => (h.low k hf).1), fun k hf => ⟨(h.low k hf).1, Nat.lt_of_lt_of_le (h.low k hf).2 hk.size⟩, h.pre, G, mb, ov, hi, (hk.block c (lt_of_heap h2) n1).trans h2, h3.kept hk n2, ownsRow_kept h4 fun g hg => hk.block g (own_lt h4 hg) (n3 g hg), g1, g2, g3, g4, n1, n2, n3⟩, hkF, fun k => World.cell?_of_block (hk.block c (lt_of_heap h2) n1)⟩
/-- The object is done. -/
theorem CpIn.next (h : CpIn w0 w Fo p N H R FL c t L i m) {a : Int} (hj : L[i]? = some a) (hm : m = (objO H a).2.length) : CpIn w0 w Fo p N H R FL c t L (i + 1) 0 := by
  obtain ⟨G, mb, ov, h1, h2⟩ := h.body
  rw [done_copy hj hm] at h1
  exact ⟨h.below, h.low, h.pre, G, mb, ov, h1, h2⟩
end
/-- The copying so far, and the row of what was asked for. -/
structure CopySt (w0 w : World) (p N : Nat) (H : List Hp.Ob) (R : Int → Nat → Bool) (roots : List Int) (c t : Nat) (L : List Int) (i m j : Nat) (ps : List Int) (ov : Value) (r : Nat) : Prop where
  ex : ∃ Fo, CpIn w0 w Fo p N H R (liveF H R roots) c t L i m ∧ (∀ g, ov.ownBlock = some g → ¬ Fo g)
  pend : Pend H R (liveF H R roots) L j ps
  row : w.ownsRow w0.heap.size 3 1 ov r ((roots.take r).map fun a => Value.int .i64 (newO H (liveF H R roots) a))
section
variable {w0 w w' : World} {p N c t i m j r : Nat} {H : List Hp.Ob} {R : Int → Nat → Bool} {L roots ps : List Int} {ov : Value}
theorem CopySt.place {B : Nat} {Ff : Nat → Prop} (hf : HeapIn w0 B Ff p N H) {a : Int} (h : CopySt w0 w p N H R roots c t L i m j (a :: ps) ov r) (hi : i < L.length ∨ (i = 0 ∧ m = 0)) :
    Calls Try.prog 41 #[.pointer (some ⟨c, 0, none⟩), .int .i64 a] w fun e w' => e = .returned (.int .i64 (newO H (liveF H R roots) a)) ∧ CopySt w0 w' p N H R roots c t (addO H L a) i m j ps ov r := by
  obtain ⟨⟨Fo, h1, h2⟩, h3, h4⟩ := h
  refine (place_any hf h1 (live_good H R roots) a h3.step.pre hi).mono ?_
  rintro e w' ⟨rfl, Fo', hc, hk, hn⟩
  refine ⟨rfl, ⟨Fo', hc, fun g hg hF => ?_⟩, h3.step, ownsRow_kept h4 fun g hg => hk.block g (own_lt h4 hg) (h2 g hg)⟩
  rcases hn g hF with hF | hF
  · exact h2 g hg hF
  · have := own_lt h4 hg; omega
theorem CopySt.none_ (h : CopySt w0 w p N H R roots c t L i m j ps ov r) (hk : Keeps (fun _ => False) w w') : CopySt w0 w' p N H R roots c t L i m j ps ov r := by
  obtain ⟨⟨Fo, h1, h2⟩, h3, h4⟩ := h
  exact ⟨⟨Fo, h1.none_ hk, h2⟩, h3, ownsRow_kept h4 fun g hg => hk.block g (own_lt h4 hg) id⟩
/-- Something was appended to the row. -/
theorem CopySt.grown (h : CopySt w0 w p N H R roots c t L i m j ps ov r) {v2 : Value} (ho : w'.ownsRow w0.heap.size 3 1 v2 (r + 1) ((roots.take (r + 1)).map fun a => Value.int .i64 (newO H (liveF H R roots) a))) (hg : w.grownBy w' ov.ownBlock) (hat : v2.ownBlock = ov.ownBlock ∨ v2.ownBlock = some w.heap.size) :
    CopySt w0 w' p N H R roots c t L i m j ps v2 (r + 1) := by
  obtain ⟨⟨Fo, h1, h2⟩, h3, h4⟩ := h
  obtain ⟨G, mb, ov', b1, b2, b3, b4, g1, g2, g3, g4, n⟩ := h1.body
  have hk : Keeps (fun k => ov.ownBlock = some k) w w' := (Keeps.refl _ w).grown hg fun g hg _ => hg
  refine ⟨⟨Fo, ⟨h1.below.trans (hk.below h1.below.size fun k hf => ownBlock_ge h4 k hf), fun k hf => ⟨(h1.low k hf).1, Nat.lt_of_lt_of_le (h1.low k hf).2 hg.size⟩, h1.pre, G, mb, ov', b1.keeps hk (fun k hf hk' => h2 k hk' (g1 k hf)), (hk.block c (lt_of_heap b2) fun e => h2 c e g2).trans b2, b3.kept hk fun e => h2 mb e g3, ownsRow_kept b4 fun g hg' => hk.block g (own_lt b4 hg') fun e => h2 g e (g4 g hg'), g1, g2, g3, g4, n⟩, fun g hg' hF => ?_⟩, h3, ho⟩
  rcases hat with hat | hat
  · exact h2 g (hat.symm.trans hg') hF
  · rw [hat] at hg'
    have := (h1.low g hF).2
    cases hg'
    omega
theorem CopySt.low (h : CopySt w0 w p N H R roots c t L i m j ps ov r) : w0.heap.size ≤ w.heap.size := by
  obtain ⟨⟨Fo, h1, h2⟩, h3, h4⟩ := h
  exact h1.below.size
end
/-- The two function values that the laws hand on. -/
def RefsOk (rv : Value) (R : Int → Nat → Bool) : Prop := (rv = .nilFunc ∧ ∀ kd k, R kd k = false) ∨ (rv = .func (.func 32) #[] #[] ∧ R = refB)
theorem refs_any (kd : Int) (k : Nat) (w : World) (hk : 0 ≤ kd) (hk2 : kd ≤ 10000) (h3 : k ≤ 1000) : Calls Try.prog 32 #[.int .i64 kd, .int .i64 (k : Int)] w fun e w' => e = .returned (.bool (refB kd k)) ∧ w = w' := by
  have hr : refB kd k = ((kd % 2 == 0) || ((k : Int) == 0)) := by
    unfold refB
    rw [Int.tmod_eq_emod_of_nonneg hk]
    congr 1
    rw [Bool.eq_iff_iff]
    simp
  have HR := hide hr
  clear hr
  cases h1 : (kd % 2 == 0) <;> cases h2 : ((k : Int) == 0)
  all_goals
    rw [h1, h2] at HR
    go_enter Try.func32, Try.ntmps32
    go_wp2_with fail
    go_ret
    exact ⟨by rw [HR.out]; rfl, rfl⟩
theorem CopySt.start {w w1 : World} {p N : Nat} {H : List Hp.Ob} {R : Int → Nat → Bool} {roots : List Int} (hN : HeapIn w1 w.heap.size (fun k => k = w.heap.size) w.heap.size N []) (hk : Keeps (fun _ => False) w w1) :
    CopySt w ((w1.alloc (.map #[] 0)).alloc (.cells #[.pointer (some ⟨p, 0, none⟩), .pointer (some ⟨w.heap.size, 0, none⟩), .map (some w1.heap.size), .slice none 0 0] 72)) p N H R roots (w1.heap.size + 1) w.heap.size [] 0 0 0 roots (.slice none 0 0) 0 := by
  have k1 := ((Keeps.refl (fun _ => False) w1).alloc (.map #[] 0)).alloc (.cells #[.pointer (some ⟨p, 0, none⟩), .pointer (some ⟨w.heap.size, 0, none⟩), .map (some w1.heap.size), .slice none 0 0] 72)
  have hsz : ((w1.alloc (.map #[] 0)).alloc (.cells #[.pointer (some ⟨p, 0, none⟩), .pointer (some ⟨w.heap.size, 0, none⟩), .map (some w1.heap.size), .slice none 0 0] 72)).heap.size = w1.heap.size + 2 := by simp
  have hh := heap_alloc_new (w1.alloc (.map #[] 0)) (Go.Obj.cells #[.pointer (some ⟨p, 0, none⟩), .pointer (some ⟨w.heap.size, 0, none⟩), .map (some w1.heap.size), .slice none 0 0] 72)
  rw [show (w1.alloc (.map #[] 0)).heap.size = w1.heap.size + 1 from by simp] at hh
  have hm := (IMap.made w1).kept ((Keeps.refl (fun _ => False) _).alloc (.cells #[.pointer (some ⟨p, 0, none⟩), .pointer (some ⟨w.heap.size, 0, none⟩), .map (some w1.heap.size), .slice none 0 0] 72)) id
  have hl := hN.low w.heap.size rfl
  refine ⟨⟨fun k => k = w.heap.size ∨ k = w1.heap.size ∨ k = w1.heap.size + 1, ⟨(hk.trans k1).below (Nat.le_refl _) fun _ => False.elim, ?_, List.nil_prefix, fun k => k = w.heap.size, w1.heap.size, .slice none 0 0, hN.keeps k1 (fun _ _ => id), hh, hm, World.ownsRow_nil _ _ _ _, fun k h => .inl h, .inr (.inr rfl), .inr (.inl rfl), fun g hg => (by cases hg), by omega, by omega, fun g hg => (by cases hg)⟩, fun g hg => (by cases hg)⟩, Pend.start H R roots, World.ownsRow_nil _ _ _ _⟩
  rintro k (rfl | rfl | rfl) <;> omega
theorem offO_le (H : List Hp.Ob) : ∀ (F : List Int) (a : Int), offO H F a ≤ szs H F := by
  intro F
  induction F with
  | nil => intro a; exact Nat.le_refl _
  | cons b F ih =>
    intro a
    simp only [offO, szs]
    have := ih a
    split <;> omega
theorem newO_bd (H : List Hp.Ob) (R : Int → Nat → Bool) (roots : List Int) (a : Int) : -1 ≤ newO H (liveF H R roots) a ∧ newO H (liveF H R roots) a ≤ ((flat H).length : Int) := by
  have h1 := offO_le H (liveF H R roots) a
  have h2 := (good_le H _ (live_good H R roots)).2
  unfold newO
  split <;> omega
section
variable {w0 w w' : World} {p N c t i m j r : Nat} {H : List Hp.Ob} {R : Int → Nat → Bool} {L roots ps : List Int} {ov : Value}
theorem CopySt.put (h : CopySt w0 w p N H R roots c t L i m j ps ov r) {a x : Int} (hj : L[i]? = some a) (hx : (objO H a).2[m]? = some x) :
    Calls Try.prog 18 #[.pointer (some ⟨t, 0, none⟩), .int .i64 (offO H (liveF H R roots) a : Int), .int .i64 (m : Int), .int .i32 (trW H R (liveF H R roots) (objO H a).1 m x)] w fun e w' => e = .returned (.bool true) ∧ CopySt w0 w' p N H R roots c t L i (m + 1) j ps ov r ∧ ∀ k, w'.cell? ⟨c, k, none⟩ = w.cell? ⟨c, k, none⟩ := by
  obtain ⟨⟨Fo, h1, h2⟩, h3, h4⟩ := h
  refine (h1.put (live_good H R roots) hj hx).mono ?_
  rintro e w' ⟨rfl, hc, hk, hcc⟩
  exact ⟨rfl, ⟨⟨Fo, hc, h2⟩, h3, ownsRow_kept h4 fun g hg => hk.block g (own_lt h4 hg) (h2 g hg)⟩, hcc⟩
theorem CopySt.next (h : CopySt w0 w p N H R roots c t L i m j ps ov r) {a : Int} (hj : L[i]? = some a) (hm : m = (objO H a).2.length) : CopySt w0 w p N H R roots c t L (i + 1) 0 j ps ov r := by
  obtain ⟨⟨Fo, h1, h2⟩, h3, h4⟩ := h
  exact ⟨⟨Fo, h1.next hj hm, h2⟩, h3, h4⟩
theorem CopySt.begin (h : CopySt w0 w p N H R roots c t L i m i [] ov r) {a : Int} (hj : L[i]? = some a) : CopySt w0 w p N H R roots c t L i m (i + 1) (kids R (objO H a).1 0 (objO H a).2) ov r := by
  obtain ⟨h1, h3, h4⟩ := h
  exact ⟨h1, h3.next (live_good H R roots) hj, h4⟩
theorem CopySt.pre (h : CopySt w0 w p N H R roots c t L i m j ps ov r) : L <+: liveF H R roots := h.pend.pre
theorem CopySt.below (h : CopySt w0 w p N H R roots c t L i m j ps ov r) : Below w0.heap.size w0 w := by
  obtain ⟨⟨Fo, h1, h2⟩, h3, h4⟩ := h
  exact h1.below
theorem CopySt.reads (h : CopySt w0 w p N H R roots c t L i m j ps ov r) : ∃ mb A cc, w.cell? ⟨c, 0, none⟩ = some (.pointer (some ⟨p, 0, none⟩)) ∧ w.cell? ⟨c, 1, none⟩ = some (.pointer (some ⟨t, 0, none⟩)) ∧ w.cell? ⟨c, 2, none⟩ = some (.map (some mb)) ∧
    w.cell? ⟨c, 3, none⟩ = some (.slice A L.length cc) ∧ Sees w w.heap.size A L.length (L.map (Value.int .i64)) ∧ (∀ a ∈ L, (Instr.lookup 70 (.map (some mb)) (.int .i64 a) false).run Try.prog w = .ok (.int .i64 (offO H (liveF H R roots) a : Int)) w) := by
  obtain ⟨⟨Fo, h1, h2⟩, h3, h4⟩ := h
  exact h1.reads
end
theorem word_mem {H : List Hp.Ob} {a x : Int} {o : Hp.Ob} {k : Nat} (h : lookO H a = some o) (hx : o.2[k]? = some x) : x ∈ flat H := by
  obtain ⟨n, _, _, _, _, _, hw, _⟩ := look_some _ h
  exact List.mem_of_getElem? ((hw k (List.getElem?_eq_some_iff.1 hx).1).trans hx)
theorem get_word {H : List Hp.Ob} {a x : Int} {o : Hp.Ob} {k : Nat} (h : lookO H a = some o) (hx : o.2[k]? = some x) : getO H a (k : Int) = x := by
  unfold getO
  rw [h]
  simp [List.getD_eq_getElem?_getD, hx]
set_option maxHeartbeats 4000000 in
set_option maxRecDepth 100000 in
theorem copy_any {p N : Nat} {H : List Hp.Ob} {B : Nat} {Ff : Nat → Prop} {w : World} (hf : HeapIn w B Ff p N H) (hI : ∀ x ∈ flat H, inI32 x) (A : Option Addr) (n cap : Nat) (roots : List Int) (hs : Sees w w.heap.size A n (roots.map (Value.int .i64))) (hn : n ≤ 2000000) (rv : Value) (R : Int → Nat → Bool) (hR : RefsOk rv R) :
    Calls Try.prog 31 #[.pointer (some ⟨p, 0, none⟩), rv, .slice A n cap] w fun e w' => ∃ v, e = .returned (.tuple #[.pointer (some ⟨w.heap.size, 0, none⟩), v]) ∧ w'.ownsRow w.heap.size 3 1 v n (roots.map fun a => Value.int .i64 (newO H (liveF H R roots) a)) ∧
      (∃ G, HeapIn w' w.heap.size G w.heap.size N ((liveF H R roots).map (trO H R (liveF H R roots))) ∧ ∀ g, v.ownBlock = some g → ¬ G g) ∧ Keeps (fun _ => False) w w' := by
  have HF := hide hf
  have HII := hide hI
  have HS := hide hs
  have HRO := hide hR
  have hmost := hf.most
  have S := hide (size_in hf)
  have hcl : clampN (N : Int) = N := by unfold clampN; omega
  have N0 := hide (new_any (N : Int) w w.heap.size (Nat.le_refl _))
  rw [hcl] at N0
  obtain ⟨i0, hi0, hz0, hz1, hz2⟩ := info_parts Try.info3c
  have HJ := hide hi0
  have HZ0 := hide hz0
  have HZ1 := hide hz1
  have HZ2 := hide hz2
  have hmm := @run_makeMap Try.prog
  clear hi0 hz0 hz1 hz2 hf hI hs hR hcl
  go_enter Try.func31, Try.ntmps31
  go_upto_block 2 with (first | (go_at_call 21; (with_reducible refine S.out.mono ?_); rintro e w' ⟨rfl, rfl⟩) | (go_at_call 16; (with_reducible refine N0.out.mono ?_); rintro e w1 ⟨rfl, n1, k1⟩; have HN1 := hide n1; have HK1 := hide k1; clear n1 k1))
  have HST := hide (CopySt.start (p := p) (H := H) (R := R) (roots := roots) HN1.out HK1.out)
  have HW1 := hide (show w.heap.size < w1.heap.size from (HN1.out.low w.heap.size rfl).2)
  generalize (w1.alloc (.map #[] 0)).alloc (.cells #[.pointer (some ⟨p, 0, none⟩), .pointer (some ⟨w.heap.size, 0, none⟩), .map (some w1.heap.size), .slice none 0 0] 72) = wb at *
  generalize w1.heap.size + 1 = c at *
  generalize ht : w.heap.size = t at *
  have HT := hide ht
  clear ht HN1 HK1 N0 S hmm
  go_loopw [9, 27] (fun u9 u27 wr => ∃ (r : Nat) (L : List Int), u27 = .int .i64 (r : Int) ∧ r ≤ n ∧ CopySt w wr p N H R roots c t L 0 0 0 (roots.drop r) u9 r) (fun _ u27 _ => n - (intOf u27).toNat)
  case atStart => exact ⟨0, [], rfl, by omega, HST.out⟩
  case round =>
    clear HST
    obtain ⟨r, L, rfl, hr, hst⟩ := hrel
    by_cases hlt : r < n
    · have hlen : roots.length = n := by have := HS.out.1; simpa using this
      have hlt' : (r : Int) < (n : Int) := by omega
      have hbel := hst.ex.choose_spec.1.below
      obtain ⟨b, off, u, rfl, hb, hu, hcell⟩ := (HS.out.keep (w' := wr) fun q hq => hbel.cell (by rw [HT.out]; exact hq)).at_ hlt
      have hrl : r < roots.length := by omega
      rw [List.getElem?_map, List.getElem?_eq_getElem hrl] at hu
      simp only [Option.map_some, Option.some.injEq] at hu
      subst hu
      have hdr : roots.drop r = roots[r] :: roots.drop (r + 1) := List.drop_eq_getElem_cons hrl
      have htk : roots.take (r + 1) = roots.take r ++ [roots[r]] := List.take_succ_eq_append_getElem hrl
      rw [hdr] at hst
      generalize roots[r] = a at *
      have P := hide (hst.place HF.out (.inr ⟨rfl, rfl⟩))
      have HTK := hide htk
      clear hst hbel hdr htk hrl hlen
      go_wp2_with (first
        | (go_at_call 41
           (with_reducible refine P.out.mono ?_)
           rintro e w2 ⟨rfl, h2⟩
           have hka : Keeps (fun _ => False) w2 (w2.alloc (.cells #[.int .i64 (newO H (liveF H R roots) a)] 3)) := (Keeps.refl _ w2).alloc _
           have HR2 := hide (h2.none_ hka).row
           have HSZ := hide (h2.none_ hka).low
           have H2 := hide (h2.none_ hka)
           have HNS := hide (new_sees w2 #[.int .i64 (newO H (liveF H R roots) a)] 3)
           clear h2 hka)
        | (at_builtin
           refine wpList_append_sees _ rfl (.tmp 31) (.tmp 35) 41 rfl w.heap.size 3 i0 _ 8 Try.underlying41 HJ.out HZ0.out HZ1.out HZ2.out rfl _ r _ rfl HR2.out (w2.heap.size + 1) _ 1 1 _ rfl HNS.out (fun e => nomatch e) (by intro u hu; rcases List.mem_cons.1 hu with rfl | hu; exact rfl; exact (List.not_mem_nil hu).elim) (by unfold maxLen; omega) (by omega) HSZ.out ?_
           intro v4 w4 hown4 hg4 hat4
           have HE := hide (H2.out.grown (by rw [HTK.out, List.map_append]; exact hown4) hg4 hat4)
           clear hown4 hg4 hat4))
      go_roundw
      case rel => exact ⟨r + 1, _, by go_num, by omega, HE.out⟩
      case measure => simp [intOf]; omega
    · obtain rfl : r = n := by omega
      have hlen : roots.length = r := by have := HS.out.1; simpa using this
      rw [List.drop_of_length_le (by omega)] at hst
      have HST := hide hst
      have HLEN := hide hlen
      clear hst hlen
      go_wp2
      go_loopw [12] (fun u12 wq => ∃ (i : Nat) (L : List Int), u12 = .int .i64 (i : Int) ∧ i ≤ L.length ∧ CopySt w wq p N H R roots c t L i 0 i [] u9 r) (fun u12 _ => H.length - (intOf u12).toNat)
      case atStart => exact ⟨0, L, rfl, by omega, HST.out⟩
      case round =>
        clear HST
        obtain ⟨i, L2, rfl, hi, hst⟩ := hrel
        have hLF := hst.pre
        have hg := live_good H R roots
        have hLH := (good_le H _ (hg.pre hLF)).1
        have hHf := flat_ge H
        have hfN := HF.out.le
        obtain ⟨mb, A2, cc, q0, q1, q2, q3, hA2, hlk⟩ := hst.reads
        by_cases hiL : i < L2.length
        · have hiL' : (i : Int) < (L2.length : Int) := by omega
          have hbig : (L2.length : Int) ≤ 1048576 := by omega
          obtain ⟨b2, off2, u2, rfl, hb2, hu2, hcell2⟩ := hA2.at_ hiL
          have hj := List.getElem?_eq_getElem hiL
          rw [List.getElem?_map, hj] at hu2
          simp only [Option.map_some, Option.some.injEq] at hu2
          subst hu2
          generalize L2[i] = a at *
          have haF : a ∈ liveF H R roots := hLF.subset (List.mem_of_getElem? hj)
          obtain ⟨o, ho⟩ := Option.isSome_iff_exists.1 (hg.ok a haF)
          have hob := obj_eq ho
          have hok := HF.out.fine o (look_some _ ho).choose_spec.2.2.2.2.2.2
          have hk1 : 0 ≤ o.1 := hok.1
          have hk2 : o.1 ≤ 10000 := hok.2.1
          have hk3 : o.2.length ≤ 1000 := hok.2.2
          have Ln := hide (len_in (from_kept HF.out hst.below) a)
          rw [show lenO H a = (o.2.length : Int) from by unfold lenO; rw [ho]] at Ln
          have hst2 := hst.begin hj
          rw [hob] at hst2
          have HST2 := hide hst2
          have HO := hide ho
          have HOB := hide hob
          have HJI := hide hj
          have HMEAS := hide hLH
          clear hst hst2 hj ho hob hok hg haF hLF hA2 hlk hLH
          go_wp2_with (go_at_call 25; (with_reducible refine Ln.out.mono ?_); rintro e w' ⟨rfl, rfl⟩)
          clear q0 q1 q2 q3 hcell2 hb2
          go_loopw [57] (fun u57 wq => ∃ (k : Nat) (L3 : List Int), u57 = .int .i64 (k : Int) ∧ k ≤ o.2.length ∧ L3[i]? = some a ∧ CopySt w wq p N H R roots c t L3 i k (i + 1) (kids R o.1 k (o.2.drop k)) u9 r) (fun u57 _ => o.2.length - (intOf u57).toNat)
          case atStart => exact ⟨0, L2, rfl, by omega, HJI.out, HST2.out⟩
          case round =>
            clear HST2
            obtain ⟨k, L3, rfl, hk, hj3, hst3⟩ := hrel
            by_cases hkl : k < o.2.length
            · have hkl' : (k : Int) < (o.2.length : Int) := by omega
              obtain ⟨x, hx⟩ : ∃ x, o.2[k]? = some x := ⟨_, List.getElem?_eq_getElem hkl⟩
              have hkd := kids_drop R o.1 o.2 hx
              have hxI : inI32 x := HII.out x (word_mem HO.out hx)
              unfold inI32 at hxI
              obtain ⟨hx1, hx2⟩ := hxI
              have G := hide (get_in (from_kept HF.out hst3.below) a (k : Int))
              rw [get_word HO.out hx] at G
              have K := hide (kind_in (from_kept HF.out hst3.below) a)
              rw [show kindO H a = o.1 from by unfold kindO; rw [HO.out]] at K
              have RF := hide (refs_any o.1 k wr hk1 hk2 (by omega))
              have HX := hide hx
              have HJ3 := hide hj3
              have hiL3 := (List.getElem?_eq_some_iff.1 hj3).1
              have hbd := newO_bd H R roots (x - 1)
              rw [hkd] at hst3
              clear hx hj3 hkd
              go_upto_region 18 with (go_at_call 27; (with_reducible refine G.out.mono ?_); rintro e w' ⟨rfl, rfl⟩)
              go_cut [73] (fun u73 wx => u73 = .bool (R o.1 k) ∧ wr = wx)
              case first =>
                rcases HRO.out with ⟨rfl, hR⟩ | ⟨rfl, hR⟩
                · have hR' := hR o.1 k
                  have HR := hide hR'
                  clear hR hR'
                  have q45 : ∀ w : World, (binOp .neq 45 .nilFunc .nilFunc).run Try.prog w = .ok (.bool false) w := fun _ => by kernel_rfl
                  go_wp2_with fail
                  go_meet
                  exact ⟨by rw [HR.out], rfl⟩
                · have hR' : R o.1 k = refB o.1 k := by rw [hR]
                  have HR := hide hR'
                  clear hR hR'
                  have q45 : ∀ w : World, (binOp .neq 45 (.func (.func 32) #[] #[]) .nilFunc).run Try.prog w = .ok (.bool true) w := fun _ => by kernel_rfl
                  go_wp2_with (first | (go_at_call 24; (with_reducible refine K.out.mono ?_); rintro e w' ⟨rfl, rfl⟩) | (go_at_call 32; (with_reducible refine RF.out.mono ?_); rintro e w' ⟨rfl, rfl⟩))
                  go_meet
                  exact ⟨by rw [HR.out], rfl⟩
              case rest =>
                obtain ⟨rfl, rfl⟩ := hcut
                go_upto_if 73 with fail
                go_cut [15] (fun u15 wx => ∃ L4, u15 = .int .i32 (trW H R (liveF H R roots) o.1 k x) ∧ L4[i]? = some a ∧ CopySt w wx p N H R roots c t L4 i k (i + 1) (kids R o.1 (k + 1) (o.2.drop (k + 1))) u9 r)
                case first =>
                  cases hRk : R o.1 k
                  · have HT1 := hide (show trW H R (liveF H R roots) o.1 k x = x from by unfold trW; rw [if_neg (by rw [hRk]; decide)])
                    rw [if_neg (by rw [hRk]; decide)] at hst3
                    have HST3 := hide hst3
                    clear hst3 hRk
                    go_wp2_with fail
                    go_meet
                    exact ⟨L3, by rw [HT1.out], HJ3.out, HST3.out⟩
                  · have HT1 := hide (show trW H R (liveF H R roots) o.1 k x = newO H (liveF H R roots) (x - 1) + 1 from by unfold trW; rw [if_pos hRk])
                    rw [if_pos hRk] at hst3
                    have P := hide (hst3.place HF.out (.inl hiL3))
                    clear hst3 hRk
                    go_wp2_with (go_at_call 41; (with_reducible refine P.out.mono ?_); rintro e w2 ⟨rfl, h2⟩; have H2 := hide h2; clear h2)
                    go_meet
                    exact ⟨_, by rw [HT1.out], by rw [pre_get (add_pre H L3 (x - 1)) hiL3]; exact HJ3.out, H2.out⟩
                case rest =>
                  clear hst3
                  obtain ⟨L4, rfl, hj4, hst4⟩ := hcut
                  have hst5 := hst4.none_ ((Keeps.refl (fun _ => False) wc).drew)
                  obtain ⟨mb4, A4, cc4, p0, p1, p2, p3, _, hlk4⟩ := hst5.reads
                  have hl4 := hlk4 a (List.mem_of_getElem? hj4)
                  have P := hst5.put hj4 (x := x) (by rw [HOB.out]; exact HX.out)
                  rw [HOB.out] at P
                  have hoff := offO_le H (liveF H R roots) a
                  have hoff2 := (good_le H _ (live_good H R roots)).2
                  have hoff3 : (offO H (liveF H R roots) a : Int) ≤ 1048576 := by omega
                  have HP := hide P
                  have HJ4 := hide hj4
                  clear hst4 hst5 hlk4 P hj4 hoff hoff2 p3 p0
                  generalize trW H R (liveF H R roots) o.1 k x = y at *
                  generalize offO H (liveF H R roots) a = ro at *
                  go_upto_region 20 with fail
                  go_region_held3 (fun w' => w'.cell? ⟨c, 1, none⟩ = some (.pointer (some ⟨t, 0, none⟩)) ∧ w'.cell? ⟨c, 2, none⟩ = some (.map (some mb4))) (go_keep)
                    (first | (go_at_call 18; (with_reducible refine HP.out.mono ?_); rintro e w2 ⟨rfl, h2, hcc⟩; have H2 := hide h2; have r1 : w2.cell? ⟨c, 1, none⟩ = some (.pointer (some ⟨t, 0, none⟩)) := (hcc 1).trans p1; have r2 : w2.cell? ⟨c, 2, none⟩ = some (.map (some mb4)) := (hcc 2).trans p2; clear h2 hcc))
                  go_wp2_with fail
                  go_roundw
                  case rel => exact ⟨k + 1, L4, by go_num, by omega, HJ4.out, H2.out⟩
                  case measure => simp [intOf]; omega
            · obtain rfl : k = o.2.length := by omega
              have hend := kids_end R o.1 o.2 (Nat.le_refl _)
              rw [hend] at hst3
              have hst4 := hst3.next hj3 (by rw [HOB.out])
              have hi4 : i + 1 ≤ L3.length := (List.getElem?_eq_some_iff.1 hj3).1
              have hm := (good_le H _ ((live_good H R roots).pre hst4.pre)).1
              have HST4 := hide hst4
              clear hst3 hst4 hj3 hend
              go_wp2_with fail
              go_roundw
              case rel => exact ⟨i + 1, L3, by go_num, hi4, HST4.out⟩
              case measure => simp [intOf]; omega
        · have hLi : L2.length ≤ i := by omega
          have hFL := hst.pend.done hLi
          have HST := hide hst
          have HFL := hide hFL
          have hiL' : (i : Int) = (L2.length : Int) := by omega
          have hbig : (L2.length : Int) ≤ 1048576 := by omega
          obtain rfl : i = L2.length := by omega
          clear hst hlk hFL hLF hg hA2
          go_wp2_with fail
          go_ret2
          obtain ⟨⟨Fo, h1, h2⟩, h3, h4⟩ := HST.out
          obtain ⟨G, mb', ov', b1, b2, b3, b4, g1, gg⟩ := h1.body
          rw [← HFL.out, all_copy (Nat.le_refl _)] at b1
          rw [List.take_of_length_le (by rw [HLEN.out]; exact Nat.le_refl _)] at h4
          exact ⟨u9, by rw [HT.out]; rfl, h4, ⟨G, by rw [← HT.out] at b1; exact b1, fun g hg hG => h2 g hg (g1 g hG)⟩, ⟨h1.below.os, h1.below.tape, h1.below.output, h1.below.size, fun k hk _ => h1.below.block k hk⟩⟩
end Go.Proofs.Ytjjoelhemhnojaa
