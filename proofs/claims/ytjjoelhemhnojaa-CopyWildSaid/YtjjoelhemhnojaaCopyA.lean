/- The walk of a copier's place: an object is copied if it was not. -/
import Derived.Test.YtjjoelhemhnojaaCopyMap
import Derived.Test.YtjjoelhemhnojaaCopyLaw4
import Derived.Deep.RegionHeld3
set_option linter.unusedVariables false
namespace Go.Proofs.Ytjjoelhemhnojaa
open Go.RowKit Go.Instr
open Hp Cp

/-- A copier of the call's own, which copies the heap H at block p (as it was in w0). -/
structure CpIn (w0 w : World) (Fo : Nat → Prop) (p N : Nat) (H : List Hp.Ob) (R : Int → Nat → Bool) (FL : List Int) (c t : Nat) (L : List Int) (i m : Nat) : Prop where
  below : Below w0.heap.size w0 w
  low : ∀ k, Fo k → w0.heap.size ≤ k ∧ k < w.heap.size
  pre : L <+: FL
  body : ∃ (G : Nat → Prop) (mb : Nat) (ov : Value), HeapIn w w0.heap.size G t N (toO H R FL L i m) ∧
    w.heap[c]? = some (.cells #[.pointer (some ⟨p, 0, none⟩), .pointer (some ⟨t, 0, none⟩), .map (some mb), ov] 72 (0, 0)) ∧
    IMap w mb (L.map fun a => (a, Value.int .i64 (offO H FL a : Int))) ∧ w.ownsRow w0.heap.size 3 1 ov L.length (L.map (Value.int .i64)) ∧
    (∀ k, G k → Fo k) ∧ Fo c ∧ Fo mb ∧ (∀ g, ov.ownBlock = some g → Fo g) ∧ ¬ G c ∧ ¬ G mb ∧ (∀ g, ov.ownBlock = some g → ¬ G g)
theorem found_places (g : Int → Value) (L : List Int) (x : Int) : found (L.map fun a => (a, g a)) x = if x ∈ L then some (g x) else none := by
  induction L with
  | nil => simp [found]
  | cons y l ih =>
    by_cases hx : y = x
    · subst hx
      simp [found]
    · have h1 : (y == x) = false := by simpa using hx
      have e : found ((y :: l).map fun a => (a, g a)) x = found (l.map fun a => (a, g a)) x := by simp [found, h1]
      rw [e, ih]
      by_cases hm : x ∈ l
      · rw [if_pos hm, if_pos (List.mem_cons_of_mem _ hm)]
      · rw [if_neg hm, if_neg fun h => by rcases List.mem_cons.1 h with h | h; exact hx h.symm; exact hm h]
section
variable {w0 w w' : World} {Fo : Nat → Prop} {p N c t i m : Nat} {H : List Hp.Ob} {R : Int → Nat → Bool} {FL L : List Int}
theorem CpIn.none_ (h : CpIn w0 w Fo p N H R FL c t L i m) (hk : Keeps (fun _ => False) w w') : CpIn w0 w' Fo p N H R FL c t L i m := by
  obtain ⟨G, mb, ov, h1, h2, h3, h4, h5⟩ := h.body
  exact ⟨h.below.trans (hk.below h.below.size fun _ => False.elim), fun k hf => ⟨(h.low k hf).1, Nat.lt_of_lt_of_le (h.low k hf).2 hk.size⟩, h.pre, G, mb, ov, h1.keeps hk fun _ _ => id, (hk.block c (lt_of_heap h2) id).trans h2, h3.kept hk id, ownsRow_kept h4 fun g hg => hk.block g (own_lt h4 hg) id, h5⟩
theorem from_kept {B : Nat} {Ff : Nat → Prop} (hf : HeapIn w0 B Ff p N H) (hb : Below w0.heap.size w0 w) : HeapIn w B Ff p N H :=
  hf.keep hb.size fun k hk => hb.block k (hf.low k hk).2
/-- It names none. -/
theorem place_none {B : Nat} {Ff : Nat → Prop} (hf : HeapIn w0 B Ff p N H) (h : CpIn w0 w Fo p N H R FL c t L i m) {a : Int} (ha : lookO H a = none) :
    Calls Try.prog 41 #[.pointer (some ⟨c, 0, none⟩), .int .i64 a] w fun e w' => e = .returned (.int .i64 (-1)) ∧ w = w' := by
  obtain ⟨G, mb, ov, h1, h2, h3, h4, h5⟩ := h.body
  have hh := has_in (from_kept hf h.below) a
  rw [ha] at hh
  have C := hide hh
  have c0 : w.cell? ⟨c, 0, none⟩ = some (.pointer (some ⟨p, 0, none⟩)) := by rw [cell_of_row w c 0 _ 72 (0, 0) h2]; rfl
  clear h1 h2 h3 h4 h5 h hf hh ha
  go_enter Try.func41, Try.ntmps41
  go_wp2_with (go_at_call 23; (with_reducible refine C.out.mono ?_); rintro e w' ⟨rfl, rfl⟩)
  go_ret
  exact ⟨rfl, rfl⟩
/-- It was copied. -/
theorem place_has {B : Nat} {Ff : Nat → Prop} (hf : HeapIn w0 B Ff p N H) (h : CpIn w0 w Fo p N H R FL c t L i m) {a : Int} (hm : a ∈ L) (ha : (lookO H a).isSome = true) :
    Calls Try.prog 41 #[.pointer (some ⟨c, 0, none⟩), .int .i64 a] w fun e w' => e = .returned (.int .i64 (offO H FL a : Int)) ∧ w = w' := by
  obtain ⟨G, mb, ov, h1, h2, h3, h4, h5⟩ := h.body
  have hh := has_in (from_kept hf h.below) a
  rw [ha] at hh
  have C := hide hh
  have c0 : w.cell? ⟨c, 0, none⟩ = some (.pointer (some ⟨p, 0, none⟩)) := by rw [cell_of_row w c 0 _ 72 (0, 0) h2]; rfl
  have c2 : w.cell? ⟨c, 2, none⟩ = some (.map (some mb)) := by rw [cell_of_row w c 2 _ 72 (0, 0) h2]; rfl
  have hl := h3.look2 (P := Try.prog) (t := 70) (k := 3) (e := 3) (z := .int .i64 0) Try.underlying70 Try.underlying3 (by kernel_rfl) a
  rw [found_places (fun a => Value.int .i64 (offO H FL a : Int)), if_pos hm] at hl
  have hl2 : (Instr.lookup 70 (.map (some mb)) (.int .i64 a) true).run Try.prog w = .ok (.tuple #[.int .i64 (offO H FL a : Int), .bool true]) w := hl
  clear h1 h2 h3 h4 h5 h hf hh ha hl hm
  generalize offO H FL a = r at *
  go_enter Try.func41, Try.ntmps41
  go_wp2_with (go_at_call 23; (with_reducible refine C.out.mono ?_); rintro e w' ⟨rfl, rfl⟩)
  go_ret
  exact ⟨rfl, rfl⟩
theorem Keeps.then_ {F G : Nat → Prop} {a b w : World} (h : Keeps F a b) (h' : Keeps G b w) (hG : ∀ k, k < a.heap.size → G k → F k) : Keeps F a w :=
  ⟨h'.os.trans h.os, h'.tape.trans h.tape, h'.output.trans h.output, Nat.le_trans h.size h'.size, fun k hk hF => (h'.block k (Nat.lt_of_lt_of_le hk h.size) fun hg => hF (hG k hk hg)).trans (h.block k hk hF)⟩
theorem Try.info3c : (Try.prog.info? 3).map (fun i => (i.zero, i.size, i.bytes)) = some (some (.int .i64 0), 1, 8) := by kernel_rfl
/-- It is copied now. -/
theorem place_make {B : Nat} {Ff : Nat → Prop} (hf : HeapIn w0 B Ff p N H) (h : CpIn w0 w Fo p N H R FL c t L i m) (hF : Cp.Good H FL) {a : Int} {o : Hp.Ob} (ha : lookO H a = some o) (hm : a ∉ L) (hpre : L ++ [a] <+: FL) (hi : i < L.length ∨ (i = L.length ∧ m = 0) ∨ (i = 0 ∧ m = 0)) (hn : L.length ≤ 2000000) :
    Calls Try.prog 41 #[.pointer (some ⟨c, 0, none⟩), .int .i64 a] w fun e w' => e = .returned (.int .i64 (offO H FL a : Int)) ∧ CpIn w0 w' (grownF Fo w w') p N H R FL c t (L ++ [a]) i m ∧ Keeps Fo w w' := by
  obtain ⟨G, mb, ov, h1, h2, h3, h4, g1, g2, g3, g4, n1, n2, n3⟩ := h.body
  have hok := hf.fine o (look_some _ ha).choose_spec.2.2.2.2.2.2
  obtain ⟨e1, e2, e3⟩ := place_new (R := R) hF hpre hi
  rw [obj_eq ha] at e2 e3
  have C := hide (fun n : Nat => has_in (from_kept hf (bel_drewN h.below n)) a)
  have C0 := hide (has_in (from_kept hf h.below) a)
  have K := hide (kind_in (from_kept hf (bel_drew h.below)) a)
  have Ln := hide (len_in (from_kept hf (bel_drew h.below)) a)
  rw [show kindO H a = o.1 from by unfold kindO; rw [ha]] at K
  rw [show lenO H a = (o.2.length : Int) from by unfold lenO; rw [ha]] at Ln
  rw [ha] at C0
  have hle := hf.le
  have hmost := hf.most
  have M := hide ((h1.drew).make o.1 o.2.length (by simp [mayO]; have := hok.1; have := hok.2.1; have := hok.2.2; omega) (by rw [← e1]; omega))
  rw [← e1, ← e3] at M
  have hk1 : 0 ≤ o.1 := hok.1
  have hk2 : o.1 ≤ 10000 := hok.2.1
  have hk3 : o.2.length ≤ 1000 := hok.2.2
  have hoff : (offO H FL a : Int) ≤ 1048576 := by omega
  have c0 : w.cell? ⟨c, 0, none⟩ = some (.pointer (some ⟨p, 0, none⟩)) := by rw [cell_of_row w c 0 _ 72 (0, 0) h2]; rfl
  have c1 : w.cell? ⟨c, 1, none⟩ = some (.pointer (some ⟨t, 0, none⟩)) := by rw [cell_of_row w c 1 _ 72 (0, 0) h2]; rfl
  have c2 : w.cell? ⟨c, 2, none⟩ = some (.map (some mb)) := by rw [cell_of_row w c 2 _ 72 (0, 0) h2]; rfl
  have hnf : found (L.map fun a => (a, Value.int .i64 (offO H FL a : Int))) a = none := by rw [found_places (fun a => Value.int .i64 (offO H FL a : Int)), if_neg hm]
  have hl := h3.look2 (P := Try.prog) (t := 70) (k := 3) (e := 3) (z := .int .i64 0) Try.underlying70 Try.underlying3 (by kernel_rfl) a
  rw [hnf] at hl
  have hl2 : (Instr.lookup 70 (.map (some mb)) (.int .i64 a) true).run Try.prog w = .ok (.tuple #[.int .i64 0, .bool false]) w := hl
  have hcm : c ≠ mb := by
    rintro rfl
    obtain ⟨es, clock, hb, _⟩ := h3
    rw [h2] at hb; cases hb
  have hov : ∀ g, ov.ownBlock = some g → g ≠ c ∧ g ≠ mb := by
    intro g hg
    obtain ⟨cur, hc⟩ := own_type h4 hg
    refine ⟨?_, ?_⟩
    · rintro rfl; rw [h2] at hc; cases hc
    · rintro rfl
      obtain ⟨es, clock, hb, _⟩ := h3
      rw [hc] at hb; cases hb
  have HH := hide h
  have H2 := hide h2
  have H3 := hide h3
  have H4 := hide h4
  have HB := hide (And.intro g1 (And.intro g2 (And.intro g3 (And.intro g4 (And.intro n1 (And.intro n2 (And.intro n3 (And.intro hcm hov))))))))
  have HNF := hide hnf
  have HPRE := hide hpre
  have HLOW := hide h.low
  have HBL := hide h.below
  obtain ⟨A, cc, rfl, hA⟩ := Sees.of_own h4
  have HA := hide hA
  clear hA
  obtain ⟨i0, hi0, hz0, hz1, hz2⟩ := info_parts Try.info3c
  have HI := hide hi0
  have HZ0 := hide hz0
  have HZ1 := hide hz1
  have HZ2 := hide hz2
  clear hi0 hz0 hz1 hz2
  clear h h1 h2 h3 h4 g1 g2 g3 g4 n1 n2 n3 hf ha hm hok e1 e2 e3 hnf hl hpre hi hcm hov hle hmost
  generalize hr : offO H FL a = r at *
  have HR := hide hr
  clear hr
  generalize hln : L.length = n at *
  have HLN := hide hln
  clear hln
  generalize o.2.length = q at *
  generalize o.1 = kd at *
  go_enter Try.func41, Try.ntmps41
  go_upto_region 6 with (go_at_call 23; (with_reducible refine C0.out.mono ?_); rintro e w' ⟨rfl, rfl⟩)
  go_region_held3 (fun w' => w'.cell? ⟨c, 0, none⟩ = some (.pointer (some ⟨p, 0, none⟩)) ∧ w'.cell? ⟨c, 1, none⟩ = some (.pointer (some ⟨t, 0, none⟩))) (go_keep)
    (first
     | (go_at_call 24; (with_reducible refine K.out.mono ?_); rintro e w' ⟨rfl, rfl⟩)
     | (go_at_call 25; (with_reducible refine Ln.out.mono ?_); rintro e w' ⟨rfl, rfl⟩)
     | (go_at_call 17; (with_reducible refine M.out.mono ?_); rintro e w2 ⟨rfl, f2, k2⟩
        have hh2 := (k2.block c (by have := lt_of_heap H2.out; simpa using this) HB.out.2.2.2.2.1).trans H2.out
        have d0 : w2.cell? ⟨c, 0, none⟩ = some (.pointer (some ⟨p, 0, none⟩)) := by rw [cell_of_row w2 c 0 _ 72 (0, 0) hh2]; rfl
        have d1 : w2.cell? ⟨c, 1, none⟩ = some (.pointer (some ⟨t, 0, none⟩)) := by rw [cell_of_row w2 c 1 _ 72 (0, 0) hh2]; rfl
        have HH2 := hide hh2
        have HF2 := hide f2
        have HK2 := hide (((Keeps.refl G w).drew).trans k2)
        clear f2 k2 hh2))
  have m2 := H3.out.kept HK2.out HB.out.2.2.2.2.2.1
  obtain ⟨w3, hput, m3, k3, s3⟩ := m2.put (P := Try.prog) (t := 70) (k := 3) (e := 3) Try.underlying70 Try.underlying3 HNF.out (.int .i64 (r : Int))
  have hh3 := (k3.block c (lt_of_heap HH2.out) (fun e => HB.out.2.2.2.2.2.2.2.1 e)).trans HH2.out
  have d2 : w2.cell? ⟨c, 2, none⟩ = some (.map (some mb)) := by rw [cell_of_row w2 c 2 _ 72 (0, 0) HH2.out]; rfl
  have d3 : w3.cell? ⟨c, 3, none⟩ = some (.slice A n cc) := by rw [cell_of_row w3 c 3 _ 72 (0, 0) hh3]; rfl
  have hr3 : w3.ownsRow w0.heap.size 3 1 (.slice A n cc) n (L.map (Value.int .i64)) := ownsRow_kept (ownsRow_kept H4.out fun g hg => HK2.out.block g (own_lt H4.out hg) (HB.out.2.2.2.2.2.2.1 g hg)) fun g hg => k3.block g (Nat.lt_of_lt_of_le (own_lt H4.out hg) HK2.out.size) (fun e => (HB.out.2.2.2.2.2.2.2.2 g hg).2 e)
  have hka : Keeps (fun _ => False) w3 (w3.alloc (.cells #[.int .i64 a] 3)) := (Keeps.refl _ w3).alloc _
  have HRA := hide (ownsRow_kept hr3 fun g hg => hka.block g (own_lt hr3 hg) id)
  have HNS := hide (new_sees w3 #[.int .i64 a] 3)
  have hsz3 : w0.heap.size ≤ (w3.alloc (.cells #[.int .i64 a] 3)).heap.size := by
    have := HBL.out.size; have := HK2.out.size; have := hka.size; omega
  have HSZ3 := hide hsz3
  have HK3 := hide k3
  have HM3 := hide m3
  have HH3 := hide hh3
  have HR3 := hide hr3
  have HKA := hide hka
  clear m2 m3 k3 s3 hh3 hr3 hka hsz3 c0 c1 c2 d0 d1 hl2
  go_wp2_with (at_builtin
               refine wpList_append_sees _ rfl (.tmp 57) (.tmp 59) 41 rfl w0.heap.size 3 i0 _ 8 Try.underlying41 HI.out HZ0.out HZ1.out HZ2.out rfl _ n _ rfl HRA.out (w3.heap.size + 1) _ 1 1 _ rfl HNS.out (fun e => nomatch e) (by intro u hu; rcases List.mem_cons.1 hu with rfl | hu; exact rfl; exact (List.not_mem_nil hu).elim) (by unfold maxLen; omega) (by omega) HSZ3.out ?_
               intro v4 w4 hown4 hg4 hat4
               obtain ⟨gg, c4, rfl, _⟩ := hown4.form (by omega)
               have hh4 : w4.heap[c]? = _ := (hg4.block c (by have := lt_of_heap HH3.out; have := HKA.out.size; omega) (fun e => (HB.out.2.2.2.2.2.2.2.2 c e.symm).1 rfl)).trans ((HKA.out.block c (lt_of_heap HH3.out) id).trans HH3.out)
               have d4 : w4.cell? ⟨c, 3, none⟩ = some (.slice A n cc) := by rw [cell_of_row w4 c 3 _ 72 (0, 0) hh4]; rfl
               have z4 : w4.frozen? ⟨c, 3, none⟩ = false := frozen_of_row w4 c 3 _ 72 hh4
               have HO4 := hide hown4
               have HG4 := hide hg4
               have HA4 := hide hat4
               have HH4 := hide hh4
               clear hown4 hg4 hat4 hh4)
  go_ret
  obtain ⟨g1, g2, g3, g4, n1, n2, n3, hcm, hov⟩ := HB.out
  have k4 : Keeps (fun k => (Value.slice A n cc).ownBlock = some k) w3 w4 := (HKA.out.more fun _ _ h => h.elim).grown HG4.out (fun g hg _ => hg)
  have k5 : Keeps (fun k => (Value.slice A n cc).ownBlock = some k ∨ k = c) w3 (w4.setCell ⟨c, 3, none⟩ (.slice (some ⟨gg, 0, none⟩) (n + 1) c4)) := (k4.more fun _ _ h => .inl h).setCell (q := ⟨c, 3, none⟩) (fun _ => .inr rfl) _
  have k6 : Keeps (fun k => k = mb ∨ (Value.slice A n cc).ownBlock = some k ∨ k = c) w2 (w4.setCell ⟨c, 3, none⟩ (.slice (some ⟨gg, 0, none⟩) (n + 1) c4)) := (HK3.out.more fun _ _ h => .inl h).then_ k5 fun k _ h => .inr h
  have k7 : Keeps Fo w (w4.setCell ⟨c, 3, none⟩ (.slice (some ⟨gg, 0, none⟩) (n + 1) c4)) := (HK2.out.more fun k _ h => g1 k h).then_ k6 fun k _ h => by
    rcases h with rfl | h | rfl
    · exact g3
    · exact g4 k h
    · exact g2
  have hsz : (w4.setCell ⟨c, 3, none⟩ (.slice (some ⟨gg, 0, none⟩) (n + 1) c4)).heap.size = w4.heap.size := by simp [World.setCell]
  have hov4 := fun g hg => own_lt H4.out (g := g) hg
  have hc0 := lt_of_heap H2.out
  have hmb0 := H3.out.lt
  have hs2 := HK2.out.size
  have hs3 := HK3.out.size
  have hs4 := k4.size
  have hsA := HKA.out.size
  have hlow2 := HF2.out.low
  have hdrw : w.drew.heap.size = w.heap.size := rfl
  have hgg : (Value.slice A n cc).ownBlock = some gg ∨ (gg = (w3.alloc (.cells #[.int .i64 a] 3)).heap.size) := by
    rcases HA4.out with h | h
    · exact .inl (h.symm.trans rfl)
    · exact .inr (Option.some.inj h)
  obtain ⟨curg, hcg⟩ := own_type HO4.out (g := gg) rfl
  have hgc : gg ≠ c := by rintro rfl; rw [HH4.out] at hcg; cases hcg
  have hggl := lt_of_heap hcg
  refine ⟨rfl, ⟨HBL.out.trans (k7.below HBL.out.size fun k hf => (HLOW.out k hf).1), ?_, HPRE.out, grownF G w.drew w2, mb, _, HF2.out.keeps k6 ?_, heap_setCell_same w4 c 3 _ 72 _ HH4.out, ?_, ?_, ?_, .inl g2, .inl g3, ?_, ?_, ?_, ?_⟩, k7⟩
  · rintro k (hf | hf)
    · exact ⟨(HLOW.out k hf).1, Nat.lt_of_lt_of_le (HLOW.out k hf).2 k7.size⟩
    · exact ⟨Nat.le_trans HBL.out.size hf.1, hf.2⟩
  · rintro k (hg | hg) (rfl | h | rfl)
    · exact n2 hg
    · exact n3 k h hg
    · exact n1 hg
    · omega
    · have := hov4 k h; omega
    · omega
  · rw [List.map_append]
    have := HM3.out.kept k5 (fun h => h.elim (fun h => (hov mb h).2 rfl) fun h => hcm h.symm)
    rw [← HR.out] at this
    exact this
  · have := ownsRow_kept (w' := w4.setCell ⟨c, 3, none⟩ (.slice (some ⟨gg, 0, none⟩) (n + 1) c4)) HO4.out fun g hg => Below.heap_setCell _ _ _ _ fun e => by
      obtain rfl := Option.some.inj (show some gg = some g from hg)
      exact hgc e
    rw [List.length_append, HLN.out, List.map_append]
    exact this
  · rintro k (hg | hg)
    · exact .inl (g1 k hg)
    · exact .inr ⟨hg.1, by omega⟩
  · rintro g hg
    obtain rfl := Option.some.inj (show some gg = some g from hg)
    rcases hgg with h | h
    · exact .inl (g4 gg h)
    · exact .inr ⟨by omega, by omega⟩
  · rintro (h | h)
    · exact n1 h
    · omega
  · rintro (h | h)
    · exact n2 h
    · omega
  · rintro g hg h
    obtain rfl := Option.some.inj (show some gg = some g from hg)
    rcases hgg with h' | h'
    · rcases h with h | h
      · exact n3 gg h' h
      · have := hov4 gg h'; omega
    · have := (hlow2 gg h).2; omega
end
end Go.Proofs.Ytjjoelhemhnojaa
