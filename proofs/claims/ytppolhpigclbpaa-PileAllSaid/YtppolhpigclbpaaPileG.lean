/- A pile of the call's own: what New, Put, Take, Len, Had do. -/
import Derived.Test.YtppolhpigclbpaaPileF
set_option linter.unusedVariables false
namespace Go.Proofs.Ytppolhpigclbpaa
open Go.RowKit Go.Instr

theorem Keeps.then_ {F G : Nat → Prop} {a b w : World} (h : Keeps F a b) (h' : Keeps G b w) (hG : ∀ k, k < a.heap.size → G k → F k) : Keeps F a w :=
  ⟨h'.os.trans h.os, h'.tape.trans h.tape, h'.output.trans h.output, Nat.le_trans h.size h'.size, fun k hk hF => (h'.block k (Nat.lt_of_lt_of_le hk h.size) fun hg => hF (hG k hk hg)).trans (h.block k hk hF)⟩
/-- A pile of the call's own that began at w0. -/
structure PileIn (w0 w : World) (F : Nat → Prop) (p : Nat) (ts : List T) (had : List Int) : Prop where
  below : Below w0.heap.size w0 w
  low : ∀ k, F k → w0.heap.size ≤ k ∧ k < w.heap.size
  here : F p
  heap : HeapTo ts ts.length
  body : ∃ b lv, PileAt w w0.heap.size p b lv ts ∧ IMap w b (had.map fun x => (x, Value.bool true)) ∧ F b ∧ ∀ g, lv.ownBlock = some g → F g
theorem found_had (had : List Int) (x : Int) : found (had.map fun x => (x, Value.bool true)) x = if x ∈ had then some (.bool true) else none := by
  induction had with
  | nil => simp [found]
  | cons y l ih =>
    by_cases hx : y = x
    · subst hx
      simp [found]
    · have h1 : (y == x) = false := by simpa using hx
      have e : found ((y :: l).map fun x => (x, Value.bool true)) x = found (l.map fun x => (x, Value.bool true)) x := by simp [found, h1]
      rw [e, ih]
      by_cases hm : x ∈ l
      · rw [if_pos hm, if_pos (List.mem_cons_of_mem _ hm)]
      · rw [if_neg hm, if_neg fun h => by rcases List.mem_cons.1 h with h | h; exact hx h.symm; exact hm h]
section
variable {w0 w w' : World} {F : Nat → Prop} {p : Nat} {ts : List T} {had : List Int}
theorem map_apart {w : World} {B p b : Nat} {lv : Value} {ts : List T} {l : List (Int × Value)} (h : PileAt w B p b lv ts) (hm : IMap w b l) : b ≠ p ∧ lv.ownBlock ≠ some b := by
  obtain ⟨es, clock, hb, _⟩ := hm
  refine ⟨fun e => ?_, fun e => ?_⟩
  · subst e
    rw [h.head] at hb; cases hb
  · obtain ⟨_, _, cur, hc⟩ := own_type3 h.row e
    rw [hc] at hb; cases hb
theorem PileIn.keep (h : PileIn w0 w F p ts had) {G : Nat → Prop} (hk : Keeps G w w') (hG : ∀ k, G k → w0.heap.size ≤ k) (hd : ∀ k, F k → ¬ G k) : PileIn w0 w' F p ts had := by
  obtain ⟨b, lv, h1, h2, h3, h4⟩ := h.body
  exact ⟨h.below.trans (hk.below h.below.size hG), fun k hf => ⟨(h.low k hf).1, Nat.lt_of_lt_of_le (h.low k hf).2 hk.size⟩, h.here, h.heap, b, lv, h1.keep hk (hd p h.here) fun g hg => hd g (h4 g hg), h2.kept hk (hd b h3), h3, h4⟩
theorem PileIn.none_ (h : PileIn w0 w F p ts had) (hk : Keeps (fun _ => False) w w') : PileIn w0 w' F p ts had := h.keep hk (fun _ => False.elim) fun _ _ => id
theorem pile_new (hb : Below w0.heap.size w0 w) : Calls Try.prog 39 #[] w fun e w' => e = .returned (.pointer (some ⟨w.heap.size + 1, 0, none⟩)) ∧ PileIn w0 w' (fun k => w.heap.size ≤ k ∧ k < w'.heap.size) (w.heap.size + 1) [] [] ∧ Keeps (fun _ => False) w w' := by
  have hmm := @run_makeMap Try.prog
  have hk := ((Keeps.refl (fun _ => False) w).alloc (.map #[] 0)).alloc (.cells #[.slice none 0 0, .map (some w.heap.size)] 79)
  have hsz : ((w.alloc (.map #[] 0)).alloc (.cells #[.slice none 0 0, .map (some w.heap.size)] 79)).heap.size = w.heap.size + 2 := by simp
  have hh := heap_alloc_new (w.alloc (.map #[] 0)) (Go.Obj.cells #[.slice none 0 0, .map (some w.heap.size)] 79)
  rw [show (w.alloc (.map #[] 0)).heap.size = w.heap.size + 1 from by simp] at hh
  have hm := (IMap.made w).kept ((Keeps.refl (fun _ => False) _).alloc (.cells #[.slice none 0 0, .map (some w.heap.size)] 79)) id
  have HE := hide (show PileIn w0 ((w.alloc (.map #[] 0)).alloc (.cells #[.slice none 0 0, .map (some w.heap.size)] 79)) (fun k => w.heap.size ≤ k ∧ k < ((w.alloc (.map #[] 0)).alloc (.cells #[.slice none 0 0, .map (some w.heap.size)] 79)).heap.size) (w.heap.size + 1) [] [] from
    ⟨hb.trans (hk.below hb.size fun _ => False.elim), fun k hk => ⟨Nat.le_trans hb.size hk.1, hk.2⟩, ⟨by omega, by omega⟩, HeapTo.nil, w.heap.size, .slice none 0 0, ⟨hh, World.ownsRow_nil _ _ _ _⟩, hm, ⟨Nat.le_refl _, by omega⟩, fun g hg => by cases hg⟩)
  have HK := hide hk
  clear hk hsz hh hm
  go_enter Try.func39, Try.ntmps39
  go_wp2_with fail
  go_ret
  exact ⟨rfl, HE.out, HK.out⟩
theorem pile_len (h : PileIn w0 w F p ts had) : Calls Try.prog 44 #[.pointer (some ⟨p, 0, none⟩)] w fun e w' => e = .returned (.int .i64 (ts.length : Int)) ∧ w = w' := by
  obtain ⟨b, lv, h1, h2, _⟩ := h.body
  obtain ⟨A, c, rfl, _⟩ := Sees.of_ownN h1.row
  have hc := h1.cell
  clear h h1 h2
  generalize ts.length = n at *
  go_enter Try.func44, Try.ntmps44
  go_wp2_with fail
  go_ret
  exact ⟨rfl, rfl⟩
theorem pile_had (h : PileIn w0 w F p ts had) (x : Int) : Calls Try.prog 45 #[.pointer (some ⟨p, 0, none⟩), .int .i64 x] w fun e w' => e = .returned (.bool (decide (x ∈ had))) ∧ w = w' := by
  obtain ⟨b, lv, h1, h2, _⟩ := h.body
  have hl := h2.look (P := Try.prog) (t := 75) (k := 3) (e := 4) (z := .bool false) Try.underlying75 Try.underlying3 (by kernel_rfl) x
  rw [found_had] at hl
  have hl2 : (Instr.lookup 75 (.map (some b)) (.int .i64 x) false).run Try.prog w = .ok (.bool (decide (x ∈ had))) w := by
    rw [hl]
    by_cases hx : x ∈ had <;> simp [hx]
  have hc : w.cell? ⟨p, 1, none⟩ = some (.map (some b)) := by rw [cell_of_row w p 1 _ 79 (0, 0) h1.head]; rfl
  clear h h1 h2 hl
  generalize decide (x ∈ had) = d at *
  go_enter Try.func45, Try.ntmps45
  go_wp2_with fail
  go_ret
  exact ⟨rfl, rfl⟩
set_option maxHeartbeats 1000000 in
theorem heap_push (w : World) (B p b : Nat) (lv : Value) (ts : List T) (t : T) (h : PileAt w B p b lv ts) (hB : B ≤ w.heap.size) (hn : ts.length ≤ 900) (hh : HeapTo ts ts.length) :
    Calls Try.prog 50 #[.iface 81 (.pointer (some ⟨p, 0, none⟩)), .iface 83 (.agg #[.int .i64 t.1, .int .i64 t.2])] w fun e w' => e = .returned (.tuple #[]) ∧ ∃ lv' ts', PileAt w' B p b lv' ts' ∧ ts'.Perm (ts ++ [t]) ∧ HeapTo ts' ts'.length ∧ (∀ k, lv'.ownBlock = some k → lv.ownBlock = some k ∨ w.heap.size ≤ k) ∧ Keeps (fun k => k = p ∨ lv.ownBlock = some k) w w' := by
  have P := hide (row_push w B p b lv ts t h hB (by omega))
  have mp := m_push p w
  have HH := hide hh
  have hn3 : (ts.length : Int) ≤ 900 := by omega
  clear h hh
  go_enter Try.func50, Try.ntmps50
  go_upto_region 1 with (go_at_call 74; (with_reducible refine P.out.mono ?_); rintro e w1 ⟨rfl, lv1, h1, ho1, k1⟩; have H1 := hide h1; have HO1 := hide ho1; have HK1 := hide k1; clear h1 ho1 k1)
  have hlen : (ts ++ [t]).length = ts.length + 1 := by simp
  have hrow := H1.out.row
  rw [hlen] at hrow
  obtain ⟨g, c, rfl, _⟩ := hrow.form (by omega)
  have ml := m_len H1.out.cell
  have L := hide (row_len w1 (some ⟨g, 0, none⟩) (ts.length + 1) c)
  have U := hide (heap_up w1 B p b g c (ts.length + 1) ts.length (ts ++ [t]) H1.out hlen (by omega) (by omega) (UpTo.start HH.out))
  clear hrow hlen
  generalize ts.length = n at *
  go_wp2_with (first | (go_at_call 70; (with_reducible refine L.out.mono ?_); rintro e w' ⟨rfl, rfl⟩) | (go_at_call 52; (with_reducible refine U.out.mono ?_); rintro e w2 ⟨rfl, ts2, h2, hl2, hp2, hh2, k2⟩))
  go_end0
  exact ⟨rfl, _, ts2, h2, hp2, by rw [hl2]; exact hh2, HO1.out, HK1.out.then_ k2 fun k hk e => by
    subst e
    rcases HO1.out _ rfl with h | h
    · exact .inr h
    · have h' : w.heap.size ≤ k := h
      omega⟩
theorem pile_putNo (h : PileIn w0 w F p ts had) {x : Int} (hx : x ∈ had) (r : Int) : Calls Try.prog 41 #[.pointer (some ⟨p, 0, none⟩), .int .i64 r, .int .i64 x] w fun e w' => e = .returned (.bool false) ∧ w = w' := by
  obtain ⟨b, lv, h1, h2, _⟩ := h.body
  have hl := h2.look (P := Try.prog) (t := 75) (k := 3) (e := 4) (z := .bool false) Try.underlying75 Try.underlying3 (by kernel_rfl) x
  rw [found_had, if_pos hx] at hl
  have hl2 : (Instr.lookup 75 (.map (some b)) (.int .i64 x) false).run Try.prog w = .ok (.bool true) w := hl
  have hc : w.cell? ⟨p, 1, none⟩ = some (.map (some b)) := by rw [cell_of_row w p 1 _ 79 (0, 0) h1.head]; rfl
  clear h h1 h2 hl hx
  go_enter Try.func41, Try.ntmps41
  go_wp2_with fail
  go_ret
  exact ⟨rfl, rfl⟩
set_option maxHeartbeats 1000000 in
theorem pile_put (h : PileIn w0 w F p ts had) {x : Int} (hx : x ∉ had) (r : Int) (hn : ts.length ≤ 900) : Calls Try.prog 41 #[.pointer (some ⟨p, 0, none⟩), .int .i64 r, .int .i64 x] w fun e w' => e = .returned (.bool true) ∧ Keeps F w w' ∧ ∃ ts', PileIn w0 w' (grownF F w w') p ts' (had ++ [x]) ∧ ts'.Perm (ts ++ [(r, x)]) := by
  obtain ⟨b, lv, h1, h2, h3, h4⟩ := h.body
  have hl := h2.look (P := Try.prog) (t := 75) (k := 3) (e := 4) (z := .bool false) Try.underlying75 Try.underlying3 (by kernel_rfl) x
  have hnf : found (had.map fun x => (x, Value.bool true)) x = none := by rw [found_had, if_neg hx]
  rw [hnf] at hl
  have hl2 : (Instr.lookup 75 (.map (some b)) (.int .i64 x) false).run Try.prog w = .ok (.bool false) w := hl
  obtain ⟨hb1, hb2⟩ := map_apart h1 h2
  obtain ⟨w1, hput, hm1, hk1, hs1⟩ := h2.put (P := Try.prog) (t := 75) (k := 3) (e := 4) Try.underlying75 Try.underlying3 hnf (.bool true)
  have hc : w.cell? ⟨p, 1, none⟩ = some (.map (some b)) := by rw [cell_of_row w p 1 _ 79 (0, 0) h1.head]; rfl
  have h1' := h1.keep hk1 (fun e => hb1 e.symm) (fun g hg e => hb2 (e ▸ hg))
  have hB : w0.heap.size ≤ w1.heap.size := by rw [hs1]; exact h.below.size
  have PU := hide (heap_push w1 w0.heap.size p b lv ts (r, x) h1' hB hn h.heap)
  have HH := hide h
  have HM1 := hide hm1
  have HK1 := hide hk1
  have HS1 := hide hs1
  have H1 := hide h1'
  have H3 := hide h3
  have H4 := hide h4
  have HB1 := hide hb1
  have HB2 := hide hb2
  clear h h1 h2 h3 h4 hl hnf hm1 hk1 hs1 h1' hb1 hb2 hx
  go_enter Try.func41, Try.ntmps41
  go_wp2_with (go_at_call 50; (with_reducible refine PU.out.mono ?_); rintro e w2 ⟨rfl, lv2, ts2, h2, hp2, hh2, ho2, k2⟩; have H2 := hide h2; have HP2 := hide hp2; have HH2 := hide hh2; have HO2 := hide ho2; have HK2 := hide k2; clear h2 hp2 hh2 ho2 k2)
  go_ret
  have hkF : Keeps F w w2 := (HK1.out.more (G := F) fun k _ e => by have e' : k = b := e; rw [e']; exact H3.out).then_ HK2.out fun k _ e => by
    rcases e with e | e
    · have e' : k = p := e
      rw [e']; exact HH.out.here
    · exact H4.out k e
  refine ⟨rfl, hkF, ts2, ⟨HH.out.below.trans (hkF.below HH.out.below.size fun k hf => (HH.out.low k hf).1), fun k hf => ?_, .inl HH.out.here, HH2.out, b, lv2, H2.out, ?_, .inl H3.out, fun g hg => ?_⟩, HP2.out⟩
  · rcases hf with hf | hf
    · exact ⟨(HH.out.low k hf).1, Nat.lt_of_lt_of_le (HH.out.low k hf).2 hkF.size⟩
    · exact ⟨Nat.le_trans HH.out.below.size hf.1, hf.2⟩
  · have := HM1.out.kept HK2.out (fun e => by
      rcases e with e | e
      · exact HB1.out e
      · exact HB2.out e)
    rw [List.map_append]
    exact this
  · rcases HO2.out g hg with hg' | hg'
    · exact .inl (H4.out g hg')
    · refine .inr ⟨by rw [← HS1.out]; exact hg', ?_⟩
      exact (own_type3 H2.out.row hg).2.1
end
end Go.Proofs.Ytppolhpigclbpaa
