/- The library's heap Pop and the pile's Take; no pile at all. -/
import Derived.Test.YtppolhpigclbpaaPileG
set_option linter.unusedVariables false
namespace Go.Proofs.Ytppolhpigclbpaa
open Go.RowKit Go.Instr

theorem last_split {ts : List T} {n : Nat} (h : ts.length = n + 1) : ts = ts.take n ++ [at_ ts n] := by
  have := take_snoc ts n (at_ ts n) (at_eq (by omega))
  rw [← this, List.take_of_length_le (by omega)]
set_option maxHeartbeats 1000000 in
theorem heap_pop (w : World) (B p b n : Nat) (lv : Value) (ts : List T) (h : PileAt w B p b lv ts) (hn : ts.length = n + 1) (hn3 : n ≤ 900) (hh : HeapTo ts ts.length) :
    Calls Try.prog 51 #[.iface 81 (.pointer (some ⟨p, 0, none⟩))] w fun e w' => e = .returned (.iface 83 (.agg #[.int .i64 (at_ ts 0).1, .int .i64 (at_ ts 0).2])) ∧ ∃ lv' ts', PileAt w' B p b lv' ts' ∧ ts.Perm (at_ ts 0 :: ts') ∧ HeapTo ts' ts'.length ∧ lv'.ownBlock = lv.ownBlock ∧ Keeps (fun k => k = p ∨ lv.ownBlock = some k) w w' := by
  have hrow := h.row
  rw [hn] at hrow
  obtain ⟨g, c, rfl, _⟩ := hrow.form (by omega)
  have ml := m_len h.cell
  have L := hide (row_len w (some ⟨g, 0, none⟩) (n + 1) c)
  have ms := m_swap h.cell
  have S := hide (row_swap w B (n + 1) c g 0 n ts hrow (by omega) (by omega))
  rw [show ((0 : Nat) : Int) = 0 from rfl] at S
  have H := hide h
  have HH := hide hh
  have HN := hide hn
  have hap := h.apart g rfl
  have hni : (n : Int) ≤ 900 := by omega
  clear h hrow hh hn
  go_enter Try.func51, Try.ntmps51
  go_upto_region 3 with (first | (go_at_call 70; (with_reducible refine L.out.mono ?_); rintro e w' ⟨rfl, rfl⟩) | (go_at_call 72; (with_reducible refine S.out.mono ?_); rintro e w1 ⟨rfl, o1, k1⟩; have O1 := hide o1; have K1 := hide k1; clear o1 k1))
  have hl1 : (swap ts 0 n).length = n + 1 := by rw [swap_length, HN.out]
  have h1 : PileAt w1 B p b (.slice (some ⟨g, 0, none⟩) (n + 1) c) (swap ts 0 n) := ⟨(K1.out.block p (lt_of_heap H.out.head) (fun e => hap e.symm)).trans H.out.head, by rw [hl1]; exact O1.out⟩
  have hat1 : at_ (swap ts 0 n) n = at_ ts 0 := by rw [swap_at ts (by rw [HN.out]; omega) (by rw [HN.out]; omega), if_pos rfl]
  have D := hide (heap_down w1 B p b g c n (at_ ts 0) (swap ts 0 n) h1 hl1 (by omega) (DownTo.start HH.out HN.out) hat1)
  have HPM := hide (swap_perm ts (i := 0) (j := n) (by rw [HN.out]; omega) (by rw [HN.out]; omega))
  clear h1 hl1 hat1 S L ml ms
  go_upto_region 4 with (go_at_call 53; (with_reducible refine D.out.mono ?_); rintro e w2 ⟨⟨x, rfl⟩, ts2, h2, hl2, hp2, hh2, hat2, k2⟩; have H2 := hide h2; have HL2 := hide hl2; have HP2 := hide hp2; have HH2 := hide hh2; have HAT2 := hide hat2; have K2 := hide k2; clear h2 hl2 hp2 hh2 hat2 k2)
  have mp := m_pop p w2
  have P := hide (row_pop w2 B p b n _ ts2 H2.out HL2.out (by omega))
  rw [HAT2.out] at P
  go_wp2_with (go_at_call 73; (with_reducible refine P.out.mono ?_); rintro e w3 ⟨rfl, lv3, h3, ho3, k3⟩; have H3 := hide h3; have HO3 := hide ho3; have K3 := hide k3; clear h3 ho3 k3)
  go_ret
  refine ⟨rfl, lv3, ts2.take n, H3.out, ?_, HH2.out.take (by rw [HL2.out]; omega), HO3.out, ((K1.out.more (G := fun k => k = p ∨ (Value.slice (some ⟨g, 0, none⟩) (n + 1) c).ownBlock = some k) fun k _ e => .inr (by have e' : k = g := e; rw [e']; rfl)).then_ K2.out fun k _ e => .inr (by have e' : k = g := e; rw [e']; rfl)).then_ K3.out fun k _ e => .inl e⟩
  have e := last_split HL2.out
  rw [HAT2.out] at e
  have p2 : ts.Perm ts2 := (HPM.out.symm).trans HP2.out.symm
  have p3 : (ts2.take n ++ [at_ ts 0]).Perm (at_ ts 0 :: ts2.take n) := List.perm_append_comm
  rw [← e] at p3
  exact p2.trans p3
section
variable {w0 w w' : World} {F : Nat → Prop} {p : Nat} {ts : List T} {had : List Int}
theorem pile_takeNo (h : PileIn w0 w F p [] had) : Calls Try.prog 43 #[.pointer (some ⟨p, 0, none⟩)] w fun e w' => e = .returned (.tuple #[.int .i64 0, .bool false]) ∧ w = w' := by
  have L := hide (pile_len h)
  rw [show ((([] : List T).length : Nat) : Int) = 0 from rfl] at L
  clear h
  go_enter Try.func43, Try.ntmps43
  go_wp2_with (go_at_call 44; (with_reducible refine L.out.mono ?_); rintro e w' ⟨rfl, rfl⟩)
  go_ret2
  exact ⟨rfl, rfl⟩
set_option maxHeartbeats 1000000 in
theorem pile_take (h : PileIn w0 w F p ts had) {n : Nat} (hn : ts.length = n + 1) (hn3 : n ≤ 900) : Calls Try.prog 43 #[.pointer (some ⟨p, 0, none⟩)] w fun e w' => ∃ (t : T) (ts' : List T), e = .returned (.tuple #[.int .i64 t.2, .bool true]) ∧ ts.Perm (t :: ts') ∧ (∀ u ∈ ts, le t u) ∧ PileIn w0 w' F p ts' had ∧ Keeps F w w' := by
  obtain ⟨b, lv, h1, h2, h3, h4⟩ := h.body
  have L := hide (pile_len h)
  rw [hn] at L
  have P := hide (heap_pop w w0.heap.size p b n lv ts h1 hn hn3 h.heap)
  have hni : (n : Int) ≤ 900 := by omega
  have hta : ∀ (t : T) w, (Instr.typeAssert (.iface 83 (.agg #[.int .i64 t.1, .int .i64 t.2])) 20 83 false).run Try.prog w = .ok (.agg #[.int .i64 t.1, .int .i64 t.2]) w := fun _ _ => by kernel_rfl
  have hta := hta (at_ ts 0)
  have hfd : ∀ (a b : Value) (w : World), (Instr.field 83 (.agg #[a, b]) 1).run Try.prog w = .ok b w := fun _ _ _ => by kernel_rfl
  have hleast : ∀ u ∈ ts, le (at_ ts 0) u := by
    intro u hu
    obtain ⟨k, hk, rfl⟩ := List.mem_iff_getElem.1 hu
    have := h.heap.least k hk
    unfold at_ at this ⊢
    rw [List.getD_eq_getElem?_getD (i := k), List.getElem?_eq_getElem hk] at this
    exact this
  have HL := hide hleast
  have HH := hide h
  have H1 := hide h1
  have H2 := hide h2
  have H3 := hide h3
  have H4 := hide h4
  have hn1 : ((n : Int) + 1 == 0) = false := by simp; omega
  clear h h1 h2 h3 h4 hleast hn
  go_enter Try.func43, Try.ntmps43
  go_wp2_with (first | (go_at_call 44; (with_reducible refine L.out.mono ?_); rintro e w' ⟨rfl, rfl⟩) | (go_at_call 51; (with_reducible refine P.out.mono ?_); rintro e w2 ⟨rfl, lv2, ts2, h2, hp2, hh2, ho2, k2⟩; have HH2 := hide hh2; have HP2 := hide hp2; have HA2 := hide h2; have HO2 := hide ho2; have K2 := hide k2; clear h2 hp2 hh2 ho2 k2))
  go_ret2
  have hkF : Keeps F w w2 := K2.out.more fun k _ e => by
    rcases e with e | e
    · have e' : k = p := e
      rw [e']; exact HH.out.here
    · exact H4.out k e
  obtain ⟨hb1, hb2⟩ := map_apart H1.out H2.out
  exact ⟨at_ ts 0, ts2, rfl, HP2.out, HL.out, ⟨HH.out.below.trans (hkF.below HH.out.below.size fun k hf => (HH.out.low k hf).1), fun k hf => ⟨(HH.out.low k hf).1, Nat.lt_of_lt_of_le (HH.out.low k hf).2 hkF.size⟩, HH.out.here, HH2.out, b, lv2, HA2.out, H2.out.kept K2.out (fun e => e.elim hb1 hb2), H3.out, fun g hg => H4.out g (by rw [← HO2.out]; exact hg)⟩, hkF⟩
end
theorem no_put (w : World) (r x : Int) : Calls Try.prog 41 #[.pointer none, .int .i64 r, .int .i64 x] w fun e w' => e = .returned (.bool false) ∧ w = w' := by
  go_enter Try.func41, Try.ntmps41
  go_wp2_with fail
  go_ret
  exact ⟨rfl, rfl⟩
theorem no_len (w : World) : Calls Try.prog 44 #[.pointer none] w fun e w' => e = .returned (.int .i64 0) ∧ w = w' := by
  go_enter Try.func44, Try.ntmps44
  go_wp2_with fail
  go_ret
  exact ⟨rfl, rfl⟩
theorem no_take (w : World) : Calls Try.prog 43 #[.pointer none] w fun e w' => e = .returned (.tuple #[.int .i64 0, .bool false]) ∧ w = w' := by
  have L := hide (no_len w)
  go_enter Try.func43, Try.ntmps43
  go_wp2_with (go_at_call 44; (with_reducible refine L.out.mono ?_); rintro e w' ⟨rfl, rfl⟩)
  go_ret2
  exact ⟨rfl, rfl⟩
theorem no_had (w : World) (x : Int) : Calls Try.prog 45 #[.pointer none, .int .i64 x] w fun e w' => e = .returned (.bool false) ∧ w = w' := by
  go_enter Try.func45, Try.ntmps45
  go_wp2_with fail
  go_ret
  exact ⟨rfl, rfl⟩
end Go.Proofs.Ytppolhpigclbpaa
