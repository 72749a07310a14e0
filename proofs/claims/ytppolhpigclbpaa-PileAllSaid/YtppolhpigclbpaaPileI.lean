/- A pile with nothing beside it; the walks of the pile laws' first look and of in; PileNone. -/
import Derived.Test.YtppolhpigclbpaaPileH
set_option linter.unusedVariables false
namespace Go.Proofs.Ytppolhpigclbpaa
open Go.RowKit Go.Instr

/-- A pile of the call's own, whatever its blocks. -/
def Pl (w0 w : World) (p : Nat) (ts : List T) (had : List Int) : Prop := ∃ F, PileIn w0 w F p ts had
section
variable {w0 w w' : World} {p : Nat} {ts : List T} {had : List Int}
theorem Pl.below (h : Pl w0 w p ts had) : Below w0.heap.size w0 w := by obtain ⟨F, h⟩ := h; exact h.below
theorem Pl.drewN (h : Pl w0 w p ts had) (q : Nat) : Pl w0 (w.drewN q) p ts had := by obtain ⟨F, h⟩ := h; exact ⟨F, h.none_ ((Keeps.refl _ _).drewN q)⟩
theorem Pl.drew (h : Pl w0 w p ts had) : Pl w0 w.drew p ts had := by obtain ⟨F, h⟩ := h; exact ⟨F, h.none_ ((Keeps.refl _ _).drew)⟩
theorem Pl.new (hb : Below w0.heap.size w0 w) : Calls Try.prog 39 #[] w fun e w' => e = .returned (.pointer (some ⟨w.heap.size + 1, 0, none⟩)) ∧ Pl w0 w' (w.heap.size + 1) [] [] := (pile_new hb).mono fun e w' ⟨he, hp, _⟩ => ⟨he, _, hp⟩
theorem Pl.putNo (h : Pl w0 w p ts had) {x : Int} (hx : x ∈ had) (r : Int) : Calls Try.prog 41 #[.pointer (some ⟨p, 0, none⟩), .int .i64 r, .int .i64 x] w fun e w' => e = .returned (.bool false) ∧ w = w' := by obtain ⟨F, h⟩ := h; exact pile_putNo h hx r
theorem Pl.put (h : Pl w0 w p ts had) {x : Int} (hx : x ∉ had) (r : Int) {l : List T} (hl : ts.Perm l) (hn : l.length ≤ 900) : Calls Try.prog 41 #[.pointer (some ⟨p, 0, none⟩), .int .i64 r, .int .i64 x] w fun e w' => e = .returned (.bool true) ∧ ∃ ts', Pl w0 w' p ts' (had ++ [x]) ∧ ts'.Perm (l ++ [(r, x)]) := by
  obtain ⟨F, h⟩ := h
  exact (pile_put h hx r (by rw [hl.length_eq]; exact hn)).mono fun e w' ⟨he, _, ts', hp, hpm⟩ => ⟨he, ts', ⟨_, hp⟩, hpm.trans (hl.append_right _)⟩
theorem Pl.takeNo (h : Pl w0 w p ts had) (ht : ts.Perm []) : Calls Try.prog 43 #[.pointer (some ⟨p, 0, none⟩)] w fun e w' => e = .returned (.tuple #[.int .i64 0, .bool false]) ∧ w = w' := by
  obtain ⟨F, h⟩ := h
  obtain rfl : ts = [] := List.Perm.eq_nil ht
  exact pile_takeNo h
theorem least_is {ts l ts' : List T} {t m : T} (h : ts.Perm l) (hc : ts.Perm (t :: ts')) (hl : ∀ u ∈ ts, le t u) (hm : m ∈ l) (hmin : ∀ u ∈ l, le m u) : t = m ∧ ts'.Perm (l.erase m) := by
  have ht : t ∈ ts := hc.mem_iff.2 (List.mem_cons_self ..)
  have e : t = m := le_antisymm (hl m (h.mem_iff.2 hm)) (hmin t (h.mem_iff.1 ht))
  subst e
  refine ⟨rfl, ?_⟩
  have := (hc.symm.trans h).erase t
  simpa using this
/-- Take, the least one known. -/
theorem Pl.take (h : Pl w0 w p ts had) {l : List T} (hl : ts.Perm l) {m : T} (hm : m ∈ l) (hmin : ∀ u ∈ l, le m u) (hn : l.length ≤ 900) : Calls Try.prog 43 #[.pointer (some ⟨p, 0, none⟩)] w fun e w' => e = .returned (.tuple #[.int .i64 m.2, .bool true]) ∧ ∃ ts', Pl w0 w' p ts' had ∧ ts'.Perm (l.erase m) := by
  obtain ⟨F, h⟩ := h
  have hll := hl.length_eq
  have hpos : 0 < l.length := List.length_pos_of_mem hm
  refine (pile_take h (n := ts.length - 1) (by omega) (by omega)).mono ?_
  rintro e w' ⟨t, ts', rfl, hc, hle, hp, _⟩
  obtain ⟨rfl, hpm⟩ := least_is hl hc hle hm hmin
  exact ⟨rfl, ts', ⟨F, hp⟩, hpm⟩
/-- Take, of some. -/
theorem Pl.takeAny (h : Pl w0 w p ts had) {n : Nat} (hn : ts.length = n + 1) (hn3 : n ≤ 900) : Calls Try.prog 43 #[.pointer (some ⟨p, 0, none⟩)] w fun e w' => ∃ (t : T) (ts' : List T), e = .returned (.tuple #[.int .i64 t.2, .bool true]) ∧ ts.Perm (t :: ts') ∧ (∀ u ∈ ts, le t u) ∧ Pl w0 w' p ts' had := by
  obtain ⟨F, h⟩ := h
  exact (pile_take h hn hn3).mono fun e w' ⟨t, ts', he, h1, h2, h3, _⟩ => ⟨t, ts', he, h1, h2, F, h3⟩
theorem Pl.len (h : Pl w0 w p ts had) : Calls Try.prog 44 #[.pointer (some ⟨p, 0, none⟩)] w fun e w' => e = .returned (.int .i64 (ts.length : Int)) ∧ w = w' := by obtain ⟨F, h⟩ := h; exact pile_len h
theorem Pl.asked (h : Pl w0 w p ts had) (x : Int) : Calls Try.prog 45 #[.pointer (some ⟨p, 0, none⟩), .int .i64 x] w fun e w' => e = .returned (.bool (decide (x ∈ had))) ∧ w = w' := by obtain ⟨F, h⟩ := h; exact pile_had h x
end
set_option maxHeartbeats 4000000 in
set_option maxRecDepth 100000 in
theorem begun18_any (w : World) : Calls Try.prog 38 #[] w fun e w' => e = .returned (.bool true) ∧ Below w.heap.size w w' := by
  have N := hide (Pl.new (Below.refl w.heap.size w))
  go_enter Try.func38, Try.ntmps38
  go_wp2_with fail
  refine N.out.mono ?_
  rintro e w1 ⟨rfl, h1⟩
  generalize w.heap.size + 1 = p at *
  have P1 := hide (h1.put (x := 5) (by simp) 2 (l := []) (List.Perm.refl _) (by simp))
  clear h1 N
  go_wp2_with fail
  refine P1.out.mono ?_
  rintro e w2 ⟨rfl, ts2, h2, p2⟩
  have P2 := hide (h2.put (x := 9) (by simp) 1 p2 (by simp))
  clear h2 p2 P1
  go_wp2_with fail
  refine P2.out.mono ?_
  rintro e w3 ⟨rfl, ts3, h3, p3⟩
  have P3 := hide (h3.put (x := 7) (by simp) 1 p3 (by simp))
  clear h3 p3 P2
  go_wp2_with fail
  refine P3.out.mono ?_
  rintro e w4 ⟨rfl, ts4, h4, p4⟩
  have P4 := hide (h4.putNo (x := 5) (by simp) 0)
  have T4 := hide (h4.take p4 (m := (1, 7)) (by simp) (by unfold le; decide) (by simp))
  clear h4 p4 P3
  go_wp2_with fail
  refine P4.out.mono ?_
  rintro e w' ⟨rfl, rfl⟩
  go_wp2_with fail
  refine T4.out.mono ?_
  rintro e w5 ⟨rfl, ts5, h5, p5⟩
  have T5 := hide (h5.take p5 (m := (1, 9)) (by decide) (by unfold le; decide) (by decide))
  clear h5 p5 T4 P4
  go_wp2_with fail
  refine T5.out.mono ?_
  rintro e w6 ⟨rfl, ts6, h6, p6⟩
  have T6 := hide (h6.take p6 (m := (2, 5)) (by decide) (by unfold le; decide) (by decide))
  clear h6 p6 T5
  go_wp2_with fail
  refine T6.out.mono ?_
  rintro e w7 ⟨rfl, ts7, h7, p7⟩
  have p7' : ts7.Perm [] := p7
  have hl7 : ts7.length = 0 := p7'.length_eq
  have T7 := hide (h7.takeNo p7')
  have U7 := hide (h7.putNo (x := 7) (by simp) 0)
  have V7 := hide (h7.asked 7)
  have X7 := hide (h7.asked 8)
  have L7 := hide h7.len
  have B7 := hide h7.below
  rw [hl7] at L7
  rw [show decide ((7 : Int) ∈ (([] : List Int) ++ [5] ++ [9] ++ [7])) = true from by decide] at V7
  rw [show decide ((8 : Int) ∈ (([] : List Int) ++ [5] ++ [9] ++ [7])) = false from by decide] at X7
  clear h7 p7 p7' hl7 T6
  go_wp2_with (first
    | (go_at_call 43; (with_reducible refine T7.out.mono ?_); rintro e w' ⟨rfl, rfl⟩)
    | (go_at_call 41; (with_reducible refine U7.out.mono ?_); rintro e w' ⟨rfl, rfl⟩)
    | (go_at_call 45; (with_reducible refine V7.out.mono ?_); rintro e w' ⟨rfl, rfl⟩)
    | (go_at_call 45; (with_reducible refine X7.out.mono ?_); rintro e w' ⟨rfl, rfl⟩)
    | (go_at_call 44; (with_reducible refine L7.out.mono ?_); rintro e w' ⟨rfl, rfl⟩))
  go_ret
  exact ⟨rfl, B7.out⟩
theorem pileNone_walk (w : World) : Calls Try.prog 13 #[] w fun e w' => e = .returned (.bool true) ∧ Below w.heap.size w w' := by
  have B := hide (begun18_any w)
  have T0 := hide (no_take w)
  go_enter Try.func13, Try.ntmps13
  go_wp2_with (first
    | (go_at_call 43; (with_reducible refine T0.out.mono ?_); rintro e w' ⟨rfl, rfl⟩)
    | (go_at_call 38; (with_reducible refine B.out.mono ?_); rintro e w1 ⟨rfl, b1⟩; have B1 := hide b1; have U1 := hide (no_put w1 1 1); have L1 := hide (no_len w1); have X1 := hide (no_had w1 1); clear b1)
    | (go_at_call 41; (with_reducible refine U1.out.mono ?_); rintro e w' ⟨rfl, rfl⟩)
    | (go_at_call 44; (with_reducible refine L1.out.mono ?_); rintro e w' ⟨rfl, rfl⟩)
    | (go_at_call 45; (with_reducible refine X1.out.mono ?_); rintro e w' ⟨rfl, rfl⟩))
  go_ret
  exact ⟨rfl, B1.out⟩
theorem in_any (w : World) (A : Option Addr) (n c C : Nat) (zs : List Int) (x : Int) (h : Sees w C A n (zs.map (Value.int .i64))) (hn : (n : Int) ≤ 9223372036854775807) : Calls Try.prog 40 #[.slice A n c, .int .i64 x] w fun e w' => e = .returned (.bool (decide (x ∈ zs))) ∧ w = w' := by
  have hl : zs.length = n := by have := h.1; simpa using this
  have H := hide h
  have HL := hide hl
  clear h hl
  go_enter Try.func40, Try.ntmps40
  go_wp2
  go_loop [5] (fun u5 => ∃ i : Nat, u5 = .int .i64 (i : Int) ∧ i ≤ n ∧ x ∉ zs.take i) (fun u5 => n - (intOf u5).toNat)
  case atStart => exact ⟨0, rfl, by omega, by simp⟩
  case round =>
    obtain ⟨i, rfl, hi, hno⟩ := hrel
    have HNO := hide hno
    clear hno
    by_cases hlt : i < n
    · obtain ⟨b, off, u, rfl, hb, hu, hc⟩ := H.out.at_ hlt
      have hv := List.getElem?_eq_getElem (show i < zs.length by rw [HL.out]; exact hlt)
      rw [List.getElem?_map, hv] at hu
      cases hu
      have hlt' : (i : Int) < (n : Int) := by omega
      have HV := hide hv
      clear hv
      generalize zs[i]'(by rw [HL.out]; exact hlt) = v at *
      by_cases hx : v = x
      · subst hx
        have HM := hide (List.mem_of_getElem? HV.out)
        go_wp2
        go_ret
        exact ⟨ret_bool (by simp [HM.out]), rfl⟩
      · have hx' : (v == x) = false := by simpa using hx
        have HN := hide (show x ∉ zs.take (i + 1) from by
          rw [take_snoc zs i v HV.out]
          intro hm
          rcases List.mem_append.1 hm with hm | hm
          · exact HNO.out hm
          · exact hx (by simpa using (List.mem_singleton.1 hm).symm))
        go_wp2
        go_round
        case rel => exact ⟨i + 1, by go_num, by omega, HN.out⟩
        case measure => simp [intOf]; omega
    · obtain rfl : n = i := by omega
      have hno := HNO.out
      rw [List.take_of_length_le (by rw [HL.out]; exact Nat.le_refl _)] at hno
      have HN := hide hno
      clear hno
      go_wp2
      go_ret
      exact ⟨ret_bool (by simp [HN.out]), rfl⟩
end Go.Proofs.Ytppolhpigclbpaa
