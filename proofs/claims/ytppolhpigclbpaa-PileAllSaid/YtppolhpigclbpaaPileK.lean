/- The walk of PileRanks. -/
import Derived.Test.YtppolhpigclbpaaPileJ
set_option linter.unusedVariables false
namespace Go.Proofs.Ytppolhpigclbpaa
open Go.RowKit Go.Instr

/-- The k-th thing. -/
def rk (z : List Int) (k : Nat) : T := (z.getD k 0, (k : Int))
def upto (i : Nat) : List Int := (List.range i).map fun k : Nat => (k : Int)
theorem upto_mem (i : Nat) (x : Nat) : (x : Int) ∈ upto i ↔ x < i := by
  unfold upto
  simp only [List.mem_map, List.mem_range]
  exact ⟨fun ⟨a, h, e⟩ => by omega, fun h => ⟨x, h, rfl⟩⟩
theorem upto_succ (i : Nat) : upto (i + 1) = upto i ++ [(i : Int)] := by simp [upto, List.range_succ]
/-- What the taking holds at each round's head. -/
def RankOut (W : World) (p n : Nat) (z : List Int) (u7 u8 : Value) (wr : World) : Prop :=
  ∃ (i : Nat) (last : Int) (ts : List T) (had : List Int) (rem : List Nat), u7 = .int .i64 last ∧ u8 = .int .i64 (i : Int) ∧ rem.length + i = n ∧ Pl W wr p ts had ∧ ts.Perm (rem.map (rk z)) ∧ rem.Nodup ∧ (∀ k ∈ rem, k < n) ∧ ((i = 0 ∧ last = -1) ∨ ∃ l : Nat, last = (l : Int) ∧ l < n ∧ ∀ k ∈ rem, le (rk z l) (rk z k) ∧ k ≠ l)
set_option maxHeartbeats 8000000 in
set_option maxRecDepth 100000 in
theorem pileRanks_walk (a0 : Option Addr) (len0 cap0 : Nat) (z0 : List Int) (W : World) (h0 : IsRow .i64 W a0 len0 cap0 z0) : Calls Try.prog 14 #[.slice a0 len0 cap0] W fun e w' => e = .returned (.bool true) ∧ Below W.heap.size W w' := by
  obtain ⟨hle, hmx, _, hzl, _, hsee⟩ := h0.cells
  have hlen : (len0 : Int) ≤ 9223372036854775807 := by unfold maxLen at hmx; omega
  have hzt : (z0.take len0).length = len0 := by rw [List.length_take]; omega
  generalize z0.take len0 = z at *
  have B := hide (begun18_any W)
  have HS := hide hsee
  have HZ := hide hzt
  clear h0 hle hmx hzl hsee hzt
  go_enter Try.func14, Try.ntmps14
  go_upto_region 4 with (go_at_call 38; (with_reducible refine B.out.mono ?_); rintro e w1 ⟨rfl, b1⟩; have B1 := hide b1; clear b1)
  have N := hide (Pl.new B1.out)
  go_upto_region 5 with (go_at_call 39; (with_reducible refine N.out.mono ?_); rintro e w2 ⟨rfl, h2⟩; have H2 := hide h2; clear h2)
  generalize w1.heap.size + 1 = p at *
  go_cut [5] (fun x wx => ∃ n : Nat, x = .int .i64 (n : Int) ∧ wx = w2 ∧ n ≤ len0 ∧ (n : Int) ≤ 60)
  case first =>
    by_cases h60 : (60 : Int) < (len0 : Int)
    · go_wp2
      go_meet
      exact ⟨60, rfl, rfl, by omega, by omega⟩
    · go_wp2
      go_meet
      exact ⟨len0, rfl, rfl, by omega, by omega⟩
  case rest =>
  obtain ⟨n, rfl, hw, hnl, hn60⟩ := hcut
  obtain ⟨w3, rfl⟩ : ∃ x : World, x = wc := ⟨_, rfl⟩
  subst hw
  have SE := hide (fun (w : World) (hw : Below W.heap.size W w) (k : Nat) (hk : k < n) => show ∃ b off, a0 = some ⟨b, off, none⟩ ∧ w.cell? ⟨b, off + k, none⟩ = some (.int .i64 (z.getD k 0)) from by
    obtain ⟨b, off, u, hA, _, hu, hc⟩ := (HS.out.below hw).at_ (show k < len0 by omega)
    have hv := List.getElem?_eq_getElem (show k < z.length by rw [HZ.out]; omega)
    rw [List.getElem?_map, hv] at hu
    cases hu
    exact ⟨b, off, hA, by rw [hc, List.getD_eq_getElem?_getD, hv]; rfl⟩)
  go_upto_block 0 with fail
  go_wp2
  go_loopw [6] (fun u6 wr => ∃ (i : Nat) (ts : List T), u6 = .int .i64 (i : Int) ∧ i ≤ n ∧ Pl W wr p ts (upto i) ∧ ts.Perm ((List.range i).map (rk z))) (fun u6 _ => n - (intOf u6).toNat)
  case atStart => exact ⟨0, [], rfl, by omega, H2.out, List.Perm.refl _⟩
  case round =>
  obtain ⟨i, ts, rfl, hi, hp, hpm⟩ := hrel
  by_cases hlt : i < n
  · have hlt' : (i : Int) < (n : Int) := by omega
    have hil : (i : Int) < (len0 : Int) := by omega
    obtain ⟨b, off, rfl, hc⟩ := SE.out _ hp.below i hlt
    have U := hide (hp.put (x := (i : Int)) (by rw [upto_mem]; omega) (z.getD i 0) hpm (by simp; omega))
    have SEI := hide (fun (w : World) (hw : Below W.heap.size W w) => SE.out w hw i hlt)
    generalize hgv : z.getD i 0 = v at *
    have HGV := hide hgv
    clear hp hpm hgv
    go_wp2_with (first | (go_at_call 41; (with_reducible refine U.out.mono ?_); rintro e w4 ⟨rfl, ts4, h4, p4⟩; have H4 := hide h4; have P4 := hide p4; have hc4 : w4.cell? ⟨b, off + i, none⟩ = some (.int .i64 v) := (by obtain ⟨b', off', he, hc'⟩ := SEI.out _ h4.below; cases he; exact hc'); have V := fun r : Int => hide (h4.putNo (x := (i : Int)) (by rw [← upto_succ, upto_mem]; omega) r); clear h4 p4) | (go_at_call 41; (with_reducible refine (V _).out.mono ?_); rintro e w' ⟨rfl, rfl⟩))
    go_roundw
    case rel => exact ⟨i + 1, ts4, by go_num, by omega, by rw [upto_succ]; exact H4.out, by rw [List.range_succ, List.map_append, List.map_singleton, rk, HGV.out]; exact P4.out⟩
    case measure => simp [intOf]; omega
  obtain rfl : n = i := by omega
  have HB : RankOut W p n z (.int .i64 (-1)) (.int .i64 0) wr := ⟨0, -1, ts, _, List.range n, rfl, rfl, by simp, hp, hpm, List.nodup_range, fun k hk => List.mem_range.1 hk, .inl ⟨rfl, rfl⟩⟩
  have HH := hide HB
  clear HB hp hpm hi hlt
  go_upto_block 2 with fail
  go_wp2
  go_loopw [7, 8] (fun u7 u8 wr => RankOut W p n z u7 u8 wr) (fun _ u8 _ => n - (intOf u8).toNat)
  case atStart => exact HH.out
  case round =>
    clear HH
    obtain ⟨i, last, ts, had, rem, rfl, rfl, hri, hp, hpm, hnd, hin, hlast⟩ := hrel
    by_cases hlt : i < n
    · have hlt' : (i : Int) < (n : Int) := by omega
      have hl := hpm.length_eq
      rw [List.length_map] at hl
      have T1 := hide (hp.takeAny (n := rem.length - 1) (by omega) (by omega))
      have HPM := hide hpm
      have HND := hide hnd
      have HIN := hide hin
      have HLAST := hide hlast
      clear hp hpm hnd hin hlast hl
      go_upto_region 16 with (go_at_call 43; (with_reducible refine T1.out.mono ?_); rintro e w3 ⟨t, ts', rfl, hc, hle, h3⟩; have HC := hide hc; have HLE := hide hle; have H3 := hide h3; clear hc hle h3)
      obtain ⟨k, hk, rfl, hp3⟩ := perm_take HPM.out HC.out
      have hge : ∀ u ∈ rem, le (rk z k) (rk z u) := fun u hu => HLE.out _ (HPM.out.mem_iff.2 (List.mem_map_of_mem hu))
      have hkn := HIN.out k hk
      have hel : (rem.erase k).length = rem.length - 1 := by rw [List.length_erase, if_pos (by simpa using hk)]
      have hpos := List.length_pos_of_mem hk
      have hlen3 : ts'.length = n - 1 - i := by rw [hp3.length_eq, List.length_map, hel]; omega
      have L := hide (fun q : Nat => (H3.out.drewN q).len)
      rw [hlen3] at L
      have HREL := hide (fun nq : Nat => show RankOut W p n z (.int .i64 (k : Int)) (.int .i64 ((i : Int) + 1)) (w3.drewN nq) from ⟨i + 1, k, ts', had, rem.erase k, rfl, by go_num, by rw [hel]; omega, H3.out.drewN nq, hp3, HND.out.erase k, fun u hu => HIN.out u (List.mem_of_mem_erase hu), .inr ⟨k, rfl, hkn, fun u hu => ⟨hge u (List.mem_of_mem_erase hu), fun e => by subst e; exact (List.Nodup.not_mem_erase HND.out) hu⟩⟩⟩)
      have hkn' : (k : Int) < (n : Int) := by omega
      have hkl : (k : Int) < (len0 : Int) := by omega
      have e1 : decide ((k : Int) < 0) = false := decide_eq_false (by omega)
      have e2 : decide ((n : Int) ≤ (k : Int)) = false := decide_eq_false (by omega)
      have e2n : decide (n ≤ k) = false := decide_eq_false (by omega)
      have e3 : (((n - 1 - i : Nat) : Int)) = (n : Int) - 1 - (i : Int) := by omega
      rw [e3] at L
      dsimp only [rk]
      obtain ⟨b, off, rfl, ck⟩ := SE.out _ H3.out.below k hkn
      have hlast := HLAST.out
      clear hge hp3 hel hpos hlen3 e3
      rcases hlast with ⟨hi0, hl1⟩ | ⟨l, hl1, hln, hlr⟩
      · subst hl1
        subst hi0
        go_big_quiet ((first | (go_at_call 44; exact quiet_l (L.out _))))
        go_wp2
        go_roundw
        case rel => exact HREL.out _
        case measure => simp [intOf]; omega
      · subst hl1
        obtain ⟨hll, hlk⟩ := hlr k hk
        obtain ⟨b', off', he, cl⟩ := SE.out _ H3.out.below l hln
        cases he
        have e4 : decide ((0 : Int) ≤ (l : Int)) = true := decide_eq_true (by omega)
        have hll' : (l : Int) < (len0 : Int) := by omega
        unfold le rk at hll
        dsimp only at hll
        generalize z.getD k 0 = x at *
        generalize z.getD l 0 = y at *
        clear hlr
        have e5 : decide (x < y) = false := decide_eq_false (by omega)
        by_cases hxy : y = x
        · subst hxy
          have e6 : decide ((k : Int) ≤ (l : Int)) = false := decide_eq_false (by omega)
          have e6n : decide (k ≤ l) = false := decide_eq_false (by omega)
          clear hll
          go_big_quiet ((first | (go_at_call 44; exact quiet_l (L.out _))))
          go_wp2
          go_roundw
          case rel => exact HREL.out _
          case measure => simp [intOf]; omega
        · have e6 : (y == x) = false := by simpa using hxy
          clear hll
          go_big_quiet ((first | (go_at_call 44; exact quiet_l (L.out _))))
          go_wp2
          go_roundw
          case rel => exact HREL.out _
          case measure => simp [intOf]; omega
    · have BE := hide hp.below
      have hin : i = n := by omega
      subst hin
      clear hp hpm hnd hlast
      go_wp2
      go_ret
      exact ⟨rfl, BE.out⟩
end Go.Proofs.Ytppolhpigclbpaa
