/- The walk of PileSorted. -/
import Derived.Test.YtppolhpigclbpaaPileI
import Derived.StillTailTactics
set_option linter.unusedVariables false
namespace Go.Proofs.Ytppolhpigclbpaa
open Go.RowKit Go.Instr

/-- What is taken of things that come of a list. -/
theorem perm_take {α : Type} [DecidableEq α] {f : α → T} {l : List α} {ts ts' : List T} {t : T} (h : ts.Perm (l.map f)) (hc : ts.Perm (t :: ts')) : ∃ a ∈ l, t = f a ∧ ts'.Perm ((l.erase a).map f) := by
  have ht : t ∈ l.map f := h.mem_iff.1 (hc.mem_iff.2 (List.mem_cons_self ..))
  obtain ⟨a, ha, rfl⟩ := List.mem_map.1 ht
  refine ⟨a, ha, rfl, ?_⟩
  have h2 := ((List.perm_cons_erase ha).map f)
  rw [List.map_cons] at h2
  exact ((hc.symm.trans h).trans h2).cons_inv
def dup (v : Int) : T := (v, v)
/-- What the putting holds at each round's head. -/
def SortIn (W : World) (p len : Nat) (z : List Int) (u5 u6 : Value) (wr : World) : Prop :=
  ∃ (n i : Nat) (ts : List T) (had : List Int), u5 = .int .i64 (n : Int) ∧ u6 = .int .i64 (i : Int) ∧ i ≤ len ∧ (i : Int) ≤ 100 ∧ n ≤ i ∧ had.length = n ∧ Pl W wr p ts had ∧ ts.Perm (had.map dup) ∧ had.Nodup ∧ ∀ v ∈ had, v ∈ z
/-- What the taking holds at each round's head. -/
def SortOut (W : World) (p n : Nat) (z : List Int) (u7 u8 : Value) (wr : World) : Prop :=
  ∃ (i : Nat) (last : Int) (ts : List T) (had rem : List Int), u7 = .int .i64 last ∧ u8 = .int .i64 (i : Int) ∧ rem.length + i = n ∧ Pl W wr p ts had ∧ ts.Perm (rem.map dup) ∧ rem.Nodup ∧ (∀ v ∈ rem, v ∈ z) ∧ (0 < i → ∀ v ∈ rem, last < v)
set_option maxHeartbeats 4000000 in
theorem pileSorted_walk (a0 : Option Addr) (len0 cap0 : Nat) (z0 : List Int) (W : World) (h0 : IsRow .i64 W a0 len0 cap0 z0) : Calls Try.prog 12 #[.slice a0 len0 cap0] W fun e w' => e = .returned (.bool true) ∧ Below W.heap.size W w' := by
  obtain ⟨hle, hmx, _, hzl, _, hsee⟩ := h0.cells
  have hlen : (len0 : Int) ≤ 9223372036854775807 := by unfold maxLen at hmx; omega
  have hzt : (z0.take len0).length = len0 := by rw [List.length_take]; omega
  generalize z0.take len0 = z at *
  have B := hide (begun18_any W)
  have HS := hide hsee
  have HZ := hide hzt
  clear h0 hle hmx hzl hsee hzt
  go_enter Try.func12, Try.ntmps12
  go_upto_region 4 with (go_at_call 38; (with_reducible refine B.out.mono ?_); rintro e w1 ⟨rfl, b1⟩; have B1 := hide b1; clear b1)
  have N := hide (Pl.new B1.out)
  go_upto_block 0 with (go_at_call 39; (with_reducible refine N.out.mono ?_); rintro e w2 ⟨rfl, h2⟩; have H2 := hide h2; clear h2)
  generalize w1.heap.size + 1 = p at *
  go_cut [5] (fun x wx => ∃ (n : Nat) (ts : List T) (had : List Int), x = .int .i64 (n : Int) ∧ (n : Int) ≤ 100 ∧ had.length = n ∧ Pl W wx p ts had ∧ ts.Perm (had.map dup) ∧ had.Nodup ∧ ∀ v ∈ had, v ∈ z)
  case first =>
    as_aux_lemma =>
    go_wp2
    go_loopw [5, 6] (fun u5 u6 wr => SortIn W p len0 z u5 u6 wr) (fun _ u6 _ => len0 - (intOf u6).toNat)
    case atStart => exact ⟨0, 0, [], [], rfl, rfl, by omega, by omega, by omega, rfl, H2.out, List.Perm.refl _, List.nodup_nil, fun v hv => (List.not_mem_nil hv).elim⟩
    case round =>
      obtain ⟨n, i, ts, had, rfl, rfl, hi, h100, hni, hhl, hp, hpm, hnd, hin⟩ := hrel
      have HE := hide (And.intro hhl (And.intro hp (And.intro hpm (And.intro hnd hin))))
      by_cases hlt : i < len0
      · have hlt' : (i : Int) < (len0 : Int) := by omega
        by_cases hc : (i : Int) < 100
        · have d1 : decide ((i : Int) < 100) = true := decide_eq_true hc
          obtain ⟨b, off, u, rfl, hb, hu, hcell⟩ := (HS.out.below hp.below).at_ hlt
          have hv := List.getElem?_eq_getElem (show i < z.length by rw [HZ.out]; exact hlt)
          rw [List.getElem?_map, hv] at hu
          cases hu
          have HV := hide (List.mem_of_getElem? hv)
          clear hv hhl
          generalize z[i]'(by rw [HZ.out]; exact hlt) = v at *
          have hlm : (had.map dup).length ≤ 900 := by rw [List.length_map, HE.out.1]; omega
          have hn100 : (n : Int) ≤ 100 := by omega
          by_cases hx : v ∈ had
          · have U := hide ((hp.drew).putNo hx v)
            clear hp hpm hnd hin hx hlm
            go_upto_region 9 with fail
            go_still_tail 9, (by kernel_rfl)
            change wpList _ _ _ _ _ wr.drew
            go_wp2_with (go_at_call 41; (with_reducible refine U.out.mono ?_); rintro e w' ⟨rfl, rfl⟩)
            go_roundw
            case rel => exact ⟨n, i + 1, ts, had, rfl, by go_num, by omega, by omega, by omega, HE.out.1, HE.out.2.1.drew, HE.out.2.2.1, HE.out.2.2.2.1, HE.out.2.2.2.2⟩
            case measure => simp [intOf]; omega
          · have U := hide ((hp.drew).put hx v hpm hlm)
            have HX := hide hx
            clear hp hpm hnd hin hx hlm
            go_upto_region 9 with fail
            go_still_tail 9, (by kernel_rfl)
            change wpList _ _ _ _ _ wr.drew
            go_wp2_with (go_at_call 41; (with_reducible refine U.out.mono ?_); rintro e w3 ⟨rfl, ts3, h3, p3⟩; have H3 := hide h3; have P3 := hide p3; clear h3 p3)
            go_roundw
            case rel => exact ⟨n + 1, i + 1, ts3, had ++ [v], by go_num, by go_num, by omega, by omega, by omega, by rw [List.length_append, HE.out.1]; rfl, H3.out, by rw [List.map_append]; exact P3.out, List.nodup_append.2 ⟨HE.out.2.2.2.1, by simp, fun a ha b hb e => HX.out (by rw [List.mem_singleton.1 hb] at e; rw [← e]; exact ha)⟩, fun x hx => (List.mem_append.1 hx).elim (HE.out.2.2.2.2 x) fun h => by rw [List.mem_singleton.1 h]; exact HV.out⟩
            case measure => simp [intOf]; omega
        · have d1 : decide ((i : Int) < 100) = false := decide_eq_false hc
          clear hhl hp hpm hnd hin
          go_wp2
          go_meet
          exact ⟨n, ts, had, rfl, by omega, HE.out⟩
      · obtain rfl : len0 = i := by omega
        clear hhl hp hpm hnd hin
        go_wp2
        go_meet
        exact ⟨n, ts, had, rfl, by omega, HE.out⟩
  case rest =>
  obtain ⟨n, ts, had, rfl, hn, hhl, hp, hpm, hnd, hin⟩ := hcut
  have HB : SortOut W p n z (.int .i64 0) (.int .i64 0) wc := ⟨0, 0, ts, had, had, rfl, rfl, by omega, hp, hpm, hnd, hin, fun h => absurd h (by omega)⟩
  have HH := hide HB
  clear HB hhl hp hpm hnd hin
  go_wp2
  go_loopw [7, 8] (fun u7 u8 wr => SortOut W p n z u7 u8 wr) (fun _ u8 _ => n - (intOf u8).toNat)
  case atStart => exact HH.out
  case round =>
    clear HH
    obtain ⟨i, last, ts, had, rem, rfl, rfl, hri, hp, hpm, hnd, hin, hlast⟩ := hrel
    by_cases hlt : i < n
    · have hlt' : (i : Int) < (n : Int) := by omega
      have hl := hpm.length_eq
      rw [List.length_map] at hl
      have T1 := hide (hp.takeAny (n := rem.length - 1) (by omega) (by omega))
      have HPM := hide hpm
      have HND := hide hnd
      have HIN := hide hin
      have HLAST := hide hlast
      clear hp hpm hnd hin hlast hl
      go_upto_region 16 with (go_at_call 43; (with_reducible refine T1.out.mono ?_); rintro e w3 ⟨t, ts', rfl, hc, hle, h3⟩; have HC := hide hc; have HLE := hide hle; have H3 := hide h3; clear hc hle h3)
      obtain ⟨v, hv, rfl, hp3⟩ := perm_take HPM.out HC.out
      have hge : ∀ u ∈ rem, v ≤ u := by
        intro u hu
        have := HLE.out (dup u) (HPM.out.mem_iff.2 (List.mem_map_of_mem hu))
        unfold le dup at this
        omega
      have hz : (0 : Int) < (i : Int) → last < v := fun h => HLAST.out (by omega) v hv
      have I := hide (in_any w3 a0 len0 cap0 W.heap.size z v (HS.out.below H3.out.below) hlen)
      rw [decide_eq_true (HIN.out v hv)] at I
      have hel : (rem.erase v).length = rem.length - 1 := by rw [List.length_erase, if_pos (by simpa using hv)]
      have HREL := hide (show SortOut W p n z (.int .i64 v) (.int .i64 ((i : Int) + 1)) w3 from ⟨i + 1, v, ts', had, rem.erase v, rfl, by go_num, by rw [hel]; have := List.length_pos_of_mem hv; omega, H3.out, hp3, HND.out.erase v, fun u hu => HIN.out u (List.mem_of_mem_erase hu), fun _ u hu => by
        have h1 := hge u (List.mem_of_mem_erase hu)
        have h2 : u ≠ v := fun e => by subst e; exact (List.Nodup.not_mem_erase HND.out) hu
        omega⟩)
      clear hge hv hp3 hel
      dsimp only [dup]
      by_cases hi0 : (0 : Int) < (i : Int)
      · have d1 : decide ((0 : Int) < (i : Int)) = true := decide_eq_true hi0
        have d2 : decide (v ≤ last) = false := decide_eq_false (by have := hz hi0; omega)
        clear hz
        go_wp2_with (go_at_call 40; (with_reducible refine I.out.mono ?_); rintro e w' ⟨rfl, rfl⟩)
        go_roundw
        case rel => exact HREL.out
        case measure => simp [intOf]; omega
      · have d1 : decide ((0 : Int) < (i : Int)) = false := decide_eq_false hi0
        clear hz
        go_wp2_with (go_at_call 40; (with_reducible refine I.out.mono ?_); rintro e w' ⟨rfl, rfl⟩)
        go_roundw
        case rel => exact HREL.out
        case measure => simp [intOf]; omega
    · have hr0 : rem = [] := List.eq_nil_of_length_eq_zero (by omega)
      subst hr0
      have T1 := hide (hp.takeNo hpm)
      have BE := hide hp.below
      have hin : (i : Int) = (n : Int) := by have : ([] : List Int).length = 0 := rfl; omega
      obtain rfl : i = n := by omega
      clear hp hpm hnd hin hlast
      go_wp2_with (go_at_call 43; (with_reducible refine T1.out.mono ?_); rintro e w' ⟨rfl, rfl⟩)
      go_ret
      exact ⟨rfl, BE.out⟩
end Go.Proofs.Ytppolhpigclbpaa
