/- The walk of CrcMany: whatever comes in, the call returns true and leaves what was there as it was. Conditions: none but the row's own reading of its arguments. -/
import Derived.Test.YthhglbocoogefaaCrcWalk
import Derived.Deep.DeepCutAuto
namespace Go.Proofs.Ythhglbocoogefaa
open Go.RowKit Crc

theorem i64_at {l : List Int} {n k : Nat} {u : Value} (h : ((l.take n).map (Value.int .i64))[k]? = some u) : ∃ z, l[k]? = some z ∧ u = .int .i64 z := by
  rw [List.getElem?_map] at h
  cases hk : (l.take n)[k]? with
  | none => rw [hk] at h; cases h
  | some z =>
    rw [hk] at h
    cases h
    rw [List.getElem?_take] at hk
    split at hk
    · exact ⟨z, hk, rfl⟩
    · cases hk
theorem cut_bounds (z : Int) : 0 ≤ ((z.tmod 40) + 40).tmod 40 ∧ ((z.tmod 40) + 40).tmod 40 < 40 ∧ -40 < z.tmod 40 ∧ z.tmod 40 < 40 := by
  have h1 : -40 < z.tmod 40 := Int.lt_tmod_of_pos z (by omega)
  have h2 : z.tmod 40 < 40 := Int.tmod_lt_of_pos z (by omega)
  refine ⟨Int.tmod_nonneg _ (by omega), Int.tmod_lt_of_pos _ (by omega), h1, h2⟩

set_option maxHeartbeats 1000000 in
theorem crcMany_walk (a0 : Option Addr) (len0 cap0 : Nat) (z0 : List Int) (a1 : Option Addr) (len1 cap1 : Nat) (z1 : List Int) (w : World) (w0 : IsRow .u8 w a0 len0 cap0 z0) (w1 : IsRow .i64 w a1 len1 cap1 z1) :
    Calls Try.prog 7 #[.slice a0 len0 cap0, .slice a1 len1 cap1] w fun e w' => e = .returned (.bool true) ∧ Below w.heap.size w w' := by
  obtain ⟨hc0, hm0, hn0, l0, hl0, hs0⟩ := w0.bytes
  obtain ⟨hc1, hm1, hn1, hl1, hw1, hs1⟩ := w1.cells
  clear w0 w1
  unfold maxLen at hm0 hm1
  have HA := hide hn0
  have HL0 := hide hl0
  have HB := hide hn1
  have HL1 := hide hl1
  have HW1 := hide hw1
  clear hn0 hl0 hn1 hl1 hw1
  go_enter Try.func7, Try.ntmps7
  go_wp2_with fail
  refine (begun_any _).mono ?_
  rintro e w1 ⟨rfl, hb1⟩
  have hsa := hs0.below hb1
  have hsb := hs1.below hb1
  clear hs0 hs1
  go_upto_if 16 with fail
  go_cut [0] (fun s0 wx => ∃ n : Nat, s0 = .slice a0 n cap0 ∧ n ≤ 300 ∧ n ≤ cap0 ∧ wx = w1 ∧ ∃ x, Sees w1 w.heap.size a0 n (bvs x))
  case first =>
    by_cases h100 : 300 < len0
    · go_wp2
      go_meet
      exact ⟨300, rfl, by omega, by omega, rfl, l0.take 300, by rw [← bvs_take]; exact hsa.upTo (by omega)⟩
    · go_wp2
      go_meet
      exact ⟨len0, rfl, by omega, by omega, rfl, l0, hsa⟩
  case rest =>
    obtain ⟨n, rfl, hn, hnc, rfl, x, hx⟩ := hcut
    clear hsa
    have h0 : Calls Try.prog 16 #[.slice none 0 0] wc fun e w' => e = .returned (.int .u32 (W (sum []))) ∧ wc = w' := sum_any none 0 0 [] wc 0 (Sees.nil_ _ _ _) (by decide)
    have H0 := hide h0
    clear h0
    go_wp2_with fail
    refine H0.out.mono ?_
    rintro e w' ⟨rfl, rfl⟩
    go_wp2_with fail
    go_loop [6, 7, 8] (fun s at_ i => ∃ K I : Nat, K ≤ n ∧ I ≤ K ∧ s = .int .u32 (W (sum (x.take K))) ∧ at_ = .int .i64 K ∧ i = .int .i64 I) (fun _ at_ _ => n - (intOf at_).toNat)
    case atStart => exact ⟨0, 0, by omega, by omega, rfl, rfl, rfl⟩
    case round =>
      obtain ⟨K, I, hK, hI, rfl, rfl, rfl⟩ := hrel
      by_cases hlt : K < n
      · go_upto_if 29 with fail
        go_cut [9] (fun s9 wx => ∃ N : Nat, s9 = .int .i64 N ∧ 1 ≤ N ∧ N ≤ 40 ∧ wx = wc)
        case first =>
          by_cases hI1 : I < len1
          · obtain ⟨b, off, u, rfl, hb, hu, hc⟩ := hsb.at_ hI1
            obtain ⟨z, hz, rfl⟩ := i64_at hu
            clear hu
            have hzb := bounds_i64 (HW1.out z (List.mem_of_getElem? hz))
            have hcb := cut_bounds z
            go_wp2
            go_meet
            have hnn : 0 ≤ 1 + z.tmod 40 % 40 := by omega
            exact ⟨(1 + z.tmod 40 % 40).toNat, by rw [Int.toNat_of_nonneg hnn], by omega, by omega, rfl⟩
          · go_wp2
            go_meet
            exact ⟨1, rfl, by omega, by omega, rfl⟩
        case rest =>
          obtain ⟨N, rfl, hN1, hN2, rfl⟩ := hcut
          have hfr := hx.from_ (k := K) (cap := cap0) (by omega) (by omega)
          rw [if_neg (by omega)] at hfr
          by_cases hT : K + N < n
          · have hT' : (K : Int) + (N : Int) < (n : Int) := by omega
            have hfu := hfr.upTo (k := N) (by omega)
            have hsum : sum (x.take (K + N)) = more (sum (x.take K)) ((x.drop K).take N) := by
              rw [List.take_add]
              exact more_append _ _ _
            have HS := hide hsum
            clear hsum
            have hc18 : Calls Try.prog 18 #[.int .u32 (W (sum (x.take K))), .slice (a0.map fun y => y.add K) N (cap0 - K)] wc
                fun e w' => e = .returned (.int .u32 (W (sum (x.take (K + N))))) ∧ wc = w' := by
              rw [HS.out]
              refine more_any _ _ _ _ _ _ w.heap.size ?_ (by unfold maxLen; omega)
              rw [← bvs_take]
              simpa [bvs, List.map_drop] using hfu
            have HC := hide hc18
            clear hc18 hfr hfu
            go_wp2_with fail
            refine HC.out.mono ?_
            rintro e w' ⟨rfl, rfl⟩
            go_wp2_with fail
            go_round
            case rel => exact ⟨K + N, I + 1, by omega, by omega, rfl, by go_num, by go_num⟩
            case measure => simp [intOf]; omega
          · have hT' : ¬ (K : Int) + (N : Int) < (n : Int) := by omega
            have hsum : sum (x.take n) = more (sum (x.take K)) ((x.drop K).take (n - K)) := by
              have : x.take n = x.take K ++ (x.drop K).take (n - K) := by
                rw [← List.take_add, show K + (n - K) = n from by omega]
              rw [this]
              exact more_append _ _ _
            have HS := hide hsum
            clear hsum
            have hc18 : Calls Try.prog 18 #[.int .u32 (W (sum (x.take K))), .slice (a0.map fun y => y.add K) (n - K) (cap0 - K)] wc
                fun e w' => e = .returned (.int .u32 (W (sum (x.take n)))) ∧ wc = w' := by
              rw [HS.out]
              refine more_any _ _ _ _ _ _ w.heap.size ?_ (by unfold maxLen; omega)
              have hl : x.length = n := by have := hx.1; rwa [bvs_length] at this
              rw [List.take_of_length_le (by rw [List.length_drop]; omega)]
              simpa [bvs, List.map_drop] using hfr
            have HC := hide hc18
            clear hc18 hfr
            go_wp2_with fail
            refine HC.out.mono ?_
            rintro e w' ⟨rfl, rfl⟩
            go_wp2_with fail
            go_round
            case rel => exact ⟨n, I + 1, by omega, by omega, rfl, by go_num, by go_num⟩
            case measure => simp [intOf]; omega
      · obtain rfl : K = n := by omega
        have hl : x.length = K := by have := hx.1; rwa [bvs_length] at this
        have htk : x.take K = x := List.take_of_length_le (by omega)
        rw [htk]
        clear htk hl
        go_wp2_with fail
        refine (sum_any _ _ _ _ _ _ hx (by unfold maxLen; omega)).mono ?_
        rintro e w' ⟨rfl, rfl⟩
        go_wp2_with fail
        go_ret
        exact ⟨by simp, hb1⟩
end Go.Proofs.Ythhglbocoogefaa
