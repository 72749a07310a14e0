/- The walk of CrcAll: whatever bytes come in, the call returns true and leaves what was there as it was. Conditions: none but the row's own reading of its arguments. -/
import Derived.Test.YthhglbocoogefaaCrcWalk
namespace Go.Proofs.Ythhglbocoogefaa
open Go.RowKit Crc

set_option maxHeartbeats 400000 in
theorem crcAll_walk (a0 : Option Addr) (len0 cap0 : Nat) (z0 : List Int) (a1 : Option Addr) (len1 cap1 : Nat) (z1 : List Int) (w : World) (w0 : IsRow .u8 w a0 len0 cap0 z0) (w1 : IsRow .u8 w a1 len1 cap1 z1) :
    Calls Try.prog 4 #[.slice a0 len0 cap0, .slice a1 len1 cap1] w fun e w' => e = .returned (.bool true) ∧ Below w.heap.size w w' := by
  obtain ⟨hc0, hm0, hn0, l0, hl0, hs0⟩ := w0.bytes
  obtain ⟨hc1, hm1, hn1, l1, hl1, hs1⟩ := w1.bytes
  clear w0 w1
  have HA := hide hn0
  have HB := hide hn1
  have HL0 := hide hl0
  have HL1 := hide hl1
  clear hn0 hn1 hl0 hl1
  obtain ⟨i0, hi0, hz0, hz1, hz2⟩ := info_parts Try.info5
  have HI := hide hi0
  have HZ0 := hide hz0
  have HZ1 := hide hz1
  have HZ2 := hide hz2
  clear hi0 hz0 hz1 hz2
  go_enter Try.func4, Try.ntmps4
  go_wp2_with fail
  refine (begun_any _).mono ?_
  rintro e w1 ⟨rfl, hb1⟩
  go_wp2_with fail
  refine (short_any a0 len0 cap0 300 _ _ _ (hs0.below hb1) hm0 hc0 (by omega)).mono ?_
  rintro e w' ⟨rfl, rfl⟩
  go_wp2_with fail
  refine (short_any a1 len1 cap1 300 _ _ _ (hs1.below hb1) hm1 hc1 (by omega)).mono ?_
  rintro e w' ⟨rfl, rfl⟩
  have hm3 := Nat.min_le_right len0 300
  have hm4 := Nat.min_le_right len1 300
  go_wp2_with (first
    | (at_builtin
       refine wpList_append_sees _ rfl (.const (.slice none 0 0)) (.tmp 14) 24 rfl w.heap.size 5 i0 _ 1 Try.underlying24 HI.out HZ0.out HZ1.out HZ2.out rfl (.slice none 0 0) 0 [] rfl ⟨rfl, .inl ⟨rfl, rfl⟩⟩ w.heap.size a0 (min len0 300) cap0 _ rfl ((hs0.below hb1).upTo (Nat.min_le_left _ _)) HA.out (fun u hu => bvs_one _ u (List.mem_of_mem_take hu)) (by unfold maxLen; omega) (by omega) hb1.size ?_
       intro v1 w2 hown2 hg2 hat2
       have hb2 : Below w.heap.size w w2 := hb1.grown hg2 hb1.size (by simp [Value.ownBlock]))
    | (at_builtin
       go_must (refine wpList_append_sees _ rfl (.tmp 15) (.tmp 16) 24 rfl w.heap.size 5 i0 _ 1 Try.underlying24 HI.out HZ0.out HZ1.out HZ2.out rfl v1 (0 + min len0 300) _ rfl hown2 w.heap.size a1 (min len1 300) cap1 _ rfl ((hs1.below hb2).upTo (Nat.min_le_left _ _)) HB.out (fun u hu => bvs_one _ u (List.mem_of_mem_take hu)) (by unfold maxLen; omega) (by omega) hb2.size ?_)
       intro v2 w3 hown3 hg3 hat3
       have hb3 : Below w.heap.size w w3 := hb2.grown hg3 hb2.size (ownBlock_ge hown2)))
  have ex : ∃ A2 n2 c2, v2 = .slice A2 n2 c2 ∧ n2 ≤ 600 ∧ Sees w3 w3.heap.size A2 n2 (bvs (l0.take (min len0 300) ++ l1.take (min len1 300))) := by
    obtain ⟨A2, c2, hv, hs⟩ := Sees.of_own hown3
    refine ⟨A2, _, c2, hv, by omega, ?_⟩
    rw [bvs_append, ← bvs_take, ← bvs_take]
    simpa using hs
  obtain ⟨A2, n2, c2, rfl, hn2, hs2⟩ := ex
  have hsa := ((hs0.below hb3).upTo (Nat.min_le_left len0 300))
  have hsb := ((hs1.below hb3).upTo (Nat.min_le_left len1 300))
  rw [bvs_take] at hsa hsb
  have hb : (W (more (sum (l0.take (min len0 300))) (l1.take (min len1 300))) == W (sum (l0.take (min len0 300) ++ l1.take (min len1 300)))) = true := by
    rw [show sum (l0.take (min len0 300) ++ l1.take (min len1 300)) = more (sum (l0.take (min len0 300))) (l1.take (min len1 300)) from more_append _ _ _]
    simp
  clear hown2 hown3 hat2 hat3 hg2 hg3 hs0 hs1
  refine (sum_any _ _ _ _ _ _ hs2 (by unfold maxLen; omega)).mono ?_
  rintro e w' ⟨rfl, rfl⟩
  go_wp2_with fail
  refine (refSum_any _ _ _ _ _ _ hs2 (by unfold maxLen; omega)).mono ?_
  rintro e w' ⟨rfl, rfl⟩
  go_wp2_with fail
  refine (sum_any _ _ _ _ _ _ hsa (by unfold maxLen; omega)).mono ?_
  rintro e w' ⟨rfl, rfl⟩
  go_wp2_with fail
  refine (more_any _ _ _ _ _ _ _ hsb (by unfold maxLen; omega)).mono ?_
  rintro e w' ⟨rfl, rfl⟩
  go_wp2_with fail
  refine (sum_any _ _ _ _ _ _ hs2 (by unfold maxLen; omega)).mono ?_
  rintro e w' ⟨rfl, rfl⟩
  go_wp2_with fail
  go_ret
  exact ⟨rfl, hb3⟩
end Go.Proofs.Ythhglbocoogefaa
