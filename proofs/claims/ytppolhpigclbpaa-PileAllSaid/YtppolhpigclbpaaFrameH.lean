/- The walk of the frame's Refs. -/
import Derived.Test.YtppolhpigclbpaaFrameG
set_option linter.unusedVariables false
namespace Go.Proofs.Ytppolhpigclbpaa
open Go.RowKit

theorem Try.info3 : (Try.prog.info? 3).map (fun i => (i.zero, i.size, i.bytes)) = some (some (.int .i64 0), 1, 8) := by kernel_rfl
theorem Keeps.cell {G : Nat → Prop} {w w' : World} (hk : Keeps G w w') {q : Addr} (hb : q.block < w.heap.size) (hG : ¬ G q.block) : w'.cell? q = w.cell? q := World.cell?_of_block (hk.block q.block hb hG)
/-- The places and the numbers, one by one. -/
theorem comb {w : World} {g1 g2 : Nat} {ls st : List V} (h1 : 0 < ls.length → ∀ (i : Nat) (v : V), ls[i]? = some v → w.cell? ⟨g1, i * 2 + 1, none⟩ = some (.int .i32 v.2)) (h2 : 0 < st.length → ∀ (i : Nat) (v : V), st[i]? = some v → w.cell? ⟨g2, i * 2 + 1, none⟩ = some (.int .i32 v.2))
    {k : Nat} {n : Int} (hn : (nums (ls ++ st))[k]? = some n) : ∃ g i, (ptrs g1 0 ls ++ ptrs g2 0 st)[k]? = some (.pointer (some ⟨g, i * 2, none⟩)) ∧ w.cell? ⟨g, i * 2 + 1, none⟩ = some (.int .i32 n) := by
  rw [nums_append] at hn
  rcases Nat.lt_or_ge k (nums ls).length with hk | hk
  · rw [List.getElem?_append_left hk] at hn
    have hp := pos_at ls k hn
    have hl : 0 < ls.length := by have := (List.getElem?_eq_some_iff.1 hp).1; omega
    refine ⟨g1, posR ls k, ?_, h1 hl _ _ hp⟩
    rw [List.getElem?_append_left (by rw [ptrs_length]; exact hk), ptrs_pos g1 ls 0 k hk, Nat.zero_add]
  · rw [List.getElem?_append_right hk] at hn
    have hp := pos_at st _ hn
    have hl : 0 < st.length := by have := (List.getElem?_eq_some_iff.1 hp).1; omega
    refine ⟨g2, posR st (k - (nums ls).length), ?_, h2 hl _ _ hp⟩
    rw [List.getElem?_append_right (by rw [ptrs_length]; exact hk), ptrs_length, ptrs_pos g2 st 0 _ (List.getElem?_eq_some_iff.1 hn).1, Nat.zero_add]
def RefsRel (w1 : World) (ns : List Int) (u3 u9 : Value) (wr : World) : Prop :=
  ∃ k : Nat, u9 = .int .i64 (k : Int) ∧ k ≤ ns.length ∧ Keeps (fun _ => False) w1 wr ∧ wr.ownsRow w1.heap.size 3 1 u3 k ((ns.take k).map fun n => Value.int .i64 (n - 1))
theorem RefsRel.next {w1 wr : World} {ns : List Int} {u3 : Value} {k : Nat} {n : Int} (hn : ns[k]? = some n) (hk : Keeps (fun _ => False) w1 wr) (ho : wr.ownsRow w1.heap.size 3 1 u3 (k + 1) (((ns.take k).map fun n => Value.int .i64 (n - 1)) ++ [.int .i64 (n - 1)])) : RefsRel w1 ns u3 (.int .i64 ((k : Int) + 1)) wr := by
  have hi := (List.getElem?_eq_some_iff.1 hn).1
  refine ⟨k + 1, by go_num, by omega, hk, ?_⟩
  rw [take_snoc ns k n hn, List.map_append]
  exact ho
theorem none_refs (w : World) : Calls Try.prog 26 #[.pointer none] w fun e w' => e = .returned (.slice none 0 0) ∧ w = w' := by
  have C := hide (none_each w)
  go_enter Try.func26, Try.ntmps26
  go_wp2_with (go_at_call 47; (with_reducible refine C.out.mono ?_); rintro e w' ⟨rfl, rfl⟩)
  go_loop [3, 9] (fun u3 u9 => u3 = .slice none 0 0 ∧ u9 = .int .i64 0) (fun _ _ => 0)
  case atStart => exact ⟨rfl, rfl⟩
  case round =>
    obtain ⟨rfl, rfl⟩ := hrel
    go_wp2
    go_ret
    exact ⟨rfl, rfl⟩
theorem nums_mem {l : List V} {n : Int} (h : n ∈ nums l) : ∃ v ∈ l, v.2 = n := by
  induction l with
  | nil => cases h
  | cons v l ih =>
    simp only [nums] at h
    split at h
    · rcases List.mem_cons.1 h with rfl | h
      · exact ⟨v, List.mem_cons_self, rfl⟩
      · obtain ⟨u, hu, e⟩ := ih h
        exact ⟨u, List.mem_cons_of_mem _ hu, e⟩
    · obtain ⟨u, hu, e⟩ := ih h
      exact ⟨u, List.mem_cons_of_mem _ hu, e⟩
theorem nums_le (l : List V) : (nums l).length ≤ l.length := by
  rw [← ptrs_length 0 l 0]
  exact ptrs_le 0 l 0
section
variable {w w' w2 : World} {B p room : Nat} {F : Nat → Prop} {me pc : Int} {ls st : List V}
set_option maxHeartbeats 1000000 in
theorem refs_in (h : FrameIn w B F p me pc room ls st) (hI : ∀ v ∈ ls ++ st, inI32 v.2) : Calls Try.prog 26 #[.pointer (some ⟨p, 0, none⟩)] w fun e w' =>
    ∃ v, e = .returned v ∧ w'.ownsRow w.heap.size 3 1 v (nums (ls ++ st)).length ((nums (ls ++ st)).map fun n => Value.int .i64 (n - 1)) ∧ Keeps (fun _ => False) w w' := by
  obtain ⟨g1, g2, k1, k2, _, hcall⟩ := each_in h
  have hlen : (nums (ls ++ st)).length ≤ 32 := by have := nums_le (ls ++ st); have := h.loc; have := h.stk; have := h.most; rw [List.length_append] at *; omega
  have hcomb := fun (k : Nat) (n : Int) (hn : (nums (ls ++ st))[k]? = some n) => comb (fun h0 => (k1 h0).2) (fun h0 => (k2 h0).2) hn
  have hnI : ∀ n ∈ nums (ls ++ st), inI32 n := fun n hn => by obtain ⟨v, hv, rfl⟩ := nums_mem hn; exact hI v hv
  have C := hide hcall
  have HC := hide hcomb
  have HNI := hide hnI
  clear h hI k1 k2 hcall hcomb hnI
  generalize nums (ls ++ st) = ns at *
  generalize hK : ptrs g1 0 ls ++ ptrs g2 0 st = K at *
  obtain ⟨i0, hi0, hz0, hz1, hz2⟩ := info_parts Try.info3
  have HI := hide hi0
  have HZ0 := hide hz0
  have HZ1 := hide hz1
  have HZ2 := hide hz2
  clear hi0 hz0 hz1 hz2 hK
  generalize hm : ns.length = m at *
  have HM := hide hm
  have hm32 : (m : Int) ≤ 32 := by omega
  clear hm
  go_enter Try.func26, Try.ntmps26
  go_upto_block 0 with (go_at_call 47; (with_reducible refine C.out.mono ?_); rintro e w1 ⟨v, rfl, hown, hk1⟩; obtain ⟨A7, c7, rfl, hs7⟩ := Sees.of_own hown; have HK1 := hide hk1; have HS7 := hide hs7; clear hown hk1 hs7)
  go_wp2
  go_loopw [3, 9] (fun u3 u9 wr => RefsRel w1 ns u3 u9 wr) (fun _ u9 _ => m - (intOf u9).toNat)
  case atStart => exact ⟨0, rfl, by omega, Keeps.refl _ _, World.ownsRow_nil _ _ _ _⟩
  case round =>
    obtain ⟨k, rfl, hk, hkw, ho⟩ := hrel
    by_cases hlt : k < m
    · obtain ⟨n, hn⟩ : ∃ n, ns[k]? = some n := ⟨_, List.getElem?_eq_getElem (by have := HM.out; omega)⟩
      obtain ⟨g, i, hp, hc⟩ := HC.out k n hn
      obtain ⟨b, off, u, rfl, hb, hu, hcell⟩ := (HS7.out.keep (w' := wr) fun q hq => hkw.cell hq id).at_ hlt
      rw [hp] at hu
      cases hu
      have hgb : g < w.heap.size := by
        have := cell_lt hc
        exact this
      have hc2 : wr.cell? ⟨g, i * 2 + 1, none⟩ = some (.int .i32 n) := ((HK1.out.trans hkw).cell hgb id).trans hc
      have hnb := HNI.out n (List.mem_of_getElem? hn)
      unfold inI32 at hnb
      have hlt' : (k : Int) < (m : Int) := by omega
      have hka := hkw.alloc (.cells #[.int .i64 (n - 1)] 3)
      have HO := hide (ho.alloc (.cells #[.int .i64 (n - 1)] 3))
      have HSN := hide (new_sees wr #[.int .i64 (n - 1)] 3)
      have HKA := hide hka
      have HSZ := hide hka.size
      have HOB := hide (ownBlock_ge ho)
      have HN := hide hn
      clear hkw ho hp hc hka hn
      go_wp2_with (at_builtin
                   refine wpList_append_sees _ rfl (.tmp 13) (.tmp 20) 30 rfl w1.heap.size 3 i0 _ 8 Try.underlying30 HI.out HZ0.out HZ1.out HZ2.out (by rfl) _ k _ (by rfl) HO.out (wr.heap.size + 1) _ 1 1 _ (by rfl) HSN.out (fun e => nomatch e) (by intro u hu; rcases List.mem_cons.1 hu with rfl | hu; exact rfl; exact (List.not_mem_nil hu).elim) (by unfold maxLen; omega) (by omega) HSZ.out ?_
                   intro v3 w3 hown3 hg3 hat3
                   have HO3 := hide hown3
                   have HK3 := hide (HKA.out.grown hg3 fun k hk hlt => by have := HOB.out k hk; omega)
                   clear hown3 hg3 hat3)
      go_roundw
      case rel => first | exact RefsRel.next HN.out HK3.out HO3.out | exact ⟨_, _, _, RefsRel.next HN.out HK3.out HO3.out, rfl, rfl, rfl⟩
      case measure => simp [intOf]; omega
    · obtain rfl : k = m := by have := HM.out; omega
      have HO := hide ho
      have HKW := hide hkw
      clear ho hkw
      go_wp2
      go_ret
      refine ⟨_, rfl, ?_, HK1.out.trans HKW.out⟩
      have := HO.out
      rw [List.take_of_length_le (by have := HM.out; omega)] at this
      exact ownsRow_less this HK1.out.size
end
end Go.Proofs.Ytppolhpigclbpaa
