/- The walk of the heap's Make where there is room: it lays one more object behind the others. -/
import Derived.Test.YtjjoelhemhnojaaHeapF
set_option linter.unusedVariables false
namespace Go.Proofs.Ytjjoelhemhnojaa
open Go.RowKit
open Hp

theorem one_ints (xs : List Int) : ∀ u ∈ xs.map (Value.int .i32), u.oneCell' = true := by
  intro u hu; obtain ⟨x, _, rfl⟩ := List.mem_map.1 hu; rfl
theorem one_bools (xs : List Bool) : ∀ u ∈ xs.map Value.bool, u.oneCell' = true := by
  intro u hu; obtain ⟨x, _, rfl⟩ := List.mem_map.1 hu; rfl
theorem parts_make {w : World} {B p N L n : Nat} {wv sv : Value} {ws ss : List Value} (P : Parts w B p N wv sv L L ws ss) (k : Int) (hB : B ≤ w.heap.size) (hyes : mayO k n = true) (hroom : n + 2 + L ≤ N) (hN : N ≤ 1048576) :
    Calls Try.prog 17 #[.pointer (some ⟨p, 0, none⟩), .int .i64 k, .int .i64 (n : Int)] w fun e w' => e = .returned (.tuple #[.int .i64 (L : Int), .bool true]) ∧
      ∃ v2 s2, Parts w' B p N v2 s2 (L + 2 + n) (L + 1 + (n + 1)) (ws ++ [.int .i32 k, .int .i32 (n : Int)] ++ List.replicate n (.int .i32 0)) (ss ++ [.bool true] ++ List.replicate (n + 1) (.bool false)) ∧
        Keeps (fun j => j = p ∨ wv.ownBlock = some j ∨ sv.ownBlock = some j) w w' ∧ (∀ g, v2.ownBlock = some g → wv.ownBlock = some g ∨ w.heap.size ≤ g) ∧ (∀ g, s2.ownBlock = some g → sv.ownBlock = some g ∨ w.heap.size ≤ g) := by
  have hm := fun W => may_any k n W
  rw [hyes] at hm
  have C := fun W => hide (hm W)
  have hk : 0 ≤ k ∧ k ≤ 10000 ∧ n ≤ 1000 := by
    simp [mayO] at hyes; omega
  obtain ⟨hk1, hk2, hn1⟩ := hk
  clear hm hyes
  obtain ⟨i0, hi0, hz0, hz1, hz2⟩ := info_parts Try.info21
  obtain ⟨i1, hj0, hy0, hy1, hy2⟩ := info_parts Try.info4
  have HI := hide hi0
  have HZ0 := hide hz0
  have HZ1 := hide hz1
  have HZ2 := hide hz2
  have HJ := hide hj0
  have HY0 := hide hy0
  have HY1 := hide hy1
  have HY2 := hide hy2
  clear hi0 hz0 hz1 hz2 hj0 hy0 hy1 hy2
  obtain ⟨A, c, rfl, hA⟩ := Sees.of_own P.words
  obtain ⟨A2, c2, rfl, hA2⟩ := Sees.of_own P.marks
  obtain ⟨h0, h1, h2, hz⟩ := P.cells
  have HP := hide P
  clear hA hA2 P
  go_enter Try.func17, Try.ntmps17
  go_wp2
  go_quiet ((go_at_call 37; exact quiet_l (C _).out))
  have hK0 : Keeps (fun _ => False) w (w.drewN nq) := (Keeps.refl _ w).drewN nq
  have hK1 := hK0.alloc (.cells #[.int .i32 k, .int .i32 (n : Int)] 21)
  have hP1 := HP.out.none_ hK1
  have hsz1 := hK1.size
  have HP1 := hide hP1
  have HS1 := hide (new_sees (w.drewN nq) #[.int .i32 k, .int .i32 (n : Int)] 21)
  have HK1 := hide hK1
  clear hP1 hK1 hK0
  go_wp2_with (first
    | (at_builtin
       refine wpList_append_sees _ rfl (.tmp 41) (.tmp 46) 31 rfl B 21 i0 _ 4 Try.underlying31 HI.out HZ0.out HZ1.out HZ2.out rfl _ L _ rfl HP1.out.words (w.heap.size + 1) _ 2 2 _ rfl HS1.out (fun e => nomatch e) (by intro u hu; rcases List.mem_cons.1 hu with rfl | hu; exact rfl; rcases List.mem_cons.1 hu with rfl | hu; exact rfl; exact (List.not_mem_nil hu).elim) (by unfold maxLen; omega) (by omega) (by omega) ?_
       intro v2 w2 hown2 hg2 hat2
       have hsz2 := hg2.size
       have hw2 : B ≤ w2.heap.size := by omega
       have HO2 := hide hown2
       have HG2 := hide hg2
       have HA2 := hide hat2
       clear hown2 hg2 hat2)
    | (at_builtin
       refine wpList_append_zeros _ rfl (.tmp 47) (.tmp 48) 31 3 rfl B 21 i0 _ 4 Try.underlying31 Try.underlying3 HI.out HZ0.out HZ1.out HZ2.out rfl rfl v2 (L + 2) _ rfl HO2.out (by omega) n rfl (by unfold maxLen; omega) (by omega) (by omega) hw2 ?_
       intro v3 w3 hown3 hg3 hat3
       obtain ⟨g3, c3, rfl, _⟩ := hown3.form (by omega)
       have hK3 := Parts.keep_two HK1.out HG2.out HA2.out hg3
       obtain ⟨hc31, hc32, hz3, hP4⟩ := HP.out.store1 hK3 hown3
       have hV3 := Parts.at_two HK1.out.size HG2.out.size HA2.out hat3
       obtain ⟨hc40, hc41, hc42, hz4⟩ := hP4.cells
       have HK3 := hide hK3
       have HV3 := hide hV3
       have hsz3 := hg3.size
       have hK5 : Keeps (fun _ => False) (w3.setCell ⟨p, 1, none⟩ (.slice (some ⟨g3, 0, none⟩) (L + 2 + n) c3)) ((w3.setCell ⟨p, 1, none⟩ (.slice (some ⟨g3, 0, none⟩) (L + 2 + n) c3)).alloc (.cells #[.bool true] 4)) := (Keeps.refl _ _).alloc _
       have HK5 := hide hK5
       have HP4 := hide hP4
       have hP5 := hP4.none_ hK5
       have HP5 := hide hP5
       have hsz4 : (w3.setCell ⟨p, 1, none⟩ (.slice (some ⟨g3, 0, none⟩) (L + 2 + n) c3)).heap.size = w3.heap.size := by simp [World.setCell]
       have hsz5 : B ≤ ((w3.setCell ⟨p, 1, none⟩ (.slice (some ⟨g3, 0, none⟩) (L + 2 + n) c3)).alloc (.cells #[.bool true] 4)).heap.size := by have := hK5.size; omega
       have hsee5 := new_sees (w3.setCell ⟨p, 1, none⟩ (.slice (some ⟨g3, 0, none⟩) (L + 2 + n) c3)) #[.bool true] 4
       rw [hsz4] at hsee5
       have HS5 := hide hsee5
       have HZ4 := hide hsz4
       clear hK3 hP4 hV3 hown3 hg3 hat3 hK5 hP5 hsz4 hsee5)
    | (at_builtin
       refine wpList_append_sees _ rfl (.tmp 56) (.tmp 57) 64 rfl B 4 i1 _ 1 Try.underlying64 HJ.out HY0.out HY1.out HY2.out rfl _ L _ rfl HP5.out.marks (w3.heap.size + 1) _ 1 1 _ rfl HS5.out (fun e => nomatch e) (by intro u hu; rcases List.mem_cons.1 hu with rfl | hu; exact rfl; exact (List.not_mem_nil hu).elim) (by unfold maxLen; omega) (by omega) hsz5 ?_
       intro v6 w6 hown6 hg6 hat6
       have hw6 : B ≤ w6.heap.size := by have := hg6.size; omega
       have HO6 := hide hown6
       have HG6 := hide hg6
       have HA6 := hide hat6
       clear hown6 hg6 hat6)
    | (at_builtin
       refine wpList_append_zeros _ rfl (.tmp 58) (.tmp 60) 64 3 rfl B 4 i1 _ 1 Try.underlying64 Try.underlying3 HJ.out HY0.out HY1.out HY2.out rfl rfl v6 (L + 1) _ rfl HO6.out (by omega) (n + 1) rfl (by unfold maxLen; omega) (by omega) (by omega) hw6 ?_
       intro v7 w7 hown7 hg7 hat7
       obtain ⟨g7, c7, rfl, _⟩ := hown7.form (by omega)
       have hK7 := Parts.keep_two HK5.out HG6.out HA6.out hg7
       obtain ⟨hc72, hz7, hP8⟩ := HP4.out.store2 hK7 hown7
       have hV7 := Parts.at_two HK5.out.size HG6.out.size HA6.out hat7
       rw [HZ4.out] at hV7
       have HK7 := hide hK7
       have HV7 := hide hV7
       have HP8 := hide hP8
       clear hK7 hV7 hP8 hown7 hg7 hat7))
  go_ret2
  refine ⟨rfl, _, _, by simpa using HP8.out, ?_, HV3.out, fun g hg => ?_⟩
  · have k4 : Keeps (fun j => j = p ∨ (Value.slice A L c).ownBlock = some j ∨ (Value.slice A2 L c2).ownBlock = some j) w _ := (HK3.out.more fun j _ h => .inr (.inl h)).setCell (q := ⟨p, 1, none⟩) (fun _ => .inl rfl) (.slice (some ⟨g3, 0, none⟩) (L + 2 + n) c3)
    exact (k4.trans (HK7.out.more fun j _ h => .inr (.inr h))).setCell (fun _ => .inl rfl) _
  · rcases HV7.out g hg with h | h
    · exact .inl h
    · exact .inr (Nat.le_trans HK3.out.size h)
end Go.Proofs.Ytjjoelhemhnojaa
