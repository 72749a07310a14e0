/- The walk of the frame's SetRefs. -/
import Derived.Test.YtppolhpigclbpaaFrameH
set_option linter.unusedVariables false
namespace Go.Proofs.Ytppolhpigclbpaa
open Go.RowKit

theorem none_setrefs (w : World) (A : Option Addr) (n c : Nat) (hn : 0 < n) : Calls Try.prog 27 #[.pointer none, .slice A n c] w fun e w' => e = .returned (.tuple #[]) ∧ w = w' := by
  have C := hide (none_each w)
  have hn1 : ¬ ((0 : Int) = (n : Int)) := by omega
  have d1 : ((0 : Int) != (n : Int)) = true := by simp; omega
  go_enter Try.func27, Try.ntmps27
  go_wp2_with (go_at_call 47; (with_reducible refine C.out.mono ?_); rintro e w' ⟨rfl, rfl⟩)
  exact bodyPost_ret (results_none rfl _ _ _) rfl ⟨rfl, rfl⟩
section
variable {w w' w2 : World} {B p room : Nat} {F : Nat → Prop} {me pc : Int} {ls st : List V}
theorem setrefs_no (h : FrameIn w B F p me pc room ls st) (A : Option Addr) (n c : Nat) (hn : (nums (ls ++ st)).length ≠ n) : Calls Try.prog 27 #[.pointer (some ⟨p, 0, none⟩), .slice A n c] w fun e w' => e = .returned (.tuple #[]) ∧ Keeps (fun _ => False) w w' := by
  obtain ⟨g1, g2, _, _, _, hcall⟩ := each_in h
  have C := hide hcall
  clear h hcall
  generalize (nums (ls ++ st)).length = m at *
  have d1 : ((m : Int) != (n : Int)) = true := by simp; omega
  go_enter Try.func27, Try.ntmps27
  go_wp2_with (go_at_call 47; (with_reducible refine C.out.mono ?_); rintro e w1 ⟨v, rfl, hown, hk1⟩; obtain ⟨A7, c7, rfl, hs7⟩ := Sees.of_own hown; have HK1 := hide hk1; clear hown hk1 hs7)
  exact bodyPost_ret (results_none rfl _ _ _) rfl ⟨rfl, HK1.out⟩
theorem turn_store {wr : World} {n g i : Nat} {lv : Value} {l : List V} {y : Int} (hg : lv.ownBlock = some g) (ho : wr.ownsRow B 39 2 lv n (vCells l)) (hl : l[i]? = some (true, y)) (x : Int) :
    (∃ u, wr.cell? ⟨g, i * 2 + 1, none⟩ = some u) ∧ wr.frozen? ⟨g, i * 2 + 1, none⟩ = false ∧ (wr.setCell ⟨g, i * 2 + 1, none⟩ (.int .i32 x)).ownsRow B 39 2 lv n (vCells (l.set i (true, x))) := by
  have hi := (List.getElem?_eq_some_iff.1 hl).1
  have hcl := vCells_length l
  have hn : l.length = n := by have := ho.1; omega
  obtain ⟨g', c, rfl, _⟩ := ho.form (by omega)
  cases hg
  refine ⟨⟨_, (ho.cellAt (i * 2 + 1) (by omega)).trans (List.getElem?_eq_getElem (by omega))⟩, ho.frozenAt _, ?_⟩
  have := (ho.stored (i * 2 + 1) (.int .i32 x)).1
  rw [show ((true, x) : V) = (((true, y) : V).1, x) from rfl, vCells_set2 l i (true, y) x hl]
  exact this
/-- What the turning holds at each round's head. -/
def TurnRel (w1 : World) (B : Nat) (F : Nat → Prop) (p : Nat) (me pc : Int) (room : Nat) (lv sv : Value) (ls st : List V) (ys : List Int) (u16 : Value) (wr : World) : Prop :=
  ∃ k : Nat, u16 = .int .i64 (k : Int) ∧ k ≤ ys.length ∧ Keeps F w1 wr ∧ wr.heap[p]? = some (Go.Obj.cells #[.int .i64 me, .int .i64 pc, .int .i64 (room : Int), lv, sv] 70 (0, 0)) ∧
    wr.ownsRow B 39 2 lv ls.length (vCells (turn ls (ys.take k))) ∧ wr.ownsRow B 39 2 sv st.length (vCells (turn st ((ys.take k).drop (nums ls).length)))
theorem TurnRel.step {w1 wr : World} {lv sv : Value} {ys : List Int} {k g1 g2 : Nat} {y : Int} (hk : Keeps F w1 wr) (hp : wr.heap[p]? = some (Go.Obj.cells #[.int .i64 me, .int .i64 pc, .int .i64 (room : Int), lv, sv] 70 (0, 0)))
    (h2 : wr.ownsRow B 39 2 lv ls.length (vCells (turn ls (ys.take k)))) (h3 : wr.ownsRow B 39 2 sv st.length (vCells (turn st ((ys.take k).drop (nums ls).length))))
    (h4 : ∀ g, lv.ownBlock = some g → F g) (h5 : ∀ g, sv.ownBlock = some g → F g) (h6 : ∀ g, lv.ownBlock = some g → sv.ownBlock ≠ some g) (hg1 : 0 < ls.length → lv.ownBlock = some g1) (hg2 : 0 < st.length → sv.ownBlock = some g2)
    (hy : ys[k]? = some y) (hm : ys.length = (nums (ls ++ st)).length) : ∃ g i, (ptrs g1 0 ls ++ ptrs g2 0 st)[k]? = some (.pointer (some ⟨g, i * 2, none⟩)) ∧ (∃ u, wr.cell? ⟨g, i * 2 + 1, none⟩ = some u) ∧ wr.frozen? ⟨g, i * 2 + 1, none⟩ = false ∧
      TurnRel w1 B F p me pc room lv sv ls st ys (.int .i64 ((k : Int) + 1)) (wr.setCell ⟨g, i * 2 + 1, none⟩ (.int .i32 y)) := by
  have hkl := (List.getElem?_eq_some_iff.1 hy).1
  have htk : (ys.take k).length = k := by rw [List.length_take]; omega
  have hne : ∀ {v : Value} {n : Nat} {xs : List Value}, wr.ownsRow B 39 2 v n xs → ∀ g, v.ownBlock = some g → g ≠ p := by
    intro v n xs ho g hg e
    obtain ⟨_, _, cur, hc⟩ := own_type3 ho hg
    subst e
    rw [hp] at hc; cases hc
  rw [nums_append, List.length_append] at hm
  rcases Nat.lt_or_ge k (nums ls).length with hlt | hge
  · have hn := List.getElem?_eq_getElem (show k < (nums (turn ls (ys.take k))).length by rw [turn_nums_length]; exact hlt)
    have hpos := pos_at _ k hn
    rw [turn_pos] at hpos
    have hl : 0 < ls.length := by
      have := (List.getElem?_eq_some_iff.1 hpos).1
      rw [turn_length] at this
      omega
    obtain ⟨s1, s2, s3⟩ := turn_store (hg1 hl) h2 hpos y
    refine ⟨g1, posR ls k, ?_, s1, s2, k + 1, by go_num, by omega, hk.setCell (fun _ => h4 g1 (hg1 hl)) _, (Below.heap_setCell _ _ _ _ (fun e => hne h2 g1 (hg1 hl) e.symm)).trans hp, ?_, ?_⟩
    · rw [List.getElem?_append_left (by rw [ptrs_length]; exact hlt), ptrs_pos g1 ls 0 k hlt, Nat.zero_add]
    · rw [take_snoc ys k y hy, turn_step ls _ y (by rw [htk]; exact hlt), htk]
      exact s3
    · rw [take_snoc ys k y hy, List.drop_eq_nil_of_le (by rw [List.length_append, htk]; simp; omega)]
      rw [List.drop_eq_nil_of_le (by rw [htk]; omega)] at h3
      exact ownsRow_kept h3 fun g hg => Below.heap_setCell _ _ _ _ (fun e => by
        have e' : g = g1 := e
        subst e'
        exact h6 g (hg1 hl) hg)
  · have hn := List.getElem?_eq_getElem (show k - (nums ls).length < (nums (turn st ((ys.take k).drop (nums ls).length))).length by rw [turn_nums_length]; omega)
    have hpos := pos_at _ _ hn
    rw [turn_pos] at hpos
    have hl : 0 < st.length := by
      have := (List.getElem?_eq_some_iff.1 hpos).1
      rw [turn_length] at this
      omega
    obtain ⟨s1, s2, s3⟩ := turn_store (hg2 hl) h3 hpos y
    refine ⟨g2, posR st (k - (nums ls).length), ?_, s1, s2, k + 1, by go_num, by omega, hk.setCell (fun _ => h5 g2 (hg2 hl)) _, (Below.heap_setCell _ _ _ _ (fun e => hne h3 g2 (hg2 hl) e.symm)).trans hp, ?_, ?_⟩
    · rw [List.getElem?_append_right (by rw [ptrs_length]; exact hge), ptrs_length, ptrs_pos g2 st 0 _ (by omega), Nat.zero_add]
    · rw [take_snoc ys k y hy, turn_more ls _ _ (by rw [htk]; exact hge)]
      exact ownsRow_kept h2 fun g hg => Below.heap_setCell _ _ _ _ (fun e => by
        have e' : g = g2 := e
        subst e'
        exact h6 g hg (hg2 hl))
    · have hdl : ((ys.take k).drop (nums ls).length).length = k - (nums ls).length := by rw [List.length_drop, htk]
      rw [take_snoc ys k y hy, List.drop_append_of_le_length (by rw [htk]; exact hge), turn_step st _ y (by rw [hdl]; omega), hdl]
      exact s3
theorem Sees.off {w w' : World} {G : Nat → Prop} {C n : Nat} {A : Option Addr} {xs : List Value} (h : Sees w C A n xs) (hC : C ≤ w.heap.size) (hk : Keeps G w w') (hA : ∀ b o, A = some ⟨b, o, none⟩ → ¬ G b) : Sees w' C A n xs := by
  refine ⟨h.1, fun hn => ?_⟩
  obtain ⟨b, off, rfl, hb, hc⟩ := h.2 hn
  exact ⟨b, off, rfl, hb, fun j u hu => (hk.cell (q := ⟨b, off + j, none⟩) (Nat.lt_of_lt_of_le hb hC) (hA b off rfl)).trans (hc j u hu)⟩
set_option maxHeartbeats 1000000 in
theorem setrefs_yes (h : FrameIn w B F p me pc room ls st) {C n c : Nat} {A : Option Addr} {xs : List Int} (hs : Sees w C A n (xs.map (Value.int .i64))) (hC : C ≤ w.heap.size) (hA : ∀ b o, A = some ⟨b, o, none⟩ → ¬ F b) (hn : (nums (ls ++ st)).length = n) (hx : ∀ x ∈ xs, -1 ≤ x ∧ x ≤ 1000000) :
    Calls Try.prog 27 #[.pointer (some ⟨p, 0, none⟩), .slice A n c] w fun e w' => e = .returned (.tuple #[]) ∧ FrameIn w' B F p me pc room (turn ls (xs.map (· + 1))) (turn st ((xs.map (· + 1)).drop (nums ls).length)) ∧ Keeps F w w' := by
  obtain ⟨g1, g2, _, _, hgg, hcall⟩ := each_in h
  obtain ⟨lv, sv, r1, r2, r3, r4, r5, r6⟩ := h.rows
  obtain ⟨hg1, hg2⟩ := hgg lv sv r1
  have hp := (h.low p h.here).2
  have hxl : xs.length = n := by have := hs.1; simpa using this
  have h32 : n ≤ 32 := by rw [← hn]; have := nums_le (ls ++ st); have := h.loc; have := h.stk; have := h.most; rw [List.length_append] at *; omega
  have C1 := hide hcall
  have HW := hide h
  have R1 := hide r1
  have R2 := hide r2
  have R3 := hide r3
  have R4 := hide r4
  have R5 := hide r5
  have R6 := hide r6
  have HG1 := hide hg1
  have HG2 := hide hg2
  have HS := hide hs
  have HA := hide hA
  have HX := hide hx
  have HXL := hide hxl
  have HN := hide hn
  have HP := hide hp
  rw [hn] at C1
  have h32' : (n : Int) ≤ 32 := by omega
  clear h hcall hgg r1 r2 r3 r4 r5 r6 hg1 hg2 hs hA hx hxl hn hp
  generalize hK : ptrs g1 0 ls ++ ptrs g2 0 st = K at *
  have HK := hide hK
  clear hK
  go_enter Try.func27, Try.ntmps27
  go_upto_block 0 with (go_at_call 47; (with_reducible refine C1.out.mono ?_); rintro e w1 ⟨v, rfl, hown, hk1⟩; obtain ⟨A7, c7, rfl, hs7⟩ := Sees.of_own hown; have HK1 := hide hk1; have HS7 := hide hs7; have HB7 := hide (ownBlock_ge hown); clear hown hk1 hs7)
  go_wp2
  go_loopw [16] (fun u16 wr => TurnRel w1 B F p me pc room lv sv ls st (xs.map (· + 1)) u16 wr) (fun u16 _ => n - (intOf u16).toNat)
  case atStart =>
    refine ⟨0, rfl, by omega, Keeps.refl _ _, (HK1.out.block p HP.out id).trans R1.out, ?_, ?_⟩
    · rw [List.take_zero, turn_nil]
      exact ownsRow_kept R2.out fun g hg => HK1.out.block g (own_type3 R2.out hg).2.1 id
    · rw [List.take_zero, List.drop_nil, turn_nil]
      exact ownsRow_kept R3.out fun g hg => HK1.out.block g (own_type3 R3.out hg).2.1 id
  case round =>
    obtain ⟨k, rfl, hk, hkw, q1, q2, q3⟩ := hrel
    have hFw : ∀ j, F j → j < w.heap.size := fun j hj => (HW.out.low j hj).2
    by_cases hlt : k < n
    · obtain ⟨x, hx⟩ : ∃ x, xs[k]? = some x := ⟨_, List.getElem?_eq_getElem (by have := HXL.out; omega)⟩
      have hy : (xs.map (· + 1))[k]? = some (x + 1) := by rw [List.getElem?_map, hx]; rfl
      obtain ⟨g, i, hp, ⟨u, hu⟩, hz, hstep⟩ := TurnRel.step hkw q1 q2 q3 R4.out R5.out R6.out HG1.out HG2.out hy (by rw [List.length_map, HXL.out, HN.out])
      rw [HK.out] at hp
      obtain ⟨b, off, u7, rfl, hb, hu7, hcell⟩ := (HS7.out.off (Nat.le_refl _) hkw (fun b o e hf => by have := HB7.out b (by rw [e]; rfl); have := hFw b hf; omega)).at_ hlt
      rw [hp] at hu7
      cases hu7
      obtain ⟨b2, off2, u2, rfl, hb2, hu2, hcell2⟩ := ((HS.out.off hC (HK1.out.more (G := F) fun _ _ => False.elim) HA.out).off (Nat.le_trans hC HK1.out.size) hkw HA.out).at_ hlt
      rw [List.getElem?_map, hx] at hu2
      cases hu2
      have hxb := HX.out x (List.mem_of_getElem? hx)
      obtain ⟨hxb1, hxb2⟩ := hxb
      have hlt' : (k : Int) < (n : Int) := by omega
      have HSTEP := hide hstep
      clear hkw q1 q2 q3 hx hy hp hstep hFw
      go_wp2
      go_roundw
      case rel => exact HSTEP.out
      case measure => simp [intOf]; omega
    · obtain rfl : k = n := by have := HXL.out; rw [List.length_map] at hk; omega
      have hta : (xs.map (· + 1)).take k = xs.map (· + 1) := List.take_of_length_le (by rw [List.length_map]; have := HXL.out; omega)
      rw [hta] at q2 q3
      have hK3 := (HK1.out.more (G := F) fun _ _ => False.elim).trans hkw
      have HF : FrameIn wr B F p me pc room (turn ls (xs.map (· + 1))) (turn st ((xs.map (· + 1)).drop (nums ls).length)) := ⟨fun j hj => ⟨(HW.out.low j hj).1, Nat.lt_of_lt_of_le (HW.out.low j hj).2 hK3.size⟩, HW.out.here, by rw [turn_length]; exact HW.out.loc, by rw [turn_length]; exact HW.out.stk, HW.out.most, lv, sv, q1, by rw [turn_length]; exact q2, by rw [turn_length]; exact q3, R4.out, R5.out, R6.out⟩
      have HF2 := hide HF
      have HK3 := hide hK3
      clear HF hK3 q1 q2 q3 hkw
      go_wp2
      go_end0
      exact ⟨rfl, HF2.out, HK3.out⟩
end
end Go.Proofs.Ytppolhpigclbpaa
