/- The walk of the frame's each: the places of all references, in their order. -/
import Derived.Test.YtppolhpigclbpaaFrameE
set_option linter.unusedVariables false
namespace Go.Proofs.Ytppolhpigclbpaa
open Go.RowKit

theorem Try.info73 : (Try.prog.info? 73).map (fun i => (i.zero, i.size, i.bytes)) = some (some (.pointer none), 1, 8) := by kernel_rfl
def ptrs (g : Nat) : Nat → List V → List Value
  | _, [] => []
  | i, v :: l => if v.1 then .pointer (some ⟨g, i * 2, none⟩) :: ptrs g (i + 1) l else ptrs g (i + 1) l
theorem ptrs_append (g : Nat) (l : List V) : ∀ (i : Nat) (v : V), ptrs g i (l ++ [v]) = ptrs g i l ++ (if v.1 then [.pointer (some ⟨g, (i + l.length) * 2, none⟩)] else []) := by
  induction l with
  | nil => intro i v; simp [ptrs]
  | cons u l ih =>
    intro i v
    simp only [List.cons_append, ptrs, ih, List.length_cons]
    rw [show i + 1 + l.length = i + (l.length + 1) from by omega]
    split <;> rfl
theorem ptrs_le (g : Nat) (l : List V) : ∀ (i : Nat), (ptrs g i l).length ≤ l.length := by
  induction l with
  | nil => intro i; exact Nat.le_refl _
  | cons u l ih => intro i; have := ih (i + 1); simp only [ptrs]; split <;> simp <;> omega
theorem take_snoc {α : Type} (l : List α) (k : Nat) (v : α) (h : l[k]? = some v) : l.take (k + 1) = l.take k ++ [v] := by
  obtain ⟨hk, hv⟩ := List.getElem?_eq_some_iff.1 h
  rw [List.take_succ_eq_append_getElem hk, hv]
theorem none_each (w : World) : Calls Try.prog 47 #[.pointer none] w fun e w' => e = .returned (.slice none 0 0) ∧ w = w' := by
  go_enter Try.func47, Try.ntmps47
  go_wp2_with fail
  go_ret
  exact ⟨rfl, rfl⟩
/-- What the outer loop holds. -/
def EachRel (w : World) (g1 g2 : Nat) (ls st : List V) (u3 u18 : Value) (wr : World) : Prop :=
  ∃ j : Nat, u18 = .int .i64 (j : Int) ∧ j ≤ 2 ∧ Keeps (fun _ => False) w wr ∧ wr.ownsRow w.heap.size 73 1 u3 ((if 0 < j then ptrs g1 0 ls else []) ++ (if 1 < j then ptrs g2 0 st else [])).length ((if 0 < j then ptrs g1 0 ls else []) ++ (if 1 < j then ptrs g2 0 st else []))
/-- What the inner loop holds. -/
def EachIn (w : World) (g : Nat) (acc : List Value) (vs : List V) (u3 u23 : Value) (wr : World) : Prop :=
  ∃ i : Nat, u23 = .int .i64 (i : Int) ∧ i ≤ vs.length ∧ Keeps (fun _ => False) w wr ∧ wr.ownsRow w.heap.size 73 1 u3 (acc ++ ptrs g 0 (vs.take i)).length (acc ++ ptrs g 0 (vs.take i))
theorem EachIn.no {w wr : World} {g : Nat} {acc : List Value} {vs : List V} {u3 : Value} {i : Nat} {v : V} (hv : vs[i]? = some v) (hr : v.1 = false) (hk : Keeps (fun _ => False) w wr) (ho : wr.ownsRow w.heap.size 73 1 u3 (acc ++ ptrs g 0 (vs.take i)).length (acc ++ ptrs g 0 (vs.take i))) : EachIn w g acc vs u3 (.int .i64 ((i : Int) + 1)) wr := by
  have hi := (List.getElem?_eq_some_iff.1 hv).1
  refine ⟨i + 1, by go_num, by omega, hk, ?_⟩
  rw [take_snoc vs i v hv, ptrs_append, hr]
  simpa using ho
theorem EachIn.yes {w wr : World} {g : Nat} {acc : List Value} {vs : List V} {u3 : Value} {i : Nat} {v : V} (hv : vs[i]? = some v) (hr : v.1 = true) (hk : Keeps (fun _ => False) w wr) (ho : wr.ownsRow w.heap.size 73 1 u3 ((acc ++ ptrs g 0 (vs.take i)).length + 1) (acc ++ ptrs g 0 (vs.take i) ++ [.pointer (some ⟨g, i * 2, none⟩)])) : EachIn w g acc vs u3 (.int .i64 ((i : Int) + 1)) wr := by
  have hi := (List.getElem?_eq_some_iff.1 hv).1
  refine ⟨i + 1, by go_num, by omega, hk, ?_⟩
  rw [take_snoc vs i v hv, ptrs_append, hr]
  have : 0 + (vs.take i).length = i := by rw [List.length_take]; omega
  rw [this]
  simpa [← List.append_assoc] using ho
theorem EachIn.le {w wr : World} {g : Nat} {acc : List Value} {vs : List V} (i : Nat) (ha : acc.length ≤ 16) (hv : vs.length ≤ 16) : (acc ++ ptrs g 0 (vs.take i)).length ≤ 32 := by
  have := ptrs_le g (vs.take i) 0
  rw [List.length_append]
  rw [List.length_take] at this
  omega
set_option maxHeartbeats 2000000 in
theorem each_any (w : World) (p n1 c1 n2 c2 g1 g2 C : Nat) (A1 A2 : Option Addr) (ls st : List V) (h3 : w.cell? ⟨p, 3, none⟩ = some (.slice A1 n1 c1)) (h4 : w.cell? ⟨p, 4, none⟩ = some (.slice A2 n2 c2)) (hC : C ≤ w.heap.size) (hs1 : SeesV w C A1 n1 ls) (hs2 : SeesV w C A2 n2 st)
    (hg1 : 0 < n1 → A1 = some ⟨g1, 0, none⟩) (hg2 : 0 < n2 → A2 = some ⟨g2, 0, none⟩) (hn1 : n1 ≤ 16) (hn2 : n2 ≤ 16) :
    Calls Try.prog 47 #[.pointer (some ⟨p, 0, none⟩)] w fun e w' => ∃ v, e = .returned v ∧ w'.ownsRow w.heap.size 73 1 v (ptrs g1 0 ls ++ ptrs g2 0 st).length (ptrs g1 0 ls ++ ptrs g2 0 st) ∧ Keeps (fun _ => False) w w' := by
  obtain ⟨i0, hi0, hz0, hz1, hz2⟩ := info_parts Try.info73
  have HI := hide hi0
  have HZ0 := hide hz0
  have HZ1 := hide hz1
  have HZ2 := hide hz2
  have hl1 := hs1.len
  have hl2 := hs2.len
  have HS1 := hide hs1
  have HS2 := hide hs2
  have HG1 := hide hg1
  have HG2 := hide hg2
  have HL1 := hide hl1
  have HL2 := hide hl2
  clear hi0 hz0 hz1 hz2 hs1 hs2 hg1 hg2 hl1 hl2
  have j0 : ∀ w, (Instr.index 85 (.agg #[.slice A1 n1 c1, .slice A2 n2 c2]) (.int .i64 0)).run Try.prog w = .ok (.slice A1 n1 c1) w := fun _ => by kernel_rfl
  have j1 : ∀ w, (Instr.index 85 (.agg #[.slice A1 n1 c1, .slice A2 n2 c2]) (.int .i64 1)).run Try.prog w = .ok (.slice A2 n2 c2) w := fun _ => by kernel_rfl
  have h0 : ∀ q, EachRel w g1 g2 ls st (.slice none 0 0) (.int .i64 0) (w.drewN q) := fun q => ⟨0, rfl, by omega, (Keeps.refl _ w).drewN q, World.ownsRow_nil _ _ _ _⟩
  have H0 := fun q => hide (h0 q)
  clear h0
  go_enter Try.func47, Try.ntmps47
  go_wp2
  go_quiet (fail)
  go_wp2
  go_loopw [3, 18] (fun u3 u18 wr => EachRel w g1 g2 ls st u3 u18 wr) (fun _ u18 _ => 2 - (intOf u18).toNat)
  case atStart => exact (H0 _).out
  case round =>
    clear H0
    obtain ⟨j, rfl, hj, hk, ho⟩ := hrel
    have hj3 : j = 0 ∨ j = 1 ∨ j = 2 := by omega
    obtain ⟨wo, rfl⟩ : ∃ wo : World, wo = wr := ⟨_, rfl⟩
    rcases hj3 with rfl | rfl | rfl
    · have h1 : EachIn w g1 [] ls u3 (.int .i64 0) wo := ⟨0, rfl, by omega, hk, by simpa [ptrs] using ho⟩
      have H1 := hide h1
      clear h1 hk ho
      go_wp2
      go_loopw [3, 23] (fun u3 u23 wr => EachIn w g1 [] ls u3 u23 wr) (fun _ u23 _ => n1 - (intOf u23).toNat)
      case atStart => exact H1.out
      case round =>
        obtain ⟨i, rfl, hi, hk, ho⟩ := hrel
        by_cases hlt : i < n1
        · obtain ⟨b, off, v, hA, hb, hv, c0, c1⟩ := (show SeesV wr C A1 n1 ls from Keeps.sees HS1.out hC hk).at2 hlt
          have hA' := HG1.out (by omega)
          rw [hA] at hA'
          obtain ⟨rfl, rfl⟩ : b = g1 ∧ off = 0 := by simpa using hA'
          rw [Nat.zero_add] at c0 c1
          have hlt' : (i : Int) < (n1 : Int) := by omega
          have hn' : (n1 : Int) ≤ 16 := by omega
          have hle := EachIn.le (w := w) (wr := wr) (g := b) (acc := []) (vs := ls) i (by simp) (by rw [HL1.out]; omega)
          have HLE := hide hle
          have HV := hide hv
          have HK := hide hk
          cases hr : v.1
          · rw [hr] at c0
            have HR := hide hr
            have HO := hide ho
            subst hA
            clear hA' hle hv hk hr ho c1
            go_wp2
            go_roundw
            case rel => exact EachIn.no HV.out HR.out HK.out HO.out
            case measure => simp [intOf]; omega
          · rw [hr] at c0
            have HR := hide hr
            have HO := hide (ho.alloc (.cells #[.pointer (some ⟨b, i * 2, none⟩)] 73))
            have HSN := hide (new_sees wr #[.pointer (some ⟨b, i * 2, none⟩)] 73)
            have hka := hk.alloc (.cells #[.pointer (some ⟨b, i * 2, none⟩)] 73)
            have HKA := hide hka
            have HSZ := hide hka.size
            have HOB := hide (ownBlock_ge ho)
            subst hA
            clear hA' hle hv hk hr ho c1 hka
            go_wp2_with (at_builtin
                         refine wpList_append_sees _ rfl (.tmp 31) (.tmp 35) 71 rfl w.heap.size 73 i0 _ 8 Try.underlying71 HI.out HZ0.out HZ1.out HZ2.out (by rfl) _ ([] ++ ptrs b 0 (ls.take i)).length _ (by rfl) HO.out (wr.heap.size + 1) _ 1 1 _ (by rfl) HSN.out (fun e => nomatch e) (by intro u hu; rcases List.mem_cons.1 hu with rfl | hu; exact rfl; exact (List.not_mem_nil hu).elim) (by have := HLE.out; unfold maxLen; omega) (by have := HLE.out; omega) HSZ.out ?_
                         intro v3 w3 hown3 hg3 hat3
                         have HO3 := hide hown3
                         have HK3 := hide (HKA.out.grown hg3 fun k hk hlt => by have := HOB.out k hk; omega)
                         clear hown3 hg3 hat3)
            go_roundw
            case rel => exact ⟨_, _, _, EachIn.yes HV.out HR.out HK3.out HO3.out, rfl, rfl, rfl⟩
            case measure => simp [intOf]; omega
        · obtain rfl : i = n1 := by have := HL1.out; omega
          have HE : EachRel w g1 g2 ls st _ (.int .i64 1) wr := ⟨1, rfl, by omega, hk, by rw [List.take_of_length_le (by have := HL1.out; omega)] at ho; simpa [ptrs] using ho⟩
          have HE2 := hide HE
          clear HE ho hk
          go_wp2
          go_roundw
          case rel => exact HE2.out
          case measure => simp [intOf]
    · have h1 : EachIn w g2 (ptrs g1 0 ls) st u3 (.int .i64 0) wo := ⟨0, rfl, by omega, hk, by simpa [ptrs] using ho⟩
      have H1 := hide h1
      have hacc : (ptrs g1 0 ls).length ≤ 16 := by have := ptrs_le g1 ls 0; have := HL1.out; omega
      have HACC := hide hacc
      clear h1 hk ho hacc
      go_wp2
      go_loopw [3, 23] (fun u3 u23 wr => EachIn w g2 (ptrs g1 0 ls) st u3 u23 wr) (fun _ u23 _ => n2 - (intOf u23).toNat)
      case atStart => exact H1.out
      case round =>
        obtain ⟨i, rfl, hi, hk, ho⟩ := hrel
        by_cases hlt : i < n2
        · obtain ⟨b, off, v, hA, hb, hv, c0, c1⟩ := (show SeesV wr C A2 n2 st from Keeps.sees HS2.out hC hk).at2 hlt
          have hA' := HG2.out (by omega)
          rw [hA] at hA'
          obtain ⟨rfl, rfl⟩ : b = g2 ∧ off = 0 := by simpa using hA'
          rw [Nat.zero_add] at c0 c1
          have hlt' : (i : Int) < (n2 : Int) := by omega
          have hn' : (n2 : Int) ≤ 16 := by omega
          have hle := EachIn.le (w := w) (wr := wr) (g := b) (acc := (ptrs g1 0 ls)) (vs := st) i HACC.out (by rw [HL2.out]; omega)
          have HLE := hide hle
          have HV := hide hv
          have HK := hide hk
          cases hr : v.1
          · rw [hr] at c0
            have HR := hide hr
            have HO := hide ho
            subst hA
            clear hA' hle hv hk hr ho c1
            go_wp2
            go_roundw
            case rel => exact EachIn.no HV.out HR.out HK.out HO.out
            case measure => simp [intOf]; omega
          · rw [hr] at c0
            have HR := hide hr
            have HO := hide (ho.alloc (.cells #[.pointer (some ⟨b, i * 2, none⟩)] 73))
            have HSN := hide (new_sees wr #[.pointer (some ⟨b, i * 2, none⟩)] 73)
            have hka := hk.alloc (.cells #[.pointer (some ⟨b, i * 2, none⟩)] 73)
            have HKA := hide hka
            have HSZ := hide hka.size
            have HOB := hide (ownBlock_ge ho)
            subst hA
            clear hA' hle hv hk hr ho c1 hka
            go_wp2_with (at_builtin
                         refine wpList_append_sees _ rfl (.tmp 31) (.tmp 35) 71 rfl w.heap.size 73 i0 _ 8 Try.underlying71 HI.out HZ0.out HZ1.out HZ2.out (by rfl) _ ((ptrs g1 0 ls) ++ ptrs b 0 (st.take i)).length _ (by rfl) HO.out (wr.heap.size + 1) _ 1 1 _ (by rfl) HSN.out (fun e => nomatch e) (by intro u hu; rcases List.mem_cons.1 hu with rfl | hu; exact rfl; exact (List.not_mem_nil hu).elim) (by have := HLE.out; unfold maxLen; omega) (by have := HLE.out; omega) HSZ.out ?_
                         intro v3 w3 hown3 hg3 hat3
                         have HO3 := hide hown3
                         have HK3 := hide (HKA.out.grown hg3 fun k hk hlt => by have := HOB.out k hk; omega)
                         clear hown3 hg3 hat3)
            go_roundw
            case rel => exact ⟨_, _, _, EachIn.yes HV.out HR.out HK3.out HO3.out, rfl, rfl, rfl⟩
            case measure => simp [intOf]; omega
        · obtain rfl : i = n2 := by have := HL2.out; omega
          have HE : EachRel w g1 g2 ls st _ (.int .i64 2) wr := ⟨2, rfl, by omega, hk, by rw [List.take_of_length_le (by have := HL2.out; omega)] at ho; simpa [ptrs] using ho⟩
          have HE2 := hide HE
          clear HE ho hk
          go_wp2
          go_roundw
          case rel => exact HE2.out
          case measure => simp [intOf]
    · have HO := hide ho
      have HK := hide hk
      clear ho hk
      go_wp2
      go_ret
      exact ⟨_, rfl, by simpa using HO.out, HK.out⟩
end Go.Proofs.Ytppolhpigclbpaa
