/- The walks of the heap's Kind, Len, Get, Put. -/
import Derived.Test.YtjjoelhemhnojaaHeapA
set_option linter.unusedVariables false
namespace Go.Proofs.Ytjjoelhemhnojaa
open Go.RowKit
open Hp

def kindO (l : List Hp.Ob) (a : Int) : Int := match lookO l a with | some o => o.1 | none => -1
def lenO (l : List Hp.Ob) (a : Int) : Int := match lookO l a with | some o => (o.2.length : Int) | none => 0
def getO (l : List Hp.Ob) (a i : Int) : Int := match lookO l a with | some o => if 0 ≤ i then o.2.getD i.toNat 0 else 0 | none => 0
section
variable {w : World} {B p N : Nat} {F : Nat → Prop} {objs : List Hp.Ob}
theorem kind_in (h : HeapIn w B F p N objs) (at' : Int) : Calls Try.prog 24 #[.pointer (some ⟨p, 0, none⟩), .int .i64 at'] w fun e w' => e = .returned (.int .i64 (kindO objs at')) ∧ w = w' := by
  have hh := has_in h at'
  obtain ⟨A, c, A2, c2, h0, h1, h2, hw, hs, hc⟩ := h.reads
  have hle := h.le
  have hmost := h.most
  have hk : kindO objs at' = match lookO objs at' with | some o => o.1 | none => -1 := rfl
  cases hl : lookO objs at' with
  | some o =>
    obtain ⟨n, rfl, hle', hm, hkd, _, _, ho⟩ := look_some _ hl
    obtain ⟨b, off, u, hA, hb, hu, hcell⟩ := hw.at_ (k := n) (by omega)
    rw [List.getElem?_map, hkd] at hu
    cases hu
    subst hA
    have hf := h.fine o ho
    rw [hl] at hh hk
    have hf1 : 0 ≤ o.1 := hf.1
    have hf2 : o.1 ≤ 10000 := hf.2.1
    have hk2 : kindO objs (n : Int) = o.1 := hk
    have HK := hide hk2
    clear hk2
    generalize o.1 = K at *
    have C := hide hh
    generalize (flat objs).length = L at *
    clear hw hs h hc hl hm hh hk hkd hf
    go_enter Try.func24, Try.ntmps24
    go_wp2_with (go_at_call 23; refine C.out.mono ?_; rintro e w' ⟨rfl, rfl⟩)
    go_ret
    exact ⟨ret_int (by rw [HK.out]), rfl⟩
  | none =>
    rw [hl] at hh hk
    have HK := hide hk
    have C := hide hh
    clear hw hs h hc hl hh hk
    go_enter Try.func24, Try.ntmps24
    go_wp2_with (go_at_call 23; refine C.out.mono ?_; rintro e w' ⟨rfl, rfl⟩)
    go_ret
    exact ⟨ret_int (by rw [HK.out]), rfl⟩
theorem len_in (h : HeapIn w B F p N objs) (at' : Int) : Calls Try.prog 25 #[.pointer (some ⟨p, 0, none⟩), .int .i64 at'] w fun e w' => e = .returned (.int .i64 (lenO objs at')) ∧ w = w' := by
  have hh := has_in h at'
  obtain ⟨A, c, A2, c2, h0, h1, h2, hw, hs, hc⟩ := h.reads
  have hle := h.le
  have hmost := h.most
  have hk : lenO objs at' = match lookO objs at' with | some o => (o.2.length : Int) | none => 0 := rfl
  cases hl : lookO objs at' with
  | some o =>
    obtain ⟨n, rfl, hle', hm, hkd, hln, _, ho⟩ := look_some _ hl
    obtain ⟨b, off, u, hA, hb, hu, hcell⟩ := hw.at_ (k := n + 1) (by omega)
    rw [List.getElem?_map, hln] at hu
    cases hu
    subst hA
    have hf := h.fine o ho
    rw [hl] at hh hk
    have hf2 : o.2.length ≤ 1000 := hf.2.2
    have hk2 : lenO objs (n : Int) = (o.2.length : Int) := hk
    have HK := hide hk2
    clear hk2
    generalize o.2.length = K at *
    have C := hide hh
    generalize (flat objs).length = L at *
    clear hw hs h hc hl hm hh hk hkd hf hln
    go_enter Try.func25, Try.ntmps25
    go_wp2_with (go_at_call 23; refine C.out.mono ?_; rintro e w' ⟨rfl, rfl⟩)
    go_ret
    exact ⟨ret_int (by rw [HK.out]), rfl⟩
  | none =>
    rw [hl] at hh hk
    have HK := hide hk
    have C := hide hh
    clear hw hs h hc hl hh hk
    go_enter Try.func25, Try.ntmps25
    go_wp2_with (go_at_call 23; refine C.out.mono ?_; rintro e w' ⟨rfl, rfl⟩)
    go_ret
    exact ⟨ret_int (by rw [HK.out]), rfl⟩
theorem ret_i32 {a b : Int} (h : a = b) : Ending.returned (.int .i32 a) = .returned (.int .i32 b) := by rw [h]
theorem lenO_nonneg (l : List Hp.Ob) (a : Int) : 0 ≤ lenO l a := by
  unfold lenO; split <;> omega
theorem lenO_le (h : HeapIn w B F p N objs) (a : Int) : lenO objs a ≤ 1000 := by
  unfold lenO; split
  · rename_i o hl
    obtain ⟨_, _, _, _, _, _, _, ho⟩ := look_some _ hl
    have := (h.fine _ ho).2.2
    omega
  · omega
theorem get_in (h : HeapIn w B F p N objs) (at' i : Int) : Calls Try.prog 27 #[.pointer (some ⟨p, 0, none⟩), .int .i64 at', .int .i64 i] w fun e w' => e = .returned (.int .i32 (getO objs at' i)) ∧ w = w' := by
  have hh := len_in h at'
  obtain ⟨A, c, A2, c2, h0, h1, h2, hw, hs, hc⟩ := h.reads
  have hle := h.le
  have hmost := h.most
  have hnn := lenO_nonneg objs at'
  by_cases hin : 0 ≤ i ∧ i < lenO objs at'
  · obtain ⟨o, hl⟩ : ∃ o, lookO objs at' = some o := by
      cases hl : lookO objs at' with
      | some o => exact ⟨o, rfl⟩
      | none => rw [show lenO objs at' = 0 from by unfold lenO; rw [hl]] at hin; omega
    have hlo : lenO objs at' = (o.2.length : Int) := by unfold lenO; rw [hl]
    rw [hlo] at hin hh
    obtain ⟨j, rfl⟩ := Int.eq_ofNat_of_zero_le hin.1
    have hj : j < o.2.length := by omega
    have hg : getO objs at' (j : Int) = o.2[j] := by
      unfold getO; rw [hl]; simp [List.getD_eq_getElem?_getD, List.getElem?_eq_getElem hj]
    obtain ⟨n, rfl, hle', hm, hkd, hln, hwd, ho⟩ := look_some _ hl
    obtain ⟨b, off, u, hA, hb, hu, hcell⟩ := hw.at_ (k := n + 2 + j) (by omega)
    rw [List.getElem?_map, hwd j hj, List.getElem?_eq_getElem hj] at hu
    simp only [Option.map_some, Option.some.injEq] at hu
    rw [← hg] at hu
    subst hu hA
    have hf2 : o.2.length ≤ 1000 := (h.fine o ho).2.2
    clear hg hwd hkd hln
    generalize getO objs (n : Int) (j : Int) = r at *
    generalize o.2.length = K at *
    have C := hide hh
    generalize (flat objs).length = L at *
    have hjK : (j : Int) < (K : Int) := by omega
    clear hw hs h hc hl hm hh hin hlo hnn
    go_enter Try.func27, Try.ntmps27
    go_wp2_with (go_at_call 25; refine C.out.mono ?_; rintro e w' ⟨rfl, rfl⟩)
    go_ret
    exact ⟨rfl, rfl⟩
  · have hg : getO objs at' i = 0 := by
      unfold getO
      split
      · rename_i o hl
        rw [show lenO objs at' = (o.2.length : Int) from by unfold lenO; rw [hl]] at hin
        split
        · rw [List.getD_eq_getElem?_getD, List.getElem?_eq_none (by omega)]; rfl
        · rfl
      · rfl
    have HG := hide hg
    have C := hide hh
    have hle2 := lenO_le h at'
    generalize lenO objs at' = L at *
    clear hw hs h hc hh hg
    have hin' : i < 0 ∨ L ≤ i := by omega
    clear hin
    rcases hin' with hin | hin
    · go_enter Try.func27, Try.ntmps27
      go_wp2_with (go_at_call 25; refine C.out.mono ?_; rintro e w' ⟨rfl, rfl⟩)
      go_ret
      exact ⟨ret_int (by rw [HG.out]), rfl⟩
    · have hin0 : 0 ≤ i := by omega
      go_enter Try.func27, Try.ntmps27
      go_wp2_with (go_at_call 25; refine C.out.mono ?_; rintro e w' ⟨rfl, rfl⟩)
      go_ret
      exact ⟨ret_int (by rw [HG.out]), rfl⟩
theorem put_out (h : HeapIn w B F p N objs) (at' i x : Int) (hin : i < 0 ∨ lenO objs at' ≤ i) : Calls Try.prog 18 #[.pointer (some ⟨p, 0, none⟩), .int .i64 at', .int .i64 i, .int .i32 x] w fun e w' => e = .returned (.bool false) ∧ w = w' := by
  have hh := len_in h at'
  have hnn := lenO_nonneg objs at'
  have hle2 := lenO_le h at'
  have C := hide hh
  generalize lenO objs at' = L at *
  clear hh h
  rcases hin with hin | hin
  · go_enter Try.func18, Try.ntmps18
    go_wp2_with (go_at_call 25; refine C.out.mono ?_; rintro e w' ⟨rfl, rfl⟩)
    go_ret
    exact ⟨rfl, rfl⟩
  · have hin0 : 0 ≤ i := by omega
    go_enter Try.func18, Try.ntmps18
    go_wp2_with (go_at_call 25; refine C.out.mono ?_; rintro e w' ⟨rfl, rfl⟩)
    go_ret
    exact ⟨rfl, rfl⟩
theorem put_in (h : HeapIn w B F p N objs) (at' : Int) (i : Nat) (x : Int) (hin : (i : Int) < lenO objs at') : Calls Try.prog 18 #[.pointer (some ⟨p, 0, none⟩), .int .i64 at', .int .i64 (i : Int), .int .i32 x] w fun e w' => e = .returned (.bool true) ∧
    HeapIn w' B F p N (Hp.put objs at' i x) ∧ Keeps F w w' := by
  have hh := len_in h at'
  have hle2 := lenO_le h at'
  obtain ⟨o, hl⟩ : ∃ o, lookO objs at' = some o := by
    cases hl : lookO objs at' with
    | some o => exact ⟨o, rfl⟩
    | none => rw [show lenO objs at' = 0 from by unfold lenO; rw [hl]] at hin; omega
  have hlo : lenO objs at' = (o.2.length : Int) := by unfold lenO; rw [hl]
  rw [hlo] at hin hh hle2
  obtain ⟨b, c, h1, hfz, ⟨u, hu⟩, hin', hK⟩ := h.put hl (i := i) (by omega) x
  obtain ⟨n, rfl, hle', _⟩ := look_some _ hl
  have hle := h.le
  have hmost := h.most
  have C := hide hh
  have HI := hide hin'
  have HK := hide hK
  rw [show ((n : Int)).toNat = n from by omega] at *
  have hz := hfz (n + 2 + i)
  generalize (flat objs).length = L at *
  generalize o.2.length = K at *
  clear h hh hin' hK hl hfz hlo
  go_enter Try.func18, Try.ntmps18
  go_wp2_with (go_at_call 25; refine C.out.mono ?_; rintro e w' ⟨rfl, rfl⟩)
  go_ret
  exact ⟨rfl, HI.out, HK.out⟩
end
end Go.Proofs.Ytjjoelhemhnojaa
