/- The statement of TopCatches, proved: its run by the kernel (RunCatches), the row's frame round it, the tie. Conditions: none beyond the statement's own. -/
import Derived.Test.YtmpfcblgjepoiaaGreatDoorKn
import Derived.Test.YtmpfcblgjepoiaaGreatDoorRunCatches
import Derived.Test.YtmpfcblgjepoiaaGreatDoorFa
import Derived.Test.YtmpfcblgjepoiaaGreatDoorCloCatches
import Derived.Test.YtmpfcblgjepoiaaGreatDoorTj
import Derived.Test.YtmpfcblgjepoiaaGreatDoorSayZ
import Derived.ChangeSame
import Derived.ChangeVars
import Derived.JoinedOf
import Derived.RowKit
import Derived.RowKitTokens
import Derived.LaidMore
import Derived.ProofKit
import Derived.OpenShut
import Derived.Stop.Joined
import Derived.SevenTiedAt
import Derived.Test.YtmpfcblgjepoiaaGreatDoorCards
set_option linter.unusedVariables false
set_option linter.unusedSimpArgs false
set_option linter.constructorNameAsVariable false
set_option linter.unusedSectionVars false
namespace Go.Proofs.YtmpfcblgjepoiaaGreatDoor
open Go Go.Proofs Go.Proofs.YtmpfcblgjepoiaaGreatDoor.Ev
set_option linter.unusedVariables false
namespace topCatches
open Go.ChangeShapes Go.WideShapes Go.ChangeAt Go.RowKit
theorem own : ownKnob Tryz.prog.godebug = none := by kernel_rfl
theorem walk (a0 : Int) (a1 : Int) {W : World} (h : laidMet Tryz.prog laid3 W) : Calls Tryz.prog 3 #[.int .i64 a0, .int .i64 a1] W fun e W' => ∃ v, e = .returned v ∧ v = .bool true ∧ Stays W W' := by
  obtain ⟨h1, h2⟩ := known_of h
  have hr : CallR Tryz.prog 3 ⟨[.int .i64 a0, .int .i64 a1]⟩ W fun x w' => x = .bool true ∧ Stays W w' := by
    have hz := smallZ_range (k := 4) (by decide) a0
    have hy := smallZ_range (k := 2) (by decide) a1
    have hc : smallZ a0 4 = 0 ∨ smallZ a0 4 = 1 ∨ smallZ a0 4 = 2 ∨ smallZ a0 4 = 3 := by omega
    have hd : smallZ a1 2 = 0 ∨ smallZ a1 2 = 1 := by omega
    rcases hc with e | e | e | e
    · rcases hd with f | f
      · exact topB_of (σ := fun i => if i = 0 then a0 else a1) (G := [8]) (g := 3) (l := [V.s .i64 (.var 0), V.s .i64 (.var 1)]) (args := [.int .i64 a0, .int .i64 a1]) (fun a ha => by cases ha) (fun g hg => by obtain rfl := List.mem_singleton.1 hg; exact sayg8) (smB2 (i := 0) (i2 := 1) (by decide) (by decide) (by decide) (by decide) sm4a sm4b sm2a sm2b e f) (fun ρ => .cons (.s .i64 (.var 0)) (.cons (.s .i64 (.var 1)) .nil)) runCatches00 W h2 h1
      · exact topB_of (σ := fun i => if i = 0 then a0 else a1) (G := [8]) (g := 3) (l := [V.s .i64 (.var 0), V.s .i64 (.var 1)]) (args := [.int .i64 a0, .int .i64 a1]) (fun a ha => by cases ha) (fun g hg => by obtain rfl := List.mem_singleton.1 hg; exact sayg8) (smB2 (i := 0) (i2 := 1) (by decide) (by decide) (by decide) (by decide) sm4a sm4b sm2a sm2b e f) (fun ρ => .cons (.s .i64 (.var 0)) (.cons (.s .i64 (.var 1)) .nil)) runCatches01 W h2 h1
    · rcases hd with f | f
      · exact topB_of (σ := fun i => if i = 0 then a0 else a1) (G := [8]) (g := 3) (l := [V.s .i64 (.var 0), V.s .i64 (.var 1)]) (args := [.int .i64 a0, .int .i64 a1]) (fun a ha => by cases ha) (fun g hg => by obtain rfl := List.mem_singleton.1 hg; exact sayg8) (smB2 (i := 0) (i2 := 1) (by decide) (by decide) (by decide) (by decide) sm4a sm4b sm2a sm2b e f) (fun ρ => .cons (.s .i64 (.var 0)) (.cons (.s .i64 (.var 1)) .nil)) runCatches10 W h2 h1
      · exact topB_of (σ := fun i => if i = 0 then a0 else a1) (G := [8]) (g := 3) (l := [V.s .i64 (.var 0), V.s .i64 (.var 1)]) (args := [.int .i64 a0, .int .i64 a1]) (fun a ha => by cases ha) (fun g hg => by obtain rfl := List.mem_singleton.1 hg; exact sayg8) (smB2 (i := 0) (i2 := 1) (by decide) (by decide) (by decide) (by decide) sm4a sm4b sm2a sm2b e f) (fun ρ => .cons (.s .i64 (.var 0)) (.cons (.s .i64 (.var 1)) .nil)) runCatches11 W h2 h1
    · rcases hd with f | f
      · exact topB_of (σ := fun i => if i = 0 then a0 else a1) (G := [8]) (g := 3) (l := [V.s .i64 (.var 0), V.s .i64 (.var 1)]) (args := [.int .i64 a0, .int .i64 a1]) (fun a ha => by cases ha) (fun g hg => by obtain rfl := List.mem_singleton.1 hg; exact sayg8) (smB2 (i := 0) (i2 := 1) (by decide) (by decide) (by decide) (by decide) sm4a sm4b sm2a sm2b e f) (fun ρ => .cons (.s .i64 (.var 0)) (.cons (.s .i64 (.var 1)) .nil)) runCatches20 W h2 h1
      · exact topB_of (σ := fun i => if i = 0 then a0 else a1) (G := [8]) (g := 3) (l := [V.s .i64 (.var 0), V.s .i64 (.var 1)]) (args := [.int .i64 a0, .int .i64 a1]) (fun a ha => by cases ha) (fun g hg => by obtain rfl := List.mem_singleton.1 hg; exact sayg8) (smB2 (i := 0) (i2 := 1) (by decide) (by decide) (by decide) (by decide) sm4a sm4b sm2a sm2b e f) (fun ρ => .cons (.s .i64 (.var 0)) (.cons (.s .i64 (.var 1)) .nil)) runCatches21 W h2 h1
    · rcases hd with f | f
      · exact topB_of (σ := fun i => if i = 0 then a0 else a1) (G := [8]) (g := 3) (l := [V.s .i64 (.var 0), V.s .i64 (.var 1)]) (args := [.int .i64 a0, .int .i64 a1]) (fun a ha => by cases ha) (fun g hg => by obtain rfl := List.mem_singleton.1 hg; exact sayg8) (smB2 (i := 0) (i2 := 1) (by decide) (by decide) (by decide) (by decide) sm4a sm4b sm2a sm2b e f) (fun ρ => .cons (.s .i64 (.var 0)) (.cons (.s .i64 (.var 1)) .nil)) runCatches30 W h2 h1
      · exact topB_of (σ := fun i => if i = 0 then a0 else a1) (G := [8]) (g := 3) (l := [V.s .i64 (.var 0), V.s .i64 (.var 1)]) (args := [.int .i64 a0, .int .i64 a1]) (fun a ha => by cases ha) (fun g hg => by obtain rfl := List.mem_singleton.1 hg; exact sayg8) (smB2 (i := 0) (i2 := 1) (by decide) (by decide) (by decide) (by decide) sm4a sm4b sm2a sm2b e f) (fun ρ => .cons (.s .i64 (.var 0)) (.cons (.s .i64 (.var 1)) .nil)) runCatches31 W h2 h1
  exact hr.calls Tryz.func3 rfl (by decide)
set_option maxHeartbeats 0 in
theorem wit_ok (os : Os) : Input.okWideB Tryz.prog ((laidW os).forCall (fun _ _ => 0) ⟨#[], #[.int .i64 0, .int .i64 0], []⟩) 3 ⟨#[], #[.int .i64 0, .int .i64 0], []⟩ = true := by kernel_rfl
set_option maxHeartbeats 0 in
theorem wit_pre (os : Os) (H : Type) (enc : TypeId × Value → H) : Rows.topCatchesSpec.preB enc Tryz.prog Tryz.f3 [] false ((laidW os).forCall (fun _ _ => 0) ⟨#[], #[.int .i64 0, .int .i64 0], []⟩).memory #[.int .i64 0, .int .i64 0] 8 = true := by kernel_rfl
set_option maxHeartbeats 0 in
theorem wit_size (os : Os) (H : Type) (enc : TypeId × Value → H) : Rows.topCatchesSpec.sizedB enc Tryz.prog Tryz.f3 false ((laidW os).forCall (fun _ _ => 0) ⟨#[], #[.int .i64 0, .int .i64 0], []⟩).memory #[.int .i64 0, .int .i64 0] 8 = true := by kernel_rfl
set_option maxRecDepth 100000 in
theorem lifted (os : Os) (started : os.Started) (H : Type) (enc : TypeId × Value → H) :
    ReturnsInHanded {} Tryz.checked os 3 .any (fun w args => (Rows.topCatchesSpec.pre enc Tryz.prog Tryz.f3 [] false w args ∧ laidMetH Tryz.prog laid3 w) ∧ sizedMet enc Tryz.prog Tryz.f3 (OpenSpec.ofChange Rows.topCatchesSpec) false w args)
      (Rows.topCatchesSpec.post enc Tryz.prog Tryz.f3 false true false false) := by
  refine returnsInHanded_of_change_and (C := Tryz.checked) (X := fun w _ => laidMetH Tryz.prog laid3 w) (fun _ _ _ hh h => h.of_heap hh) own started (by kernel_rfl) Tryz.func3 (ChangeSpec.witness_shaped (enc := enc) (C := Tryz.checked) (os := os) (X := fun w _ => laidMetH Tryz.prog laid3 w) false (laidW os) #[.int .i64 0, .int .i64 0] 8 rfl (laidW_shaped os _) (wit_ok os) (wit_pre os H enc) (wit_size os H enc) (laidW_met os _)) ?_
  intro W base args ds gs before hval0 hW _ _ hL _
  have hval : ∀ (j : Nat) t v, Tryz.f3.params[j]? = some t → args[j]? = some v → Value.okWide Tryz.prog W .any base t v := hval0
  have hW' := hW
  obtain ⟨p, q, hA0, hV, rfl, hfz, hnd⟩ := hW
  have hA : DataW.TrodAll enc Tryz.prog W 0 (fun _ => true) true Tryz.f3.params.toList args.toList ds p := hA0
  rw [Tryz.params3] at hA hval
  obtain ⟨v0, vs0, d0, ds0, p0, q0, hargs, rfl, rfl, h0, r0⟩ := trodAll_cons hA
  obtain ⟨v1, vs1, d1, ds1, p1, q1, rfl, rfl, rfl, h1, r1⟩ := trodAll_cons r0
  obtain ⟨rfl, rfl, rfl⟩ := trodAll_nil r1
  obtain rfl : args = #[v0, v1] := by cases args; simp_all
  obtain ⟨rfl, rfl⟩ := trodVars_none hV
  obtain ⟨a0, rfl, rfl, rfl, w0⟩ := open_int Tryz.underlying3 (hval 0 3 v0 rfl rfl) h0
  obtain ⟨a1, rfl, rfl, rfl, w1⟩ := open_int Tryz.underlying3 (hval 1 3 v1 rfl rfl) h1
  clear hA0 hval0
  have hL2 : laidMet Tryz.prog laid3 W := met_of (r := Rows.topCatchesRow) rfl hL
  refine (walk a0 a1 hL2).mono fun e W' ⟨v, he, hv, st⟩ => ?_
  subst he
  subst hv
  exact ⟨_, rfl, _, _, _, [], _, [], hW', trodAll_mk1 (shut_bool Tryz.underlying4 _), (trodAll_cons_mk (shut_int Tryz.underlying3 w0) (trodAll_cons_mk (shut_int Tryz.underlying3 w1) trodAll_mk0)), rfl, st.kept _, fun h => by cases h⟩
set_option maxHeartbeats 0 in
set_option maxRecDepth 100000 in
theorem closed : joinedFacts Tryz.prog 3 Tryz.f3 Rows.topCatchesSpec Rows.topCatchesRow = true := by
  unfold joinedFacts
  rw [fa_out, fa_map, clo_place, clo_unf, clo_rec, clo_vars, fa_key, fa_heard, fa_enter]
  kernel_rfl
theorem fnm : Tryz.prog.funcNamed Rows.topCatchesRow.func = some 3 := by kernel_rfl
theorem over : Rows.topCatchesRow.holds Tryz.pinned (OpenSpec.ofChange Rows.topCatchesSpec) :=
  OpenClaim.holds_of_wide 3 Tryz.f3 rfl rfl rfl rfl rfl rfl rfl ⟨rfl, rfl, rfl, rfl, rfl⟩ rfl rfl rfl rfl rfl fnm Tryz.func3 closed
    (of_decide_eq_true (by kernel_rfl)) (by unfold Func.isWrapper; first | (rw [if_pos (by decide +kernel)]; kernel_rfl) | (rw [if_neg (by decide +kernel)]; exact ⟨rfl, rfl⟩))
    (fun os started H enc _ => lifted os started H enc)
set_option maxHeartbeats 0 in
theorem main_is : Tryz.prog.mainIs = some (Rows.topCatchesCard.stood.harness.1, Rows.topCatchesCard.stood.harness.2.toList) := by kernel_rfl
theorem row_tie : Rows.topCatchesRow.laidByTextAt .later Tryz.pinned [.data, .data, .data] true := OpenClaim.laidByTextAt_later rfl rfl tie3 fa_unsafe
theorem no_go : false = Rows.topCatchesRow.goesBy Tryz.prog := by
  have e : Rows.topCatchesRow.goesBy Tryz.prog = Tryz.prog.goesAt .entering Rows.topCatchesRow.func := rfl
  rw [e]
  unfold Program.goesAt Program.goesFrom
  rw [fnm, Option.any_some, goesN]
  rfl
theorem params_in : ∀ (j t : Nat), Tryz.f3.params[j]? = some t → Tryz.prog.wantsStandIn t = false := by
  intro j t ht
  rw [Tryz.params3] at ht
  have h3 : t ∈ [3, 3] := by
    have := List.mem_of_getElem? (l := [3, 3]) (i := j) (a := t) (by simpa using ht)
    exact this
  simp only [List.mem_cons, List.not_mem_nil, or_false, or_self] at h3
  subst h3
  exact (show Tryz.prog.wantsStandIn 3 = false by kernel_rfl)
theorem proved : Rows.TopCatchesCardSaid :=
  Claim7.holds_tied_plain_at .later [] [.data, .data, .data] true Rows.topCatchesCard.stood.harness true
    over (fun _ h => by cases h) (by kernel_rfl) (fun _ h => by cases h) row_tie rfl ⟨rfl, rfl⟩ main_is rfl
    (fun f fn hf hfn => by
      obtain rfl : f = 3 := Option.some.inj (fnm.symm.trans hf) |>.symm
      obtain rfl : fn = Tryz.f3 := (Option.some.inj (Tryz.func3.symm.trans hfn)).symm
      exact ⟨fa_looks, params_in⟩)
    no_go
#print axioms proved
end topCatches
end Go.Proofs.YtmpfcblgjepoiaaGreatDoor
