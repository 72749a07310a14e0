/- The statement of TopOnce, proved: its run by the kernel (RunOnce), the row's frame round it, the tie. Conditions: none beyond the statement's own. -/
import Derived.Test.YtmpfcblgjepoiaaGreatDoorKn
import Derived.Test.YtmpfcblgjepoiaaGreatDoorRunOnce
import Derived.Test.YtmpfcblgjepoiaaGreatDoorFa
import Derived.Test.YtmpfcblgjepoiaaGreatDoorCloOnce
import Derived.Test.YtmpfcblgjepoiaaGreatDoorTj
import Derived.Test.YtmpfcblgjepoiaaGreatDoorSayZ
import Derived.ChangeSame
import Derived.ChangeVars
import Derived.JoinedOf
import Derived.RowKit
import Derived.RowKitTokens
import Derived.LaidMore
import Derived.ProofKit
import Derived.OpenShut
import Derived.Stop.Joined
import Derived.SevenTiedAt
import Derived.Test.YtmpfcblgjepoiaaGreatDoorCards
set_option linter.unusedVariables false
set_option linter.unusedSimpArgs false
set_option linter.constructorNameAsVariable false
set_option linter.unusedSectionVars false
namespace Go.Proofs.YtmpfcblgjepoiaaGreatDoor
open Go Go.Proofs Go.Proofs.YtmpfcblgjepoiaaGreatDoor.Ev
set_option linter.unusedVariables false
namespace topOnce
open Go.ChangeShapes Go.WideShapes Go.ChangeAt Go.RowKit
theorem own : ownKnob Tryz.prog.godebug = none := by kernel_rfl
theorem walk (a0 : Int) (a1 : Bool) {W : World} (h : laidMet Tryz.prog laid3 W) : Calls Tryz.prog 5 #[.int .i32 a0, .bool a1] W fun e W' => ∃ v, e = .returned v ∧ v = .bool true ∧ Stays W W' := by
  obtain ⟨h1, h2⟩ := known_of h
  have hr : CallR Tryz.prog 5 ⟨[.int .i32 a0, .bool a1]⟩ W fun x w' => x = .bool true ∧ Stays W w' := by
    cases a1 with
    | false => exact top_of (σ := fun _ => a0) (G := [8]) (g := 5) (l := [V.s .i32 (.var 0), V.b false]) (args := [.int .i32 a0, .bool false]) (asOnce _) (fun g hg => by obtain rfl := List.mem_singleton.1 hg; exact sayg8) (fun ρ => .cons (.s .i32 (.var 0)) (.cons (.b false) .nil)) runOnceF W h2 h1
    | true => exact top_of (σ := fun _ => a0) (G := [8]) (g := 5) (l := [V.s .i32 (.var 0), V.b true]) (args := [.int .i32 a0, .bool true]) (asOnce _) (fun g hg => by obtain rfl := List.mem_singleton.1 hg; exact sayg8) (fun ρ => .cons (.s .i32 (.var 0)) (.cons (.b true) .nil)) runOnceT W h2 h1
  exact hr.calls Tryz.func5 rfl (by decide)
set_option maxHeartbeats 0 in
theorem wit_ok (os : Os) : Input.okWideB Tryz.prog ((laidW os).forCall (fun _ _ => 0) ⟨#[], #[.int .i32 0, .bool false], []⟩) 5 ⟨#[], #[.int .i32 0, .bool false], []⟩ = true := by kernel_rfl
set_option maxHeartbeats 0 in
theorem wit_pre (os : Os) (H : Type) (enc : TypeId × Value → H) : Rows.topOnceSpec.preB enc Tryz.prog Tryz.f5 [] false ((laidW os).forCall (fun _ _ => 0) ⟨#[], #[.int .i32 0, .bool false], []⟩).memory #[.int .i32 0, .bool false] 8 = true := by kernel_rfl
set_option maxHeartbeats 0 in
theorem wit_size (os : Os) (H : Type) (enc : TypeId × Value → H) : Rows.topOnceSpec.sizedB enc Tryz.prog Tryz.f5 false ((laidW os).forCall (fun _ _ => 0) ⟨#[], #[.int .i32 0, .bool false], []⟩).memory #[.int .i32 0, .bool false] 8 = true := by kernel_rfl
set_option maxRecDepth 100000 in
theorem lifted (os : Os) (started : os.Started) (H : Type) (enc : TypeId × Value → H) :
    ReturnsInHanded {} Tryz.checked os 5 .any (fun w args => (Rows.topOnceSpec.pre enc Tryz.prog Tryz.f5 [] false w args ∧ laidMetH Tryz.prog laid3 w) ∧ sizedMet enc Tryz.prog Tryz.f5 (OpenSpec.ofChange Rows.topOnceSpec) false w args)
      (Rows.topOnceSpec.post enc Tryz.prog Tryz.f5 false true false false) := by
  refine returnsInHanded_of_change_and (C := Tryz.checked) (X := fun w _ => laidMetH Tryz.prog laid3 w) (fun _ _ _ hh h => h.of_heap hh) own started (by kernel_rfl) Tryz.func5 (ChangeSpec.witness_shaped (enc := enc) (C := Tryz.checked) (os := os) (X := fun w _ => laidMetH Tryz.prog laid3 w) false (laidW os) #[.int .i32 0, .bool false] 8 rfl (laidW_shaped os _) (wit_ok os) (wit_pre os H enc) (wit_size os H enc) (laidW_met os _)) ?_
  intro W base args ds gs before hval0 hW _ _ hL _
  have hval : ∀ (j : Nat) t v, Tryz.f5.params[j]? = some t → args[j]? = some v → Value.okWide Tryz.prog W .any base t v := hval0
  have hW' := hW
  obtain ⟨p, q, hA0, hV, rfl, hfz, hnd⟩ := hW
  have hA : DataW.TrodAll enc Tryz.prog W 0 (fun _ => true) true Tryz.f5.params.toList args.toList ds p := hA0
  rw [Tryz.params5] at hA hval
  obtain ⟨v0, vs0, d0, ds0, p0, q0, hargs, rfl, rfl, h0, r0⟩ := trodAll_cons hA
  obtain ⟨v1, vs1, d1, ds1, p1, q1, rfl, rfl, rfl, h1, r1⟩ := trodAll_cons r0
  obtain ⟨rfl, rfl, rfl⟩ := trodAll_nil r1
  obtain rfl : args = #[v0, v1] := by cases args; simp_all
  obtain ⟨rfl, rfl⟩ := trodVars_none hV
  obtain ⟨a0, rfl, rfl, rfl, w0⟩ := open_int Tryz.underlying21 (hval 0 21 v0 rfl rfl) h0
  obtain ⟨a1, rfl, rfl, rfl⟩ := open_bool Tryz.underlying4 (hval 1 4 v1 rfl rfl) h1
  clear hA0 hval0
  have hL2 : laidMet Tryz.prog laid3 W := met_of (r := Rows.topOnceRow) rfl hL
  refine (walk a0 a1 hL2).mono fun e W' ⟨v, he, hv, st⟩ => ?_
  subst he
  subst hv
  exact ⟨_, rfl, _, _, _, [], _, [], hW', trodAll_mk1 (shut_bool Tryz.underlying4 _), (trodAll_cons_mk (shut_int Tryz.underlying21 w0) (trodAll_cons_mk (shut_bool Tryz.underlying4 _) trodAll_mk0)), rfl, st.kept _, fun h => by cases h⟩
set_option maxHeartbeats 0 in
set_option maxRecDepth 100000 in
theorem closed : joinedFacts Tryz.prog 5 Tryz.f5 Rows.topOnceSpec Rows.topOnceRow = true := by
  unfold joinedFacts
  rw [fa_out, fa_map, clo_place, clo_unf, clo_rec, clo_vars, fa_key, fa_heard, fa_enter]
  kernel_rfl
theorem fnm : Tryz.prog.funcNamed Rows.topOnceRow.func = some 5 := by kernel_rfl
theorem over : Rows.topOnceRow.holds Tryz.pinned (OpenSpec.ofChange Rows.topOnceSpec) :=
  OpenClaim.holds_of_wide 5 Tryz.f5 rfl rfl rfl rfl rfl rfl rfl ⟨rfl, rfl, rfl, rfl, rfl⟩ rfl rfl rfl rfl rfl fnm Tryz.func5 closed
    (of_decide_eq_true (by kernel_rfl)) (by unfold Func.isWrapper; first | (rw [if_pos (by decide +kernel)]; kernel_rfl) | (rw [if_neg (by decide +kernel)]; exact ⟨rfl, rfl⟩))
    (fun os started H enc _ => lifted os started H enc)
set_option maxHeartbeats 0 in
theorem main_is : Tryz.prog.mainIs = some (Rows.topOnceCard.stood.harness.1, Rows.topOnceCard.stood.harness.2.toList) := by kernel_rfl
theorem row_tie : Rows.topOnceRow.laidByTextAt .later Tryz.pinned [.data, .data, .data] true := OpenClaim.laidByTextAt_later rfl rfl tie3 fa_unsafe
theorem no_go : false = Rows.topOnceRow.goesBy Tryz.prog := by
  have e : Rows.topOnceRow.goesBy Tryz.prog = Tryz.prog.goesAt .entering Rows.topOnceRow.func := rfl
  rw [e]
  unfold Program.goesAt Program.goesFrom
  rw [fnm, Option.any_some, goesN]
  rfl
theorem params_in : ∀ (j t : Nat), Tryz.f5.params[j]? = some t → Tryz.prog.wantsStandIn t = false := by
  intro j t ht
  rw [Tryz.params5] at ht
  have h3 : t ∈ [21, 4] := by
    have := List.mem_of_getElem? (l := [21, 4]) (i := j) (a := t) (by simpa using ht)
    exact this
  simp only [List.mem_cons, List.not_mem_nil, or_false, or_self] at h3
  rcases h3 with rfl | rfl
  · exact (show Tryz.prog.wantsStandIn 21 = false by kernel_rfl)
  · exact (show Tryz.prog.wantsStandIn 4 = false by kernel_rfl)
theorem proved : Rows.TopOnceCardSaid :=
  Claim7.holds_tied_plain_at .later [] [.data, .data, .data] true Rows.topOnceCard.stood.harness true
    over (fun _ h => by cases h) (by kernel_rfl) (fun _ h => by cases h) row_tie rfl ⟨rfl, rfl⟩ main_is rfl
    (fun f fn hf hfn => by
      obtain rfl : f = 5 := Option.some.inj (fnm.symm.trans hf) |>.symm
      obtain rfl : fn = Tryz.f5 := (Option.some.inj (Tryz.func5.symm.trans hfn)).symm
      exact ⟨fa_looks, params_in⟩)
    no_go
#print axioms proved
end topOnce
end Go.Proofs.YtmpfcblgjepoiaaGreatDoor
