/- The statement of TopFiles, proved: its run by the kernel (RunFiles), the row's frame round it, the tie. Conditions: none beyond the statement's own. -/
import Derived.Test.YtbolhpgffkdacaaGreatDoorKn
import Derived.Test.YtbolhpgffkdacaaGreatDoorRunFiles
import Derived.Test.YtbolhpgffkdacaaGreatDoorFa
import Derived.Test.YtbolhpgffkdacaaGreatDoorCloFiles
import Derived.Test.YtbolhpgffkdacaaGreatDoorTj
import Derived.Test.YtbolhpgffkdacaaGreatDoorSayZ
import Derived.ChangeSame
import Derived.ChangeVars
import Derived.JoinedOf
import Derived.RowKit
import Derived.RowKitTokens
import Derived.LaidMore
import Derived.ProofKit
import Derived.OpenShut
import Derived.Stop.Joined
import Derived.SevenTiedAt
import Derived.Test.YtbolhpgffkdacaaGreatDoorCards
set_option linter.unusedVariables false
set_option linter.unusedSimpArgs false
set_option linter.constructorNameAsVariable false
set_option linter.unusedSectionVars false
namespace Go.Proofs.YtbolhpgffkdacaaGreatDoor
open Go Go.Proofs Go.Proofs.YtbolhpgffkdacaaGreatDoor.Ev
set_option linter.unusedVariables false
namespace topFiles
open Go.ChangeShapes Go.WideShapes Go.ChangeAt Go.RowKit
theorem own : ownKnob Tryz.prog.godebug = none := by kernel_rfl
theorem walk (a0 : Int) {W : World} (h : laidMet Tryz.prog laid3 W) : Calls Tryz.prog 4 #[.int .i64 a0] W fun e W' => ∃ v, e = .returned v ∧ v = .bool true ∧ Stays W W' := by
  obtain ⟨h1, h2⟩ := known_of h
  have hr : CallR Tryz.prog 4 ⟨[.int .i64 a0]⟩ W fun x w' => x = .bool true ∧ Stays W w' := by
    have hz := smallZ_range (k := 30) (by decide) a0
    have hc : smallZ a0 30 = 0 ∨ smallZ a0 30 = 1 ∨ smallZ a0 30 = 2 ∨ smallZ a0 30 = 3 ∨ smallZ a0 30 = 4 ∨ smallZ a0 30 = 5 ∨ smallZ a0 30 = 6 ∨ smallZ a0 30 = 7 ∨ smallZ a0 30 = 8 ∨ smallZ a0 30 = 9 ∨ smallZ a0 30 = 10 ∨ smallZ a0 30 = 11 ∨ smallZ a0 30 = 12 ∨ smallZ a0 30 = 13 ∨ smallZ a0 30 = 14 ∨ smallZ a0 30 = 15 ∨ smallZ a0 30 = 16 ∨ smallZ a0 30 = 17 ∨ smallZ a0 30 = 18 ∨ smallZ a0 30 = 19 ∨ smallZ a0 30 = 20 ∨ smallZ a0 30 = 21 ∨ smallZ a0 30 = 22 ∨ smallZ a0 30 = 23 ∨ smallZ a0 30 = 24 ∨ smallZ a0 30 = 25 ∨ smallZ a0 30 = 26 ∨ smallZ a0 30 = 27 ∨ smallZ a0 30 = 28 ∨ smallZ a0 30 = 29 := by omega
    rcases hc with e | e | e | e | e | e | e | e | e | e | e | e | e | e | e | e | e | e | e | e | e | e | e | e | e | e | e | e | e | e
    · exact topF_of (σ := fun _ => a0) (G := [5]) (g := 4) (l := [V.s .i64 (.var 0)]) (args := [.int .i64 a0]) (fun a ha => by cases ha) (fun g hg => by obtain rfl := List.mem_singleton.1 hg; exact sayg5) (smB (i := 0) (by decide) (by decide) sm30a sm30b e) (fun ρ => .cons (.s .i64 (.var 0)) .nil) runFiles0 W h2 h1
    · exact topF_of (σ := fun _ => a0) (G := [5]) (g := 4) (l := [V.s .i64 (.var 0)]) (args := [.int .i64 a0]) (fun a ha => by cases ha) (fun g hg => by obtain rfl := List.mem_singleton.1 hg; exact sayg5) (smB (i := 0) (by decide) (by decide) sm30a sm30b e) (fun ρ => .cons (.s .i64 (.var 0)) .nil) runFiles1 W h2 h1
    · exact topF_of (σ := fun _ => a0) (G := [5]) (g := 4) (l := [V.s .i64 (.var 0)]) (args := [.int .i64 a0]) (fun a ha => by cases ha) (fun g hg => by obtain rfl := List.mem_singleton.1 hg; exact sayg5) (smB (i := 0) (by decide) (by decide) sm30a sm30b e) (fun ρ => .cons (.s .i64 (.var 0)) .nil) runFiles2 W h2 h1
    · exact topF_of (σ := fun _ => a0) (G := [5]) (g := 4) (l := [V.s .i64 (.var 0)]) (args := [.int .i64 a0]) (fun a ha => by cases ha) (fun g hg => by obtain rfl := List.mem_singleton.1 hg; exact sayg5) (smB (i := 0) (by decide) (by decide) sm30a sm30b e) (fun ρ => .cons (.s .i64 (.var 0)) .nil) runFiles3 W h2 h1
    · exact topF_of (σ := fun _ => a0) (G := [5]) (g := 4) (l := [V.s .i64 (.var 0)]) (args := [.int .i64 a0]) (fun a ha => by cases ha) (fun g hg => by obtain rfl := List.mem_singleton.1 hg; exact sayg5) (smB (i := 0) (by decide) (by decide) sm30a sm30b e) (fun ρ => .cons (.s .i64 (.var 0)) .nil) runFiles4 W h2 h1
    · exact topF_of (σ := fun _ => a0) (G := [5]) (g := 4) (l := [V.s .i64 (.var 0)]) (args := [.int .i64 a0]) (fun a ha => by cases ha) (fun g hg => by obtain rfl := List.mem_singleton.1 hg; exact sayg5) (smB (i := 0) (by decide) (by decide) sm30a sm30b e) (fun ρ => .cons (.s .i64 (.var 0)) .nil) runFiles5 W h2 h1
    · exact topF_of (σ := fun _ => a0) (G := [5]) (g := 4) (l := [V.s .i64 (.var 0)]) (args := [.int .i64 a0]) (fun a ha => by cases ha) (fun g hg => by obtain rfl := List.mem_singleton.1 hg; exact sayg5) (smB (i := 0) (by decide) (by decide) sm30a sm30b e) (fun ρ => .cons (.s .i64 (.var 0)) .nil) runFiles6 W h2 h1
    · exact topF_of (σ := fun _ => a0) (G := [5]) (g := 4) (l := [V.s .i64 (.var 0)]) (args := [.int .i64 a0]) (fun a ha => by cases ha) (fun g hg => by obtain rfl := List.mem_singleton.1 hg; exact sayg5) (smB (i := 0) (by decide) (by decide) sm30a sm30b e) (fun ρ => .cons (.s .i64 (.var 0)) .nil) runFiles7 W h2 h1
    · exact topF_of (σ := fun _ => a0) (G := [5]) (g := 4) (l := [V.s .i64 (.var 0)]) (args := [.int .i64 a0]) (fun a ha => by cases ha) (fun g hg => by obtain rfl := List.mem_singleton.1 hg; exact sayg5) (smB (i := 0) (by decide) (by decide) sm30a sm30b e) (fun ρ => .cons (.s .i64 (.var 0)) .nil) runFiles8 W h2 h1
    · exact topF_of (σ := fun _ => a0) (G := [5]) (g := 4) (l := [V.s .i64 (.var 0)]) (args := [.int .i64 a0]) (fun a ha => by cases ha) (fun g hg => by obtain rfl := List.mem_singleton.1 hg; exact sayg5) (smB (i := 0) (by decide) (by decide) sm30a sm30b e) (fun ρ => .cons (.s .i64 (.var 0)) .nil) runFiles9 W h2 h1
    · exact topF_of (σ := fun _ => a0) (G := [5]) (g := 4) (l := [V.s .i64 (.var 0)]) (args := [.int .i64 a0]) (fun a ha => by cases ha) (fun g hg => by obtain rfl := List.mem_singleton.1 hg; exact sayg5) (smB (i := 0) (by decide) (by decide) sm30a sm30b e) (fun ρ => .cons (.s .i64 (.var 0)) .nil) runFiles10 W h2 h1
    · exact topF_of (σ := fun _ => a0) (G := [5]) (g := 4) (l := [V.s .i64 (.var 0)]) (args := [.int .i64 a0]) (fun a ha => by cases ha) (fun g hg => by obtain rfl := List.mem_singleton.1 hg; exact sayg5) (smB (i := 0) (by decide) (by decide) sm30a sm30b e) (fun ρ => .cons (.s .i64 (.var 0)) .nil) runFiles11 W h2 h1
    · exact topF_of (σ := fun _ => a0) (G := [5]) (g := 4) (l := [V.s .i64 (.var 0)]) (args := [.int .i64 a0]) (fun a ha => by cases ha) (fun g hg => by obtain rfl := List.mem_singleton.1 hg; exact sayg5) (smB (i := 0) (by decide) (by decide) sm30a sm30b e) (fun ρ => .cons (.s .i64 (.var 0)) .nil) runFiles12 W h2 h1
    · exact topF_of (σ := fun _ => a0) (G := [5]) (g := 4) (l := [V.s .i64 (.var 0)]) (args := [.int .i64 a0]) (fun a ha => by cases ha) (fun g hg => by obtain rfl := List.mem_singleton.1 hg; exact sayg5) (smB (i := 0) (by decide) (by decide) sm30a sm30b e) (fun ρ => .cons (.s .i64 (.var 0)) .nil) runFiles13 W h2 h1
    · exact topF_of (σ := fun _ => a0) (G := [5]) (g := 4) (l := [V.s .i64 (.var 0)]) (args := [.int .i64 a0]) (fun a ha => by cases ha) (fun g hg => by obtain rfl := List.mem_singleton.1 hg; exact sayg5) (smB (i := 0) (by decide) (by decide) sm30a sm30b e) (fun ρ => .cons (.s .i64 (.var 0)) .nil) runFiles14 W h2 h1
    · exact topF_of (σ := fun _ => a0) (G := [5]) (g := 4) (l := [V.s .i64 (.var 0)]) (args := [.int .i64 a0]) (fun a ha => by cases ha) (fun g hg => by obtain rfl := List.mem_singleton.1 hg; exact sayg5) (smB (i := 0) (by decide) (by decide) sm30a sm30b e) (fun ρ => .cons (.s .i64 (.var 0)) .nil) runFiles15 W h2 h1
    · exact topF_of (σ := fun _ => a0) (G := [5]) (g := 4) (l := [V.s .i64 (.var 0)]) (args := [.int .i64 a0]) (fun a ha => by cases ha) (fun g hg => by obtain rfl := List.mem_singleton.1 hg; exact sayg5) (smB (i := 0) (by decide) (by decide) sm30a sm30b e) (fun ρ => .cons (.s .i64 (.var 0)) .nil) runFiles16 W h2 h1
    · exact topF_of (σ := fun _ => a0) (G := [5]) (g := 4) (l := [V.s .i64 (.var 0)]) (args := [.int .i64 a0]) (fun a ha => by cases ha) (fun g hg => by obtain rfl := List.mem_singleton.1 hg; exact sayg5) (smB (i := 0) (by decide) (by decide) sm30a sm30b e) (fun ρ => .cons (.s .i64 (.var 0)) .nil) runFiles17 W h2 h1
    · exact topF_of (σ := fun _ => a0) (G := [5]) (g := 4) (l := [V.s .i64 (.var 0)]) (args := [.int .i64 a0]) (fun a ha => by cases ha) (fun g hg => by obtain rfl := List.mem_singleton.1 hg; exact sayg5) (smB (i := 0) (by decide) (by decide) sm30a sm30b e) (fun ρ => .cons (.s .i64 (.var 0)) .nil) runFiles18 W h2 h1
    · exact topF_of (σ := fun _ => a0) (G := [5]) (g := 4) (l := [V.s .i64 (.var 0)]) (args := [.int .i64 a0]) (fun a ha => by cases ha) (fun g hg => by obtain rfl := List.mem_singleton.1 hg; exact sayg5) (smB (i := 0) (by decide) (by decide) sm30a sm30b e) (fun ρ => .cons (.s .i64 (.var 0)) .nil) runFiles19 W h2 h1
    · exact topF_of (σ := fun _ => a0) (G := [5]) (g := 4) (l := [V.s .i64 (.var 0)]) (args := [.int .i64 a0]) (fun a ha => by cases ha) (fun g hg => by obtain rfl := List.mem_singleton.1 hg; exact sayg5) (smB (i := 0) (by decide) (by decide) sm30a sm30b e) (fun ρ => .cons (.s .i64 (.var 0)) .nil) runFiles20 W h2 h1
    · exact topF_of (σ := fun _ => a0) (G := [5]) (g := 4) (l := [V.s .i64 (.var 0)]) (args := [.int .i64 a0]) (fun a ha => by cases ha) (fun g hg => by obtain rfl := List.mem_singleton.1 hg; exact sayg5) (smB (i := 0) (by decide) (by decide) sm30a sm30b e) (fun ρ => .cons (.s .i64 (.var 0)) .nil) runFiles21 W h2 h1
    · exact topF_of (σ := fun _ => a0) (G := [5]) (g := 4) (l := [V.s .i64 (.var 0)]) (args := [.int .i64 a0]) (fun a ha => by cases ha) (fun g hg => by obtain rfl := List.mem_singleton.1 hg; exact sayg5) (smB (i := 0) (by decide) (by decide) sm30a sm30b e) (fun ρ => .cons (.s .i64 (.var 0)) .nil) runFiles22 W h2 h1
    · exact topF_of (σ := fun _ => a0) (G := [5]) (g := 4) (l := [V.s .i64 (.var 0)]) (args := [.int .i64 a0]) (fun a ha => by cases ha) (fun g hg => by obtain rfl := List.mem_singleton.1 hg; exact sayg5) (smB (i := 0) (by decide) (by decide) sm30a sm30b e) (fun ρ => .cons (.s .i64 (.var 0)) .nil) runFiles23 W h2 h1
    · exact topF_of (σ := fun _ => a0) (G := [5]) (g := 4) (l := [V.s .i64 (.var 0)]) (args := [.int .i64 a0]) (fun a ha => by cases ha) (fun g hg => by obtain rfl := List.mem_singleton.1 hg; exact sayg5) (smB (i := 0) (by decide) (by decide) sm30a sm30b e) (fun ρ => .cons (.s .i64 (.var 0)) .nil) runFiles24 W h2 h1
    · exact topF_of (σ := fun _ => a0) (G := [5]) (g := 4) (l := [V.s .i64 (.var 0)]) (args := [.int .i64 a0]) (fun a ha => by cases ha) (fun g hg => by obtain rfl := List.mem_singleton.1 hg; exact sayg5) (smB (i := 0) (by decide) (by decide) sm30a sm30b e) (fun ρ => .cons (.s .i64 (.var 0)) .nil) runFiles25 W h2 h1
    · exact topF_of (σ := fun _ => a0) (G := [5]) (g := 4) (l := [V.s .i64 (.var 0)]) (args := [.int .i64 a0]) (fun a ha => by cases ha) (fun g hg => by obtain rfl := List.mem_singleton.1 hg; exact sayg5) (smB (i := 0) (by decide) (by decide) sm30a sm30b e) (fun ρ => .cons (.s .i64 (.var 0)) .nil) runFiles26 W h2 h1
    · exact topF_of (σ := fun _ => a0) (G := [5]) (g := 4) (l := [V.s .i64 (.var 0)]) (args := [.int .i64 a0]) (fun a ha => by cases ha) (fun g hg => by obtain rfl := List.mem_singleton.1 hg; exact sayg5) (smB (i := 0) (by decide) (by decide) sm30a sm30b e) (fun ρ => .cons (.s .i64 (.var 0)) .nil) runFiles27 W h2 h1
    · exact topF_of (σ := fun _ => a0) (G := [5]) (g := 4) (l := [V.s .i64 (.var 0)]) (args := [.int .i64 a0]) (fun a ha => by cases ha) (fun g hg => by obtain rfl := List.mem_singleton.1 hg; exact sayg5) (smB (i := 0) (by decide) (by decide) sm30a sm30b e) (fun ρ => .cons (.s .i64 (.var 0)) .nil) runFiles28 W h2 h1
    · exact topF_of (σ := fun _ => a0) (G := [5]) (g := 4) (l := [V.s .i64 (.var 0)]) (args := [.int .i64 a0]) (fun a ha => by cases ha) (fun g hg => by obtain rfl := List.mem_singleton.1 hg; exact sayg5) (smB (i := 0) (by decide) (by decide) sm30a sm30b e) (fun ρ => .cons (.s .i64 (.var 0)) .nil) runFiles29 W h2 h1
  exact hr.calls Tryz.func4 rfl (by decide)
set_option maxHeartbeats 0 in
theorem wit_ok (os : Os) : Input.okWideB Tryz.prog ((laidW os).forCall (fun _ _ => 0) ⟨#[], #[.int .i64 0], []⟩) 4 ⟨#[], #[.int .i64 0], []⟩ = true := by kernel_rfl
set_option maxHeartbeats 0 in
theorem wit_pre (os : Os) (H : Type) (enc : TypeId × Value → H) : Rows.topFilesSpec.preB enc Tryz.prog Tryz.f4 [] false ((laidW os).forCall (fun _ _ => 0) ⟨#[], #[.int .i64 0], []⟩).memory #[.int .i64 0] 8 = true := by kernel_rfl
set_option maxHeartbeats 0 in
theorem wit_size (os : Os) (H : Type) (enc : TypeId × Value → H) : Rows.topFilesSpec.sizedB enc Tryz.prog Tryz.f4 false ((laidW os).forCall (fun _ _ => 0) ⟨#[], #[.int .i64 0], []⟩).memory #[.int .i64 0] 8 = true := by kernel_rfl
set_option maxRecDepth 100000 in
theorem lifted (os : Os) (started : os.Started) (H : Type) (enc : TypeId × Value → H) :
    ReturnsInHanded {} Tryz.checked os 4 .any (fun w args => (Rows.topFilesSpec.pre enc Tryz.prog Tryz.f4 [] false w args ∧ laidMetH Tryz.prog laid3 w) ∧ sizedMet enc Tryz.prog Tryz.f4 (OpenSpec.ofChange Rows.topFilesSpec) false w args)
      (Rows.topFilesSpec.post enc Tryz.prog Tryz.f4 false true false false) := by
  refine returnsInHanded_of_change_and (C := Tryz.checked) (X := fun w _ => laidMetH Tryz.prog laid3 w) (fun _ _ _ hh h => h.of_heap hh) own started (by kernel_rfl) Tryz.func4 (ChangeSpec.witness_shaped (enc := enc) (C := Tryz.checked) (os := os) (X := fun w _ => laidMetH Tryz.prog laid3 w) false (laidW os) #[.int .i64 0] 8 rfl (laidW_shaped os _) (wit_ok os) (wit_pre os H enc) (wit_size os H enc) (laidW_met os _)) ?_
  intro W base args ds gs before hval0 hW _ _ hL _
  have hval : ∀ (j : Nat) t v, Tryz.f4.params[j]? = some t → args[j]? = some v → Value.okWide Tryz.prog W .any base t v := hval0
  have hW' := hW
  obtain ⟨p, q, hA0, hV, rfl, hfz, hnd⟩ := hW
  have hA : DataW.TrodAll enc Tryz.prog W 0 (fun _ => true) true Tryz.f4.params.toList args.toList ds p := hA0
  rw [Tryz.params4] at hA hval
  obtain ⟨v0, vs0, d0, ds0, p0, q0, hargs, rfl, rfl, h0, r0⟩ := trodAll_cons hA
  obtain ⟨rfl, rfl, rfl⟩ := trodAll_nil r0
  obtain rfl : args = #[v0] := by cases args; simp_all
  obtain ⟨rfl, rfl⟩ := trodVars_none hV
  obtain ⟨a0, rfl, rfl, rfl, w0⟩ := open_int Tryz.underlying3 (hval 0 3 v0 rfl rfl) h0
  clear hA0 hval0
  have hL2 : laidMet Tryz.prog laid3 W := met_of (r := Rows.topFilesRow) rfl hL
  refine (walk a0 hL2).mono fun e W' ⟨v, he, hv, st⟩ => ?_
  subst he
  subst hv
  exact ⟨_, rfl, _, _, _, [], _, [], hW', trodAll_mk1 (shut_bool Tryz.underlying4 _), (trodAll_cons_mk (shut_int Tryz.underlying3 w0) trodAll_mk0), rfl, st.kept _, fun h => by cases h⟩
set_option maxHeartbeats 0 in
set_option maxRecDepth 100000 in
theorem closed : joinedFacts Tryz.prog 4 Tryz.f4 Rows.topFilesSpec Rows.topFilesRow = true := by
  unfold joinedFacts
  rw [fa_out, fa_map, clo_place, clo_unf, clo_rec, clo_vars, fa_key, fa_heard, fa_enter]
  kernel_rfl
theorem fnm : Tryz.prog.funcNamed Rows.topFilesRow.func = some 4 := by kernel_rfl
theorem over : Rows.topFilesRow.holds Tryz.pinned (OpenSpec.ofChange Rows.topFilesSpec) :=
  OpenClaim.holds_of_wide 4 Tryz.f4 rfl rfl rfl rfl rfl rfl rfl ⟨rfl, rfl, rfl, rfl, rfl⟩ rfl rfl rfl rfl rfl fnm Tryz.func4 closed
    (of_decide_eq_true (by kernel_rfl)) (by unfold Func.isWrapper; first | (rw [if_pos (by decide +kernel)]; kernel_rfl) | (rw [if_neg (by decide +kernel)]; exact ⟨rfl, rfl⟩))
    (fun os started H enc _ => lifted os started H enc)
set_option maxHeartbeats 0 in
theorem main_is : Tryz.prog.mainIs = some (Rows.topFilesCard.stood.harness.1, Rows.topFilesCard.stood.harness.2.toList) := by kernel_rfl
theorem row_tie : Rows.topFilesRow.laidByTextAt .later Tryz.pinned [.data, .data, .data] true := OpenClaim.laidByTextAt_later rfl rfl tie3 fa_unsafe
theorem no_go : false = Rows.topFilesRow.goesBy Tryz.prog := by
  have e : Rows.topFilesRow.goesBy Tryz.prog = Tryz.prog.goesAt .entering Rows.topFilesRow.func := rfl
  rw [e]
  unfold Program.goesAt Program.goesFrom
  rw [fnm, Option.any_some, goesN]
  rfl
theorem params_in : ∀ (j t : Nat), Tryz.f4.params[j]? = some t → Tryz.prog.wantsStandIn t = false := by
  intro j t ht
  rw [Tryz.params4] at ht
  have h3 : t ∈ [3] := by
    have := List.mem_of_getElem? (l := [3]) (i := j) (a := t) (by simpa using ht)
    exact this
  simp only [List.mem_cons, List.not_mem_nil, or_false, or_self] at h3
  subst h3
  exact (show Tryz.prog.wantsStandIn 3 = false by kernel_rfl)
theorem proved : Rows.TopFilesCardSaid :=
  Claim7.holds_tied_plain_at .later [] [.data, .data, .data] true Rows.topFilesCard.stood.harness true
    over (fun _ h => by cases h) (by kernel_rfl) (fun _ h => by cases h) row_tie rfl ⟨rfl, rfl⟩ main_is rfl
    (fun f fn hf hfn => by
      obtain rfl : f = 4 := Option.some.inj (fnm.symm.trans hf) |>.symm
      obtain rfl : fn = Tryz.f4 := (Option.some.inj (Tryz.func4.symm.trans hfn)).symm
      exact ⟨fa_looks, params_in⟩)
    no_go
#print axioms proved
end topFiles
end Go.Proofs.YtbolhpgffkdacaaGreatDoor
