/- What 'small' gives. Conditions: none. -/
import Derived.Test.YtbolhpgffkdacaaGreatDoorEvC
import Derived.Test.YtbolhpgffkdacaaGreatDoorRow
set_option linter.unusedVariables false
set_option linter.unusedSimpArgs false
set_option linter.constructorNameAsVariable false
set_option linter.unusedSectionVars false
namespace Go.Proofs.YtbolhpgffkdacaaGreatDoor
open Go Go.Proofs Go.Proofs.YtbolhpgffkdacaaGreatDoor.Ev
set_option linter.unusedVariables false
set_option maxRecDepth 100000
noncomputable def remE (k : Int) : SE := .bin .rem .i64 (.var 0) (.lit k)
noncomputable def resE (k : Int) (r : Bool) : SE := Bool.rec (motive := fun _ => SE) (remE k) (.bin .sub .i64 (.lit 0) (remE k)) r
noncomputable def smA (k : Int) (r : Bool) : List As := [⟨.eql, .lit k, .lit 0, false⟩, ⟨.lss, remE k, .lit 0, r⟩]
noncomputable def smRun (k : Int) (r : Bool) : Bool := evF (cfOf tt (smA k r) (lk4 ft 13)) (evC (cfS (smA k r) [] []) 10) [V.s .i64 (.var 0), V.i .i64 k] eh6 pa0 (fun v _ _ => eqSE v .i64 (resE k r))
/-- What is left of a division, without its sign. -/
def smallZ (x k : Int) : Int := if x.tmod k < 0 then -(x.tmod k) else x.tmod k
theorem small_of {k : Int} (hk : 0 < k) (hk2 : k < 1000000) (h0 : smRun k false = true) (h1 : smRun k true = true) (x : Int) : ∀ w : World, ngl ≤ w.heap.size → CallR Tryz.prog 13 ⟨[.int .i64 x, .int .i64 k]⟩ w fun v w' => v = .int .i64 (smallZ x k) ∧ Stays w w' := by
  intro w hw
  have hb1 : -k < x.tmod k := by
    have := Int.lt_tmod_of_pos x hk
    omega
  have hb2 : x.tmod k < k := Int.tmod_lt_of_pos x hk
  have key : ∀ r : Bool, smRun k r = true → decide (x.tmod k < 0) = r → CallR Tryz.prog 13 ⟨[.int .i64 x, .int .i64 k]⟩ w fun v w' => v = .int .i64 ((resE k r).val (fun _ => x)) ∧ Stays w w' := by
    intro r hr hd
    refine val_true (σ := fun _ => x) (A := smA k r) hmix tok ?_ (cfS_ok (fun _ h => (by cases h)) (fun _ h => (by cases h))) (fnr 13) (fun ρ => .cons (.s .i64 (.var 0)) (.cons (.i .i64 k) .nil)) hr w hw
    intro y hy
    simp only [smA, List.mem_cons, List.not_mem_nil, or_false] at hy
    rcases hy with rfl | rfl
    · show (k == 0) = false
      simp; omega
    · exact hd
  by_cases hn : x.tmod k < 0
  · refine (key true h1 (by simpa using hn)).mono fun v w' ⟨hv, hs⟩ => ⟨?_, hs⟩
    rw [hv]
    congr 1
    show IntKind.wrap .i64 (0 - x.tmod k) = smallZ x k
    unfold smallZ
    rw [if_pos hn]
    simp only [IntKind.wrap, IntKind.bits, IntKind.signed]
    simp
    omega
  · refine (key false h0 (by simpa using hn)).mono fun v w' ⟨hv, hs⟩ => ⟨?_, hs⟩
    rw [hv]
    congr 1
    show x.tmod k = smallZ x k
    unfold smallZ
    rw [if_neg hn]
theorem smallZ_range {k : Int} (hk : 0 < k) (x : Int) : 0 ≤ smallZ x k ∧ smallZ x k < k := by
  have hb1 : -k < x.tmod k := Int.lt_tmod_of_pos x hk
  have hb2 : x.tmod k < k := Int.tmod_lt_of_pos x hk
  unfold smallZ
  split <;> omega
/-- Rows with 'small' known where B says so. -/
noncomputable def cfB (A : List As) (B : List (SE × Int × Int)) (G : List Nat) (g : Nat) : CF := Bool.rec (motive := fun _ => CF) (cfS A [] G g) (CF.s (smS B)) (Nat.beq g 13)
noncomputable def runB (A : List As) (B : List (SE × Int × Int)) (G : List Nat) (g : Nat) (l : List V) : Bool := onG kG fun h => evF (cfOf tt A (lk4 ft g)) (evC (cfB A B G) 1000) l h pa0 (fun v _ _ => onB v fun b => b)
theorem cfB_ok {A : List As} {σ : Nat → Int} {B : List (SE × Int × Int)} {G : List Nat} (hG : ∀ g ∈ G, SaysG g) (hB : ∀ e z r, (e, z, r) ∈ B → ∀ w : World, ngl ≤ w.heap.size → CallR Tryz.prog 13 ⟨[.int .i64 (e.val σ), .int .i64 z]⟩ w fun x w' => x = .int .i64 r ∧ Stays w w') (g : Nat) : FnR Tryz.prog tt A σ g (cfB A B G g) := by
  unfold cfB
  cases h : Nat.beq g 13 with
  | true =>
    obtain rfl := beq_iff'.1 h
    exact fnR_small hB
  | false => exact cfS_ok (fun _ h => (by cases h)) hG g
theorem topB_of {A : List As} {σ : Nat → Int} {B : List (SE × Int × Int)} {G : List Nat} {g : Nat} {l : List V} {args : List Value} (hA : AsOk σ A) (hG : ∀ g ∈ G, SaysG g) (hB : ∀ e z r, (e, z, r) ∈ B → ∀ w : World, ngl ≤ w.heap.size → CallR Tryz.prog 13 ⟨[.int .i64 (e.val σ), .int .i64 z]⟩ w fun x w' => x = .int .i64 r ∧ Stays w w') (hv : ∀ ρ, VRs σ ρ l args) (h : runB A B G g l = true) : ∀ w : World, ngl ≤ w.heap.size → Known kG w → CallR Tryz.prog g ⟨args⟩ w fun x w' => x = .bool true ∧ Stays w w' := top_true hmix tok okKg hA (cfB_ok hG hB) (fnr g) hv h
/-- One place at which 'small' is known. -/
theorem smB {σ : Nat → Int} {i : Nat} {k v : Int} (hk : 0 < k) (hk2 : k < 1000000) (h0 : smRun k false = true) (h1 : smRun k true = true) (e : smallZ (σ i) k = v) : ∀ (x : SE) (z r : Int), (x, z, r) ∈ [(SE.var i, k, v)] → ∀ w : World, ngl ≤ w.heap.size → CallR Tryz.prog 13 ⟨[.int .i64 (x.val σ), .int .i64 z]⟩ w fun y w' => y = .int .i64 r ∧ Stays w w' := by
  intro x z r h w hw
  have h := List.mem_singleton.1 h
  cases h
  rw [← e]
  exact small_of hk hk2 h0 h1 (σ i) w hw
/-- Two. -/
theorem smB2 {σ : Nat → Int} {i i2 : Nat} {k v k2 v2 : Int} (hk : 0 < k) (hk1 : k < 1000000) (hj : 0 < k2) (hj1 : k2 < 1000000) (h0 : smRun k false = true) (h1 : smRun k true = true) (h2 : smRun k2 false = true) (h3 : smRun k2 true = true) (e : smallZ (σ i) k = v) (f : smallZ (σ i2) k2 = v2) : ∀ (x : SE) (z r : Int), (x, z, r) ∈ [(SE.var i, k, v), (SE.var i2, k2, v2)] → ∀ w : World, ngl ≤ w.heap.size → CallR Tryz.prog 13 ⟨[.int .i64 (x.val σ), .int .i64 z]⟩ w fun y w' => y = .int .i64 r ∧ Stays w w' := by
  intro x z r h w hw
  rcases List.mem_cons.1 h with h | h
  · cases h
    rw [← e]
    exact small_of hk hk1 h0 h1 (σ i) w hw
  · have h := List.mem_singleton.1 h
    cases h
    rw [← f]
    exact small_of hj hj1 h2 h3 (σ i2) w hw
set_option linter.unusedVariables false
theorem sm2a : smRun 2 false = true := by kernel_rfl
theorem sm2b : smRun 2 true = true := by kernel_rfl
theorem sm3a : smRun 3 false = true := by kernel_rfl
theorem sm3b : smRun 3 true = true := by kernel_rfl
theorem sm4a : smRun 4 false = true := by kernel_rfl
theorem sm4b : smRun 4 true = true := by kernel_rfl
theorem sm30a : smRun 30 false = true := by kernel_rfl
theorem sm30b : smRun 30 true = true := by kernel_rfl
end Go.Proofs.YtbolhpgffkdacaaGreatDoor
