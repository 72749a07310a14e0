/- A copier's place, said in one; the copier begun. -/
import Derived.Test.YtjjoelhemhnojaaCopyA
set_option linter.unusedVariables false
namespace Go.Proofs.Ytjjoelhemhnojaa
open Go.RowKit Go.Instr
open Hp Cp

theorem flat_ge (H : List Hp.Ob) : H.length ≤ (flat H).length := by
  induction H with
  | nil => exact Nat.le_refl _
  | cons o l ih => simp only [flat, List.length_cons, List.length_append]; omega
section
variable {w0 w w' : World} {Fo : Nat → Prop} {p N c t i m : Nat} {H : List Hp.Ob} {R : Int → Nat → Bool} {FL L : List Int}
/-- A place is looked up, or copied. -/
theorem place_any {B : Nat} {Ff : Nat → Prop} (hf : HeapIn w0 B Ff p N H) (h : CpIn w0 w Fo p N H R FL c t L i m) (hF : Cp.Good H FL) (a : Int) (hpre : addO H L a <+: FL) (hi : i < L.length ∨ (i = 0 ∧ m = 0)) :
    Calls Try.prog 41 #[.pointer (some ⟨c, 0, none⟩), .int .i64 a] w fun e w' => e = .returned (.int .i64 (newO H FL a)) ∧ ∃ Fo', CpIn w0 w' Fo' p N H R FL c t (addO H L a) i m ∧ Keeps Fo w w' ∧ (∀ k, Fo' k → Fo k ∨ w.heap.size ≤ k) := by
  rcases add_cases H L a with ⟨hl, e⟩ | ⟨o, hl, ⟨hm, e⟩ | ⟨hm, e⟩⟩
  · rw [e, new_none FL hl]
    refine (place_none hf h hl).mono ?_
    rintro en w' ⟨rfl, rfl⟩
    exact ⟨rfl, Fo, h, Keeps.refl _ _, fun k hk => .inl hk⟩
  · have hs : (lookO H a).isSome = true := by rw [hl]; rfl
    have en : newO H FL a = (offO H FL a : Int) := by unfold newO; rw [if_pos hs]
    rw [e, en]
    refine (place_has hf h hm hs).mono ?_
    rintro en w' ⟨rfl, rfl⟩
    exact ⟨rfl, Fo, h, Keeps.refl _ _, fun k hk => .inl hk⟩
  · have hs : (lookO H a).isSome = true := by rw [hl]; rfl
    have en : newO H FL a = (offO H FL a : Int) := by unfold newO; rw [if_pos hs]
    rw [e] at hpre ⊢
    rw [en]
    have hlen := (good_le H _ (hF.pre h.pre)).1
    have hfl := flat_ge H
    have h1 := hf.le
    have h2 := hf.most
    refine (place_make hf h hF hl hm hpre (hi.elim .inl fun h => .inr (.inr h)) (by omega)).mono ?_
    rintro en w' ⟨rfl, hc, hk⟩
    exact ⟨rfl, _, hc, hk, fun k hg => hg.elim .inl fun hg => .inr hg.1⟩
end
end Go.Proofs.Ytjjoelhemhnojaa
