/- The walks of slices.Clone at values and of the frame's Pop. -/
import Derived.Test.YtppolhpigclbpaaFrameC
set_option linter.unusedVariables false
namespace Go.Proofs.Ytppolhpigclbpaa
open Go.RowKit

theorem clone_any (w : World) (B : Nat) (hB : B ≤ w.heap.size) (A : Option Addr) (n c : Nat) (vs : List V) (hs : SeesV w B A n vs) (hc : A = none → c = 0) (hn : n ≤ 2000000000) : Calls Try.prog 49 #[.slice A n c] w fun e w' =>
    ∃ v, e = .returned v ∧ w'.ownsRow w.heap.size 39 2 v n (vCells vs) ∧ Keeps (fun _ => False) w w' := by
  rcases A with _ | ad
  · obtain rfl := hc rfl
    have h0 : n = 0 := by
      rcases Nat.eq_zero_or_pos n with h | h
      · exact h
      · obtain ⟨b, off, hA, _⟩ := hs.2 (by omega); cases hA
    subst h0
    have hx : vs = [] := List.eq_nil_of_length_eq_zero hs.len
    subst hx
    clear hs hc
    go_enter Try.func49, Try.ntmps49
    go_wp2_with fail
    rw [Go.Lib.run_eql_slice_nil w 29 39 _ _ _ _ _ Try.underlying29]
    go_simp
    go_wp2_with fail
    go_ret
    exact ⟨_, rfl, World.ownsRow_nil _ _ _ _, Keeps.refl _ _⟩
  · have HS := hide hs
    clear hs hc
    go_enter Try.func49, Try.ntmps49
    obtain ⟨i0, hi0, hz0, hz1, hz2⟩ := info_parts Try.info39
    have HI := hide hi0
    have HZ0 := hide hz0
    have HZ1 := hide hz1
    have HZ2 := hide hz2
    clear hi0 hz0 hz1 hz2
    go_wp2_with fail
    rw [Go.Lib.run_eql_slice_nil w 29 39 _ _ _ _ _ Try.underlying29]
    have hown := World.ownsRow_lit (base := w.heap.size) (e := 39) (size := 2) w #[] 0 (Nat.le_refl _) (by unfold maxLen; omega) rfl
    have hg0 : Keeps (fun _ => False) w (w.alloc (.cells #[] 39)) := (Keeps.refl _ w).alloc _
    have hs1 : w.heap.size ≤ (w.alloc (.cells #[] 39)).heap.size := hg0.size
    have hsee : Sees (w.alloc (.cells #[] 39)) B (some ad) (n * 2) (vCells vs) := HS.out.alloc hB (.cells #[] 39)
    go_wp2_with (at_builtin; refine wpList_append_seesN _ rfl (.tmp 5) (.tmp 6) 29 rfl w.heap.size 39 i0 _ 2 8 Try.underlying29 HI.out HZ0.out HZ1.out HZ2.out (by rfl) (by omega) _ 0 [] (by rfl) hown B _ n c _ (by rfl) hsee (fun e => nomatch e) (vCells_one vs) (by unfold maxLen; omega) (by omega) hs1 ?_; intro v2 w2 hown2 hg2 hat2)
    go_ret
    refine ⟨_, rfl, by simpa using hown2, hg0.grown hg2 fun g hg hlt => ?_⟩
    have := Option.some.inj (show some w.heap.size = some g from hg)
    omega
section
variable {w w' w2 : World} {B p room : Nat} {F : Nat → Prop} {me pc : Int} {ls st : List V}
theorem none_pop (w : World) (n : Int) : Calls Try.prog 30 #[.pointer none, .int .i64 n] w fun e w' => e = .returned (.tuple #[.slice none 0 0, .bool false]) ∧ w = w' := by
  go_enter Try.func30, Try.ntmps30
  go_wp2_with fail
  go_ret2
  exact ⟨rfl, rfl⟩
theorem pop_no (h : FrameIn w B F p me pc room ls st) (n : Int) (hn : n < 0 ∨ (st.length : Int) < n) : Calls Try.prog 30 #[.pointer (some ⟨p, 0, none⟩), .int .i64 n] w fun e w' => e = .returned (.tuple #[.slice none 0 0, .bool false]) ∧ w = w' := by
  obtain ⟨A1, c1, A2, c2, h0, h1, h2, h3, h4, _⟩ := h.reads
  clear h
  generalize st.length = k at *
  have hw : n < 0 ∨ (0 ≤ n ∧ (k : Int) < n) := by omega
  clear hn
  rcases hw with hn | ⟨hn0, hn⟩
  · go_enter Try.func30, Try.ntmps30
    go_wp2_with fail
    go_ret2
    exact ⟨rfl, rfl⟩
  · go_enter Try.func30, Try.ntmps30
    go_wp2_with fail
    go_ret2
    exact ⟨rfl, rfl⟩
theorem own_same (A : Option Addr) (n m c : Nat) : (Value.slice A n c).ownBlock = (Value.slice A m c).ownBlock := by cases A <;> rfl
theorem ownsRow_take {w : World} {base size n m c : Nat} {e : TypeId} {A : Option Addr} {xs : List Value} (h : w.ownsRow base e size (.slice A n c) n xs) (hm : m ≤ n) : w.ownsRow base e size (.slice A m c) m (xs.take (m * size)) := by
  obtain ⟨h1, h2⟩ := h
  have hle : m * size ≤ n * size := Nat.mul_le_mul_right _ hm
  refine ⟨by rw [List.length_take, h1]; omega, ?_⟩
  rcases h2 with ⟨he, hn⟩ | ⟨g, cap, cur, he, hb, hh, hnc, hcm, hsz, ht⟩
  · cases he
    have : m = 0 := by omega
    subst this
    exact .inl ⟨rfl, rfl⟩
  · cases he
    exact .inr ⟨g, c, cur, rfl, hb, hh, by omega, hcm, hsz, by rw [← ht, List.take_take, Nat.min_eq_left hle]⟩
set_option maxHeartbeats 1000000 in
theorem pop_yes (h : FrameIn w B F p me pc room ls st) {a n : Nat} (hn : st.length = a + n) : Calls Try.prog 30 #[.pointer (some ⟨p, 0, none⟩), .int .i64 (n : Int)] w fun e w' =>
    ∃ v, e = .returned (.tuple #[v, .bool true]) ∧ w'.ownsRow w.heap.size 39 2 v n (vCells (st.drop a)) ∧ FrameIn w' B F p me pc room ls (st.take a) ∧ Keeps F w w' := by
  obtain ⟨A1, c1, A2, c2, h0, h1, h2, h3, h4, _, hA2, hc2, hz, hk2, hm2⟩ := h.reads
  have hst := h.stk
  have hr := h.most
  have hfrom := Sees.from_ hA2 (k := a * 2) (cap := (a + n) * 2 + 1) (by omega) (by omega)
  rw [if_neg (by omega), ← vCells_drop, show st.length * 2 - a * 2 = n * 2 from by omega] at hfrom
  have CL := fun (A : Option Addr) c hs hc => hide (clone_any w w.heap.size (Nat.le_refl _) A n c (st.drop a) hs hc (by omega))
  have hend : ∀ (w3 : World) (v : Value), Keeps (fun _ => False) w w3 → w3.ownsRow w.heap.size 39 2 v n (vCells (st.drop a)) → (w3.cell? ⟨p, 4, none⟩ = some (.slice A2 (a + n) c2) ∧ w3.frozen? ⟨p, 4, none⟩ = false) ∧ (w3.setCell ⟨p, 4, none⟩ (.slice A2 a c2)).ownsRow w.heap.size 39 2 v n (vCells (st.drop a)) ∧ FrameIn (w3.setCell ⟨p, 4, none⟩ (.slice A2 a c2)) B F p me pc room ls (st.take a) ∧ Keeps F w (w3.setCell ⟨p, 4, none⟩ (.slice A2 a c2)) := by
    intro w3 v hk hv
    have hp := (h.low p h.here).2
    obtain ⟨e1, e2, e3⟩ := h.setStack (w2 := w3) (F2 := F) (sv := .slice A2 a c2) (st2 := st.take a) (fun lv sv0 hb h2' hs' h3' => by
        have hsv : sv0 = .slice A2 st.length c2 := by
          rw [cell_of_row w p 4 _ 70 (0, 0) hb] at h4
          simpa using h4
        subst hsv
        exact ⟨fun g hg => ⟨hk.block g (own_type3 h2' hg).2.1 id, by rw [own_same A2 a st.length c2]; exact (hs' g hg).1⟩, hk.block p hp id, fun g hg => (by
          obtain ⟨lv, sv, k1, k2, k3, k4, k5, k6⟩ := h.rows
          rw [cell_of_row w p 4 _ 70 (0, 0) k1] at h4
          have : sv = .slice A2 st.length c2 := by simpa using h4
          subst this
          exact k5 g (by rw [own_same A2 st.length a c2]; exact hg))⟩) hk.size (fun _ h => h) (fun k hf => ⟨(h.low k hf).1, Nat.lt_of_lt_of_le (h.low k hf).2 hk.size⟩) (by rw [List.length_take]; omega)
      (by
        obtain ⟨lv, sv, k1, k2, k3, k4, k5, k6⟩ := h.rows
        rw [cell_of_row w p 4 _ 70 (0, 0) k1] at h4
        have : sv = .slice A2 st.length c2 := by simpa using h4
        subst this
        have := ownsRow_take (ownsRow_kept k3 fun g hg => hk.block g (own_type3 k3 hg).2.1 id) (m := a) (by omega)
        rw [← vCells_take] at this
        rw [List.length_take, Nat.min_eq_left (by omega)]
        exact this)
    refine ⟨⟨by rw [e1, h4, hn], e2⟩, ownsRow_kept hv fun g hg => Below.heap_setCell _ _ _ _ fun e => ?_, e3, (hk.more fun _ _ => False.elim).setCell (fun _ => h.here) _⟩
    have := (own_type3 hv hg).1
    have e' : g = p := e
    omega
  have HE := hide hend
  have HF := hide hfrom
  have HC2 := hide hc2
  have HN := hide hn
  unfold maxLen at hm2
  rw [hn] at h4 hk2 hst
  clear h hA2 hc2 hfrom hend hn
  go_enter Try.func30, Try.ntmps30
  by_cases hcap : c2 = a
  · have hn0 : n = 0 := by omega
    subst hn0
    subst hcap
    have C1 := CL A2 0 (by
      show Sees _ _ _ (0 * 2) _
      rw [List.drop_of_length_le (by have := HN.out; omega)]
      exact Sees.nil_ _ _ _) (fun _ => rfl)
    clear CL
    go_wp2_with (go_at_call 49; (with_reducible refine C1.out.mono ?_); rintro e w3 ⟨v, rfl, hv, hk⟩; obtain ⟨⟨q1, q2⟩, q3, q4, q5⟩ := HE.out w3 v hk hv; have HQ := hide (And.intro q3 (And.intro q4 q5)); clear hv hk q3 q4 q5)
    go_ret2
    exact ⟨_, rfl, HQ.out⟩
  · have hcap' : ¬ ((c2 : Int) = (a : Int)) := by omega
    have C1 := CL (A2.map (fun x => x.add (a * 2))) (c2 - a) HF.out (fun e => by
      cases A2 with
      | none => have := HC2.out rfl; omega
      | some x => cases e)
    clear CL
    go_wp2_with (go_at_call 49; (with_reducible refine C1.out.mono ?_); rintro e w3 ⟨v, rfl, hv, hk⟩; obtain ⟨⟨q1, q2⟩, q3, q4, q5⟩ := HE.out w3 v hk hv; have HQ := hide (And.intro q3 (And.intro q4 q5)); clear hv hk q3 q4 q5)
    go_ret2
    exact ⟨_, rfl, HQ.out⟩
end
end Go.Proofs.Ytppolhpigclbpaa
