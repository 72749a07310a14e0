/- The walk of the heap laws' first look: it returns true and leaves what was there as it was. -/
import Derived.Test.YtjjoelhemhnojaaHeapI
set_option linter.unusedVariables false
namespace Go.Proofs.Ytjjoelhemhnojaa
open Go.RowKit
open Hp

theorem HeapIn.of_any {w : World} {B C : Nat} (hB : B ≤ w.heap.size) (hC : C ≤ w.heap.size) {A : Option Addr} {L c : Nat} (objs : List Hp.Ob) (hs : Sees w C A L ((flat objs).map (Value.int .i32))) (hc : A = none → c = 0) (hL : L ≤ 2000000) (hI : ∀ x ∈ flat objs, inI32 x) (hf : ∀ o ∈ objs, okO o) (n : Int)
    (hn : L ≤ clampN n) : Calls Try.prog 20 #[.slice A L c, .int .i64 n] w fun e w' => e = .returned (.tuple #[.pointer (some ⟨w.heap.size, 0, none⟩), .bool true]) ∧ HeapIn w' B (fun k => w.heap.size ≤ k ∧ k < w'.heap.size) w.heap.size (clampN n) objs ∧ Keeps (fun _ => False) w w' := by
  refine (Go.Proofs.Ytjjoelhemhnojaa.of_any w B C hB hC A L c (flat objs) hs hc hL hI n).mono ?_
  rintro e w' ⟨hk, ⟨objs', h1, h2, h3, rfl, h4⟩ | ⟨h1, _⟩⟩
  · obtain ⟨more, hm, hmf⟩ := flat_prefix objs objs' [] (by rw [← h1]; simp)
    have : more = [] := by
      cases more with
      | nil => rfl
      | cons o t => simp [flat] at hmf
    subst this
    obtain rfl : objs' = objs := by simpa using hm
    exact ⟨rfl, h4, hk⟩
  · rcases h1 with h1 | h1
    · have := hs.1
      simp at this
      omega
    · exact absurd ⟨objs, rfl, hf⟩ h1

/-- A heap of the call's own; nothing that was there ahead of the call (W0) has turned. -/
def Solo (W0 w : World) (p N : Nat) (objs : List Hp.Ob) : Prop := ∃ F, HeapIn w W0.heap.size F p N objs ∧ Below W0.heap.size W0 w
namespace Solo
variable {W0 w w' : World} {p N : Nat} {objs : List Hp.Ob}
theorem step {F G : Nat → Prop} {o2 : List Hp.Ob} (h : HeapIn w W0.heap.size F p N objs) (hb : Below W0.heap.size W0 w) (hk : Keeps F w w') (h2 : HeapIn w' W0.heap.size G p N o2) : Solo W0 w' p N o2 :=
  ⟨G, h2, hb.trans (hk.below hb.size fun k hf => (h.low k hf).1)⟩
theorem keeps (h : Solo W0 w p N objs) (hk : Keeps (fun _ => False) w w') : Solo W0 w' p N objs := by
  obtain ⟨F, h1, h2⟩ := h
  exact ⟨F, h1.keeps hk fun _ _ => id, h2.trans (hk.below h2.size fun _ => False.elim)⟩
theorem drewN (h : Solo W0 w p N objs) (n : Nat) : Solo W0 (w.drewN n) p N objs := h.keeps ((Keeps.refl _ w).drewN n)
theorem new (n : Int) (hb : Below W0.heap.size W0 w) : Calls Try.prog 16 #[.int .i64 n] w fun e w' => e = .returned (.pointer (some ⟨w.heap.size, 0, none⟩)) ∧ Solo W0 w' w.heap.size (clampN n) [] :=
  (new_any n w W0.heap.size hb.size).mono fun e w' ⟨he, hi, hk⟩ => ⟨he, _, hi, hb.trans (hk.below hb.size fun _ => False.elim)⟩
theorem make (h : Solo W0 w p N objs) (k : Int) (n : Nat) (hyes : mayO k n = true) (hroom : (n : Int) + 2 ≤ (N : Int) - (flat objs).length) :
    Calls Try.prog 17 #[.pointer (some ⟨p, 0, none⟩), .int .i64 k, .int .i64 (n : Int)] w fun e w' => e = .returned (.tuple #[.int .i64 ((flat objs).length : Int), .bool true]) ∧ Solo W0 w' p N (objs ++ [(k, List.replicate n 0)]) := by
  obtain ⟨F, h1, h2⟩ := h
  exact (h1.make k n hyes hroom).mono fun e w' ⟨he, hi, hk⟩ => ⟨he, step h1 h2 hk hi⟩
theorem make_no (h : Solo W0 w p N objs) (k n : Int) (hno : mayO k n = false ∨ (N : Int) - (flat objs).length < n + 2) (hn : n ≤ 100000000 ∧ -100000000 ≤ n) :
    Calls Try.prog 17 #[.pointer (some ⟨p, 0, none⟩), .int .i64 k, .int .i64 n] w fun e w' => e = .returned (.tuple #[.int .i64 (-1), .bool false]) ∧ Solo W0 w' p N objs := by
  obtain ⟨F, h1, h2⟩ := h
  exact (Go.Proofs.Ytjjoelhemhnojaa.make_no h1 k n hno hn).mono fun e w' ⟨he, hk⟩ => ⟨he, keeps ⟨F, h1, h2⟩ hk⟩
theorem put (h : Solo W0 w p N objs) (a : Int) (i : Nat) (x : Int) (hin : (i : Int) < lenO objs a) :
    Calls Try.prog 18 #[.pointer (some ⟨p, 0, none⟩), .int .i64 a, .int .i64 (i : Int), .int .i32 x] w fun e w' => e = .returned (.bool true) ∧ Solo W0 w' p N (Hp.put objs a i x) := by
  obtain ⟨F, h1, h2⟩ := h
  exact (put_in h1 a i x hin).mono fun e w' ⟨he, hi, hk⟩ => ⟨he, step h1 h2 hk hi⟩
theorem put_out (h : Solo W0 w p N objs) (a i x : Int) (hin : i < 0 ∨ lenO objs a ≤ i) :
    Calls Try.prog 18 #[.pointer (some ⟨p, 0, none⟩), .int .i64 a, .int .i64 i, .int .i32 x] w fun e w' => e = .returned (.bool false) ∧ w = w' := by
  obtain ⟨F, h1, h2⟩ := h
  exact Go.Proofs.Ytjjoelhemhnojaa.put_out h1 a i x hin
theorem size (h : Solo W0 w p N objs) : Calls Try.prog 21 #[.pointer (some ⟨p, 0, none⟩)] w fun e w' => e = .returned (.int .i64 (N : Int)) ∧ w = w' := by
  obtain ⟨F, h1, h2⟩ := h
  exact size_in h1
theorem used (h : Solo W0 w p N objs) : Calls Try.prog 26 #[.pointer (some ⟨p, 0, none⟩)] w fun e w' => e = .returned (.int .i64 ((flat objs).length : Int)) ∧ w = w' := by
  obtain ⟨F, h1, h2⟩ := h
  exact used_in h1
theorem has (h : Solo W0 w p N objs) (a : Int) : Calls Try.prog 23 #[.pointer (some ⟨p, 0, none⟩), .int .i64 a] w fun e w' => e = .returned (.bool (lookO objs a).isSome) ∧ w = w' := by
  obtain ⟨F, h1, h2⟩ := h
  exact has_in h1 a
theorem kind (h : Solo W0 w p N objs) (a : Int) : Calls Try.prog 24 #[.pointer (some ⟨p, 0, none⟩), .int .i64 a] w fun e w' => e = .returned (.int .i64 (kindO objs a)) ∧ w = w' := by
  obtain ⟨F, h1, h2⟩ := h
  exact kind_in h1 a
theorem len (h : Solo W0 w p N objs) (a : Int) : Calls Try.prog 25 #[.pointer (some ⟨p, 0, none⟩), .int .i64 a] w fun e w' => e = .returned (.int .i64 (lenO objs a)) ∧ w = w' := by
  obtain ⟨F, h1, h2⟩ := h
  exact len_in h1 a
theorem get (h : Solo W0 w p N objs) (a i : Int) : Calls Try.prog 27 #[.pointer (some ⟨p, 0, none⟩), .int .i64 a, .int .i64 i] w fun e w' => e = .returned (.int .i32 (getO objs a i)) ∧ w = w' := by
  obtain ⟨F, h1, h2⟩ := h
  exact get_in h1 a i
theorem words (h : Solo W0 w p N objs) : Calls Try.prog 19 #[.pointer (some ⟨p, 0, none⟩)] w fun e w' =>
    ∃ A c, e = .returned (.slice A (flat objs).length c) ∧ Sees w' w'.heap.size A (flat objs).length ((flat objs).map (Value.int .i32)) ∧ (A = none → c = 0) ∧ (∀ b o, A = some ⟨b, o, none⟩ → w.heap.size ≤ b) ∧ Solo W0 w' p N objs := by
  obtain ⟨F, h1, h2⟩ := h
  refine (words_in h1).mono ?_
  rintro e w' ⟨v, rfl, ho, hk⟩
  obtain ⟨A, c, rfl, hA⟩ := Sees.of_own ho
  refine ⟨A, c, rfl, hA, ?_, ?_, keeps ⟨F, h1, h2⟩ hk⟩
  · rintro rfl
    rcases ho.2 with ⟨he, _⟩ | ⟨g, cap, cur, he, _⟩
    · exact (Value.slice.inj he).2.2
    · cases he
  · rintro b o rfl
    exact ownBlock_ge ho b rfl
theorem below (h : Solo W0 w p N objs) : Below W0.heap.size W0 w := by
  obtain ⟨F, h1, h2⟩ := h
  exact h2
/-- Of the words of a heap's own: another heap beside it. -/
theorem of_words (h : Solo W0 w p N objs) {A : Option Addr} {c : Nat} {C : Nat} (hs : Sees w C A (flat objs).length ((flat objs).map (Value.int .i32))) (hC : C ≤ w.heap.size) (hc : A = none → c = 0) (hI : ∀ x ∈ flat objs, inI32 x) (n : Int) (hn : (flat objs).length ≤ clampN n) :
    Calls Try.prog 20 #[.slice A (flat objs).length c, .int .i64 n] w fun e w' => e = .returned (.tuple #[.pointer (some ⟨w.heap.size, 0, none⟩), .bool true]) ∧ Solo W0 w' p N objs ∧ Solo W0 w' w.heap.size (clampN n) objs := by
  obtain ⟨F, h1, h2⟩ := h
  refine (HeapIn.of_any h2.size hC objs hs hc (by have := h1.le; have := h1.most; omega) hI h1.fine n hn).mono ?_
  rintro e w' ⟨rfl, hg, hk⟩
  have hkk := keeps ⟨F, h1, h2⟩ hk
  exact ⟨rfl, hkk, _, hg, hkk.below⟩
end Solo
set_option maxHeartbeats 1000000 in
theorem begun13_any (w : World) : Calls Try.prog 15 #[] w fun e w' => e = .returned (.bool true) ∧ Below w.heap.size w w' := by
  have N0 := hide (Solo.new (W0 := w) (w := w) 10 (Below.refl _ _))
  rw [show clampN 10 = 10 from rfl] at N0
  go_enter Try.func15, Try.ntmps15
  go_wp2_with fail
  refine N0.out.mono ?_
  rintro e w1 ⟨rfl, hin1⟩
  have M1 := hide (hin1.make 3 2 rfl (by simp [flat]))
  rw [show (flat []).length = 0 from rfl] at M1
  clear hin1
  go_wp2_with fail
  refine M1.out.mono ?_
  rintro e w2 ⟨rfl, hin2⟩
  have M2 := hide (hin2.make 1 3 rfl (by simp [flat]))
  rw [show (flat ([] ++ [(3, List.replicate 2 0)])).length = 4 from rfl] at M2
  clear hin2
  go_wp2_with fail
  refine M2.out.mono ?_
  rintro e w3 ⟨rfl, hin3⟩
  have M3 := hide (hin3.make_no 0 0 (.inr (by simp [flat])) (by omega))
  clear hin3
  go_wp2_with fail
  refine M3.out.mono ?_
  rintro e w4 ⟨rfl, hin4⟩
  have M4 := hide (hin4.put 4 2 7 (by decide +kernel))
  rw [show put ([] ++ [(3, List.replicate 2 0)] ++ [(1, List.replicate 3 0)]) 4 2 7 = [(3, [0, 0]), (1, [0, 0, 7])] from rfl] at M4
  clear hin4
  go_wp2_with fail
  refine M4.out.mono ?_
  rintro e w5 ⟨rfl, hin5⟩
  have M5 := hide (hin5.words)
  rw [show (flat [(3, [0, 0]), (1, [0, 0, 7])]).length = 9 from rfl] at M5
  clear hin5
  go_wp2_with fail
  refine M5.out.mono ?_
  rintro e w6 ⟨A, c, rfl, hsee, hc0, _, hin6⟩
  have M6 := hide (hin6.of_words hsee (Nat.le_refl _) hc0 (by unfold inI32; decide) 20 (by decide))
  rw [show clampN 20 = 20 from rfl, show (flat [(3, [0, 0]), (1, [0, 0, 7])]).length = 9 from rfl] at M6
  clear hin6 hsee hc0
  go_wp2_with fail
  refine M6.out.mono ?_
  rintro e w7 ⟨rfl, hin7, hg7⟩
  have K1 := hide (hin7.kind 0)
  have K2 := hide (hin7.len 4)
  have K3 := hide (hin7.get 4 2)
  have K4 := hide (hin7.has 1)
  have K5 := hide (hin7.used)
  have K6 := hide (hin7.size)
  have K7 := hide (hg7.get 4 2)
  have K8 := hide (hg7.size)
  rw [show kindO [(3, [0, 0]), (1, [0, 0, 7])] 0 = 3 from rfl] at K1
  rw [show lenO [(3, [0, 0]), (1, [0, 0, 7])] 4 = 3 from rfl] at K2
  rw [show getO [(3, [0, 0]), (1, [0, 0, 7])] 4 2 = 7 from rfl] at K3 K7
  rw [show (lookO [(3, [0, 0]), (1, [0, 0, 7])] 1).isSome = false from rfl] at K4
  rw [show (flat [(3, [0, 0]), (1, [0, 0, 7])]).length = 9 from rfl] at K5
  have HB := hide hin7.below
  clear hin7 hg7 N0 M1 M2 M3 M4 M5 M6
  go_wp2_with (first
    | (go_at_call 24; (with_reducible refine K1.out.mono ?_); rintro e w' ⟨rfl, rfl⟩)
    | (go_at_call 25; (with_reducible refine K2.out.mono ?_); rintro e w' ⟨rfl, rfl⟩)
    | (go_at_call 27; (with_reducible refine K3.out.mono ?_); rintro e w' ⟨rfl, rfl⟩)
    | (go_at_call 23; (with_reducible refine K4.out.mono ?_); rintro e w' ⟨rfl, rfl⟩)
    | (go_at_call 26; (with_reducible refine K5.out.mono ?_); rintro e w' ⟨rfl, rfl⟩)
    | (go_at_call 21; (with_reducible refine K6.out.mono ?_); rintro e w' ⟨rfl, rfl⟩)
    | (go_at_call 27; (with_reducible refine K7.out.mono ?_); rintro e w' ⟨rfl, rfl⟩)
    | (go_at_call 21; (with_reducible refine K8.out.mono ?_); rintro e w' ⟨rfl, rfl⟩))
  go_ret
  exact ⟨rfl, HB.out⟩
end Go.Proofs.Ytjjoelhemhnojaa
