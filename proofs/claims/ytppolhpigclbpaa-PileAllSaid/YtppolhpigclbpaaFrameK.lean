/- Frames of a call's own: every method's contract, said once more with what stays. -/
import Derived.Test.YtppolhpigclbpaaFrameJ
set_option linter.unusedVariables false
namespace Go.Proofs.Ytppolhpigclbpaa
open Go.RowKit

/-- A frame of the call's own that began at w0. -/
structure Fr (w0 w : World) (F : Nat → Prop) (p : Nat) (me pc : Int) (room : Nat) (ls st : List V) : Prop where
  fr : FrameIn w w0.heap.size F p me pc room ls st
  below : Below w0.heap.size w0 w
/-- A block that is not the frame's. -/
def Safe (F : Nat → Prop) (w : World) (b : Nat) : Prop := ¬ F b ∧ b < w.heap.size
theorem Safe.grown {F : Nat → Prop} {w w' : World} {b : Nat} (h : Safe F w b) (hs : w.heap.size ≤ w'.heap.size) : Safe (grownF F w w') w' b :=
  ⟨fun hf => hf.elim h.1 fun hf => by have := h.2; omega, Nat.lt_of_lt_of_le h.2 hs⟩
theorem Safe.more {F : Nat → Prop} {w w' : World} {b : Nat} (h : Safe F w b) (hs : w.heap.size ≤ w'.heap.size) : Safe F w' b := ⟨h.1, Nat.lt_of_lt_of_le h.2 hs⟩
namespace Fr
variable {w0 w w' : World} {p room : Nat} {F : Nat → Prop} {me pc : Int} {ls st : List V}
theorem none_ (h : Fr w0 w F p me pc room ls st) (hk : Keeps (fun _ => False) w w') : Fr w0 w' F p me pc room ls st := ⟨h.fr.keeps hk fun _ _ => id, h.below.trans (hk.below h.below.size fun _ => False.elim)⟩
theorem step {F2 : Nat → Prop} {pc2 : Int} {ls2 st2 : List V} (h : Fr w0 w F p me pc room ls st) (hk : Keeps F w w') (h2 : FrameIn w' w0.heap.size F2 p me pc2 room ls2 st2) : Fr w0 w' F2 p me pc2 room ls2 st2 := ⟨h2, h.below.trans (hk.below h.below.size fun k hf => (h.fr.low k hf).1)⟩
theorem keepsG {G : Nat → Prop} (h : Fr w0 w F p me pc room ls st) (hk : Keeps G w w') (hG : ∀ k, G k → w0.heap.size ≤ k) (hd : ∀ k, F k → ¬ G k) : Fr w0 w' F p me pc room ls st := ⟨h.fr.keeps hk hd, h.below.trans (hk.below h.below.size hG)⟩
theorem safe_new (h : Fr w0 w F p me pc room ls st) {w2 : World} (hs : w.heap.size < w2.heap.size) : Safe F w2 w.heap.size := ⟨fun hf => by have := (h.fr.low _ hf).2; omega, hs⟩
theorem new (hb : Below w0.heap.size w0 w) (me : Int) (lc room : Nat) {C : Nat} (hC : C ≤ w.heap.size) {A : Option Addr} {n c : Nat} {vs : List V} (hv : SeesV w C A n vs) (hl : lc ≤ 16) (hr : room ≤ 16) (hn : n ≤ lc) :
    Calls Try.prog 24 #[.int .i64 me, .int .i64 (lc : Int), .int .i64 (room : Int), .slice A n c] w fun e w' => e = .returned (.pointer (some ⟨w.heap.size + 1, 0, none⟩)) ∧
      Fr w0 w' (fun k => w.heap.size ≤ k ∧ k < w'.heap.size) (w.heap.size + 1) me 0 room (vs ++ List.replicate (lc - n) (false, 0)) [] ∧ Keeps (fun _ => False) w w' :=
  (new_yes w w0.heap.size hb.size me lc room C hC A n c vs hv hl hr hn).mono fun e w' ⟨he, hf, hk⟩ => ⟨he, ⟨hf, hb.trans (hk.below hb.size fun _ => False.elim)⟩, hk⟩
theorem load (h : Fr w0 w F p me pc room ls st) {i : Nat} {v : V} (hv : ls[i]? = some v) : Calls Try.prog 29 #[.pointer (some ⟨p, 0, none⟩), .int .i64 (i : Int)] w fun e w' => e = .returned (.tuple #[.agg #[.bool v.1, .int .i32 v.2], .bool true]) ∧ Fr w0 w' F p me pc room ls st ∧ Keeps (fun _ => False) w w' :=
  (load_yes h.fr hv).mono fun e w' ⟨he, hk⟩ => ⟨he, h.none_ hk, hk⟩
theorem loadNo (h : Fr w0 w F p me pc room ls st) (i : Int) (hi : i < 0 ∨ (ls.length : Int) ≤ i) : Calls Try.prog 29 #[.pointer (some ⟨p, 0, none⟩), .int .i64 i] w fun e w' => e = .returned (.tuple #[.agg #[.bool false, .int .i32 0], .bool false]) ∧ Fr w0 w' F p me pc room ls st ∧ Keeps (fun _ => False) w w' :=
  (load_no h.fr i hi).mono fun e w' ⟨he, hk⟩ => ⟨he, h.none_ hk, hk⟩
theorem store (h : Fr w0 w F p me pc room ls st) {i : Nat} (hi : i < ls.length) (v : V) : Calls Try.prog 32 #[.pointer (some ⟨p, 0, none⟩), .int .i64 (i : Int), .agg #[.bool v.1, .int .i32 v.2]] w fun e w' => e = .returned (.bool true) ∧ Fr w0 w' F p me pc room (ls.set i v) st ∧ Keeps F w w' :=
  (store_yes h.fr hi v).mono fun e w' ⟨he, hf, hk⟩ => ⟨he, h.step hk hf, hk⟩
theorem storeNo (h : Fr w0 w F p me pc room ls st) (i : Int) (v : V) (hi : i < 0 ∨ (ls.length : Int) ≤ i) : Calls Try.prog 32 #[.pointer (some ⟨p, 0, none⟩), .int .i64 i, .agg #[.bool v.1, .int .i32 v.2]] w fun e w' => e = .returned (.bool false) ∧ Fr w0 w' F p me pc room ls st ∧ Keeps (fun _ => False) w w' :=
  (store_no h.fr i v hi).mono fun e w' ⟨he, hk⟩ => ⟨he, h.none_ hk, hk⟩
theorem push (h : Fr w0 w F p me pc room ls st) {C : Nat} {A : Option Addr} {n c : Nat} {vs : List V} (hv : SeesV w C A n vs) (hc : A = none → c = 0) (hn : st.length + n ≤ room) : Calls Try.prog 25 #[.pointer (some ⟨p, 0, none⟩), .slice A n c] w fun e w' =>
    e = .returned (.bool true) ∧ Fr w0 w' (grownF F w w') p me pc room ls (st ++ vs) ∧ Keeps F w w' :=
  (push_yes h.fr hv hc hn).mono fun e w' ⟨he, hf, hk⟩ => ⟨he, h.step hk hf, hk⟩
theorem pushNo (h : Fr w0 w F p me pc room ls st) (A : Option Addr) (n c : Nat) (hn : (room : Int) - st.length < n) : Calls Try.prog 25 #[.pointer (some ⟨p, 0, none⟩), .slice A n c] w fun e w' => e = .returned (.bool false) ∧ Fr w0 w' F p me pc room ls st ∧ Keeps (fun _ => False) w w' :=
  (push_no h.fr A n c hn).mono fun e w' ⟨he, hk⟩ => ⟨he, h.none_ hk, hk⟩
theorem pop (h : Fr w0 w F p me pc room ls st) {a n : Nat} (hn : st.length = a + n) : Calls Try.prog 30 #[.pointer (some ⟨p, 0, none⟩), .int .i64 (n : Int)] w fun e w' =>
    ∃ v, e = .returned (.tuple #[v, .bool true]) ∧ w'.ownsRow w.heap.size 39 2 v n (vCells (st.drop a)) ∧ Fr w0 w' F p me pc room ls (st.take a) ∧ Keeps F w w' :=
  (pop_yes h.fr hn).mono fun e w' ⟨v, he, ho, hf, hk⟩ => ⟨v, he, ho, h.step hk hf, hk⟩
theorem popNo (h : Fr w0 w F p me pc room ls st) (n : Int) (hn : n < 0 ∨ (st.length : Int) < n) : Calls Try.prog 30 #[.pointer (some ⟨p, 0, none⟩), .int .i64 n] w fun e w' => e = .returned (.tuple #[.slice none 0 0, .bool false]) ∧ w = w' := pop_no h.fr n hn
theorem refs (h : Fr w0 w F p me pc room ls st) (hI : ∀ v ∈ ls ++ st, inI32 v.2) : Calls Try.prog 26 #[.pointer (some ⟨p, 0, none⟩)] w fun e w' =>
    ∃ A c, e = .returned (.slice A (nums (ls ++ st)).length c) ∧ w'.ownsRow w.heap.size 3 1 (.slice A (nums (ls ++ st)).length c) (nums (ls ++ st)).length ((nums (ls ++ st)).map fun n => Value.int .i64 (n - 1)) ∧ Fr w0 w' F p me pc room ls st ∧ Keeps (fun _ => False) w w' := by
  refine (refs_in h.fr hI).mono ?_
  rintro e w' ⟨v, he, ho, hk⟩
  obtain ⟨A, c, rfl, _⟩ := Sees.of_own ho
  exact ⟨A, c, he, ho, h.none_ hk, hk⟩
theorem setRefs (h : Fr w0 w F p me pc room ls st) {C n c : Nat} {A : Option Addr} {xs : List Int} (hs : Sees w C A n (xs.map (Value.int .i64))) (hC : C ≤ w.heap.size) (hA : ∀ b o, A = some ⟨b, o, none⟩ → ¬ F b) (hn : (nums (ls ++ st)).length = n) (hx : ∀ x ∈ xs, -1 ≤ x ∧ x ≤ 1000000) :
    Calls Try.prog 27 #[.pointer (some ⟨p, 0, none⟩), .slice A n c] w fun e w' => e = .returned (.tuple #[]) ∧ Fr w0 w' F p me pc room (turn ls (xs.map (· + 1))) (turn st ((xs.map (· + 1)).drop (nums ls).length)) ∧ Keeps F w w' :=
  (setrefs_yes h.fr hs hC hA hn hx).mono fun e w' ⟨he, hf, hk⟩ => ⟨he, h.step hk hf, hk⟩
theorem setRefsNo (h : Fr w0 w F p me pc room ls st) (A : Option Addr) (n c : Nat) (hn : (nums (ls ++ st)).length ≠ n) : Calls Try.prog 27 #[.pointer (some ⟨p, 0, none⟩), .slice A n c] w fun e w' => e = .returned (.tuple #[]) ∧ Fr w0 w' F p me pc room ls st ∧ Keeps (fun _ => False) w w' :=
  (setrefs_no h.fr A n c hn).mono fun e w' ⟨he, hk⟩ => ⟨he, h.none_ hk, hk⟩
theorem clear (h : Fr w0 w F p me pc room ls st) : Calls Try.prog 33 #[.pointer (some ⟨p, 0, none⟩)] w fun e w' => e = .returned (.tuple #[]) ∧ Fr w0 w' F p me pc room ls [] ∧ Keeps F w w' :=
  (clear_in h.fr).mono fun e w' ⟨he, hf, hk⟩ => ⟨he, h.step hk hf, hk⟩
theorem goto_ (h : Fr w0 w F p me pc room ls st) (pc2 : Int) : Calls Try.prog 34 #[.pointer (some ⟨p, 0, none⟩), .int .i64 pc2] w fun e w' => e = .returned (.tuple #[]) ∧ Fr w0 w' F p me pc2 room ls st ∧ Keeps F w w' :=
  (goto_in h.fr pc2).mono fun e w' ⟨he, hf, hk⟩ => ⟨he, h.step hk hf, hk⟩
end Fr
theorem sees_new (w : World) (vs : List V) (cs : Array Value) (n : Nat) (hcs : cs.toList = vCells vs) (hn : vs.length = n) : SeesV (w.alloc (.cells cs 39)) (w.heap.size + 1) (some ⟨w.heap.size, 0, none⟩) n vs := by
  have h := new_sees w cs 39
  unfold SeesV
  rw [← hcs]
  have : cs.size = n * 2 := by rw [← Array.length_toList, hcs, vCells_length, hn]
  rw [← this]
  exact h
/-- The cells of a block that is not the frame's, behind a step. -/
theorem Safe.kept {F : Nat → Prop} {w w' : World} {b : Nat} {o : Go.Obj} (h : Safe F w b) (hk : Keeps F w w') (hb : w.heap[b]? = some o) : w'.heap[b]? = some o := (hk.block b h.2 h.1).trans hb
theorem Safe.row {F : Nat → Prop} {w w' : World} {base size n : Nat} {e : TypeId} {v : Value} {xs : List Value} (ho : w.ownsRow base e size v n xs) (h : ∀ g, v.ownBlock = some g → ¬ F g) (hk : Keeps F w w') : w'.ownsRow base e size v n xs :=
  ownsRow_kept ho fun g hg => hk.block g (own_type3 ho hg).2.1 (h g hg)
end Go.Proofs.Ytppolhpigclbpaa
