/- The memory of CopyWild. -/
import Derived.Test.YtjjoelhemhnojaaCopyO
set_option linter.unusedVariables false
namespace Go.Proofs.Ytjjoelhemhnojaa
open Go.RowKit Go.Instr
open Hp Cp

theorem Try.info62 : (Try.prog.info? 62).map (fun i => (i.zero, i.size, i.bytes)) = some (some (.agg #[.int .i64 0, .int .i64 0]), 2, 16) := by kernel_rfl
def wCells : List Nat → List Value
  | [] => []
  | j :: l => .int .i64 (j : Int) :: .int .i64 0 :: wCells l
theorem wCells_append : ∀ (l : List Nat) (j : Nat), wCells (l ++ [j]) = wCells l ++ [.int .i64 (j : Int), .int .i64 0] := by
  intro l
  induction l with
  | nil => intro j; rfl
  | cons y l ih => intro j; simp only [List.cons_append, wCells, ih]
theorem wCells_at : ∀ (l : List Nat) {i j : Nat}, l[i]? = some j → (wCells l)[i * 2]? = some (.int .i64 (j : Int)) := by
  intro l
  induction l with
  | nil => intro i j h; simp at h
  | cons y l ih =>
    intro i j h
    cases i with
    | zero => simp at h; subst h; rfl
    | succ i =>
      rw [show (i + 1) * 2 = i * 2 + 1 + 1 from by omega]
      simpa [wCells] using ih (by simpa using h)
/-- A heap of the call's own, its places, the wild words' numbers. -/
structure WildSt (wk wl w : World) (F : Nat → Prop) (p : Nat) (v : Value) (m : Nat) (xs : List Value) (H : List Hp.Ob) (wv : Value) (ws : List Nat) : Prop where
  heap : HeapIn w wk.heap.size F p 300 H
  low : ∀ g, F g → g < wl.heap.size
  row : w.ownsRow wk.heap.size 3 1 v m xs
  far : ∀ g, v.ownBlock = some g → ¬ F g ∧ g < wl.heap.size
  wild : w.ownsRow wl.heap.size 62 2 wv ws.length (wCells ws)
  below : Below wk.heap.size wk w
  size : wl.heap.size ≤ w.heap.size
namespace WildSt
variable {wk wl w w' : World} {F : Nat → Prop} {p m : Nat} {v wv v2 : Value} {xs : List Value} {H : List Hp.Ob} {ws ws2 : List Nat}
theorem start (h : Beside wk wl p 300 H 3 v m xs) : ∃ F, WildSt wk wl wl F p v m xs H (.slice none 0 0) [] := by
  obtain ⟨F, h1, h2, h3, h4⟩ := h
  exact ⟨F, h1, fun g hg => (h1.low g hg).2, h3, fun g hg => ⟨h4 g hg, own_lt h3 hg⟩, World.ownsRow_nil _ _ _ _, h2, Nat.le_refl _⟩
theorem solo (h : WildSt wk wl w F p v m xs H wv ws) : Solo wk w p 300 H := ⟨F, h.heap, h.below⟩
theorem none_ (h : WildSt wk wl w F p v m xs H wv ws) (hk : Keeps (fun _ => False) w w') : WildSt wk wl w' F p v m xs H wv ws :=
  ⟨h.heap.keeps hk fun _ _ => id, h.low, ownsRow_kept h.row fun g hg => hk.block g (own_lt h.row hg) id, h.far, ownsRow_kept h.wild fun g hg => hk.block g (own_ltN h.wild g hg) id, h.below.trans (hk.below h.below.size fun _ => False.elim), Nat.le_trans h.size hk.size⟩
theorem put (h : WildSt wk wl w F p v m xs H wv ws) (a : Int) (i : Nat) (x : Int) (hin : (i : Int) < lenO H a) :
    Calls Try.prog 18 #[.pointer (some ⟨p, 0, none⟩), .int .i64 a, .int .i64 (i : Int), .int .i32 x] w fun en w' => en = .returned (.bool true) ∧ WildSt wk wl w' F p v m xs (Hp.put H a i x) wv ws := by
  refine (put_in h.heap a i x hin).mono ?_
  rintro en w' ⟨he, hi, hk⟩
  exact ⟨he, hi, h.low, ownsRow_kept h.row fun g hg => hk.block g (own_lt h.row hg) (h.far g hg).1, h.far, ownsRow_kept h.wild fun g hg => hk.block g (own_ltN h.wild g hg) (fun hf => by have := h.low g hf; have := own_ge h.wild g hg; omega), h.below.trans (hk.below h.below.size fun k hf => (h.heap.low k hf).1), Nat.le_trans h.size hk.size⟩
theorem add (h : WildSt wk wl w F p v m xs H wv ws) (ho : w'.ownsRow wl.heap.size 62 2 v2 ws2.length (wCells ws2)) (hg : w.grownBy w' wv.ownBlock) : WildSt wk wl w' F p v m xs H v2 ws2 := by
  have hge := own_ge h.wild
  have hlow : ∀ k, k < wl.heap.size → w'.heap[k]? = w.heap[k]? := fun k hk => hg.block k (Nat.lt_of_lt_of_le hk h.size) fun e => by have := hge k e.symm; omega
  refine ⟨h.heap.keep hg.size fun k hf => hlow k (h.low k hf), h.low, ownsRow_kept h.row fun g hgg => hlow g (h.far g hgg).2, h.far, ho, h.below.grown hg h.below.size fun k e => ?_, Nat.le_trans h.size hg.size⟩
  have := hge k e
  have := h.heap.low p h.heap.here.2
  have := h.low p h.heap.here.2
  omega
end WildSt
/-- What the checks of CopyWild read. -/
structure WildAll (wk w : World) (m k : Nat) (xs : List Int) (rs mv : List Int) (ws : List Nat) (H G : List Hp.Ob) (A2 A11 A13 A16 : Option Addr) (p g : Nat) : Prop where
  places : Sees w w.heap.size A2 m (xs.map (Value.int .i64))
  rts : Sees w w.heap.size A13 k (rs.map (Value.int .i64))
  mvs : Sees w w.heap.size A16 (k + m) (mv.map (Value.int .i64))
  wild : Sees w w.heap.size A11 (ws.length * 2) (wCells ws)
  h : Solo wk w p 300 H
  g : Solo wk w g 300 G
theorem WildAll.keeps {wk w w' : World} {m k : Nat} {xs rs mv : List Int} {ws : List Nat} {H G : List Hp.Ob} {A2 A11 A13 A16 : Option Addr} {p g : Nat} (h : WildAll wk w m k xs rs mv ws H G A2 A11 A13 A16 p g) (hk : Keeps (fun _ => False) w w') : WildAll wk w' m k xs rs mv ws H G A2 A11 A13 A16 p g := by
  have hb : Below w.heap.size w w' := hk.below (Nat.le_refl _) fun _ => False.elim
  have hs : ∀ (A : Option Addr) (n : Nat) (xs : List Value), Sees w w.heap.size A n xs → Sees w' w'.heap.size A n xs := fun A n xs h => (h.below hb).more hk.size
  exact ⟨hs _ _ _ h.places, hs _ _ _ h.rts, hs _ _ _ h.mvs, hs _ _ _ h.wild, h.h.keeps hk, h.g.keeps hk⟩
end Go.Proofs.Ytjjoelhemhnojaa
