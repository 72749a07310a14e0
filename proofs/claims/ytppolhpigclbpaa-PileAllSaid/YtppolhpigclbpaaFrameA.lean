/- A frame in memory; the walks of its small methods. -/
import Derived.Test.YtppolhpigclbpaaMem
set_option linter.unusedVariables false
namespace Go.Proofs.Ytppolhpigclbpaa
open Go.RowKit

/-- A value: is it a reference, its number. -/
abbrev V := Bool × Int
def vCells : List V → List Value
  | [] => []
  | v :: l => .bool v.1 :: .int .i32 v.2 :: vCells l
theorem vCells_length (l : List V) : (vCells l).length = l.length * 2 := by
  induction l with
  | nil => rfl
  | cons v l ih => simp [vCells, ih]; omega
theorem vCells_append (l m : List V) : vCells (l ++ m) = vCells l ++ vCells m := by
  induction l with
  | nil => rfl
  | cons v l ih => simp [vCells, ih]
theorem vCells_at (l : List V) : ∀ {i : Nat} {v : V}, l[i]? = some v → (vCells l)[i * 2]? = some (.bool v.1) ∧ (vCells l)[i * 2 + 1]? = some (.int .i32 v.2) := by
  induction l with
  | nil => intro i v h; simp at h
  | cons p l ih =>
    intro i v h
    cases i with
    | zero => simp at h; subst h; exact ⟨rfl, rfl⟩
    | succ i =>
      simp at h
      have e : (i + 1) * 2 = i * 2 + 1 + 1 := by omega
      simp only [vCells, e, List.getElem?_cons_succ]
      exact ih h
theorem vCells_take (l : List V) : ∀ (n : Nat), vCells (l.take n) = (vCells l).take (n * 2) := by
  induction l with
  | nil => intro n; simp [vCells]
  | cons v l ih =>
    intro n
    cases n with
    | zero => simp [vCells]
    | succ n => rw [List.take_succ_cons, show (n + 1) * 2 = n * 2 + 1 + 1 from by omega]; simp [vCells, ih]
theorem vCells_drop (l : List V) : ∀ (n : Nat), vCells (l.drop n) = (vCells l).drop (n * 2) := by
  induction l with
  | nil => intro n; simp [vCells]
  | cons v l ih =>
    intro n
    cases n with
    | zero => simp
    | succ n => rw [List.drop_succ_cons, show (n + 1) * 2 = n * 2 + 1 + 1 from by omega]; simp [vCells, ih]
theorem vCells_one (l : List V) : ∀ u ∈ vCells l, u.oneCell' = true := by
  induction l with
  | nil => intro u hu; cases hu
  | cons v l ih =>
    intro u hu
    simp [vCells] at hu
    rcases hu with rfl | rfl | hu
    · rfl
    · rfl
    · exact ih u hu
theorem vCells_set (l : List V) : ∀ (i : Nat) (v : V), i < l.length → vCells (l.set i v) = ((vCells l).set (i * 2) (.bool v.1)).set (i * 2 + 1) (.int .i32 v.2) := by
  induction l with
  | nil => intro i v h; simp at h
  | cons p l ih =>
    intro i v h
    cases i with
    | zero => simp [vCells]
    | succ i => rw [show (i + 1) * 2 = i * 2 + 1 + 1 from by omega]; simp [vCells, ih i v (by simpa using h)]
theorem vCells_set2 (l : List V) : ∀ (i : Nat) (v : V) (x : Int), l[i]? = some v → vCells (l.set i (v.1, x)) = (vCells l).set (i * 2 + 1) (.int .i32 x) := by
  induction l with
  | nil => intro i v x h; simp at h
  | cons p l ih =>
    intro i v x h
    cases i with
    | zero => simp at h; subst h; simp [vCells]
    | succ i => rw [show (i + 1) * 2 = i * 2 + 1 + 1 from by omega]; simp at h; simp [vCells, ih i v x h]
/-- The slice (A, n) shows the values. -/
def SeesV (w : World) (B : Nat) (A : Option Addr) (n : Nat) (vs : List V) : Prop := Sees w B A (n * 2) (vCells vs)
theorem SeesV.len {w : World} {B n : Nat} {A : Option Addr} {vs : List V} (h : SeesV w B A n vs) : vs.length = n := by
  have := h.1
  rw [vCells_length] at this
  omega
theorem SeesV.at2 {w : World} {B n k : Nat} {A : Option Addr} {vs : List V} (h : SeesV w B A n vs) (hk : k < n) : ∃ b off v, A = some ⟨b, off, none⟩ ∧ b < B ∧ vs[k]? = some v ∧ w.cell? ⟨b, off + k * 2, none⟩ = some (.bool v.1) ∧ w.cell? ⟨b, off + k * 2 + 1, none⟩ = some (.int .i32 v.2) := by
  obtain ⟨b, off, rfl, hb, hc⟩ := h.2 (by omega)
  have hl := h.len
  have hv := List.getElem?_eq_getElem (show k < vs.length by omega)
  obtain ⟨c0, c1⟩ := vCells_at vs hv
  refine ⟨b, off, _, rfl, hb, hv, hc _ _ c0, ?_⟩
  rw [Nat.add_assoc]
  exact hc _ _ c1

/-- A frame at block p: its method, where it stands, its room, its locals, its stack. -/
structure FrameIn (w : World) (B : Nat) (F : Nat → Prop) (p : Nat) (me pc : Int) (room : Nat) (ls st : List V) : Prop where
  low : ∀ k, F k → B ≤ k ∧ k < w.heap.size
  here : F p
  loc : ls.length ≤ 16
  stk : st.length ≤ room
  most : room ≤ 16
  rows : ∃ lv sv, w.heap[p]? = some (Go.Obj.cells #[.int .i64 me, .int .i64 pc, .int .i64 (room : Int), lv, sv] 70 (0, 0)) ∧ w.ownsRow B 39 2 lv ls.length (vCells ls) ∧ w.ownsRow B 39 2 sv st.length (vCells st) ∧
    (∀ g, lv.ownBlock = some g → F g) ∧ (∀ g, sv.ownBlock = some g → F g) ∧ (∀ g, lv.ownBlock = some g → sv.ownBlock ≠ some g)
section
variable {w w' : World} {B p room : Nat} {F : Nat → Prop} {me pc : Int} {ls st : List V}
theorem FrameIn.keep (h : FrameIn w B F p me pc room ls st) (hs : w.heap.size ≤ w'.heap.size) (hk : ∀ k, F k → w'.heap[k]? = w.heap[k]?) : FrameIn w' B F p me pc room ls st := by
  obtain ⟨lv, sv, h1, h2, h3, h4, h5, h6⟩ := h.rows
  exact ⟨fun k hf => ⟨(h.low k hf).1, Nat.lt_of_lt_of_le (h.low k hf).2 hs⟩, h.here, h.loc, h.stk, h.most, lv, sv, (hk p h.here).trans h1, ownsRow_kept h2 fun g hg => hk g (h4 g hg), ownsRow_kept h3 fun g hg => hk g (h5 g hg), h4, h5, h6⟩
theorem FrameIn.keeps {G : Nat → Prop} (h : FrameIn w B F p me pc room ls st) (hk : Keeps G w w') (hd : ∀ k, F k → ¬ G k) : FrameIn w' B F p me pc room ls st := h.keep hk.size fun k hf => hk.block k (h.low k hf).2 (hd k hf)
theorem FrameIn.drewN (h : FrameIn w B F p me pc room ls st) (q : Nat) : FrameIn (w.drewN q) B F p me pc room ls st := h.keep (Nat.le_refl _) fun _ _ => rfl
theorem FrameIn.reads (h : FrameIn w B F p me pc room ls st) : ∃ A c A2 c2, w.cell? ⟨p, 0, none⟩ = some (.int .i64 me) ∧ w.cell? ⟨p, 1, none⟩ = some (.int .i64 pc) ∧ w.cell? ⟨p, 2, none⟩ = some (.int .i64 (room : Int)) ∧
    w.cell? ⟨p, 3, none⟩ = some (.slice A ls.length c) ∧ w.cell? ⟨p, 4, none⟩ = some (.slice A2 st.length c2) ∧ SeesV w w.heap.size A ls.length ls ∧ SeesV w w.heap.size A2 st.length st ∧ (A2 = none → c2 = 0) ∧ (∀ j, w.frozen? ⟨p, j, none⟩ = false) ∧ st.length ≤ c2 ∧ c2 ≤ maxLen := by
  obtain ⟨lv, sv, h1, h2, h3, h4, h5, h6⟩ := h.rows
  obtain ⟨A, c, rfl, _, _, hA, _, _⟩ := Sees.of_ownN h2
  obtain ⟨A2, c2, rfl, hl2, hm2, hA2, hn2, _⟩ := Sees.of_ownN h3
  refine ⟨A, c, A2, c2, ?_, ?_, ?_, ?_, ?_, hA, hA2, hn2, fun j => frozen_of_row w p j _ 70 h1, hl2, hm2⟩ <;> rw [cell_of_row w p _ _ 70 (0, 0) h1] <;> rfl
theorem method_in (h : FrameIn w B F p me pc room ls st) : Calls Try.prog 37 #[.pointer (some ⟨p, 0, none⟩)] w fun e w' => e = .returned (.int .i64 me) ∧ w = w' := by
  obtain ⟨A, c, A2, c2, h0, h1, h2, h3, h4, _⟩ := h.reads
  clear h
  go_enter Try.func37, Try.ntmps37
  go_wp2_with fail
  go_ret
  exact ⟨rfl, rfl⟩
theorem pc_in (h : FrameIn w B F p me pc room ls st) : Calls Try.prog 36 #[.pointer (some ⟨p, 0, none⟩)] w fun e w' => e = .returned (.int .i64 pc) ∧ w = w' := by
  obtain ⟨A, c, A2, c2, h0, h1, h2, h3, h4, _⟩ := h.reads
  clear h
  go_enter Try.func36, Try.ntmps36
  go_wp2_with fail
  go_ret
  exact ⟨rfl, rfl⟩
theorem depth_in (h : FrameIn w B F p me pc room ls st) : Calls Try.prog 35 #[.pointer (some ⟨p, 0, none⟩)] w fun e w' => e = .returned (.int .i64 (st.length : Int)) ∧ w = w' := by
  obtain ⟨A, c, A2, c2, h0, h1, h2, h3, h4, _⟩ := h.reads
  clear h
  generalize st.length = n at *
  go_enter Try.func35, Try.ntmps35
  go_wp2_with fail
  go_ret
  exact ⟨rfl, rfl⟩
theorem FrameIn.setPc (h : FrameIn w B F p me pc room ls st) (pc' : Int) : FrameIn (w.setCell ⟨p, 1, none⟩ (.int .i64 pc')) B F p me pc' room ls st ∧ Keeps F w (w.setCell ⟨p, 1, none⟩ (.int .i64 pc')) := by
  obtain ⟨lv, sv, h1, h2, h3, h4, h5, h6⟩ := h.rows
  have hK : Keeps F w (w.setCell ⟨p, 1, none⟩ (.int .i64 pc')) := (Keeps.refl F w).setCell (fun _ => h.here) _
  have hne : ∀ {v : Value} {n : Nat} {xs : List Value}, w.ownsRow B 39 2 v n xs → ∀ g, v.ownBlock = some g → g ≠ p := by
    intro v n xs ho g hg e
    obtain ⟨_, _, cur, hc⟩ := own_type3 ho hg
    subst e
    rw [h1] at hc; cases hc
  refine ⟨⟨fun k hf => ⟨(h.low k hf).1, Nat.lt_of_lt_of_le (h.low k hf).2 hK.size⟩, h.here, h.loc, h.stk, h.most, lv, sv, heap_setCell_same w p 1 _ 70 _ h1, ownsRow_kept h2 fun g hg => Below.heap_setCell _ _ _ _ (hne h2 g hg), ownsRow_kept h3 fun g hg => Below.heap_setCell _ _ _ _ (hne h3 g hg), h4, h5, h6⟩, hK⟩
theorem goto_in (h : FrameIn w B F p me pc room ls st) (pc' : Int) : Calls Try.prog 34 #[.pointer (some ⟨p, 0, none⟩), .int .i64 pc'] w fun e w' => e = .returned (.tuple #[]) ∧ FrameIn w' B F p me pc' room ls st ∧ Keeps F w w' := by
  have hs := h.setPc pc'
  obtain ⟨A, c, A2, c2, h0, h1, h2, h3, h4, _, _, _, hz, _⟩ := h.reads
  have HS := hide hs
  clear h hs
  go_enter Try.func34, Try.ntmps34
  go_wp2_with fail
  go_end0
  exact ⟨rfl, HS.out⟩
end
end Go.Proofs.Ytppolhpigclbpaa
