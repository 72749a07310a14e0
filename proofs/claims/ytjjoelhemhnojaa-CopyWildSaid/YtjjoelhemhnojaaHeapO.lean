/- The memory of the law HeapAll: a heap, the law's own list of what was made, and each one's words. -/
import Derived.Test.YtjjoelhemhnojaaHeapN
set_option linter.unusedVariables false
namespace Go.Proofs.Ytjjoelhemhnojaa
open Go.RowKit
open Hp

def recCells : Nat → List Hp.Ob → List Nat → List Value
  | n, o :: l, g :: gs => .int .i64 (n : Int) :: .int .i64 o.1 :: .slice (some ⟨g, 0, none⟩) o.2.length o.2.length :: recCells (n + 2 + o.2.length) l gs
  | _, _, _ => []
theorem recCells_append (l : List Hp.Ob) : ∀ (n : Nat) (gs : List Nat) (o : Hp.Ob) (g : Nat), gs.length = l.length → recCells n (l ++ [o]) (gs ++ [g]) = recCells n l gs ++ [.int .i64 ((n + (flat l).length : Nat) : Int), .int .i64 o.1, .slice (some ⟨g, 0, none⟩) o.2.length o.2.length] := by
  induction l with
  | nil =>
    intro n gs o g h
    have : gs = [] := List.eq_nil_of_length_eq_zero h
    subst this
    simp [recCells, flat]
  | cons p l ih =>
    intro n gs o g h
    cases gs with
    | nil => simp at h
    | cons g0 gs =>
      simp only [List.cons_append, recCells]
      rw [ih _ _ _ _ (by simpa using h)]
      simp [flat]
      omega
theorem recCells_at (l : List Hp.Ob) : ∀ (n : Nat) (gs : List Nat) {i a g : Nat} {o : Hp.Ob}, (placesFrom n l)[i]? = some a → l[i]? = some o → gs[i]? = some g →
    (recCells n l gs)[i * 3]? = some (.int .i64 (a : Int)) ∧ (recCells n l gs)[i * 3 + 1]? = some (.int .i64 o.1) ∧ (recCells n l gs)[i * 3 + 2]? = some (.slice (some ⟨g, 0, none⟩) o.2.length o.2.length) := by
  induction l with
  | nil => intro n gs i a g o h; simp [placesFrom] at h
  | cons p l ih =>
    intro n gs i a g o h1 h2 h3
    cases gs with
    | nil => simp at h3
    | cons g0 gs =>
      cases i with
      | zero =>
        simp [placesFrom] at h1 h2 h3
        subst h1 h2 h3
        exact ⟨rfl, rfl, rfl⟩
      | succ i =>
        simp only [placesFrom, List.getElem?_cons_succ] at h1 h2 h3
        obtain ⟨k0, k1, k2⟩ := ih _ gs h1 h2 h3
        have e : (i + 1) * 3 = i * 3 + 1 + 1 + 1 := by omega
        simp only [recCells, e, List.getElem?_cons_succ]
        exact ⟨k0, k1, k2⟩
theorem recCells_set (l : List Hp.Ob) : ∀ (n : Nat) (gs : List Nat) (i : Nat) (o o' : Hp.Ob), l[i]? = some o → o'.1 = o.1 → o'.2.length = o.2.length → recCells n (l.set i o') gs = recCells n l gs := by
  induction l with
  | nil => intro n gs i o o' h; simp at h
  | cons p l ih =>
    intro n gs i o o' h h1 h2
    cases gs with
    | nil => cases i <;> simp [recCells]
    | cons g0 gs =>
      cases i with
      | zero =>
        simp at h
        subst h
        simp [recCells, h1, h2]
      | succ i =>
        simp at h
        simp only [List.set_cons_succ, recCells]
        rw [ih _ gs i o o' h h1 h2]
theorem put_set (l : List Hp.Ob) : ∀ (n : Nat) {k a : Nat} {o : Hp.Ob} (i : Nat) (x : Int), (placesFrom n l)[k]? = some a → l[k]? = some o → Hp.put l ((a : Int) - n) i x = l.set k (o.1, o.2.set i x) := by
  induction l with
  | nil => intro n k a o i x h; simp [placesFrom] at h
  | cons p l ih =>
    intro n k a o i x h1 h2
    unfold Hp.put
    cases k with
    | zero =>
      simp [placesFrom] at h1 h2
      subst h1 h2
      rw [if_pos (by omega)]
      rfl
    | succ k =>
      simp only [placesFrom, List.getElem?_cons_succ] at h1 h2
      have := placesFrom_ge l _ h1
      rw [if_neg (by omega), List.set_cons_succ, ← ih (n + 2 + p.2.length) i x h1 h2]
      congr 2
      omega
where placesFrom_ge (l : List Hp.Ob) (n : Nat) {k a : Nat} (h : (placesFrom n l)[k]? = some a) : n ≤ a := places_lt l n h
theorem places_set (l : List Hp.Ob) : ∀ (n i : Nat) (o o' : Hp.Ob), l[i]? = some o → o'.2.length = o.2.length → placesFrom n (l.set i o') = placesFrom n l := by
  induction l with
  | nil => intro n i o o' h; simp at h
  | cons p l ih =>
    intro n i o o' h h2
    cases i with
    | zero => simp at h; subst h; simp [placesFrom, h2]
    | succ i => simp at h; simp only [List.set_cons_succ, placesFrom]; rw [ih _ i o o' h h2]

/-- The heap holds ho; the law's list l holds objs; all blocks of both lie below T. -/
structure AllSt (w0 w : World) (T p N : Nat) (ho objs : List Hp.Ob) (gs : List Nat) (lv : Value) : Prop where
  ex : ∃ (F : Nat → Prop), HeapIn w w0.heap.size F p N ho ∧ (∀ k, F k → k < T) ∧ w.ownsRow w0.heap.size 33 3 lv objs.length (recCells 0 objs gs) ∧ (∀ g, lv.ownBlock = some g → ¬ F g ∧ g ∉ gs ∧ g < T) ∧
    gs.length = objs.length ∧ gs.Nodup ∧ (∀ g ∈ gs, w0.heap.size ≤ g ∧ g < T ∧ ¬ F g) ∧ (∀ (i g : Nat) (o : Hp.Ob), gs[i]? = some g → objs[i]? = some o → w.heap[g]? = some (Go.Obj.cells (o.2.map (Value.int .i32)).toArray 21 (0, 0)))
  below : Below w0.heap.size w0 w
  top : T ≤ w.heap.size
theorem own_type3 {w : World} {B n g : Nat} {e : TypeId} {s : Nat} {v : Value} {xs : List Value} (h : w.ownsRow B e s v n xs) (hg : v.ownBlock = some g) : B ≤ g ∧ g < w.heap.size ∧ ∃ cur, w.heap[g]? = some (.cells cur e (0, 0)) := by
  rcases h.2 with ⟨rfl, _⟩ | ⟨g', cap, cur, rfl, hb, hh, _⟩
  · cases hg
  · cases hg; exact ⟨hb, lt_of_heap hh, cur, hh⟩
namespace AllSt
variable {w0 w w' : World} {T T' p N : Nat} {ho objs : List Hp.Ob} {gs : List Nat} {lv : Value}
theorem keeps {G : Nat → Prop} (h : AllSt w0 w T p N ho objs gs lv) (hk : Keeps G w w') (hG : ∀ k, G k → T ≤ k) : AllSt w0 w' T p N ho objs gs lv := by
  obtain ⟨⟨F, h1, h2, h3, h4, h5, h6, h7, h8⟩, hb, ht⟩ := h
  have hT : ∀ k, k < T → w'.heap[k]? = w.heap[k]? := fun k hk' => hk.block k (by omega) fun hg => by have := hG k hg; omega
  have hb0 : w0.heap.size ≤ T := by have := h1.low p h1.here.2; have := h2 p h1.here.2; omega
  refine ⟨⟨F, h1.keep hk.size fun k hf => hT k (h2 k hf), h2, ownsRow_kept h3 fun g hg => hT g (h4 g hg).2.2, h4, h5, h6, h7, fun i g o hg ho' => (hT g (h7 g (List.mem_of_getElem? hg)).2.1).trans (h8 i g o hg ho')⟩, hb.trans (hk.below hb.size fun k hg => Nat.le_trans hb0 (hG k hg)), Nat.le_trans ht hk.size⟩
theorem none_ (h : AllSt w0 w T p N ho objs gs lv) (hk : Keeps (fun _ => False) w w') : AllSt w0 w' T p N ho objs gs lv := h.keeps hk fun _ => False.elim
theorem raise (h : AllSt w0 w T p N ho objs gs lv) (hT : T ≤ T') (hw : T' ≤ w.heap.size) : AllSt w0 w T' p N ho objs gs lv := by
  obtain ⟨⟨F, h1, h2, h3, h4, h5, h6, h7, h8⟩, hb, ht⟩ := h
  exact ⟨⟨F, h1, fun k hk => Nat.lt_of_lt_of_le (h2 k hk) hT, h3, fun g hg => ⟨(h4 g hg).1, (h4 g hg).2.1, Nat.lt_of_lt_of_le (h4 g hg).2.2 hT⟩, h5, h6, fun g hg => ⟨(h7 g hg).1, Nat.lt_of_lt_of_le (h7 g hg).2.1 hT, (h7 g hg).2.2⟩, h8⟩, hb, hw⟩
theorem heapIn (h : AllSt w0 w T p N ho objs gs lv) : ∃ F, HeapIn w w0.heap.size F p N ho ∧ ∀ k, F k → k < T := by
  obtain ⟨⟨F, h1, h2, _⟩, _⟩ := h
  exact ⟨F, h1, h2⟩
theorem low (h : AllSt w0 w T p N ho objs gs lv) : w0.heap.size ≤ T := by
  obtain ⟨F, h1, h2⟩ := h.heapIn
  have := h1.low p h1.here.2
  have := h2 p h1.here.2
  omega
theorem make (h : AllSt w0 w T p N ho objs gs lv) (k : Int) (m : Nat) (hyes : mayO k m = true) (hroom : (m : Int) + 2 ≤ (N : Int) - (flat ho).length) :
    Calls Try.prog 17 #[.pointer (some ⟨p, 0, none⟩), .int .i64 k, .int .i64 (m : Int)] w fun e w' => e = .returned (.tuple #[.int .i64 ((flat ho).length : Int), .bool true]) ∧ AllSt w0 w' w'.heap.size p N (ho ++ [(k, List.replicate m 0)]) objs gs lv ∧ Keeps (fun k => k < T) w w' := by
  obtain ⟨⟨F, h1, h2, h3, h4, h5, h6, h7, h8⟩, hb, ht⟩ := h
  refine (h1.make k m hyes hroom).mono ?_
  rintro e w' ⟨he, hi, hk⟩
  refine ⟨he, ⟨⟨_, hi, fun k hk' => ?_, ownsRow_kept h3 fun g hg => hk.block g (by have := (h4 g hg).2.2; omega) (h4 g hg).1, fun g hg => ?_, h5, h6, fun g hg => ?_, fun i g o hg ho' => ?_⟩, hb.trans (hk.below hb.size fun k hf => (h1.low k hf).1), Nat.le_refl _⟩, hk.more fun k _ hf => h2 k hf⟩
  · exact (hi.low k hk').2
  · refine ⟨?_, (h4 g hg).2.1, by have := (h4 g hg).2.2; have := hk.size; omega⟩
    rintro (hf | hf)
    · exact (h4 g hg).1 hf
    · have := (h4 g hg).2.2
      omega
  · refine ⟨(h7 g hg).1, by have := (h7 g hg).2.1; have := hk.size; omega, ?_⟩
    rintro (hf | hf)
    · exact (h7 g hg).2.2 hf
    · have := (h7 g hg).2.1
      omega
  · have := h7 g (List.mem_of_getElem? hg)
    exact (hk.block g (by omega) this.2.2).trans (h8 i g o hg ho')
theorem put (h : AllSt w0 w T p N ho objs gs lv) (a : Int) (i : Nat) (x : Int) (hin : (i : Int) < lenO ho a) :
    Calls Try.prog 18 #[.pointer (some ⟨p, 0, none⟩), .int .i64 a, .int .i64 (i : Int), .int .i32 x] w fun e w' => e = .returned (.bool true) ∧ AllSt w0 w' T p N (Hp.put ho a i x) objs gs lv ∧ Keeps (fun k => k < T) w w' := by
  obtain ⟨⟨F, h1, h2, h3, h4, h5, h6, h7, h8⟩, hb, ht⟩ := h
  refine (put_in h1 a i x hin).mono ?_
  rintro e w' ⟨he, hi, hk⟩
  refine ⟨he, ⟨⟨F, hi, h2, ownsRow_kept h3 fun g hg => hk.block g (by have := (h4 g hg).2.2; omega) (h4 g hg).1, h4, h5, h6, h7, fun i g o hg ho' => ?_⟩, hb.trans (hk.below hb.size fun k hf => (h1.low k hf).1), Nat.le_trans ht hk.size⟩, hk.more fun k _ hf => h2 k hf⟩
  have := h7 g (List.mem_of_getElem? hg)
  exact (hk.block g (by omega) this.2.2).trans (h8 i g o hg ho')
/-- The list as it is read. -/
theorem recs (h : AllSt w0 w T p N ho objs gs lv) : ∃ A c, lv = .slice A objs.length c ∧ Recs w T A objs.length objs := by
  obtain ⟨⟨F, h1, h2, h3, h4, h5, h6, h7, h8⟩, hb, ht⟩ := h
  rcases Nat.eq_zero_or_pos objs.length with h0 | h0
  · have : objs = [] := List.eq_nil_of_length_eq_zero h0
    subst this
    rcases h3.2 with ⟨rfl, _⟩ | ⟨g, cap, cur, rfl, _⟩
    · exact ⟨none, 0, rfl, rfl, fun h => absurd h (by simp)⟩
    · exact ⟨some ⟨g, 0, none⟩, cap, rfl, rfl, fun h => absurd h (by simp)⟩
  · obtain ⟨g, cap, rfl, hbg, hgs⟩ := h3.form h0
    refine ⟨some ⟨g, 0, none⟩, cap, rfl, rfl, fun _ => ⟨g, 0, rfl, (h4 g rfl).2.2, fun i a o hpa hoi => ?_⟩⟩
    have hil : i < objs.length := (List.getElem?_eq_some_iff.1 hoi).1
    have hg := List.getElem?_eq_getElem (show i < gs.length by omega)
    obtain ⟨r0, r1, r2⟩ := recCells_at objs 0 gs hpa hoi hg
    refine ⟨?_, ?_, some ⟨gs[i], 0, none⟩, o.2.length, ?_, by simp, fun hn => ⟨gs[i], 0, rfl, (h7 _ (List.getElem_mem _)).2.1, fun j u hu => ?_⟩⟩
    · rw [Nat.zero_add, h3.cellAt (i * 3) (by omega)]; exact r0
    · rw [Nat.zero_add, h3.cellAt (i * 3 + 1) (by omega)]; exact r1
    · rw [Nat.zero_add, h3.cellAt (i * 3 + 2) (by omega)]; exact r2
    · rw [Nat.zero_add, cell_of_row w _ j _ 21 (0, 0) (h8 i _ o hg hoi)]
      simpa using hu
theorem glen (h : AllSt w0 w T p N ho objs gs lv) : gs.length = objs.length := by
  obtain ⟨⟨F, h1, h2, h3, h4, h5, h6, h7, h8⟩, hb, ht⟩ := h
  exact h5
theorem row (h : AllSt w0 w T p N ho objs gs lv) : w.ownsRow w0.heap.size 33 3 lv objs.length (recCells 0 objs gs) := by
  obtain ⟨⟨F, h1, h2, h3, h4, h5, h6, h7, h8⟩, hb, ht⟩ := h
  exact h3
/-- One more was listed. -/
theorem listed (h : AllSt w0 w T p N ho objs gs lv) {W2 : World} {S : Nat} {v2 : Value} {o : Hp.Ob} (hk : Keeps (fun _ => False) w W2) (hS : w.heap.size ≤ S) (hS2 : S < W2.heap.size) (hc : W2.heap[S]? = some (Go.Obj.cells (o.2.map (Value.int .i32)).toArray 21 (0, 0)))
    (ho2 : w'.ownsRow w0.heap.size 33 3 v2 (objs.length + 1) (recCells 0 objs gs ++ [.int .i64 ((flat objs).length : Int), .int .i64 o.1, .slice (some ⟨S, 0, none⟩) o.2.length o.2.length])) (hg : W2.grownBy w' lv.ownBlock) (hat : v2.ownBlock = lv.ownBlock ∨ v2.ownBlock = some W2.heap.size) :
    AllSt w0 w' w'.heap.size p N ho (objs ++ [o]) (gs ++ [S]) v2 := by
  have h' := h.none_ hk
  have hlow := h.low
  have hold := h.top
  obtain ⟨⟨F, h1, h2, h3, h4, h5, h6, h7, h8⟩, hb, ht⟩ := h'
  have hlv : ∀ g, lv.ownBlock = some g → g < T := fun g hg => (h4 g hg).2.2
  have hkeep : ∀ k, k < W2.heap.size → lv.ownBlock ≠ some k → w'.heap[k]? = W2.heap[k]? := fun k hk1 hk2 => hg.block k hk1 fun e => hk2 e.symm
  have hSne : lv.ownBlock ≠ some S := fun e => by have := hlv S e; omega
  have hsz := hg.size
  refine ⟨⟨F, h1.keep hg.size fun k hf => hkeep k (h1.low k hf).2 fun e => (h4 k e).1 hf, fun k hf => by have := h2 k hf; omega, ?_, ?_, by simp [h5], ?_, ?_, ?_⟩, hb.grown hg hb.size (ownBlock_ge' h3), Nat.le_refl _⟩
  · rw [recCells_append objs 0 gs o S h5, List.length_append]
    simpa using ho2
  · intro g hgv
    refine ⟨?_, ?_, (own_type3 ho2 hgv).2.1⟩
    · intro hf
      rcases hat with e | e
      · exact (h4 g (by rw [← e]; exact hgv)).1 hf
      · rw [e] at hgv; cases hgv; have := h2 _ hf; omega
    · intro hm
      rcases List.mem_append.1 hm with hm | hm
      · rcases hat with e | e
        · exact (h4 g (by rw [← e]; exact hgv)).2.1 hm
        · rw [e] at hgv; cases hgv; have := (h7 _ hm).2.1; omega
      · rw [List.mem_singleton.1 hm] at hgv
        rcases hat with e | e
        · exact hSne (by rw [← e]; exact hgv)
        · rw [e] at hgv; cases hgv; omega
  · rw [List.nodup_append]
    refine ⟨h6, by simp, fun a ha b hb' => ?_⟩
    rw [List.mem_singleton.1 hb']
    have := (h7 a ha).2.1
    omega
  · intro g hm
    rcases List.mem_append.1 hm with hm | hm
    · exact ⟨(h7 g hm).1, by have := (h7 g hm).2.1; omega, (h7 g hm).2.2⟩
    · rw [List.mem_singleton.1 hm]
      exact ⟨by omega, by omega, fun hf => by have := h2 _ hf; omega⟩
  · intro i g o' hgi hoi
    rcases Nat.lt_or_ge i objs.length with hi | hi
    · rw [List.getElem?_append_left (by omega)] at hgi
      rw [List.getElem?_append_left hi] at hoi
      have hgm := List.mem_of_getElem? hgi
      exact (hkeep g (by have := (h7 g hgm).2.1; omega) (fun e => (h4 g e).2.1 hgm)).trans (h8 i g o' hgi hoi)
    · rw [List.getElem?_append_right (by omega)] at hgi
      rw [List.getElem?_append_right hi] at hoi
      have : i - objs.length = 0 := by
        rcases Nat.eq_zero_or_pos (i - objs.length) with e | e
        · exact e
        · rw [List.getElem?_eq_none (by simp; omega)] at hoi; cases hoi
      rw [h5, this] at hgi
      rw [this] at hoi
      simp at hgi hoi
      subst hgi hoi
      exact (hkeep S hS2 hSne).trans hc
where ownBlock_ge' {w : World} {base : Nat} {e : TypeId} {size n : Nat} {v : Value} {xs : List Value} (h : w.ownsRow base e size v n xs) : ∀ k, v.ownBlock = some k → base ≤ k := ownBlock_ge h
/-- A word of one that is listed. -/
theorem word (h : AllSt w0 w T p N ho objs gs lv) {k g : Nat} {o : Hp.Ob} (hg : gs[k]? = some g) (hk : objs[k]? = some o) {i : Nat} (hi : i < o.2.length) :
    (∃ u, w.cell? ⟨g, i, none⟩ = some u) ∧ w.frozen? ⟨g, i, none⟩ = false ∧ ∀ x : Int, AllSt w0 (w.setCell ⟨g, i, none⟩ (.int .i32 x)) T p N ho (objs.set k (o.1, o.2.set i x)) gs lv := by
  have hlow := h.low
  obtain ⟨⟨F, h1, h2, h3, h4, h5, h6, h7, h8⟩, hb, ht⟩ := h
  have hgm := List.mem_of_getElem? hg
  obtain ⟨g1, g2, g3⟩ := h7 g hgm
  have hh := h8 k g o hg hk
  have hci := cell_of_row w g i _ 21 (0, 0) hh
  have hne : ∀ j, j ≠ g → ∀ u : Value, (w.setCell ⟨g, i, none⟩ u).heap[j]? = w.heap[j]? := fun j hj u => Below.heap_setCell w _ _ _ (fun e => hj e)
  refine ⟨⟨_, by rw [hci]; simp; exact ⟨_, List.getElem?_eq_getElem hi, rfl⟩⟩, frozen_of_row w g i _ 21 hh, fun x => ⟨⟨F, h1.keep (by simp [World.setCell]) fun j hf => hne j (fun e => g3 (e ▸ hf)) _, h2, ?_, h4, by simpa using h5, h6, h7, ?_⟩, ?_, by simpa [World.setCell] using ht⟩⟩
  · rw [recCells_set objs 0 gs k o (o.1, o.2.set i x) hk rfl (by simp), List.length_set]
    exact ownsRow_kept h3 fun j hj => hne j (fun e => (h4 j hj).2.1 (e ▸ hgm)) _
  · intro i' g' o' hg' ho'
    by_cases hik : i' = k
    · subst hik
      rw [hg] at hg'
      cases hg'
      rw [List.getElem?_set_self (by exact (List.getElem?_eq_some_iff.1 hk).1)] at ho'
      cases ho'
      rw [heap_setCell_same w g i _ 21 _ hh]
      simp [List.map_set]
    · rw [List.getElem?_set_ne (fun e => hik e.symm)] at ho'
      refine (hne g' (fun e => hik ?_) _).trans (h8 i' g' o' hg' ho')
      have hl1 := (List.getElem?_eq_some_iff.1 hg').1
      have hl2 := (List.getElem?_eq_some_iff.1 hg).1
      exact (List.getElem?_inj hl1 h6).1 (by rw [hg', hg, e])
  · exact hb.setCell (by exact g1) _
end AllSt
end Go.Proofs.Ytjjoelhemhnojaa
