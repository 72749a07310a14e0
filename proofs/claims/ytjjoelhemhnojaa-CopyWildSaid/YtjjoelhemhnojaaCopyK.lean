/- The memory of the law's cut: objects by numbers in rows of the call's own. -/
import Derived.Test.YtjjoelhemhnojaaCopyI
import Derived.Deep.RegionLaw
set_option linter.unusedVariables false
namespace Go.Proofs.Ytjjoelhemhnojaa
open Go.RowKit Go.Instr
open Hp Cp

/-- What the call owns shows itself, elements of several cells. -/
theorem Sees.of_ownN {w : World} {base size n : Nat} {e : TypeId} {v : Value} {xs : List Value} (h : w.ownsRow base e size v n xs) : ∃ A c, v = .slice A n c ∧ n ≤ c ∧ c ≤ maxLen ∧ Sees w w.heap.size A (n * size) xs ∧ (A = none → c = 0) ∧ (∀ b o, A = some ⟨b, o, none⟩ → base ≤ b ∧ o = 0) := by
  obtain ⟨h1, h2⟩ := h
  rcases h2 with ⟨rfl, rfl⟩ | ⟨g, cap, cur, rfl, hb, hh, hnc, hcm, hsz, ht⟩
  · have : xs = [] := List.eq_nil_of_length_eq_zero (by simpa using h1)
    subst this
    exact ⟨none, 0, rfl, Nat.le_refl _, Nat.zero_le _, by rw [Nat.zero_mul]; exact Sees.nil_ _ _ _, fun _ => rfl, fun b o e => by cases e⟩
  · refine ⟨some ⟨g, 0, none⟩, cap, rfl, hnc, hcm, ⟨h1, fun hn => ⟨g, 0, rfl, lt_of_heap hh, fun j u hu => ?_⟩⟩, (fun e => by cases e), fun b o e => by cases e; exact ⟨hb, rfl⟩⟩
    rw [Nat.zero_add, cell_of_row w g j cur e (0, 0) hh]
    rw [← ht, List.getElem?_take] at hu
    split at hu
    · simpa using hu
    · cases hu
section
variable {P : Program} (w : World)
/-- append(own, slice...): from any slice, nil let in; elements of several cells. -/
theorem run_append_seesN (base : Nat) (t ty e : TypeId) (i : TypeInfo) (z : Value) (size bytes : Nat) (ht : P.underlying t = some (.slice e)) (hi : P.info? e = some i) (hz : i.zero = some z)
    (hsize : i.size = size) (hby : i.bytes = bytes) (hzs : z.cells.size = size) (hs0 : 0 < size)
    (v : Value) (n : Nat) (xs : List Value) (hown : w.ownsRow base e size v n xs)
    (B : Nat) (A : Option Addr) (m c : Nat) (news : List Value) (hr : Sees w B A (m * size) news) (hc0 : A = none → c = 0) (h1 : ∀ u ∈ news, u.oneCell' = true)
    (h63 : n + m ≤ maxLen) (hbytes : (n + m) * bytes ≤ 140737488355328) (hbase : base ≤ w.heap.size) :
    ∃ v' w', (Builtin.append_ #[t, t] ty #[v, .slice A m c]).run P w = .ok v' w' ∧ w'.ownsRow base e size v' (n + m) (xs ++ news) ∧ w.grownBy w' v.ownBlock ∧
      (v'.ownBlock = v.ownBlock ∨ v'.ownBlock = some w.heap.size) := by
  obtain ⟨hl, hr⟩ := hr
  by_cases hm : m = 0
  · subst hm
    have hn : news = [] := List.eq_nil_of_length_eq_zero (by simpa using hl)
    subst hn
    rcases A with _ | ad
    · rw [hc0 rfl]
      exact ⟨v, w, run_append_owned_none w base t ty e i size ht hi v n xs hown, by simpa using hown, World.grownBy.refl w _, .inl rfl⟩
    · obtain ⟨v', w', hrun, h2, h3, _, h5⟩ := run_append_own_at (P := P) w base t ty e i z size bytes ht hi hz hsize hby hzs hs0 v n xs hown ad 0 c [] (by simp) (fun j u hu => by simp at hu) (fun u hu => by cases hu) h63 hbytes hbase
      exact ⟨v', w', hrun, h2, h3, h5⟩
  · obtain ⟨b, off, rfl, _, hcell⟩ := hr (Nat.mul_pos (by omega) hs0)
    obtain ⟨v', w', hrun, h2, h3, _, h5⟩ := run_append_own_at (P := P) w base t ty e i z size bytes ht hi hz hsize hby hzs hs0 v n xs hown ⟨b, off, none⟩ m c news (by omega)
      (fun j u hu => by have := hcell j u hu; unfold Addr.add; split
                        · rename_i hj; subst hj; exact this
                        · exact this) h1 h63 hbytes hbase
    exact ⟨v', w', hrun, h2, h3, h5⟩
theorem wpList_append_seesN {ops : Array Oper} {rest : List Oper} {o : Oper} {a : Act} {Q : Exit → Act → World → Prop} (hgd : o.guard = none) (s x : Operand) (t : TypeId)
    (ho : o.op = .call { callee := .builtin .append, args := #[s, x], argTypes := #[t, t] })
    (base : Nat) (e : TypeId) (i : TypeInfo) (z : Value) (size bytes : Nat) (ht : P.underlying t = some (.slice e)) (hi : P.info? e = some i) (hz : i.zero = some z)
    (hsize : i.size = size) (hby : i.bytes = bytes) (hzs : z.cells.size = size) (hs0 : 0 < size)
    (v : Value) (n : Nat) (xs : List Value) (hs : a.eval s = v) (hown : w.ownsRow base e size v n xs)
    (B : Nat) (A : Option Addr) (m c : Nat) (news : List Value) (hx : a.eval x = .slice A m c) (hr : Sees w B A (m * size) news) (hc0 : A = none → c = 0) (h1 : ∀ u ∈ news, u.oneCell' = true)
    (h63 : n + m ≤ maxLen) (hbytes : (n + m) * bytes ≤ 140737488355328) (hbase : base ≤ w.heap.size)
    (h : ∀ v' w', w'.ownsRow base e size v' (n + m) (xs ++ news) → w.grownBy w' v.ownBlock → (v'.ownBlock = v.ownBlock ∨ v'.ownBlock = some w.heap.size) → wpList P ops Q rest (a.put o.dst v') w') : wpList P ops Q (o :: rest) a w := by
  refine wpList_plain hgd fun K hK => ?_
  obtain ⟨v', w', hrun, h2, h3, h4⟩ := run_append_seesN (P := P) w base t o.type e i z size bytes ht hi hz hsize hby hzs hs0 v n xs hown B A m c news hr hc0 h1 h63 hbytes hbase
  unfold Oper.wp execOp
  simp only [ho, resolve, invoke, builtin, Sem.run_bind, Sem.run_pure, Result.andThen_ok, List.map_toArray, List.map_cons, List.map_nil, hs, hx, hrun]
  exact hK _ _ (h v' w' h2 h3 h4)
end

def obCells : List Hp.Ob → List Value → List Value
  | o :: l, v :: vs => .int .i64 o.1 :: v :: obCells l vs
  | _, _ => []
theorem obCells_append : ∀ (l : List Hp.Ob) (vs : List Value) (o : Hp.Ob) (v : Value), vs.length = l.length → obCells (l ++ [o]) (vs ++ [v]) = obCells l vs ++ [.int .i64 o.1, v] := by
  intro l
  induction l with
  | nil => intro vs o v h; rw [List.eq_nil_of_length_eq_zero h]; rfl
  | cons p l ih =>
    intro vs o v h
    cases vs with
    | nil => simp at h
    | cons u vs => simp only [List.cons_append, obCells, ih vs o v (by simpa using h)]
theorem obCells_at : ∀ (l : List Hp.Ob) (vs : List Value) {i : Nat} {o : Hp.Ob} {v : Value}, l[i]? = some o → vs[i]? = some v → (obCells l vs)[i * 2]? = some (.int .i64 o.1) ∧ (obCells l vs)[i * 2 + 1]? = some v := by
  intro l
  induction l with
  | nil => intro vs i o v h; simp at h
  | cons p l ih =>
    intro vs i o v h1 h2
    cases vs with
    | nil => simp at h2
    | cons u vs =>
      cases i with
      | zero => simp at h1 h2; subst h1 h2; exact ⟨rfl, rfl⟩
      | succ i =>
        have := ih vs (i := i) (by simpa using h1) (by simpa using h2)
        rw [show (i + 1) * 2 = i * 2 + 1 + 1 from by omega]
        simpa [obCells] using this
/-- What was cut so far, below T. -/
structure CutSt (w0 w : World) (T : Nat) (lv : Value) (os : List Hp.Ob) : Prop where
  ex : ∃ vs : List Value, vs.length = os.length ∧ w.ownsRow w0.heap.size 56 2 lv os.length (obCells os vs) ∧ (∀ g, lv.ownBlock = some g → g < T) ∧
    ∀ (i : Nat) (o : Hp.Ob) (v : Value), os[i]? = some o → vs[i]? = some v → w.ownsRow w0.heap.size 3 1 v o.2.length (o.2.map (Value.int .i64)) ∧ ∀ g, v.ownBlock = some g → g < T
  below : Below w0.heap.size w0 w
  low : w0.heap.size ≤ T
  top : T ≤ w.heap.size
namespace CutSt
variable {w0 w w' : World} {T T' : Nat} {lv : Value} {os : List Hp.Ob}
theorem keeps (h : CutSt w0 w T lv os) {G : Nat → Prop} (hk : Keeps G w w') (hG : ∀ k, G k → T ≤ k) : CutSt w0 w' T lv os := by
  obtain ⟨⟨vs, h1, h2, h3, h4⟩, hb, hl, ht⟩ := h
  have hT : ∀ k, k < T → w'.heap[k]? = w.heap[k]? := fun k hk' => hk.block k (by omega) fun hg => by have := hG k hg; omega
  exact ⟨⟨vs, h1, ownsRow_kept h2 fun g hg => hT g (h3 g hg), h3, fun i o v ho hv => ⟨ownsRow_kept (h4 i o v ho hv).1 fun g hg => hT g ((h4 i o v ho hv).2 g hg), (h4 i o v ho hv).2⟩⟩, hb.trans (hk.below hb.size fun k hg => Nat.le_trans hl (hG k hg)), hl, Nat.le_trans ht hk.size⟩
theorem none_ (h : CutSt w0 w T lv os) (hk : Keeps (fun _ => False) w w') : CutSt w0 w' T lv os := h.keeps hk fun _ => False.elim
theorem raise (h : CutSt w0 w T lv os) (hT : T ≤ T') (hw : T' ≤ w.heap.size) : CutSt w0 w T' lv os := by
  obtain ⟨⟨vs, h1, h2, h3, h4⟩, hb, hl, ht⟩ := h
  exact ⟨⟨vs, h1, h2, fun g hg => Nat.lt_of_lt_of_le (h3 g hg) hT, fun i o v ho hv => ⟨(h4 i o v ho hv).1, fun g hg => Nat.lt_of_lt_of_le ((h4 i o v ho hv).2 g hg) hT⟩⟩, hb, Nat.le_trans hl hT, hw⟩
/-- As the laws read it. -/
theorem obs (h : CutSt w0 w T lv os) : ∃ A c, lv = .slice A os.length c ∧ ObsIn w w.heap.size A os.length os := by
  obtain ⟨⟨vs, h1, h2, h3, h4⟩, hb, hl, ht⟩ := h
  obtain ⟨A, c, rfl, _, _, hs, _⟩ := Sees.of_ownN h2
  refine ⟨A, c, rfl, rfl, fun hn => ?_⟩
  obtain ⟨b, off, hA, hbl, hc⟩ := hs.2 (by omega)
  refine ⟨b, off, hA, hbl, fun i o ho => ?_⟩
  have hi := (List.getElem?_eq_some_iff.1 ho).1
  have hv := List.getElem?_eq_getElem (l := vs) (i := i) (by omega)
  obtain ⟨k1, k2⟩ := obCells_at os vs ho hv
  obtain ⟨A2, c2, he, hs2⟩ := Sees.of_own (h4 i o _ ho hv).1
  refine ⟨hc _ _ k1, A2, c2, ?_, hs2⟩
  rw [← he, Nat.add_assoc]
  exact hc _ _ k2
end CutSt
/-- The object that is being cut, at block q, from T on. -/
structure OneSt (w : World) (T q : Nat) (kd : Int) (ov : Value) (ws : List Int) : Prop where
  head : w.heap[q]? = some (.cells #[.int .i64 kd, ov] 56 (0, 0))
  ge : T ≤ q
  row : w.ownsRow T 3 1 ov ws.length (ws.map (Value.int .i64))
namespace OneSt
variable {w w' : World} {T q : Nat} {kd : Int} {ov : Value} {ws : List Int}
theorem apart (h : OneSt w T q kd ov ws) : ov.ownBlock ≠ some q := by
  intro e
  obtain ⟨cur, hc⟩ := own_type h.row e
  rw [h.head] at hc
  cases hc
theorem none_ (h : OneSt w T q kd ov ws) (hk : Keeps (fun _ => False) w w') : OneSt w' T q kd ov ws := ⟨(hk.block q (lt_of_heap h.head) id).trans h.head, h.ge, ownsRow_kept h.row fun g hg => hk.block g (own_lt h.row hg) id⟩
end OneSt
/-- The object is put behind the others. -/
theorem CutSt.add {w0 w w' : World} {T q : Nat} {lv v2 : Value} {os : List Hp.Ob} {kd : Int} {ov : Value} {ws : List Int} (h : CutSt w0 w T lv os) (h1 : OneSt w T q kd ov ws) (hown : ∀ vs : List Value, vs.length = os.length → w.ownsRow w0.heap.size 56 2 lv os.length (obCells os vs) → w'.ownsRow w0.heap.size 56 2 v2 (os.length + 1) (obCells os vs ++ [.int .i64 kd, ov])) (hg : w.grownBy w' lv.ownBlock) (hat : v2.ownBlock = lv.ownBlock ∨ ∀ g, v2.ownBlock = some g → g < w'.heap.size) :
    CutSt w0 w' w'.heap.size v2 (os ++ [(kd, ws)]) := by
  obtain ⟨⟨vs, k1, k2, k3, k4⟩, hb, hl, ht⟩ := h
  have hsz := hg.size
  have hlt : ∀ (v : Value) (n : Nat) (xs : List Value) (B : Nat), w.ownsRow B 3 1 v n xs → w'.ownsRow B 3 1 v n xs := fun v n xs B ho => ownsRow_kept ho fun g hgg => hg.block g (own_lt ho hgg) fun e => by
    obtain ⟨cur, hc⟩ := own_type ho hgg
    rcases k2.2 with ⟨he, _⟩ | ⟨g', cap, cur', he, _, hh, _⟩
    · rw [he] at e; cases e
    · rw [he] at e
      cases e
      rw [hc] at hh; cases hh
  refine ⟨⟨vs ++ [ov], by simp [k1], ?_, ?_, ?_⟩, hb.grown hg hb.size (fun g hgg => ?_), Nat.le_trans hb.size hsz, Nat.le_refl _⟩
  · rw [obCells_append os vs _ _ k1, List.length_append]
    exact hown vs k1 k2
  · rcases hat with hat | hat
    · intro g hgg
      rw [hat] at hgg
      have := k3 g hgg
      omega
    · exact hat
  · intro i o v ho hv
    rcases Nat.lt_or_ge i os.length with hi | hi
    · rw [List.getElem?_append_left hi] at ho
      rw [List.getElem?_append_left (by omega)] at hv
      obtain ⟨r1, r2⟩ := k4 i o v ho hv
      exact ⟨hlt _ _ _ _ r1, fun g hgg => by have := r2 g hgg; omega⟩
    · rw [List.getElem?_append_right hi] at ho
      rw [List.getElem?_append_right (by omega), k1] at hv
      obtain ⟨j, hj⟩ : ∃ j, i - os.length = j := ⟨_, rfl⟩
      rw [hj] at ho hv
      cases j with
      | zero =>
        simp at ho hv
        subst ho hv
        exact ⟨ownsRow_less (hlt _ _ _ _ h1.row) hl, fun g hgg => by have := own_lt h1.row hgg; omega⟩
      | succ j => simp at ho
  · rcases k2.2 with ⟨he, _⟩ | ⟨g', cap, cur', he, hb', hh, _⟩
    · rw [he] at hgg; cases hgg
    · rw [he] at hgg
      cases hgg
      exact hb'
end Go.Proofs.Ytjjoelhemhnojaa
