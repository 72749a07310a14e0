/- Plain law of the sum of bytes: one step is linear and one to one over words of 32 bits, so a change within four bytes behind one another, or of one bit, changes the sum, and no two single bits among 800 change it alike. No conditions. -/
import Derived.WalkKit
namespace Go.Proofs.Ythhglbocoogefaa.Crc

/-- One bit of the sum. -/
def stp (x : BitVec 32) : BitVec 32 := (x >>> 1) ^^^ (if x.getLsbD 0 then 0xedb88320#32 else 0#32)
/-- n bits. -/
def stpN : Nat → BitVec 32 → BitVec 32
  | 0, x => x
  | n + 1, x => stpN n (stp x)
/-- A byte. -/
def byt (x : BitVec 32) (c : BitVec 8) : BitVec 32 := stpN 8 (x ^^^ c.setWidth 32)
/-- Bytes. -/
def run (x : BitVec 32) (l : List (BitVec 8)) : BitVec 32 := l.foldl byt x
/-- The sum goes on. -/
def more (s : BitVec 32) (l : List (BitVec 8)) : BitVec 32 := ~~~ (run (~~~ s) l)
def sum (l : List (BitVec 8)) : BitVec 32 := more 0#32 l

theorem stp_xor (x y : BitVec 32) : stp (x ^^^ y) = stp x ^^^ stp y := by
  unfold stp
  rw [BitVec.ushiftRight_xor_distrib, BitVec.getLsbD_xor]
  generalize x >>> 1 = u
  generalize y >>> 1 = v
  cases x.getLsbD 0 <;> cases y.getLsbD 0 <;> simp
  · ac_rfl
  · ac_rfl
  · rw [show u ^^^ 3988292384#32 ^^^ (v ^^^ 3988292384#32) = (3988292384#32 ^^^ 3988292384#32) ^^^ (u ^^^ v) from by ac_rfl, BitVec.xor_self, BitVec.zero_xor]
theorem stpN_xor (n : Nat) : ∀ x y : BitVec 32, stpN n (x ^^^ y) = stpN n x ^^^ stpN n y := by
  induction n with
  | zero => intro x y; rfl
  | succ n ih => intro x y; simp only [stpN, stp_xor, ih]
theorem stpN_zero (n : Nat) : stpN n 0#32 = 0#32 := by
  induction n with
  | zero => rfl
  | succ n ih => simp only [stpN]; rw [show stp 0#32 = 0#32 from by decide]; exact ih
theorem stpN_add (m n : Nat) : ∀ x, stpN (m + n) x = stpN n (stpN m x) := by
  induction m with
  | zero => intro x; simp [stpN]
  | succ m ih => intro x; rw [show m + 1 + n = (m + n) + 1 from by omega]; simp only [stpN, ih]

theorem stp_eq_zero {x : BitVec 32} (h : stp x = 0#32) : x = 0#32 := by
  unfold stp at h
  by_cases hb : x.getLsbD 0
  · rw [if_pos hb] at h
    have h31 := congrArg (fun v : BitVec 32 => v.getLsbD 31) h
    simp at h31
  · rw [if_neg hb] at h
    apply BitVec.eq_of_getLsbD_eq
    intro i hi
    rcases i with _ | i
    · simpa using hb
    · have hi' := congrArg (fun v : BitVec 32 => v.getLsbD i) h
      simp at hi'
      rw [Nat.add_comm] at hi'
      simpa using hi'
theorem stpN_eq_zero (n : Nat) : ∀ {x : BitVec 32}, stpN n x = 0#32 → x = 0#32 := by
  induction n with
  | zero => intro x h; exact h
  | succ n ih => intro x h; exact stp_eq_zero (ih h)

theorem run_append (x : BitVec 32) (l m : List (BitVec 8)) : run x (l ++ m) = run (run x l) m := by simp [run, List.foldl_append]
theorem more_append (s : BitVec 32) (l m : List (BitVec 8)) : more s (l ++ m) = more (more s l) m := by
  simp [more, run_append]

/-- Of three states and three texts of one length. -/
theorem run_three : ∀ (l m n d : List (BitVec 8)) (x y z : BitVec 32), l.length = d.length → m.length = d.length → n.length = d.length →
    (∀ i, i < d.length → d.getD i 0#8 = l.getD i 0#8 ^^^ m.getD i 0#8 ^^^ n.getD i 0#8) → run (x ^^^ y ^^^ z) d = run x l ^^^ run y m ^^^ run z n := by
  intro l m n d
  induction d generalizing l m n with
  | nil => intro x y z hl hm hn _; simp at hl hm hn; subst hl; subst hm; subst hn; rfl
  | cons d0 d ih =>
    intro x y z hl hm hn h
    match l, m, n, hl, hm, hn with
    | l0 :: l, m0 :: m, n0 :: n, hl, hm, hn =>
      have h0 := h 0 (by simp)
      simp at h0
      have hb : byt (x ^^^ y ^^^ z) d0 = byt x l0 ^^^ byt y m0 ^^^ byt z n0 := by
        unfold byt
        rw [← stpN_xor, ← stpN_xor, h0]
        congr 1
        rw [BitVec.setWidth_xor, BitVec.setWidth_xor]
        ac_rfl
      show run (byt (x ^^^ y ^^^ z) d0) d = run (byt x l0) l ^^^ run (byt y m0) m ^^^ run (byt z n0) n
      rw [hb]
      exact ih l m n _ _ _ (by simpa using hl) (by simpa using hm) (by simpa using hn) (fun i hi => by simpa using h (i + 1) (by simpa using hi))
theorem sum_three (l m n d : List (BitVec 8)) (hl : l.length = d.length) (hm : m.length = d.length) (hn : n.length = d.length)
    (h : ∀ i, i < d.length → d.getD i 0#8 = l.getD i 0#8 ^^^ m.getD i 0#8 ^^^ n.getD i 0#8) : sum d = sum l ^^^ sum m ^^^ sum n := by
  unfold sum more
  have := run_three l m n d (~~~ 0#32) (~~~ 0#32) (~~~ 0#32) hl hm hn h
  rw [show (~~~ 0#32) ^^^ (~~~ 0#32) ^^^ (~~~ 0#32) = ~~~ 0#32 from by decide] at this
  rw [this]
  apply BitVec.eq_of_getLsbD_eq
  intro i hi
  simp [hi]

/-- Two texts of one length: what their sums differ by is what their difference gives from nought. -/
theorem run_two : ∀ (l m d : List (BitVec 8)) (x y : BitVec 32), l.length = d.length → m.length = d.length →
    (∀ i, i < d.length → d.getD i 0#8 = l.getD i 0#8 ^^^ m.getD i 0#8) → run (x ^^^ y) d = run x l ^^^ run y m := by
  intro l m d
  induction d generalizing l m with
  | nil => intro x y hl hm _; simp at hl hm; subst hl; subst hm; rfl
  | cons d0 d ih =>
    intro x y hl hm h
    match l, m, hl, hm with
    | l0 :: l, m0 :: m, hl, hm =>
      have h0 := h 0 (by simp)
      simp at h0
      have hb : byt (x ^^^ y) d0 = byt x l0 ^^^ byt y m0 := by
        unfold byt
        rw [← stpN_xor, h0]
        congr 1
        rw [BitVec.setWidth_xor]
        ac_rfl
      show run (byt (x ^^^ y) d0) d = run (byt x l0) l ^^^ run (byt y m0) m
      rw [hb]
      exact ih l m _ _ (by simpa using hl) (by simpa using hm) (fun i hi => by simpa using h (i + 1) (by simpa using hi))

theorem xor_eq_zero {x y : BitVec 32} (h : x ^^^ y = 0#32) : x = y := by
  have := congrArg (· ^^^ y) h
  simpa [BitVec.xor_assoc] using this
theorem not_inj {x y : BitVec 32} (h : ~~~ x = ~~~ y) : x = y := by
  have := congrArg (~~~ ·) h
  simpa using this
theorem sum_eq_of {l m d : List (BitVec 8)} (hl : l.length = d.length) (hm : m.length = d.length)
    (h : ∀ i, i < d.length → d.getD i 0#8 = l.getD i 0#8 ^^^ m.getD i 0#8) : sum l = sum m ↔ run 0#32 d = 0#32 := by
  have := run_two l m d (~~~ 0#32) (~~~ 0#32) hl hm h
  rw [BitVec.xor_self] at this
  rw [this]
  constructor
  · intro e
    have e' : run (~~~ 0#32) l = run (~~~ 0#32) m := not_inj e
    rw [e', BitVec.xor_self]
  · intro e
    show ~~~ (run (~~~ 0#32) l) = ~~~ (run (~~~ 0#32) m)
    rw [xor_eq_zero e]

theorem run_zeros (n : Nat) : run 0#32 (List.replicate n 0#8) = 0#32 := by
  induction n with
  | zero => rfl
  | succ n ih =>
    show run (byt 0#32 0#8) (List.replicate n 0#8) = 0#32
    rw [show byt 0#32 0#8 = 0#32 from by decide]
    exact ih
theorem run_zeros_any (n : Nat) : ∀ x, run x (List.replicate n 0#8) = stpN (8 * n) x := by
  induction n with
  | zero => intro x; rfl
  | succ n ih =>
    intro x
    show run (byt x 0#8) (List.replicate n 0#8) = _
    rw [ih, show 8 * (n + 1) = 8 + 8 * n from by omega, stpN_add]
    congr 1
    unfold byt
    simp

/-! ### Up to four bytes -/
theorem stp_low {x : BitVec 32} (h : x.getLsbD 0 = false) : stp x = x >>> 1 := by
  unfold stp
  rw [h]
  simp
/-- A word whose n lowest bits are nought is shifted. -/
theorem stpN_low (n : Nat) : ∀ {x : BitVec 32}, (∀ i, i < n → x.getLsbD i = false) → stpN n x = x >>> n := by
  induction n with
  | zero => intro x _; simp [stpN]
  | succ n ih =>
    intro x h
    rw [stpN, stp_low (h 0 (by omega)), ih (fun i hi => by simpa [Nat.add_comm] using h (1 + i) (by omega)), ← BitVec.shiftRight_add, Nat.add_comm 1 n]
/-- A byte that comes k bytes later is one that is laid 8 k bits higher now. -/
def word : List (BitVec 8) → BitVec 32
  | [] => 0#32
  | c :: l => c.setWidth 32 ^^^ (word l <<< 8)
theorem run_word : ∀ (l : List (BitVec 8)), l.length ≤ 4 → ∀ x, run x l = stpN (8 * l.length) (x ^^^ word l) := by
  intro l
  induction l with
  | nil => intro _ x; simp [run, word, stpN]
  | cons c l ih =>
    intro hl x
    have hl' : l.length ≤ 3 := by simpa using hl
    show run (byt x c) l = _
    rw [ih (by omega)]
    rw [List.length_cons, show 8 * (l.length + 1) = 8 + 8 * l.length from by omega, stpN_add]
    congr 1
    unfold byt
    rw [word, ← BitVec.xor_assoc, stpN_xor 8 (x ^^^ _)]
    congr 1
    rw [stpN_low]
    · -- (word l <<< 8) >>> 8 = word l : at most three bytes
      have hw : ∀ (m : List (BitVec 8)), m.length ≤ 3 → ∀ i, 8 * m.length ≤ i → (word m).getLsbD i = false := by
        intro m
        induction m with
        | nil => intro _ i _; simp [word]
        | cons c m ihm =>
          intro hm i hi
          have hm' : m.length ≤ 2 := by simpa using hm
          have hi' : 8 * (m.length + 1) ≤ i := by simpa using hi
          simp only [word, BitVec.getLsbD_xor, BitVec.getLsbD_setWidth, BitVec.getLsbD_shiftLeft]
          rw [ihm (by omega) (i - 8) (by omega), BitVec.getLsbD_of_ge c i (by omega)]
          simp
      apply BitVec.eq_of_getLsbD_eq
      intro i hi
      rw [BitVec.getLsbD_ushiftRight, BitVec.getLsbD_shiftLeft]
      by_cases h24 : 8 + i < 32
      · simp [h24]
      · rw [hw l (by omega) i (by omega)]
        simp [h24]
    · intro i hi
      simp [BitVec.getLsbD_shiftLeft, hi]
theorem word_eq_zero : ∀ {l : List (BitVec 8)}, l.length ≤ 4 → word l = 0#32 → ∀ i, l.getD i 0#8 = 0#8 := by
  intro l
  induction l with
  | nil => intro _ _ i; simp
  | cons c l ih =>
    intro hl h i
    have hl' : l.length ≤ 3 := by simpa using hl
    have hc : c = 0#8 := by
      apply BitVec.eq_of_getLsbD_eq
      intro j hj
      have := congrArg (fun v : BitVec 32 => v.getLsbD j) h
      simpa [word, BitVec.getLsbD_shiftLeft, hj, show j < 32 from by omega] using this
    have hw : word l = 0#32 := by
      have h8 : word l <<< 8 = 0#32 := by simpa [word, hc] using h
      have hz : ∀ (m : List (BitVec 8)), m.length ≤ 3 → ∀ i, 24 ≤ i → (word m).getLsbD i = false := by
        intro m
        induction m with
        | nil => intro _ i _; simp [word]
        | cons c m ihm =>
          intro hm i hi
          have hm' : m.length ≤ 2 := by simpa using hm
          match m, hm' with
          | [], _ => simp only [word]; simp; intro _; exact BitVec.getLsbD_of_ge c i (by omega)
          | [a], _ => simp only [word]; simp [BitVec.getLsbD_shiftLeft]; rw [BitVec.getLsbD_of_ge c i (by omega), BitVec.getLsbD_of_ge a (i - 8) (by omega)]; simp
          | [a, b], _ => simp only [word]; simp [BitVec.getLsbD_shiftLeft]; rw [BitVec.getLsbD_of_ge c i (by omega), BitVec.getLsbD_of_ge a (i - 8) (by omega), BitVec.getLsbD_of_ge b (i - 8 - 8) (by omega)]; simp
      apply BitVec.eq_of_getLsbD_eq
      intro j hj
      by_cases h24 : j < 24
      · have := congrArg (fun v : BitVec 32 => v.getLsbD (j + 8)) h8
        simp only [BitVec.getLsbD_shiftLeft, show j + 8 < 32 from by omega, Nat.add_sub_cancel] at this
        simpa only [decide_true, Bool.true_and, show (decide (j + 8 < 8)) = false from by simp, Bool.not_false, BitVec.getLsbD_zero] using this
      · rw [hz l hl' j (by omega)]; simp
    rcases i with _ | i
    · simpa using hc
    · simpa using ih (by omega) hw i

/-- THE BURST: a difference of up to four bytes, nought ahead of them and behind, not all nought: the sums differ. -/
theorem run_burst (p q : Nat) (x : List (BitVec 8)) (hx : x.length ≤ 4) (h : run 0#32 (List.replicate p 0#8 ++ x ++ List.replicate q 0#8) = 0#32) : ∀ i, x.getD i 0#8 = 0#8 := by
  rw [run_append, run_append, run_zeros, run_zeros_any] at h
  have h1 := stpN_eq_zero _ h
  rw [run_word x hx] at h1
  have h2 := stpN_eq_zero _ h1
  rw [BitVec.zero_xor] at h2
  exact word_eq_zero hx h2

/-- Is any byte not nought? A text in which k bytes from m on were changed. -/
def nz (l : List (BitVec 8)) : Bool := l.any (· != 0#8)
def burst (l x : List (BitVec 8)) (m : Nat) : Nat → List (BitVec 8)
  | 0 => l
  | k + 1 => (burst l x m k).set (m + k) ((burst l x m k).getD (m + k) 0#8 ^^^ x.getD k 0#8)
theorem burst_length (l x : List (BitVec 8)) (m k : Nat) : (burst l x m k).length = l.length := by
  induction k with
  | zero => rfl
  | succ k ih => simp [burst, ih]
theorem burst_getD (l x : List (BitVec 8)) (m k j : Nat) (hj : j < l.length) : (burst l x m k).getD j 0#8 = l.getD j 0#8 ^^^ (if m ≤ j ∧ j < m + k then x.getD (j - m) 0#8 else 0#8) := by
  induction k with
  | zero => rw [if_neg (by omega)]; simp [burst]
  | succ k ih =>
    rw [burst, List.getD_eq_getElem?_getD, List.getElem?_set]
    by_cases h : m + k = j
    · rw [if_pos h, if_pos (by rw [burst_length]; omega), Option.getD_some, if_pos (by omega)]
      subst h
      rw [ih, if_neg (by omega), BitVec.xor_zero, show m + k - m = k from by omega]
    · rw [if_neg h, ← List.getD_eq_getElem?_getD, ih]
      by_cases h2 : m ≤ j ∧ j < m + k
      · rw [if_pos h2, if_pos (by omega)]
      · rw [if_neg h2, if_neg (by omega)]
theorem nz_of_all {x : List (BitVec 8)} (h : ∀ i, x.getD i 0#8 = 0#8) : nz x = false := by
  unfold nz
  rw [List.any_eq_false]
  intro c hc
  obtain ⟨i, hi, rfl⟩ := List.mem_iff_getElem.1 hc
  have := h i
  rw [List.getD_eq_getElem?_getD, List.getElem?_eq_getElem hi, Option.getD_some] at this
  simp [this]
theorem nz_take (x : List (BitVec 8)) (k : Nat) (c : BitVec 8) (h : x[k]? = some c) : nz (x.take (k + 1)) = (nz (x.take k) || c != 0#8) := by
  unfold nz
  rw [List.take_add_one, h, List.any_append]
  simp
/-! ### One bit -/
theorem stpN_one (n : Nat) (hn : n < 32) : stpN n (1#32 <<< n) = 1#32 := by
  rw [stpN_low]
  · apply BitVec.eq_of_getLsbD_eq
    intro i hi
    rw [BitVec.getLsbD_ushiftRight, BitVec.getLsbD_shiftLeft]
    by_cases h0 : i = 0
    · subst h0; simp [hn]
    · simp [h0]
  · intro i hi
    simp [BitVec.getLsbD_shiftLeft, hi]

/-- Does any of the next n steps from x come to one? -/
def meets : Nat → BitVec 32 → Bool
  | 0, _ => false
  | n + 1, x => stp x == 1#32 || meets n (stp x)
theorem meets_none : meets 800 1#32 = false := by decide +kernel
theorem stpN_succ' (n : Nat) (x : BitVec 32) : stpN (n + 1) x = stp (stpN n x) := by
  have := stpN_add n 1 x
  simpa [stpN] using this
theorem meets_of (n : Nat) : ∀ (x : BitVec 32) (k : Nat), 0 < k → k ≤ n → stpN k x = 1#32 → meets n x = true := by
  induction n with
  | zero => intro x k h0 hk; omega
  | succ n ih =>
    intro x k h0 hk h
    match k, h0 with
    | k + 1, _ =>
      simp only [meets, Bool.or_eq_true, beq_iff_eq]
      by_cases hk0 : k = 0
      · subst hk0; exact .inl (by simpa [stpN] using h)
      · exact .inr (ih (stp x) k (by omega) (by omega) (by simpa [stpN] using h))
theorem order_long (k : Nat) (h0 : 0 < k) (hk : k ≤ 800) : stpN k 1#32 ≠ 1#32 := by
  intro h
  have := meets_of 800 1#32 k h0 hk h
  rw [meets_none] at this
  cases this

/-- A text in which one bit is turned; the difference. -/
def flip (b : List (BitVec 8)) (i : Nat) : List (BitVec 8) := b.set (i / 8) (b.getD (i / 8) 0#8 ^^^ (1#8 <<< (i % 8)))
def bitAt (n i : Nat) : List (BitVec 8) := List.replicate (i / 8) 0#8 ++ [1#8 <<< (i % 8)] ++ List.replicate (n - i / 8 - 1) 0#8
theorem flip_length (b : List (BitVec 8)) (i : Nat) : (flip b i).length = b.length := by simp [flip]
theorem bitAt_length (n i : Nat) (h : i < 8 * n) : (bitAt n i).length = n := by simp [bitAt]; omega
theorem byt_bit (j : Nat) (hj : j < 8) : byt 0#32 (1#8 <<< j) = stpN (8 - j) 1#32 := by
  unfold byt
  rw [BitVec.zero_xor, show BitVec.setWidth 32 (1#8 <<< j) = 1#32 <<< j from by
    apply BitVec.eq_of_getLsbD_eq
    intro i hi
    simp only [BitVec.getLsbD_setWidth, BitVec.getLsbD_shiftLeft]
    by_cases h : i = j
    · subst h; simp [hj, show i < 32 from by omega]
    · by_cases h2 : i < j
      · simp [h2]
      · have : i - j ≠ 0 := by omega
        simp [BitVec.getLsbD_one, this]]
  have := stpN_add j (8 - j) (1#32 <<< j)
  rw [show j + (8 - j) = 8 from by omega, stpN_one j (by omega)] at this
  exact this
theorem run_bitAt (n i : Nat) (h : i < 8 * n) : run 0#32 (bitAt n i) = stpN (8 * n - i) 1#32 := by
  unfold bitAt
  rw [run_append, run_append, run_zeros, run_zeros_any]
  show stpN _ (byt 0#32 (1#8 <<< (i % 8))) = _
  rw [byt_bit _ (by omega), ← stpN_add]
  congr 1
  omega
theorem getD_replicate0 (n j : Nat) : (List.replicate n 0#8).getD j 0#8 = 0#8 := by
  rw [List.getD_eq_getElem?_getD, List.getElem?_replicate]
  split <;> rfl
theorem getD_append_lt (l m : List (BitVec 8)) (j : Nat) (h : j < l.length) : (l ++ m).getD j 0#8 = l.getD j 0#8 := by
  rw [List.getD_eq_getElem?_getD, List.getD_eq_getElem?_getD, List.getElem?_append_left h]
theorem getD_append_ge (l m : List (BitVec 8)) (j : Nat) (h : l.length ≤ j) : (l ++ m).getD j 0#8 = m.getD (j - l.length) 0#8 := by
  rw [List.getD_eq_getElem?_getD, List.getD_eq_getElem?_getD, List.getElem?_append_right h]
theorem getD_of_lt (l : List (BitVec 8)) (j : Nat) (h : j < l.length) : l.getD j 0#8 = l[j] := by
  rw [List.getD_eq_getElem?_getD, List.getElem?_eq_getElem h, Option.getD_some]
theorem bitAt_getD (n i j : Nat) : (bitAt n i).getD j 0#8 = if j = i / 8 then 1#8 <<< (i % 8) else 0#8 := by
  unfold bitAt
  by_cases h1 : j < i / 8
  · rw [if_neg (by omega), List.append_assoc, getD_append_lt _ _ _ (by simpa using h1), getD_replicate0]
  · by_cases h2 : j = i / 8
    · rw [if_pos h2]; subst h2
      rw [List.append_assoc, getD_append_ge _ _ _ (by simp)]
      simp
    · rw [if_neg h2, getD_append_ge _ _ _ (by simp; omega), getD_replicate0]
theorem flip_getD (b : List (BitVec 8)) (i j : Nat) (hj : j < b.length) :
    (flip b i).getD j 0#8 = b.getD j 0#8 ^^^ (if j = i / 8 then 1#8 <<< (i % 8) else 0#8) := by
  unfold flip
  rw [List.getD_eq_getElem?_getD, List.getElem?_set]
  by_cases h2 : i / 8 = j
  · subst h2
    rw [if_pos rfl, if_pos hj, if_pos rfl]
    rfl
  · rw [if_neg h2, if_neg (fun e => h2 e.symm)]
    simp
/-- THE BURST turns the sum. -/
theorem burst_turns (l x : List (BitVec 8)) (m : Nat) (hl : m + x.length ≤ l.length) (hx : x.length ≤ 4) (hn : nz x = true) : sum l ≠ sum (burst l x m x.length) := by
  intro e
  have hd : (List.replicate m 0#8 ++ x ++ List.replicate (l.length - m - x.length) 0#8).length = l.length := by simp; omega
  have h1 := (sum_eq_of (l := l) (m := burst l x m x.length) (d := List.replicate m 0#8 ++ x ++ List.replicate (l.length - m - x.length) 0#8) (by rw [hd]) (by rw [burst_length, hd]) (fun j hj => by
    rw [hd] at hj
    rw [burst_getD _ _ _ _ _ hj, ← BitVec.xor_assoc, BitVec.xor_self, BitVec.zero_xor]
    by_cases h1 : j < m
    · rw [if_neg (by omega), List.append_assoc, getD_append_lt _ _ _ (by simpa using h1), getD_replicate0]
    · by_cases h2 : j < m + x.length
      · rw [if_pos (by omega), getD_append_lt _ _ _ (by simp; omega), getD_append_ge _ _ _ (by simp; omega)]
        simp
      · rw [if_neg (by omega), getD_append_ge _ _ _ (by simp; omega), getD_replicate0])).1 e
  have h2 := nz_of_all (run_burst _ _ x hx h1)
  rw [hn] at h2
  cases h2
/-- ONE BIT: it turns the sum. -/
theorem flip_turns (b : List (BitVec 8)) (i : Nat) (h : i < 8 * b.length) : sum (flip b i) ≠ sum b := by
  intro e
  have := (sum_eq_of (l := flip b i) (m := b) (d := bitAt b.length i) (by rw [flip_length, bitAt_length _ _ h]) (by rw [bitAt_length _ _ h]) (fun j hj => by
    rw [bitAt_length _ _ h] at hj
    rw [bitAt_getD _ _ _, flip_getD _ _ _ hj, BitVec.xor_comm, ← BitVec.xor_assoc, BitVec.xor_self, BitVec.zero_xor])).1 e
  rw [run_bitAt _ _ h] at this
  have h1 := stpN_eq_zero _ this
  revert h1; decide
theorem ones_apart (n i k : Nat) (hn : n ≤ 100) (hi : i < k) (hk : k < 8 * n) : stpN (8 * n - i) 1#32 ≠ stpN (8 * n - k) 1#32 := by
  intro e
  have := stpN_add (k - i) (8 * n - k) 1#32
  rw [show k - i + (8 * n - k) = 8 * n - i from by omega, e] at this
  have h0 : stpN (8 * n - k) (1#32 ^^^ stpN (k - i) 1#32) = 0#32 := by rw [stpN_xor, ← this, BitVec.xor_self]
  have h1 := xor_eq_zero (stpN_eq_zero _ h0)
  exact order_long (k - i) (by omega) (by omega) h1.symm
/-- TWO BITS: they turn it alike where they are one. -/
theorem flip_alike (b : List (BitVec 8)) (i k : Nat) (hb : b.length ≤ 100) (hi : i < 8 * b.length) (hk : k < 8 * b.length) : sum (flip b i) = sum (flip b k) ↔ i = k := by
  refine ⟨fun e => ?_, fun e => by rw [e]⟩
  have hd : ∀ j, j < b.length → (List.zipWith (· ^^^ ·) (bitAt b.length i) (bitAt b.length k)).getD j 0#8 = (bitAt b.length i).getD j 0#8 ^^^ (bitAt b.length k).getD j 0#8 := by
    intro j hj
    rw [getD_of_lt _ _ (by simp [bitAt_length _ _ hi, bitAt_length _ _ hk, hj]), List.getElem_zipWith,
      getD_of_lt _ _ (by rw [bitAt_length _ _ hi]; exact hj), getD_of_lt _ _ (by rw [bitAt_length _ _ hk]; exact hj)]
  have hl : (List.zipWith (· ^^^ ·) (bitAt b.length i) (bitAt b.length k)).length = b.length := by simp [bitAt_length _ _ hi, bitAt_length _ _ hk]
  have h1 := (sum_eq_of (l := flip b i) (m := flip b k) (d := List.zipWith (· ^^^ ·) (bitAt b.length i) (bitAt b.length k)) (by rw [flip_length, hl]) (by rw [flip_length, hl]) (fun j hj => by
    rw [hl] at hj
    rw [hd j hj, bitAt_getD _ _ _, bitAt_getD _ _ _, flip_getD _ _ _ hj, flip_getD _ _ _ hj]
    generalize b.getD j 0#8 = z
    generalize (if j = i / 8 then 1#8 <<< (i % 8) else 0#8) = u
    generalize (if j = k / 8 then 1#8 <<< (k % 8) else 0#8) = v
    rw [show z ^^^ u ^^^ (z ^^^ v) = (z ^^^ z) ^^^ (u ^^^ v) from by ac_rfl, BitVec.xor_self, BitVec.zero_xor])).1 e
  have h2 := run_two (bitAt b.length i) (bitAt b.length k) (List.zipWith (· ^^^ ·) (bitAt b.length i) (bitAt b.length k)) 0#32 0#32
    (by rw [bitAt_length _ _ hi, hl]) (by rw [bitAt_length _ _ hk, hl]) (fun j hj => hd j (by rwa [hl] at hj))
  rw [BitVec.xor_self] at h2
  rw [h1, run_bitAt _ _ hi, run_bitAt _ _ hk] at h2
  have h3 := xor_eq_zero h2.symm
  rcases Nat.lt_trichotomy i k with h | h | h
  · exact (ones_apart _ _ _ hb h hk h3).elim
  · exact h
  · exact (ones_apart _ _ _ hb h hi h3.symm).elim
end Go.Proofs.Ythhglbocoogefaa.Crc
