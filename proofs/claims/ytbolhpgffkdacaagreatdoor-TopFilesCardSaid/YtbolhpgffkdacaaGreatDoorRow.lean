/- The tables are the program's. Conditions: none. -/
import Derived.Test.YtbolhpgffkdacaaGreatDoorEvC
import Derived.Test.YtbolhpgffkdacaaGreatDoorTab
import Derived.KernelRfl
set_option linter.unusedVariables false
set_option linter.unusedSimpArgs false
set_option linter.constructorNameAsVariable false
set_option linter.unusedSectionVars false
namespace Go.Proofs.YtbolhpgffkdacaaGreatDoor
open Go Go.Proofs Go.Proofs.YtbolhpgffkdacaaGreatDoor.Ev
set_option linter.unusedVariables false
set_option maxRecDepth 100000
/-- A list of n values from i on. -/
noncomputable def mkTL {α : Type} (f : Nat → α) (n : Nat) : Nat → List α := Nat.rec (motive := fun _ => Nat → List α) (fun _ => []) (fun _ ih i => f i :: ih (Nat.succ i)) n
theorem mkTL_get {α : Type} (f : Nat → α) : ∀ (n s i : Nat), (mkTL f n s)[i]? = if i < n then some (f (s + i)) else none := by
  intro n
  induction n with
  | zero => intro s i; rfl
  | succ n ih =>
    intro s i
    show (f s :: mkTL f n (s + 1))[i]? = _
    cases i with
    | zero => simp
    | succ i =>
      rw [List.getElem?_cons_succ, ih]
      simp only [Nat.succ_lt_succ_iff, show s + 1 + i = s + (i + 1) from by omega]
noncomputable def allTL (f : Nat → Bool) (n : Nat) : Nat → Bool := Nat.rec (motive := fun _ => Nat → Bool) (fun _ => true) (fun _ ih i => aB (f i) (ih (Nat.succ i))) n
theorem allTL_get (f : Nat → Bool) : ∀ (n s i : Nat), allTL f n s = true → i < n → f (s + i) = true := by
  intro n
  induction n with
  | zero => intro s i _ h; omega
  | succ n ih =>
    intro s i h hi
    obtain ⟨h1, h2⟩ := aB2 (show aB (f s) (allTL f n (s + 1)) = true from h)
    cases i with
    | zero => exact h1
    | succ i => rw [show s + (i + 1) = s + 1 + i from by omega]; exact ih _ _ h2 (by omega)
set_option maxHeartbeats 0 in
theorem tabT : Tryz.prog.types.toList = mkTL (fun t => lk4 tt.tr t) 578 0 := by kernel_rfl
set_option maxHeartbeats 0 in
theorem tabF : Tryz.prog.funcs.toList = mkTL (fun t => (lk4 ft t).f) 717 0 := by kernel_rfl
noncomputable def noT (d : TypeDesc) : Bool := TypeDesc.rec (motive := fun _ => Bool) true false (fun _ => false) (fun _ => false) (fun _ => false) false false (fun _ => false) (fun _ => false) (fun _ _ => false) (fun _ _ => false) (fun _ _ => false) (fun _ => false) (fun _ _ _ => false) (fun _ => false) (fun _ => false) (fun _ _ => false) d
noncomputable def noB (c : Option Code) : Bool := Option.rec (motive := fun _ => Bool) true (fun _ => false) c
set_option maxHeartbeats 0 in
theorem tabT2 : allTL (fun t => noT (lk4 tt.tr t).desc) 3518 578 = true := by kernel_rfl
set_option maxHeartbeats 0 in
theorem tabF2 : allTL (fun t => noB (lk4 ft t).f.body) 3379 717 = true := by kernel_rfl
set_option maxHeartbeats 0 in
theorem tabT3 : noT dT0.desc = true := by kernel_rfl
theorem dgt_hi {n : Nat} (h : 8 ≤ n) : dgt n = .d7 := by
  unfold dgt
  rw [nthL_eq, List.getD_eq_getElem?_getD, List.getElem?_eq_none (by simp; omega)]
  rfl
theorem lk4_hi {α : Type} (t : T4 α) {n : Nat} (h : 4096 ≤ n) : lk4 t n = seN (dgt (Nat.mod n 8)) (seN (dgt (Nat.mod (Nat.div n 8) 8)) (seN (dgt (Nat.mod (Nat.div n 64) 8)) (seN D.d7 t))) := by
  unfold lk4
  rw [dgt_hi (show 8 ≤ Nat.div n 512 from by show 8 ≤ n / 512; omega)]
theorem dT_all (a b c : D) : seN a (seN b (seN c (seN D.d7 tt.tr))) = dT0 := by
  have e : seN D.d7 tt.tr = dT3 := rfl
  rw [e]
  cases c <;> cases b <;> cases a <;> rfl
theorem dF_all (a b c : D) : seN a (seN b (seN c (seN D.d7 ft))) = dF0 := by
  have e : seN D.d7 ft = dF3 := rfl
  rw [e]
  cases c <;> cases b <;> cases a <;> rfl
theorem typ_lo {t : Nat} (h : t < 578) : Tryz.prog.types[t]? = some (tyI tt t) := by
  rw [← Array.getElem?_toList, tabT, mkTL_get, if_pos h, Nat.zero_add]; rfl
theorem typ_none {t : Nat} (h : 578 ≤ t) : Tryz.prog.types[t]? = none := by
  rw [← Array.getElem?_toList, tabT, mkTL_get, if_neg (by omega)]
theorem noT_iff {d : TypeDesc} (h : noT d = true) : d = .invalid := by cases d <;> first | rfl | exact nope (show false = true from h)
theorem typ_hi {t : Nat} (h : 578 ≤ t) : (tyI tt t).desc = .invalid := by
  rcases Nat.lt_or_ge t 4096 with h1 | h1
  · have := allTL_get _ _ _ (t - 578) tabT2 (by omega)
    rw [show 578 + (t - 578) = t from by omega] at this
    exact noT_iff this
  · show (lk4 tt.tr t).desc = _
    rw [lk4_hi _ h1, dT_all]
    rfl
theorem fun_lo {g : Nat} (h : g < 717) : Tryz.prog.funcs[g]? = some (lk4 ft g).f := by
  rw [← Array.getElem?_toList, tabF, mkTL_get, if_pos h, Nat.zero_add]
theorem fun_hi {g : Nat} (h : 717 ≤ g) : (lk4 ft g).f.body = none := by
  rcases Nat.lt_or_ge g 4096 with h1 | h1
  · have := allTL_get _ _ _ (g - 717) tabF2 (by omega)
    rw [show 717 + (g - 717) = g from by omega] at this
    cases hb : (lk4 ft g).f.body with
    | none => rfl
    | some c => rw [hb] at this; exact nope (show false = true from this)
  · rw [lk4_hi _ h1, dF_all]
    rfl
theorem tok : TOk Tryz.prog tt := by
  have hinf : ∀ t, (tyI tt t).desc ≠ .invalid → Tryz.prog.info? t = some (tyI tt t) := fun t ht => by
    rcases Nat.lt_or_ge t 578 with h | h
    · have h1 := typ_lo h
      have h2 : t < Tryz.prog.types.size := (Array.getElem?_eq_some_iff.1 h1).1
      exact (if_pos h2).trans h1
    · exact absurd (typ_hi h) ht
  refine ⟨fun t ht => ?_, fun t ht => ?_⟩
  · have h1 : (tyI tt t).desc ≠ .invalid := fun e => by
      have hu : und tt t = .invalid := by unfold und; rw [e]
      unfold vld at ht
      rw [hu] at ht
      cases ht
    have h2 := hinf t h1
    refine ⟨h2, ?_⟩
    unfold Program.underlying
    rw [h2]
    unfold vld at ht
    have hu : und tt t = und tt t := rfl
    conv at hu => lhs; unfold und
    cases hd : tyI tt t with
    | mk desc str size bytes hp al fa zero cmp ms =>
      rw [hd] at hu
      cases desc with
      | named name u =>
        have hu : (tyI tt u).desc = und tt t := hu
        show Option.map (fun x => x.desc) (Tryz.prog.info? u) = _
        rw [hinf u (fun e => by rw [← hu, e] at ht; cases ht)]
        exact congrArg some hu
      | _ => exact congrArg some hu
  · have key : ∀ l : List Nat, (∀ t ∈ l, Tryz.prog.stoodInHeld t = false) → memQ l t = true → Tryz.prog.stoodInHeld t = false := by
      intro l
      induction l with
      | nil => intro _ h; exact nope (show false = true from h)
      | cons x l ih =>
        intro hl h
        have h : (Bool.rec (motive := fun _ => Bool) (memQ l t) true (Nat.beq x t) : Bool) = true := h
        cases hb : Nat.beq x t with
        | true => rw [← beq_iff'.1 hb]; exact hl x List.mem_cons_self
        | false => rw [hb] at h; exact ih (fun y hy => hl y (List.mem_cons_of_mem _ hy)) h
    refine key [25, 73, 78, 208, 211, 351] ?_ ht
    intro t ht
    simp only [List.mem_cons, List.not_mem_nil, or_false] at ht
    rcases ht with rfl | rfl | rfl | rfl | rfl | rfl
    · exact Tryz.stoodInHeld25
    · exact Tryz.stoodInHeld73
    · exact Tryz.stoodInHeld78
    · exact Tryz.stoodInHeld208
    · exact Tryz.stoodInHeld211
    · exact Tryz.stoodInHeld351
theorem hmix : Tryz.prog.follows .mixedOrders = true := rfl
set_option maxHeartbeats 0 in
theorem tabF3 : allTL (fun g => fnOk (lk4 ft g)) 717 0 = true := by kernel_rfl
theorem fnr {A : List As} {σ : Nat → Int} (g : Nat) : FnR Tryz.prog tt A σ g (cfOf tt A (lk4 ft g)) := by
  rcases Nat.lt_or_ge g 717 with h | h
  · have := allTL_get _ _ _ g tabF3 h
    rw [Nat.zero_add] at this
    exact .inl ⟨_, rfl, fun_lo h, this⟩
  · refine .inr (.inr ?_)
    unfold cfOf
    rw [fun_hi h]
noncomputable def kG : List KRow := [⟨1, .u64, [1, 10, 100, 1000, 10000, 100000, 1000000, 10000000, 100000000, 1000000000, 10000000000, 100000000000, 1000000000000, 10000000000000, 100000000000000, 1000000000000000, 10000000000000000, 100000000000000000, 1000000000000000000, 10000000000000000000]⟩,
  ⟨2, .u8, [0, 1, 28, 2, 29, 14, 24, 3, 30, 22, 20, 15, 25, 17, 4, 8, 31, 27, 13, 23, 21, 19, 16, 7, 26, 12, 18, 6, 11, 5, 10, 9]⟩,
  ⟨3, .u8, [0, 1, 56, 2, 57, 49, 28, 3, 61, 58, 42, 50, 38, 29, 17, 4, 62, 47, 59, 36, 45, 43, 51, 22, 53, 39, 33, 30, 24, 18, 12, 5, 63, 55, 48, 27, 60, 41, 37, 16, 46, 35, 44, 21, 52, 32, 23, 11, 54, 26, 40, 15, 34, 20, 31, 10, 25, 14, 19, 9, 13, 8, 7, 6]⟩]
set_option maxRecDepth 100000
noncomputable def cfS (A : List As) (S G : List Nat) (g : Nat) : CF := Bool.rec (motive := fun _ => CF) (Bool.rec (motive := fun _ => CF) (Bool.rec (motive := fun _ => CF) (Bool.rec (motive := fun _ => CF) (cfOf tt A (lk4 ft g)) (CF.s (saysG kG)) (memN G g)) (CF.s saysT) (memN S g)) (CF.s (sumN 1 x_clon)) (Nat.beq g 469)) (CF.s (sumN 2 x_idxB)) (Nat.beq g 652)
def SaysG (g : Nat) : Prop := ∀ w : World, ngl ≤ w.heap.size → Known kG w → CallR Tryz.prog g #[] w fun x w' => x = .bool true ∧ Stays w w'
def Says (g : Nat) : Prop := ∀ w : World, ngl ≤ w.heap.size → CallR Tryz.prog g #[] w fun x w' => x = .bool true ∧ Stays w w'
set_option maxHeartbeats 0 in
theorem ext1 : (Extern.findNext Tryz.f469).isNone = true := by kernel_rfl
set_option maxHeartbeats 0 in
theorem ext2 : Extern.find Tryz.f469 = some Extern.MapsClone.clone := by kernel_rfl
set_option maxHeartbeats 0 in
theorem ext3 : (Extern.findNext Tryz.f652).isNone = true := by kernel_rfl
set_option maxHeartbeats 0 in
theorem ext4 : Extern.find Tryz.f652 = some Extern.BytealgIndexByte.indexByte := by kernel_rfl
theorem nm1 : Tryz.f469.name ≠ "runtime.NumGoroutine" := by decide
theorem nm2 : Tryz.f652.name ≠ "runtime.NumGoroutine" := by decide
theorem cfS_ok {A : List As} {σ : Nat → Int} {S G : List Nat} (hS : ∀ g ∈ S, Says g) (hG : ∀ g ∈ G, SaysG g) (g : Nat) : FnR Tryz.prog tt A σ g (cfS A S G g) := by
  unfold cfS
  cases h1 : Nat.beq g 652 with
  | true =>
    obtain rfl := beq_iff'.1 h1
    exact fnR_idxB Tryz.func652 nm2 rfl ext3 ext4
  | false =>
    cases h2 : Nat.beq g 469 with
    | true =>
      obtain rfl := beq_iff'.1 h2
      exact fnR_clon Tryz.func469 nm1 rfl ext1 ext2
    | false =>
      cases h3 : memN S g with
      | true => exact fnR_says (hS g (memN_iff.1 h3))
      | false =>
        cases h4 : memN G g with
        | true => exact fnR_saysG (hG g (memN_iff.1 h4))
        | false => exact fnr g
noncomputable def runS (S : List Nat) (g : Nat) : Bool := evF (cfOf tt [] (lk4 ft g)) (evC (cfS [] S []) 1000) [] eh6 pa0 (fun v _ _ => onB v fun b => b)
theorem says_of {S : List Nat} {g : Nat} (hS : ∀ g ∈ S, Says g) (h : runS S g = true) : Says g := says_true hmix tok (cfS_ok hS (fun _ h => (by cases h))) (fnr g) h
theorem okKg : okG kG = true := by kernel_rfl
noncomputable def runG (S G : List Nat) (g : Nat) : Bool := onG kG fun h => evF (cfOf tt [] (lk4 ft g)) (evC (cfS [] S G) 1000) [] h pa0 (fun v _ _ => onB v fun b => b)
theorem saysG_of {S G : List Nat} {g : Nat} (hS : ∀ g ∈ S, Says g) (hG : ∀ g ∈ G, SaysG g) (h : runG S G g = true) : SaysG g := saysG_true hmix tok okKg (cfS_ok hS hG) (fnr g) h
/-- A run with values. -/
noncomputable def runT (A : List As) (G : List Nat) (g : Nat) (l : List V) : Bool := onG kG fun h => evF (cfOf tt A (lk4 ft g)) (evC (cfS A [] G) 1000) l h pa0 (fun v _ _ => onB v fun b => b)
theorem top_of {A : List As} {σ : Nat → Int} {G : List Nat} {g : Nat} {l : List V} {args : List Value} (hA : AsOk σ A) (hG : ∀ g ∈ G, SaysG g) (hv : ∀ ρ, VRs σ ρ l args) (h : runT A G g l = true) : ∀ w : World, ngl ≤ w.heap.size → Known kG w → CallR Tryz.prog g ⟨args⟩ w fun x w' => x = .bool true ∧ Stays w w' := top_true hmix tok okKg hA (cfS_ok (fun _ h => (by cases h)) hG) (fnr g) hv h
set_option maxRecDepth 100000
noncomputable def ldT (g : Nat) : List Nat := Bool.rec (motive := fun _ => List Nat) [] (Tryz.prog.leadsTo (lk4 ft g).f) (Nat.blt g 717)
theorem fun_none {g : Nat} (h : 717 ≤ g) : Tryz.prog.funcs[g]? = none := by
  rw [← Array.getElem?_toList, tabF, mkTL_get, if_neg (by omega)]
theorem ldT_eq (g : Nat) : (Tryz.prog.funcs[g]?).elim [] Tryz.prog.leadsTo = ldT g := by
  unfold ldT
  rcases Nat.lt_or_ge g 717 with h | h
  · rw [fun_lo h, blt_iff.2 h]; rfl
  · rw [fun_none h]
    have e : Nat.blt g 717 = false := by
      cases hb : Nat.blt g 717 with
      | false => rfl
      | true => have := blt_iff.1 hb; omega
    rw [e]; rfl
set_option maxRecDepth 100000
set_option maxHeartbeats 0 in
theorem tabGo : allTL (fun g => nB (goF (lk4 ft g).f)) 717 0 = true := by kernel_rfl
theorem fun_of {g : Nat} {f : Func} (h : Tryz.prog.funcs[g]? = some f) : g < 717 ∧ f = (lk4 ft g).f := by
  rcases Nat.lt_or_ge g 717 with h1 | h1
  · rw [fun_lo h1] at h; exact ⟨h1, (Option.some.inj h).symm⟩
  · rw [fun_none h1] at h; cases h
theorem goesN (g : Nat) : Tryz.prog.goes g = false := goes_none (fun g f h => by
  obtain ⟨h1, rfl⟩ := fun_of h
  have := allTL_get _ _ _ g tabGo h1
  rw [Nat.zero_add, nB_eq] at this
  simpa using this) g
noncomputable def ltL (l : List Nat) : Bool := List.rec (motive := fun _ => Bool) true (fun x _ ih => aB (Nat.blt x 717) ih) l
theorem ltL_all : ∀ {l : List Nat}, ltL l = true → ∀ g ∈ l, g < 717 := by
  intro l
  induction l with
  | nil => intro _ g h; cases h
  | cons x l ih =>
    intro h g hg
    obtain ⟨h1, h2⟩ := aB2 (show aB (Nat.blt x 717) (ltL l) = true from h)
    rcases List.mem_cons.1 hg with rfl | hg
    · exact blt_iff.1 h1
    · exact ih h2 g hg
theorem inPlace_of {f : Nat} {L : List Nat} (hc : Tryz.prog.closure f = L) (hl : ltL L = true) : Tryz.prog.inPlace f = L.filterMap fun g => if (lk4 ft g).f.ours || (lk4 ft g).f.body.isNone || (lk4 ft g).f.name == "runtime.NumGoroutine" then some (lk4 ft g).f.name else none := by
  unfold Program.inPlace
  rw [hc]
  exact fm_tab (P := Tryz.prog) (F := fun g => (lk4 ft g).f) (n := 717) (fun g h => fun_lo h) (fun fn => if fn.ours || fn.body.isNone || fn.name == "runtime.NumGoroutine" then some fn.name else none) (ltL_all hl)
theorem varsNamed_of {f : Nat} {L : List Nat} (hc : Tryz.prog.closure f = L) (hl : ltL L = true) : Tryz.prog.varsNamed f = (((gnA (fun g => (lk4 ft g).f) L).eraseDups).filterMap (fun g => (Tryz.prog.globals[g]?).map (·.name)) ++ L.filterMap fun g => if (lk4 ft g).f.body.isNone then entryReads.lookup (lk4 ft g).f.name else none).eraseDups := by
  unfold Program.varsNamed
  rw [hc, fl_tab (P := Tryz.prog) (F := fun g => (lk4 ft g).f) (n := 717) (fun g h => fun_lo h) (ltL_all hl), fm_tab (P := Tryz.prog) (F := fun g => (lk4 ft g).f) (n := 717) (fun g h => fun_lo h) (fun fn => if fn.body.isNone then entryReads.lookup fn.name else none) (ltL_all hl)]
end Go.Proofs.YtbolhpgffkdacaaGreatDoor
