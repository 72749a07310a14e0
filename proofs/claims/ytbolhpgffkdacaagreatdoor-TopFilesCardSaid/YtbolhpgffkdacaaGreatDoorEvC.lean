/- What goes on, goes on with a value. Conditions: none. -/
import Derived.Test.YtbolhpgffkdacaaGreatDoorEvB
import GoSem.ClaimJoined
import Derived.Lib.LaidTab
import Derived.Below
import GoSem.ClaimGoes
import Derived.ChangeArms
import Derived.WideShapes
import Derived.Carry
set_option linter.unusedVariables false
set_option linter.unusedSimpArgs false
set_option linter.constructorNameAsVariable false
set_option linter.unusedSectionVars false
set_option linter.unusedVariables false
set_option linter.unusedSimpArgs false
set_option linter.constructorNameAsVariable false
namespace Go.Proofs.YtbolhpgffkdacaaGreatDoor.Ev
open Go Go.RowKit
section
variable {env : List V} {fr : Fr} {h : H6} {nx : Pa} {call : Cal} {K : KV}
theorem str_A (x : OA) (hk : kdA x ≠ 2 ∧ kdA x ≠ 3) : evA x call env fr h nx (fun _ _ _ => false) = false := by
  cases x with
  | mv x => show e_mv x call env fr h nx (fun _ _ _ => false) = false; unfold e_mv; simp only [evX_f]
  | ld x => show e_ld x call env fr h nx (fun _ _ _ => false) = false; unfold e_ld; simp only [evX_f, onP_f, getH_f, onCe_f, gB_f, getC_f]
  | st sz x y => exact absurd rfl hk.2
  | fa off x => show e_fa off x call env fr h nx (fun _ _ _ => false) = false; unfold e_fa; simp only [evX_f, onP_f, fN_f]
  | ia sz x i => show e_ia sz x i call env fr h nx (fun _ _ _ => false) = false; unfold e_ia; simp only [evX_f, ssI_f, onI_f, onN_f, gB_f, fN_f]
  | bin A op tk x y => show e_bin A op tk x y call env fr h nx (fun _ _ _ => false) = false; unfold e_bin; simp only [evX_f, binV_f]
  | call g xs => exact absurd rfl hk.2
  | len q x => show e_len q x call env fr h nx (fun _ _ _ => false) = false; unfold e_len; simp only [evX_f, lenK_f, gB_f, ssK_f]
  | ext j x => show e_ext j x call env fr h nx (fun _ _ _ => false) = false; unfold e_ext; simp only [evX_f, onTup_f, nthV_f]
  | o x =>
    cases x with
    | pick c a b => show e_pick c a b call env fr h nx (fun _ _ _ => false) = false; unfold e_pick; simp only [evX_f, onB_f, iB_f]
    | new n c => exact absurd rfl hk.1
    | box n x => exact absurd rfl hk.1
    | bldG z ps => show e_bldG z ps call env fr h nx (fun _ _ _ => false) = false; unfold e_bldG; simp only [fillG_f]
    | bldS n len c ps => exact absurd rfl hk.1
    | ldN n x => show e_ldN n x call env fr h nx (fun _ _ _ => false) = false; unfold e_ldN; simp only [evX_f, onP_f, getH_f, onCe_f, gB_f, rdL_f]
    | nilc x => show e_nilc x call env fr h nx (fun _ _ _ => false) = false; unfold e_nilc; simp only [evX_f, nilK_f]
    | not x => show e_not x call env fr h nx (fun _ _ _ => false) = false; unfold e_not; simp only [evX_f, onB_f, bK_f]
    | neg x => show e_neg x call env fr h nx (fun _ _ _ => false) = false; unfold e_neg; simp only [evX_f, negK_f]
    | com x => show e_com x call env fr h nx (fun _ _ _ => false) = false; unfold e_com; simp only [evX_f, onI_f, zK_f]
    | cvI k x => show e_cvI k x call env fr h nx (fun _ _ _ => false) = false; unfold e_cvI; simp only [evX_f, cvK_f]
    | b2s x => show e_b2s x call env fr h nx (fun _ _ _ => false) = false; unfold e_b2s; simp only [evX_f, b2sK_f]
    | s2b x => exact absurd rfl hk.2
    | mkI t x => show e_mkI t x call env fr h nx (fun _ _ _ => false) = false; unfold e_mkI; simp only [evX_f]
    | mkF g xs ys => show e_mkF g xs ys call env fr h nx (fun _ _ _ => false) = false; unfold e_mkF; simp only [evXs_f]
    | mks x => show e_mks x call env fr h nx (fun _ _ _ => false) = false; unfold e_mks; simp only [evX_f, onSl_f, getH_f, onCe_f, gB_f]
    | mkM => exact absurd rfl hk.1
    | mkS sz z a b => exact absurd rfl hk.1
    | slS x lo hi => show e_slS x lo hi call env fr h nx (fun _ _ _ => false) = false; unfold e_slS; simp only [evX_f, onStr_f, bnd_f, gB_f, fN_f]
    | slP n sz x lo hi => show e_slP n sz x lo hi call env fr h nx (fun _ _ _ => false) = false; unfold e_slP; simp only [evX_f, onP_f, bnd_f, gB_f, fN_f]
    | slV sz x lo hi => show e_slV sz x lo hi call env fr h nx (fun _ _ _ => false) = false; unfold e_slV; simp only [evX_f, slK_f]
    | fld off n g x => show e_fld off n g x call env fr h nx (fun _ _ _ => false) = false; unfold e_fld; simp only [evX_f, onAgg_f, partK_f]
    | iaA len sz x i => show e_iaA len sz x i call env fr h nx (fun _ _ _ => false) = false; unfold e_iaA; simp only [evX_f, onP_f, onI_f, onN_f, gB_f, fN_f]
    | ixS x i => show e_ixS x i call env fr h nx (fun _ _ _ => false) = false; unfold e_ixS; simp only [evX_f, onStr_f, onI_f, onN_f, gB_f, fN_f]
    | ixA len sz g x i => show e_ixA len sz g x i call env fr h nx (fun _ _ _ => false) = false; unfold e_ixA; simp only [evX_f, onAgg_f, onI_f, onN_f, gB_f, partK_f]
    | lkp kk z ok m k => show e_lkp kk z ok m k call env fr h nx (fun _ _ _ => false) = false; unfold e_lkp; simp only [evX_f, iB_f, lkpK_f, gB_f]
    | mup kk m k v => exact absurd rfl hk.2
    | callv x xs => exact absurd rfl hk.2
    | inv mt x xs => exact absurd rfl hk.2
    | lenA n => rfl
    | cap x => show e_cap x call env fr h nx (fun _ _ _ => false) = false; unfold e_cap; simp only [evX_f, onSl_f, gB_f]
    | app sz s x => exact absurd rfl hk.2
    | cpy sz d s => exact absurd rfl hk.2
    | clr z x => exact absurd rfl hk.2
    | mn A a b => show e_mn A a b call env fr h nx (fun _ _ _ => false) = false; unfold e_mn; simp only [evX_f, asE_f, leE_f, gB_f, iB_f]
    | mx A a b => show e_mx A a b call env fr h nx (fun _ _ _ => false) = false; unfold e_mx; simp only [evX_f, asE_f, leE_f, gB_f, iB_f]
    | eqG ng ks x y => show e_eqG ng ks x y call env fr h nx (fun _ _ _ => false) = false; unfold e_eqG; simp only [evX_f, onAgg_f, rowE_f, bK_f]
    | appZ sz z s x => exact absurd rfl hk.2
    | tas t ok z x => show e_tas t ok z x call env fr h nx (fun _ _ _ => false) = false; unfold e_tas; simp only [evX_f, gB_f, iB_f, tasK_f]
    | ids x => show e_ids x call env fr h nx (fun _ _ _ => false) = false; unfold e_ids; simp only [evX_f, onStr_f]
    | bad => rfl
theorem same_A (x : OA) (hk : kdA x ≠ 2 ∧ kdA x ≠ 3) : evA x call env fr h nx K = evA x call env fr h nx (fun v _ _ => K v h nx) := by
  cases x with
  | st sz x y => exact absurd rfl hk.2
  | call g xs => exact absurd rfl hk.2
  | o x =>
    cases x with
    | new n c => exact absurd rfl hk.1
    | box n x => exact absurd rfl hk.1
    | bldS n len c ps => exact absurd rfl hk.1
    | s2b x => exact absurd rfl hk.2
    | mkM => exact absurd rfl hk.1
    | mkS sz z a b => exact absurd rfl hk.1
    | mup kk m k v => exact absurd rfl hk.2
    | callv x xs => exact absurd rfl hk.2
    | inv mt x xs => exact absurd rfl hk.2
    | app sz s x => exact absurd rfl hk.2
    | cpy sz d s => exact absurd rfl hk.2
    | clr z x => exact absurd rfl hk.2
    | appZ sz z s x => exact absurd rfl hk.2
    | _ => rfl
  | _ => rfl
/-- It goes on with a value; what was laid stays. -/
theorem inv_A {x : OA} (hk : kdA x ≠ 2 ∧ kdA x ≠ 3) (he : evA x call env fr h nx K = true) : ∃ v, K v h nx = true := by
  rw [same_A x hk] at he
  apply Classical.byContradiction
  intro hn
  have : (fun v (_ : H6) (_ : Pa) => K v h nx) = fun _ _ _ => false := by
    funext v _ _
    cases hv : K v h nx with
    | false => rfl
    | true => exact absurd ⟨v, hv⟩ hn
  rw [this, str_A x hk] at he
  cases he
/-- A value's block. -/
def blkV : V → Option Pa
  | .p b _ => some b
  | .sl b _ _ _ _ => some b
  | .m b => some b
  | _ => none
theorem mkS_f {sz : Nat} {z : List V} {a b : Od} (he : e_mkS sz z a b call env fr h nx K = true) : ∃ l c cs n2, num n2 = num nx + 1 ∧ K (V.sl nx 0 l c 0) (upH nx h (.ce (c * sz) false cs)) n2 = true := by
  apply Classical.byContradiction
  intro hn
  have key : ∀ (l c : Nat) (cs : Cs), new (Ob.ce (c * sz) false cs) h nx (fun b h nx => K (V.sl b 0 l c 0) h nx) = false := fun l c cs => str_of fun hk => by
    obtain ⟨n2, h1, h2⟩ := new_true hk
    exact hn ⟨l, c, cs, n2, h1, h2⟩
  have he' : evX a env fr (fun va => onI va fun _ za => onN za fun l => evX b env fr fun vb => onI vb fun _ zb => onN zb fun c => gB (aB (Nat.ble l c) (Nat.ble c 65536)) (wrZ c z emC 0 fun cs _ => fN (c * sz) fun n => new (Ob.ce n false cs) h nx fun b h nx => K (V.sl b 0 l c 0) h nx)) = true := he
  have wrZ_f : ∀ (c : Nat) , wrZ c z emC 0 (fun _ _ => false) = false := fun c => str_of fun hk => by obtain ⟨_, hk, _⟩ := wrZ_true c hk; cases hk
  simp only [fN_eq, key, wrZ_f, gB_f, onN_f, onI_f, evX_f] at he'
  cases he'
/-- A new block's operation goes on with a new block. -/
theorem inv_N {x : OA} (hk : kdA x = 2) (he : evA x call env fr h nx K = true) : ∃ v ob n2, blkV v = some nx ∧ num n2 = num nx + 1 ∧ K v (upH nx h ob) n2 = true := by
  have fin : ∀ {ob : Ob} {g : Pa → V}, blkV (g nx) = some nx → new ob h nx (fun b h nx => K (g b) h nx) = true → ∃ v ob n2, blkV v = some nx ∧ num n2 = num nx + 1 ∧ K v (upH nx h ob) n2 = true := fun {ob g} hg hk => by
    obtain ⟨n2, h1, h2⟩ := new_true hk
    exact ⟨_, _, n2, hg, h1, h2⟩
  cases x with
  | o x =>
    cases x with
    | new n c => exact fin (g := fun b => V.p b 0) rfl he
    | box n x =>
      have he : evX x env fr (fun v => onCell v (fun v => gB (Nat.beq n 1) (setC emC 0 v fun c => new (Ob.ce 1 false c) h nx fun b h nx => K (V.p b 0) h nx)) (fun l => gB (Nat.beq n (lenV l)) (wrL l emC 0 fun c _ => new (Ob.ce n false c) h nx fun b h nx => K (V.p b 0) h nx))) = true := he
      apply Classical.byContradiction
      intro hn
      have key : ∀ (ob : Ob), new ob h nx (fun b h nx => K (V.p b 0) h nx) = false := fun ob => str_of fun hk => hn (fin (g := fun b => V.p b 0) rfl hk)
      have setC_f : ∀ (c : Cs) (o : Nat) (v : V), setC c o v (fun _ => false) = false := fun c o v => str_of fun hk => by obtain ⟨_, hk, _⟩ := setC_true hk; cases hk
      have wrL_f : ∀ (l : List V) (c : Cs) (o : Nat), wrL l c o (fun _ _ => false) = false := fun l c o => str_of fun hk => by obtain ⟨_, hk, _⟩ := wrL_true l hk; cases hk
      simp only [key, setC_f, wrL_f, gB_f, onCell_f, evX_f] at he
      cases he
    | bldS n len c ps =>
      have he : fillC ps c env fr (fun c => new (Ob.ce n false c) h nx fun b h nx => K (V.sl b 0 len len 0) h nx) = true := he
      apply Classical.byContradiction
      intro hn
      have key : ∀ (ob : Ob), new ob h nx (fun b h nx => K (V.sl b 0 len len 0) h nx) = false := fun ob => str_of fun hk => hn (fin (g := fun b => V.sl b 0 len len 0) rfl hk)
      have setC_f : ∀ (c : Cs) (o : Nat) (v : V), setC c o v (fun _ => false) = false := fun c o v => str_of fun hk => by obtain ⟨_, hk, _⟩ := setC_true hk; cases hk
      have wrL_f : ∀ (l : List V) (c : Cs) (o : Nat), wrL l c o (fun _ _ => false) = false := fun l c o => str_of fun hk => by obtain ⟨_, hk, _⟩ := wrL_true l hk; cases hk
      have fillC_f : ∀ (ps : List Pt) (c : Cs), fillC ps c env fr (fun _ => false) = false := by
        intro ps
        induction ps with
        | nil => intro c; rfl
        | cons p ps ih =>
          intro c
          obtain ⟨off, size, x⟩ := p
          show evX x env fr (fun v => onCell v (fun v => gB (Nat.beq size 1) (setC c off v fun z => fillC ps z env fr fun _ => false)) (fun l => gB (Nat.beq size (lenV l)) (wrL l c off fun z _ => fillC ps z env fr fun _ => false))) = false
          simp only [ih, setC_f, wrL_f, gB_f, onCell_f, evX_f]
      simp only [key, fillC_f] at he
      cases he
    | mkM => exact fin (g := fun b => V.m b) rfl he
    | mkS sz z a b =>
      obtain ⟨l, c, cs, n2, h1, h2⟩ := mkS_f (call := call) he
      exact ⟨_, _, n2, rfl, h1, h2⟩
    | _ => first | exact absurd (show (0 : Nat) = 2 from hk) (by decide) | exact absurd (show (1 : Nat) = 2 from hk) (by decide) | exact absurd (show (3 : Nat) = 2 from hk) (by decide) | exact absurd (show (4 : Nat) = 2 from hk) (by decide)
  | _ => first | exact absurd (show (0 : Nat) = 2 from hk) (by decide) | exact absurd (show (1 : Nat) = 2 from hk) (by decide) | exact absurd (show (3 : Nat) = 2 from hk) (by decide) | exact absurd (show (4 : Nat) = 2 from hk) (by decide)
end
end Go.Proofs.YtbolhpgffkdacaaGreatDoor.Ev
set_option linter.unusedVariables false
set_option linter.unusedSimpArgs false
set_option linter.constructorNameAsVariable false
namespace Go.Proofs.YtbolhpgffkdacaaGreatDoor.Ev
open Go Go.RowKit
theorem tbN_eq (m i : Nat) : tbN m i = m.testBit i := by
  show Nat.beq ((m >>> i) % 2) 1 = _
  rw [Nat.testBit_eq_decide_div_mod_eq, Nat.shiftRight_eq_div_pow, Bool.eq_iff_iff, decide_eq_true_iff]
  exact beq_iff'
theorem bit1 (i j : Nat) : (Nat.shiftLeft 1 i).testBit j = decide (i = j) := by
  show (1 <<< i).testBit j = _
  rw [Nat.one_shiftLeft, Nat.testBit_two_pow]
theorem bitOr (a b j : Nat) : (Nat.lor a b).testBit j = (a.testBit j || b.testBit j) := Nat.testBit_or a b j
theorem subN_spec {a b : Nat} (h : subN a b = true) {j : Nat} (hj : a.testBit j = true) : b.testBit j = true := by
  have h := beq_iff'.1 (show Nat.beq (Nat.land a b) a = true from h)
  have h2 : (Nat.land a b).testBit j = (a.testBit j && b.testBit j) := Nat.testBit_and a b j
  rw [h, hj] at h2
  simpa using h2.symm
theorem subN_of {a b : Nat} (h : ∀ j, a.testBit j = true → b.testBit j = true) : subN a b = true := by
  refine beq_iff'.2 ?_
  apply Nat.eq_of_testBit_eq
  intro j
  show (a &&& b).testBit j = a.testBit j
  rw [Nat.testBit_and]
  cases hj : a.testBit j with
  | false => rfl
  | true => rw [h j hj]; rfl
/-- Ahead of an operation, by an edge. -/
def Dep (o : Oper) (j : Nat) : Prop := ∃ e ∈ o.after.toList, Region.binds .any e = true ∧ e.on = j
theorem dmO_spec (o : Oper) (j : Nat) : (dmO o).testBit j = true ↔ Dep o j := by
  unfold Dep
  have : ∀ (l : List Edge), (List.rec (motive := fun _ => Nat) 0 (fun e _ ih => Bool.rec (motive := fun _ => Nat) ih (Nat.lor (Nat.shiftLeft 1 e.on) ih) (Region.binds .any e)) l : Nat).testBit j = true ↔ ∃ e ∈ l, Region.binds .any e = true ∧ e.on = j := by
    intro l
    induction l with
    | nil => simp
    | cons e l ih =>
      show (Bool.rec (motive := fun _ => Nat) _ (Nat.lor (Nat.shiftLeft 1 e.on) _) (Region.binds .any e) : Nat).testBit j = true ↔ _
      cases hb : Region.binds .any e with
      | false =>
        rw [ih]
        constructor
        · rintro ⟨x, hx, h1, h2⟩; exact ⟨x, List.mem_cons_of_mem _ hx, h1, h2⟩
        · rintro ⟨x, hx, h1, h2⟩
          rcases List.mem_cons.1 hx with rfl | hx
          · rw [hb] at h1; cases h1
          · exact ⟨x, hx, h1, h2⟩
      | true =>
        show (Nat.lor (Nat.shiftLeft 1 e.on) _).testBit j = true ↔ _
        rw [bitOr, bit1, Bool.or_eq_true, ih, decide_eq_true_iff]
        constructor
        · rintro (h | ⟨x, hx, h1, h2⟩)
          · exact ⟨e, List.mem_cons_self, hb, h⟩
          · exact ⟨x, List.mem_cons_of_mem _ hx, h1, h2⟩
        · rintro ⟨x, hx, h1, h2⟩
          rcases List.mem_cons.1 hx with rfl | hx
          · exact .inl h2
          · exact .inr ⟨x, hx, h1, h2⟩
  exact this _
theorem apN_eq {α : Type} (l : List α) (x : α) : apN l x = l ++ [x] := by
  induction l with
  | nil => rfl
  | cons y l ih => show y :: apN l x = y :: (l ++ [x]); rw [ih]
theorem nthL_eq {α : Type} (d : α) : ∀ (l : List α) (n : Nat), nthL l n d = l.getD n d := by
  intro l
  induction l with
  | nil => intro n; rfl
  | cons x l ih =>
    intro n
    cases n with
    | zero => rfl
    | succ n => rw [List.getD_cons_succ]; exact ih n
theorem orB_spec (B : List Nat) (o : Oper) (j : Nat) : (orB B o).testBit j = true → Dep o j ∨ ∃ e, Dep o e ∧ (B.getD e 0).testBit j = true := by
  unfold Dep
  have : ∀ (l : List Edge), (List.rec (motive := fun _ => Nat) 0 (fun e _ ih => Bool.rec (motive := fun _ => Nat) ih (Nat.lor (Nat.lor (Nat.shiftLeft 1 e.on) (nthL B e.on 0)) ih) (Region.binds .any e)) l : Nat).testBit j = true → (∃ e ∈ l, Region.binds .any e = true ∧ e.on = j) ∨ ∃ i, (∃ e ∈ l, Region.binds .any e = true ∧ e.on = i) ∧ (B.getD i 0).testBit j = true := by
    intro l
    induction l with
    | nil => intro h; simp at h
    | cons e l ih =>
      intro h
      have h : (Bool.rec (motive := fun _ => Nat) (List.rec (motive := fun _ => Nat) 0 (fun e _ ih => Bool.rec (motive := fun _ => Nat) ih (Nat.lor (Nat.lor (Nat.shiftLeft 1 e.on) (nthL B e.on 0)) ih) (Region.binds .any e)) l) (Nat.lor (Nat.lor (Nat.shiftLeft 1 e.on) (nthL B e.on 0)) (List.rec (motive := fun _ => Nat) 0 (fun e _ ih => Bool.rec (motive := fun _ => Nat) ih (Nat.lor (Nat.lor (Nat.shiftLeft 1 e.on) (nthL B e.on 0)) ih) (Region.binds .any e)) l)) (Region.binds .any e) : Nat).testBit j = true := h
      have up : ((∃ e ∈ l, Region.binds .any e = true ∧ e.on = j) ∨ ∃ i, (∃ e ∈ l, Region.binds .any e = true ∧ e.on = i) ∧ (B.getD i 0).testBit j = true) → (∃ x ∈ e :: l, Region.binds .any x = true ∧ x.on = j) ∨ ∃ i, (∃ x ∈ e :: l, Region.binds .any x = true ∧ x.on = i) ∧ (B.getD i 0).testBit j = true := by
        rintro (⟨x, hx, h1⟩ | ⟨i, ⟨x, hx, h1⟩, h2⟩)
        · exact .inl ⟨x, List.mem_cons_of_mem _ hx, h1⟩
        · exact .inr ⟨i, ⟨x, List.mem_cons_of_mem _ hx, h1⟩, h2⟩
      cases hb : Region.binds .any e with
      | false => rw [hb] at h; exact up (ih h)
      | true =>
        rw [hb] at h
        simp only [bitOr, bit1, Bool.or_eq_true, decide_eq_true_iff] at h
        rcases h with (h | h) | h
        · exact .inl ⟨e, List.mem_cons_self, hb, h⟩
        · rw [nthL_eq] at h; exact .inr ⟨e.on, ⟨e, List.mem_cons_self, hb, rfl⟩, h⟩
        · exact up (ih h)
  exact this _
theorem befL_spec (ops : List Oper) : ∀ i o, ops[i]? = some o → ∀ j, ((befL ops).getD i 0).testBit j = true → Dep o j ∨ ∃ e, e < i ∧ Dep o e ∧ ((befL ops).getD e 0).testBit j = true := by
  have gen : ∀ (l : List Oper) (acc : List Nat), ∃ r : List Nat, (List.rec (motive := fun _ => List Nat → List Nat) (fun acc => acc) (fun o _ ih acc => ih (apN acc (orB acc o))) l acc : List Nat) = acc ++ r ∧ r.length = l.length ∧ ∀ i o, l[i]? = some o → r[i]? = some (orB (acc ++ r.take i) o) := by
    intro l
    induction l with
    | nil => intro acc; exact ⟨[], by simp, rfl, fun i o h => by simp at h⟩
    | cons x l ih =>
      intro acc
      obtain ⟨r, h1, h2, h3⟩ := ih (apN acc (orB acc x))
      rw [apN_eq] at h1 h3
      refine ⟨orB acc x :: r, ?_, by simp [h2], fun i o h => ?_⟩
      · show (List.rec (motive := fun _ => List Nat → List Nat) (fun acc => acc) (fun o _ ih acc => ih (apN acc (orB acc o))) l (apN acc (orB acc x)) : List Nat) = _
        rw [apN_eq, h1]
        simp
      · cases i with
        | zero => simp at h; subst h; simp
        | succ i =>
          have := h3 i o (by simpa using h)
          simpa using this
  obtain ⟨r, h1, h2, h3⟩ := gen ops []
  have hB : befL ops = r := by show (List.rec (motive := fun _ => List Nat → List Nat) (fun acc => acc) (fun o _ ih acc => ih (apN acc (orB acc o))) ops [] : List Nat) = r; rw [h1]; rfl
  intro i o hi j hj
  rw [hB] at hj ⊢
  have h4 := h3 i o hi
  rw [List.getD_eq_getElem?_getD, h4, List.nil_append] at hj
  rcases orB_spec _ _ _ hj with h | ⟨e, h5, h6⟩
  · exact .inl h
  · have he : e < i := by
      rcases Nat.lt_or_ge e i with h | h
      · exact h
      · rw [List.getD_eq_getElem?_getD, List.getElem?_eq_none (by rw [List.length_take]; omega)] at h6
        simp at h6
    refine .inr ⟨e, he, h5, ?_⟩
    rw [List.getD_eq_getElem?_getD, List.getElem?_take, if_pos he] at h6
    rw [List.getD_eq_getElem?_getD]
    exact h6
/-- What is closed under edges holds all that must go ahead. -/
theorem anc_in (ops : List Oper) {S : Nat → Prop} (hS : ∀ i o, ops[i]? = some o → S i → ∀ j, Dep o j → S j) : ∀ i o, ops[i]? = some o → (∀ j, Dep o j → S j) → ∀ j, ((befL ops).getD i 0).testBit j = true → S j := by
  intro i
  induction i using Nat.strongRecOn with
  | _ i ih =>
    intro o hi hd j hj
    rcases befL_spec ops i o hi j hj with h | ⟨e, he, h1, h2⟩
    · exact hd j h
    · have hle : i < ops.length := (List.getElem?_eq_some_iff.1 hi).1
      have hoe : ops[e]? = some ops[e] := List.getElem?_eq_getElem (by omega)
      exact ih e he _ hoe (hS e _ hoe (hd e h1)) j h2
/-- The first that may go. -/
theorem rdyL_spec (m : Nat) (q : Nat → Oper → Bool) : ∀ (l : List Oper) (i0 : Nat), (∀ i, (List.rec (motive := fun _ => Nat → Option Nat) (fun _ => none) (fun o _ ih i => Bool.rec (motive := fun _ => Option Nat) (ih (Nat.succ i)) (some i) (aB (nB (tbN m i)) (aB (subN (dmO o) m) (q i o)))) l i0 : Option Nat) = some i → ∃ o, i0 ≤ i ∧ l[i - i0]? = some o ∧ m.testBit i = false ∧ (∀ j, Dep o j → m.testBit j = true) ∧ q i o = true) ∧
    ((List.rec (motive := fun _ => Nat → Option Nat) (fun _ => none) (fun o _ ih i => Bool.rec (motive := fun _ => Option Nat) (ih (Nat.succ i)) (some i) (aB (nB (tbN m i)) (aB (subN (dmO o) m) (q i o)))) l i0 : Option Nat) = none → ∀ j o, l[j]? = some o → m.testBit (i0 + j) = false → (∀ i, Dep o i → m.testBit i = true) → q (i0 + j) o = false) := by
  intro l
  induction l with
  | nil => intro i0; exact ⟨fun i h => (by cases h), fun _ j o h => (by simp at h)⟩
  | cons x l ih =>
    intro i0
    obtain ⟨ih1, ih2⟩ := ih (i0 + 1)
    have e : (List.rec (motive := fun _ => Nat → Option Nat) (fun _ => none) (fun o _ ih i => Bool.rec (motive := fun _ => Option Nat) (ih (Nat.succ i)) (some i) (aB (nB (tbN m i)) (aB (subN (dmO o) m) (q i o)))) (x :: l) i0 : Option Nat) = Bool.rec (motive := fun _ => Option Nat) ((List.rec (motive := fun _ => Nat → Option Nat) (fun _ => none) (fun o _ ih i => Bool.rec (motive := fun _ => Option Nat) (ih (Nat.succ i)) (some i) (aB (nB (tbN m i)) (aB (subN (dmO o) m) (q i o)))) l : Nat → Option Nat) (i0 + 1)) (some i0) (aB (nB (tbN m i0)) (aB (subN (dmO x) m) (q i0 x))) := rfl
    rw [e]
    cases hb : aB (nB (tbN m i0)) (aB (subN (dmO x) m) (q i0 x)) with
    | true =>
      refine ⟨fun i h => ?_, fun h => by cases h⟩
      cases (show some i0 = some i from h)
      obtain ⟨h1, h2⟩ := aB2 hb
      obtain ⟨h3, h4⟩ := aB2 h2
      rw [nB_eq, tbN_eq] at h1
      exact ⟨x, Nat.le_refl _, by simp, by simpa using h1, fun j hj => subN_spec h3 ((dmO_spec x j).2 hj), h4⟩
    | false =>
      refine ⟨fun i h => ?_, fun h j o hj hm hd => ?_⟩
      · obtain ⟨o, h1, h2, h3⟩ := ih1 i h
        refine ⟨o, by omega, ?_, h3⟩
        rw [show i - i0 = (i - (i0 + 1)) + 1 from by omega]
        simpa using h2
      · cases j with
        | zero =>
          simp at hj
          subst hj
          cases hq : q (i0 + 0) x with
          | false => rfl
          | true =>
            exfalso
            rw [aB_eq, aB_eq, nB_eq, tbN_eq, subN_of (fun j hj => hd j ((dmO_spec x j).1 hj)), show q i0 x = true from hq, show m.testBit i0 = false from hm] at hb
            cases hb
        | succ j =>
          have := ih2 h j o (by simpa using hj) (by rw [show i0 + 1 + j = i0 + (j + 1) from by omega]; exact hm) hd
          rw [show i0 + 1 + j = i0 + (j + 1) from by omega] at this
          exact this
theorem lenO_eq (l : List Oper) : lenO l = l.length := by
  induction l with
  | nil => rfl
  | cons x l ih => show Nat.succ (lenO l) = _; rw [ih]; rfl
theorem ltD_eq (l : List Nat) : ltD l = l.length := by
  induction l with
  | nil => rfl
  | cons x l ih => show Nat.succ (ltD l) = _; rw [ih]; rfl
theorem full_mask {m n : Nat} (h : Nat.beq (Nat.add m 1) (Nat.shiftLeft 1 n) = true) {i : Nat} (hi : i < n) : m.testBit i = true := by
  have h := beq_iff'.1 h
  have e : Nat.shiftLeft 1 n = 2 ^ n := Nat.one_shiftLeft n
  rw [e] at h
  have hm : m = 2 ^ n - 1 := by have : m + 1 = 2 ^ n := h; omega
  rw [hm, Nat.testBit_two_pow_sub_one]
  simpa using hi
end Go.Proofs.YtbolhpgffkdacaaGreatDoor.Ev
set_option linter.unusedVariables false
set_option linter.unusedSimpArgs false
set_option linter.constructorNameAsVariable false
namespace Go.Proofs.YtbolhpgffkdacaaGreatDoor.Ev
open Go Go.RowKit
section
variable {P : Program} {T : TT} {A : List As} {M wr : List Nat} {ts : List Tl} {σ : Nat → Int} {ρ : RM} {h : H6} {nx n2 b : Pa} {w w' : World} {r d : Nat} {env : List V} {fr : Fr} {a a0 : Act} {o : Oper} {call : Cal} {all : List Oper}
/-- Where a value of an edge's other end is. -/
theorem tsD_find (L : List Oper) (dl : List Nat) (o : Oper) (t : Nat) : ∀ n, (∃ j oj, Dep o j ∧ L[j]? = some oj ∧ oj.dst = some t ∧ odG M (tsD L dl o) t n = slt dl j Od.l Od.bad) ∨ ((∀ j oj, Dep o j → L[j]? = some oj → oj.dst ≠ some t) ∧ odG M (tsD L dl o) t n = odG M [] t 0) := by
  intro n
  unfold tsD Dep
  have : ∀ (l : List Edge), (∃ j oj, (∃ e ∈ l, Region.binds .any e = true ∧ e.on = j) ∧ L[j]? = some oj ∧ oj.dst = some t ∧ odG M (List.rec (motive := fun _ => List Tl) [] (fun e _ ih => Bool.rec (motive := fun _ => List Tl) ih (Option.rec (motive := fun _ => List Tl) ih (fun d => Tl.a d (slt dl e.on Od.l Od.bad) :: ih) (nthL L e.on default).dst) (Region.binds .any e)) l) t n = slt dl j Od.l Od.bad) ∨
      ((∀ j oj, (∃ e ∈ l, Region.binds .any e = true ∧ e.on = j) → L[j]? = some oj → oj.dst ≠ some t) ∧ odG M (List.rec (motive := fun _ => List Tl) [] (fun e _ ih => Bool.rec (motive := fun _ => List Tl) ih (Option.rec (motive := fun _ => List Tl) ih (fun d => Tl.a d (slt dl e.on Od.l Od.bad) :: ih) (nthL L e.on default).dst) (Region.binds .any e)) l) t n = odG M [] t 0) := by
    intro l
    induction l with
    | nil => exact .inr ⟨fun j oj ⟨e, he, _⟩ => (by cases he), by rw [odG, odG]⟩
    | cons e l ih =>
      have up : (¬ (Region.binds .any e = true ∧ (nthL L e.on default).dst = some t)) → odG M (List.rec (motive := fun _ => List Tl) [] (fun e _ ih => Bool.rec (motive := fun _ => List Tl) ih (Option.rec (motive := fun _ => List Tl) ih (fun d => Tl.a d (slt dl e.on Od.l Od.bad) :: ih) (nthL L e.on default).dst) (Region.binds .any e)) (e :: l)) t n = odG M (List.rec (motive := fun _ => List Tl) [] (fun e _ ih => Bool.rec (motive := fun _ => List Tl) ih (Option.rec (motive := fun _ => List Tl) ih (fun d => Tl.a d (slt dl e.on Od.l Od.bad) :: ih) (nthL L e.on default).dst) (Region.binds .any e)) l) t n → (∃ j oj, (∃ x ∈ e :: l, Region.binds .any x = true ∧ x.on = j) ∧ L[j]? = some oj ∧ oj.dst = some t ∧ odG M (List.rec (motive := fun _ => List Tl) [] (fun e _ ih => Bool.rec (motive := fun _ => List Tl) ih (Option.rec (motive := fun _ => List Tl) ih (fun d => Tl.a d (slt dl e.on Od.l Od.bad) :: ih) (nthL L e.on default).dst) (Region.binds .any e)) (e :: l)) t n = slt dl j Od.l Od.bad) ∨
          ((∀ j oj, (∃ x ∈ e :: l, Region.binds .any x = true ∧ x.on = j) → L[j]? = some oj → oj.dst ≠ some t) ∧ odG M (List.rec (motive := fun _ => List Tl) [] (fun e _ ih => Bool.rec (motive := fun _ => List Tl) ih (Option.rec (motive := fun _ => List Tl) ih (fun d => Tl.a d (slt dl e.on Od.l Od.bad) :: ih) (nthL L e.on default).dst) (Region.binds .any e)) (e :: l)) t n = odG M [] t 0) := fun hne heq => by
        rw [heq]
        rcases ih with ⟨j, oj, ⟨x, hx, h1⟩, h2⟩ | ⟨h1, h2⟩
        · exact .inl ⟨j, oj, ⟨x, List.mem_cons_of_mem _ hx, h1⟩, h2⟩
        · refine .inr ⟨fun j oj ⟨x, hx, h3, h4⟩ h5 => ?_, h2⟩
          rcases List.mem_cons.1 hx with rfl | hx
          · intro h6
            exact hne ⟨h3, by rw [nthL_eq, h4, List.getD_eq_getElem?_getD, h5]; exact h6⟩
          · exact h1 j oj ⟨x, hx, h3, h4⟩ h5
      cases hb : Region.binds .any e with
      | false => exact up (fun h => by rw [hb] at h; cases h.1) (by show odG M (Bool.rec (motive := fun _ => List Tl) _ _ (Region.binds .any e)) t n = _; rw [hb])
      | true =>
        cases hd : (nthL L e.on default).dst with
        | none => exact up (fun h => by rw [hd] at h; cases h.2) (by show odG M (Bool.rec (motive := fun _ => List Tl) _ (Option.rec (motive := fun _ => List Tl) _ _ (nthL L e.on default).dst) (Region.binds .any e)) t n = _; rw [hb, hd])
        | some d =>
          by_cases hdt : d = t
          · subst hdt
            have hex : ∃ oj, L[e.on]? = some oj ∧ oj.dst = some d := by
              rw [nthL_eq, List.getD_eq_getElem?_getD] at hd
              cases hl : L[e.on]? with
              | none => rw [hl] at hd; cases (show (none : Option Nat) = some d from hd)
              | some oj => rw [hl] at hd; exact ⟨oj, rfl, hd⟩
            obtain ⟨oj, h1, h2⟩ := hex
            refine .inl ⟨e.on, oj, ⟨e, List.mem_cons_self, hb, rfl⟩, h1, h2, ?_⟩
            show odG M (Bool.rec (motive := fun _ => List Tl) _ (Option.rec (motive := fun _ => List Tl) _ _ (nthL L e.on default).dst) (Region.binds .any e)) d n = _
            rw [hb, hd]
            show odG M (Tl.a d _ :: _) d n = _
            rw [odG_a, if_pos rfl]
          · exact up (fun h => hdt (by rw [hd] at h; cases h.2; rfl)) (by
              show odG M (Bool.rec (motive := fun _ => List Tl) _ (Option.rec (motive := fun _ => List Tl) _ _ (nthL L e.on default).dst) (Region.binds .any e)) t n = _
              rw [hb, hd]
              show odG M (Tl.a d _ :: _) t n = _
              rw [odG_a, if_neg hdt])
  exact this _
theorem tmpsL_mem : ∀ {l : List Operand} {t : Nat}, Operand.tmp t ∈ l → t ∈ tmpsL l := by
  intro l
  induction l with
  | nil => intro t h; cases h
  | cons x l ih =>
    intro t h
    rcases List.mem_cons.1 h with rfl | h
    · exact List.mem_cons_self
    · have := ih h
      cases x with
      | tmp u => exact List.mem_cons_of_mem _ this
      | _ => exact this
theorem looks_op {L : List Oper} {t : Nat} (h : Operand.tmp t ∈ o.op.operands) : t ∈ looksL L o := by
  have h1 := tmpsL_mem (Array.mem_toList_iff.2 h)
  unfold looksL
  cases o.guard with
  | none => exact h1
  | some g =>
    cases hg : tmpOf L g.1 with
    | none => show t ∈ Option.rec (motive := fun _ => List Nat) _ _ (tmpOf L g.1); rw [hg]; exact h1
    | some d => show t ∈ Option.rec (motive := fun _ => List Nat) _ _ (tmpOf L g.1); rw [hg]; exact List.mem_cons_of_mem _ h1
theorem looks_gd {L : List Oper} {g t : Nat} {want : Bool} (h : o.guard = some (g, want)) (ht : tmpOf L g = some t) : t ∈ looksL L o := by
  unfold looksL
  rw [h]
  show t ∈ Option.rec (motive := fun _ => List Nat) _ _ (tmpOf L g)
  rw [ht]
  exact List.mem_cons_self
theorem lookOk_spec (L : List Oper) (B : List Nat) (y : Nat) (o : Oper) (h : lookOk L B y o = true) : ∀ i oi d, L[i]? = some oi → oi.dst = some d → d ∈ looksL L o → Dep o i ∨ (B.getD i 0).testBit y = true := by
  unfold lookOk at h
  have : ∀ (l : List Oper) (i0 : Nat), (List.rec (motive := fun _ => Nat → Bool) (fun _ => true) (fun x _ ih i => aB (Option.rec (motive := fun _ => Bool) true (fun d => Bool.rec (motive := fun _ => Bool) true (Bool.rec (motive := fun _ => Bool) (tbN (nthL B i 0) y) true (tbN (dmO o) i)) (memN (looksL L o) d)) x.dst) (ih (Nat.succ i))) l i0 : Bool) = true → ∀ i oi d, l[i]? = some oi → oi.dst = some d → d ∈ looksL L o → Dep o (i0 + i) ∨ (B.getD (i0 + i) 0).testBit y = true := by
    intro l
    induction l with
    | nil => intro i0 _ i oi d h; simp at h
    | cons x l ih =>
      intro i0 h i oi d hi hd hl
      obtain ⟨h1, h2⟩ := aB2 (show aB (Option.rec (motive := fun _ => Bool) true (fun d => Bool.rec (motive := fun _ => Bool) true (Bool.rec (motive := fun _ => Bool) (tbN (nthL B i0 0) y) true (tbN (dmO o) i0)) (memN (looksL L o) d)) x.dst) ((List.rec (motive := fun _ => Nat → Bool) (fun _ => true) (fun x _ ih i => aB (Option.rec (motive := fun _ => Bool) true (fun d => Bool.rec (motive := fun _ => Bool) true (Bool.rec (motive := fun _ => Bool) (tbN (nthL B i 0) y) true (tbN (dmO o) i)) (memN (looksL L o) d)) x.dst) (ih (Nat.succ i))) l : Nat → Bool) (Nat.succ i0)) = true from h)
      cases i with
      | zero =>
        simp at hi
        subst hi
        rw [hd] at h1
        have hm := memN_iff.2 hl
        simp only [hm] at h1
        rw [Nat.add_zero]
        cases hb : tbN (dmO o) i0 with
        | true => rw [tbN_eq] at hb; exact .inl ((dmO_spec o i0).1 hb)
        | false => simp only [hb] at h1; rw [tbN_eq, nthL_eq] at h1; exact .inr h1
      | succ i =>
        have := ih (i0 + 1) h2 i oi d (by simpa using hi) hd hl
        rw [show i0 + 1 + i = i0 + (i + 1) from by omega] at this
        exact this
  intro i oi d h1 h2 h3
  have := this L 0 h i oi d h1 h2 h3
  rw [Nat.zero_add] at this
  exact this
/-- The act that an operation sees: its edges' ends as they are, all else as it was. -/
noncomputable def ghost (a0 a : Act) (D : Nat → Prop) : Act :=
  { a0 with tmps := Array.ofFn (n := a.tmps.size) fun t => open Classical in if D t.val then a.tmps[t] else a0.tmps.getD t.val undef }
theorem ghost_eval {D : Nat → Prop} (hs : a0.tmps.size = a.tmps.size) (t : Nat) : (D t → (ghost a0 a D).eval (.tmp t) = a.eval (.tmp t)) ∧ (¬ D t → (ghost a0 a D).eval (.tmp t) = a0.eval (.tmp t)) := by
  classical
  have e : (ghost a0 a D).eval (.tmp t) = if h : t < a.tmps.size then (if D t then a.tmps[t] else a0.tmps.getD t undef) else undef := by
    show (Array.ofFn (n := a.tmps.size) fun t => if D t.val then a.tmps[t] else a0.tmps.getD t.val undef).getD t undef = _
    rw [Array.getD_eq_getD_getElem?]
    by_cases h : t < a.tmps.size
    · rw [dif_pos h, Array.getElem?_eq_getElem (by simpa using h)]
      simp
    · rw [dif_neg h, Array.getElem?_eq_none (by simpa using h)]
      rfl
  rw [e]
  constructor
  · intro hD
    by_cases h : t < a.tmps.size
    · rw [dif_pos h, if_pos hD]
      show _ = a.tmps.getD t undef
      rw [Array.getD_eq_getD_getElem?, Array.getElem?_eq_getElem h]; rfl
    · rw [dif_neg h]
      show _ = a.tmps.getD t undef
      rw [Array.getD_eq_getD_getElem?, Array.getElem?_eq_none (by omega)]; rfl
  · intro hD
    by_cases h : t < a.tmps.size
    · rw [dif_pos h, if_neg hD]; rfl
    · rw [dif_neg h]
      show _ = a0.tmps.getD t undef
      rw [Array.getD_eq_getD_getElem?, Array.getElem?_eq_none (by omega)]; rfl
/-- What holds of an operation, holds of it as it is seen. -/
theorem wp_transfer {a1 : Act} {R : Value → World → Prop} (he : execOp a.eval o = execOp a1.eval o) (hs : a1.tmps.size = a.tmps.size)
    (hw : ∀ (Kn : Act → World → Prop) (Q : Exit → Act → World → Prop), (∀ x w', R x w' → Kn (a1.put o.dst x) w') → o.wp P a1 w Kn Q) {Kn : Act → World → Prop} {Q : Exit → Act → World → Prop} (hn : ∀ x w', R x w' → Kn (a.put o.dst x) w') : o.wp P a w Kn Q := by
  have h1 := hw (fun a2 w' => ∃ x, R x w' ∧ a2 = a1.put o.dst x) (fun _ _ _ => False) (fun x w' hr => ⟨x, hr, rfl⟩)
  have put_eq : ∀ {u v : Value}, a1.put o.dst u = a1.put o.dst v → a.put o.dst u = a.put o.dst v := fun {u v} h => by
    cases hd : o.dst with
    | none => rfl
    | some d =>
      rw [hd] at h
      by_cases hlt : d < a1.tmps.size
      · have h2 := congrArg (fun (x : Act) => x.tmps[d]?) h
        simp [Act.put, hlt] at h2
        rw [h2]
      · have hd2 : ¬ (d < a.tmps.size) := by rw [← hs]; exact hlt
        simp [Act.put, Array.setIfInBounds, hd2]
  unfold Oper.wp at h1 ⊢
  rw [he]
  generalize (execOp a1.eval o).run P w = res at h1
  cases res with
  | ok n w' =>
    cases n <;> simp only [Oper.upon] at h1 ⊢
    case value v =>
      obtain ⟨x, hr, hx⟩ := h1
      rw [put_eq hx]
      exact hn x w' hr
    case skip =>
      obtain ⟨x, hr, hx⟩ := h1
      rw [put_eq hx]
      exact hn x w' hr
    case defer d =>
      exfalso
      obtain ⟨x, _, hx⟩ := h1
      have := congrArg (fun (x : Act) => x.defers.length) hx
      cases hdd : o.dst with
      | none => rw [hdd] at this; simp [Act.put] at this
      | some d2 => rw [hdd] at this; simp [Act.put] at this
    case enter f args =>
      refine Calls.mono h1 fun e w'' hq => ?_
      cases e with
      | returned v =>
        obtain ⟨x, hr, hx⟩ := hq
        show Kn (a.put o.dst v) w''
        rw [put_eq hx]
        exact hn x w'' hr
      | panicked c => exact hq.elim
      | outgrown => obtain ⟨_, _, hq⟩ := hq; exact hq.elim
    case row row args =>
      refine Rows.mono h1 fun v w'' hq => ?_
      obtain ⟨x, hr, hx⟩ := hq
      rw [put_eq hx]
      exact hn x w'' hr
  | halt x w' => cases x <;> simp only [Oper.upon] at h1 <;> exact h1.elim
end
end Go.Proofs.YtbolhpgffkdacaaGreatDoor.Ev
set_option linter.unusedVariables false
set_option linter.unusedSimpArgs false
set_option linter.constructorNameAsVariable false
namespace Go.Proofs.YtbolhpgffkdacaaGreatDoor.Ev
open Go Go.RowKit
section
variable {P : Program} {T : TT} {A : List As} {M wr : List Nat} {ts : List Tl} {σ : Nat → Int} {ρ : RM} {h : H6} {nx n2 b : Pa} {w w' : World} {r d : Nat} {env : List V} {fr : Fr} {a a0 a1 : Act} {o : Oper} {call : Cal} {ops : Array Oper} {dl : List Nat} {rest : Bool} {v : V}
/-- What an edge's other end turned. -/
def Turned (L : List Oper) (o : Oper) (t : Nat) : Prop := ∃ j oj, Dep o j ∧ L[j]? = some oj ∧ oj.dst = some t
theorem ghost_od {L : List Oper} (hg : ∀ g, g < ngl → ρ (gnm g) = some (g, 0)) (hsl : ∀ j t, slotG M t 0 = some j → VR σ ρ (lkF (pfOf j) fr) (a0.eval (.tmp t)))
    (hval : ∀ j oj d, Dep o j → L[j]? = some oj → oj.dst = some d → ∃ p v, slotG dl j 0 = some p ∧ env[p]? = some v ∧ VR σ ρ v (a.eval (.tmp d))) (hs : a0.tmps.size = a.tmps.size) : ∀ x : Operand, OdOk σ ρ (Ev.od M (tsD L dl o) x) env fr ((ghost a0 a (Turned L o)).eval x) := by
  intro x
  cases x with
  | tmp t =>
    intro k hk
    have hk : evX (odT M (tsD L dl o) t) env fr k = true := hk
    rw [odT_eq] at hk
    rcases tsD_find (M := M) L dl o t 0 with ⟨j, oj, hd, hj, hdst, he⟩ | ⟨hn, he⟩
    · rw [he, slt_eq] at hk
      obtain ⟨p, v, hp, hv, hvr⟩ := hval j oj t hd hj hdst
      rw [hp] at hk
      obtain ⟨v2, h1, h2⟩ := nthV_true (show nthV p env k = true from hk)
      rw [hv] at h1
      cases h1
      rw [(ghost_eval hs t).1 ⟨j, oj, hd, hj, hdst⟩]
      exact ⟨v, hvr, h2⟩
    · rw [he, odG] at hk
      rw [(ghost_eval hs t).2 (fun ⟨j, oj, hd, hj, hdst⟩ => hn j oj hd hj hdst)]
      cases hsl2 : slotG M t 0 with
      | none => rw [hsl2] at hk; exact nope (show false = true from hk)
      | some j =>
        rw [hsl2] at hk
        have hk : getF (pfOf j) fr k = true := hk
        rw [getF_eq] at hk
        exact ⟨_, hsl j t hsl2, hk⟩
  | const v => exact odC_ok
  | global g => exact od_glo hg g
  | func g => exact fun k hk => ⟨_, .f .nil .nil, hk⟩
theorem kdA_cases (x : OA) : kdA x < 2 ∨ kdA x = 2 ∨ kdA x = 3 ∨ kdA x = 4 := by
  cases x with
  | o x => cases x <;> first | exact .inl (show (0 : Nat) < 2 by decide) | exact .inl (show (1 : Nat) < 2 by decide) | exact .inr (.inl rfl) | exact .inr (.inr (.inl rfl)) | exact .inr (.inr (.inr rfl))
  | _ => first | exact .inl (show (0 : Nat) < 2 by decide) | exact .inl (show (1 : Nat) < 2 by decide) | exact .inr (.inr (.inl rfl))
/-- A value that was said, and is so. -/
inductive Caught (P : Program) (σ : Nat → Int) (ρ : RM) (h : H6) (nx : Pa) (w : World) (o : Oper) (a : Act) (v : V) (wanted : Bool) (kd : Nat) : Prop
  | u (hw : wanted = false) (hv : v = .u)
  | r {y : Value} {w' : World} (hw : wanted = true) (hr : (execOp a.eval o).run P w = .ok (.value y) w') (R : Rel σ ρ h nx w') (p : Post ρ h nx w ρ h nx w') (hv : VR σ ρ v y)
  | n {obj : Go.Obj} {f : Nat → Value} {b : Pa} (hkd : kd = 2) (hw : wanted = true) (hr : ∀ w : World, (execOp a.eval o).run P w = .ok (.value (f w.heap.size)) (w.alloc obj)) (hb : blkV v = some b)
      (ho : ∀ (w : World) (ρ' : RM), Ext ρ ρ' → ρ'.z w.heap.size = osz obj → ObR σ ρ' (w.alloc obj) w.heap.size 0 (lkH b h)) (hv : ∀ ρ' r, ρ' b = some (r, 0) → VR σ ρ' v (f r))
theorem ObR.alike {o1 o2 : Ob} (ha : Alike o1 o2) (ho : ObR σ ρ w r d o2) : ObR σ ρ w r d o1 := by
  cases ha with
  | ce he =>
    cases ho with
    | ce h1 hf hz hc => exact .ce h1 hf hz fun i hi => let ⟨x, e1, e2, e3⟩ := hc i hi; ⟨x, e1, e2, by rw [he i hi]; exact e3⟩
  | mp => exact ho
theorem nw_named {p g : V} {b b2 : Pa} (hn : NwV p b g b2) {f : Nat → Value} (hv : ∀ ρ' b' r, ρ' b' = some (r, 0) → b' = nx → VR σ ρ' g (f r)) : b2 = nx ∧ blkV p = some b ∧ ∀ ρ' r, ρ' b = some (r, 0) → VR σ ρ' p (f r) := by
  classical
  let ρ1 : Nat → RM := fun r => ⟨fun c => if c = nx then some (r, 0) else none, fun _ => 0⟩
  have h1 : ∀ r, (ρ1 r) nx = some (r, 0) := fun r => if_pos rfl
  have h2 : ∀ r c x, (ρ1 r) c = some x → c = nx ∧ x = (r, 0) := fun r c x hx => by
    have hx : (if c = nx then some (r, 0) else none) = some x := hx
    split at hx
    · rename_i e; cases hx; exact ⟨e, rfl⟩
    · cases hx
  have h3 : ∀ r, VR σ (ρ1 r) g (f r) := fun r => hv (ρ1 r) nx r (h1 r) rfl
  cases hn with
  | p =>
    have h4 := h3 0
    refine ⟨?_, rfl, fun ρ' r hb => ?_⟩
    · generalize f 0 = y at h4
      cases h4 with
      | p hb => exact (h2 _ _ _ hb).1
    · have h5 := h3 r
      generalize f r = y at h5
      cases h5 with
      | p hb2 => obtain ⟨_, e⟩ := h2 _ _ _ hb2; cases e; exact .p hb
  | sl =>
    have h4 := h3 0
    refine ⟨?_, rfl, fun ρ' r hb => ?_⟩
    · generalize f 0 = y at h4
      cases h4 with
      | sl hb hl hc hx hz hq => exact (h2 _ _ _ hb).1
    · have h5 := h3 r
      generalize f r = y at h5
      cases h5 with
      | sl hb2 hl hc hx hz hq => obtain ⟨_, e⟩ := h2 _ _ _ hb2; cases e; exact .sl hb hl hc hx (fun s hs => by omega) hq
  | m =>
    have h4 := h3 0
    refine ⟨?_, rfl, fun ρ' r hb => ?_⟩
    · generalize f 0 = y at h4
      cases h4 with
      | m hb => exact (h2 _ _ _ hb).1
    · have h5 := h3 r
      generalize f r = y at h5
      cases h5 with
      | m hb2 => obtain ⟨_, e⟩ := h2 _ _ _ hb2; cases e; exact .m hb
/-- Caught up with. -/
theorem catch_up (ht : TOk P T) (hA : AsOk σ A) (hcal : CalOk P σ call) (R : Rel σ ρ h nx w) (hod : ∀ x : Operand, OdOk σ ρ (Ev.od M (tsD ops.toList dl o) x) env fr (a1.eval x))
    (hev : ∀ t ∈ looksL ops.toList o, a1.eval (.tmp t) = a.eval (.tmp t)) (hkd : kdD (doD T A M ops.toList dl o) ≠ 3) (hc : chD (doD T A M ops.toList dl o) v call env fr h nx rest = true) : Caught P σ ρ h nx w o a v (Region.wanted o (yielded ops a.tmps)) (kdA (co o.op T A M (tsD ops.toList dl o))) := by
  have core : kdA (co o.op T A M (tsD ops.toList dl o)) ≠ 3 → evA (co o.op T A M (tsD ops.toList dl o)) call env fr h nx (fun v2 h2 _ => cmpD (co o.op T A M (tsD ops.toList dl o)) v h rest v2 h2) = true → Region.wanted o (yielded ops a.tmps) = true → Caught P σ ρ h nx w o a v (Region.wanted o (yielded ops a.tmps)) (kdA (co o.op T A M (tsD ops.toList dl o))) := by
    intro hk he hw
    have hsel : ∀ cs b, o.op ≠ .select cs b := fun cs b e => by rw [e] at he; exact nope (show false = true from he)
    have hex : execOp a.eval o = execOp a1.eval o := execOp_congr o hsel fun x hx => by
      cases x with
      | tmp t => exact (hev t (looks_op hx)).symm
      | _ => rfl
    have cx : Cx P T A M (tsD ops.toList dl o) σ ρ h nx w env fr a1 call := ⟨ht, hA, hcal, R, hod⟩
    obtain ⟨h1, h2, h3, _⟩ := co_ok cx he
    have eqv : ∀ {v2 : V} {h2 : H6}, kdA (co o.op T A M (tsD ops.toList dl o)) ≠ 2 → cmpD (co o.op T A M (tsD ops.toList dl o)) v h rest v2 h2 = true → v = v2 := fun {v2 h2} hne hq => by
      unfold cmpD at hq
      rw [iB_eq, if_neg (by simpa using hne)] at hq
      exact vEq_true _ _ (gB_iff.1 (gB_iff.1 hq).2).1
    rcases kdA_cases (co o.op T A M (tsD ops.toList dl o)) with hk2 | hk2 | hk2 | hk2
    · obtain ⟨v2, y, hr, hv, hq⟩ := h1 hk2
      obtain rfl := eqv (by omega) hq
      exact .r hw (by rw [hex]; exact hr) R (Post.refl _ _ _ _) hv
    · obtain ⟨obj, ob, f, g, hr, hob, hv, n2, hn2, hq⟩ := h2 hk2
      have hq : iB ((kdA (co o.op T A M (tsD ops.toList dl o))).beq 2) (nwEq v (g nx) h (upH nx h ob) rest) (gB (nB ((kdA (co o.op T A M (tsD ops.toList dl o))).beq 3)) (gB (vEq v (g nx)) rest)) = true := hq
      rw [iB_eq, if_pos (by simpa using hk2)] at hq
      obtain ⟨b, b2, hnw, hal, _⟩ := nwEq_true hq
      obtain ⟨e1, e2, e3⟩ := nw_named (σ := σ) (nx := nx) (f := f) hnw (fun ρ' b' r hb he => by rw [← he]; exact hv ρ' b' r hb)
      subst e1
      rw [lkH_same] at hal
      exact .n hk2 hw (fun w => by rw [hex]; exact hr w) e2 (fun w ρ' hext hz => (hob w ρ' hext hz).alike hal) e3
    · exact absurd hk2 hk
    · obtain ⟨v2, y, w', hr, R', p', hv, hq⟩ := h3 hk2
      obtain rfl := eqv (by omega) hq
      exact .r hw (by rw [hex]; exact hr) R' p' hv
  unfold doD at hc hkd
  cases hg : o.guard with
  | none =>
    rw [hg] at hc hkd
    refine core hkd hc ?_
    unfold Region.wanted
    rw [hg]
  | some gw =>
    obtain ⟨g, want⟩ := gw
    rw [hg] at hc hkd
    cases htm : tmpOf ops.toList g with
    | none =>
      exfalso
      have hc : chD (DO.g (Option.rec (motive := fun _ => Od) Od.bad (fun d => odT M (tsD ops.toList dl o) d) (tmpOf ops.toList g)) want (co o.op T A M (tsD ops.toList dl o))) v call env fr h nx rest = true := hc
      rw [htm] at hc
      exact nope (show false = true from hc)
    | some t =>
      have hc : chD (DO.g (Option.rec (motive := fun _ => Od) Od.bad (fun d => odT M (tsD ops.toList dl o) d) (tmpOf ops.toList g)) want (co o.op T A M (tsD ops.toList dl o))) v call env fr h nx rest = true := hc
      rw [htm] at hc
      have hc : evX (odT M (tsD ops.toList dl o) t) env fr (fun b => gdK b want (evA (co o.op T A M (tsD ops.toList dl o)) call env fr h nx fun v2 h2 _ => cmpD (co o.op T A M (tsD ops.toList dl o)) v h rest v2 h2) (gB (vEq v V.u) rest)) = true := hc
      obtain ⟨vb, hvb, hgd⟩ := hod (.tmp t) _ hc
      rw [hev t (looks_gd hg htm)] at hvb
      obtain ⟨w1, w2⟩ := wanted_of (a := a) (ops := ops) hg htm
      rcases gd_true hvb hgd with ⟨he, hev2⟩ | ⟨he, hev2⟩
      · exact core hkd hev2 (w1 he)
      · exact .u (w2 he) (vEq_true _ _ (gB_iff.1 hev2).1)
end
end Go.Proofs.YtbolhpgffkdacaaGreatDoor.Ev
set_option linter.unusedVariables false
set_option linter.unusedSimpArgs false
set_option linter.constructorNameAsVariable false
namespace Go.Proofs.YtbolhpgffkdacaaGreatDoor.Ev
open Go Go.RowKit
section
variable {σ : Nat → Int} {ρ ρ0 : RM} {h h0 : H6} {nx nx0 n2 b : Pa} {w w0 w' : World} {r d : Nat} {o : Ob}
theorem Rel.virt (R : Rel σ ρ h nx w) (hn : num n2 = num nx + 1) : Rel σ ρ (upH nx h o) n2 w := by
  have hne : ∀ c x, ρ c = some x → c ≠ nx := fun c x hc e => by rw [e, R.nxN] at hc; cases hc
  refine ⟨fun c x hc => by have := R.dom c x hc; omega, R.low, fun c r d hc => ?_, fun c e r d1 d2 hc hd l1 l2 => ?_, fun c hc => ?_, R.glo⟩
  · rw [lkH_other (hne c _ hc)]; exact R.obs c r d hc
  · rw [lkH_other (hne c _ hc)] at l1; rw [lkH_other (hne e _ hd)] at l2; exact R.inj c e r d1 d2 hc hd l1 l2
  · rw [lkH_other (fun e => by subst e; omega)]; exact R.new c (by omega)
theorem Post.virt (p : Post ρ0 h0 nx0 w0 ρ h nx w) (R : Rel σ ρ h nx w) (hn : num n2 = num nx + 1) : Post ρ0 h0 nx0 w0 ρ (upH nx h o) n2 w := by
  have hne : ∀ c x, ρ c = some x → c ≠ nx := fun c x hc e => by rw [e, R.nxN] at hc; cases hc
  have hle := p.le
  refine ⟨p.ext, by omega, p.os, p.tape, p.output, p.size, p.keep, fun c r d hc hw hr => ?_, p.fresh, fun c hc hn => ?_⟩
  · rw [lkH_other (hne c _ hc)] at hw; exact p.img c r d hc hw hr
  · rw [lkH_other (fun e => by subst e; omega)]; exact p.idle c hc hn
theorem Rel.ext_late (R : Rel σ ρ h nx w) (hb : ρ b = none) (s : Nat) : Ext ρ (putR ρ b (w.heap.size, 0) s) := fun c y hc => by
  refine ⟨by rw [putR_other (fun e => by rw [e, hb] at hc; cases hc)]; exact hc, ?_⟩
  show (if y.1 = w.heap.size then s else ρ.z y.1) = ρ.z y.1
  split
  · rename_i e
    have := R.low c y.1 y.2 hc; omega
  · rfl
theorem Rel.late (R : Rel σ ρ h nx w) (hb : ρ b = none) (hbn : num b < num nx) (obj : Go.Obj) (hob : ∀ ρ', Ext ρ ρ' → ρ'.z w.heap.size = osz obj → ObR σ ρ' (w.alloc obj) w.heap.size 0 (lkH b h)) :
    Rel σ (putR ρ b (w.heap.size, 0) (osz obj)) h nx (w.alloc obj) := by
  have he := R.ext_late hb (osz obj)
  have hsz : (w.alloc obj).heap.size = w.heap.size + 1 := by simp
  have hold : ∀ k, k < w.heap.size → (w.alloc obj).heap[k]? = w.heap[k]? := fun k hk => Below.heap_alloc w obj k hk
  refine ⟨fun c x hc => ?_, fun c r d hc => ?_, fun c r d hc => ?_, fun c e r d1 d2 hc hd l1 l2 => ?_, R.new, fun g hg => (he _ _ (R.glo g hg)).1⟩
  · by_cases e : c = b
    · subst e; exact hbn
    · rw [putR_other e] at hc; exact R.dom c x hc
  · by_cases e : c = b
    · subst e; rw [putR_same] at hc; cases hc; omega
    · rw [putR_other e] at hc; have := R.low c r d hc; omega
  · by_cases e : c = b
    · subst e; rw [putR_same] at hc; cases hc; exact hob _ he (putR_z _ _ _ _)
    · rw [putR_other e] at hc; exact (R.obs c r d hc).ext he (he c _ hc).2 (hold r (R.low c r d hc))
  · by_cases e1 : c = b
    · by_cases e2 : e = b
      · rw [e1, e2]
      · subst e1; rw [putR_same] at hc; cases hc; rw [putR_other e2] at hd; have := R.low e _ d2 hd; omega
    · by_cases e2 : e = b
      · subst e2; rw [putR_same] at hd; cases hd; rw [putR_other e1] at hc; have := R.low c _ d1 hc; omega
      · rw [putR_other e1] at hc; rw [putR_other e2] at hd
        exact R.inj c e r d1 d2 hc hd l1 l2
theorem Post.late (p : Post ρ0 h0 nx0 w0 ρ h nx w) (R : Rel σ ρ h nx w) (hb : ρ b = none) (hb0 : num nx0 ≤ num b) (obj : Go.Obj) :
    Post ρ0 h0 nx0 w0 (putR ρ b (w.heap.size, 0) (osz obj)) h nx (w.alloc obj) := by
  have he := R.ext_late hb (osz obj)
  have hsz : (w.alloc obj).heap.size = w.heap.size + 1 := by simp
  have hold : ∀ k, k < w.heap.size → (w.alloc obj).heap[k]? = w.heap[k]? := fun k hk => Below.heap_alloc w obj k hk
  have hs := p.size
  refine ⟨p.ext.trans he, p.le, p.os, p.tape, p.output, by omega, fun k hk hn => (hold k (by omega)).trans (p.keep k hk hn), fun c r d hc hw hr => ?_, fun c x hc => ?_, p.idle⟩
  · by_cases e : c = b
    · subst e; rw [putR_same] at hc; cases hc; omega
    · rw [putR_other e] at hc; exact p.img c r d hc hw hr
  · by_cases e : c = b
    · subst e; exact .inr hb0
    · rw [putR_other e] at hc; exact p.fresh c x hc
end
theorem slotG_pos {l : List Nat} (hn : ∀ (p q i : Nat), l[p]? = some i → l[q]? = some i → p = q) {i p : Nat} (hp : l[p]? = some i) : slotG l i 0 = some p := by
  have ex : ∀ (l : List Nat) (s p : Nat), l[p]? = some i → ∃ j, slotG l i s = some j := by
    intro l
    induction l with
    | nil => intro s p hp; simp at hp
    | cons x l ih =>
      intro s p hp
      rw [slotG]
      by_cases e : x = i
      · exact ⟨s, by rw [if_pos e]⟩
      · rw [if_neg e]
        cases p with
        | zero => simp at hp; exact absurd hp e
        | succ p => exact ih (s + 1) p (by simpa using hp)
  obtain ⟨j, hj⟩ := ex l 0 p hp
  obtain ⟨_, h2, _⟩ := slotG_spec hj
  rw [hj, hn p j i hp (by simpa using h2)]
theorem nodupN_spec : ∀ {L : List Oper}, nodupN (dstL L) = true → ∀ (i j : Nat) (oi oj : Oper) (d : Nat), L[i]? = some oi → L[j]? = some oj → oi.dst = some d → oj.dst = some d → i = j := by
  intro L
  induction L with
  | nil => intro _ i j oi oj d h; simp at h
  | cons x L ih =>
    intro hn i j oi oj d h1 h2 h3 h4
    have e : dstL (x :: L) = Option.rec (motive := fun _ => List Nat) (dstL L) (fun d => d :: dstL L) x.dst := rfl
    rw [e] at hn
    have hL : nodupN (dstL L) = true ∧ ∀ d, x.dst = some d → d ∉ dstL L := by
      cases hx : x.dst with
      | none => rw [hx] at hn; exact ⟨hn, fun d h => by cases h⟩
      | some d =>
        rw [hx] at hn
        obtain ⟨h5, h6⟩ := aB2 (show aB (nB (memN (dstL L) d)) (nodupN (dstL L)) = true from hn)
        refine ⟨h6, fun d2 h7 => ?_⟩
        cases h7
        intro hm
        rw [memN_iff.2 hm] at h5
        cases h5
    cases i with
    | zero =>
      cases j with
      | zero => rfl
      | succ j =>
        simp at h1 h2
        subst h1
        exact absurd (dstL_mem (List.mem_of_getElem? h2) h4) (hL.2 d h3)
    | succ i =>
      cases j with
      | zero =>
        simp at h1 h2
        subst h2
        exact absurd (dstL_mem (List.mem_of_getElem? h1) h3) (hL.2 d h4)
      | succ j => rw [ih hL.1 i j oi oj d (by simpa using h1) (by simpa using h2) h3 h4]
theorem pendF_spec (b : Nat) (dl : List Nat) : ∀ (pd : List (Nat × DO)) (p : Nat × DO), p ∈ pendF b dl pd ↔ p ∈ pd ∧ b.testBit (dl.getD p.1 0) = false := by
  intro pd
  induction pd with
  | nil => intro p; exact ⟨fun h => (by cases h), fun h => (by cases h.1)⟩
  | cons q pd ih =>
    intro p
    have e : pendF b dl (q :: pd) = Bool.rec (motive := fun _ => List (Nat × DO)) (q :: pendF b dl pd) (pendF b dl pd) (tbN b (nthL dl q.1 0)) := rfl
    rw [e, tbN_eq, nthL_eq]
    cases hb : b.testBit (dl.getD q.1 0) with
    | true =>
      show p ∈ pendF b dl pd ↔ _
      rw [ih]
      constructor
      · rintro ⟨h1, h2⟩; exact ⟨List.mem_cons_of_mem _ h1, h2⟩
      · rintro ⟨h1, h2⟩
        rcases List.mem_cons.1 h1 with rfl | h1
        · rw [hb] at h2; cases h2
        · exact ⟨h1, h2⟩
    | false =>
      show p ∈ q :: pendF b dl pd ↔ _
      rw [List.mem_cons, ih]
      constructor
      · rintro (rfl | ⟨h1, h2⟩)
        · exact ⟨List.mem_cons_self, hb⟩
        · exact ⟨List.mem_cons_of_mem _ h1, h2⟩
      · rintro ⟨h1, h2⟩
        rcases List.mem_cons.1 h1 with rfl | h1
        · exact .inl rfl
        · exact .inr ⟨h1, h2⟩
theorem kdD_doD {T : TT} {A : List As} {M : List Nat} {L : List Oper} {dl : List Nat} {o : Oper} : kdD (doD T A M L dl o) = kdA (co o.op T A M (tsD L dl o)) := by
  unfold doD
  cases o.guard <;> rfl
theorem appL_app : ∀ {l m : List V} {k : List V → Bool}, appL l m k = true → k (l ++ m) = true := appL_true
theorem evD_true {x : DO} {call : Cal} {env : List V} {fr : Fr} {h : H6} {nx : Pa} {k : KV} (hk : kdD x = 0 ∨ kdD x = 1 ∨ kdD x = 4) (he : evD x call env fr h nx k = true) : ∃ v, k v h nx = true := by
  have na : ∀ o : OA, kdA o = 0 ∨ kdA o = 1 ∨ kdA o = 4 → evA o call env fr h nx k = true → ∃ v, k v h nx = true := fun o hk he => inv_A (by omega) he
  cases x with
  | n o => exact na o hk he
  | g x t o =>
    have he : evX x env fr (fun b => gdK b t (evA o call env fr h nx k) (k V.u h nx)) = true := he
    apply Classical.byContradiction
    intro hn
    have h1 : evA o call env fr h nx k = false := str_of fun he => hn (na o hk he)
    have h2 : k V.u h nx = false := str_of fun he => hn ⟨_, he⟩
    have h3 : (fun b => gdK b t (evA o call env fr h nx k) (k V.u h nx)) = fun _ => false := by
      funext b
      rw [h1, h2]
      exact str_of fun hg => by cases b <;> first | exact nope (show false = true from hg) | (rename_i c; cases c <;> cases t <;> exact nope (show false = true from hg))
    rw [h3, evX_f] at he
    cases he
theorem evD_new {x : DO} {call : Cal} {env : List V} {fr : Fr} {h : H6} {nx : Pa} {k : KV} (hk : kdD x = 2) (he : evD x call env fr h nx k = true) : (k V.u h nx = true) ∨ ∃ v ob n2, blkV v = some nx ∧ num n2 = num nx + 1 ∧ k v (upH nx h ob) n2 = true := by
  cases x with
  | n o => exact .inr (inv_N hk he)
  | g x t o =>
    have he : evX x env fr (fun b => gdK b t (evA o call env fr h nx k) (k V.u h nx)) = true := he
    apply Classical.byContradiction
    intro hn
    have h1 : evA o call env fr h nx k = false := str_of fun he => hn (.inr (inv_N hk he))
    have h2 : k V.u h nx = false := str_of fun he => hn (.inl he)
    have h3 : (fun b => gdK b t (evA o call env fr h nx k) (k V.u h nx)) = fun _ => false := by
      funext b
      rw [h1, h2]
      exact str_of fun hg => by cases b <;> first | exact nope (show false = true from hg) | (rename_i c; cases c <;> cases t <;> exact nope (show false = true from hg))
    rw [h3, evX_f] at he
    cases he
end Go.Proofs.YtbolhpgffkdacaaGreatDoor.Ev
set_option linter.unusedVariables false
set_option linter.unusedSimpArgs false
set_option linter.constructorNameAsVariable false
namespace Go.Proofs.YtbolhpgffkdacaaGreatDoor.Ev
open Go Go.RowKit
/-- Of what was said. -/
structure VInv (T : TT) (A : List As) (M : List Nat) (L : List Oper) (dl : List Nat) (m : Nat) (pd : List (Nat × DO)) (env : List V) : Prop where
  len : env.length = dl.length
  msk : ∀ i, m.testBit i = true ↔ i ∈ dl
  nd : ∀ (p q i : Nat), dl[p]? = some i → dl[q]? = some i → p = q
  rng : ∀ i ∈ dl, ∃ o, L[i]? = some o
  dep : ∀ (p i : Nat) (o : Oper), dl[p]? = some i → L[i]? = some o → lookOk L (befL L) i o = true ∧ ∀ j, Dep o j → ∃ q, q < p ∧ dl[q]? = some j
  pnd : ∀ p ∈ pd, ∃ i o, dl[p.1]? = some i ∧ L[i]? = some o ∧ p.2 = doD T A M L (dl.take p.1) o ∧ kdD p.2 ≠ 3
/-- Of what was done. -/
structure RInv (σ : Nat → Int) (ρ0 : RM) (h0 : H6) (nx0 : Pa) (w0 : World) (a0 : Act) (L : List Oper) (dl : List Nat) (pd : List (Nat × DO)) (env : List V) (h : H6) (nx : Pa) (ρ : RM) (S : Nat → Prop) (a : Act) (w : World) : Prop where
  rel : Rel σ ρ h nx w
  post : Post ρ0 h0 nx0 w0 ρ h nx w
  sub : ∀ i, S i → i ∈ dl
  cls : ∀ (i : Nat) (o : Oper), L[i]? = some o → S i → ∀ j, Dep o j → S j
  val : ∀ (i : Nat) (o : Oper) (d : Nat), S i → L[i]? = some o → o.dst = some d → ∃ (q : Nat) (v : V), dl[q]? = some i ∧ env[q]? = some v ∧ VR σ ρ v (a.eval (.tmp d))
  old : ∀ t, (∀ (i : Nat) (o : Oper), S i → L[i]? = some o → o.dst ≠ some t) → a.eval (.tmp t) = a0.eval (.tmp t)
  df : a.defers = []
  sz : a0.tmps.size = a.tmps.size
  pen : ∀ (p i : Nat), dl[p]? = some i → ¬ S i → ∃ x, (p, x) ∈ pd
  nwb : ∀ (p : Nat) (x : DO) (i : Nat) (v : V) (b : Pa), (p, x) ∈ pd → dl[p]? = some i → ¬ S i → kdD x = 2 → env[p]? = some v → blkV v = some b → ρ b = none ∧ num nx0 ≤ num b ∧ num b < num nx
  dis : ∀ (p q : Nat) (x y : DO) (i j : Nat) (u v : V) (b : Pa), (p, x) ∈ pd → (q, y) ∈ pd → dl[p]? = some i → dl[q]? = some j → ¬ S i → ¬ S j → kdD x = 2 → kdD y = 2 → env[p]? = some u → env[q]? = some v → blkV u = some b → blkV v = some b → p = q
section
variable {T : TT} {A : List As} {M : List Nat} {L : List Oper} {dl dl' : List Nat} {m : Nat} {pd pd' : List (Nat × DO)} {env env' : List V}
variable {σ : Nat → Int} {ρ ρ' ρ0 : RM} {h h' h0 : H6} {nx nx' nx0 : Pa} {w w' w0 : World} {a a0 : Act} {S : Nat → Prop} {o : Oper} {i : Nat} {v : V} {y : Value}
theorem VInv.push (I : VInv T A M L dl m pd env) (ho : L[i]? = some o) (hi : i ∉ dl) (hdep : ∀ j, Dep o j → j ∈ dl) (hlk : lookOk L (befL L) i o = true) (v : V)
    (hpd : ∀ p ∈ pd', p ∈ pd ∨ (p = (ltD dl, doD T A M L dl o) ∧ kdD p.2 ≠ 3)) : VInv T A M L (apN dl i) (Nat.lor m (Nat.shiftLeft 1 i)) pd' (env ++ [v]) := by
  rw [apN_eq]
  have get : ∀ (p j : Nat), (dl ++ [i])[p]? = some j → (dl[p]? = some j ∧ p < dl.length) ∨ (p = dl.length ∧ j = i) := fun p j hp => by
    rcases Nat.lt_trichotomy p dl.length with h | h | h
    · rw [List.getElem?_append_left h] at hp; exact .inl ⟨hp, h⟩
    · subst h; rw [List.getElem?_append_right (Nat.le_refl _)] at hp; simp at hp; exact .inr ⟨rfl, hp.symm⟩
    · rw [List.getElem?_eq_none (by simp; omega)] at hp; cases hp
  have mem : ∀ (p j : Nat), dl[p]? = some j → j ∈ dl := fun p j hp => List.mem_of_getElem? hp
  refine ⟨by simp [I.len], fun j => ?_, fun p q j hp hq => ?_, fun j hj => ?_, fun p j oj hp hoj => ?_, fun p hp => ?_⟩
  · rw [bitOr, bit1, Bool.or_eq_true, decide_eq_true_iff, I.msk, List.mem_append, List.mem_singleton]
    exact ⟨fun h => h.imp id Eq.symm, fun h => h.imp id Eq.symm⟩
  · rcases get p j hp with ⟨h1, h2⟩ | ⟨h1, h2⟩
    · rcases get q j hq with ⟨h3, h4⟩ | ⟨h3, h4⟩
      · exact I.nd p q j h1 h3
      · subst h4; exact absurd (mem p j h1) hi
    · rcases get q j hq with ⟨h3, h4⟩ | ⟨h3, h4⟩
      · subst h2; exact absurd (mem q j h3) hi
      · rw [h1, h3]
  · rcases List.mem_append.1 hj with hj | hj
    · exact I.rng j hj
    · rw [List.mem_singleton] at hj; subst hj; exact ⟨o, ho⟩
  · rcases get p j hp with ⟨h1, h2⟩ | ⟨h1, h2⟩
    · obtain ⟨h3, h4⟩ := I.dep p j oj h1 hoj
      refine ⟨h3, fun k hk => ?_⟩
      obtain ⟨q, h5, h6⟩ := h4 k hk
      exact ⟨q, h5, by rw [List.getElem?_append_left (by omega)]; exact h6⟩
    · subst h2
      rw [ho] at hoj
      cases hoj
      refine ⟨hlk, fun k hk => ?_⟩
      obtain ⟨q, h5⟩ := List.mem_iff_getElem?.1 (hdep k hk)
      have h6 : q < dl.length := (List.getElem?_eq_some_iff.1 h5).1
      exact ⟨q, by omega, by rw [List.getElem?_append_left h6]; exact h5⟩
  · rcases hpd p hp with h1 | ⟨h1, h2⟩
    · obtain ⟨j, oj, h3, h4, h5, h6⟩ := I.pnd p h1
      have h7 : p.1 < dl.length := (List.getElem?_eq_some_iff.1 h3).1
      exact ⟨j, oj, by rw [List.getElem?_append_left h7]; exact h3, h4, by rw [List.take_append_of_le_length (by omega)]; exact h5, h6⟩
    · subst h1
      refine ⟨i, o, ?_, ho, ?_, h2⟩
      · show (dl ++ [i])[ltD dl]? = some i
        rw [ltD_eq]; simp
      · show doD T A M L dl o = doD T A M L ((dl ++ [i]).take (ltD dl)) o
        rw [ltD_eq]; simp
theorem VInv.lt (I : VInv T A M L dl m pd env) {p : Nat} {x : DO} (hp : (p, x) ∈ pd) : p < dl.length ∧ p < env.length := by
  obtain ⟨j, oj, h3, _⟩ := I.pnd _ hp
  have := (List.getElem?_eq_some_iff.1 h3).1
  exact ⟨this, by rw [I.len]; exact this⟩
theorem RInv.push (I : RInv σ ρ0 h0 nx0 w0 a0 L dl pd env h nx ρ S a w) (J : VInv T A M L dl m pd env) (hi : i ∉ dl) {x : DO} (R' : Rel σ ρ h' nx' w) (p' : Post ρ0 h0 nx0 w0 ρ h' nx' w) (hle : num nx ≤ num nx')
    (hb : kdD x = 2 → ∀ b, blkV v = some b → b = nx ∧ num nx < num nx') : RInv σ ρ0 h0 nx0 w0 a0 L (apN dl i) (apN pd (ltD dl, x)) (env ++ [v]) h' nx' ρ S a w := by
  rw [apN_eq, apN_eq, ltD_eq]
  have get : ∀ (p j : Nat), (dl ++ [i])[p]? = some j → (dl[p]? = some j ∧ p < dl.length) ∨ (p = dl.length ∧ j = i) := fun p j hp => by
    rcases Nat.lt_trichotomy p dl.length with h | h | h
    · rw [List.getElem?_append_left h] at hp; exact .inl ⟨hp, h⟩
    · subst h; rw [List.getElem?_append_right (Nat.le_refl _)] at hp; simp at hp; exact .inr ⟨rfl, hp.symm⟩
    · rw [List.getElem?_eq_none (by simp; omega)] at hp; cases hp
  have gete : ∀ (p : Nat) (u : V), p < dl.length → (env ++ [v])[p]? = some u → env[p]? = some u := fun p u hp hu => by
    rw [List.getElem?_append_left (by rw [J.len]; exact hp)] at hu; exact hu
  have getn : ∀ (u : V), (env ++ [v])[dl.length]? = some u → u = v := fun u hu => by
    rw [← J.len] at hu; simp at hu; exact hu.symm
  have mem : ∀ (p : Nat) (y : DO), (p, y) ∈ pd ++ [(dl.length, x)] → ((p, y) ∈ pd ∧ p < dl.length) ∨ (p = dl.length ∧ y = x) := fun p y hp => by
    rcases List.mem_append.1 hp with hp | hp
    · exact .inl ⟨hp, (J.lt hp).1⟩
    · rw [List.mem_singleton] at hp; cases hp; exact .inr ⟨rfl, rfl⟩
  have hle0 := I.post.le
  refine ⟨R', p', fun j hj => List.mem_append_left _ (I.sub j hj), I.cls, fun j oj d hj hoj hd => ?_, I.old, I.df, I.sz, fun p j hp hj => ?_, fun p y j u b hp hj hS hk hu hub => ?_, fun p q y z j k u u2 b hp hq hj hk hSj hSk hky hkz hu hu2 hb1 hb2 => ?_⟩
  · obtain ⟨q, u, h1, h2, h3⟩ := I.val j oj d hj hoj hd
    have h4 := (List.getElem?_eq_some_iff.1 h1).1
    exact ⟨q, u, by rw [List.getElem?_append_left h4]; exact h1, by rw [List.getElem?_append_left (by rw [J.len]; exact h4)]; exact h2, h3⟩
  · rcases get p j hp with ⟨h1, h2⟩ | ⟨h1, h2⟩
    · obtain ⟨y, hy⟩ := I.pen p j h1 hj
      exact ⟨y, List.mem_append_left _ hy⟩
    · exact ⟨x, List.mem_append_right _ (by rw [h1]; exact List.mem_singleton.2 rfl)⟩
  · rcases mem p y hp with ⟨h1, h2⟩ | ⟨h1, h2⟩
    · rcases get p j hj with ⟨h3, _⟩ | ⟨h3, _⟩
      · obtain ⟨h4, h5, h6⟩ := I.nwb p y j u b h1 h3 hS hk (gete p u h2 hu) hub
        exact ⟨h4, h5, by omega⟩
      · omega
    · subst h1
      subst h2
      rw [getn u hu] at hub
      obtain ⟨rfl, h3⟩ := hb hk b hub
      exact ⟨I.rel.nxN, hle0, h3⟩
  · rcases mem p y hp with ⟨h1, h2⟩ | ⟨h1, h2⟩
    · rcases mem q z hq with ⟨h3, h4⟩ | ⟨h3, h4⟩
      · rcases get p j hj with ⟨h5, _⟩ | ⟨h5, _⟩
        · rcases get q k hk with ⟨h6, _⟩ | ⟨h6, _⟩
          · exact I.dis p q y z j k u u2 b h1 h3 h5 h6 hSj hSk hky hkz (gete p u h2 hu) (gete q u2 h4 hu2) hb1 hb2
          · omega
        · omega
      · subst h3
        subst h4
        rw [getn u2 hu2] at hb2
        obtain ⟨rfl, _⟩ := hb hkz b hb2
        rcases get p j hj with ⟨h5, _⟩ | ⟨h5, _⟩
        · have := (I.nwb p y j u b h1 h5 hSj hky (gete p u h2 hu) hb1).2.2
          omega
        · omega
    · rcases mem q z hq with ⟨h3, h4⟩ | ⟨h3, h4⟩
      · subst h1
        subst h2
        rw [getn u hu] at hb1
        obtain ⟨rfl, _⟩ := hb hky b hb1
        rcases get q k hk with ⟨h5, _⟩ | ⟨h5, _⟩
        · have := (I.nwb q z k u2 b h3 h5 hSk hkz (gete q u2 h4 hu2) hb2).2.2
          omega
        · omega
      · omega
theorem RInv.turn (I : RInv σ ρ0 h0 nx0 w0 a0 L dl pd env h nx ρ S a w) (hnd : nodupN (dstL L) = true) (ho : L[i]? = some o) (hi : ¬ S i) (hdep : ∀ j, Dep o j → S j) (hd : ∀ d, o.dst = some d → d < a.tmps.size)
    (hdl : ∀ (q j : Nat), dl[q]? = some j → dl'[q]? = some j) (henv : ∀ (q : Nat) (u : V), env[q]? = some u → env'[q]? = some u) {p0 : Nat} (hp0 : dl'[p0]? = some i) (hp1 : env'[p0]? = some v)
    (R' : Rel σ ρ' h' nx' w') (he : Ext ρ ρ') (p' : Post ρ0 h0 nx0 w0 ρ' h' nx' w') (hv : VR σ ρ' v y)
    (hpd : ∀ (p : Nat) (x : DO), (p, x) ∈ pd' → (p, x) ∈ pd ∧ dl'[p]? = dl[p]? ∧ env'[p]? = env[p]?)
    (hpen : ∀ (p j : Nat), dl'[p]? = some j → ¬ S j → j ≠ i → ∃ x, (p, x) ∈ pd')
    (hnb : ∀ (p : Nat) (x : DO) (j : Nat) (u : V) (b : Pa), (p, x) ∈ pd → dl[p]? = some j → ¬ S j → j ≠ i → kdD x = 2 → env[p]? = some u → blkV u = some b → ρ b = none → num b < num nx → ρ' b = none ∧ num b < num nx') :
    RInv σ ρ0 h0 nx0 w0 a0 L dl' pd' env' h' nx' ρ' (fun j => S j ∨ j = i) (a.put o.dst y) w' := by
  refine ⟨R', p', fun j hj => ?_, fun j oj hoj hj k hk => ?_, fun j oj d hj hoj hdd => ?_, fun t ht => ?_, put_df I.df, by rw [put_sz]; exact I.sz, fun p j hp hj => ?_, fun p x j u b hp hj hS hk hu hub => ?_, fun p q x z j k u u2 b hp hq hj hk hSj hSk hkx hkz hu hu2 hb1 hb2 => ?_⟩
  · rcases hj with hj | rfl
    · obtain ⟨q, hq⟩ := List.mem_iff_getElem?.1 (I.sub j hj)
      exact List.mem_of_getElem? (hdl q j hq)
    · exact List.mem_of_getElem? hp0
  · rcases hj with hj | rfl
    · exact .inl (I.cls j oj hoj hj k hk)
    · rw [ho] at hoj; cases hoj; exact .inl (hdep k hk)
  · rcases hj with hj | rfl
    · obtain ⟨q, u, h1, h2, h3⟩ := I.val j oj d hj hoj hdd
      refine ⟨q, u, hdl q j h1, henv q u h2, ?_⟩
      have : (a.put o.dst y).eval (.tmp d) = a.eval (.tmp d) := by
        cases hod : o.dst with
        | none => rfl
        | some d2 =>
          refine eval_put_ne fun e => ?_
          subst e
          exact hi (nodupN_spec hnd j i oj o d hoj ho hdd hod ▸ hj)
      rw [this]
      exact h3.ext he
    · rw [ho] at hoj
      cases hoj
      rw [hdd, eval_put_same (hd d hdd)]
      exact ⟨p0, v, hp0, hp1, hv⟩
  · have h1 : (a.put o.dst y).eval (.tmp t) = a.eval (.tmp t) := by
      cases hod : o.dst with
      | none => rfl
      | some d2 => exact eval_put_ne fun e => ht i o (.inr rfl) ho (by rw [hod, e])
    rw [h1]
    exact I.old t fun j oj hj => ht j oj (.inl hj)
  · exact hpen p j hp (fun h => hj (.inl h)) (fun h => hj (.inr h))
  · obtain ⟨h1, h2, h3⟩ := hpd p x hp
    rw [h2] at hj
    rw [h3] at hu
    have hSj : ¬ S j := fun h => hS (.inl h)
    obtain ⟨h4, h5, h6⟩ := I.nwb p x j u b h1 hj hSj hk hu hub
    obtain ⟨h7, h8⟩ := hnb p x j u b h1 hj hSj (fun h => hS (.inr h)) hk hu hub h4 h6
    exact ⟨h7, h5, h8⟩
  · obtain ⟨h1, h2, h3⟩ := hpd p x hp
    obtain ⟨h4, h5, h6⟩ := hpd q z hq
    rw [h2] at hj
    rw [h3] at hu
    rw [h5] at hk
    rw [h6] at hu2
    exact I.dis p q x z j k u u2 b h1 h4 hj hk (fun h => hSj (.inl h)) (fun h => hSk (.inl h)) hkx hkz hu hu2 hb1 hb2
end
end Go.Proofs.YtbolhpgffkdacaaGreatDoor.Ev
set_option linter.unusedVariables false
set_option linter.unusedSimpArgs false
set_option linter.constructorNameAsVariable false
namespace Go.Proofs.YtbolhpgffkdacaaGreatDoor.Ev
open Go Go.RowKit
theorem goD_eq (T : TT) (A : List As) (M : List Nat) (ops : List Oper) (B : List Nat) (f : Nat) (dl : List Nat) (m : Nat) (pd : List (Nat × DO)) : goD T A M ops B (f + 1) dl m pd =
  Option.rec (motive := fun _ => List DI)
    (chkL T A M ops pd (Option.rec (motive := fun _ => List DI) (bD (Nat.beq (Nat.add m 1) (Nat.shiftLeft 1 (lenO ops))) (setsL M ops dl))
      (fun i => bD (aB (lookOk ops B i (nthL ops i default)) (Option.rec (motive := fun _ => Bool) true (fun _ => false) (rdyL ops m fun j _ => nB (Nat.beq i j)))) (DI.o (doD T A M ops dl (nthL ops i default)) :: goD T A M ops B f (apN dl i) (Nat.lor m (Nat.shiftLeft 1 i)) (pendF (nthL B i 0) dl pd)))
      (rdyL ops m fun _ _ => true)))
    (fun i => bD (lookOk ops B i (nthL ops i default)) (DI.o (doD T A M ops dl (nthL ops i default)) :: goD T A M ops B f (apN dl i) (Nat.lor m (Nat.shiftLeft 1 i)) (apN pd (ltD dl, doD T A M ops dl (nthL ops i default)))))
    (rdyL ops m fun i o => nB (Nat.beq (kdD (doD T A M ops dl o)) 3)) := rfl
section
variable {P : Program} {T : TT} {A : List As} {M : List Nat} {L : List Oper} {dl : List Nat} {m : Nat} {pd : List (Nat × DO)} {env : List V} {fr : Fr} {call : Cal} {rest : Bool}
variable {σ : Nat → Int} {ρ ρ' ρ0 : RM} {h h' h0 : H6} {nx nx' nx0 : Pa} {w w' w0 : World} {a a0 : Act} {S : Nat → Prop} {o : Oper} {i : Nat} {v : V} {y : Value} {k : Fr → H6 → Pa → Bool}
theorem bD_true {b : Bool} {r : List DI} (he : evDI (bD b r) call env fr h nx k = true) : b = true ∧ evDI r call env fr h nx k = true := by
  cases b with
  | true => exact ⟨rfl, he⟩
  | false => exact nope (show false = true from he)
theorem cmpD_rest {x : OA} {p v : V} {h h2 : H6} (hc : cmpD x p h rest v h2 = true) : rest = true := by
  have hc : iB (Nat.beq (kdA x) 2) (nwEq p v h h2 rest) (gB (nB (Nat.beq (kdA x) 3)) (gB (vEq p v) rest)) = true := hc
  rw [iB_eq] at hc
  split at hc
  · obtain ⟨_, _, _, _, h1⟩ := nwEq_true hc; exact h1
  · exact (gB_iff.1 (gB_iff.1 hc).2).2
theorem chD_rest {x : DO} (hk : kdD x ≠ 3) (hc : chD x v call env fr h nx rest = true) : rest = true := by
  have na : ∀ o : OA, kdA o ≠ 3 → evA o call env fr h nx (fun v2 h2 _ => cmpD o v h rest v2 h2) = true → rest = true := fun o hk he => by
    rcases kdA_cases o with h1 | h1 | h1 | h1
    · obtain ⟨_, hv⟩ := inv_A (by omega) he; exact cmpD_rest hv
    · obtain ⟨_, _, _, _, _, hv⟩ := inv_N h1 he; exact cmpD_rest hv
    · exact absurd h1 hk
    · obtain ⟨_, hv⟩ := inv_A (by omega) he; exact cmpD_rest hv
  cases x with
  | n o => exact na o hk hc
  | g x t o =>
    have hc : evX x env fr (fun b => gdK b t (evA o call env fr h nx (fun v2 h2 _ => cmpD o v h rest v2 h2)) (gB (vEq v V.u) rest)) = true := hc
    apply Classical.byContradiction
    intro hn
    have h1 : evA o call env fr h nx (fun v2 h2 _ => cmpD o v h rest v2 h2) = false := str_of fun he => hn (na o hk he)
    have h2 : gB (vEq v V.u) rest = false := str_of fun he => hn (gB_iff.1 he).2
    have h3 : (fun b => gdK b t (evA o call env fr h nx (fun v2 h2 _ => cmpD o v h rest v2 h2)) (gB (vEq v V.u) rest)) = fun _ => false := by
      funext b
      rw [h1, h2]
      exact str_of fun hg => by cases b <;> first | exact nope (show false = true from hg) | (rename_i c; cases c <;> cases t <;> exact nope (show false = true from hg))
    rw [h3, evX_f] at hc
    cases hc
/-- All was looked at once more. -/
theorem chkL_true {r : List DI} : ∀ {pd : List (Nat × DO)}, (∀ p ∈ pd, kdD p.2 ≠ 3) → evDI (chkL T A M L pd r) call env fr h nx k = true → (∀ p ∈ pd, ∀ v : V, env[p.1]? = some v → ∃ rest, chD p.2 v call env fr h nx rest = true) ∧ evDI r call env fr h nx k = true := by
  intro pd
  induction pd with
  | nil => intro _ he; exact ⟨fun p hp => (by cases hp), he⟩
  | cons q pd ih =>
    intro hk he
    have he : nthV q.1 env (fun p => chD q.2 p call env fr h nx (evDI (chkL T A M L pd r) call env fr h nx k)) = true := he
    obtain ⟨v, h1, h2⟩ := nthV_true he
    obtain ⟨h3, h4⟩ := ih (fun p hp => hk p (List.mem_cons_of_mem _ hp)) (chD_rest (hk q List.mem_cons_self) h2)
    refine ⟨fun p hp u hu => ?_, h4⟩
    rcases List.mem_cons.1 hp with rfl | hp
    · rw [h1] at hu; cases hu; exact ⟨_, h2⟩
    · exact h3 p hp u hu
noncomputable def setsGo (M : List Nat) (ops : List Oper) (dl : List Nat) : Nat → List DI := List.rec (motive := fun _ => Nat → List DI) (fun _ => []) (fun y _ ih i => Option.rec (motive := fun _ => List DI) (ih (Nat.succ i)) (fun d => slt M d (fun j => DI.s i (pfOf j) :: ih (Nat.succ i)) (ih (Nat.succ i))) (nthL ops y default).dst) dl
theorem sets_ok (hM : M.length ≤ 64) (hval : ∀ (q i : Nat) (o : Oper) (d : Nat), dl[q]? = some i → L[i]? = some o → o.dst = some d → ∃ v : V, env[q]? = some v ∧ VR σ ρ v (a.eval (.tmp d))) (hrng : ∀ i ∈ dl, ∃ o, L[i]? = some o) :
    ∀ (suf : List Nat) (p0 : Nat), dl.drop p0 = suf → ∀ fr : Fr, (∀ t j, slotG M t 0 = some j → VR σ ρ (lkF (pfOf j) fr) (a.eval (.tmp t)) ∨ ∃ (q i : Nat) (o : Oper), p0 ≤ q ∧ dl[q]? = some i ∧ L[i]? = some o ∧ o.dst = some t) →
      evDI (setsGo M L suf p0) call env fr h nx k = true → ∃ fr', (∀ t j, slotG M t 0 = some j → VR σ ρ (lkF (pfOf j) fr') (a.eval (.tmp t))) ∧ k fr' h nx = true := by
  intro suf
  induction suf with
  | nil =>
    intro p0 hd fr hfr he
    refine ⟨fr, fun t j hj => ?_, he⟩
    rcases hfr t j hj with h1 | ⟨q, i, o, h1, h2, _⟩
    · exact h1
    · have h3 := (List.getElem?_eq_some_iff.1 h2).1
      have h4 : dl.length ≤ p0 := by simpa using hd
      omega
  | cons y suf ih =>
    intro p0 hd fr hfr he
    have hy : dl[p0]? = some y := by
      have := congrArg (·[0]?) hd
      simpa using this
    have hnext : dl.drop (p0 + 1) = suf := by rw [← List.drop_drop, hd]; rfl
    obtain ⟨o, ho⟩ := hrng y (List.mem_of_getElem? hy)
    have hno : nthL L y default = o := by rw [nthL_eq, List.getD_eq_getElem?_getD, ho]; rfl
    have he : evDI (Option.rec (motive := fun _ => List DI) (setsGo M L suf (p0 + 1)) (fun d => slt M d (fun j => DI.s p0 (pfOf j) :: setsGo M L suf (p0 + 1)) (setsGo M L suf (p0 + 1))) (nthL L y default).dst) call env fr h nx k = true := he
    rw [hno] at he
    have up : ∀ {t : Nat}, (∃ (q i : Nat) (o : Oper), p0 ≤ q ∧ dl[q]? = some i ∧ L[i]? = some o ∧ o.dst = some t) → o.dst = some t ∨ ∃ (q i : Nat) (o : Oper), p0 + 1 ≤ q ∧ dl[q]? = some i ∧ L[i]? = some o ∧ o.dst = some t := fun {t} ⟨q, i, o2, h1, h2, h3, h4⟩ => by
      rcases Nat.lt_or_ge p0 q with h5 | h5
      · exact .inr ⟨q, i, o2, h5, h2, h3, h4⟩
      · have e : q = p0 := by omega
        subst e
        rw [hy] at h2
        cases h2
        rw [ho] at h3
        cases h3
        exact .inl h4
    cases hod : o.dst with
    | none =>
      rw [hod] at he
      refine ih (p0 + 1) hnext fr (fun t j hj => ?_) he
      rcases hfr t j hj with h1 | h1
      · exact .inl h1
      · rcases up h1 with h2 | h2
        · rw [hod] at h2; cases h2
        · exact .inr h2
    | some d =>
      rw [hod] at he
      have he : evDI (slt M d (fun j => DI.s p0 (pfOf j) :: setsGo M L suf (p0 + 1)) (setsGo M L suf (p0 + 1))) call env fr h nx k = true := he
      rw [slt_eq] at he
      obtain ⟨v, hv1, hv2⟩ := hval p0 y o d hy ho hod
      cases hs : slotG M d 0 with
      | none =>
        rw [hs] at he
        refine ih (p0 + 1) hnext fr (fun t j hj => ?_) he
        rcases hfr t j hj with h1 | h1
        · exact .inl h1
        · rcases up h1 with h2 | h2
          · rw [hod] at h2; cases h2; rw [hs] at hj; cases hj
          · exact .inr h2
      | some j0 =>
        rw [hs] at he
        have he : nthV p0 env (fun v => setF (pfOf j0) fr v fun fr => evDI (setsGo M L suf (p0 + 1)) call env fr h nx k) = true := he
        obtain ⟨u, h1, h2⟩ := nthV_true he
        rw [hv1] at h1
        cases h1
        rw [setF_eq] at h2
        refine ih (p0 + 1) hnext _ (fun t j hj => ?_) h2
        by_cases e : t = d
        · subst e
          rw [hs] at hj
          cases hj
          rw [lkF_same]
          exact .inl hv2
        · have hne : pfOf j ≠ pfOf j0 := fun e2 => by
            have h5 := (slotG_spec hj).2.2
            have h6 := (slotG_spec hs).2.2
            have := pfOf_inj (by omega) (by omega) e2
            subst this
            exact e (slotG_inj hj hs)
          rw [lkF_other hne]
          rcases hfr t j hj with h1 | h1
          · exact .inl h1
          · rcases up h1 with h2 | h2
            · rw [hod] at h2; cases h2; exact absurd rfl e
            · exact .inr h2
/-- What an operation sees. -/
theorem RInv.ods (I : RInv σ ρ0 h0 nx0 w0 a0 L dl pd env h nx ρ S a w) (J : VInv T A M L dl m pd env) (hsl : ∀ j t, slotG M t 0 = some j → VR σ ρ0 (lkF (pfOf j) fr) (a0.eval (.tmp t))) {p : Nat} (hdep : ∀ j, Dep o j → S j ∧ ∃ q, q < p ∧ dl[q]? = some j) :
    ∀ x : Operand, OdOk σ ρ (Ev.od M (tsD L (dl.take p) o) x) env fr ((ghost a0 a (Turned L o)).eval x) := by
  refine ghost_od I.rel.glo (fun j t hj => (hsl j t hj).ext I.post.ext) (fun j oj d hj hoj hd => ?_) I.sz
  obtain ⟨hS, q, hq, hqj⟩ := hdep j hj
  obtain ⟨q2, v, h1, h2, h3⟩ := I.val j oj d hS hoj hd
  obtain rfl := J.nd q q2 j hqj h1
  refine ⟨q, v, slotG_pos (fun p1 p2 i1 e1 e2 => ?_) ?_, h2, h3⟩
  · have f : ∀ (p1 : Nat), (dl.take p)[p1]? = some i1 → dl[p1]? = some i1 := fun p1 e => by
      rw [List.getElem?_take] at e
      split at e
      · exact e
      · cases e
    exact J.nd p1 p2 i1 (f p1 e1) (f p2 e2)
  · rw [List.getElem?_take, if_pos hq]; exact h1
theorem RInv.looks (I : RInv σ ρ0 h0 nx0 w0 a0 L dl pd env h nx ρ S a w) (hlk : lookOk L (befL L) i o = true) (hi : ¬ S i) : ∀ t ∈ looksL L o, (ghost a0 a (Turned L o)).eval (.tmp t) = a.eval (.tmp t) := by
  intro t ht
  by_cases hT : Turned L o t
  · exact (ghost_eval I.sz t).1 hT
  · rw [(ghost_eval I.sz t).2 hT]
    refine (I.old t fun j oj hj hoj hd => ?_).symm
    rcases lookOk_spec L (befL L) i o hlk j oj t hoj hd ht with h1 | h1
    · exact hT ⟨j, oj, h1, hoj, hd⟩
    · exact hi (anc_in L I.cls j oj hoj (I.cls j oj hoj hj) i h1)
/-- The effect. -/
theorem eff_ok {ops : Array Oper} {a1 : Act} {K : KV} (ht : TOk P T) (hA : AsOk σ A) (hcal : CalOk P σ call) (R : Rel σ ρ h nx w) (hod : ∀ x : Operand, OdOk σ ρ (Ev.od M (tsD ops.toList dl o) x) env fr (a1.eval x))
    (hev : ∀ t ∈ looksL ops.toList o, a1.eval (.tmp t) = a.eval (.tmp t)) (hsz : a1.tmps.size = a.tmps.size) (hc : evD (doD T A M ops.toList dl o) call env fr h nx K = true) {Kn : Act → World → Prop} {Q : Exit → Act → World → Prop}
    (hn : ∀ ρ' v x h' nx' w', Rel σ ρ' h' nx' w' → Post ρ h nx w ρ' h' nx' w' → VR σ ρ' v x → K v h' nx' = true → Kn (a.put o.dst x) w') :
    if Region.wanted o (yielded ops a.tmps) then o.wp P a w Kn Q ∨ (o.asks P a w ∧ LetsOut Q) else Kn (a.put o.dst undef) w := by
  have core : evA (co o.op T A M (tsD ops.toList dl o)) call env fr h nx K = true → o.wp P a w Kn Q := by
    intro he
    have hsel : ∀ cs b, o.op ≠ .select cs b := fun cs b e => by rw [e] at he; exact nope (show false = true from he)
    have hex : execOp a.eval o = execOp a1.eval o := execOp_congr o hsel fun x hx => by
      cases x with
      | tmp t => exact (hev t (looks_op hx)).symm
      | _ => rfl
    have cx : Cx P T A M (tsD ops.toList dl o) σ ρ h nx w env fr a1 call := ⟨ht, hA, hcal, R, hod⟩
    refine wp_transfer (R := fun x w' => ∃ ρ' v h' nx', Rel σ ρ' h' nx' w' ∧ Post ρ h nx w ρ' h' nx' w' ∧ VR σ ρ' v x ∧ K v h' nx' = true) hex hsz (fun Kn Q hk => (co_ok cx he).2.2.2 Kn Q fun ρ' v x h' nx' w' R' p' hv hK => hk x w' ⟨ρ', v, h', nx', R', p', hv, hK⟩) ?_
    rintro x w' ⟨ρ', v, h', nx', R', p', hv, hK⟩
    exact hn ρ' v x h' nx' w' R' p' hv hK
  unfold doD at hc
  cases hg : o.guard with
  | none =>
    rw [hg] at hc
    have hw : Region.wanted o (yielded ops a.tmps) = true := by unfold Region.wanted; rw [hg]
    rw [hw, if_pos rfl]
    exact .inl (core hc)
  | some gw =>
    obtain ⟨g, want⟩ := gw
    rw [hg] at hc
    cases htm : tmpOf ops.toList g with
    | none =>
      exfalso
      have hc : evD (DO.g (Option.rec (motive := fun _ => Od) Od.bad (fun d => odT M (tsD ops.toList dl o) d) (tmpOf ops.toList g)) want (co o.op T A M (tsD ops.toList dl o))) call env fr h nx K = true := hc
      rw [htm] at hc
      exact nope (show false = true from hc)
    | some t =>
      have hc : evD (DO.g (Option.rec (motive := fun _ => Od) Od.bad (fun d => odT M (tsD ops.toList dl o) d) (tmpOf ops.toList g)) want (co o.op T A M (tsD ops.toList dl o))) call env fr h nx K = true := hc
      rw [htm] at hc
      have hc : evX (odT M (tsD ops.toList dl o) t) env fr (fun b => gdK b want (evA (co o.op T A M (tsD ops.toList dl o)) call env fr h nx K) (K V.u h nx)) = true := hc
      obtain ⟨vb, hvb, hgd⟩ := hod (.tmp t) _ hc
      rw [hev t (looks_gd hg htm)] at hvb
      obtain ⟨w1, w2⟩ := wanted_of (a := a) (ops := ops) hg htm
      rcases gd_true hvb hgd with ⟨he, hev2⟩ | ⟨he, hev2⟩
      · rw [w1 he, if_pos rfl]
        exact .inl (core hev2)
      · rw [w2 he, if_neg (by decide)]
        exact hn ρ V.u undef h nx w R (Post.refl _ _ _ _) .u hev2
end
end Go.Proofs.YtbolhpgffkdacaaGreatDoor.Ev
set_option linter.unusedVariables false
set_option linter.unusedSimpArgs false
set_option linter.constructorNameAsVariable false
namespace Go.Proofs.YtbolhpgffkdacaaGreatDoor.Ev
open Go Go.RowKit
/-- Those not yet listed. -/
def cnt (l : List Bool) : Nat := l.countP fun b => !b
theorem cnt_set : ∀ {l : List Bool} {i : Nat}, l[i]? = some false → cnt (l.set i true) + 1 = cnt l := by
  intro l
  induction l with
  | nil => intro i h; simp at h
  | cons x l ih =>
    intro i h
    cases i with
    | zero => simp at h; subst h; simp [cnt]
    | succ i =>
      have := ih (i := i) (by simpa using h)
      cases x <;> simp [cnt] at this ⊢ <;> omega
theorem cnt_zero {l : List Bool} (h : cnt l = 0) : ∀ i, i < l.length → l[i]? = some true := by
  intro i hi
  have := List.countP_eq_zero.1 h l[i] (List.getElem_mem hi)
  rw [List.getElem?_eq_getElem hi]
  simpa using this
/-- Listed. -/
def Sl (listed : Array Bool) (i : Nat) : Prop := listed.getD i false = true
section
variable {P : Program} {T : TT} {A : List As} {M : List Nat} {ops : Array Oper} {dl : List Nat} {m : Nat} {pd : List (Nat × DO)} {env : List V} {fr : Fr} {call : Cal} {rest : Bool}
variable {σ : Nat → Int} {ρ ρ' ρ0 : RM} {h h' h0 : H6} {nx nx' nx0 : Pa} {w w' w0 : World} {a a0 : Act} {S : Nat → Prop} {o : Oper} {i : Nat} {v : V} {y : Value} {k : Fr → H6 → Pa → Bool}
theorem sl_iff {listed : Array Bool} {i : Nat} (hi : i < listed.size) : Sl listed i ↔ ¬ (listed.getD i true = false) := by
  unfold Sl
  simp [Array.getD, hi]
theorem sl_set {listed : Array Bool} {i : Nat} (hi : i < listed.size) : (fun j => Sl listed j ∨ j = i) = Sl (listed.setIfInBounds i true) := by
  funext j
  apply propext
  by_cases e : i = j
  · subst e
    constructor
    · intro _
      unfold Sl
      simp [hi]
    · intro _; exact .inr rfl
  · unfold Sl
    rw [getD_set_ne false e]
    exact ⟨fun h => h.resolve_right (fun e2 => e e2.symm), .inl⟩
theorem ready_iff {listed : Array Bool} (hs : listed.size = ops.size) {i : Nat} : i ∈ Region.ready .any ops listed ↔ ¬ Sl listed i ∧ ∃ o, ops[i]? = some o ∧ ∀ j, Dep o j → Sl listed j := by
  rw [mem_ready]
  constructor
  · rintro ⟨h1, o, ho, h2⟩
    have hi : i < listed.size := by rw [hs]; exact (Array.getElem?_eq_some_iff.1 ho).1
    refine ⟨fun h3 => (sl_iff hi).1 h3 h1, o, ho, ?_⟩
    rintro j ⟨e, he, hb, rfl⟩
    exact h2 e (Array.mem_toList_iff.1 he) hb
  · rintro ⟨h1, o, ho, h2⟩
    have hi : i < listed.size := by rw [hs]; exact (Array.getElem?_eq_some_iff.1 ho).1
    refine ⟨Classical.byContradiction fun h3 => h1 ((sl_iff hi).2 h3), o, ho, fun e he hb => h2 e.on ⟨e, Array.mem_toList_iff.2 he, hb, rfl⟩⟩
theorem cnt_step {listed : Array Bool} (hs : listed.size = ops.size) {n : Nat} {o : Oper} (ho : ops[i]? = some o) (hi : ¬ Sl listed i) (hc : cnt listed.toList ≤ n + 1) : cnt (listed.setIfInBounds i true).toList ≤ n ∧ (listed.setIfInBounds i true).size = ops.size := by
  have hi2 : i < listed.size := by rw [hs]; exact (Array.getElem?_eq_some_iff.1 ho).1
  have h1 : listed.toList[i]? = some false := by
    rw [Array.getElem?_toList, Array.getElem?_eq_getElem hi2]
    unfold Sl at hi
    simp [Array.getD, hi2] at hi
    rw [hi]
  have := cnt_set h1
  rw [Array.toList_setIfInBounds]
  exact ⟨by omega, by simp [hs]⟩
/-- All that was said is done, in any order. -/
theorem stage_ok {Q : Exit → Act → World → Prop} {n0 : Nat} (ht : TOk P T) (hA : AsOk σ A) (hcal : CalOk P σ call) (hnd : nodupN (dstL ops.toList) = true) (hdn : ∀ o ∈ ops.toList, ∀ d, o.dst = some d → d < n0) (hsz0 : n0 ≤ a0.tmps.size)
    (hsl : ∀ j t, slotG M t 0 = some j → VR σ ρ0 (lkF (pfOf j) fr) (a0.eval (.tmp t))) (J : VInv T A M ops.toList dl m pd env)
    (hch : ∀ p ∈ pd, ∀ v : V, env[p.1]? = some v → ∃ rest, chD p.2 v call env fr h nx rest = true)
    (hE : ∀ (n : Nat) (ρ : RM) (listed : Array Bool) (a : Act) (w : World) (i : Nat), RInv σ ρ0 h0 nx0 w0 a0 ops.toList dl pd env h nx ρ (Sl listed) a w → listed.size = ops.size → cnt listed.toList ≤ n + 1 → i ∈ Region.ready .any ops listed → i ∉ dl → wpOp P ops Q i (wpAny P .any ops Q n (listed.setIfInBounds i true)) a w)
    (hfin : ∀ (ρ : RM) (listed : Array Bool) (a : Act) (w : World), RInv σ ρ0 h0 nx0 w0 a0 ops.toList dl pd env h nx ρ (Sl listed) a w → listed.size = ops.size → (∀ i ∈ dl, Sl listed i) → Region.ready .any ops listed = [] → Q .normal a w) :
    ∀ (n : Nat) (ρ : RM) (listed : Array Bool) (a : Act) (w : World), RInv σ ρ0 h0 nx0 w0 a0 ops.toList dl pd env h nx ρ (Sl listed) a w → listed.size = ops.size → cnt listed.toList ≤ n → wpAny P .any ops Q n listed a w := by
  have none_left : ∀ {ρ : RM} {listed : Array Bool} {a : Act} {w : World}, RInv σ ρ0 h0 nx0 w0 a0 ops.toList dl pd env h nx ρ (Sl listed) a w → listed.size = ops.size → Region.ready .any ops listed = [] → ∀ i ∈ dl, Sl listed i := by
    intro ρ listed a w I hs hr
    have key : ∀ (p i : Nat), dl[p]? = some i → Sl listed i := by
      intro p
      induction p using Nat.strongRecOn with
      | _ p ih =>
        intro i hp
        obtain ⟨o, ho⟩ := J.rng i (List.mem_of_getElem? hp)
        apply Classical.byContradiction
        intro hi
        have : i ∈ Region.ready .any ops listed := (ready_iff hs).2 ⟨hi, o, by rw [← Array.getElem?_toList]; exact ho, fun j hj => by
          obtain ⟨q, hq, hqj⟩ := (J.dep p i o hp ho).2 j hj
          exact ih q hq j hqj⟩
        rw [hr] at this
        cases this
    intro i hi
    obtain ⟨p, hp⟩ := List.mem_iff_getElem?.1 hi
    exact key p i hp
  intro n
  induction n with
  | zero =>
    intro ρ listed a w I hs hc
    have hr : Region.ready .any ops listed = [] := by
      cases hrr : Region.ready .any ops listed with
      | nil => rfl
      | cons i l =>
        exfalso
        have hi : i ∈ Region.ready .any ops listed := by rw [hrr]; exact List.mem_cons_self
        obtain ⟨h1, o, ho, _⟩ := (ready_iff hs).1 hi
        have h2 : i < listed.size := by rw [hs]; exact (Array.getElem?_eq_some_iff.1 ho).1
        have h3 := cnt_zero (Nat.le_zero.1 hc) i (by simpa using h2)
        rw [Array.getElem?_toList, Array.getElem?_eq_getElem h2] at h3
        refine h1 ?_
        unfold Sl
        simp [Array.getD, h2]
        exact Option.some.inj h3
    exact ⟨hr, hfin ρ listed a w I hs (none_left I hs hr) hr⟩
  | succ n ih =>
    intro ρ listed a w I hs hc
    refine ⟨fun hr => hfin ρ listed a w I hs (none_left I hs hr) hr, fun i hi => ?_⟩
    by_cases hid : i ∈ dl
    · obtain ⟨h1, o, ho, hdep⟩ := (ready_iff hs).1 hi
      have hi2 : i < listed.size := by rw [hs]; exact (Array.getElem?_eq_some_iff.1 ho).1
      have hoL : ops.toList[i]? = some o := by rw [Array.getElem?_toList]; exact ho
      obtain ⟨p, hp⟩ := List.mem_iff_getElem?.1 hid
      obtain ⟨x, hx⟩ := I.pen p i hp h1
      obtain ⟨i2, o2, e1, e2, hxe, hxk⟩ := J.pnd _ hx
      rw [hp] at e1
      cases e1
      rw [hoL] at e2
      cases e2
      have hxe : x = doD T A M ops.toList (dl.take p) o := hxe
      have hxk : kdD x ≠ 3 := hxk
      have hlt := (J.lt hx).2
      obtain ⟨v, hv⟩ : ∃ v, env[p]? = some v := ⟨_, List.getElem?_eq_getElem hlt⟩
      obtain ⟨rest, hcc⟩ := hch _ hx v hv
      have hcc : chD x v call env fr h nx rest = true := hcc
      obtain ⟨hlk, hdq⟩ := J.dep p i o hp hoL
      obtain ⟨hcn, hss⟩ := cnt_step hs ho h1 hc
      rw [hxe] at hcc
      have hct := catch_up (a := a) (w := w) ht hA hcal I.rel (I.ods J hsl fun j hj => ⟨hdep j hj, hdq j hj⟩) (I.looks hlk h1) (by rw [← hxe]; exact hxk) hcc
      rw [← kdD_doD (T := T) (A := A) (M := M) (L := ops.toList) (dl := dl.take p) (o := o), ← hxe] at hct
      have go : ∀ {ρ' : RM} {y : Value} {w' : World}, Rel σ ρ' h nx w' → Ext ρ ρ' → Post ρ0 h0 nx0 w0 ρ' h nx w' → VR σ ρ' v y → (∀ b : Pa, ρ b = none → ρ' b = none ∨ (blkV v = some b ∧ kdD x = 2)) → wpAny P .any ops Q n (listed.setIfInBounds i true) (a.put o.dst y) w' := by
        intro ρ' y w' R' he p' hvr hb
        refine ih ρ' _ _ w' ?_ hss hcn
        rw [← sl_set hi2]
        refine I.turn hnd hoL h1 hdep (fun d hd => ?_) (fun _ _ h => h) (fun _ _ h => h) hp hv R' he p' hvr (fun _ _ h => ⟨h, rfl, rfl⟩) (fun q j hq hj _ => I.pen q j hq hj) (fun q z j u b hq hqj hj hne hk hu hub hbn hlt => ⟨?_, hlt⟩)
        · rw [← I.sz]
          exact Nat.lt_of_lt_of_le (hdn o (List.mem_of_getElem? hoL) d hd) hsz0
        · rcases hb b hbn with h2 | ⟨h2, h3⟩
          · exact h2
          · have := I.dis p q x z i j v u b hx hq hp hqj h1 hj h3 hk hv hu h2 hub
            subst this
            rw [hp] at hqj
            cases hqj
            exact absurd rfl hne
      unfold wpOp
      rw [ho]
      show if Region.wanted o (yielded ops a.tmps) then _ else _
      cases hct with
      | u hw hvu =>
        rw [hw, if_neg (by decide)]
        exact go I.rel (Ext.refl _) I.post (by rw [hvu]; exact .u) fun b hb => .inl hb
      | r hw hr R' p' hvr =>
        rw [hw, if_pos rfl]
        exact .inl (wp_value hr (go R' (Ext.refl _) (I.post.trans p') hvr fun b hb => .inl hb))
      | @n obj f b hk2 hw hr hb hob hvr =>
        rw [hw, if_pos rfl]
        obtain ⟨g1, g2, g3⟩ := I.nwb p x i v b hx hp h1 hk2 hv hb
        refine .inl (wp_value (hr w) (go (I.rel.late g1 g3 obj (hob w)) (I.rel.ext_late g1 _) (I.post.late I.rel g1 g2 obj) (hvr _ _ (putR_same _ _ _ _)) fun c hc => ?_))
        by_cases e : c = b
        · subst e; exact .inr ⟨hb, hk2⟩
        · rw [putR_other e]; exact .inl hc
    · exact hE n ρ listed a w i I hs hc hi hid
end
end Go.Proofs.YtbolhpgffkdacaaGreatDoor.Ev
set_option linter.unusedVariables false
set_option linter.unusedSimpArgs false
set_option linter.constructorNameAsVariable false
namespace Go.Proofs.YtbolhpgffkdacaaGreatDoor.Ev
open Go Go.RowKit
section
variable {P : Program} {T : TT} {A : List As} {M : List Nat} {ops : Array Oper} {fr : Fr} {call : Cal}
variable {σ : Nat → Int} {ρ0 : RM} {h0 : H6} {nx0 : Pa} {w0 : World} {a0 : Act} {k : Fr → H6 → Pa → Bool}
theorem mem_apN {α : Type} {l : List α} {x y : α} : y ∈ apN l x ↔ y ∈ l ∨ y = x := by
  rw [apN_eq, List.mem_append, List.mem_singleton]
theorem getD_some {α : Type} {l : List α} {i : Nat} {x d : α} (h : l[i]? = some x) : nthL l i d = x := by
  rw [nthL_eq, List.getD_eq_getElem?_getD, h]; rfl
theorem go_ok {Q : Exit → Act → World → Prop} {n0 : Nat} (ht : TOk P T) (hA : AsOk σ A) (hcal : CalOk P σ call) (hM : M.length ≤ 64) (hnd : nodupN (dstL ops.toList) = true) (hdn : ∀ o ∈ ops.toList, ∀ d, o.dst = some d → d < n0) (hsz0 : n0 ≤ a0.tmps.size)
    (hsl : ∀ j t, slotG M t 0 = some j → VR σ ρ0 (lkF (pfOf j) fr) (a0.eval (.tmp t)))
    (hQ : ∀ ρ' fr' a' h' nx' w', Rel σ ρ' h' nx' w' → Post ρ0 h0 nx0 w0 ρ' h' nx' w' → AR σ ρ' M n0 fr' a' → k fr' h' nx' = true → Q .normal a' w') :
    ∀ (f : Nat) (dl : List Nat) (m : Nat) (pd : List (Nat × DO)) (env : List V) (h : H6) (nx : Pa), VInv T A M ops.toList dl m pd env → evDI (goD T A M ops.toList (befL ops.toList) f dl m pd) call env fr h nx k = true →
      ∀ (n : Nat) (ρ : RM) (listed : Array Bool) (a : Act) (w : World), RInv σ ρ0 h0 nx0 w0 a0 ops.toList dl pd env h nx ρ (Sl listed) a w → listed.size = ops.size → cnt listed.toList ≤ n → wpAny P .any ops Q n listed a w := by
  intro f
  induction f with
  | zero => intro dl m pd env h nx J he; exact nope (show false = true from he)
  | succ f ih =>
    intro dl m pd env h nx J he
    rw [goD_eq] at he
    have notin : ∀ {i : Nat}, m.testBit i = false → i ∉ dl := fun {i} hm hi => by rw [(J.msk i).2 hi] at hm; cases hm
    cases hr : rdyL ops.toList m (fun i o => nB (Nat.beq (kdD (doD T A M ops.toList dl o)) 3)) with
    | some i =>
      rw [hr] at he
      have he : evDI (bD (lookOk ops.toList (befL ops.toList) i (nthL ops.toList i default)) (DI.o (doD T A M ops.toList dl (nthL ops.toList i default)) :: goD T A M ops.toList (befL ops.toList) f (apN dl i) (Nat.lor m (Nat.shiftLeft 1 i)) (apN pd (ltD dl, doD T A M ops.toList dl (nthL ops.toList i default))))) call env fr h nx k = true := he
      obtain ⟨o, _, hoL, hm, hdep, hq⟩ := (rdyL_spec m (fun i o => nB (Nat.beq (kdD (doD T A M ops.toList dl o)) 3)) ops.toList 0).1 i hr
      rw [Nat.sub_zero] at hoL
      rw [getD_some hoL] at he
      obtain ⟨hlk, he2⟩ := bD_true he
      have hk3 : kdD (doD T A M ops.toList dl o) ≠ 3 := fun e => by
        have hq : nB (Nat.beq (kdD (doD T A M ops.toList dl o)) 3) = true := hq
        rw [e] at hq
        cases hq
      have he2 : evD (doD T A M ops.toList dl o) call env fr h nx (fun v h nx => appL env [v] fun env => evDI (goD T A M ops.toList (befL ops.toList) f (apN dl i) (Nat.lor m (Nat.shiftLeft 1 i)) (apN pd (ltD dl, doD T A M ops.toList dl o))) call env fr h nx k) = true := he2
      have hi : i ∉ dl := notin hm
      have hdl : ∀ j, Dep o j → j ∈ dl := fun j hj => (J.msk j).1 (hdep j hj)
      have J' : ∀ v : V, VInv T A M ops.toList (apN dl i) (Nat.lor m (Nat.shiftLeft 1 i)) (apN pd (ltD dl, doD T A M ops.toList dl o)) (env ++ [v]) := fun v =>
        J.push hoL hi hdl hlk v fun p hp => by
          rcases mem_apN.1 hp with hp | rfl
          · exact .inl hp
          · exact .inr ⟨rfl, hk3⟩
      intro n ρ listed a w I hs hc
      have hcase : (kdD (doD T A M ops.toList dl o) = 0 ∨ kdD (doD T A M ops.toList dl o) = 1 ∨ kdD (doD T A M ops.toList dl o) = 4) ∨ kdD (doD T A M ops.toList dl o) = 2 := by
        rw [kdD_doD] at hk3 ⊢
        rcases kdA_cases (co o.op T A M (tsD ops.toList dl o)) with h1 | h1 | h1 | h1 <;> omega
      rcases hcase with hk | hk
      · obtain ⟨v, hv⟩ := evD_true hk he2
        exact ih _ _ _ _ h nx (J' v) (appL_true hv) n ρ listed a w (I.push J hi I.rel I.post (Nat.le_refl _) fun e => by omega) hs hc
      · rcases evD_new hk he2 with hv | ⟨v, ob, n2, hb, hn2, hv⟩
        · exact ih _ _ _ _ h nx (J' V.u) (appL_true hv) n ρ listed a w (I.push J hi I.rel I.post (Nat.le_refl _) fun _ b hb => by
            have hb : (none : Option Pa) = some b := hb
            cases hb) hs hc
        · refine ih _ _ _ _ _ n2 (J' v) (appL_true hv) n ρ listed a w (I.push J hi (I.rel.virt hn2) (I.post.virt I.rel hn2) (by omega) fun _ b hb2 => ?_) hs hc
          rw [hb] at hb2
          cases hb2
          exact ⟨rfl, by omega⟩
    | none =>
      rw [hr] at he
      obtain ⟨hch, he2⟩ := chkL_true (T := T) (A := A) (M := M) (L := ops.toList) (fun p hp => by obtain ⟨_, _, _, _, _, h6⟩ := J.pnd p hp; exact h6) (show evDI (chkL T A M ops.toList pd _) call env fr h nx k = true from he)
      cases hr2 : rdyL ops.toList m (fun _ _ => true) with
      | none =>
        rw [hr2] at he2
        obtain ⟨hful, he3⟩ := bD_true (show evDI (bD (Nat.beq (Nat.add m 1) (Nat.shiftLeft 1 (lenO ops.toList))) (setsL M ops.toList dl)) call env fr h nx k = true from he2)
        rw [lenO_eq] at hful
        have full : ∀ i, i < ops.toList.length → i ∈ dl := fun i hi => (J.msk i).1 (full_mask hful hi)
        refine stage_ok ht hA hcal hnd hdn hsz0 hsl J hch (fun n ρ listed a w i I hs hc hi hid => ?_) fun ρ listed a w I hs hall hrd => ?_
        · obtain ⟨_, o, ho, _⟩ := (ready_iff hs).1 hi
          exact absurd (full i (by simpa using (Array.getElem?_eq_some_iff.1 ho).1)) hid
        · have hval : ∀ (q i : Nat) (o : Oper) (d : Nat), dl[q]? = some i → ops.toList[i]? = some o → o.dst = some d → ∃ v : V, env[q]? = some v ∧ VR σ ρ v (a.eval (.tmp d)) := fun q i o d hq ho hd => by
            obtain ⟨q2, v, h1, h2, h3⟩ := I.val i o d (hall i (List.mem_of_getElem? hq)) ho hd
            obtain rfl := J.nd q q2 i hq h1
            exact ⟨v, h2, h3⟩
          obtain ⟨fr', hf1, hf2⟩ := sets_ok (L := ops.toList) (h := h) (nx := nx) (call := call) (k := k) hM hval J.rng dl 0 rfl fr (fun t j hj => by
            by_cases hex : ∃ (i : Nat) (o : Oper), Sl listed i ∧ ops.toList[i]? = some o ∧ o.dst = some t
            · obtain ⟨i, o, h1, h2, h3⟩ := hex
              obtain ⟨q, hq⟩ := List.mem_iff_getElem?.1 (I.sub i h1)
              exact .inr ⟨q, i, o, Nat.zero_le _, hq, h2, h3⟩
            · rw [I.old t fun i o h1 h2 h3 => hex ⟨i, o, h1, h2, h3⟩]
              exact .inl ((hsl j t hj).ext I.post.ext)) he3
          exact hQ ρ fr' a h nx w I.rel I.post ⟨I.df, by rw [← I.sz]; exact hsz0, fun j t hj => hf1 t j hj⟩ hf2
      | some E =>
        rw [hr2] at he2
        have he2 : evDI (bD (aB (lookOk ops.toList (befL ops.toList) E (nthL ops.toList E default)) (Option.rec (motive := fun _ => Bool) true (fun _ => false) (rdyL ops.toList m fun j _ => nB (Nat.beq E j)))) (DI.o (doD T A M ops.toList dl (nthL ops.toList E default)) :: goD T A M ops.toList (befL ops.toList) f (apN dl E) (Nat.lor m (Nat.shiftLeft 1 E)) (pendF (nthL (befL ops.toList) E 0) dl pd))) call env fr h nx k = true := he2
        obtain ⟨oE, _, hoL, hm, hdep, _⟩ := (rdyL_spec m (fun _ _ => true) ops.toList 0).1 E hr2
        rw [Nat.sub_zero] at hoL
        rw [getD_some hoL] at he2
        obtain ⟨hg, he3⟩ := bD_true he2
        obtain ⟨hlk, honly⟩ := aB2 hg
        have hE : E ∉ dl := notin hm
        have hdl : ∀ j, Dep oE j → j ∈ dl := fun j hj => (J.msk j).1 (hdep j hj)
        have he3 : evD (doD T A M ops.toList dl oE) call env fr h nx (fun v h nx => appL env [v] fun env => evDI (goD T A M ops.toList (befL ops.toList) f (apN dl E) (Nat.lor m (Nat.shiftLeft 1 E)) (pendF (nthL (befL ops.toList) E 0) dl pd)) call env fr h nx k) = true := he3
        have hnone : rdyL ops.toList m (fun j _ => nB (Nat.beq E j)) = none := by
          cases hx : rdyL ops.toList m (fun j _ => nB (Nat.beq E j)) with
          | none => rfl
          | some z => rw [hx] at honly; exact nope (show false = true from honly)
        have J' : ∀ v : V, VInv T A M ops.toList (apN dl E) (Nat.lor m (Nat.shiftLeft 1 E)) (pendF (nthL (befL ops.toList) E 0) dl pd) (env ++ [v]) := fun v =>
          J.push hoL hE hdl hlk v fun p hp => .inl ((pendF_spec _ _ _ _).1 hp).1
        refine stage_ok ht hA hcal hnd hdn hsz0 hsl J hch (fun n ρ listed a w i I hs hc hi hid => ?_) fun ρ listed a w I hs hall hrd => ?_
        · obtain ⟨h1, o, ho, hdS⟩ := (ready_iff hs).1 hi
          have hoi : ops.toList[i]? = some o := by rw [Array.getElem?_toList]; exact ho
          have hmi : m.testBit (0 + i) = false := by
            rw [Nat.zero_add]
            cases hb : m.testBit i with
            | false => rfl
            | true => exact absurd ((J.msk i).1 hb) hid
          have hei := (rdyL_spec m (fun j _ => nB (Nat.beq E j)) ops.toList 0).2 hnone i o hoi hmi fun j hj => (J.msk j).2 (I.sub j (hdS j hj))
          have hei : E = 0 + i := by
            have hei : nB (Nat.beq E (0 + i)) = false := hei
            rw [nB_eq] at hei
            exact beq_iff'.1 (by simpa using hei)
          rw [Nat.zero_add] at hei
          subst hei
          rw [hoL] at hoi
          cases hoi
          obtain ⟨hcn, hss⟩ := cnt_step hs ho h1 hc
          have hi2 : E < listed.size := by rw [hs]; exact (Array.getElem?_eq_some_iff.1 ho).1
          unfold wpOp
          rw [ho]
          show if Region.wanted oE (yielded ops a.tmps) then _ else _
          have htake : dl.take dl.length = dl := List.take_length
          have hods := I.ods (o := oE) (p := dl.length) J hsl fun j hj => ⟨hdS j hj, by
            obtain ⟨q, hq⟩ := List.mem_iff_getElem?.1 (hdl j hj)
            exact ⟨q, (List.getElem?_eq_some_iff.1 hq).1, hq⟩⟩
          rw [htake] at hods
          refine eff_ok ht hA hcal I.rel hods (I.looks hlk h1) (by simp [ghost]) he3 fun ρ' v x h' nx' w' R' p' hv hK => ?_
          refine ih _ _ _ _ h' nx' (J' v) (appL_true hK) n ρ' _ _ w' ?_ hss hcn
          rw [← sl_set hi2]
          have gdl : ∀ (p : Nat), p < dl.length → (apN dl E)[p]? = dl[p]? := fun p hp => by rw [apN_eq, List.getElem?_append_left hp]
          have gen : ∀ (p : Nat), p < dl.length → (env ++ [v])[p]? = env[p]? := fun p hp => by rw [List.getElem?_append_left (by rw [J.len]; exact hp)]
          refine I.turn (p0 := dl.length) hnd hoL h1 hdS (fun d hd => ?_) (fun q j hq => ?_) (fun q u hu => ?_) ?_ ?_ R' p'.ext (I.post.trans p') hv (fun p y hp => ?_) (fun p j hp hj hne => ?_) fun p y j u b hp hpj hj hne hk hu hub hbn hlt => ?_
          · rw [← I.sz]; exact Nat.lt_of_lt_of_le (hdn oE (List.mem_of_getElem? hoL) d hd) hsz0
          · rw [gdl q (List.getElem?_eq_some_iff.1 hq).1]; exact hq
          · have h5 := (List.getElem?_eq_some_iff.1 hu).1
            rw [gen q (by rw [← J.len]; exact h5)]; exact hu
          · rw [apN_eq]; simp
          · rw [← J.len]; simp
          · have h5 := ((pendF_spec _ _ _ _).1 hp).1
            have h6 := (J.lt h5).1
            exact ⟨h5, gdl p h6, gen p h6⟩
          · have h5 : p < dl.length := by
              rw [apN_eq] at hp
              rcases Nat.lt_trichotomy p dl.length with h | h | h
              · exact h
              · subst h; simp at hp; exact absurd hp.symm hne
              · rw [List.getElem?_eq_none (by simp; omega)] at hp; cases hp
            rw [gdl p h5] at hp
            obtain ⟨y, hy⟩ := I.pen p j hp hj
            refine ⟨y, (pendF_spec _ _ _ _).2 ⟨hy, ?_⟩⟩
            show (nthL (befL ops.toList) E 0).testBit (dl.getD p 0) = false
            rw [nthL_eq, List.getD_eq_getElem?_getD (l := dl), hp]
            cases hb : ((befL ops.toList).getD E 0).testBit j with
            | false => exact hb
            | true => exact absurd (anc_in ops.toList I.cls E oE hoL hdS j hb) hj
          · refine ⟨?_, Nat.lt_of_lt_of_le hlt p'.le⟩
            cases hx : ρ' b with
            | none => rfl
            | some z =>
              rcases p'.fresh b z hx with h5 | h5
              · rw [hbn] at h5; cases h5
              · omega
        · exfalso
          have : E ∈ Region.ready .any ops listed := (ready_iff hs).2 ⟨fun h => hE (I.sub E h), oE, by rw [← Array.getElem?_toList]; exact hoL, fun j hj => hall j (hdl j hj)⟩
          rw [hrd] at this
          cases this
/-- Drawn regions. -/
theorem drw_ok (hmix : P.follows .mixedOrders = true) (ht : TOk P T) (hA : AsOk σ A) (hcal : CalOk P σ call) (hM : M.length ≤ 64) (n : Nat) : DrwR P T A σ M n call := by
  intro id ops hd ρ h nx w fr a k Q R ar hk hQ
  have hk : evDI (bD (nodupN (dstL ops.toList)) (goD T A M ops.toList (befL ops.toList) (Nat.succ (Nat.succ (lenO ops.toList))) [] 0 [])) call [] fr h nx (fun fr h nx => k .n fr h nx) = true := hk
  obtain ⟨hnd, hk⟩ := bD_true hk
  refine wp_region_any hmix ?_
  refine go_ok (ρ0 := ρ) (h0 := h) (nx0 := nx) (w0 := w) (a0 := a) (n0 := n) ht hA hcal hM hnd (dstOk_spec hd) ar.sz ar.sl (fun ρ' fr' a' h' nx' w' R' p' ar' hk' => hQ ρ' .n fr' a' h' nx' w' R' p' ar' hk') _ [] 0 [] [] h nx
    ⟨rfl, fun i => ⟨fun h => by simp at h, fun h => by cases h⟩, fun p q i h => by simp at h, fun i h => (by cases h), fun p i o h => by simp at h, fun p h => (by cases h)⟩ hk ops.size ρ _ a _ ?_ (by simp) ?_
  · have hno : ∀ i, ¬ Sl (Array.replicate ops.size false) i := fun i h => by
      unfold Sl at h
      rw [Array.getD_eq_getD_getElem?, Array.getElem?_replicate] at h
      split at h <;> cases h
    have e : ({ w with drawn := w.drawn + 1 } : World).heap = w.heap := rfl
    exact ⟨R.same e, Post.same e rfl rfl rfl, fun i h => absurd h (hno i), fun i o _ h => absurd h (hno i), fun i o d h => absurd h (hno i), fun t _ => rfl, ar.df, rfl, fun p i h => by simp at h, fun p x i v b h => (by cases h), fun p q x y i j u v b h => (by cases h)⟩
  · refine Nat.le_trans List.countP_le_length (by simp)
end
end Go.Proofs.YtbolhpgffkdacaaGreatDoor.Ev
set_option linter.unusedVariables false
set_option linter.unusedSimpArgs false
set_option linter.constructorNameAsVariable false
namespace Go.Proofs.YtbolhpgffkdacaaGreatDoor.Ev
open Go Go.RowKit
section
variable {P : Program} {T : TT} {A : List As} {σ : Nat → Int} {ρ : RM} {h : H6} {nx n2 b : Pa} {w w' : World} {g : Nat} {f : Func} {k : KV}
theorem call_ext {args : Array Value} {e : Array Value → Sem Value} {v : Value} (hf : P.funcs[g]? = some f) (hn : f.name ≠ "runtime.NumGoroutine") (hb : f.body = none) (h1 : (Extern.findNext f).isNone = true) (h2 : Extern.find f = some e) (hr : (e args).run P w = .ok v w') : (callFunc g args).run P w = .ok (.value v) w' := by
  have h1 : Extern.findNext f = none := Option.isNone_iff_eq_none.1 h1
  simp [callFunc, hf, hn, hb, h1, h2, hr]
/-- A summary of a function of n values. -/
noncomputable def sumN (n : Nat) (f : Cal) : Cal := fun g l h nx k => gB (Nat.beq (lenV l) n) (f g l h nx k)
theorem fnR_clon (hf : P.funcs[g]? = some f) (hn : f.name ≠ "runtime.NumGoroutine") (hb : f.body = none) (h1 : (Extern.findNext f).isNone = true) (h2 : Extern.find f = some Extern.MapsClone.clone) : FnR P T A σ g (.s (sumN 1 x_clon)) := by
  refine .inr (.inl ⟨_, rfl, fun l args ρ h nx w k R hv he Q hQ => ?_⟩)
  obtain ⟨hl, he⟩ := gB_iff.1 (show gB (Nat.beq (lenV l) 1) (x_clon 0 l h nx k) = true from he)
  have hl := beq_iff'.1 hl
  rw [lenV_eq] at hl
  have he : nthV 0 l (fun v => onIfc v fun t v => clonK v h nx fun v h nx => k (V.ifc t v) h nx) = true := he
  obtain ⟨v, hv0, he1⟩ := nthV_true he
  obtain ⟨t, u, rfl, he2⟩ := onIfc_true he1
  have he3 : onM u (fun b => getH b h fun ob => onMp ob fun es c => new (Ob.mp es c) h nx fun b h nx => k (V.ifc t (V.m b)) h nx) = true := he2
  obtain ⟨b, rfl, he4⟩ := onM_true he3
  rw [getH_eq] at he4
  obtain ⟨es, c, hob, he5⟩ := onMp_true he4
  obtain ⟨n2, hn2, he6⟩ := new_true he5
  cases hv with
  | nil => simp at hl
  | cons hx ht =>
    cases ht with
    | cons _ _ => simp at hl
    | nil =>
      simp at hv0
      subst hv0
      cases hx with
      | ifc hm =>
        cases hm with
        | @m _ r hb2 =>
          have hr := R.obs b r 0 hb2
          rw [hob] at hr
          cases hr with
          | @mp _ _ es2 hd hh hm2 =>
            obtain ⟨R', p'⟩ := R.alloc hn2 (.map ⟨es2⟩ c) (o := Ob.mp es c) fun ρ' he hz => .mp rfl (by show (w.heap.push _)[w.heap.size]? = _; simp) (hm2.ext he)
            refine .inl ⟨_, _, call_ext hf hn hb h1 h2 (v := .iface t (.map (some w.heap.size))) (w' := w.alloc (.map ⟨es2⟩ c)) ?_, hQ _ (V.ifc t (V.m nx)) _ _ _ _ R' p' (.ifc (.m (putR_same _ _ _ _))) he6⟩
            show (Extern.MapsClone.clone #[.iface t (.map (some r))]).run P w = _
            have e : Extern.MapsClone.clone #[.iface t (.map (some r))] = (do
              let .map entries clock ← getObj r | stuck "maps.clone: a map expected"
              pure (.iface t (.map (some (← newObj (.map entries clock)))))) := rfl
            have e2 : (getObj r).run P w = .ok (.map ⟨es2⟩ c) w := by simp [getObj, Sem.run, hh]
            rw [e, Sem.run_bind, e2]
            simp [Result.andThen]
theorem find_congr {α : Type} {p q : α → Bool} : ∀ {l : List α}, (∀ x ∈ l, p x = q x) → l.find? p = l.find? q := by
  intro l
  induction l with
  | nil => intro _; rfl
  | cons x l ih =>
    intro h
    rw [List.find?_cons, List.find?_cons, h x List.mem_cons_self, ih fun y hy => h y (List.mem_cons_of_mem _ hy)]
theorem idxB_true {c : UInt8} {k : Int → Bool} : ∀ (bs : List UInt8) (s : Nat), idxB bs.length (pkL bs) c.toNat s k = true → k (match (List.range' s bs.length).find? (fun i => bs[i - s]? == some c) with | some i => Int.ofNat i | none => Int.negSucc 0) = true := by
  intro bs
  induction bs with
  | nil => intro s he; exact he
  | cons x bs ih =>
    intro s he
    have he : iB (Nat.beq (Nat.mod (pkL (x :: bs)) 256) c.toNat) (k (Int.ofNat s)) (fN (Nat.div (pkL (x :: bs)) 256) fun n => fN (Nat.succ s) fun i => idxB bs.length n c.toNat i k) = true := he
    have hx := x.toNat_lt
    have e1 : Nat.mod (pkL (x :: bs)) 256 = x.toNat := by rw [pkL_cons]; show (x.toNat + 256 * pkL bs) % 256 = _; omega
    have e2 : Nat.div (pkL (x :: bs)) 256 = pkL bs := by rw [pkL_cons]; show (x.toNat + 256 * pkL bs) / 256 = _; omega
    rw [e1, e2, fN_eq, fN_eq, iB_eq] at he
    rw [List.length_cons, List.range'_succ, List.find?_cons]
    by_cases hxc : x = c
    · subst hxc
      rw [if_pos (by simp)] at he
      simpa using he
    · rw [if_neg (by simp; exact fun e => hxc (UInt8.toNat_inj.1 e))] at he
      have := ih (s + 1) he
      have e3 : ((x :: bs)[s - s]? == some c) = false := by simpa using hxc
      simp only [e3]
      rw [show List.find? (fun i => (x :: bs)[i - s]? == some c) (List.range' (s + 1) bs.length) = List.find? (fun i => bs[i - (s + 1)]? == some c) (List.range' (s + 1) bs.length) from by
        apply find_congr
        intro i hi
        obtain ⟨h1, h2⟩ := List.mem_range'_1.1 hi
        rw [show i - s = (i - (s + 1)) + 1 from by omega]
        rfl]
      exact this
theorem fnR_idxB (hf : P.funcs[g]? = some f) (hn : f.name ≠ "runtime.NumGoroutine") (hb : f.body = none) (h1 : (Extern.findNext f).isNone = true) (h2 : Extern.find f = some Extern.BytealgIndexByte.indexByte) : FnR P T A σ g (.s (sumN 2 x_idxB)) := by
  refine .inr (.inl ⟨_, rfl, fun l args ρ h nx w k R hv he Q hQ => ?_⟩)
  obtain ⟨hl, he⟩ := gB_iff.1 (show gB (Nat.beq (lenV l) 2) (x_idxB 0 l h nx k) = true from he)
  have hl := beq_iff'.1 hl
  rw [lenV_eq] at hl
  have he : nthV 0 l (fun v => onStr v fun ln n => nthV 1 l fun c => onI c fun q z => gB (kEq q IntKind.u8) (onN z fun c => gB (Nat.blt c 256) (idxB ln n c 0 fun z => k (V.i IntKind.i64 z) h nx))) = true := he
  obtain ⟨v, hv0, he1⟩ := nthV_true he
  obtain ⟨ln, n, rfl, he2⟩ := onStr_true he1
  obtain ⟨u, hv1, he3⟩ := nthV_true he2
  obtain ⟨q, z, rfl, he4⟩ := onI_true he3
  obtain ⟨hq, he5⟩ := gB_iff.1 he4
  obtain rfl := kEq_iff.1 hq
  obtain ⟨c, rfl, he6⟩ := onN_iff.1 he5
  obtain ⟨hc, he7⟩ := gB_iff.1 he6
  clear he1 he2 he3 he4 he5 he6
  have hc := blt_iff.1 hc
  cases hv with
  | nil => simp at hl
  | cons hx ht =>
    cases ht with
    | nil => simp at hl
    | cons hy ht =>
      cases ht with
      | cons _ _ => simp at hl
      | nil =>
        simp at hv0 hv1
        subst hv0
        subst hv1
        cases hx with
        | str bs =>
          cases hy with
          | i =>
            have hcc : (UInt8.ofNat c).toNat = c := by simp; omega
            rw [← hcc] at he7
            have := idxB_true bs 0 he7
            refine .inl ⟨_, w, call_ext hf hn hb h1 h2 (v := .int .i64 (match (List.range' 0 bs.length).find? (fun i => bs[i - 0]? == some (UInt8.ofNat c)) with | some i => Int.ofNat i | none => Int.negSucc 0)) (w' := w) ?_, hQ ρ _ _ h nx w R (Post.refl _ _ _ _) (.i _ _) this⟩
            show (Extern.BytealgIndexByte.indexByte #[.string ⟨⟨bs⟩⟩, .int .u8 (Int.ofNat c)]).run P w = _
            have hfind : ((List.range (ByteArray.size ⟨⟨bs⟩⟩)).find? fun i => (⟨⟨bs⟩⟩ : ByteArray)[i]! == UInt8.ofNat c) = (List.range' 0 bs.length).find? (fun i => bs[i - 0]? == some (UInt8.ofNat c)) := by
              rw [List.range_eq_range']
              show List.find? _ (List.range' 0 bs.length) = _
              apply find_congr
              intro i hi
              obtain ⟨_, h2⟩ := List.mem_range'_1.1 hi
              have hi : i < (⟨⟨bs⟩⟩ : ByteArray).size := by show i < bs.length; omega
              rw [getElem!_pos (⟨⟨bs⟩⟩ : ByteArray) i hi, Nat.sub_zero, List.getElem?_eq_getElem (show i < bs.length from hi)]
              rfl
            have e : Extern.BytealgIndexByte.indexByte #[.string ⟨⟨bs⟩⟩, .int .u8 (Int.ofNat c)] = (do
              let b ← Extern.Bytes.bytesOf (.string ⟨⟨bs⟩⟩)
              let c ← Extern.Bytes.asByte (.int .u8 (Int.ofNat c))
              match (List.range b.size).find? fun i => b[i]! == c with
              | some i => pure (goInt i)
              | none => pure (goInt (-1))) := rfl
            rw [e]
            have hcu : (Int.ofNat c).toNat.toUInt8 = UInt8.ofNat c := rfl
            simp only [Extern.Bytes.bytesOf, Extern.Bytes.asByte, hcu, Sem.run_bind, Sem.run_pure, Result.andThen]
            rw [hfind]
            cases (List.range' 0 bs.length).find? (fun i => bs[i - 0]? == some (UInt8.ofNat c)) <;> rfl
end
end Go.Proofs.YtbolhpgffkdacaaGreatDoor.Ev
set_option linter.unusedVariables false
set_option linter.unusedSimpArgs false
set_option linter.constructorNameAsVariable false
namespace Go.Proofs.YtbolhpgffkdacaaGreatDoor.Ev
open Go Go.RowKit
section
variable {P : Program} {T : TT} {A : List As} {σ : Nat → Int} {ρ : RM} {h : H6} {nx n2 b : Pa} {w w' : World} {g : Nat} {f : Func} {k : KV}
theorem CallR.mono {args : Array Value} {R R' : Value → World → Prop} (h : CallR P g args w R) (hr : ∀ v w', R v w' → R' v w') : CallR P g args w R' := by
  rcases h with ⟨v, w', h1, h2⟩ | ⟨h1, h2⟩
  · exact .inl ⟨v, w', h1, hr v w' h2⟩
  · refine .inr ⟨h1, Calls.mono h2 fun e w' he => ?_⟩
    cases e with
    | returned v => exact hr v w' he
    | panicked c => exact he
    | outgrown => exact he
/-- What there was stays. -/
structure Stays (w w' : World) : Prop where
  os : w'.os = w.os
  tape : w'.tape = w.tape
  output : w'.output = w.output
  size : w.heap.size ≤ w'.heap.size
  keep : ∀ r, r < w.heap.size → w'.heap[r]? = w.heap[r]?
theorem Rel.grown (R : Rel σ ρ h nx w) (s : Stays w w') : Rel σ ρ h nx w' ∧ Post ρ h nx w ρ h nx w' :=
  ⟨⟨R.dom, fun b r d hb => Nat.lt_of_lt_of_le (R.low b r d hb) s.size, fun b r d hb => (R.obs b r d hb).ext (Ext.refl _) rfl (s.keep r (R.low b r d hb)), R.inj, R.new, R.glo⟩,
   ⟨Ext.refl _, Nat.le_refl _, s.os, s.tape, s.output, s.size, fun r hr _ => s.keep r hr, fun b r d hb hw _ => ⟨b, d, hb, hw⟩, fun _ _ h => .inl h, fun _ _ _ => rfl⟩⟩
/-- But the package variables' blocks nothing is known. -/
def rm0 : RM := ⟨fun b => if num b < ngl then some (num b, 0) else none, fun _ => 0⟩
theorem rm0_some {b : Pa} {x : Nat × Nat} (h : rm0 b = some x) : num b < ngl ∧ x = (num b, 0) := by
  have h : (if num b < ngl then some (num b, 0) else none) = some x := h
  split at h
  · rename_i e; cases h; exact ⟨e, rfl⟩
  · cases h
theorem num_gnm {g : Nat} (h : g < ngl) : num (gnm g) = g := by
  have h8 : g < 8 := Nat.lt_of_lt_of_le h (by decide)
  show dn (dgt g) + 8 * (0 + 8 * (0 + 8 * (0 + 8 * (0 + 8 * 0)))) = g
  rw [dgt_dn h8]
  omega
theorem rm0_glo {g : Nat} (h : g < ngl) : rm0 (gnm g) = some (g, 0) := by
  show (if num (gnm g) < ngl then some (num (gnm g), 0) else none) = _
  rw [num_gnm h, if_pos h]
theorem lkH_e (b : Pa) : lkH b eh6 = .no := by
  have h6 : ∀ d, gN d eh6 = eh5 := fun d => by cases d <;> rfl
  have h5 : ∀ d, gN d eh5 = eh4 := fun d => by cases d <;> rfl
  have h4 : ∀ d, gN d eh4 = eh3 := fun d => by cases d <;> rfl
  have h3 : ∀ d, gN d eh3 = eh2 := fun d => by cases d <;> rfl
  have h2 : ∀ d, gN d eh2 = eh1 := fun d => by cases d <;> rfl
  have h1 : ∀ d, gN d eh1 = Ob.no := fun d => by cases d <;> rfl
  unfold lkH
  rw [h6, h5, h4, h3, h2, h1]
theorem rel0 {p : Pa} (hp : ngl ≤ num p) (hw : ngl ≤ w.heap.size) : Rel σ rm0 eh6 p w :=
  ⟨fun b x h => Nat.lt_of_lt_of_le (rm0_some h).1 hp, fun b r d h => by obtain ⟨h1, h2⟩ := rm0_some h; cases h2; exact Nat.lt_of_lt_of_le h1 hw, fun b r d h => by rw [lkH_e]; exact .no, fun b c r d e _ _ h _ => (by rw [lkH_e] at h; cases h), fun b _ => lkH_e b, fun g hg => rm0_glo hg⟩
def pa0 : Pa := ⟨.d0, .d1, .d0, .d0, .d0, .d0⟩
/-- It says true, and does nothing to what there was. -/
noncomputable def saysT : Cal := sumN 0 fun _ _ h nx k => k (V.b true) h nx
theorem says_true (hmix : P.follows .mixedOrders = true) (ht : TOk P T) {cf : Nat → CF} (hcf : ∀ g, FnR P T [] (fun _ => 0) g (cf g)) {d : Nat} {c : CF} (hc : FnR P T [] (fun _ => 0) g c) (he : evF c (evC cf d) [] eh6 pa0 (fun v _ _ => onB v fun b => b) = true) :
    ∀ w : World, ngl ≤ w.heap.size → CallR P g #[] w fun x w' => x = .bool true ∧ Stays w w' := by
  intro w hw
  have hA : AsOk (fun _ => 0) [] := fun a ha => by cases ha
  have hdr : ∀ (M : List Nat) (n : Nat) (call : Cal), M.length ≤ 64 → CalOk P (fun _ => 0) call → DrwR P T [] (fun _ => 0) M n call := fun M n call hM hcal => drw_ok hmix ht hA hcal hM n
  refine fn_ok ht hA hdr (evC_ok ht hA hdr hcf d) hc (ρ := rm0) (rel0 (by decide) hw) .nil he fun ρ' v x h' nx' w' R' p' hv hk => ?_
  obtain ⟨b, rfl, hb⟩ := onB_true hk
  cases hv
  have hb : b = true := hb
  subst hb
  exact ⟨rfl, p'.os, p'.tape, p'.output, p'.size, fun r hr => p'.keep r hr fun b d hbd => by rw [lkH_e]; rfl⟩
theorem Rel.room (R : Rel σ ρ h nx w) : ngl ≤ w.heap.size := by
  have := R.low _ _ _ (R.glo 3 (by decide))
  exact this
theorem fnR_says (hs : ∀ w : World, ngl ≤ w.heap.size → CallR P g #[] w fun x w' => x = .bool true ∧ Stays w w') : FnR P T A σ g (.s saysT) := by
  refine .inr (.inl ⟨_, rfl, fun l args ρ h nx w k R hv he Q hQ => ?_⟩)
  obtain ⟨hl, he⟩ := gB_iff.1 (show gB (Nat.beq (lenV l) 0) (k (V.b true) h nx) = true from he)
  have hl := beq_iff'.1 hl
  rw [lenV_eq] at hl
  cases hv with
  | cons _ _ => simp at hl
  | nil =>
    refine (hs w R.room).mono fun x w' ⟨hx, hst⟩ => ?_
    subst hx
    obtain ⟨R', p'⟩ := R.grown hst
    exact hQ ρ _ _ h nx w' R' p' (.b true) he
end
end Go.Proofs.YtbolhpgffkdacaaGreatDoor.Ev
set_option linter.unusedVariables false
set_option linter.unusedSimpArgs false
set_option linter.constructorNameAsVariable false
namespace Go.Proofs.YtbolhpgffkdacaaGreatDoor.Ev
open Go Go.RowKit
/-- A package variable's integers. -/
structure KRow where
  g : Nat
  k : IntKind
  l : List Int
noncomputable def vsOf (q : KRow) : List V := List.rec (motive := fun _ => List V) [] (fun z _ ih => V.i q.k z :: ih) q.l
noncomputable def obOf (q : KRow) : Ob := .ce (lenV (vsOf q)) true (toC (vsOf q))
theorem vsOf_eq (q : KRow) : vsOf q = q.l.map (V.i q.k) := by
  unfold vsOf
  generalize q.l = l
  induction l with
  | nil => rfl
  | cons z l ih => show V.i q.k z :: _ = _; rw [ih]; rfl
/-- They are so in the world. -/
def Known (K : List KRow) (w : World) : Prop := ∀ q ∈ K, ∃ cs t lo hi, w.heap[q.g]? = some (.cells cs t (lo, hi)) ∧ ∀ (i : Nat) (z : Int), q.l[i]? = some z → cs[i]? = some (.int q.k z)
/-- The heap in which they are. -/
noncomputable def hpG (K : List KRow) : H6 := List.rec (motive := fun _ => H6) eh6 (fun q _ ih => upH (gnm q.g) ih (obOf q)) K
/-- The same, laid step by step. -/
noncomputable def onG (K : List KRow) (k : H6 → Bool) : Bool := List.rec (motive := fun _ => (H6 → Bool) → Bool) (fun k => k eh6) (fun q _ ih k => ih fun h => setH (gnm q.g) h (obOf q) k) K k
theorem onG_eq (K : List KRow) : ∀ k : H6 → Bool, onG K k = k (hpG K) := by
  induction K with
  | nil => intro k; rfl
  | cons q K ih =>
    intro k
    show onG K (fun h => setH (gnm q.g) h (obOf q) k) = _
    rw [ih, setH_eq]
    rfl
noncomputable def okG (K : List KRow) : Bool := List.rec (motive := fun _ => Bool) true (fun q _ ih => aB (aB (Nat.blt q.g ngl) (Nat.ble (lenV (vsOf q)) 512)) ih) K
theorem okG_spec : ∀ {K : List KRow}, okG K = true → ∀ q ∈ K, q.g < ngl ∧ q.l.length ≤ 512 := by
  intro K
  induction K with
  | nil => intro _ q h; cases h
  | cons x K ih =>
    intro h q hq
    obtain ⟨h1, h2⟩ := aB2 (show aB (aB (Nat.blt x.g ngl) (Nat.ble (lenV (vsOf x)) 512)) (okG K) = true from h)
    obtain ⟨h3, h4⟩ := aB2 h1
    rcases List.mem_cons.1 hq with rfl | hq
    · refine ⟨blt_iff.1 h3, ?_⟩
      have := ble_iff.1 h4
      rwa [lenV_eq, vsOf_eq, List.length_map] at this
    · exact ih h2 q hq
theorem hpG_lk : ∀ (K : List KRow) (b : Pa), (lkH b (hpG K) = .no) ∨ ∃ q ∈ K, b = gnm q.g ∧ lkH b (hpG K) = obOf q := by
  intro K
  induction K with
  | nil => intro b; exact .inl (lkH_e b)
  | cons q K ih =>
    intro b
    show lkH b (upH (gnm q.g) (hpG K) (obOf q)) = .no ∨ _
    by_cases e : b = gnm q.g
    · subst e
      exact .inr ⟨q, List.mem_cons_self, rfl, lkH_same _ _ _⟩
    · rw [lkH_other e]
      rcases ih b with h | ⟨q2, h1, h2, h3⟩
      · exact .inl h
      · refine .inr ⟨q2, List.mem_cons_of_mem _ h1, h2, ?_⟩
        show lkH b (upH (gnm q.g) (hpG K) (obOf q)) = _
        rw [lkH_other e]; exact h3
section
variable {P : Program} {T : TT} {A : List As} {σ : Nat → Int} {ρ : RM} {h : H6} {nx n2 b : Pa} {w w' : World} {g : Nat} {f : Func} {k : KV} {K : List KRow}
/-- The package variables' blocks, and how long they are. -/
def rmG (w : World) : RM := ⟨rm0.m, fun r => match w.heap[r]? with | some o => osz o | none => 0⟩
theorem rmG_some {b : Pa} {x : Nat × Nat} (h : (rmG w).m b = some x) : num b < ngl ∧ x = (num b, 0) := rm0_some (b := b) (x := x) h
theorem relG {p : Pa} (hok : okG K = true) (hk : Known K w) (hp : ngl ≤ num p) (hw : ngl ≤ w.heap.size) : Rel σ (rmG w) (hpG K) p w := by
  refine ⟨fun b x h => Nat.lt_of_lt_of_le (rmG_some h).1 hp, fun b r d h => ?_, fun b r d h => ?_, fun b c r d e h1 h2 _ _ => ?_, fun b hb => ?_, fun g hg => rm0_glo hg⟩
  · obtain ⟨h1, h2⟩ := rmG_some h
    have e1 : r = num b := congrArg Prod.fst h2
    rw [e1]
    exact Nat.lt_of_lt_of_le h1 hw
  · obtain ⟨h1, h2⟩ := rmG_some h
    rcases hpG_lk K b with h3 | ⟨q, hq, rfl, h3⟩
    · rw [h3]; exact .no
    · rw [num_gnm (okG_spec hok q hq).1] at h2
      cases h2
      obtain ⟨cs, t, lo, hi, h4, h6⟩ := hk q hq
      rw [h3]
      refine .ce h4 (.inl rfl) ?_ fun i hi => ?_
      · show cs.size = (match w.heap[q.g]? with | some o => osz o | none => 0)
        rw [h4]; rfl
      · rw [lenV_eq, vsOf_eq, List.length_map] at hi
        refine ⟨_, by rw [Nat.zero_add]; exact h6 i _ (List.getElem?_eq_getElem hi), rfl, ?_⟩
        rw [toC_lk _ (by rw [vsOf_eq, List.length_map]; exact (okG_spec hok q hq).2) i (by rw [vsOf_eq, List.length_map]; exact hi), vsOf_eq, List.getD_eq_getElem?_getD, List.getElem?_map, List.getElem?_eq_getElem hi]
        exact .i _ _
  · obtain ⟨_, e1⟩ := rmG_some h1
    obtain ⟨_, e2⟩ := rmG_some h2
    have e3 : r = num b := congrArg Prod.fst e1
    have e4 : r = num c := congrArg Prod.fst e2
    exact num_inj (e3.symm.trans e4)
  · rcases hpG_lk K b with h3 | ⟨q, hq, rfl, h3⟩
    · exact h3
    · have := (okG_spec hok q hq).1
      rw [num_gnm this] at hb
      omega
/-- They are looked at. -/
noncomputable def chG (K : List KRow) (h : H6) (r : Bool) : Bool := List.rec (motive := fun _ => Bool) r (fun q _ ih => getH (gnm q.g) h fun ob => onCe ob fun n _ c => gB (aB (Nat.blt q.g ngl) (Nat.beq n (lenV (vsOf q)))) (rdL n c 0 fun l => gB (vsEq l (vsOf q)) ih)) K
theorem chG_true (R : Rel σ ρ h nx w) : ∀ {K : List KRow} {r : Bool}, chG K h r = true → Known K w ∧ r = true := by
  intro K
  induction K with
  | nil => intro r hc; exact ⟨fun q h => (by cases h), hc⟩
  | cons q K ih =>
    intro r hc
    have hc : getH (gnm q.g) h (fun ob => onCe ob fun n _ c => gB (aB (Nat.blt q.g ngl) (Nat.beq n (lenV (vsOf q)))) (rdL n c 0 fun l => gB (vsEq l (vsOf q)) (chG K h r))) = true := hc
    rw [getH_eq] at hc
    obtain ⟨n, ro, c, hl, h1⟩ := onCe_true hc
    obtain ⟨h2, h3⟩ := gB_iff.1 h1
    obtain ⟨h4, h5⟩ := aB2 h2
    obtain ⟨h6, h7⟩ := gB_iff.1 (rdL_true n h3)
    have h6 := vsEq_true h6
    obtain rfl := beq_iff'.1 h5
    obtain ⟨h8, h9⟩ := ih h7
    refine ⟨fun q2 hq2 => ?_, h9⟩
    rcases List.mem_cons.1 hq2 with rfl | hq2
    · have ho := R.obs _ _ _ (R.glo _ (blt_iff.1 h4))
      rw [hl] at ho
      cases ho with
      | ce e1 e2 e3 e4 =>
        refine ⟨_, _, _, _, e1, fun i z hz => ?_⟩
        have hi : i < q2.l.length := (List.getElem?_eq_some_iff.1 hz).1
        have hi2 : i < lenV (vsOf q2) := by rw [lenV_eq, vsOf_eq, List.length_map]; exact hi
        obtain ⟨x, f1, _, f3⟩ := e4 i hi2
        have h10 : ((List.range (lenV (vsOf q2))).map fun i => lkC c (0 + i))[i]? = (vsOf q2)[i]? := by rw [h6]
        rw [List.getElem?_map, List.getElem?_range hi2, vsOf_eq, List.getElem?_map, hz] at h10
        have h10 : some (lkC c (0 + i)) = some (V.i q2.k z) := h10
        injection h10 with h10
        rw [Nat.zero_add] at h10
        rw [h10] at f3
        cases f3
        rw [Nat.zero_add] at f1
        exact f1
    · exact h8 q2 hq2
/-- It says true where they are so. -/
noncomputable def saysG (K : List KRow) : Cal := sumN 0 fun _ _ h nx k => chG K h (k (V.b true) h nx)
theorem saysG_true (hmix : P.follows .mixedOrders = true) (ht : TOk P T) (hok : okG K = true) {cf : Nat → CF} (hcf : ∀ g, FnR P T [] (fun _ => 0) g (cf g)) {d : Nat} {c : CF} (hc : FnR P T [] (fun _ => 0) g c) (he : onG K (fun h => evF c (evC cf d) [] h pa0 (fun v _ _ => onB v fun b => b)) = true) :
    ∀ w : World, ngl ≤ w.heap.size → Known K w → CallR P g #[] w fun x w' => x = .bool true ∧ Stays w w' := by
  intro w hw hk
  rw [onG_eq] at he
  have hA : AsOk (fun _ => 0) [] := fun a ha => by cases ha
  have hdr : ∀ (M : List Nat) (n : Nat) (call : Cal), M.length ≤ 64 → CalOk P (fun _ => 0) call → DrwR P T [] (fun _ => 0) M n call := fun M n call hM hcal => drw_ok hmix ht hA hcal hM n
  refine fn_ok ht hA hdr (evC_ok ht hA hdr hcf d) hc (ρ := rmG w) (relG hok hk (by decide) hw) .nil he fun ρ' v x h' nx' w' R' p' hv hk => ?_
  obtain ⟨b, rfl, hb⟩ := onB_true hk
  cases hv
  have hb : b = true := hb
  subst hb
  refine ⟨rfl, p'.os, p'.tape, p'.output, p'.size, fun r hr => p'.keep r hr fun b d hbd => ?_⟩
  rcases hpG_lk K b with h3 | ⟨q, _, _, h3⟩ <;> rw [h3] <;> rfl
theorem fnR_saysG (hs : ∀ w : World, ngl ≤ w.heap.size → Known K w → CallR P g #[] w fun x w' => x = .bool true ∧ Stays w w') : FnR P T A σ g (.s (saysG K)) := by
  refine .inr (.inl ⟨_, rfl, fun l args ρ h nx w k R hv he Q hQ => ?_⟩)
  obtain ⟨hl, he⟩ := gB_iff.1 (show gB (Nat.beq (lenV l) 0) (chG K h (k (V.b true) h nx)) = true from he)
  have hl := beq_iff'.1 hl
  rw [lenV_eq] at hl
  obtain ⟨hk, he2⟩ := chG_true R he
  cases hv with
  | cons _ _ => simp at hl
  | nil =>
    refine (hs w R.room hk).mono fun x w' ⟨hx, hst⟩ => ?_
    subst hx
    obtain ⟨R', p'⟩ := R.grown hst
    exact hQ ρ _ _ h nx w' R' p' (.b true) he2
end
end Go.Proofs.YtbolhpgffkdacaaGreatDoor.Ev
set_option linter.unusedVariables false
namespace Go.Proofs.YtbolhpgffkdacaaGreatDoor.Ev
open Go Go.RowKit
section
variable {P : Program} {T : TT} {A : List As} {σ : Nat → Int} {w w' : World} {g : Nat} {K : List KRow}
/-- It says true where they are so, whatever stands for the integers. -/
theorem top_true (hmix : P.follows .mixedOrders = true) (ht : TOk P T) (hok : okG K = true) (hA : AsOk σ A) {cf : Nat → CF} (hcf : ∀ g, FnR P T A σ g (cf g)) {d : Nat} {c : CF} (hc : FnR P T A σ g c) {l : List V} {args : List Value} (hv : ∀ ρ, VRs σ ρ l args) (he : onG K (fun h => evF c (evC cf d) l h pa0 (fun v _ _ => onB v fun b => b)) = true) :
    ∀ w : World, ngl ≤ w.heap.size → Known K w → CallR P g ⟨args⟩ w fun x w' => x = .bool true ∧ Stays w w' := by
  intro w hw hk
  rw [onG_eq] at he
  have hdr : ∀ (M : List Nat) (n : Nat) (call : Cal), M.length ≤ 64 → CalOk P σ call → DrwR P T A σ M n call := fun M n call hM hcal => drw_ok hmix ht hA hcal hM n
  refine fn_ok ht hA hdr (evC_ok ht hA hdr hcf d) hc (ρ := rmG w) (relG hok hk (by decide) hw) (hv _) he fun ρ' v x h' nx' w' R' p' hv hk => ?_
  obtain ⟨b, rfl, hb⟩ := onB_true hk
  cases hv
  have hb : b = true := hb
  subst hb
  refine ⟨rfl, p'.os, p'.tape, p'.output, p'.size, fun r hr => p'.keep r hr fun b d hbd => ?_⟩
  rcases hpG_lk K b with h3 | ⟨q, _, _, h3⟩ <;> rw [h3] <;> rfl
end
end Go.Proofs.YtbolhpgffkdacaaGreatDoor.Ev
set_option linter.unusedVariables false
namespace Go.Proofs.YtbolhpgffkdacaaGreatDoor.Ev
open Go Go.RowKit
section
variable {P : Program} {ld : Nat → List Nat}
/-- l, then m, its numbers reckoned. -/
noncomputable def apF (l : List Nat) : List Nat → (List Nat → Bool) → Bool := List.rec (motive := fun _ => List Nat → (List Nat → Bool) → Bool) (fun m k => k m) (fun x _ ih m k => fN x fun x => ih m fun r => k (x :: r)) l
theorem apF_eq (l : List Nat) : ∀ (m : List Nat) (k : List Nat → Bool), apF l m k = k (l ++ m) := by
  induction l with
  | nil => intro m k; rfl
  | cons x l ih =>
    intro m k
    show fN x (fun x => apF l m fun r => k (x :: r)) = _
    rw [fN_eq, ih]
    rfl
/-- What is led to: what is still to be looked at, what was seen (as a mask, and as a list). -/
noncomputable def cloF (ld : Nat → List Nat) (n : Nat) : List Nat → Nat → List Nat → (List Nat → Bool) → Bool := Nat.rec (motive := fun _ => List Nat → Nat → List Nat → (List Nat → Bool) → Bool) (fun _ _ seen k => k seen) (fun _ ih todo m seen k => List.rec (motive := fun _ => Bool) (k seen) (fun f t _ => iB (tbN m f) (ih t m seen k) (fN (Nat.lor m (Nat.shiftLeft 1 f)) fun m => apF (ld f) t fun t => ih t m (f :: seen) k)) todo) n
theorem tbN_lor (m f i : Nat) : tbN (Nat.lor m (Nat.shiftLeft 1 f)) i = true ↔ tbN m i = true ∨ i = f := by
  rw [tbN_eq, tbN_eq]
  show ((m ||| 1 <<< f).testBit i = true) ↔ _
  rw [Nat.testBit_or, Nat.one_shiftLeft, Nat.testBit_two_pow, Bool.or_eq_true, decide_eq_true_eq]
  constructor
  · rintro (h | h)
    · exact .inl h
    · exact .inr h.symm
  · rintro (h | h)
    · exact .inl h
    · exact .inr h.symm
theorem cloF_eq (hl : ∀ g, (P.funcs[g]?).elim [] P.leadsTo = ld g) : ∀ (n : Nat) (todo : List Nat) (m : Nat) (seen : List Nat) (k : List Nat → Bool), (∀ i, tbN m i = true ↔ i ∈ seen) → ∃ s, cloF ld n todo m seen k = k s ∧ P.closureVia n todo seen = s.reverse := by
  intro n
  induction n with
  | zero => intro todo m seen k _; exact ⟨seen, rfl, by unfold Program.closureVia; rfl⟩
  | succ n ih =>
    intro todo m seen k hm
    cases todo with
    | nil => exact ⟨seen, rfl, by unfold Program.closureVia; rfl⟩
    | cons f t =>
      have e : cloF ld (n + 1) (f :: t) m seen k = iB (tbN m f) (cloF ld n t m seen k) (fN (Nat.lor m (Nat.shiftLeft 1 f)) fun m => apF (ld f) t fun t => cloF ld n t m (f :: seen) k) := rfl
      rw [e, iB_eq]
      by_cases h : tbN m f = true
      · rw [if_pos h]
        obtain ⟨s, h1, h2⟩ := ih t m seen k hm
        refine ⟨s, h1, ?_⟩
        unfold Program.closureVia
        have hc : seen.contains f = true := by simpa using (hm f).1 h
        rw [if_pos hc]
        exact h2
      · rw [if_neg h, fN_eq, apF_eq]
        obtain ⟨s, h1, h2⟩ := ih (ld f ++ t) (Nat.lor m (Nat.shiftLeft 1 f)) (f :: seen) k (fun i => by rw [tbN_lor, hm i, List.mem_cons]; exact ⟨fun x => x.elim .inr .inl, fun x => x.elim .inr .inl⟩)
        refine ⟨s, h1, ?_⟩
        unfold Program.closureVia
        have hc : ¬ (seen.contains f = true) := by
          intro hx
          exact h ((hm f).2 (by simpa using hx))
        rw [if_neg hc, hl f]
        exact h2
/-- The same numbers. -/
noncomputable def eqF (l : List Nat) : List Nat → Bool := List.rec (motive := fun _ => List Nat → Bool) (fun m => List.rec (motive := fun _ => Bool) true (fun _ _ _ => false) m) (fun x _ ih m => List.rec (motive := fun _ => Bool) false (fun y t _ => aB (Nat.beq x y) (ih t)) m) l
theorem eqF_true : ∀ {l m : List Nat}, eqF l m = true → l = m := by
  intro l
  induction l with
  | nil =>
    intro m h
    cases m with
    | nil => rfl
    | cons y t => exact nope (show false = true from h)
  | cons x l ih =>
    intro m h
    cases m with
    | nil => exact nope (show false = true from h)
    | cons y t =>
      obtain ⟨h1, h2⟩ := aB2 (show aB (Nat.beq x y) (eqF l t) = true from h)
      rw [beq_iff'.1 h1, ih h2]
theorem clo_of (hl : ∀ g, (P.funcs[g]?).elim [] P.leadsTo = ld g) {f : Nat} {L : List Nat} (h : cloF ld (1 + (P.funcs.toList.map fun g => (P.leadsTo g).length + 1).sum) [f] 0 [] (fun s => eqF s L) = true) : P.closure f = L.reverse := by
  obtain ⟨s, h1, h2⟩ := cloF_eq (P := P) (ld := ld) hl (1 + (P.funcs.toList.map fun g => (P.leadsTo g).length + 1).sum) [f] 0 [] (fun s => eqF s L) (fun i => by rw [tbN_eq]; simp)
  rw [h1] at h
  rw [← eqF_true h]
  exact h2
end
end Go.Proofs.YtbolhpgffkdacaaGreatDoor.Ev
set_option linter.unusedVariables false
namespace Go.Proofs.YtbolhpgffkdacaaGreatDoor.Ev
open Go Go.RowKit
section
variable {P : Program} {W w w' : World} {g : Nat} {K : List KRow}
/-- A table that is laid is known. -/
theorem tab_known {name : String} {k : IntKind} {zs : List Int} (hg : P.globalNamed name = some g) (h : Lib.TabIs P W name k zs) : ∃ cs t lo hi, W.heap[g]? = some (.cells cs t (lo, hi)) ∧ ∀ (i : Nat) (z : Int), zs[i]? = some z → cs[i]? = some (.int k z) := by
  unfold Lib.TabIs World.var? at h
  rw [hg] at h
  simp only [Option.bind_some] at h
  split at h
  · rename_i cs t fr hh
    injection h with h
    subst h
    exact ⟨_, _, fr.1, fr.2, hh, fun i z hz => by simp [hz]⟩
  · cases h
/-- A call of a function with a body. -/
theorem CallR.calls {f : Func} {c : Code} {args : Array Value} {R : Value → World → Prop} (hf : P.funcs[g]? = some f) (hb : f.body = some c) (hn : f.name ≠ "runtime.NumGoroutine") (h : CallR P g args w R) : Calls P g args w fun e w' => ∃ v, e = .returned v ∧ R v w' := by
  have hent : (callFunc g args).run P w = .ok (.enter g args) w := by simp [callFunc, hf, hb, hn]
  rcases h with ⟨v, w', h1, _⟩ | ⟨_, h2⟩
  · rw [hent] at h1; cases h1
  · refine Calls.mono h2 fun e w' he => ?_
    cases e with
    | returned v => exact ⟨v, rfl, he⟩
    | panicked c => exact he.elim
    | outgrown => exact he.elim
/-- What was is as it was. -/
theorem Stays.kept (s : Stays w w') (may : MemPlace → Prop) : w.keptBut w' may := by
  refine ⟨s.os, s.output, fun i hi => ?_⟩
  rw [s.keep i hi]
  cases hw : w.heap[i]? with
  | none => rfl
  | some o =>
    cases o with
    | cells c t fr => exact ⟨rfl, rfl, rfl, fun j _ => rfl⟩
    | map es clock => exact .inr ⟨rfl, rfl⟩
    | _ => rfl
end
end Go.Proofs.YtbolhpgffkdacaaGreatDoor.Ev
set_option linter.unusedVariables false
namespace Go.Proofs.YtbolhpgffkdacaaGreatDoor.Ev
open Go Go.RowKit
noncomputable def goO (o : Op) : Bool := Op.rec (motive := fun _ => Bool) (fun _ => false) (fun _ => false) (fun _ _ _ => false) (fun _ => false) (fun _ _ => false) (fun _ _ => false) (fun _ _ _ => false) (fun _ _ _ _ => false) (fun _ _ => false) (fun _ _ _ => false) (fun _ => false) (fun _ => false) (fun _ => false) (fun _ _ _ _ _ => false) (fun _ _ _ => false) (fun _ _ _ => false) (fun _ _ => false) (fun _ _ => false) (fun _ _ _ => false) (fun _ _ => false) (fun _ _ => false) (fun _ _ _ => false) (fun _ _ _ _ _ => false) (fun _ _ _ => false) (fun _ _ _ => false) (fun _ _ _ => false) (fun _ _ _ => false) (fun _ _ _ _ => false) (fun _ _ _ _ => false) (fun _ _ _ => false) (fun _ _ _ _ => false) (fun _ _ => false) (fun _ _ => false) (fun _ => false) (fun _ _ _ _ => false) (fun _ _ => false) (fun _ => false) (fun _ => true) (fun _ => false) (fun _ => false) (fun _ _ => false) (fun _ _ _ => false) (fun _ _ => false) o
noncomputable def goL (l : List Oper) : Bool := List.rec (motive := fun _ => Bool) false (fun o _ ih => Bool.rec (motive := fun _ => Bool) ih true (goO o.op)) l
noncomputable def orB2 (a b : Bool) : Bool := Bool.rec (motive := fun _ => Bool) b true a
noncomputable def goC (c : Code) : Bool := Code.rec (motive := fun _ => Bool) false (fun _ ops _ => goL ops.toList) (fun _ _ a b => orB2 a b) (fun _ _ _ a b => orB2 a b) (fun _ _ a => a) (fun _ a => a) (fun _ _ _ _ a b => orB2 a b) (fun _ => false) (fun _ a => a) (fun _ => false) (fun _ => false) false (fun _ => false) c
theorem goO_eq (o : Op) : goO o = o.goes := by cases o <;> rfl
theorem goL_eq (l : List Oper) : goL l = l.any (·.op.goes) := by
  induction l with
  | nil => rfl
  | cons o l ih =>
    show (Bool.rec (motive := fun _ => Bool) (goL l) true (goO o.op) : Bool) = _
    rw [goO_eq, ih, List.any_cons]
    cases o.op.goes <;> rfl
theorem orB2_eq (a b : Bool) : orB2 a b = (a || b) := by cases a <;> rfl
theorem goC_eq (c : Code) : goC c = c.goes := by
  induction c with
  | region id ops d => show goL ops.toList = _; rw [goL_eq]; rfl
  | seq a b iha ihb => show orB2 (goC a) (goC b) = _; rw [orB2_eq, iha, ihb]; rfl
  | cond c a b iha ihb => show orB2 (goC a) (goC b) = _; rw [orB2_eq, iha, ihb]; rfl
  | block id c ih => show goC c = _; rw [ih]; rfl
  | loop c ih => show goC c = _; rw [ih]; rfl
  | scope c ih => show goC c = _; rw [ih]; rfl
  | rangeFunc f ps a b iha ihb => show orB2 (goC a) (goC b) = _; rw [orB2_eq, iha, ihb]; rfl
  | _ => rfl
noncomputable def goF (fn : Func) : Bool := Option.rec (motive := fun _ => Bool) (entryGoes.contains fn.name || entryGoes.contains fn.origin) (fun c => goC c) fn.body
theorem goF_eq (fn : Func) : goF fn = fn.goes := by
  unfold goF Func.goes
  cases fn.body with
  | none => rfl
  | some c => exact goC_eq c
noncomputable def rdG (o : Op) : List Nat := Op.rec (motive := fun _ => List Nat) (fun _ => []) (fun _ => []) (fun _ _ _ => []) (fun _ => []) (fun _ _ => []) (fun _ _ => []) (fun _ _ _ => []) (fun _ _ _ _ => []) (fun _ _ => []) (fun _ _ _ => []) (fun g => [g]) (fun g => [g]) (fun _ => []) (fun _ _ _ _ _ => []) (fun _ _ _ => []) (fun _ _ _ => []) (fun _ _ => []) (fun _ _ => []) (fun _ _ _ => []) (fun _ _ => []) (fun _ _ => []) (fun _ _ _ => []) (fun _ _ _ _ _ => []) (fun _ _ _ => []) (fun _ _ _ => []) (fun _ _ _ => []) (fun _ _ _ => []) (fun _ _ _ _ => []) (fun _ _ _ _ => []) (fun _ _ _ => []) (fun _ _ _ _ => []) (fun _ _ => []) (fun _ _ => []) (fun _ => []) (fun _ _ _ _ => []) (fun _ _ => []) (fun _ => []) (fun _ => []) (fun _ => []) (fun _ => []) (fun _ _ => []) (fun _ _ _ => []) (fun _ _ => []) o
noncomputable def glO (l : List Operand) (r : List Nat) : List Nat := List.rec (motive := fun _ => List Nat) r (fun x _ ih => Operand.rec (motive := fun _ => List Nat) (fun _ => ih) (fun _ => ih) (fun g => g :: ih) (fun _ => ih) x) l
noncomputable def apG (l r : List Nat) : List Nat := List.rec (motive := fun _ => List Nat) r (fun x _ ih => x :: ih) l
noncomputable def gnL (l : List Oper) (r : List Nat) : List Nat := List.rec (motive := fun _ => List Nat) r (fun o _ ih => glO o.op.operands.toList (apG (rdG o.op) ih)) l
noncomputable def gnC (c : Code) : List Nat → List Nat := Code.rec (motive := fun _ => List Nat → List Nat) (fun r => r) (fun _ ops _ r => gnL ops.toList r) (fun _ _ a b r => a (b r)) (fun c _ _ a b r => glO [c] (a (b r))) (fun _ _ a => a) (fun _ a => a) (fun f _ _ _ a b r => glO [f] (a (b r))) (fun _ r => r) (fun _ a => a) (fun _ r => r) (fun _ r => r) (fun r => r) (fun _ r => r) c
theorem rdG_eq (o : Op) : rdG o = (match o with | .ready g | .waits g => [g] | _ => []) := by cases o <;> rfl
theorem apG_eq (l r : List Nat) : apG l r = l ++ r := by
  induction l with
  | nil => rfl
  | cons x l ih => show x :: apG l r = _; rw [ih]; rfl
theorem glO_eq (l : List Operand) (r : List Nat) : glO l r = (l.filterMap fun | .global g => some g | _ => none) ++ r := by
  induction l with
  | nil => rfl
  | cons x l ih =>
    cases x with
    | global g => show g :: glO l r = _; rw [ih]; rfl
    | tmp t => exact ih
    | const v => exact ih
    | func f => exact ih
theorem gnL_eq (l : List Oper) (r : List Nat) : gnL l r = (l.flatMap fun o => (o.op.operands.toList.filterMap fun | .global g => some g | _ => none) ++ (match o.op with | .ready g | .waits g => [g] | _ => [])) ++ r := by
  induction l with
  | nil => rfl
  | cons o l ih =>
    show glO o.op.operands.toList (apG (rdG o.op) (gnL l r)) = _
    rw [glO_eq, apG_eq, rdG_eq, ih, List.flatMap_cons]
    simp only [List.append_assoc]
theorem gnC_eq (c : Code) : ∀ r, gnC c r = c.globalsNamed ++ r := by
  induction c with
  | region id ops d => intro r; exact gnL_eq ops.toList r
  | seq a b iha ihb => intro r; show gnC a (gnC b r) = _; rw [ihb, iha, ← List.append_assoc]; rfl
  | cond c a b iha ihb =>
    intro r
    show glO [c] (gnC a (gnC b r)) = _
    rw [ihb, iha, glO_eq]
    cases c <;> simp [Code.globalsNamed]
  | block id c ih => intro r; exact ih r
  | loop c ih => intro r; exact ih r
  | scope c ih => intro r; exact ih r
  | rangeFunc f ps a b iha ihb =>
    intro r
    show glO [f] (gnC a (gnC b r)) = _
    rw [ihb, iha, glO_eq]
    cases f <;> simp [Code.globalsNamed]
  | _ => intro r; rfl
noncomputable def gnF (fn : Func) (r : List Nat) : List Nat := Option.rec (motive := fun _ => List Nat) r (fun c => gnC c r) fn.body
theorem gnF_eq (fn : Func) (r : List Nat) : gnF fn r = fn.body.elim [] Code.globalsNamed ++ r := by
  unfold gnF
  cases fn.body with
  | none => rfl
  | some c => exact gnC_eq c r
section
variable {P : Program} {F : Nat → Func} {n : Nat}
/-- No go statement anywhere. -/
theorem goes_none (h : ∀ (g : Nat) (f : Func), P.funcs[g]? = some f → goF f = false) (g : Nat) : P.goes g = false := by
  have h1 : ∀ g : Nat, (P.funcs[g]?).any Func.goes = false := fun g => by
    cases e : P.funcs[g]? with
    | none => rfl
    | some f => show f.goes = false; rw [← goF_eq]; exact h g f e
  unfold Program.goes
  have h2 : ((P.closure g).any fun g => (P.funcs[g]?).any Func.goes) = false := by
    rw [List.any_eq_false]
    intro x _
    rw [h1 x]
    simp
  have h3 : P.funcs.any Func.goes = false := by
    rw [Array.any_eq_false]
    intro i hi
    have := h1 i
    rw [Array.getElem?_eq_getElem hi] at this
    simpa using this
  rw [h2, h3]
  simp
/-- A list's functions, by the table. -/
theorem fm_tab {β : Type} (hF : ∀ g, g < n → P.funcs[g]? = some (F g)) (k : Func → Option β) : ∀ {L : List Nat}, (∀ g ∈ L, g < n) → (L.filterMap fun g => (P.funcs[g]?).bind k) = L.filterMap fun g => k (F g) := by
  intro L
  induction L with
  | nil => intro _; rfl
  | cons g L ih =>
    intro h
    have e : (P.funcs[g]?).bind k = k (F g) := by rw [hF g (h g List.mem_cons_self)]; rfl
    rw [List.filterMap_cons, List.filterMap_cons, e, ih fun x hx => h x (List.mem_cons_of_mem _ hx)]
noncomputable def gnA (F : Nat → Func) (L : List Nat) : List Nat := List.rec (motive := fun _ => List Nat) [] (fun g _ ih => gnF (F g) ih) L
theorem fl_tab (hF : ∀ g, g < n → P.funcs[g]? = some (F g)) : ∀ {L : List Nat}, (∀ g ∈ L, g < n) → (L.flatMap fun g => ((P.funcs[g]?).bind (·.body)).elim [] Code.globalsNamed) = gnA F L := by
  intro L
  induction L with
  | nil => intro _; rfl
  | cons g L ih =>
    intro h
    rw [List.flatMap_cons, ih fun x hx => h x (List.mem_cons_of_mem _ hx), hF g (h g List.mem_cons_self)]
    show _ = gnF (F g) (gnA F L)
    rw [gnF_eq]
    rfl
end
end Go.Proofs.YtbolhpgffkdacaaGreatDoor.Ev
set_option linter.unusedVariables false
set_option linter.constructorNameAsVariable false
namespace Go.Proofs.YtbolhpgffkdacaaGreatDoor.Ev
open Go Go.RowKit
section
variable {P : Program} {T : TT} {A : List As} {σ : Nat → Int} {w w' : World} {g : Nat} {K : List KRow}
/-- The value is that expression, of that kind. -/
noncomputable def eqSE (v : V) (q : IntKind) (e : SE) : Bool := match v with
  | .s k f => aB (kEq k q) (seE f e)
  | _ => false
theorem eqSE_true {v : V} {q : IntKind} {e : SE} (h : eqSE v q e = true) : v = .s q e := by
  unfold eqSE at h
  split at h
  · obtain ⟨h1, h2⟩ := aB2 h
    rw [kEq_iff.1 h1, seE_true h2]
  · exact nope h
/-- What it gives, wherever. -/
theorem val_true (hmix : P.follows .mixedOrders = true) (ht : TOk P T) (hA : AsOk σ A) {cf : Nat → CF} (hcf : ∀ g, FnR P T A σ g (cf g)) {d : Nat} {c : CF} (hc : FnR P T A σ g c) {l : List V} {args : List Value} (hv : ∀ ρ, VRs σ ρ l args) {q : IntKind} {e : SE} (he : evF c (evC cf d) l eh6 pa0 (fun v _ _ => eqSE v q e) = true) :
    ∀ w : World, ngl ≤ w.heap.size → CallR P g ⟨args⟩ w fun x w' => x = .int q (e.val σ) ∧ Stays w w' := by
  intro w hw
  have hdr : ∀ (M : List Nat) (n : Nat) (call : Cal), M.length ≤ 64 → CalOk P σ call → DrwR P T A σ M n call := fun M n call hM hcal => drw_ok hmix ht hA hcal hM n
  refine fn_ok ht hA hdr (evC_ok ht hA hdr hcf d) hc (ρ := rm0) (rel0 (by decide) hw) (hv _) he fun ρ' v x h' nx' w' R' p' hv hk => ?_
  obtain rfl := eqSE_true hk
  cases hv
  exact ⟨rfl, p'.os, p'.tape, p'.output, p'.size, fun r hr => p'.keep r hr fun b d hbd => by rw [lkH_e]; rfl⟩
/-- What is known of the function at an expression and a number. -/
noncomputable def smLk (B : List (SE × Int × Int)) (e : SE) (z : Int) (k : Int → Bool) : Bool := match B with
  | [] => false
  | (e2, z2, r) :: t => iB (aB (seE e e2) (zEq z z2)) (k r) (smLk t e z k)
theorem smLk_true : ∀ {B : List (SE × Int × Int)} {e : SE} {z : Int} {k : Int → Bool}, smLk B e z k = true → ∃ r, (e, z, r) ∈ B ∧ k r = true := by
  intro B
  induction B with
  | nil => intro e z k h; exact nope h
  | cons x t ih =>
    intro e z k h
    obtain ⟨e2, z2, r⟩ := x
    have h0 : iB (aB (seE e e2) (zEq z z2)) (k r) (smLk t e z k) = true := h
    clear h
    rw [iB_eq] at h0
    split at h0
    · rename_i hb
      obtain ⟨h1, h2⟩ := aB2 hb
      rw [zEq_eq, beq_iff_eq] at h2
      obtain rfl := seE_true h1
      subst h2
      exact ⟨r, List.mem_cons_self, h0⟩
    · obtain ⟨r2, h1, h2⟩ := ih h0
      exact ⟨r2, List.mem_cons_of_mem _ h1, h2⟩
noncomputable def smV (v u : V) (B : List (SE × Int × Int)) (k : Int → Bool) : Bool := match v, u with
  | .s q e, .i q2 z => gB (aB (kEq q .i64) (kEq q2 .i64)) (smLk B e z k)
  | _, _ => false
noncomputable def smS (B : List (SE × Int × Int)) : Cal := sumN 2 fun _ l h nx k => nthV 0 l fun v => nthV 1 l fun u => smV v u B fun r => k (V.i .i64 r) h nx
theorem fnR_small {B : List (SE × Int × Int)} (hs : ∀ e z r, (e, z, r) ∈ B → ∀ w : World, ngl ≤ w.heap.size → CallR P g ⟨[.int .i64 (e.val σ), .int .i64 z]⟩ w fun x w' => x = .int .i64 r ∧ Stays w w') : FnR P T A σ g (.s (smS B)) := by
  refine .inr (.inl ⟨_, rfl, fun l args ρ h nx w k R hv he Q hQ => ?_⟩)
  obtain ⟨hl, he⟩ := gB_iff.1 (show gB (Nat.beq (lenV l) 2) (nthV 0 l fun v => nthV 1 l fun u => smV v u B fun r => k (V.i .i64 r) h nx) = true from he)
  have hl := beq_iff'.1 hl
  rw [lenV_eq] at hl
  obtain ⟨v, hv0, he1⟩ := nthV_true he
  obtain ⟨u, hv1, he3⟩ := nthV_true he1
  clear he1 he
  unfold smV at he3
  split at he3
  · rename_i q e q2 z
    obtain ⟨hq, he4⟩ := gB_iff.1 he3
    obtain ⟨h1, h2⟩ := aB2 hq
    obtain rfl := kEq_iff.1 h1
    obtain rfl := kEq_iff.1 h2
    obtain ⟨r, hr, hk⟩ := smLk_true he4
    clear he3 he4
    cases hv with
    | nil => simp at hl
    | cons hx ht =>
      cases ht with
      | nil => simp at hl
      | cons hy ht =>
        cases ht with
        | cons _ _ => simp at hl
        | nil =>
          simp at hv0 hv1
          subst hv0
          subst hv1
          cases hx
          cases hy
          refine (hs e z r hr w R.room).mono fun x w' ⟨hx2, hst⟩ => ?_
          subst hx2
          obtain ⟨R', p'⟩ := R.grown hst
          exact hQ ρ _ _ h nx w' R' p' (.i .i64 r) hk
  · exact nope he3
end
end Go.Proofs.YtbolhpgffkdacaaGreatDoor.Ev
set_option linter.unusedVariables false
set_option linter.constructorNameAsVariable false
namespace Go.Proofs.YtbolhpgffkdacaaGreatDoor.Ev
open Go Go.RowKit
section
variable {P : Program} {T : TT} {A : List As} {σ : Nat → Int} {w w' : World} {g : Nat}
/-- A number, a truth, a text. -/
noncomputable def flat1 (v : V) : Bool := match v with
  | .i _ _ => true
  | .b _ => true
  | .str _ _ => true
  | .ns => true
  | .ni => true
  | _ => false
noncomputable def flat1s : List V → Bool
  | [] => true
  | v :: l => flat1 v && flat1s l
/-- Or some of them. -/
noncomputable def flat (v : V) : Bool := match v with
  | .tup l => flat1s l
  | v => flat1 v
theorem flat1_any {σ' : Nat → Int} {ρ ρ' : RM} {v : V} {x : Value} (hf : flat1 v = true) (h : VR σ ρ v x) : VR σ' ρ' v x := by
  cases h <;> first | exact .i _ _ | exact .b _ | exact .str _ | exact .ns | exact .ni | exact nope hf
theorem flat1s_any {σ' : Nat → Int} {ρ ρ' : RM} : ∀ {l : List V} {c : List Value}, flat1s l = true → VRs σ ρ l c → VRs σ' ρ' l c
  | _, _, _, .nil => .nil
  | _, _, hf, .cons h t => by
    obtain ⟨h1, h2⟩ := Bool.and_eq_true_iff.1 hf
    exact .cons (flat1_any h1 h) (flat1s_any h2 t)
theorem flat_any {σ' : Nat → Int} {ρ ρ' : RM} {v : V} {x : Value} (hf : flat v = true) (h : VR σ ρ v x) : VR σ' ρ' v x := by
  cases h with
  | tup h => exact .tup (flat1s_any hf h)
  | i => exact .i _ _
  | b => exact .b _
  | str => exact .str _
  | ns => exact .ns
  | ni => exact .ni
  | _ => exact nope hf
/-- A row: a text, what comes of it. -/
structure TE where
  ln : Nat
  n : Nat
  r : V
/-- It gives that at each text of the table. -/
def TabOf (P : Program) (g : Nat) (B : List TE) : Prop := ∀ e ∈ B, ∀ bs : List UInt8, bs.length = e.ln → pkL bs = e.n → ∀ w : World, ngl ≤ w.heap.size → CallR P g ⟨[.string ⟨⟨bs⟩⟩]⟩ w fun x w' => (∀ σ ρ, VR σ ρ e.r x) ∧ Stays w w'
noncomputable def tabRun (c : CF) (call : Cal) (B : List TE) : Bool := List.rec (motive := fun _ => Bool) true (fun e _ ih => aB (aB (flat e.r) (evF c call [V.str e.ln e.n] eh6 pa0 (fun v _ _ => vEq v e.r))) ih) B
theorem tab_true (hmix : P.follows .mixedOrders = true) (ht : TOk P T) {cf : Nat → CF} (hcf : ∀ g, FnR P T [] (fun _ => 0) g (cf g)) {d : Nat} {c : CF} (hc : FnR P T [] (fun _ => 0) g c) : ∀ {B : List TE}, tabRun c (evC cf d) B = true → TabOf P g B := by
  intro B
  induction B with
  | nil => intro _ e he; cases he
  | cons e B ih =>
    intro hB
    obtain ⟨h1, h2⟩ := aB2 (show aB (aB (flat e.r) (evF c (evC cf d) [V.str e.ln e.n] eh6 pa0 (fun v _ _ => vEq v e.r))) (tabRun c (evC cf d) B) = true from hB)
    obtain ⟨hf, he⟩ := aB2 h1
    intro e' he'
    rcases List.mem_cons.1 he' with rfl | he'
    · intro bs hl hn w hw
      have hA : AsOk (fun _ => 0) [] := fun a ha => by cases ha
      have hdr : ∀ (M : List Nat) (n : Nat) (call : Cal), M.length ≤ 64 → CalOk P (fun _ => 0) call → DrwR P T [] (fun _ => 0) M n call := fun M n call hM hcal => drw_ok hmix ht hA hcal hM n
      rw [← hl, ← hn] at he
      refine fn_ok ht hA hdr (evC_ok ht hA hdr hcf d) hc (ρ := rm0) (rel0 (by decide) hw) (.cons (.str bs) .nil) he fun ρ' v x h' nx' w' R' p' hv hk => ?_
      obtain rfl := vEq_true _ _ hk
      exact ⟨fun σ ρ => flat_any hf hv, p'.os, p'.tape, p'.output, p'.size, fun r hr => p'.keep r hr fun b d hbd => by rw [lkH_e]; rfl⟩
    · exact ih h2 e' he'
/-- What the table says. -/
noncomputable def tabLk (B : List TE) : Nat → Nat → (V → Bool) → Bool := List.rec (motive := fun _ => Nat → Nat → (V → Bool) → Bool) (fun _ _ _ => false) (fun e _ ih ln n k => TE.rec (motive := fun _ => Bool → Bool) (fun l m r t => iB (aB (Nat.beq n m) (Nat.beq ln l)) (k r) t) e (ih ln n k)) B
theorem tabLk_true : ∀ {B : List TE} {ln n : Nat} {k : V → Bool}, tabLk B ln n k = true → ∃ r, ⟨ln, n, r⟩ ∈ B ∧ k r = true := by
  intro B
  induction B with
  | nil => intro ln n k h; exact nope h
  | cons e B ih =>
    intro ln n k h
    obtain ⟨l, m, r⟩ := e
    have h0 : iB (aB (Nat.beq n m) (Nat.beq ln l)) (k r) (tabLk B ln n k) = true := h
    rw [iB_eq] at h0
    split at h0
    · rename_i hb
      obtain ⟨h1, h2⟩ := aB2 hb
      obtain rfl := beq_iff'.1 h1
      obtain rfl := beq_iff'.1 h2
      exact ⟨r, List.mem_cons_self, h0⟩
    · obtain ⟨r2, h1, h2⟩ := ih h0
      exact ⟨r2, List.mem_cons_of_mem _ h1, h2⟩
noncomputable def tabS (B : List TE) : Cal := sumN 1 fun _ l h nx k => nthV 0 l fun v => onStr v fun ln n => tabLk B ln n fun r => k r h nx
theorem fnR_tab {B : List TE} (hs : TabOf P g B) : FnR P T A σ g (.s (tabS B)) := by
  refine .inr (.inl ⟨_, rfl, fun l args ρ h nx w k R hv he Q hQ => ?_⟩)
  obtain ⟨hl, he⟩ := gB_iff.1 (show gB (Nat.beq (lenV l) 1) (nthV 0 l fun v => onStr v fun ln n => tabLk B ln n fun r => k r h nx) = true from he)
  have hl := beq_iff'.1 hl
  rw [lenV_eq] at hl
  obtain ⟨v, hv0, he1⟩ := nthV_true he
  obtain ⟨ln, n, rfl, he2⟩ := onStr_true he1
  obtain ⟨r, hr, hk⟩ := tabLk_true he2
  cases hv with
  | nil => simp at hl
  | cons hx ht =>
    cases ht with
    | cons _ _ => simp at hl
    | nil =>
      simp at hv0
      subst hv0
      cases hx with
      | str bs =>
        refine (hs _ hr bs rfl rfl w R.room).mono fun x w' ⟨hx2, hst⟩ => ?_
        obtain ⟨R', p'⟩ := R.grown hst
        exact hQ ρ _ _ h nx w' R' p' (hx2 σ ρ) hk
/-- A function's table. -/
structure TF where
  g : Nat
  B : List TE
noncomputable def cfTab (tb : List TF) (base : Nat → CF) (g : Nat) : CF := List.rec (motive := fun _ => CF) (base g) (fun x _ ih => TF.rec (motive := fun _ => CF) (fun j B => Bool.rec (motive := fun _ => CF) ih (CF.s (tabS B)) (Nat.beq g j)) x) tb
theorem cfTab_ok {base : Nat → CF} (hb : ∀ g, FnR P T A σ g (base g)) : ∀ {tb : List TF}, (∀ x ∈ tb, TabOf P x.g x.B) → ∀ g, FnR P T A σ g (cfTab tb base g) := by
  intro tb
  induction tb with
  | nil => intro _ g; exact hb g
  | cons x tb ih =>
    intro hs g
    show FnR P T A σ g (Bool.rec (motive := fun _ => CF) (cfTab tb base g) (CF.s (tabS x.B)) (Nat.beq g x.g))
    cases h : Nat.beq g x.g with
    | true =>
      obtain rfl := beq_iff'.1 h
      exact fnR_tab (hs x List.mem_cons_self)
    | false => exact ih (fun y hy => hs y (List.mem_cons_of_mem _ hy)) g
end
end Go.Proofs.YtbolhpgffkdacaaGreatDoor.Ev
set_option linter.unusedVariables false
set_option linter.unusedSimpArgs false
set_option linter.constructorNameAsVariable false
namespace Go.Proofs.YtbolhpgffkdacaaGreatDoor.Ev
open Go Go.RowKit
/-- What a cell of the known heap is. -/
inductive CP where | e (v : V) | p (b : Pa) (o : Nat) | sl (b : Pa) (o l c x : Nat) | m (b : Pa)
noncomputable def CP.v (u : CP) : V := CP.rec (motive := fun _ => V) (fun v => v) (fun b o => V.p b o) (fun b o l c x => V.sl b o l c x) (fun b => V.m b) u
/-- A block of it. -/
inductive KB where | c (a : Pa) (l : List CP) | m (a : Pa) (es : List ME) (clock : Nat)
noncomputable def vsC (l : List CP) : List V := List.rec (motive := fun _ => List V) [] (fun u _ ih => u.v :: ih) l
noncomputable def KB.a (q : KB) : Pa := KB.rec (motive := fun _ => Pa) (fun a _ => a) (fun a _ _ => a) q
noncomputable def KB.ob (q : KB) : Ob := KB.rec (motive := fun _ => Ob) (fun _ l => .ce (lenV (vsC l)) true (toC (vsC l))) (fun _ es c => .mp es c) q
theorem vsC_eq (l : List CP) : vsC l = l.map CP.v := by
  induction l with
  | nil => rfl
  | cons u l ih => show u.v :: vsC l = _; rw [ih]; rfl
/-- A name and the name there. -/
structure MP where
  a : Pa
  b : Pa
noncomputable def isD0 (d : D) : Bool := D.rec (motive := fun _ => Bool) true false false false false false false false d
/-- A low name: one of the known heap. -/
noncomputable def lowP (a : Pa) : Bool := Pa.rec (motive := fun _ => Bool) (fun _ _ _ _ p4 p5 => aB (isD0 p4) (isD0 p5)) a
noncomputable def bindP (suf : List MP) : List MP → Pa → Pa → (List MP → Bool) → Bool := List.rec (motive := fun _ => List MP → Pa → Pa → (List MP → Bool) → Bool) (fun m a b k => gB (lowP a) (k (MP.mk a b :: m))) (fun x _ ih m a b k => MP.rec (motive := fun _ => Pa → Pa → Bool → Bool → Bool) (fun a2 b2 a b y r => iB (paE a a2) (gB (paE b b2) y) (gB (nB (paE b b2)) r)) x a b (k m) (ih m a b k)) suf
noncomputable def lkM (m : List MP) : Pa → (Pa → Bool) → Bool := List.rec (motive := fun _ => Pa → (Pa → Bool) → Bool) (fun _ _ => false) (fun x _ ih a k => MP.rec (motive := fun _ => Pa → (Pa → Bool) → Bool → Bool) (fun a2 b2 a k r => iB (paE a a2) (k b2) r) x a k (ih a k)) m
noncomputable def mtV (u : CP) : V → List MP → (List MP → Bool) → Bool := CP.rec (motive := fun _ => V → List MP → (List MP → Bool) → Bool) (fun u v m k => gB (vEq u v) (k m)) (fun b o v m k => onP v fun b2 o2 => gB (Nat.beq o o2) (bindP m m b b2 k)) (fun b o l c x v m k => onSl v fun b2 o2 l2 c2 x2 => gB (aB (Nat.beq o o2) (aB (Nat.beq l l2) (aB (Nat.beq c c2) (Nat.beq x x2)))) (bindP m m b b2 k)) (fun b v m k => onM v fun b2 => bindP m m b b2 k) u
noncomputable def mtL (l : List CP) : List V → List MP → (List MP → Bool) → Bool := List.rec (motive := fun _ => List V → List MP → (List MP → Bool) → Bool) (fun l2 m k => List.rec (motive := fun _ => Bool) (k m) (fun _ _ _ => false) l2) (fun u _ ih l2 m k => List.rec (motive := fun _ => Bool) false (fun v t _ => mtV u v m fun m => ih t m k) l2) l
noncomputable def meE (es : List ME) : List ME → Bool := List.rec (motive := fun _ => List ME → Bool) (fun l => List.rec (motive := fun _ => Bool) true (fun _ _ _ => false) l) (fun x _ ih l => List.rec (motive := fun _ => Bool) false (fun y t _ => ME.rec (motive := fun _ => Bool) (fun a b n => ME.rec (motive := fun _ => Bool) (fun a2 b2 n2 => aB (vEq a a2) (aB (vEq b b2) (aB (Nat.beq n n2) (ih t)))) y) x) l) es
noncomputable def mtK (q : KB) : List MP → H6 → (List MP → Bool) → Bool := KB.rec (motive := fun _ => List MP → H6 → (List MP → Bool) → Bool) (fun a l m h k => lkM m a fun b => getH b h fun ob => onCe ob fun n _ c => gB (Nat.ble (lenV (vsC l)) n) (rdL (lenV (vsC l)) c 0 fun l2 => mtL l l2 m k)) (fun a es c m h k => lkM m a fun b => getH b h fun ob => onMp ob fun es2 c2 => gB (aB (Nat.beq c c2) (meE es es2)) (k m)) q
noncomputable def mtR (K : List KB) : List MP → H6 → (List MP → Bool) → Bool := List.rec (motive := fun _ => List MP → H6 → (List MP → Bool) → Bool) (fun m _ k => k m) (fun q _ ih m h k => mtK q m h fun m => ih m h k) K
/-- What is asked of the known heap. -/
noncomputable def CP.ok (u : CP) : Bool := CP.rec (motive := fun _ => Bool) (fun v => flat1 v) (fun _ _ => true) (fun _ _ _ _ _ => true) (fun _ => true) u
noncomputable def okCs (l : List CP) : Bool := List.rec (motive := fun _ => Bool) true (fun u _ ih => aB u.ok ih) l
noncomputable def okEs (l : List ME) : Bool := List.rec (motive := fun _ => Bool) true (fun x _ ih => ME.rec (motive := fun _ => Bool → Bool) (fun a b _ r => aB (flat1 a) (aB (flat1 b) r)) x ih) l
noncomputable def KB.ok (q : KB) : Bool := KB.rec (motive := fun _ => Bool) (fun a l => aB (lowP a) (aB (Nat.ble (lenV (vsC l)) 512) (okCs l))) (fun a es _ => aB (lowP a) (okEs es)) q
noncomputable def okK (K : List KB) : Bool := List.rec (motive := fun _ => Bool) true (fun q _ ih => aB q.ok ih) K
/-- The known heap. -/
noncomputable def hpK (K : List KB) : H6 := List.rec (motive := fun _ => H6) eh6 (fun q _ ih => upH q.a ih q.ob) K
def nxK : Pa := ⟨.d0, .d0, .d0, .d0, .d1, .d0⟩
theorem hpK_lk : ∀ (K : List KB) (b : Pa), (lkH b (hpK K) = .no) ∨ ∃ q ∈ K, b = q.a ∧ lkH b (hpK K) = q.ob := by
  intro K
  induction K with
  | nil => intro b; exact .inl (lkH_e b)
  | cons q K ih =>
    intro b
    show lkH b (upH q.a (hpK K) q.ob) = .no ∨ _
    by_cases e : b = q.a
    · subst e
      exact .inr ⟨q, List.mem_cons_self, rfl, lkH_same _ _ _⟩
    · rw [lkH_other e]
      rcases ih b with h | ⟨q2, h1, h2, h3⟩
      · exact .inl h
      · refine .inr ⟨q2, List.mem_cons_of_mem _ h1, h2, ?_⟩
        show lkH b (upH q.a (hpK K) q.ob) = _
        rw [lkH_other e]; exact h3
theorem lowP_num {a : Pa} (h : lowP a = true) : num a < num nxK := by
  obtain ⟨p0, p1, p2, p3, p4, p5⟩ := a
  obtain ⟨h4, h5⟩ := aB2 (show aB (isD0 p4) (isD0 p5) = true from h)
  cases p4 <;> first | exact nope h4 | skip
  cases p5 <;> first | exact nope h5 | skip
  have h0 := dn_lt p0
  have h1 := dn_lt p1
  have h2 := dn_lt p2
  have h3 := dn_lt p3
  show dn p0 + 8 * (dn p1 + 8 * (dn p2 + 8 * (dn p3 + 8 * (0 + 8 * 0)))) < 0 + 8 * (0 + 8 * (0 + 8 * (0 + 8 * (1 + 8 * 0))))
  omega
/-- Where a name goes. -/
def lkm (m : List MP) (a : Pa) : Option Pa := match m with
  | [] => none
  | x :: t => if num a = num x.a then some x.b else lkm t a
def MExt (m m' : List MP) : Prop := ∀ a b, lkm m a = some b → lkm m' a = some b
structure MOk (m : List MP) : Prop where
  inj : ∀ a a' b, lkm m a = some b → lkm m a' = some b → a = a'
  low : ∀ a b, lkm m a = some b → lowP a = true
theorem lkm_mem : ∀ {m : List MP} {a b : Pa}, lkm m a = some b → ∃ x ∈ m, x.a = a ∧ x.b = b := by
  intro m
  induction m with
  | nil => intro a b h; cases h
  | cons x t ih =>
    intro a b h
    unfold lkm at h
    split at h
    · rename_i e
      cases h
      exact ⟨x, List.mem_cons_self, (num_inj e).symm, rfl⟩
    · obtain ⟨y, h1, h2⟩ := ih h
      exact ⟨y, List.mem_cons_of_mem _ h1, h2⟩
theorem lkm_none : ∀ {m : List MP} {a : Pa}, (∀ x ∈ m, x.a ≠ a) → lkm m a = none := by
  intro m
  induction m with
  | nil => intro a _; rfl
  | cons x t ih =>
    intro a h
    unfold lkm
    rw [if_neg fun e => h x List.mem_cons_self (num_inj e).symm]
    exact ih fun y hy => h y (List.mem_cons_of_mem _ hy)
theorem paE_iff {a b : Pa} : paE a b = true ↔ a = b := by
  constructor
  · exact paE_true
  · rintro rfl
    obtain ⟨p0, p1, p2, p3, p4, p5⟩ := a
    have dd : ∀ d : D, dE d d = true := fun d => by cases d <;> rfl
    show aB (dE p0 p0) (aB (dE p1 p1) (aB (dE p2 p2) (aB (dE p3 p3) (aB (dE p4 p4) (dE p5 p5))))) = true
    simp only [dd, aB_eq, Bool.and_self]
theorem bindP_suf : ∀ {suf m : List MP} {a b : Pa} {k : List MP → Bool}, bindP suf m a b k = true → (lkm suf a = some b ∧ k m = true) ∨ ((∀ x ∈ suf, x.a ≠ a ∧ x.b ≠ b) ∧ lowP a = true ∧ k (⟨a, b⟩ :: m) = true) := by
  intro suf
  induction suf with
  | nil =>
    intro m a b k h
    obtain ⟨h1, h2⟩ := gB_iff.1 (show gB (lowP a) (k (⟨a, b⟩ :: m)) = true from h)
    exact .inr ⟨fun x hx => (by cases hx), h1, h2⟩
  | cons x suf ih =>
    intro m a b k h
    have h0 : iB (paE a x.a) (gB (paE b x.b) (k m)) (gB (nB (paE b x.b)) (bindP suf m a b k)) = true := h
    clear h
    rw [iB_eq] at h0
    split at h0
    · rename_i e
      obtain rfl := paE_true e
      obtain ⟨h1, h2⟩ := gB_iff.1 h0
      obtain rfl := paE_true h1
      exact .inl ⟨by unfold lkm; rw [if_pos rfl], h2⟩
    · rename_i e
      obtain ⟨h1, h2⟩ := gB_iff.1 h0
      have hb : x.b ≠ b := fun e2 => by
        rw [nB_eq, Bool.not_eq_true'] at h1
        rw [paE_iff.2 e2.symm] at h1
        cases h1
      have ha : x.a ≠ a := fun e2 => e (paE_iff.2 e2.symm)
      rcases ih h2 with ⟨h3, h4⟩ | ⟨h3, h4⟩
      · refine .inl ⟨?_, h4⟩
        unfold lkm
        rw [if_neg fun e2 => ha (num_inj e2).symm]
        exact h3
      · refine .inr ⟨fun y hy => ?_, h4⟩
        rcases List.mem_cons.1 hy with rfl | hy
        · exact ⟨ha, hb⟩
        · exact h3 y hy
theorem bindP_true {m : List MP} {a b : Pa} {k : List MP → Bool} (h : bindP m m a b k = true) (hm : MOk m) : ∃ m', MExt m m' ∧ MOk m' ∧ lkm m' a = some b ∧ k m' = true := by
  rcases bindP_suf h with ⟨h1, h2⟩ | ⟨h1, h2, h3⟩
  · exact ⟨m, fun _ _ h => h, hm, h1, h2⟩
  · have hn := lkm_none fun x hx => (h1 x hx).1
    have hc : ∀ c, c ≠ a → lkm (⟨a, b⟩ :: m) c = lkm m c := fun c hc => by
      show (if num c = num a then some b else lkm m c) = _
      rw [if_neg fun e => hc (num_inj e)]
    have hs : lkm (⟨a, b⟩ :: m) a = some b := by
      show (if num a = num a then some b else lkm m a) = _
      rw [if_pos rfl]
    refine ⟨⟨a, b⟩ :: m, fun c d hcd => ?_, ⟨fun c c' d h4 h5 => ?_, fun c d h4 => ?_⟩, hs, h3⟩
    · rw [hc c fun e => by rw [e, hn] at hcd; cases hcd]
      exact hcd
    · by_cases e1 : c = a
      · by_cases e2 : c' = a
        · rw [e1, e2]
        · rw [hc c' e2] at h5
          rw [e1, hs] at h4
          cases h4
          obtain ⟨x, hx, _, hxb⟩ := lkm_mem h5
          exact absurd hxb (h1 x hx).2
      · by_cases e2 : c' = a
        · rw [hc c e1] at h4
          rw [e2, hs] at h5
          cases h5
          obtain ⟨x, hx, _, hxb⟩ := lkm_mem h4
          exact absurd hxb (h1 x hx).2
        · rw [hc c e1] at h4
          rw [hc c' e2] at h5
          exact hm.inj c c' d h4 h5
    · by_cases e1 : c = a
      · rw [e1]; exact h2
      · rw [hc c e1] at h4
        exact hm.low c d h4
theorem lkM_true : ∀ {m : List MP} {a : Pa} {k : Pa → Bool}, lkM m a k = true → ∃ b, lkm m a = some b ∧ k b = true := by
  intro m
  induction m with
  | nil => intro a k h; exact nope h
  | cons x t ih =>
    intro a k h
    have h0 : iB (paE a x.a) (k x.b) (lkM t a k) = true := h
    clear h
    rw [iB_eq] at h0
    split at h0
    · rename_i e
      obtain rfl := paE_true e
      exact ⟨x.b, by unfold lkm; rw [if_pos rfl], h0⟩
    · rename_i e
      obtain ⟨b, h1, h2⟩ := ih h0
      refine ⟨b, ?_, h2⟩
      unfold lkm
      rw [if_neg fun e2 => e (paE_iff.2 (num_inj e2))]
      exact h1
/-- What the names stand for. -/
def embR (ρ : RM) (m : List MP) : RM := ⟨fun a => (lkm m a).bind ρ.m, ρ.z⟩
theorem embR_some {ρ : RM} {m : List MP} {a b : Pa} {x : Nat × Nat} (h : lkm m a = some b) (hb : ρ b = some x) : embR ρ m a = some x := by
  show (lkm m a).bind ρ.m = _
  rw [h]; exact hb
theorem embR_inv {ρ : RM} {m : List MP} {a : Pa} {x : Nat × Nat} (h : embR ρ m a = some x) : ∃ b, lkm m a = some b ∧ ρ b = some x := by
  have h : (lkm m a).bind ρ.m = some x := h
  cases hb : lkm m a with
  | none => rw [hb] at h; cases h
  | some b => rw [hb] at h; exact ⟨b, rfl, h⟩
section
variable {σ σ' : Nat → Int} {ρ : RM} {h : H6} {nx : Pa} {w : World}
theorem mtV_true {u : CP} {v : V} {m : List MP} {k : List MP → Bool} (he : mtV u v m k = true) (hu : u.ok = true) (hm : MOk m) : ∃ m', MExt m m' ∧ MOk m' ∧ k m' = true ∧ ∀ mf, MExt m' mf → ∀ (σ σ' : Nat → Int) (ρ : RM) x, VR σ ρ v x → VR σ' (embR ρ mf) u.v x := by
  cases u with
  | e u =>
    obtain ⟨h1, h2⟩ := gB_iff.1 (show gB (vEq u v) (k m) = true from he)
    obtain rfl := vEq_true _ _ h1
    exact ⟨m, fun _ _ h => h, hm, h2, fun mf _ σ σ' ρ x hx => flat1_any hu hx⟩
  | p b o =>
    obtain ⟨b2, o2, rfl, h1⟩ := onP_true (show onP v (fun b2 o2 => gB (Nat.beq o o2) (bindP m m b b2 k)) = true from he)
    obtain ⟨h2, h3⟩ := gB_iff.1 h1
    obtain rfl := beq_iff'.1 h2
    obtain ⟨m', h4, h5, h6, h7⟩ := bindP_true h3 hm
    refine ⟨m', h4, h5, h7, fun mf hf σ σ' ρ x hx => ?_⟩
    cases hx with
    | p hr => exact .p (embR_some (hf _ _ h6) hr)
  | sl b o l c x =>
    obtain ⟨b2, o2, l2, c2, x2, rfl, h1⟩ := onSl_true (show onSl v (fun b2 o2 l2 c2 x2 => gB (aB (Nat.beq o o2) (aB (Nat.beq l l2) (aB (Nat.beq c c2) (Nat.beq x x2)))) (bindP m m b b2 k)) = true from he)
    obtain ⟨h2, h3⟩ := gB_iff.1 h1
    obtain ⟨g1, g2⟩ := aB2 h2
    obtain ⟨g3, g4⟩ := aB2 g2
    obtain ⟨g5, g6⟩ := aB2 g4
    obtain rfl := beq_iff'.1 g1
    obtain rfl := beq_iff'.1 g3
    obtain rfl := beq_iff'.1 g5
    obtain rfl := beq_iff'.1 g6
    obtain ⟨m', h4, h5, h6, h7⟩ := bindP_true h3 hm
    refine ⟨m', h4, h5, h7, fun mf hf σ σ' ρ y hx => ?_⟩
    cases hx with
    | sl hr a1 a2 a3 a4 a5 => exact .sl (embR_some (hf _ _ h6) hr) a1 a2 a3 a4 a5
  | m b =>
    obtain ⟨b2, rfl, h1⟩ := onM_true (show onM v (fun b2 => bindP m m b b2 k) = true from he)
    obtain ⟨m', h4, h5, h6, h7⟩ := bindP_true h1 hm
    refine ⟨m', h4, h5, h7, fun mf hf σ σ' ρ x hx => ?_⟩
    cases hx with
    | m hr => exact .m (embR_some (hf _ _ h6) hr)
theorem MExt.trans {a b c : List MP} (h : MExt a b) (h' : MExt b c) : MExt a c := fun x y hx => h' x y (h x y hx)
theorem mtL_true : ∀ {l : List CP} {l2 : List V} {m : List MP} {k : List MP → Bool}, mtL l l2 m k = true → okCs l = true → MOk m → ∃ m', MExt m m' ∧ MOk m' ∧ k m' = true ∧ l2.length = l.length ∧ ∀ mf, MExt m' mf → ∀ (i : Nat) (hi : i < l.length) v, l2[i]? = some v → ∀ (σ σ' : Nat → Int) (ρ : RM) x, VR σ ρ v x → VR σ' (embR ρ mf) l[i].v x := by
  intro l
  induction l with
  | nil =>
    intro l2 m k he _ hm
    cases l2 with
    | nil => exact ⟨m, fun _ _ h => h, hm, he, rfl, fun mf _ i hi => absurd hi (Nat.not_lt_zero i)⟩
    | cons _ _ => exact nope he
  | cons u l ih =>
    intro l2 m k he hu hm
    obtain ⟨hu1, hu2⟩ := aB2 (show aB u.ok (okCs l) = true from hu)
    cases l2 with
    | nil => exact nope he
    | cons v t =>
      obtain ⟨m1, g1, g2, g3, g4⟩ := mtV_true (show mtV u v m (fun m => mtL l t m k) = true from he) hu1 hm
      obtain ⟨m2, f1, f2, f3, f4, f5⟩ := ih g3 hu2 g2
      refine ⟨m2, g1.trans f1, f2, f3, by simp [f4], fun mf hf i hi v2 hv2 σ σ' ρ x hx => ?_⟩
      cases i with
      | zero =>
        simp at hv2
        subst hv2
        exact g4 mf (f1.trans hf) σ σ' ρ x hx
      | succ i => exact f5 mf hf i (by simpa using hi) v2 (by simpa using hv2) σ σ' ρ x hx
theorem meE_true : ∀ {es l : List ME}, meE es l = true → es = l := by
  intro es
  induction es with
  | nil =>
    intro l h
    cases l with
    | nil => rfl
    | cons _ _ => exact nope h
  | cons x es ih =>
    intro l h
    cases l with
    | nil => exact nope h
    | cons y t =>
      obtain ⟨a, b, n⟩ := x
      obtain ⟨a2, b2, n2⟩ := y
      obtain ⟨h1, h2⟩ := aB2 (show aB (vEq a a2) (aB (vEq b b2) (aB (Nat.beq n n2) (meE es t))) = true from h)
      obtain ⟨h3, h4⟩ := aB2 h2
      obtain ⟨h5, h6⟩ := aB2 h4
      rw [vEq_true _ _ h1, vEq_true _ _ h3, beq_iff'.1 h5, ih h6]
theorem MRs_flat {ρ' : RM} {es : List ME} {c : List MapEntry} (h0 : okEs es = true) (h : MRs σ ρ es c) : MRs σ' ρ' es c := by
  induction h with
  | nil => exact .nil
  | @cons k v n x y l c hk hv t ih =>
    obtain ⟨h1, h2⟩ := aB2 (show aB (flat1 k) (aB (flat1 v) (okEs l)) = true from h0)
    obtain ⟨h3, h4⟩ := aB2 h2
    exact .cons (flat1_any h1 hk) (flat1_any h3 hv) (ih h4)
theorem mtK_true {q : KB} {m : List MP} {k : List MP → Bool} (he : mtK q m h k = true) (hq : q.ok = true) (hm : MOk m) : ∃ m' b, MExt m m' ∧ MOk m' ∧ k m' = true ∧ lkm m' q.a = some b ∧ (lkH b h).live = true ∧ ∀ mf, MExt m' mf → ∀ (σ σ' : Nat → Int) (ρ : RM) (w : World) r d, ObR σ ρ w r d (lkH b h) → ObR σ' (embR ρ mf) w r d q.ob := by
  cases q with
  | c a l =>
    obtain ⟨b, h1, h2⟩ := lkM_true (show lkM m a (fun b => getH b h fun ob => onCe ob fun n _ c => gB (Nat.ble (lenV (vsC l)) n) (rdL (lenV (vsC l)) c 0 fun l2 => mtL l l2 m k)) = true from he)
    rw [getH_eq] at h2
    obtain ⟨n, ro, c, hob, h3⟩ := onCe_true h2
    obtain ⟨h4, h5⟩ := gB_iff.1 h3
    have h6 := rdL_true _ h5
    obtain ⟨_, hq1⟩ := aB2 (show aB (lowP a) (aB (Nat.ble (lenV (vsC l)) 512) (okCs l)) = true from hq)
    obtain ⟨hq2, hq3⟩ := aB2 hq1
    obtain ⟨m', g1, g2, g3, g4, g5⟩ := mtL_true h6 hq3 hm
    refine ⟨m', b, g1, g2, g3, g1 _ _ h1, by rw [hob]; rfl, fun mf hf σ σ' ρ w r d ho => ?_⟩
    rw [hob] at ho
    have hle := ble_iff.1 h4
    have hlen : lenV (vsC l) = l.length := by rw [lenV_eq, vsC_eq, List.length_map]
    cases ho with
    | ce e1 e2 e3 e4 =>
      refine .ce e1 (.inl rfl) e3 fun i hi => ?_
      obtain ⟨x, f1, f2, f3⟩ := e4 i (Nat.lt_of_lt_of_le hi hle)
      refine ⟨x, f1, f2, ?_⟩
      have hi2 : i < l.length := by rw [← hlen]; exact hi
      rw [toC_lk _ (by rw [← lenV_eq]; exact ble_iff.1 hq2) i (by rw [← lenV_eq]; exact hi), vsC_eq, List.getD_eq_getElem?_getD, List.getElem?_map, List.getElem?_eq_getElem hi2]
      refine g5 mf hf i hi2 (lkC c i) ?_ σ σ' ρ x f3
      rw [List.getElem?_map, List.getElem?_range hi]
      simp
  | m a es cl =>
    obtain ⟨b, h1, h2⟩ := lkM_true (show lkM m a (fun b => getH b h fun ob => onMp ob fun es2 c2 => gB (aB (Nat.beq cl c2) (meE es es2)) (k m)) = true from he)
    rw [getH_eq] at h2
    obtain ⟨es2, c2, hob, h3⟩ := onMp_true h2
    obtain ⟨h4, h5⟩ := gB_iff.1 h3
    obtain ⟨h6, h7⟩ := aB2 h4
    obtain rfl := beq_iff'.1 h6
    obtain rfl := meE_true h7
    obtain ⟨_, hq1⟩ := aB2 (show aB (lowP a) (okEs es) = true from hq)
    refine ⟨m, b, fun _ _ h => h, hm, h5, h1, by rw [hob]; rfl, fun mf hf σ σ' ρ w r d ho => ?_⟩
    rw [hob] at ho
    cases ho with
    | mp e1 e2 e3 => exact .mp e1 e2 (MRs_flat hq1 e3)
theorem mtR_true : ∀ {K : List KB} {m : List MP} {k : List MP → Bool}, mtR K m h k = true → okK K = true → MOk m → ∃ m', MExt m m' ∧ MOk m' ∧ k m' = true ∧ ∀ q ∈ K, ∃ b, lkm m' q.a = some b ∧ (lkH b h).live = true ∧ ∀ mf, MExt m' mf → ∀ (σ σ' : Nat → Int) (ρ : RM) (w : World) r d, ObR σ ρ w r d (lkH b h) → ObR σ' (embR ρ mf) w r d q.ob := by
  intro K
  induction K with
  | nil => intro m k he _ hm; exact ⟨m, fun _ _ h => h, hm, he, fun q hq => (by cases hq)⟩
  | cons q K ih =>
    intro m k he hK hm
    obtain ⟨h1, h2⟩ := aB2 (show aB q.ok (okK K) = true from hK)
    obtain ⟨m1, b, g1, g2, g3, g4, g5, g6⟩ := mtK_true (show mtK q m h (fun m => mtR K m h k) = true from he) h1 hm
    obtain ⟨m2, f1, f2, f3, f4⟩ := ih g3 h2 g2
    refine ⟨m2, g1.trans f1, f2, f3, fun q2 hq2 => ?_⟩
    rcases List.mem_cons.1 hq2 with rfl | hq2
    · exact ⟨b, f1 _ _ g4, g5, fun mf hf => g6 mf (f1.trans hf)⟩
    · exact f4 q2 hq2
/-- The package variables' names stay. -/
noncomputable def mp0 : List MP := [⟨gnm 0, gnm 0⟩, ⟨gnm 1, gnm 1⟩, ⟨gnm 2, gnm 2⟩, ⟨gnm 3, gnm 3⟩]
theorem mp0_lk {g : Nat} (hg : g < ngl) : lkm mp0 (gnm g) = some (gnm g) := by
  have : g < 4 := hg
  match g, this with
  | 0, _ => rfl
  | 1, _ => rfl
  | 2, _ => rfl
  | 3, _ => rfl
theorem mp0_ok : MOk mp0 := by
  refine ⟨fun a a' b h h' => ?_, fun a b h => ?_⟩
  · obtain ⟨x, hx, rfl, rfl⟩ := lkm_mem h
    obtain ⟨y, hy, rfl, e⟩ := lkm_mem h'
    simp only [mp0, List.mem_cons, List.not_mem_nil, or_false] at hx hy
    rcases hx with rfl | rfl | rfl | rfl <;> rcases hy with rfl | rfl | rfl | rfl <;> first | rfl | exact absurd (congrArg num e) (by decide)
  · obtain ⟨x, hx, rfl, rfl⟩ := lkm_mem h
    simp only [mp0, List.mem_cons, List.not_mem_nil, or_false] at hx
    rcases hx with rfl | rfl | rfl | rfl <;> rfl
/-- The known heap is in the world. -/
theorem emb_rel {K : List KB} (hK : okK K = true) (R : Rel σ ρ h nx w) {m : List MP} {k : List MP → Bool} (he : mtR K m h k = true) (hm : MOk m) (hm0 : MExt mp0 m) : ∃ mf, MExt m mf ∧ k mf = true ∧ Rel σ' (embR ρ mf) (hpK K) nxK w := by
  obtain ⟨mf, h1, h2, h3, h4⟩ := mtR_true he hK hm
  refine ⟨mf, h1, h3, fun b x hb => ?_, fun b r d hb => ?_, fun b r d hb => ?_, fun b c r d e hb hc hl1 hl2 => ?_, fun b hb => ?_, fun g hg => ?_⟩
  · obtain ⟨b', hb1, _⟩ := embR_inv hb
    exact lowP_num (h2.low _ _ hb1)
  · obtain ⟨b', _, hb2⟩ := embR_inv hb
    exact R.low _ _ _ hb2
  · obtain ⟨b', hb1, hb2⟩ := embR_inv hb
    rcases hpK_lk K b with e | ⟨q, hq, rfl, e⟩
    · rw [e]; exact .no
    · obtain ⟨b2, g1, _, g2⟩ := h4 q hq
      rw [g1] at hb1
      cases hb1
      rw [e]
      exact g2 mf (fun _ _ h => h) σ σ' ρ w r d (R.obs _ _ _ hb2)
  · obtain ⟨b', hb1, hb2⟩ := embR_inv hb
    obtain ⟨c', hc1, hc2⟩ := embR_inv hc
    rcases hpK_lk K b with e1 | ⟨q, hq, rfl, e1⟩
    · rw [e1] at hl1; exact nope hl1
    · rcases hpK_lk K c with e2 | ⟨q2, hq2, rfl, e2⟩
      · rw [e2] at hl2; exact nope hl2
      · obtain ⟨b2, g1, g2, _⟩ := h4 q hq
        obtain ⟨c2, f1, f2, _⟩ := h4 q2 hq2
        rw [g1] at hb1
        cases hb1
        rw [f1] at hc1
        cases hc1
        obtain rfl := R.inj _ _ _ _ _ hb2 hc2 g2 f2
        exact h2.inj _ _ _ g1 f1
  · rcases hpK_lk K b with e1 | ⟨q, hq, rfl, e1⟩
    · exact e1
    · exfalso
      have : lowP q.a = true := by
        obtain ⟨b2, g1, _, _⟩ := h4 q hq
        exact h2.low _ _ g1
      have := lowP_num this
      omega
  · exact embR_some (h1 _ _ (hm0 _ _ (mp0_lk hg))) (R.glo g hg)
end
end Go.Proofs.YtbolhpgffkdacaaGreatDoor.Ev
set_option linter.unusedVariables false
set_option linter.unusedSimpArgs false
set_option linter.constructorNameAsVariable false
namespace Go.Proofs.YtbolhpgffkdacaaGreatDoor.Ev
open Go Go.RowKit
section
variable {σ σ' : Nat → Int} {ρ ρ' : RM} {h : H6} {nx : Pa} {w w' : World} {P : Program} {T : TT} {A : List As} {g : Nat}
theorem str_one {l n : Nat} {x y : Value} (h1 : VR σ ρ (.str l n) x) (h2 : VR σ' ρ' (.str l n) y) : x = y := by
  generalize hv : V.str l n = v at h1
  cases h1 with
  | str a =>
    generalize hu : V.str l n = u at h2
    cases h2 with
    | str b =>
      cases hv
      have hl : a.length = b.length := by injection hu
      have hp : pkL a = pkL b := by injection hu
      rw [pkL_inj hl hp]
    | _ => cases hu
  | _ => cases hv
theorem flat1_one {v : V} {x y : Value} (hf : flat1 v = true) (h1 : VR σ ρ v x) (h2 : VR σ' ρ' v y) : x = y := by
  cases v <;> first | exact nope hf | exact str_one h1 h2 | (cases h1; cases h2; rfl)
theorem MRs_one {es : List ME} {c : List MapEntry} (h0 : okEs es = true) (h1 : MRs σ ρ es c) : ∀ {c' : List MapEntry}, MRs σ' ρ' es c' → c = c' := by
  induction h1 with
  | nil => intro c' h2; cases h2; rfl
  | @cons k v n x y l c hk hv t ih =>
    intro c' h2
    obtain ⟨h3, h4⟩ := aB2 (show aB (flat1 k) (aB (flat1 v) (okEs l)) = true from h0)
    obtain ⟨h5, h6⟩ := aB2 h4
    cases h2 with
    | cons hk2 hv2 t2 => rw [flat1_one h3 hk hk2, flat1_one h5 hv hv2, ih h6 t2]
/-- The known heap, laid step by step. -/
noncomputable def onK (K : List KB) (k : H6 → Bool) : Bool := List.rec (motive := fun _ => (H6 → Bool) → Bool) (fun k => k eh6) (fun q _ ih k => ih fun h => setH q.a h q.ob k) K k
theorem onK_eq (K : List KB) : ∀ k : H6 → Bool, onK K k = k (hpK K) := by
  induction K with
  | nil => intro k; rfl
  | cons q K ih =>
    intro k
    show onK K (fun h => setH q.a h q.ob k) = _
    rw [ih, setH_eq]
    rfl
/-- Its maps are as they were. -/
noncomputable def mapsEq (K : List KB) (h : H6) : Bool := List.rec (motive := fun _ => Bool) true (fun q _ ih => KB.rec (motive := fun _ => Bool → Bool) (fun _ _ r => r) (fun a es c r => getH a h fun ob => onMp ob fun es2 c2 => gB (aB (Nat.beq c c2) (meE es es2)) r) q ih) K
theorem mapsEq_true {h : H6} : ∀ {K : List KB}, mapsEq K h = true → ∀ a es c, KB.m a es c ∈ K → lkH a h = .mp es c := by
  intro K
  induction K with
  | nil => intro _ a es c hm; cases hm
  | cons q K ih =>
    intro he a es c hm
    cases q with
    | c a2 l =>
      rcases List.mem_cons.1 hm with e | hm
      · cases e
      · exact ih (show mapsEq K h = true from he) a es c hm
    | m a2 es2 c2 =>
      have he : getH a2 h (fun ob => onMp ob fun es3 c3 => gB (aB (Nat.beq c2 c3) (meE es2 es3)) (mapsEq K h)) = true := he
      rw [getH_eq] at he
      obtain ⟨es3, c3, hob, h1⟩ := onMp_true he
      obtain ⟨h2, h3⟩ := gB_iff.1 h1
      obtain ⟨h4, h5⟩ := aB2 h2
      obtain rfl := beq_iff'.1 h4
      obtain rfl := meE_true h5
      rcases List.mem_cons.1 hm with e | hm
      · cases e; exact hob
      · exact ih h3 a es c hm
theorem okK_mem : ∀ {K : List KB}, okK K = true → ∀ q ∈ K, q.ok = true := by
  intro K
  induction K with
  | nil => intro _ q h; cases h
  | cons x K ih =>
    intro h q hq
    obtain ⟨h1, h2⟩ := aB2 (show aB x.ok (okK K) = true from h)
    rcases List.mem_cons.1 hq with rfl | hq
    · exact h1
    · exact ih h2 q hq
/-- Nothing of the world is turned by a run that leaves the maps. -/
theorem stays_K {K : List KB} (hK : okK K = true) (R : Rel σ ρ (hpK K) nxK w) {h' : H6} {nx' : Pa} (R' : Rel σ' ρ' h' nx' w') (p : Post ρ (hpK K) nxK w ρ' h' nx' w') (hm : mapsEq K h' = true) : Stays w w' := by
  refine ⟨p.os, p.tape, p.output, p.size, fun r hr => ?_⟩
  by_cases hall : ∀ b d, ρ b = some (r, d) → (lkH b (hpK K)).wr = false
  · exact p.keep r hr hall
  · have : ∃ b d, ρ b = some (r, d) ∧ (lkH b (hpK K)).wr = true := by
      apply Classical.byContradiction
      intro hn
      exact hall fun b d hb => by
        cases hwr : (lkH b (hpK K)).wr with
        | false => rfl
        | true => exact absurd ⟨b, d, hb, hwr⟩ hn
    obtain ⟨b, d, hb, hwr⟩ := this
    rcases hpK_lk K b with e | ⟨q, hq, rfl, e⟩
    · rw [e] at hwr; exact nope hwr
    · cases q with
      | c a l => rw [e] at hwr; exact nope hwr
      | m a es c =>
        have ho := R.obs _ _ _ hb
        rw [e] at ho
        have ho2 : ObR σ' ρ' w' r d (lkH a h') := R'.obs _ _ _ (p.ext _ _ hb).1
        rw [mapsEq_true hm a es c hq] at ho2
        obtain ⟨_, hok⟩ := aB2 (show aB (lowP a) (okEs es) = true from okK_mem hK _ hq)
        have ho : ObR σ ρ w r d (.mp es c) := ho
        cases ho with
        | mp e1 e2 e3 =>
          cases ho2 with
          | mp f1 f2 f3 => rw [e2, f2, MRs_one hok e3 f3]
/-- A text, and what comes of it with others. -/
structure TE2 where
  ln : Nat
  n : Nat
  B : List TE
/-- It gives that wherever the known heap is. -/
def MemoOf (P : Program) (g : Nat) (K : List KB) (root : Pa) (B : List TE2) : Prop := ∀ x ∈ B, ∀ e ∈ x.B, ∀ bs cs : List UInt8, bs.length = x.ln → pkL bs = x.n → cs.length = e.ln → pkL cs = e.n → ∀ (ρ : RM) (w : World) (r d : Nat), Rel (fun _ => 0) ρ (hpK K) nxK w → ρ root = some (r, d) → CallR P g ⟨[.pointer (some ⟨r, d + 0, none⟩), .string ⟨⟨bs⟩⟩, .string ⟨⟨cs⟩⟩]⟩ w fun x w' => (∀ σ ρ, VR σ ρ e.r x) ∧ Stays w w'
noncomputable def memoR1 (c : CF) (call : Cal) (K : List KB) (root : Pa) (ln n : Nat) (B : List TE) : Bool := List.rec (motive := fun _ => Bool) true (fun e _ ih => aB (aB (flat e.r) (onK K fun h => evF c call [V.p root 0, V.str ln n, V.str e.ln e.n] h nxK (fun v h' _ => aB (vEq v e.r) (mapsEq K h')))) ih) B
noncomputable def memoRun (c : CF) (call : Cal) (K : List KB) (root : Pa) (B : List TE2) : Bool := List.rec (motive := fun _ => Bool) true (fun x _ ih => aB (memoR1 c call K root x.ln x.n x.B) ih) B
theorem memoR1_mem {c : CF} {call : Cal} {K : List KB} {root : Pa} {ln n : Nat} : ∀ {B : List TE}, memoR1 c call K root ln n B = true → ∀ e ∈ B, flat e.r = true ∧ evF c call [V.p root 0, V.str ln n, V.str e.ln e.n] (hpK K) nxK (fun v h' _ => aB (vEq v e.r) (mapsEq K h')) = true := by
  intro B
  induction B with
  | nil => intro _ e h; cases h
  | cons x B ih =>
    intro h e he
    obtain ⟨h1, h2⟩ := aB2 (show aB (aB (flat x.r) (onK K fun h => evF c call [V.p root 0, V.str ln n, V.str x.ln x.n] h nxK (fun v h' _ => aB (vEq v x.r) (mapsEq K h')))) (memoR1 c call K root ln n B) = true from h)
    obtain ⟨h3, h4⟩ := aB2 h1
    rw [onK_eq] at h4
    rcases List.mem_cons.1 he with rfl | he
    · exact ⟨h3, h4⟩
    · exact ih h2 e he
theorem memoRun_mem {c : CF} {call : Cal} {K : List KB} {root : Pa} : ∀ {B : List TE2}, memoRun c call K root B = true → ∀ x ∈ B, memoR1 c call K root x.ln x.n x.B = true := by
  intro B
  induction B with
  | nil => intro _ e h; cases h
  | cons x B ih =>
    intro h e he
    obtain ⟨h1, h2⟩ := aB2 (show aB (memoR1 c call K root x.ln x.n x.B) (memoRun c call K root B) = true from h)
    rcases List.mem_cons.1 he with rfl | he
    · exact h1
    · exact ih h2 e he
theorem memoRun_nil {c : CF} {call : Cal} {K : List KB} {root : Pa} : memoRun c call K root [] = true := rfl
theorem memoRun_cons {c : CF} {call : Cal} {K : List KB} {root : Pa} {x : TE2} {B : List TE2} (h1 : memoR1 c call K root x.ln x.n x.B = true) (h2 : memoRun c call K root B = true) : memoRun c call K root (x :: B) = true := by
  show aB (memoR1 c call K root x.ln x.n x.B) (memoRun c call K root B) = true
  rw [h1, h2]
  rfl
theorem memo_true (hmix : P.follows .mixedOrders = true) (ht : TOk P T) {cf : Nat → CF} (hcf : ∀ g, FnR P T [] (fun _ => 0) g (cf g)) {d : Nat} {c : CF} (hc : FnR P T [] (fun _ => 0) g c) {K : List KB} (hK : okK K = true) {root : Pa} {B : List TE2} (he : memoRun c (evC cf d) K root B = true) : MemoOf P g K root B := by
  intro x hx e hex bs cs hb1 hb2 hc1 hc2 ρ w r d R hroot
  obtain ⟨hf, h1⟩ := memoR1_mem (memoRun_mem he x hx) e hex
  have hA : AsOk (fun _ => 0) [] := fun a ha => by cases ha
  have hdr : ∀ (M : List Nat) (n : Nat) (call : Cal), M.length ≤ 64 → CalOk P (fun _ => 0) call → DrwR P T [] (fun _ => 0) M n call := fun M n call hM hcal => drw_ok hmix ht hA hcal hM n
  rw [← hb1, ← hb2, ← hc1, ← hc2] at h1
  refine fn_ok ht hA hdr (evC_ok ht hA hdr hcf _) hc (ρ := ρ) R (.cons (.p hroot) (.cons (.str bs) (.cons (.str cs) .nil))) h1 fun ρ' v x h' nx' w' R' p' hv hk => ?_
  obtain ⟨k1, k2⟩ := aB2 hk
  obtain rfl := vEq_true _ _ k1
  exact ⟨fun σ ρ => flat_any hf hv, stays_K hK R R' p' k2⟩
/-- What the table of two texts says. -/
noncomputable def tb2 (B : List TE2) : Nat → Nat → Nat → Nat → (V → Bool) → Bool := List.rec (motive := fun _ => Nat → Nat → Nat → Nat → (V → Bool) → Bool) (fun _ _ _ _ _ => false) (fun x _ ih ln n lc nc k => TE2.rec (motive := fun _ => Nat → Nat → Nat → Nat → (V → Bool) → Bool → Bool) (fun l m C ln n lc nc k t => iB (aB (Nat.beq n m) (Nat.beq ln l)) (tabLk C lc nc k) t) x ln n lc nc k (ih ln n lc nc k)) B
theorem tb2_true : ∀ {B : List TE2} {ln n lc nc : Nat} {k : V → Bool}, tb2 B ln n lc nc k = true → ∃ x ∈ B, x.ln = ln ∧ x.n = n ∧ ∃ r, ⟨lc, nc, r⟩ ∈ x.B ∧ k r = true := by
  intro B
  induction B with
  | nil => intro ln n lc nc k h; exact nope h
  | cons x B ih =>
    intro ln n lc nc k h
    obtain ⟨l, m, C⟩ := x
    have h0 : iB (aB (Nat.beq n m) (Nat.beq ln l)) (tabLk C lc nc k) (tb2 B ln n lc nc k) = true := h
    clear h
    rw [iB_eq] at h0
    split at h0
    · rename_i hb
      obtain ⟨h1, h2⟩ := aB2 hb
      obtain rfl := beq_iff'.1 h1
      obtain rfl := beq_iff'.1 h2
      obtain ⟨r, h3, h4⟩ := tabLk_true h0
      exact ⟨_, List.mem_cons_self, rfl, rfl, r, h3, h4⟩
    · obtain ⟨y, h1, h2⟩ := ih h0
      exact ⟨y, List.mem_cons_of_mem _ h1, h2⟩
noncomputable def memoS (K : List KB) (root : Pa) (B : List TE2) : Cal := sumN 3 fun _ l h nx k => nthV 0 l fun p => onP p fun b o => gB (Nat.beq o 0) (nthV 1 l fun a => onStr a fun la na => nthV 2 l fun c => onStr c fun lc nc => tb2 B la na lc nc fun r => bindP mp0 mp0 root b fun m => mtR K m h fun _ => k r h nx)
/-- What is asked of a summary. -/
def SumOk (P : Program) (σ : Nat → Int) (g : Nat) (f : Cal) : Prop := ∀ (l : List V) (args : List Value) (ρ : RM) (h : H6) (nx : Pa) (w : World) (k : KV), Rel σ ρ h nx w → VRs σ ρ l args → f 0 l h nx k = true → ∀ R : Value → World → Prop, (∀ ρ' v x h' nx' w', Rel σ ρ' h' nx' w' → Post ρ h nx w ρ' h' nx' w' → VR σ ρ' v x → k v h' nx' = true → R x w') → CallR P g ⟨args⟩ w R
theorem memoS_ok {K : List KB} (hK : okK K = true) {root : Pa} {B : List TE2} (hs : MemoOf P g K root B) : SumOk P σ g (memoS K root B) := by
  intro l args ρ h nx w k R hv he Q hQ
  obtain ⟨hl, he⟩ := gB_iff.1 (show gB (Nat.beq (lenV l) 3) (nthV 0 l fun p => onP p fun b o => gB (Nat.beq o 0) (nthV 1 l fun a => onStr a fun la na => nthV 2 l fun c => onStr c fun lc nc => tb2 B la na lc nc fun r => bindP mp0 mp0 root b fun m => mtR K m h fun _ => k r h nx)) = true from he)
  have hl := beq_iff'.1 hl
  rw [lenV_eq] at hl
  obtain ⟨v, hv0, he1⟩ := nthV_true he
  obtain ⟨b, o, rfl, he2⟩ := onP_true he1
  obtain ⟨ho, he3⟩ := gB_iff.1 he2
  obtain rfl := beq_iff'.1 ho
  obtain ⟨v1, hv1, he4⟩ := nthV_true he3
  obtain ⟨la, na, rfl, he5⟩ := onStr_true he4
  obtain ⟨v2, hv2, he6⟩ := nthV_true he5
  obtain ⟨lc, nc, rfl, he7⟩ := onStr_true he6
  obtain ⟨x, hx, hx1, hx2, r, hr, he8⟩ := tb2_true he7
  obtain ⟨m1, g1, g2, g3, g4⟩ := bindP_true he8 mp0_ok
  obtain ⟨mf, f1, f2, R0⟩ := emb_rel (σ' := fun _ => 0) hK R g4 g2 g1
  clear he he1 he2 he3 he4 he5 he6 he7 he8
  cases hv with
  | nil => simp at hl
  | cons hp ht =>
    cases ht with
    | nil => simp at hl
    | cons ha ht =>
      cases ht with
      | nil => simp at hl
      | cons hc ht =>
        cases ht with
        | cons _ _ => simp at hl
        | nil =>
          simp at hv0 hv1 hv2
          subst hv0
          subst hv1
          subst hv2
          cases hp with
          | p hb =>
            cases ha with
            | str bs =>
              cases hc with
              | str cs =>
                refine (hs x hx _ hr bs cs hx1.symm hx2.symm rfl rfl _ w _ _ R0 (embR_some (f1 _ _ g3) hb)).mono fun y w' ⟨hy, hst⟩ => ?_
                obtain ⟨R', p'⟩ := R.grown hst
                exact hQ ρ _ _ h nx w' R' p' (hy σ ρ) f2
theorem fnR_memo {K : List KB} (hK : okK K = true) {root : Pa} {B : List TE2} (hs : MemoOf P g K root B) : FnR P T A σ g (.s (memoS K root B)) := .inr (.inl ⟨_, rfl, memoS_ok hK hs⟩)
/-- One known heap, or else another. -/
noncomputable def memoS2 (K : List KB) (root : Pa) (B : List TE2) (K2 : List KB) (root2 : Pa) (B2 : List TE2) : Cal := fun g l h nx k => iB (memoS K root B g l h nx fun _ _ _ => true) (memoS K root B g l h nx k) (memoS K2 root2 B2 g l h nx k)
theorem fnR_memo2 {K K2 : List KB} (hK : okK K = true) (hK2 : okK K2 = true) {root root2 : Pa} {B B2 : List TE2} (hs : MemoOf P g K root B) (hs2 : MemoOf P g K2 root2 B2) : FnR P T A σ g (.s (memoS2 K root B K2 root2 B2)) := by
  refine .inr (.inl ⟨_, rfl, fun l args ρ h nx w k R hv he Q hQ => ?_⟩)
  have he : iB (memoS K root B 0 l h nx fun _ _ _ => true) (memoS K root B 0 l h nx k) (memoS K2 root2 B2 0 l h nx k) = true := he
  rw [iB_eq] at he
  split at he
  · exact memoS_ok hK hs l args ρ h nx w k R hv he Q hQ
  · exact memoS_ok hK2 hs2 l args ρ h nx w k R hv he Q hQ
end
end Go.Proofs.YtbolhpgffkdacaaGreatDoor.Ev
set_option linter.unusedVariables false
set_option linter.unusedSimpArgs false
set_option linter.constructorNameAsVariable false
namespace Go.Proofs.YtbolhpgffkdacaaGreatDoor.Ev
open Go Go.RowKit
/-- The caller's block. -/
def b4 : Pa := ⟨.d4, .d0, .d0, .d0, .d0, .d0⟩
section
variable {P : Program} {T : TT} {A : List As} {σ : Nat → Int} {w w' : World} {g : Nat} {K : List KRow}
def rmP (w : World) (r d : Nat) : RM := ⟨fun b => if num b = 4 then some (r, d) else rm0.m b, (rmG w).z⟩
theorem rmP_b4 (w : World) (r d : Nat) : rmP w r d b4 = some (r, d) := rfl
theorem rmP_some {r d : Nat} {b : Pa} {x : Nat × Nat} (h : rmP w r d b = some x) : (b = b4 ∧ x = (r, d)) ∨ (num b < ngl ∧ x = (num b, 0)) := by
  have h : (if num b = 4 then some (r, d) else rm0.m b) = some x := h
  split at h
  · rename_i e
    cases h
    exact .inl ⟨num_inj e, rfl⟩
  · exact .inr (rm0_some h)
/-- The cells are as said. -/
def CellsIs (σ : Nat → Int) (w : World) (r d : Nat) (vs : List V) : Prop := ∃ cs t lo hi, w.heap[r]? = some (.cells cs t (lo, hi)) ∧ ∀ (i : Nat) v, vs[i]? = some v → ∃ x, cs[d + i]? = some x ∧ x.oneCell' = true ∧ ∀ ρ, VR σ ρ v x
/-- The block; none, if nothing is known of its cells. -/
noncomputable def ob4 (vs : List V) : Ob := List.rec (motive := fun _ => Ob) .no (fun _ _ _ => .ce (lenV vs) true (toC vs)) vs
theorem ob4_cons (v : V) (vs : List V) : ob4 (v :: vs) = .ce (lenV (v :: vs)) true (toC (v :: vs)) := rfl
noncomputable def hpP (K : List KRow) (vs : List V) : H6 := upH b4 (hpG K) (ob4 vs)
theorem hpP_wr (K : List KRow) (vs : List V) (b : Pa) : (lkH b (hpP K vs)).wr = false := by
  unfold hpP
  by_cases e : b = b4
  · subst e
    rw [lkH_same]
    cases vs <;> rfl
  · rw [lkH_other e]
    rcases hpG_lk K b with h3 | ⟨q, _, _, h3⟩ <;> rw [h3] <;> rfl
theorem relP (hok : okG K = true) (hk : Known K w) (hw : ngl ≤ w.heap.size) {r d : Nat} {vs : List V} (hn : vs.length ≤ 512) (hc : CellsIs σ w r d vs) (hne : vs ≠ [] → ∀ q ∈ K, q.g ≠ r) : Rel σ (rmP w r d) (hpP K vs) pa0 w := by
  have R0 := relG (σ := σ) (p := pa0) hok hk (by decide) hw
  obtain ⟨cs, t, lo, hi, hh, hcs⟩ := hc
  have hr : r < w.heap.size := (Array.getElem?_eq_some_iff.1 hh).1
  have hob : ∀ b, b ≠ b4 → lkH b (hpP K vs) = lkH b (hpG K) := fun b hb => lkH_other hb _ _
  have hl4 : (lkH b4 (hpP K vs)).live = true → vs ≠ [] := fun hl e => by
    subst e
    unfold hpP at hl
    rw [lkH_same] at hl
    exact nope hl
  have hlive : vs ≠ [] → ∀ c, num c < ngl → (lkH c (hpP K vs)).live = true → num c ≠ r := fun hv c hc0 hl e => by
    have hcb : c ≠ b4 := fun e2 => by rw [e2] at hc0; exact absurd hc0 (by decide)
    rw [hob c hcb] at hl
    rcases hpG_lk K c with h3 | ⟨q, hq, hcq, h3⟩
    · rw [h3] at hl; exact nope hl
    · apply hne hv q hq
      rw [← e, hcq, num_gnm (okG_spec hok q hq).1]
  refine ⟨fun b x h => ?_, fun b r' d' h => ?_, fun b r' d' h => ?_, fun b c r' d' e h1 h2 hl1 hl2 => ?_, fun b hb => ?_, fun g hg => ?_⟩
  · rcases rmP_some h with ⟨rfl, _⟩ | ⟨h, _⟩
    · decide
    · exact Nat.lt_of_lt_of_le h (by decide)
  · rcases rmP_some h with ⟨_, e⟩ | ⟨h3, e⟩
    · cases e; exact hr
    · cases e; exact Nat.lt_of_lt_of_le h3 hw
  · rcases rmP_some h with ⟨rfl, e⟩ | ⟨h9, e⟩
    · cases e
      unfold hpP
      rw [lkH_same]
      cases vs with
      | nil => exact .no
      | cons v0 vs0 =>
      rw [ob4_cons]
      generalize v0 :: vs0 = vs at *
      refine .ce hh (.inl rfl) ?_ fun i hi => ?_
      · show cs.size = (match w.heap[r]? with | some o => osz o | none => 0)
        rw [hh]; rfl
      · rw [lenV_eq] at hi
        obtain ⟨x, f1, f2, f3⟩ := hcs i _ (List.getElem?_eq_getElem hi)
        refine ⟨x, f1, f2, ?_⟩
        rw [toC_lk _ hn i hi, List.getD_eq_getElem?_getD, List.getElem?_eq_getElem hi]
        exact f3 _
    · have hb : b ≠ b4 := fun e2 => by rw [e2] at h9; exact absurd h9 (by decide)
      rw [hob b hb]
      have e1 : (rmG w) b = some (r', d') := by
        cases e
        show (if num b < ngl then some (num b, 0) else none) = _
        rw [if_pos h9]
      have := R0.obs b r' d' e1
      cases e
      rcases hpG_lk K b with h3 | ⟨q, hq, hbq, h3⟩
      · rw [h3]; exact .no
      · rw [h3] at this ⊢
        have this : ObR σ (rmG w) w (num b) 0 (.ce (lenV (vsOf q)) true (toC (vsOf q))) := this
        cases this with
        | ce e1 e2 e3 e4 =>
          refine .ce e1 e2 e3 fun i hi => ?_
          obtain ⟨x, f1, f2, f3⟩ := e4 i hi
          refine ⟨x, f1, f2, ?_⟩
          have hi2 : i < (vsOf q).length := by rw [← lenV_eq]; exact hi
          rw [toC_lk _ (by rw [vsOf_eq, List.length_map]; exact (okG_spec hok q hq).2) i hi2] at f3 ⊢
          rw [vsOf_eq, List.length_map] at hi2
          rw [vsOf_eq, List.getD_eq_getElem?_getD, List.getElem?_map, List.getElem?_eq_getElem hi2] at f3 ⊢
          cases f3
          exact .i _ _
  · rcases rmP_some h1 with ⟨rfl, e1⟩ | ⟨n1, e1⟩
    · rcases rmP_some h2 with ⟨rfl, _⟩ | ⟨n2, e2⟩
      · rfl
      · cases e1
        have : num c = r := by cases e2; rfl
        exact absurd this (hlive (hl4 hl1) c n2 hl2)
    · rcases rmP_some h2 with ⟨rfl, e2⟩ | ⟨n2, e2⟩
      · have : num b = r := by cases e2; cases e1; rfl
        exact absurd this (hlive (hl4 hl2) b n1 hl1)
      · have e3 : r' = num b := congrArg Prod.fst e1
        have e4 : r' = num c := congrArg Prod.fst e2
        exact num_inj (e3.symm.trans e4)
  · have hb4 : b ≠ b4 := fun e2 => by rw [e2] at hb; exact absurd hb (by decide)
    rw [hob b hb4]
    exact R0.new b hb
  · show (if num (gnm g) = 4 then some (r, d) else rm0.m (gnm g)) = _
    rw [if_neg fun e => by rw [num_gnm hg] at e; rw [e] at hg; exact absurd hg (by decide)]
    exact rm0_glo hg
/-- The heap with the caller's block, laid step by step. -/
noncomputable def onP4 (K : List KRow) (vs : List V) (k : H6 → Bool) : Bool := onG K fun h => setH b4 h (ob4 vs) k
theorem onP4_eq (vs : List V) (k : H6 → Bool) : onP4 K vs k = k (hpP K vs) := by
  unfold onP4
  rw [onG_eq, setH_eq]
  rfl
/-- It says true. -/
theorem topP_true (hmix : P.follows .mixedOrders = true) (ht : TOk P T) (hok : okG K = true) (hA : AsOk σ A) {cf : Nat → CF} (hcf : ∀ g, FnR P T A σ g (cf g)) {dd : Nat} {c : CF} (hcc : FnR P T A σ g c) {vs : List V} (hn : vs.length ≤ 512) {l : List V} {args : List Value} (he : onP4 K vs (fun h => evF c (evC cf dd) l h pa0 (fun v _ _ => onB v fun b => b)) = true)
    (hw : ngl ≤ w.heap.size) (hk : Known K w) {r d : Nat} (hc : CellsIs σ w r d vs) (hne : vs ≠ [] → ∀ q ∈ K, q.g ≠ r) (hv : VRs σ (rmP w r d) l args) : CallR P g ⟨args⟩ w fun x w' => x = .bool true ∧ Stays w w' := by
  rw [onP4_eq] at he
  have hdr : ∀ (M : List Nat) (n : Nat) (call : Cal), M.length ≤ 64 → CalOk P σ call → DrwR P T A σ M n call := fun M n call hM hcal => drw_ok hmix ht hA hcal hM n
  refine fn_ok ht hA hdr (evC_ok ht hA hdr hcf dd) hcc (ρ := rmP w r d) (relP hok hk hw hn hc hne) hv he fun ρ' v x h' nx' w' R' p' hv hk => ?_
  obtain ⟨b, rfl, hb⟩ := onB_true hk
  cases hv
  have hb : b = true := hb
  subst hb
  exact ⟨rfl, p'.os, p'.tape, p'.output, p'.size, fun r hr => p'.keep r hr fun b d hbd => hpP_wr K vs b⟩
end
end Go.Proofs.YtbolhpgffkdacaaGreatDoor.Ev
set_option linter.unusedVariables false
set_option linter.unusedSimpArgs false
set_option linter.constructorNameAsVariable false
namespace Go.Proofs.YtbolhpgffkdacaaGreatDoor.Ev
open Go Go.RowKit
section
variable {P : Program} {T : TT} {A : List As} {σ : Nat → Int} {w w' : World} {g : Nat} {K : List KRow}
/-- A slice and its cells. -/
def SliceIn (w : World) (a : Option Addr) (len cap : Nat) (xs : List Value) : Prop :=
  (a = none ∧ len = 0 ∧ cap = 0 ∧ xs = []) ∨ ∃ r d cs t lo hi, a = some ⟨r, d, none⟩ ∧ len ≤ cap ∧ len < 9223372036854775808 ∧ xs.length = len ∧ w.heap[r]? = some (.cells cs t (lo, hi)) ∧ (cap ≠ 0 → d ≤ cs.size) ∧ ∀ (i : Nat) x, xs[i]? = some x → cs[d + i]? = some x
/-- What is known of them. -/
def Fits (σ : Nat → Int) (vs : List V) (xs : List Value) : Prop := ∀ (i : Nat) v, vs[i]? = some v → ∃ x, xs[i]? = some x ∧ x.oneCell' = true ∧ ∀ ρ, VR σ ρ v x
theorem cellsIs_of {r d : Nat} {cs : Array Value} {t : TypeId} {lo hi : Nat} {vs : List V} {xs : List Value} (h : w.heap[r]? = some (.cells cs t (lo, hi))) (hx : ∀ (i : Nat) x, xs[i]? = some x → cs[d + i]? = some x) (hf : Fits σ vs xs) : CellsIs σ w r d vs :=
  ⟨cs, t, lo, hi, h, fun i v hv => by
    obtain ⟨x, h1, h2, h3⟩ := hf i v hv
    exact ⟨x, hx i x h1, h2, h3⟩⟩
/-- All of it. -/
theorem topE_true (hmix : P.follows .mixedOrders = true) (ht : TOk P T) (hok : okG K = true) (hA : AsOk σ A) {cf : Nat → CF} (hcf : ∀ g, FnR P T A σ g (cf g)) {dd : Nat} {c : CF} (hcc : FnR P T A σ g c) {vs : List V} (hn : vs.length ≤ 512) {n : Nat} (he : onP4 K vs (fun h => evF c (evC cf dd) [V.sl b4 0 n n 1] h pa0 (fun v _ _ => onB v fun b => b)) = true)
    (hw : ngl ≤ w.heap.size) (hk : Known K w) {a : Option Addr} {cap : Nat} {xs : List Value} (hs : SliceIn w a n cap xs) (ha : a ≠ none) (hf : Fits σ vs xs) (hne : vs ≠ [] → ∀ r d, a = some ⟨r, d, none⟩ → ∀ q ∈ K, q.g ≠ r) : CallR P g ⟨[.slice a n cap]⟩ w fun x w' => x = .bool true ∧ Stays w w' := by
  rcases hs with ⟨e, _⟩ | ⟨r, d, cs, t, lo, hi, rfl, h1, h2, h3, h4, h5, h6⟩
  · exact absurd e ha
  · refine topP_true hmix ht hok hA hcf hcc hn he hw hk (r := r) (d := d) (cellsIs_of h4 h6 hf) (fun hv => hne hv r d rfl) (.cons ?_ .nil)
    refine .sl (d := d) (q := d) (rmP_b4 w r d) (Nat.le_refl _) h1 (fun h => by cases h) (fun s hs hc0 => ?_) (fun _ => rfl)
    have : s = 0 := by omega
    subst this
    show d + 0 + cap * 0 ≤ (match w.heap[r]? with | some o => osz o | none => 0)
    rw [h4]
    simpa [osz] using h5 hc0
/-- Its beginning. -/
theorem topM_true (hmix : P.follows .mixedOrders = true) (ht : TOk P T) (hok : okG K = true) (hA : AsOk σ A) {cf : Nat → CF} (hcf : ∀ g, FnR P T A σ g (cf g)) {dd : Nat} {c : CF} (hcc : FnR P T A σ g c) {vs : List V} (hn : vs.length ≤ 512) {m j : Nat} (he : onP4 K vs (fun h => evF c (evC cf dd) [V.ss b4 0 m j] h pa0 (fun v _ _ => onB v fun b => b)) = true)
    (hw : ngl ≤ w.heap.size) (hk : Known K w) {a : Option Addr} {len cap : Nat} {xs : List Value} (hs : SliceIn w a len cap xs) (ha : a ≠ none) (h0 : 0 < len) (hm : m ≤ len) (hj : σ j = len) (hf : Fits σ vs xs) (hne : vs ≠ [] → ∀ r d, a = some ⟨r, d, none⟩ → ∀ q ∈ K, q.g ≠ r) : CallR P g ⟨[.slice a len cap]⟩ w fun x w' => x = .bool true ∧ Stays w w' := by
  rcases hs with ⟨e, _⟩ | ⟨r, d, cs, t, lo, hi, rfl, h1, h2, h3, h4, h5, h6⟩
  · exact absurd e ha
  · refine topP_true hmix ht hok hA hcf hcc hn he hw hk (r := r) (d := d) (cellsIs_of h4 h6 hf) (fun hv => hne hv r d rfl) (.cons ?_ .nil)
    refine .ss (d := d) (rmP_b4 w r d) hm h1 hj h2 ?_
    show d + 0 ≤ (match w.heap[r]? with | some o => osz o | none => 0)
    rw [h4]
    simpa [osz] using h5 (by omega)
theorem fits_bools (bs : List Bool) {xs : List Value} (h : ∀ (i : Nat) b, bs[i]? = some b → xs[i]? = some (.bool b)) : Fits σ (bs.map V.b) xs := by
  intro i v hv
  rw [List.getElem?_map] at hv
  cases hb : bs[i]? with
  | none => rw [hb] at hv; cases hv
  | some b =>
    rw [hb] at hv
    cases hv
    exact ⟨_, h i b hb, rfl, fun ρ => .b b⟩
/-- Integers that are symbols, from a first one on. -/
noncomputable def symL (k : IntKind) (n : Nat) : Nat → List V := Nat.rec (motive := fun _ => Nat → List V) (fun _ => []) (fun _ ih i => V.s k (.var i) :: ih (Nat.succ i)) n
theorem symL_get (k : IntKind) : ∀ (n s i : Nat), (symL k n s)[i]? = if i < n then some (V.s k (.var (s + i))) else none := by
  intro n
  induction n with
  | zero => intro s i; show ([] : List V)[i]? = _; simp
  | succ n ih =>
    intro s i
    show (V.s k (.var s) :: symL k n (s + 1))[i]? = _
    cases i with
    | zero => simp
    | succ i =>
      rw [List.getElem?_cons_succ, ih]
      by_cases h : i < n
      · rw [if_pos h, if_pos (by omega), show s + 1 + i = s + (i + 1) from by omega]
      · rw [if_neg h, if_neg (by omega)]
theorem symL_len (k : IntKind) : ∀ (n s : Nat), (symL k n s).length = n := by
  intro n
  induction n with
  | zero => intro s; rfl
  | succ n ih => intro s; show (symL k n (s + 1)).length + 1 = _; rw [ih]
theorem fits_syms {k : IntKind} {n : Nat} {xs : List Value} (h : ∀ i, i < n → xs[i]? = some (.int k (σ i))) : Fits σ (symL k n 0) xs := by
  intro i v hv
  rw [symL_get] at hv
  split at hv
  · rename_i hi
    cases hv
    rw [Nat.zero_add]
    exact ⟨_, h i hi, rfl, fun ρ => .s k (.var i)⟩
  · cases hv
end
end Go.Proofs.YtbolhpgffkdacaaGreatDoor.Ev
set_option linter.unusedVariables false
set_option linter.unusedSimpArgs false
namespace Go.Proofs.YtbolhpgffkdacaaGreatDoor.Ev
open Go Go.RowKit Go.WideShapes Go.ChangeShapes
section
variable {P : Program} {w : World} {H : Type} {enc : TypeId × Value → H} {r : Reach} {base b0 : Nat} {t e : TypeId}
theorem sliceIn_of {v : Value} {dd : DataW H} {ps : List MemPlace} (ht : P.underlying t = some (.slice e)) (hc : P.cellsOf e = 1) (hval : Value.okWide P w r b0 t v) (hT : DataW.Trod enc P w base (fun _ => true) true t v dd ps) :
    ∃ a len cap xs, v = .slice a len cap ∧ SliceIn w a len cap xs ∧ (∀ b, a = some b → w.has P r b0 b e cap) ∧ ∀ (i : Nat) x, xs[i]? = some x → ∃ n d q, DataW.trod enc P w base (fun _ => true) true n e [x] = some (d, q) := by
  obtain ⟨a, len, cap, rfl⟩ := okWide_slice ht hval
  obtain ⟨fuel, hf⟩ := hT
  simp only [Value.okWide, ht, Cell.okWide] at hval
  have hcs : (Value.slice a len cap).cells.toList = [.slice a len cap] := by simp [Value.cells]
  rcases DataW.trod_slice ht hf with ⟨h1, _⟩ | ⟨a', len', cap', elems, rest, n, _, h1, _, _, hl, hm, hlen, hel, hsp, _⟩
  · rw [hcs] at h1
    cases h1
    exact ⟨none, 0, 0, [], rfl, .inl ⟨rfl, rfl, rfl, rfl⟩, (fun b h => (by cases h)), (fun i x h => (by simp at h))⟩
  · rw [hcs] at h1
    injection h1 with h1
    injection h1 with e1 e2 e3
    subst e1
    subst e2
    subst e3
    simp only [Cell.ok, ht] at hval
    obtain ⟨_, hmx, hhas⟩ := hval
    obtain ⟨_, hspot, row, cells, hsh, _⟩ := id hhas
    obtain ⟨blk, off, spot⟩ := a'
    have hspot : spot = none := hspot
    subst hspot
    obtain ⟨cs, t2, fr2, hheap⟩ : ∃ cs t2 fr2, w.heap[blk]? = some (.cells cs t2 fr2) := by
      unfold World.shape? at hsh
      split at hsh
      · rename_i c el f2 hh
        exact ⟨_, _, _, hh⟩
      · cases hsh
    have cell1 : ∀ {j : Nat} {y : Option (DataW H × List MemPlace)}, (w.cells? base ((⟨blk, off, none⟩ : Addr).add (j * P.cellsOf e)) (P.cellsOf e)).bind (DataW.trod enc P w base (fun _ => true) true n e) = y → y ≠ none → ∃ x z, cs[off + j]? = some x ∧ y = some z ∧ DataW.trod enc P w base (fun _ => true) true n e [x] = some z := by
      intro j y hy hne
      rw [hc, Nat.mul_one] at hy
      cases hy2 : y with
      | none => exact absurd hy2 hne
      | some z =>
        rw [hy2] at hy
        simp only [Option.bind_eq_some_iff] at hy
        obtain ⟨c1, hc1, hz⟩ := hy
        have e0 : ((⟨blk, off, none⟩ : Addr).add j).add 0 = (⟨blk, off, none⟩ : Addr).add j := by simp [Addr.add]
        have : ∃ c, c1 = [c] ∧ w.cell? ((⟨blk, off, none⟩ : Addr).add j) = some c := by
          unfold World.cells? at hc1
          split at hc1
          · simp only [List.range_succ, List.range_zero, List.nil_append, List.mapM_cons, List.mapM_nil, e0] at hc1
            cases hcc : w.cell? ((⟨blk, off, none⟩ : Addr).add j) with
            | none => simp [hcc] at hc1
            | some c => simp [hcc] at hc1; exact ⟨c, hc1.symm, rfl⟩
          · cases hc1
        obtain ⟨c, rfl, hcell⟩ := this
        refine ⟨c, z, ?_, rfl, hz⟩
        by_cases hj : j = 0
        · subst hj
          simpa [World.cell?, Addr.add, hheap] using hcell
        · simpa [World.cell?, Addr.add, hheap, hj] using hcell
    have hx : ∀ i, i < len → ∃ x z, cs[off + i]? = some x ∧ DataW.trod enc P w base (fun _ => true) true n e [x] = some z := fun i hi => by
      obtain ⟨x, z, g1, _, g3⟩ := cell1 (hel i hi) (by rw [List.getElem?_eq_getElem (by omega)]; simp)
      exact ⟨x, z, g1, g3⟩
    have hx' : ∀ i, i < len → cs[off + i]? = some (cs[off + i]?.getD default) := fun i hi => by
      obtain ⟨x, _, h1, _⟩ := hx i hi
      rw [h1]; rfl
    refine ⟨some ⟨blk, off, none⟩, len, cap, (List.range len).map fun i => cs[off + i]?.getD default, rfl, .inr ⟨blk, off, cs, t2, fr2.1, fr2.2, rfl, hl, ?_, by simp, hheap, fun hc0 => ?_, fun i x hi => ?_⟩, fun b hb => by cases hb; exact hhas, fun i x hi => ?_⟩
    · have : IntKind.i64.max = 9223372036854775807 := rfl
      omega
    · rcases Nat.eq_zero_or_pos len with h0 | h0
      · obtain ⟨h2, h3⟩ := hsp rfl
        have h4 := h3 0 (by omega)
        obtain ⟨x, z, g1, _⟩ := cell1 h4 (by rw [List.getElem?_eq_getElem (by omega)]; simp)
        have := (Array.getElem?_eq_some_iff.1 g1).1
        omega
      · have := (Array.getElem?_eq_some_iff.1 (hx' 0 h0)).1
        omega
    · rw [List.getElem?_map] at hi
      by_cases hlt : i < len
      · rw [List.getElem?_range hlt] at hi
        cases hi
        exact hx' i hlt
      · rw [List.getElem?_eq_none (by simpa using hlt)] at hi; cases hi
    · rw [List.getElem?_map] at hi
      by_cases hlt : i < len
      · rw [List.getElem?_range hlt] at hi
        cases hi
        obtain ⟨x, z, g1, g2⟩ := hx i hlt
        show ∃ n d q, DataW.trod enc P w base (fun x => true) true n e [cs[off + i]?.getD default] = some (d, q)
        rw [g1]
        exact ⟨n, z.1, z.2, g2⟩
      · rw [List.getElem?_eq_none (by simpa using hlt)] at hi; cases hi
/-- Truths. -/
theorem bools_of {xs : List Value} (he : P.underlying e = some .bool) (h : ∀ (i : Nat) x, xs[i]? = some x → ∃ n d q, DataW.trod enc P w base (fun _ => true) true n e [x] = some (d, q)) : ∃ bs : List Bool, xs = bs.map Value.bool := by
  induction xs with
  | nil => exact ⟨[], rfl⟩
  | cons x xs ih =>
    obtain ⟨bs, rfl⟩ := ih fun i y hy => h (i + 1) y (by simpa using hy)
    obtain ⟨n, d, q, h1⟩ := h 0 x rfl
    obtain ⟨b, h2, _⟩ := DataW.trod_bool he h1
    cases h2
    exact ⟨b :: bs, rfl⟩
/-- Integers. -/
theorem ints_of {xs : List Value} {k : IntKind} (he : P.underlying e = some (.int k)) (h : ∀ (i : Nat) x, xs[i]? = some x → ∃ n d q, DataW.trod enc P w base (fun _ => true) true n e [x] = some (d, q)) : ∃ zs : List Int, xs = zs.map (Value.int k) := by
  induction xs with
  | nil => exact ⟨[], rfl⟩
  | cons x xs ih =>
    obtain ⟨zs, rfl⟩ := ih fun i y hy => h (i + 1) y (by simpa using hy)
    obtain ⟨n, d, q, h1⟩ := h 0 x rfl
    obtain ⟨z, h2, _⟩ := DataW.trod_int he h1
    cases h2
    exact ⟨z :: zs, rfl⟩
end
end Go.Proofs.YtbolhpgffkdacaaGreatDoor.Ev
