/- A known hierarchy, and which of its types are of which. Conditions: none. -/
import Derived.Test.YtbolhpgffkdacaaGreatDoorEvC
import Derived.Test.YtbolhpgffkdacaaGreatDoorTx
import Derived.Test.YtbolhpgffkdacaaGreatDoorSm
set_option linter.unusedVariables false
set_option linter.unusedSimpArgs false
set_option linter.constructorNameAsVariable false
set_option linter.unusedSectionVars false
namespace Go.Proofs.YtbolhpgffkdacaaGreatDoor
open Go Go.Proofs Go.Proofs.YtbolhpgffkdacaaGreatDoor.Ev
set_option linter.unusedVariables false
set_option maxRecDepth 100000
noncomputable def kHFiles : List KB := [.c ⟨.d0, .d1, .d0, .d0, .d0, .d0⟩ [.sl ⟨.d1, .d1, .d0, .d0, .d0, .d0⟩ 0 12 12 7, .m ⟨.d2, .d1, .d0, .d0, .d0, .d0⟩],
  .c ⟨.d1, .d1, .d0, .d0, .d0, .d0⟩ [.e (.str 6 127970252055119), .e (.str 0 0), .e (.b false), .e (.ns), .e (.ns), .e (.ns), .e (.str 6 121459249932372), .e (.str 6 127970252055119), .e (.b false), .e (.ns), .e (.ns), .e (.ns), .e (.str 7 32213789842371918), .e (.str 6 121459249932372), .e (.b false), .e (.ns), .e (.ns), .e (.ns), .e (.str 8 8246730169498100050), .e (.str 6 121459249932372), .e (.b false), .e (.ns), .e (.ns), .e (.ns), .e (.str 7 32213789775782221), .e (.str 6 121459249932372), .e (.b false), .e (.ns), .e (.ns), .e (.ns), .e (.str 7 32213789977043267), .e (.str 6 121459249932372), .e (.b false), .e (.ns), .e (.ns), .e (.ns), .e (.str 7 32213789725845843), .e (.str 6 121459249932372), .e (.b false), .e (.ns), .e (.ns), .e (.ns), .e (.str 8 8246730169682719827), .e (.str 6 121459249932372), .e (.b false), .e (.ns), .e (.ns), .e (.ns), .e (.str 7 32213789976391241), .e (.str 6 121459249932372), .e (.b false), .e (.ns), .e (.ns), .e (.ns), .e (.str 8 8246730229828119619), .e (.str 6 121459249932372), .e (.b false), .e (.ns), .e (.ns), .e (.ns), .e (.str 4 1852399949), .e (.str 6 127970252055119), .e (.b false), .e (.ns), .e (.ns), .sl ⟨.d3, .d1, .d0, .d0, .d0, .d0⟩ 0 1 1 0, .e (.str 5 435610083668), .e (.str 6 127970252055119), .e (.b false), .e (.ns), .sl ⟨.d4, .d1, .d0, .d0, .d0, .d0⟩ 0 1 1 0, .sl ⟨.d5, .d1, .d0, .d0, .d0, .d0⟩ 0 2 2 0],
  .m ⟨.d2, .d1, .d0, .d0, .d0, .d0⟩ [⟨.str 6 127970252055119, .i .i64 0, 0⟩, ⟨.str 6 121459249932372, .i .i64 1, 1⟩, ⟨.str 7 32213789842371918, .i .i64 2, 2⟩, ⟨.str 8 8246730169498100050, .i .i64 3, 3⟩, ⟨.str 7 32213789775782221, .i .i64 4, 4⟩, ⟨.str 7 32213789977043267, .i .i64 5, 5⟩, ⟨.str 7 32213789725845843, .i .i64 6, 6⟩, ⟨.str 8 8246730169682719827, .i .i64 7, 7⟩, ⟨.str 7 32213789976391241, .i .i64 8, 8⟩, ⟨.str 8 8246730229828119619, .i .i64 9, 9⟩, ⟨.str 4 1852399949, .i .i64 10, 10⟩, ⟨.str 5 435610083668, .i .i64 11, 11⟩] 12]
def kHrootFiles : Pa := ⟨.d0, .d1, .d0, .d0, .d0, .d0⟩
noncomputable def sTFiles : V := .b true
noncomputable def sFFiles : V := .b false
noncomputable def kBFiles_0 : TE2 := ⟨6, 127970252055119, [⟨6, 127970252055119, sTFiles⟩, ⟨6, 121459249932372, sFFiles⟩, ⟨7, 32213789842371918, sFFiles⟩, ⟨8, 8246730169498100050, sFFiles⟩, ⟨7, 32213789775782221, sFFiles⟩, ⟨7, 32213789977043267, sFFiles⟩, ⟨7, 32213789725845843, sFFiles⟩, ⟨8, 8246730169682719827, sFFiles⟩, ⟨7, 32213789976391241, sFFiles⟩, ⟨8, 8246730229828119619, sFFiles⟩, ⟨4, 1852399949, sFFiles⟩, ⟨5, 435610083668, sFFiles⟩, ⟨1, 73, sFFiles⟩, ⟨2, 18779, sFFiles⟩]⟩
noncomputable def kBFiles_1 : TE2 := ⟨6, 121459249932372, [⟨6, 127970252055119, sTFiles⟩, ⟨6, 121459249932372, sTFiles⟩, ⟨7, 32213789842371918, sFFiles⟩, ⟨8, 8246730169498100050, sFFiles⟩, ⟨7, 32213789775782221, sFFiles⟩, ⟨7, 32213789977043267, sFFiles⟩, ⟨7, 32213789725845843, sFFiles⟩, ⟨8, 8246730169682719827, sFFiles⟩, ⟨7, 32213789976391241, sFFiles⟩, ⟨8, 8246730229828119619, sFFiles⟩, ⟨4, 1852399949, sFFiles⟩, ⟨5, 435610083668, sFFiles⟩, ⟨1, 73, sFFiles⟩, ⟨2, 18779, sFFiles⟩]⟩
noncomputable def kBFiles_2 : TE2 := ⟨7, 32213789842371918, [⟨6, 127970252055119, sTFiles⟩, ⟨6, 121459249932372, sTFiles⟩, ⟨7, 32213789842371918, sTFiles⟩, ⟨8, 8246730169498100050, sFFiles⟩, ⟨7, 32213789775782221, sFFiles⟩, ⟨7, 32213789977043267, sFFiles⟩, ⟨7, 32213789725845843, sFFiles⟩, ⟨8, 8246730169682719827, sFFiles⟩, ⟨7, 32213789976391241, sFFiles⟩, ⟨8, 8246730229828119619, sFFiles⟩, ⟨4, 1852399949, sFFiles⟩, ⟨5, 435610083668, sFFiles⟩, ⟨1, 73, sFFiles⟩, ⟨2, 18779, sFFiles⟩]⟩
noncomputable def kBFiles_3 : TE2 := ⟨8, 8246730169498100050, [⟨6, 127970252055119, sTFiles⟩, ⟨6, 121459249932372, sTFiles⟩, ⟨7, 32213789842371918, sFFiles⟩, ⟨8, 8246730169498100050, sTFiles⟩, ⟨7, 32213789775782221, sFFiles⟩, ⟨7, 32213789977043267, sFFiles⟩, ⟨7, 32213789725845843, sFFiles⟩, ⟨8, 8246730169682719827, sFFiles⟩, ⟨7, 32213789976391241, sFFiles⟩, ⟨8, 8246730229828119619, sFFiles⟩, ⟨4, 1852399949, sFFiles⟩, ⟨5, 435610083668, sFFiles⟩, ⟨1, 73, sFFiles⟩, ⟨2, 18779, sFFiles⟩]⟩
noncomputable def kBFiles_4 : TE2 := ⟨7, 32213789775782221, [⟨6, 127970252055119, sTFiles⟩, ⟨6, 121459249932372, sTFiles⟩, ⟨7, 32213789842371918, sFFiles⟩, ⟨8, 8246730169498100050, sFFiles⟩, ⟨7, 32213789775782221, sTFiles⟩, ⟨7, 32213789977043267, sFFiles⟩, ⟨7, 32213789725845843, sFFiles⟩, ⟨8, 8246730169682719827, sFFiles⟩, ⟨7, 32213789976391241, sFFiles⟩, ⟨8, 8246730229828119619, sFFiles⟩, ⟨4, 1852399949, sFFiles⟩, ⟨5, 435610083668, sFFiles⟩, ⟨1, 73, sFFiles⟩, ⟨2, 18779, sFFiles⟩]⟩
noncomputable def kBFiles_5 : TE2 := ⟨7, 32213789977043267, [⟨6, 127970252055119, sTFiles⟩, ⟨6, 121459249932372, sTFiles⟩, ⟨7, 32213789842371918, sFFiles⟩, ⟨8, 8246730169498100050, sFFiles⟩, ⟨7, 32213789775782221, sFFiles⟩, ⟨7, 32213789977043267, sTFiles⟩, ⟨7, 32213789725845843, sFFiles⟩, ⟨8, 8246730169682719827, sFFiles⟩, ⟨7, 32213789976391241, sFFiles⟩, ⟨8, 8246730229828119619, sFFiles⟩, ⟨4, 1852399949, sFFiles⟩, ⟨5, 435610083668, sFFiles⟩, ⟨1, 73, sFFiles⟩, ⟨2, 18779, sFFiles⟩]⟩
noncomputable def kBFiles_6 : TE2 := ⟨7, 32213789725845843, [⟨6, 127970252055119, sTFiles⟩, ⟨6, 121459249932372, sTFiles⟩, ⟨7, 32213789842371918, sFFiles⟩, ⟨8, 8246730169498100050, sFFiles⟩, ⟨7, 32213789775782221, sFFiles⟩, ⟨7, 32213789977043267, sFFiles⟩, ⟨7, 32213789725845843, sTFiles⟩, ⟨8, 8246730169682719827, sFFiles⟩, ⟨7, 32213789976391241, sFFiles⟩, ⟨8, 8246730229828119619, sFFiles⟩, ⟨4, 1852399949, sFFiles⟩, ⟨5, 435610083668, sFFiles⟩, ⟨1, 73, sFFiles⟩, ⟨2, 18779, sFFiles⟩]⟩
noncomputable def kBFiles_7 : TE2 := ⟨8, 8246730169682719827, [⟨6, 127970252055119, sTFiles⟩, ⟨6, 121459249932372, sTFiles⟩, ⟨7, 32213789842371918, sFFiles⟩, ⟨8, 8246730169498100050, sFFiles⟩, ⟨7, 32213789775782221, sFFiles⟩, ⟨7, 32213789977043267, sFFiles⟩, ⟨7, 32213789725845843, sFFiles⟩, ⟨8, 8246730169682719827, sTFiles⟩, ⟨7, 32213789976391241, sFFiles⟩, ⟨8, 8246730229828119619, sFFiles⟩, ⟨4, 1852399949, sFFiles⟩, ⟨5, 435610083668, sFFiles⟩, ⟨1, 73, sFFiles⟩, ⟨2, 18779, sFFiles⟩]⟩
noncomputable def kBFiles_8 : TE2 := ⟨7, 32213789976391241, [⟨6, 127970252055119, sTFiles⟩, ⟨6, 121459249932372, sTFiles⟩, ⟨7, 32213789842371918, sFFiles⟩, ⟨8, 8246730169498100050, sFFiles⟩, ⟨7, 32213789775782221, sFFiles⟩, ⟨7, 32213789977043267, sFFiles⟩, ⟨7, 32213789725845843, sFFiles⟩, ⟨8, 8246730169682719827, sFFiles⟩, ⟨7, 32213789976391241, sTFiles⟩, ⟨8, 8246730229828119619, sFFiles⟩, ⟨4, 1852399949, sFFiles⟩, ⟨5, 435610083668, sFFiles⟩, ⟨1, 73, sFFiles⟩, ⟨2, 18779, sFFiles⟩]⟩
noncomputable def kBFiles_9 : TE2 := ⟨8, 8246730229828119619, [⟨6, 127970252055119, sTFiles⟩, ⟨6, 121459249932372, sTFiles⟩, ⟨7, 32213789842371918, sFFiles⟩, ⟨8, 8246730169498100050, sFFiles⟩, ⟨7, 32213789775782221, sFFiles⟩, ⟨7, 32213789977043267, sFFiles⟩, ⟨7, 32213789725845843, sFFiles⟩, ⟨8, 8246730169682719827, sFFiles⟩, ⟨7, 32213789976391241, sFFiles⟩, ⟨8, 8246730229828119619, sTFiles⟩, ⟨4, 1852399949, sFFiles⟩, ⟨5, 435610083668, sFFiles⟩, ⟨1, 73, sFFiles⟩, ⟨2, 18779, sFFiles⟩]⟩
noncomputable def kBFiles_10 : TE2 := ⟨4, 1852399949, [⟨6, 127970252055119, sTFiles⟩, ⟨6, 121459249932372, sFFiles⟩, ⟨7, 32213789842371918, sFFiles⟩, ⟨8, 8246730169498100050, sFFiles⟩, ⟨7, 32213789775782221, sFFiles⟩, ⟨7, 32213789977043267, sFFiles⟩, ⟨7, 32213789725845843, sFFiles⟩, ⟨8, 8246730169682719827, sFFiles⟩, ⟨7, 32213789976391241, sFFiles⟩, ⟨8, 8246730229828119619, sFFiles⟩, ⟨4, 1852399949, sTFiles⟩, ⟨5, 435610083668, sFFiles⟩, ⟨1, 73, sFFiles⟩, ⟨2, 18779, sFFiles⟩]⟩
noncomputable def kBFiles_11 : TE2 := ⟨5, 435610083668, [⟨6, 127970252055119, sTFiles⟩, ⟨6, 121459249932372, sFFiles⟩, ⟨7, 32213789842371918, sFFiles⟩, ⟨8, 8246730169498100050, sFFiles⟩, ⟨7, 32213789775782221, sFFiles⟩, ⟨7, 32213789977043267, sFFiles⟩, ⟨7, 32213789725845843, sFFiles⟩, ⟨8, 8246730169682719827, sFFiles⟩, ⟨7, 32213789976391241, sFFiles⟩, ⟨8, 8246730229828119619, sFFiles⟩, ⟨4, 1852399949, sFFiles⟩, ⟨5, 435610083668, sTFiles⟩, ⟨1, 73, sFFiles⟩, ⟨2, 18779, sFFiles⟩]⟩
noncomputable def kBFiles_12 : TE2 := ⟨1, 73, [⟨6, 127970252055119, sFFiles⟩, ⟨6, 121459249932372, sFFiles⟩, ⟨7, 32213789842371918, sFFiles⟩, ⟨8, 8246730169498100050, sFFiles⟩, ⟨7, 32213789775782221, sFFiles⟩, ⟨7, 32213789977043267, sFFiles⟩, ⟨7, 32213789725845843, sFFiles⟩, ⟨8, 8246730169682719827, sFFiles⟩, ⟨7, 32213789976391241, sFFiles⟩, ⟨8, 8246730229828119619, sFFiles⟩, ⟨4, 1852399949, sFFiles⟩, ⟨5, 435610083668, sFFiles⟩, ⟨1, 73, sTFiles⟩, ⟨2, 18779, sFFiles⟩]⟩
noncomputable def kBFiles_13 : TE2 := ⟨2, 18779, [⟨6, 127970252055119, sTFiles⟩, ⟨6, 121459249932372, sFFiles⟩, ⟨7, 32213789842371918, sFFiles⟩, ⟨8, 8246730169498100050, sFFiles⟩, ⟨7, 32213789775782221, sFFiles⟩, ⟨7, 32213789977043267, sFFiles⟩, ⟨7, 32213789725845843, sFFiles⟩, ⟨8, 8246730169682719827, sFFiles⟩, ⟨7, 32213789976391241, sFFiles⟩, ⟨8, 8246730229828119619, sFFiles⟩, ⟨4, 1852399949, sFFiles⟩, ⟨5, 435610083668, sFFiles⟩, ⟨1, 73, sFFiles⟩, ⟨2, 18779, sTFiles⟩]⟩
noncomputable def kBFiles : List TE2 := [kBFiles_0, kBFiles_1, kBFiles_2, kBFiles_3, kBFiles_4, kBFiles_5, kBFiles_6, kBFiles_7, kBFiles_8, kBFiles_9, kBFiles_10, kBFiles_11, kBFiles_12, kBFiles_13]
theorem kH_okFiles : okK kHFiles = true := by kernel_rfl

set_option maxHeartbeats 0 in
theorem kRFiles_0 : memoR1 (cfOf tt [] (lk4 ft 123)) (evC (cfTab tabs (cfS [] [] [])) 100) kHFiles kHrootFiles kBFiles_0.ln kBFiles_0.n kBFiles_0.B = true := by kernel_rfl
set_option maxHeartbeats 0 in
theorem kRFiles_1 : memoR1 (cfOf tt [] (lk4 ft 123)) (evC (cfTab tabs (cfS [] [] [])) 100) kHFiles kHrootFiles kBFiles_1.ln kBFiles_1.n kBFiles_1.B = true := by kernel_rfl
set_option maxHeartbeats 0 in
theorem kRFiles_2 : memoR1 (cfOf tt [] (lk4 ft 123)) (evC (cfTab tabs (cfS [] [] [])) 100) kHFiles kHrootFiles kBFiles_2.ln kBFiles_2.n kBFiles_2.B = true := by kernel_rfl
set_option maxHeartbeats 0 in
theorem kRFiles_3 : memoR1 (cfOf tt [] (lk4 ft 123)) (evC (cfTab tabs (cfS [] [] [])) 100) kHFiles kHrootFiles kBFiles_3.ln kBFiles_3.n kBFiles_3.B = true := by kernel_rfl
set_option maxHeartbeats 0 in
theorem kRFiles_4 : memoR1 (cfOf tt [] (lk4 ft 123)) (evC (cfTab tabs (cfS [] [] [])) 100) kHFiles kHrootFiles kBFiles_4.ln kBFiles_4.n kBFiles_4.B = true := by kernel_rfl
set_option maxHeartbeats 0 in
theorem kRFiles_5 : memoR1 (cfOf tt [] (lk4 ft 123)) (evC (cfTab tabs (cfS [] [] [])) 100) kHFiles kHrootFiles kBFiles_5.ln kBFiles_5.n kBFiles_5.B = true := by kernel_rfl
set_option maxHeartbeats 0 in
theorem kRFiles_6 : memoR1 (cfOf tt [] (lk4 ft 123)) (evC (cfTab tabs (cfS [] [] [])) 100) kHFiles kHrootFiles kBFiles_6.ln kBFiles_6.n kBFiles_6.B = true := by kernel_rfl
set_option maxHeartbeats 0 in
theorem kRFiles_7 : memoR1 (cfOf tt [] (lk4 ft 123)) (evC (cfTab tabs (cfS [] [] [])) 100) kHFiles kHrootFiles kBFiles_7.ln kBFiles_7.n kBFiles_7.B = true := by kernel_rfl
set_option maxHeartbeats 0 in
theorem kRFiles_8 : memoR1 (cfOf tt [] (lk4 ft 123)) (evC (cfTab tabs (cfS [] [] [])) 100) kHFiles kHrootFiles kBFiles_8.ln kBFiles_8.n kBFiles_8.B = true := by kernel_rfl
set_option maxHeartbeats 0 in
theorem kRFiles_9 : memoR1 (cfOf tt [] (lk4 ft 123)) (evC (cfTab tabs (cfS [] [] [])) 100) kHFiles kHrootFiles kBFiles_9.ln kBFiles_9.n kBFiles_9.B = true := by kernel_rfl
set_option maxHeartbeats 0 in
theorem kRFiles_10 : memoR1 (cfOf tt [] (lk4 ft 123)) (evC (cfTab tabs (cfS [] [] [])) 100) kHFiles kHrootFiles kBFiles_10.ln kBFiles_10.n kBFiles_10.B = true := by kernel_rfl
set_option maxHeartbeats 0 in
theorem kRFiles_11 : memoR1 (cfOf tt [] (lk4 ft 123)) (evC (cfTab tabs (cfS [] [] [])) 100) kHFiles kHrootFiles kBFiles_11.ln kBFiles_11.n kBFiles_11.B = true := by kernel_rfl
set_option maxHeartbeats 0 in
theorem kRFiles_12 : memoR1 (cfOf tt [] (lk4 ft 123)) (evC (cfTab tabs (cfS [] [] [])) 100) kHFiles kHrootFiles kBFiles_12.ln kBFiles_12.n kBFiles_12.B = true := by kernel_rfl
set_option maxHeartbeats 0 in
theorem kRFiles_13 : memoR1 (cfOf tt [] (lk4 ft 123)) (evC (cfTab tabs (cfS [] [] [])) 100) kHFiles kHrootFiles kBFiles_13.ln kBFiles_13.n kBFiles_13.B = true := by kernel_rfl
theorem kH_runFiles : memoRun (cfOf tt [] (lk4 ft 123)) (evC (cfTab tabs (cfS [] [] [])) 100) kHFiles kHrootFiles kBFiles = true := memoRun_cons (x := kBFiles_0) kRFiles_0 (memoRun_cons (x := kBFiles_1) kRFiles_1 (memoRun_cons (x := kBFiles_2) kRFiles_2 (memoRun_cons (x := kBFiles_3) kRFiles_3 (memoRun_cons (x := kBFiles_4) kRFiles_4 (memoRun_cons (x := kBFiles_5) kRFiles_5 (memoRun_cons (x := kBFiles_6) kRFiles_6 (memoRun_cons (x := kBFiles_7) kRFiles_7 (memoRun_cons (x := kBFiles_8) kRFiles_8 (memoRun_cons (x := kBFiles_9) kRFiles_9 (memoRun_cons (x := kBFiles_10) kRFiles_10 (memoRun_cons (x := kBFiles_11) kRFiles_11 (memoRun_cons (x := kBFiles_12) kRFiles_12 (memoRun_cons (x := kBFiles_13) kRFiles_13 (memoRun_nil))))))))))))))
theorem kH_memoFiles : MemoOf Tryz.prog 123 kHFiles kHrootFiles kBFiles := memo_true hmix tok (cfTab_ok (cfS_ok (fun _ h => (by cases h)) (fun _ h => (by cases h))) tabs_ok) (fnr 123) kH_okFiles kH_runFiles
noncomputable def cfHFiles (base : Nat → CF) (g : Nat) : CF := Bool.rec (motive := fun _ => CF) (cfTab tabs base g) (CF.s (memoS kHFiles kHrootFiles kBFiles)) (Nat.beq g 123)
theorem cfH_okFiles {A : List As} {σ : Nat → Int} {base : Nat → CF} (hb : ∀ g, FnR Tryz.prog tt A σ g (base g)) (g : Nat) : FnR Tryz.prog tt A σ g (cfHFiles base g) := by
  unfold cfHFiles
  cases h : Nat.beq g 123 with
  | true =>
    obtain rfl := beq_iff'.1 h
    exact fnR_memo kH_okFiles kH_memoFiles
  | false => exact cfTab_ok hb tabs_ok g
set_option linter.unusedVariables false
set_option maxRecDepth 100000
noncomputable def kHFiles2 : List KB := [.c ⟨.d0, .d1, .d0, .d0, .d0, .d0⟩ [.sl ⟨.d1, .d1, .d0, .d0, .d0, .d0⟩ 0 12 12 7, .m ⟨.d2, .d1, .d0, .d0, .d0, .d0⟩],
  .c ⟨.d1, .d1, .d0, .d0, .d0, .d0⟩ [.e (.str 6 127970252055119), .e (.str 0 0), .e (.b false), .e (.ns), .e (.ns), .e (.ns), .e (.str 6 121459249932372), .e (.str 6 127970252055119), .e (.b false), .e (.ns), .e (.ns), .e (.ns), .e (.str 7 32213789842371918), .e (.str 6 121459249932372), .e (.b false), .e (.ns), .e (.ns), .e (.ns), .e (.str 8 8246730169498100050), .e (.str 6 121459249932372), .e (.b false), .e (.ns), .e (.ns), .e (.ns), .e (.str 7 32213789775782221), .e (.str 6 121459249932372), .e (.b false), .e (.ns), .e (.ns), .e (.ns), .e (.str 7 32213789977043267), .e (.str 6 121459249932372), .e (.b false), .e (.ns), .e (.ns), .e (.ns), .e (.str 7 32213789725845843), .e (.str 6 121459249932372), .e (.b false), .e (.ns), .e (.ns), .e (.ns), .e (.str 8 8246730169682719827), .e (.str 6 121459249932372), .e (.b false), .e (.ns), .e (.ns), .e (.ns), .e (.str 7 32213789976391241), .e (.str 6 121459249932372), .e (.b false), .e (.ns), .e (.ns), .e (.ns), .e (.str 8 8246730229828119619), .e (.str 6 121459249932372), .e (.b false), .e (.ns), .e (.ns), .e (.ns), .e (.str 4 1852399949), .e (.str 6 127970252055119), .e (.b false), .e (.ns), .e (.ns), .sl ⟨.d3, .d1, .d0, .d0, .d0, .d0⟩ 0 1 1 11, .e (.str 5 435610083668), .e (.str 6 127970252055119), .e (.b false), .e (.ns), .sl ⟨.d4, .d1, .d0, .d0, .d0, .d0⟩ 0 1 1 4, .sl ⟨.d5, .d1, .d0, .d0, .d0, .d0⟩ 0 2 2 11],
  .m ⟨.d2, .d1, .d0, .d0, .d0, .d0⟩ [⟨.str 6 127970252055119, .i .i64 0, 0⟩, ⟨.str 6 121459249932372, .i .i64 1, 1⟩, ⟨.str 7 32213789842371918, .i .i64 2, 2⟩, ⟨.str 8 8246730169498100050, .i .i64 3, 3⟩, ⟨.str 7 32213789775782221, .i .i64 4, 4⟩, ⟨.str 7 32213789977043267, .i .i64 5, 5⟩, ⟨.str 7 32213789725845843, .i .i64 6, 6⟩, ⟨.str 8 8246730169682719827, .i .i64 7, 7⟩, ⟨.str 7 32213789976391241, .i .i64 8, 8⟩, ⟨.str 8 8246730229828119619, .i .i64 9, 9⟩, ⟨.str 4 1852399949, .i .i64 10, 10⟩, ⟨.str 5 435610083668, .i .i64 11, 11⟩] 12]
def kHrootFiles2 : Pa := ⟨.d0, .d1, .d0, .d0, .d0, .d0⟩
noncomputable def sTFiles2 : V := .b true
noncomputable def sFFiles2 : V := .b false
noncomputable def kBFiles2_0 : TE2 := ⟨6, 127970252055119, [⟨6, 127970252055119, sTFiles2⟩, ⟨6, 121459249932372, sFFiles2⟩, ⟨7, 32213789842371918, sFFiles2⟩, ⟨8, 8246730169498100050, sFFiles2⟩, ⟨7, 32213789775782221, sFFiles2⟩, ⟨7, 32213789977043267, sFFiles2⟩, ⟨7, 32213789725845843, sFFiles2⟩, ⟨8, 8246730169682719827, sFFiles2⟩, ⟨7, 32213789976391241, sFFiles2⟩, ⟨8, 8246730229828119619, sFFiles2⟩, ⟨4, 1852399949, sFFiles2⟩, ⟨5, 435610083668, sFFiles2⟩, ⟨1, 73, sFFiles2⟩, ⟨2, 18779, sFFiles2⟩]⟩
noncomputable def kBFiles2_1 : TE2 := ⟨6, 121459249932372, [⟨6, 127970252055119, sTFiles2⟩, ⟨6, 121459249932372, sTFiles2⟩, ⟨7, 32213789842371918, sFFiles2⟩, ⟨8, 8246730169498100050, sFFiles2⟩, ⟨7, 32213789775782221, sFFiles2⟩, ⟨7, 32213789977043267, sFFiles2⟩, ⟨7, 32213789725845843, sFFiles2⟩, ⟨8, 8246730169682719827, sFFiles2⟩, ⟨7, 32213789976391241, sFFiles2⟩, ⟨8, 8246730229828119619, sFFiles2⟩, ⟨4, 1852399949, sFFiles2⟩, ⟨5, 435610083668, sFFiles2⟩, ⟨1, 73, sFFiles2⟩, ⟨2, 18779, sFFiles2⟩]⟩
noncomputable def kBFiles2_2 : TE2 := ⟨7, 32213789842371918, [⟨6, 127970252055119, sTFiles2⟩, ⟨6, 121459249932372, sTFiles2⟩, ⟨7, 32213789842371918, sTFiles2⟩, ⟨8, 8246730169498100050, sFFiles2⟩, ⟨7, 32213789775782221, sFFiles2⟩, ⟨7, 32213789977043267, sFFiles2⟩, ⟨7, 32213789725845843, sFFiles2⟩, ⟨8, 8246730169682719827, sFFiles2⟩, ⟨7, 32213789976391241, sFFiles2⟩, ⟨8, 8246730229828119619, sFFiles2⟩, ⟨4, 1852399949, sFFiles2⟩, ⟨5, 435610083668, sFFiles2⟩, ⟨1, 73, sFFiles2⟩, ⟨2, 18779, sFFiles2⟩]⟩
noncomputable def kBFiles2_3 : TE2 := ⟨8, 8246730169498100050, [⟨6, 127970252055119, sTFiles2⟩, ⟨6, 121459249932372, sTFiles2⟩, ⟨7, 32213789842371918, sFFiles2⟩, ⟨8, 8246730169498100050, sTFiles2⟩, ⟨7, 32213789775782221, sFFiles2⟩, ⟨7, 32213789977043267, sFFiles2⟩, ⟨7, 32213789725845843, sFFiles2⟩, ⟨8, 8246730169682719827, sFFiles2⟩, ⟨7, 32213789976391241, sFFiles2⟩, ⟨8, 8246730229828119619, sFFiles2⟩, ⟨4, 1852399949, sFFiles2⟩, ⟨5, 435610083668, sFFiles2⟩, ⟨1, 73, sFFiles2⟩, ⟨2, 18779, sFFiles2⟩]⟩
noncomputable def kBFiles2_4 : TE2 := ⟨7, 32213789775782221, [⟨6, 127970252055119, sTFiles2⟩, ⟨6, 121459249932372, sTFiles2⟩, ⟨7, 32213789842371918, sFFiles2⟩, ⟨8, 8246730169498100050, sFFiles2⟩, ⟨7, 32213789775782221, sTFiles2⟩, ⟨7, 32213789977043267, sFFiles2⟩, ⟨7, 32213789725845843, sFFiles2⟩, ⟨8, 8246730169682719827, sFFiles2⟩, ⟨7, 32213789976391241, sFFiles2⟩, ⟨8, 8246730229828119619, sFFiles2⟩, ⟨4, 1852399949, sFFiles2⟩, ⟨5, 435610083668, sFFiles2⟩, ⟨1, 73, sFFiles2⟩, ⟨2, 18779, sFFiles2⟩]⟩
noncomputable def kBFiles2_5 : TE2 := ⟨7, 32213789977043267, [⟨6, 127970252055119, sTFiles2⟩, ⟨6, 121459249932372, sTFiles2⟩, ⟨7, 32213789842371918, sFFiles2⟩, ⟨8, 8246730169498100050, sFFiles2⟩, ⟨7, 32213789775782221, sFFiles2⟩, ⟨7, 32213789977043267, sTFiles2⟩, ⟨7, 32213789725845843, sFFiles2⟩, ⟨8, 8246730169682719827, sFFiles2⟩, ⟨7, 32213789976391241, sFFiles2⟩, ⟨8, 8246730229828119619, sFFiles2⟩, ⟨4, 1852399949, sFFiles2⟩, ⟨5, 435610083668, sFFiles2⟩, ⟨1, 73, sFFiles2⟩, ⟨2, 18779, sFFiles2⟩]⟩
noncomputable def kBFiles2_6 : TE2 := ⟨7, 32213789725845843, [⟨6, 127970252055119, sTFiles2⟩, ⟨6, 121459249932372, sTFiles2⟩, ⟨7, 32213789842371918, sFFiles2⟩, ⟨8, 8246730169498100050, sFFiles2⟩, ⟨7, 32213789775782221, sFFiles2⟩, ⟨7, 32213789977043267, sFFiles2⟩, ⟨7, 32213789725845843, sTFiles2⟩, ⟨8, 8246730169682719827, sFFiles2⟩, ⟨7, 32213789976391241, sFFiles2⟩, ⟨8, 8246730229828119619, sFFiles2⟩, ⟨4, 1852399949, sFFiles2⟩, ⟨5, 435610083668, sFFiles2⟩, ⟨1, 73, sFFiles2⟩, ⟨2, 18779, sFFiles2⟩]⟩
noncomputable def kBFiles2_7 : TE2 := ⟨8, 8246730169682719827, [⟨6, 127970252055119, sTFiles2⟩, ⟨6, 121459249932372, sTFiles2⟩, ⟨7, 32213789842371918, sFFiles2⟩, ⟨8, 8246730169498100050, sFFiles2⟩, ⟨7, 32213789775782221, sFFiles2⟩, ⟨7, 32213789977043267, sFFiles2⟩, ⟨7, 32213789725845843, sFFiles2⟩, ⟨8, 8246730169682719827, sTFiles2⟩, ⟨7, 32213789976391241, sFFiles2⟩, ⟨8, 8246730229828119619, sFFiles2⟩, ⟨4, 1852399949, sFFiles2⟩, ⟨5, 435610083668, sFFiles2⟩, ⟨1, 73, sFFiles2⟩, ⟨2, 18779, sFFiles2⟩]⟩
noncomputable def kBFiles2_8 : TE2 := ⟨7, 32213789976391241, [⟨6, 127970252055119, sTFiles2⟩, ⟨6, 121459249932372, sTFiles2⟩, ⟨7, 32213789842371918, sFFiles2⟩, ⟨8, 8246730169498100050, sFFiles2⟩, ⟨7, 32213789775782221, sFFiles2⟩, ⟨7, 32213789977043267, sFFiles2⟩, ⟨7, 32213789725845843, sFFiles2⟩, ⟨8, 8246730169682719827, sFFiles2⟩, ⟨7, 32213789976391241, sTFiles2⟩, ⟨8, 8246730229828119619, sFFiles2⟩, ⟨4, 1852399949, sFFiles2⟩, ⟨5, 435610083668, sFFiles2⟩, ⟨1, 73, sFFiles2⟩, ⟨2, 18779, sFFiles2⟩]⟩
noncomputable def kBFiles2_9 : TE2 := ⟨8, 8246730229828119619, [⟨6, 127970252055119, sTFiles2⟩, ⟨6, 121459249932372, sTFiles2⟩, ⟨7, 32213789842371918, sFFiles2⟩, ⟨8, 8246730169498100050, sFFiles2⟩, ⟨7, 32213789775782221, sFFiles2⟩, ⟨7, 32213789977043267, sFFiles2⟩, ⟨7, 32213789725845843, sFFiles2⟩, ⟨8, 8246730169682719827, sFFiles2⟩, ⟨7, 32213789976391241, sFFiles2⟩, ⟨8, 8246730229828119619, sTFiles2⟩, ⟨4, 1852399949, sFFiles2⟩, ⟨5, 435610083668, sFFiles2⟩, ⟨1, 73, sFFiles2⟩, ⟨2, 18779, sFFiles2⟩]⟩
noncomputable def kBFiles2_10 : TE2 := ⟨4, 1852399949, [⟨6, 127970252055119, sTFiles2⟩, ⟨6, 121459249932372, sFFiles2⟩, ⟨7, 32213789842371918, sFFiles2⟩, ⟨8, 8246730169498100050, sFFiles2⟩, ⟨7, 32213789775782221, sFFiles2⟩, ⟨7, 32213789977043267, sFFiles2⟩, ⟨7, 32213789725845843, sFFiles2⟩, ⟨8, 8246730169682719827, sFFiles2⟩, ⟨7, 32213789976391241, sFFiles2⟩, ⟨8, 8246730229828119619, sFFiles2⟩, ⟨4, 1852399949, sTFiles2⟩, ⟨5, 435610083668, sFFiles2⟩, ⟨1, 73, sFFiles2⟩, ⟨2, 18779, sFFiles2⟩]⟩
noncomputable def kBFiles2_11 : TE2 := ⟨5, 435610083668, [⟨6, 127970252055119, sTFiles2⟩, ⟨6, 121459249932372, sFFiles2⟩, ⟨7, 32213789842371918, sFFiles2⟩, ⟨8, 8246730169498100050, sFFiles2⟩, ⟨7, 32213789775782221, sFFiles2⟩, ⟨7, 32213789977043267, sFFiles2⟩, ⟨7, 32213789725845843, sFFiles2⟩, ⟨8, 8246730169682719827, sFFiles2⟩, ⟨7, 32213789976391241, sFFiles2⟩, ⟨8, 8246730229828119619, sFFiles2⟩, ⟨4, 1852399949, sFFiles2⟩, ⟨5, 435610083668, sTFiles2⟩, ⟨1, 73, sFFiles2⟩, ⟨2, 18779, sFFiles2⟩]⟩
noncomputable def kBFiles2_12 : TE2 := ⟨1, 73, [⟨6, 127970252055119, sFFiles2⟩, ⟨6, 121459249932372, sFFiles2⟩, ⟨7, 32213789842371918, sFFiles2⟩, ⟨8, 8246730169498100050, sFFiles2⟩, ⟨7, 32213789775782221, sFFiles2⟩, ⟨7, 32213789977043267, sFFiles2⟩, ⟨7, 32213789725845843, sFFiles2⟩, ⟨8, 8246730169682719827, sFFiles2⟩, ⟨7, 32213789976391241, sFFiles2⟩, ⟨8, 8246730229828119619, sFFiles2⟩, ⟨4, 1852399949, sFFiles2⟩, ⟨5, 435610083668, sFFiles2⟩, ⟨1, 73, sTFiles2⟩, ⟨2, 18779, sFFiles2⟩]⟩
noncomputable def kBFiles2_13 : TE2 := ⟨2, 18779, [⟨6, 127970252055119, sTFiles2⟩, ⟨6, 121459249932372, sFFiles2⟩, ⟨7, 32213789842371918, sFFiles2⟩, ⟨8, 8246730169498100050, sFFiles2⟩, ⟨7, 32213789775782221, sFFiles2⟩, ⟨7, 32213789977043267, sFFiles2⟩, ⟨7, 32213789725845843, sFFiles2⟩, ⟨8, 8246730169682719827, sFFiles2⟩, ⟨7, 32213789976391241, sFFiles2⟩, ⟨8, 8246730229828119619, sFFiles2⟩, ⟨4, 1852399949, sFFiles2⟩, ⟨5, 435610083668, sFFiles2⟩, ⟨1, 73, sFFiles2⟩, ⟨2, 18779, sTFiles2⟩]⟩
noncomputable def kBFiles2 : List TE2 := [kBFiles2_0, kBFiles2_1, kBFiles2_2, kBFiles2_3, kBFiles2_4, kBFiles2_5, kBFiles2_6, kBFiles2_7, kBFiles2_8, kBFiles2_9, kBFiles2_10, kBFiles2_11, kBFiles2_12, kBFiles2_13]
theorem kH_okFiles2 : okK kHFiles2 = true := by kernel_rfl

set_option maxHeartbeats 0 in
theorem kRFiles2_0 : memoR1 (cfOf tt [] (lk4 ft 123)) (evC (cfTab tabs (cfS [] [] [])) 100) kHFiles2 kHrootFiles2 kBFiles2_0.ln kBFiles2_0.n kBFiles2_0.B = true := by kernel_rfl
set_option maxHeartbeats 0 in
theorem kRFiles2_1 : memoR1 (cfOf tt [] (lk4 ft 123)) (evC (cfTab tabs (cfS [] [] [])) 100) kHFiles2 kHrootFiles2 kBFiles2_1.ln kBFiles2_1.n kBFiles2_1.B = true := by kernel_rfl
set_option maxHeartbeats 0 in
theorem kRFiles2_2 : memoR1 (cfOf tt [] (lk4 ft 123)) (evC (cfTab tabs (cfS [] [] [])) 100) kHFiles2 kHrootFiles2 kBFiles2_2.ln kBFiles2_2.n kBFiles2_2.B = true := by kernel_rfl
set_option maxHeartbeats 0 in
theorem kRFiles2_3 : memoR1 (cfOf tt [] (lk4 ft 123)) (evC (cfTab tabs (cfS [] [] [])) 100) kHFiles2 kHrootFiles2 kBFiles2_3.ln kBFiles2_3.n kBFiles2_3.B = true := by kernel_rfl
set_option maxHeartbeats 0 in
theorem kRFiles2_4 : memoR1 (cfOf tt [] (lk4 ft 123)) (evC (cfTab tabs (cfS [] [] [])) 100) kHFiles2 kHrootFiles2 kBFiles2_4.ln kBFiles2_4.n kBFiles2_4.B = true := by kernel_rfl
set_option maxHeartbeats 0 in
theorem kRFiles2_5 : memoR1 (cfOf tt [] (lk4 ft 123)) (evC (cfTab tabs (cfS [] [] [])) 100) kHFiles2 kHrootFiles2 kBFiles2_5.ln kBFiles2_5.n kBFiles2_5.B = true := by kernel_rfl
set_option maxHeartbeats 0 in
theorem kRFiles2_6 : memoR1 (cfOf tt [] (lk4 ft 123)) (evC (cfTab tabs (cfS [] [] [])) 100) kHFiles2 kHrootFiles2 kBFiles2_6.ln kBFiles2_6.n kBFiles2_6.B = true := by kernel_rfl
set_option maxHeartbeats 0 in
theorem kRFiles2_7 : memoR1 (cfOf tt [] (lk4 ft 123)) (evC (cfTab tabs (cfS [] [] [])) 100) kHFiles2 kHrootFiles2 kBFiles2_7.ln kBFiles2_7.n kBFiles2_7.B = true := by kernel_rfl
set_option maxHeartbeats 0 in
theorem kRFiles2_8 : memoR1 (cfOf tt [] (lk4 ft 123)) (evC (cfTab tabs (cfS [] [] [])) 100) kHFiles2 kHrootFiles2 kBFiles2_8.ln kBFiles2_8.n kBFiles2_8.B = true := by kernel_rfl
set_option maxHeartbeats 0 in
theorem kRFiles2_9 : memoR1 (cfOf tt [] (lk4 ft 123)) (evC (cfTab tabs (cfS [] [] [])) 100) kHFiles2 kHrootFiles2 kBFiles2_9.ln kBFiles2_9.n kBFiles2_9.B = true := by kernel_rfl
set_option maxHeartbeats 0 in
theorem kRFiles2_10 : memoR1 (cfOf tt [] (lk4 ft 123)) (evC (cfTab tabs (cfS [] [] [])) 100) kHFiles2 kHrootFiles2 kBFiles2_10.ln kBFiles2_10.n kBFiles2_10.B = true := by kernel_rfl
set_option maxHeartbeats 0 in
theorem kRFiles2_11 : memoR1 (cfOf tt [] (lk4 ft 123)) (evC (cfTab tabs (cfS [] [] [])) 100) kHFiles2 kHrootFiles2 kBFiles2_11.ln kBFiles2_11.n kBFiles2_11.B = true := by kernel_rfl
set_option maxHeartbeats 0 in
theorem kRFiles2_12 : memoR1 (cfOf tt [] (lk4 ft 123)) (evC (cfTab tabs (cfS [] [] [])) 100) kHFiles2 kHrootFiles2 kBFiles2_12.ln kBFiles2_12.n kBFiles2_12.B = true := by kernel_rfl
set_option maxHeartbeats 0 in
theorem kRFiles2_13 : memoR1 (cfOf tt [] (lk4 ft 123)) (evC (cfTab tabs (cfS [] [] [])) 100) kHFiles2 kHrootFiles2 kBFiles2_13.ln kBFiles2_13.n kBFiles2_13.B = true := by kernel_rfl
theorem kH_runFiles2 : memoRun (cfOf tt [] (lk4 ft 123)) (evC (cfTab tabs (cfS [] [] [])) 100) kHFiles2 kHrootFiles2 kBFiles2 = true := memoRun_cons (x := kBFiles2_0) kRFiles2_0 (memoRun_cons (x := kBFiles2_1) kRFiles2_1 (memoRun_cons (x := kBFiles2_2) kRFiles2_2 (memoRun_cons (x := kBFiles2_3) kRFiles2_3 (memoRun_cons (x := kBFiles2_4) kRFiles2_4 (memoRun_cons (x := kBFiles2_5) kRFiles2_5 (memoRun_cons (x := kBFiles2_6) kRFiles2_6 (memoRun_cons (x := kBFiles2_7) kRFiles2_7 (memoRun_cons (x := kBFiles2_8) kRFiles2_8 (memoRun_cons (x := kBFiles2_9) kRFiles2_9 (memoRun_cons (x := kBFiles2_10) kRFiles2_10 (memoRun_cons (x := kBFiles2_11) kRFiles2_11 (memoRun_cons (x := kBFiles2_12) kRFiles2_12 (memoRun_cons (x := kBFiles2_13) kRFiles2_13 (memoRun_nil))))))))))))))
theorem kH_memoFiles2 : MemoOf Tryz.prog 123 kHFiles2 kHrootFiles2 kBFiles2 := memo_true hmix tok (cfTab_ok (cfS_ok (fun _ h => (by cases h)) (fun _ h => (by cases h))) tabs_ok) (fnr 123) kH_okFiles2 kH_runFiles2
noncomputable def cfHFiles2 (base : Nat → CF) (g : Nat) : CF := Bool.rec (motive := fun _ => CF) (cfTab tabs base g) (CF.s (memoS kHFiles2 kHrootFiles2 kBFiles2)) (Nat.beq g 123)
theorem cfH_okFiles2 {A : List As} {σ : Nat → Int} {base : Nat → CF} (hb : ∀ g, FnR Tryz.prog tt A σ g (base g)) (g : Nat) : FnR Tryz.prog tt A σ g (cfHFiles2 base g) := by
  unfold cfHFiles2
  cases h : Nat.beq g 123 with
  | true =>
    obtain rfl := beq_iff'.1 h
    exact fnR_memo kH_okFiles2 kH_memoFiles2
  | false => exact cfTab_ok hb tabs_ok g
set_option linter.unusedVariables false
noncomputable def cfHF (base : Nat → CF) (g : Nat) : CF := Bool.rec (motive := fun _ => CF) (cfTab tabs base g) (CF.s (memoS2 kHFiles kHrootFiles kBFiles kHFiles2 kHrootFiles2 kBFiles2)) (Nat.beq g 123)
theorem cfHF_ok {A : List As} {σ : Nat → Int} {base : Nat → CF} (hb : ∀ g, FnR Tryz.prog tt A σ g (base g)) (g : Nat) : FnR Tryz.prog tt A σ g (cfHF base g) := by
  unfold cfHF
  cases h : Nat.beq g 123 with
  | true =>
    obtain rfl := beq_iff'.1 h
    exact fnR_memo2 kH_okFiles kH_okFiles2 kH_memoFiles kH_memoFiles2
  | false => exact cfTab_ok hb tabs_ok g
noncomputable def runBH (A : List As) (B : List (SE × Int × Int)) (G : List Nat) (g : Nat) (l : List V) : Bool := onG kG fun h => evF (cfOf tt A (lk4 ft g)) (evC (cfHF (cfB A B G)) 1000) l h pa0 (fun v _ _ => onB v fun b => b)
theorem topF_of {A : List As} {σ : Nat → Int} {B : List (SE × Int × Int)} {G : List Nat} {g : Nat} {l : List V} {args : List Value} (hA : AsOk σ A) (hG : ∀ g ∈ G, SaysG g) (hB : ∀ e z r, (e, z, r) ∈ B → ∀ w : World, ngl ≤ w.heap.size → CallR Tryz.prog 13 ⟨[.int .i64 (e.val σ), .int .i64 z]⟩ w fun x w' => x = .int .i64 r ∧ Stays w w') (hv : ∀ ρ, VRs σ ρ l args) (h : runBH A B G g l = true) : ∀ w : World, ngl ≤ w.heap.size → Known kG w → CallR Tryz.prog g ⟨args⟩ w fun x w' => x = .bool true ∧ Stays w w' := top_true hmix tok okKg hA (cfHF_ok (cfB_ok hG hB)) (fnr g) hv h
end Go.Proofs.YtbolhpgffkdacaaGreatDoor
