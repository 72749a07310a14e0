/- Functions of one text, run by the kernel at the texts that are asked. Conditions: none. -/
import Derived.Test.YtbolhpgffkdacaaGreatDoorEvC
import Derived.Test.YtbolhpgffkdacaaGreatDoorRow
set_option linter.unusedVariables false
set_option linter.unusedSimpArgs false
set_option linter.constructorNameAsVariable false
set_option linter.unusedSectionVars false
namespace Go.Proofs.YtbolhpgffkdacaaGreatDoor
open Go Go.Proofs Go.Proofs.YtbolhpgffkdacaaGreatDoor.Ev
set_option linter.unusedVariables false
set_option maxRecDepth 100000
noncomputable def tbMay : List TE := [⟨6, 127970252055119, V.b true⟩, ⟨6, 121459249932372, V.b true⟩, ⟨7, 32213789842371918, V.b true⟩, ⟨8, 8246730169498100050, V.b true⟩, ⟨7, 32213789775782221, V.b true⟩, ⟨7, 32213789977043267, V.b true⟩, ⟨7, 32213789725845843, V.b true⟩, ⟨8, 8246730169682719827, V.b true⟩, ⟨7, 32213789976391241, V.b true⟩, ⟨8, 8246730229828119619, V.b true⟩, ⟨4, 1852399949, V.b true⟩, ⟨4, 1701080910, V.b true⟩, ⟨5, 461228831827, V.b true⟩, ⟨4, 1701011782, V.b true⟩, ⟨2, 24897, V.b true⟩, ⟨2, 25154, V.b true⟩, ⟨2, 25411, V.b true⟩, ⟨4, 1684827976, V.b true⟩, ⟨2, 27467, V.b true⟩, ⟨5, 435610083668, V.b true⟩, ⟨1, 73, V.b true⟩, ⟨1, 86, V.b false⟩, ⟨7, 32760384526110555, V.b true⟩, ⟨7, 31093567982687323, V.b true⟩, ⟨8, 8246730199647211099, V.b true⟩, ⟨9, 2111162923391513612891, V.b true⟩, ⟨8, 8246730182600248667, V.b true⟩, ⟨8, 8246730234123076443, V.b true⟩, ⟨8, 8246730169816535899, V.b true⟩, ⟨9, 2111162923438776275803, V.b true⟩, ⟨8, 8246730233956157787, V.b true⟩, ⟨9, 2111162938835998622555, V.b true⟩, ⟨5, 474214387035, V.b true⟩, ⟨5, 435476713051, V.b true⟩, ⟨6, 118074580947803, V.b true⟩, ⟨5, 435459016283, V.b true⟩, ⟨3, 6373723, V.b true⟩, ⟨3, 6439515, V.b true⟩, ⟨3, 6505307, V.b true⟩, ⟨5, 431315961947, V.b true⟩, ⟨3, 7031643, V.b true⟩, ⟨6, 111516181419099, V.b true⟩, ⟨2, 18779, V.b true⟩]
set_option maxHeartbeats 0 in
theorem trMay : tabRun (cfOf tt [] (lk4 ft 78)) (evC (cfTab [] (cfS [] [] [])) 100) tbMay = true := by kernel_rfl
theorem taMay : TabOf Tryz.prog 78 tbMay := tab_true hmix tok (cfTab_ok (cfS_ok (fun _ h => (by cases h)) (fun _ h => (by cases h))) (fun x hx => (by cases hx))) (fnr 78) trMay
noncomputable def tbClass : List TE := [⟨6, 127970252055119, V.b true⟩, ⟨6, 121459249932372, V.b true⟩, ⟨7, 32213789842371918, V.b true⟩, ⟨8, 8246730169498100050, V.b true⟩, ⟨7, 32213789775782221, V.b true⟩, ⟨7, 32213789977043267, V.b true⟩, ⟨7, 32213789725845843, V.b true⟩, ⟨8, 8246730169682719827, V.b true⟩, ⟨7, 32213789976391241, V.b true⟩, ⟨8, 8246730229828119619, V.b true⟩, ⟨4, 1852399949, V.b true⟩, ⟨4, 1701080910, V.b true⟩, ⟨5, 461228831827, V.b true⟩, ⟨4, 1701011782, V.b true⟩, ⟨2, 24897, V.b true⟩, ⟨2, 25154, V.b true⟩, ⟨2, 25411, V.b true⟩, ⟨4, 1684827976, V.b true⟩, ⟨2, 27467, V.b true⟩, ⟨5, 435610083668, V.b true⟩]
set_option maxHeartbeats 0 in
theorem trClass : tabRun (cfOf tt [] (lk4 ft 83)) (evC (cfTab [⟨78, tbMay⟩] (cfS [] [] [])) 100) tbClass = true := by kernel_rfl
theorem taClass : TabOf Tryz.prog 83 tbClass := tab_true hmix tok (cfTab_ok (cfS_ok (fun _ h => (by cases h)) (fun _ h => (by cases h))) (fun x hx => by
    obtain rfl := List.mem_singleton.1 hx
    exact taMay)) (fnr 83) trClass
noncomputable def tbName : List TE := [⟨4, 1852399981, V.b true⟩, ⟨4, 1752397168, V.b true⟩, ⟨3, 7368560, V.b true⟩, ⟨1, 102, V.b true⟩, ⟨1, 103, V.b true⟩, ⟨3, 7368564, V.b true⟩, ⟨1, 118, V.b true⟩, ⟨4, 1954047342, V.b true⟩, ⟨5, 499985049892, V.b true⟩, ⟨3, 7041889, V.b true⟩, ⟨2, 29793, V.b true⟩, ⟨1, 115, V.b true⟩, ⟨1, 97, V.b true⟩, ⟨1, 98, V.b true⟩, ⟨1, 99, V.b true⟩, ⟨1, 100, V.b true⟩, ⟨1, 101, V.b true⟩, ⟨1, 116, V.b true⟩, ⟨1, 117, V.b true⟩, ⟨1, 107, V.b true⟩, ⟨1, 108, V.b true⟩, ⟨1, 109, V.b true⟩, ⟨1, 110, V.b true⟩, ⟨1, 120, V.b true⟩, ⟨1, 121, V.b true⟩, ⟨1, 122, V.b true⟩, ⟨5, 500153084262, V.b true⟩]
set_option maxHeartbeats 0 in
theorem trName : tabRun (cfOf tt [] (lk4 ft 77)) (evC (cfTab [⟨78, tbMay⟩, ⟨83, tbClass⟩] (cfS [] [] [])) 100) tbName = true := by kernel_rfl
theorem taName : TabOf Tryz.prog 77 tbName := tab_true hmix tok (cfTab_ok (cfS_ok (fun _ h => (by cases h)) (fun _ h => (by cases h))) (fun x hx => by
    simp only [List.mem_cons, List.not_mem_nil, or_false] at hx
    rcases hx with rfl | rfl
    · exact taMay
    · exact taClass)) (fnr 77) trName
noncomputable def tbRet : List TE := [⟨6, 127970252055119, V.b true⟩, ⟨6, 121459249932372, V.b true⟩, ⟨7, 32213789842371918, V.b true⟩, ⟨8, 8246730169498100050, V.b true⟩, ⟨7, 32213789775782221, V.b true⟩, ⟨7, 32213789977043267, V.b true⟩, ⟨7, 32213789725845843, V.b true⟩, ⟨8, 8246730169682719827, V.b true⟩, ⟨7, 32213789976391241, V.b true⟩, ⟨8, 8246730229828119619, V.b true⟩, ⟨4, 1852399949, V.b true⟩, ⟨4, 1701080910, V.b true⟩, ⟨5, 461228831827, V.b true⟩, ⟨4, 1701011782, V.b true⟩, ⟨2, 24897, V.b true⟩, ⟨2, 25154, V.b true⟩, ⟨2, 25411, V.b true⟩, ⟨4, 1684827976, V.b true⟩, ⟨2, 27467, V.b true⟩, ⟨5, 435610083668, V.b true⟩, ⟨1, 73, V.b true⟩, ⟨1, 86, V.b true⟩, ⟨7, 32760384526110555, V.b true⟩, ⟨7, 31093567982687323, V.b true⟩, ⟨8, 8246730199647211099, V.b true⟩, ⟨9, 2111162923391513612891, V.b true⟩, ⟨8, 8246730182600248667, V.b true⟩, ⟨8, 8246730234123076443, V.b true⟩, ⟨8, 8246730169816535899, V.b true⟩, ⟨9, 2111162923438776275803, V.b true⟩, ⟨8, 8246730233956157787, V.b true⟩, ⟨9, 2111162938835998622555, V.b true⟩, ⟨5, 474214387035, V.b true⟩, ⟨5, 435476713051, V.b true⟩, ⟨6, 118074580947803, V.b true⟩, ⟨5, 435459016283, V.b true⟩, ⟨3, 6373723, V.b true⟩, ⟨3, 6439515, V.b true⟩, ⟨3, 6505307, V.b true⟩, ⟨5, 431315961947, V.b true⟩, ⟨3, 7031643, V.b true⟩, ⟨6, 111516181419099, V.b true⟩, ⟨2, 18779, V.b true⟩]
set_option maxHeartbeats 0 in
theorem trRet : tabRun (cfOf tt [] (lk4 ft 169)) (evC (cfTab [⟨78, tbMay⟩, ⟨83, tbClass⟩, ⟨77, tbName⟩] (cfS [] [] [])) 100) tbRet = true := by kernel_rfl
theorem taRet : TabOf Tryz.prog 169 tbRet := tab_true hmix tok (cfTab_ok (cfS_ok (fun _ h => (by cases h)) (fun _ h => (by cases h))) (fun x hx => by
    simp only [List.mem_cons, List.not_mem_nil, or_false] at hx
    rcases hx with rfl | rfl | rfl
    · exact taMay
    · exact taClass
    · exact taName)) (fnr 169) trRet
noncomputable def tbRef : List TE := [⟨6, 127970252055119, V.b true⟩, ⟨6, 121459249932372, V.b true⟩, ⟨7, 32213789842371918, V.b true⟩, ⟨8, 8246730169498100050, V.b true⟩, ⟨7, 32213789775782221, V.b true⟩, ⟨7, 32213789977043267, V.b true⟩, ⟨7, 32213789725845843, V.b true⟩, ⟨8, 8246730169682719827, V.b true⟩, ⟨7, 32213789976391241, V.b true⟩, ⟨8, 8246730229828119619, V.b true⟩, ⟨4, 1852399949, V.b true⟩, ⟨4, 1701080910, V.b true⟩, ⟨5, 461228831827, V.b true⟩, ⟨4, 1701011782, V.b true⟩, ⟨2, 24897, V.b true⟩, ⟨2, 25154, V.b true⟩, ⟨2, 25411, V.b true⟩, ⟨4, 1684827976, V.b true⟩, ⟨2, 27467, V.b true⟩, ⟨5, 435610083668, V.b true⟩, ⟨1, 73, V.b false⟩, ⟨1, 86, V.b false⟩, ⟨7, 32760384526110555, V.b true⟩, ⟨7, 31093567982687323, V.b true⟩, ⟨8, 8246730199647211099, V.b true⟩, ⟨9, 2111162923391513612891, V.b true⟩, ⟨8, 8246730182600248667, V.b true⟩, ⟨8, 8246730234123076443, V.b true⟩, ⟨8, 8246730169816535899, V.b true⟩, ⟨9, 2111162923438776275803, V.b true⟩, ⟨8, 8246730233956157787, V.b true⟩, ⟨9, 2111162938835998622555, V.b true⟩, ⟨5, 474214387035, V.b true⟩, ⟨5, 435476713051, V.b true⟩, ⟨6, 118074580947803, V.b true⟩, ⟨5, 435459016283, V.b true⟩, ⟨3, 6373723, V.b true⟩, ⟨3, 6439515, V.b true⟩, ⟨3, 6505307, V.b true⟩, ⟨5, 431315961947, V.b true⟩, ⟨3, 7031643, V.b true⟩, ⟨6, 111516181419099, V.b true⟩, ⟨2, 18779, V.b true⟩]
set_option maxHeartbeats 0 in
theorem trRef : tabRun (cfOf tt [] (lk4 ft 127)) (evC (cfTab [⟨78, tbMay⟩, ⟨83, tbClass⟩, ⟨77, tbName⟩, ⟨169, tbRet⟩] (cfS [] [] [])) 100) tbRef = true := by kernel_rfl
theorem taRef : TabOf Tryz.prog 127 tbRef := tab_true hmix tok (cfTab_ok (cfS_ok (fun _ h => (by cases h)) (fun _ h => (by cases h))) (fun x hx => by
    simp only [List.mem_cons, List.not_mem_nil, or_false] at hx
    rcases hx with rfl | rfl | rfl | rfl
    · exact taMay
    · exact taClass
    · exact taName
    · exact taRet)) (fnr 127) trRef
noncomputable def tbElem : List TE := [⟨6, 127970252055119, V.tup [V.str 0 0, V.b false]⟩, ⟨6, 121459249932372, V.tup [V.str 0 0, V.b false]⟩, ⟨7, 32213789842371918, V.tup [V.str 0 0, V.b false]⟩, ⟨8, 8246730169498100050, V.tup [V.str 0 0, V.b false]⟩, ⟨7, 32213789775782221, V.tup [V.str 0 0, V.b false]⟩, ⟨7, 32213789977043267, V.tup [V.str 0 0, V.b false]⟩, ⟨7, 32213789725845843, V.tup [V.str 0 0, V.b false]⟩, ⟨8, 8246730169682719827, V.tup [V.str 0 0, V.b false]⟩, ⟨7, 32213789976391241, V.tup [V.str 0 0, V.b false]⟩, ⟨8, 8246730229828119619, V.tup [V.str 0 0, V.b false]⟩, ⟨4, 1852399949, V.tup [V.str 0 0, V.b false]⟩, ⟨4, 1701080910, V.tup [V.str 0 0, V.b false]⟩, ⟨5, 461228831827, V.tup [V.str 0 0, V.b false]⟩, ⟨4, 1701011782, V.tup [V.str 0 0, V.b false]⟩, ⟨2, 24897, V.tup [V.str 0 0, V.b false]⟩, ⟨2, 25154, V.tup [V.str 0 0, V.b false]⟩, ⟨2, 25411, V.tup [V.str 0 0, V.b false]⟩, ⟨4, 1684827976, V.tup [V.str 0 0, V.b false]⟩, ⟨2, 27467, V.tup [V.str 0 0, V.b false]⟩, ⟨5, 435610083668, V.tup [V.str 0 0, V.b false]⟩, ⟨1, 73, V.tup [V.str 0 0, V.b false]⟩, ⟨1, 86, V.tup [V.str 0 0, V.b false]⟩, ⟨7, 32760384526110555, V.tup [V.str 6 127970252055119, V.b true]⟩, ⟨7, 31093567982687323, V.tup [V.str 6 121459249932372, V.b true]⟩, ⟨8, 8246730199647211099, V.tup [V.str 7 32213789842371918, V.b true]⟩, ⟨9, 2111162923391513612891, V.tup [V.str 8 8246730169498100050, V.b true]⟩, ⟨8, 8246730182600248667, V.tup [V.str 7 32213789775782221, V.b true]⟩, ⟨8, 8246730234123076443, V.tup [V.str 7 32213789977043267, V.b true]⟩, ⟨8, 8246730169816535899, V.tup [V.str 7 32213789725845843, V.b true]⟩, ⟨9, 2111162923438776275803, V.tup [V.str 8 8246730169682719827, V.b true]⟩, ⟨8, 8246730233956157787, V.tup [V.str 7 32213789976391241, V.b true]⟩, ⟨9, 2111162938835998622555, V.tup [V.str 8 8246730229828119619, V.b true]⟩, ⟨5, 474214387035, V.tup [V.str 4 1852399949, V.b true]⟩, ⟨5, 435476713051, V.tup [V.str 4 1701080910, V.b true]⟩, ⟨6, 118074580947803, V.tup [V.str 5 461228831827, V.b true]⟩, ⟨5, 435459016283, V.tup [V.str 4 1701011782, V.b true]⟩, ⟨3, 6373723, V.tup [V.str 2 24897, V.b true]⟩, ⟨3, 6439515, V.tup [V.str 2 25154, V.b true]⟩, ⟨3, 6505307, V.tup [V.str 2 25411, V.b true]⟩, ⟨5, 431315961947, V.tup [V.str 4 1684827976, V.b true]⟩, ⟨3, 7031643, V.tup [V.str 2 27467, V.b true]⟩, ⟨6, 111516181419099, V.tup [V.str 5 435610083668, V.b true]⟩, ⟨2, 18779, V.tup [V.str 1 73, V.b true]⟩]
set_option maxHeartbeats 0 in
theorem trElem : tabRun (cfOf tt [] (lk4 ft 124)) (evC (cfTab [⟨78, tbMay⟩, ⟨83, tbClass⟩, ⟨77, tbName⟩, ⟨169, tbRet⟩, ⟨127, tbRef⟩] (cfS [] [] [])) 100) tbElem = true := by kernel_rfl
theorem taElem : TabOf Tryz.prog 124 tbElem := tab_true hmix tok (cfTab_ok (cfS_ok (fun _ h => (by cases h)) (fun _ h => (by cases h))) (fun x hx => by
    simp only [List.mem_cons, List.not_mem_nil, or_false] at hx
    rcases hx with rfl | rfl | rfl | rfl | rfl
    · exact taMay
    · exact taClass
    · exact taName
    · exact taRet
    · exact taRef)) (fnr 124) trElem
noncomputable def tbnumber : List TE := [⟨5, 500152823651, V.i .i64 1⟩, ⟨4, 1819047278, V.i .i64 2⟩, ⟨4, 1684107116, V.i .i64 3⟩, ⟨5, 435711603827, V.i .i64 4⟩, ⟨3, 7368560, V.i .i64 5⟩, ⟨3, 7370084, V.i .i64 6⟩, ⟨4, 1885435763, V.i .i64 7⟩, ⟨3, 6579297, V.i .i64 8⟩, ⟨3, 6452595, V.i .i64 9⟩, ⟨3, 7107949, V.i .i64 10⟩, ⟨3, 7760228, V.i .i64 11⟩, ⟨3, 7169394, V.i .i64 12⟩, ⟨3, 6776174, V.i .i64 13⟩, ⟨3, 6581857, V.i .i64 14⟩, ⟨2, 29295, V.i .i64 15⟩, ⟨3, 7499640, V.i .i64 16⟩, ⟨3, 7104627, V.i .i64 17⟩, ⟨3, 7497843, V.i .i64 18⟩, ⟨4, 1919447925, V.i .i64 19⟩, ⟨4, 1869901671, V.i .i64 20⟩, ⟨4, 1902470761, V.i .i64 21⟩, ⟨4, 1701733993, V.i .i64 22⟩, ⟨4, 1953261161, V.i .i64 23⟩, ⟨4, 1701275241, V.i .i64 24⟩, ⟨4, 1952933481, V.i .i64 25⟩, ⟨4, 1701602921, V.i .i64 26⟩, ⟨5, 487033171299, V.i .i64 27⟩, ⟨5, 435644558691, V.i .i64 28⟩, ⟨5, 500035513699, V.i .i64 29⟩, ⟨5, 435527118179, V.i .i64 30⟩, ⟨5, 499951627619, V.i .i64 31⟩, ⟨5, 435611004259, V.i .i64 32⟩, ⟨3, 7104878, V.i .i64 33⟩, ⟨4, 1701670771, V.i .i64 34⟩, ⟨4, 1701667187, V.i .i64 35⟩, ⟨5, 491327616111, V.i .i64 36⟩, ⟨3, 7824750, V.i .i64 37⟩, ⟨4, 1718904167, V.i .i64 38⟩, ⟨4, 1718908272, V.i .i64 39⟩, ⟨4, 1937007975, V.i .i64 40⟩, ⟨4, 1937012080, V.i .i64 41⟩, ⟨5, 495740281187, V.i .i64 42⟩, ⟨5, 508625183075, V.i .i64 43⟩, ⟨5, 517215117667, V.i .i64 44⟩, ⟨5, 452790608227, V.i .i64 45⟩, ⟨3, 7628146, V.i .i64 46⟩, ⟨4, 1952805481, V.i .i64 47⟩, ⟨4, 1952805473, V.i .i64 48⟩, ⟨4, 1769432430, V.i .i64 49⟩, ⟨4, 1635214702, V.i .i64 50⟩, ⟨3, 7234924, V.i .i64 51⟩, ⟨5, 431131421801, V.i .i64 52⟩, ⟨5, 491496174441, V.i .i64 53⟩, ⟨5, 431131421793, V.i .i64 54⟩, ⟨5, 491496174433, V.i .i64 55⟩, ⟨4, 1953718627, V.i .i64 56⟩, ⟨4, 1953721961, V.i .i64 57⟩, ⟨5, 512970877044, V.i .i64 58⟩, ⟨2, 28265, V.i .i64 59⟩, ⟨3, 7632239, V.i .i64 60⟩, ⟨4, 1953069157, V.i .i64 61⟩]
set_option maxHeartbeats 0 in
theorem trnumber : tabRun (cfOf tt [] (lk4 ft 22)) (evC (cfTab [⟨78, tbMay⟩, ⟨83, tbClass⟩, ⟨77, tbName⟩, ⟨169, tbRet⟩, ⟨127, tbRef⟩, ⟨124, tbElem⟩] (cfS [] [] [])) 100) tbnumber = true := by kernel_rfl
theorem tanumber : TabOf Tryz.prog 22 tbnumber := tab_true hmix tok (cfTab_ok (cfS_ok (fun _ h => (by cases h)) (fun _ h => (by cases h))) (fun x hx => by
    simp only [List.mem_cons, List.not_mem_nil, or_false] at hx
    rcases hx with rfl | rfl | rfl | rfl | rfl | rfl
    · exact taMay
    · exact taClass
    · exact taName
    · exact taRet
    · exact taRef
    · exact taElem)) (fnr 22) trnumber
noncomputable def tabs : List TF := [⟨78, tbMay⟩, ⟨83, tbClass⟩, ⟨77, tbName⟩, ⟨169, tbRet⟩, ⟨127, tbRef⟩, ⟨124, tbElem⟩, ⟨22, tbnumber⟩]
theorem tabs_ok : ∀ x ∈ tabs, TabOf Tryz.prog x.g x.B := by
  intro x hx
  simp only [tabs, List.mem_cons, List.not_mem_nil, or_false] at hx
  rcases hx with rfl | rfl | rfl | rfl | rfl | rfl | rfl
  · exact taMay
  · exact taClass
  · exact taName
  · exact taRet
  · exact taRef
  · exact taElem
  · exact tanumber
end Go.Proofs.YtbolhpgffkdacaaGreatDoor
