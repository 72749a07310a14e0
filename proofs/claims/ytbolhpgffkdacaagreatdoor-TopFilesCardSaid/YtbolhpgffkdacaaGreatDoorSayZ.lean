/- What the begun functions say. Conditions: none. -/
import Derived.Test.YtbolhpgffkdacaaGreatDoorSayA
import Derived.Test.YtbolhpgffkdacaaGreatDoorSayC
import Derived.Test.YtbolhpgffkdacaaGreatDoorSayB
import Derived.Test.YtbolhpgffkdacaaGreatDoorSayD
set_option linter.unusedVariables false
set_option linter.unusedSimpArgs false
set_option linter.constructorNameAsVariable false
set_option linter.unusedSectionVars false
namespace Go.Proofs.YtbolhpgffkdacaaGreatDoor
open Go Go.Proofs Go.Proofs.YtbolhpgffkdacaaGreatDoor.Ev
theorem say672 : Says 672 := says_of (fun x h => (by cases h)) runs672
theorem say637 : Says 637 := says_of (fun x h => (by obtain rfl := List.mem_singleton.1 h; exact say672)) runs637
theorem say599 : Says 599 := says_of (fun x h => (by obtain rfl := List.mem_singleton.1 h; exact say637)) runs599
theorem say487 : Says 487 := says_of (fun x h => (by obtain rfl := List.mem_singleton.1 h; exact say599)) runs487
theorem say676 : Says 676 := says_of (fun x h => (by obtain rfl := List.mem_singleton.1 h; exact say487)) runs676
theorem say641 : Says 641 := says_of (fun x h => (by obtain rfl := List.mem_singleton.1 h; exact say676)) runs641
theorem say680 : Says 680 := says_of (fun x h => (by obtain rfl := List.mem_singleton.1 h; exact say641)) runs680
theorem say673 : Says 673 := says_of (fun x h => (by obtain rfl := List.mem_singleton.1 h; exact say680)) runs673
theorem say638 : Says 638 := says_of (fun x h => (by obtain rfl := List.mem_singleton.1 h; exact say673)) runs638
theorem say608 : Says 608 := says_of (fun x h => (by cases h)) runs608
theorem say674 : Says 674 := says_of (fun x h => (by cases h)) runs674
theorem say639 : Says 639 := says_of (fun x h => (by obtain rfl := List.mem_singleton.1 h; exact say674)) runs639
theorem say609 : Says 609 := says_of (fun x h => (by cases h)) runs609
theorem say605 : Says 605 := says_of (fun x h => (by simp only [List.mem_cons, List.not_mem_nil, or_false] at h; rcases h with rfl | rfl; exact say641; exact say609)) runs605
theorem say602 : Says 602 := says_of (fun x h => (by simp only [List.mem_cons, List.not_mem_nil, or_false] at h; rcases h with rfl | rfl | rfl | rfl; exact say638; exact say608; exact say639; exact say605)) runs602
theorem say675 : Says 675 := says_of (fun x h => (by cases h)) runs675
theorem say640 : Says 640 := says_of (fun x h => (by simp only [List.mem_cons, List.not_mem_nil, or_false] at h; rcases h with rfl | rfl; exact say638; exact say675)) runs640
theorem say603 : Says 603 := says_of (fun x h => (by obtain rfl := List.mem_singleton.1 h; exact say640)) runs603
theorem say488 : Says 488 := says_of (fun x h => (by simp only [List.mem_cons, List.not_mem_nil, or_false] at h; rcases h with rfl | rfl; exact say602; exact say603)) runs488
theorem say606 : Says 606 := says_of (fun x h => (by obtain rfl := List.mem_singleton.1 h; exact say638)) runs606
theorem say489 : Says 489 := says_of (fun x h => (by simp only [List.mem_cons, List.not_mem_nil, or_false] at h; rcases h with rfl | rfl; exact say605; exact say606)) runs489
theorem say677 : Says 677 := says_of (fun x h => (by simp only [List.mem_cons, List.not_mem_nil, or_false] at h; rcases h with rfl | rfl; exact say674; exact say637)) runs677
theorem say642 : Says 642 := says_of (fun x h => (by obtain rfl := List.mem_singleton.1 h; exact say677)) runs642
theorem say607 : Says 607 := says_of (fun x h => (by obtain rfl := List.mem_singleton.1 h; exact say642)) runs607
theorem say490 : Says 490 := says_of (fun x h => (by simp only [List.mem_cons, List.not_mem_nil, or_false] at h; rcases h with rfl | rfl | rfl; exact say607; exact say608; exact say609)) runs490
theorem say238 : Says 238 := says_of (fun x h => (by simp only [List.mem_cons, List.not_mem_nil, or_false] at h; rcases h with rfl | rfl | rfl | rfl; exact say487; exact say488; exact say489; exact say490)) runs238
theorem sayg239 : SaysG 239 := saysG_of (fun x h => (by cases h)) (fun x h => (by cases h)) runs239
theorem sayg69 : SaysG 69 := saysG_of (fun x h => (by obtain rfl := List.mem_singleton.1 h; exact say238)) (fun x h => (by obtain rfl := List.mem_singleton.1 h; exact sayg239)) runs69
theorem sayg5 : SaysG 5 := saysG_of (fun x h => (by cases h)) (fun x h => (by obtain rfl := List.mem_singleton.1 h; exact sayg69)) runs5
end Go.Proofs.YtbolhpgffkdacaaGreatDoor
