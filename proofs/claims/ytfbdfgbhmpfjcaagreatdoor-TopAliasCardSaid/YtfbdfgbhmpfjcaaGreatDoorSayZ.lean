/- What the begun functions say. Conditions: none. -/
import Derived.Test.YtfbdfgbhmpfjcaaGreatDoorSayA
import Derived.Test.YtfbdfgbhmpfjcaaGreatDoorSayC
import Derived.Test.YtfbdfgbhmpfjcaaGreatDoorSayB
import Derived.Test.YtfbdfgbhmpfjcaaGreatDoorSayD
set_option linter.unusedVariables false
set_option linter.unusedSimpArgs false
set_option linter.constructorNameAsVariable false
set_option linter.unusedSectionVars false
namespace Go.Proofs.YtfbdfgbhmpfjcaaGreatDoor
open Go Go.Proofs Go.Proofs.YtfbdfgbhmpfjcaaGreatDoor.Ev
theorem sayg61 : SaysG 61 := saysG_of (fun x h => (by cases h)) (fun x h => (by cases h)) runs61
theorem say668 : Says 668 := says_of (fun x h => (by cases h)) runs668
theorem say619 : Says 619 := says_of (fun x h => (by obtain rfl := List.mem_singleton.1 h; exact say668)) runs619
theorem say543 : Says 543 := says_of (fun x h => (by obtain rfl := List.mem_singleton.1 h; exact say619)) runs543
theorem say288 : Says 288 := says_of (fun x h => (by obtain rfl := List.mem_singleton.1 h; exact say543)) runs288
theorem say672 : Says 672 := says_of (fun x h => (by obtain rfl := List.mem_singleton.1 h; exact say288)) runs672
theorem say626 : Says 626 := says_of (fun x h => (by obtain rfl := List.mem_singleton.1 h; exact say672)) runs626
theorem say678 : Says 678 := says_of (fun x h => (by obtain rfl := List.mem_singleton.1 h; exact say626)) runs678
theorem say669 : Says 669 := says_of (fun x h => (by obtain rfl := List.mem_singleton.1 h; exact say678)) runs669
theorem say623 : Says 623 := says_of (fun x h => (by obtain rfl := List.mem_singleton.1 h; exact say669)) runs623
theorem say550 : Says 550 := says_of (fun x h => (by obtain rfl := List.mem_singleton.1 h; exact say623)) runs550
theorem say553 : Says 553 := says_of (fun x h => (by cases h)) runs553
theorem say549 : Says 549 := says_of (fun x h => (by simp only [List.mem_cons, List.not_mem_nil, or_false] at h; rcases h with rfl | rfl; exact say626; exact say553)) runs549
theorem say290 : Says 290 := says_of (fun x h => (by simp only [List.mem_cons, List.not_mem_nil, or_false] at h; rcases h with rfl | rfl; exact say550; exact say549)) runs290
theorem say671 : Says 671 := says_of (fun x h => (by cases h)) runs671
theorem say625 : Says 625 := says_of (fun x h => (by simp only [List.mem_cons, List.not_mem_nil, or_false] at h; rcases h with rfl | rfl; exact say671; exact say623)) runs625
theorem say547 : Says 547 := says_of (fun x h => (by obtain rfl := List.mem_singleton.1 h; exact say625)) runs547
theorem say670 : Says 670 := says_of (fun x h => (by cases h)) runs670
theorem say624 : Says 624 := says_of (fun x h => (by obtain rfl := List.mem_singleton.1 h; exact say670)) runs624
theorem say552 : Says 552 := says_of (fun x h => (by cases h)) runs552
theorem say546 : Says 546 := says_of (fun x h => (by simp only [List.mem_cons, List.not_mem_nil, or_false] at h; rcases h with rfl | rfl | rfl | rfl; exact say549; exact say624; exact say623; exact say552)) runs546
theorem say289 : Says 289 := says_of (fun x h => (by simp only [List.mem_cons, List.not_mem_nil, or_false] at h; rcases h with rfl | rfl; exact say547; exact say546)) runs289
theorem say673 : Says 673 := says_of (fun x h => (by simp only [List.mem_cons, List.not_mem_nil, or_false] at h; rcases h with rfl | rfl; exact say670; exact say619)) runs673
theorem say627 : Says 627 := says_of (fun x h => (by obtain rfl := List.mem_singleton.1 h; exact say673)) runs627
theorem say551 : Says 551 := says_of (fun x h => (by obtain rfl := List.mem_singleton.1 h; exact say627)) runs551
theorem say291 : Says 291 := says_of (fun x h => (by simp only [List.mem_cons, List.not_mem_nil, or_false] at h; rcases h with rfl | rfl | rfl; exact say553; exact say552; exact say551)) runs291
theorem say60 : Says 60 := says_of (fun x h => (by simp only [List.mem_cons, List.not_mem_nil, or_false] at h; rcases h with rfl | rfl | rfl | rfl; exact say290; exact say289; exact say288; exact say291)) runs60
theorem sayg22 : SaysG 22 := saysG_of (fun x h => (by obtain rfl := List.mem_singleton.1 h; exact say60)) (fun x h => (by obtain rfl := List.mem_singleton.1 h; exact sayg61)) runs22
theorem sayg7 : SaysG 7 := saysG_of (fun x h => (by cases h)) (fun x h => (by obtain rfl := List.mem_singleton.1 h; exact sayg22)) runs7
end Go.Proofs.YtfbdfgbhmpfjcaaGreatDoor
