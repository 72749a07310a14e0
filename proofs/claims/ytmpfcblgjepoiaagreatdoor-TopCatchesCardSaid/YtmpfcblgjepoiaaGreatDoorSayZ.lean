/- What the begun functions say. Conditions: none. -/
import Derived.Test.YtmpfcblgjepoiaaGreatDoorSayA
import Derived.Test.YtmpfcblgjepoiaaGreatDoorSayC
import Derived.Test.YtmpfcblgjepoiaaGreatDoorSayB
import Derived.Test.YtmpfcblgjepoiaaGreatDoorSayD
set_option linter.unusedVariables false
set_option linter.unusedSimpArgs false
set_option linter.constructorNameAsVariable false
set_option linter.unusedSectionVars false
namespace Go.Proofs.YtmpfcblgjepoiaaGreatDoor
open Go Go.Proofs Go.Proofs.YtmpfcblgjepoiaaGreatDoor.Ev
theorem say675 : Says 675 := says_of (fun x h => (by cases h)) runs675
theorem say640 : Says 640 := says_of (fun x h => (by obtain rfl := List.mem_singleton.1 h; exact say675)) runs640
theorem say602 : Says 602 := says_of (fun x h => (by obtain rfl := List.mem_singleton.1 h; exact say640)) runs602
theorem say490 : Says 490 := says_of (fun x h => (by obtain rfl := List.mem_singleton.1 h; exact say602)) runs490
theorem say679 : Says 679 := says_of (fun x h => (by obtain rfl := List.mem_singleton.1 h; exact say490)) runs679
theorem say644 : Says 644 := says_of (fun x h => (by obtain rfl := List.mem_singleton.1 h; exact say679)) runs644
theorem say683 : Says 683 := says_of (fun x h => (by obtain rfl := List.mem_singleton.1 h; exact say644)) runs683
theorem say676 : Says 676 := says_of (fun x h => (by obtain rfl := List.mem_singleton.1 h; exact say683)) runs676
theorem say641 : Says 641 := says_of (fun x h => (by obtain rfl := List.mem_singleton.1 h; exact say676)) runs641
theorem say611 : Says 611 := says_of (fun x h => (by cases h)) runs611
theorem say677 : Says 677 := says_of (fun x h => (by cases h)) runs677
theorem say642 : Says 642 := says_of (fun x h => (by obtain rfl := List.mem_singleton.1 h; exact say677)) runs642
theorem say612 : Says 612 := says_of (fun x h => (by cases h)) runs612
theorem say608 : Says 608 := says_of (fun x h => (by simp only [List.mem_cons, List.not_mem_nil, or_false] at h; rcases h with rfl | rfl; exact say644; exact say612)) runs608
theorem say605 : Says 605 := says_of (fun x h => (by simp only [List.mem_cons, List.not_mem_nil, or_false] at h; rcases h with rfl | rfl | rfl | rfl; exact say641; exact say611; exact say642; exact say608)) runs605
theorem say678 : Says 678 := says_of (fun x h => (by cases h)) runs678
theorem say643 : Says 643 := says_of (fun x h => (by simp only [List.mem_cons, List.not_mem_nil, or_false] at h; rcases h with rfl | rfl; exact say641; exact say678)) runs643
theorem say606 : Says 606 := says_of (fun x h => (by obtain rfl := List.mem_singleton.1 h; exact say643)) runs606
theorem say491 : Says 491 := says_of (fun x h => (by simp only [List.mem_cons, List.not_mem_nil, or_false] at h; rcases h with rfl | rfl; exact say605; exact say606)) runs491
theorem say609 : Says 609 := says_of (fun x h => (by obtain rfl := List.mem_singleton.1 h; exact say641)) runs609
theorem say492 : Says 492 := says_of (fun x h => (by simp only [List.mem_cons, List.not_mem_nil, or_false] at h; rcases h with rfl | rfl; exact say608; exact say609)) runs492
theorem say680 : Says 680 := says_of (fun x h => (by simp only [List.mem_cons, List.not_mem_nil, or_false] at h; rcases h with rfl | rfl; exact say677; exact say640)) runs680
theorem say645 : Says 645 := says_of (fun x h => (by obtain rfl := List.mem_singleton.1 h; exact say680)) runs645
theorem say610 : Says 610 := says_of (fun x h => (by obtain rfl := List.mem_singleton.1 h; exact say645)) runs610
theorem say493 : Says 493 := says_of (fun x h => (by simp only [List.mem_cons, List.not_mem_nil, or_false] at h; rcases h with rfl | rfl | rfl; exact say610; exact say611; exact say612)) runs493
theorem say241 : Says 241 := says_of (fun x h => (by simp only [List.mem_cons, List.not_mem_nil, or_false] at h; rcases h with rfl | rfl | rfl | rfl; exact say490; exact say491; exact say492; exact say493)) runs241
theorem sayg242 : SaysG 242 := saysG_of (fun x h => (by cases h)) (fun x h => (by cases h)) runs242
theorem sayg72 : SaysG 72 := saysG_of (fun x h => (by obtain rfl := List.mem_singleton.1 h; exact say241)) (fun x h => (by obtain rfl := List.mem_singleton.1 h; exact sayg242)) runs72
theorem sayg8 : SaysG 8 := saysG_of (fun x h => (by cases h)) (fun x h => (by obtain rfl := List.mem_singleton.1 h; exact sayg72)) runs8
end Go.Proofs.YtmpfcblgjepoiaaGreatDoor
