/- strongboxref1.Made: the roots of eight primes: by the kernel's own reckoning. Printed by mkroots.py. -/
import Derived.Test.YticmnckkhbniaaaDoorPHashSumsx3
import Derived.Test.YticmnckkhbniaaaDoorSha
namespace Go.Proofs.YticmnckkhbniaaaDoor.PHashSums
open Go Sbx
set_option maxHeartbeats 4000000
set_option maxRecDepth 1000000
theorem cube16 : (strongboxref1_root.f 200 59 true == some ((ks.getD 16 0 : Nat) : Int)) = true := by decide +kernel
theorem cube17 : (strongboxref1_root.f 200 61 true == some ((ks.getD 17 0 : Nat) : Int)) = true := by decide +kernel
theorem cube18 : (strongboxref1_root.f 200 67 true == some ((ks.getD 18 0 : Nat) : Int)) = true := by decide +kernel
theorem cube19 : (strongboxref1_root.f 200 71 true == some ((ks.getD 19 0 : Nat) : Int)) = true := by decide +kernel
theorem cube20 : (strongboxref1_root.f 200 73 true == some ((ks.getD 20 0 : Nat) : Int)) = true := by decide +kernel
theorem cube21 : (strongboxref1_root.f 200 79 true == some ((ks.getD 21 0 : Nat) : Int)) = true := by decide +kernel
theorem cube22 : (strongboxref1_root.f 200 83 true == some ((ks.getD 22 0 : Nat) : Int)) = true := by decide +kernel
theorem cube23 : (strongboxref1_root.f 200 89 true == some ((ks.getD 23 0 : Nat) : Int)) = true := by decide +kernel
theorem square2 : (strongboxref1_root.f 200 5 false == some ((iv.c : Nat) : Int)) = true := by decide +kernel
end Go.Proofs.YticmnckkhbniaaaDoor.PHashSums
