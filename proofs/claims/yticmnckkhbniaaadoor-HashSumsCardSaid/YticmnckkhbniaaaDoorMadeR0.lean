/- strongboxref1.Made: the roots of eight primes: by the kernel's own reckoning. Printed by mkroots.py. -/
import Derived.Test.YticmnckkhbniaaaDoorPHashSumsx3
import Derived.Test.YticmnckkhbniaaaDoorSha
namespace Go.Proofs.YticmnckkhbniaaaDoor.PHashSums
open Go Sbx
set_option maxHeartbeats 4000000
set_option maxRecDepth 1000000
theorem cube0 : (strongboxref1_root.f 200 2 true == some ((ks.getD 0 0 : Nat) : Int)) = true := by decide +kernel
theorem cube1 : (strongboxref1_root.f 200 3 true == some ((ks.getD 1 0 : Nat) : Int)) = true := by decide +kernel
theorem cube2 : (strongboxref1_root.f 200 5 true == some ((ks.getD 2 0 : Nat) : Int)) = true := by decide +kernel
theorem cube3 : (strongboxref1_root.f 200 7 true == some ((ks.getD 3 0 : Nat) : Int)) = true := by decide +kernel
theorem cube4 : (strongboxref1_root.f 200 11 true == some ((ks.getD 4 0 : Nat) : Int)) = true := by decide +kernel
theorem cube5 : (strongboxref1_root.f 200 13 true == some ((ks.getD 5 0 : Nat) : Int)) = true := by decide +kernel
theorem cube6 : (strongboxref1_root.f 200 17 true == some ((ks.getD 6 0 : Nat) : Int)) = true := by decide +kernel
theorem cube7 : (strongboxref1_root.f 200 19 true == some ((ks.getD 7 0 : Nat) : Int)) = true := by decide +kernel
theorem square0 : (strongboxref1_root.f 200 2 false == some ((iv.a : Nat) : Int)) = true := by decide +kernel
end Go.Proofs.YticmnckkhbniaaaDoor.PHashSums
