/- strongboxref1.Made: the roots of eight primes: by the kernel's own reckoning. Printed by mkroots.py. -/
import Derived.Test.YticmnckkhbniaaaDoorPHashSumsx3
import Derived.Test.YticmnckkhbniaaaDoorSha
namespace Go.Proofs.YticmnckkhbniaaaDoor.PHashSums
open Go Sbx
set_option maxHeartbeats 4000000
set_option maxRecDepth 1000000
theorem cube8 : (strongboxref1_root.f 200 23 true == some ((ks.getD 8 0 : Nat) : Int)) = true := by decide +kernel
theorem cube9 : (strongboxref1_root.f 200 29 true == some ((ks.getD 9 0 : Nat) : Int)) = true := by decide +kernel
theorem cube10 : (strongboxref1_root.f 200 31 true == some ((ks.getD 10 0 : Nat) : Int)) = true := by decide +kernel
theorem cube11 : (strongboxref1_root.f 200 37 true == some ((ks.getD 11 0 : Nat) : Int)) = true := by decide +kernel
theorem cube12 : (strongboxref1_root.f 200 41 true == some ((ks.getD 12 0 : Nat) : Int)) = true := by decide +kernel
theorem cube13 : (strongboxref1_root.f 200 43 true == some ((ks.getD 13 0 : Nat) : Int)) = true := by decide +kernel
theorem cube14 : (strongboxref1_root.f 200 47 true == some ((ks.getD 14 0 : Nat) : Int)) = true := by decide +kernel
theorem cube15 : (strongboxref1_root.f 200 53 true == some ((ks.getD 15 0 : Nat) : Int)) = true := by decide +kernel
theorem square1 : (strongboxref1_root.f 200 3 false == some ((iv.b : Nat) : Int)) = true := by decide +kernel
end Go.Proofs.YticmnckkhbniaaaDoor.PHashSums
