/- strongboxref1.Made: the roots of eight primes: by the kernel's own reckoning. Printed by mkroots.py. -/
import Derived.Test.YticmnckkhbniaaaDoorPHashSumsx3
import Derived.Test.YticmnckkhbniaaaDoorSha
namespace Go.Proofs.YticmnckkhbniaaaDoor.PHashSums
open Go Sbx
set_option maxHeartbeats 4000000
set_option maxRecDepth 1000000
theorem cube48 : (strongboxref1_root.f 200 227 true == some ((ks.getD 48 0 : Nat) : Int)) = true := by decide +kernel
theorem cube49 : (strongboxref1_root.f 200 229 true == some ((ks.getD 49 0 : Nat) : Int)) = true := by decide +kernel
theorem cube50 : (strongboxref1_root.f 200 233 true == some ((ks.getD 50 0 : Nat) : Int)) = true := by decide +kernel
theorem cube51 : (strongboxref1_root.f 200 239 true == some ((ks.getD 51 0 : Nat) : Int)) = true := by decide +kernel
theorem cube52 : (strongboxref1_root.f 200 241 true == some ((ks.getD 52 0 : Nat) : Int)) = true := by decide +kernel
theorem cube53 : (strongboxref1_root.f 200 251 true == some ((ks.getD 53 0 : Nat) : Int)) = true := by decide +kernel
theorem cube54 : (strongboxref1_root.f 200 257 true == some ((ks.getD 54 0 : Nat) : Int)) = true := by decide +kernel
theorem cube55 : (strongboxref1_root.f 200 263 true == some ((ks.getD 55 0 : Nat) : Int)) = true := by decide +kernel
theorem square6 : (strongboxref1_root.f 200 17 false == some ((iv.g : Nat) : Int)) = true := by decide +kernel
end Go.Proofs.YticmnckkhbniaaaDoor.PHashSums
