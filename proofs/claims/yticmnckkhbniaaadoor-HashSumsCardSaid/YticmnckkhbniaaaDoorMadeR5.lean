/- strongboxref1.Made: the roots of eight primes: by the kernel's own reckoning. Printed by mkroots.py. -/
import Derived.Test.YticmnckkhbniaaaDoorPHashSumsx3
import Derived.Test.YticmnckkhbniaaaDoorSha
namespace Go.Proofs.YticmnckkhbniaaaDoor.PHashSums
open Go Sbx
set_option maxHeartbeats 4000000
set_option maxRecDepth 1000000
theorem cube40 : (strongboxref1_root.f 200 179 true == some ((ks.getD 40 0 : Nat) : Int)) = true := by decide +kernel
theorem cube41 : (strongboxref1_root.f 200 181 true == some ((ks.getD 41 0 : Nat) : Int)) = true := by decide +kernel
theorem cube42 : (strongboxref1_root.f 200 191 true == some ((ks.getD 42 0 : Nat) : Int)) = true := by decide +kernel
theorem cube43 : (strongboxref1_root.f 200 193 true == some ((ks.getD 43 0 : Nat) : Int)) = true := by decide +kernel
theorem cube44 : (strongboxref1_root.f 200 197 true == some ((ks.getD 44 0 : Nat) : Int)) = true := by decide +kernel
theorem cube45 : (strongboxref1_root.f 200 199 true == some ((ks.getD 45 0 : Nat) : Int)) = true := by decide +kernel
theorem cube46 : (strongboxref1_root.f 200 211 true == some ((ks.getD 46 0 : Nat) : Int)) = true := by decide +kernel
theorem cube47 : (strongboxref1_root.f 200 223 true == some ((ks.getD 47 0 : Nat) : Int)) = true := by decide +kernel
theorem square5 : (strongboxref1_root.f 200 13 false == some ((iv.f : Nat) : Int)) = true := by decide +kernel
end Go.Proofs.YticmnckkhbniaaaDoor.PHashSums
