/- strongboxref1.Made: the roots of eight primes: by the kernel's own reckoning. Printed by mkroots.py. -/
import Derived.Test.YticmnckkhbniaaaDoorPHashSumsx3
import Derived.Test.YticmnckkhbniaaaDoorSha
namespace Go.Proofs.YticmnckkhbniaaaDoor.PHashSums
open Go Sbx
set_option maxHeartbeats 4000000
set_option maxRecDepth 1000000
theorem cube32 : (strongboxref1_root.f 200 137 true == some ((ks.getD 32 0 : Nat) : Int)) = true := by decide +kernel
theorem cube33 : (strongboxref1_root.f 200 139 true == some ((ks.getD 33 0 : Nat) : Int)) = true := by decide +kernel
theorem cube34 : (strongboxref1_root.f 200 149 true == some ((ks.getD 34 0 : Nat) : Int)) = true := by decide +kernel
theorem cube35 : (strongboxref1_root.f 200 151 true == some ((ks.getD 35 0 : Nat) : Int)) = true := by decide +kernel
theorem cube36 : (strongboxref1_root.f 200 157 true == some ((ks.getD 36 0 : Nat) : Int)) = true := by decide +kernel
theorem cube37 : (strongboxref1_root.f 200 163 true == some ((ks.getD 37 0 : Nat) : Int)) = true := by decide +kernel
theorem cube38 : (strongboxref1_root.f 200 167 true == some ((ks.getD 38 0 : Nat) : Int)) = true := by decide +kernel
theorem cube39 : (strongboxref1_root.f 200 173 true == some ((ks.getD 39 0 : Nat) : Int)) = true := by decide +kernel
theorem square4 : (strongboxref1_root.f 200 11 false == some ((iv.e : Nat) : Int)) = true := by decide +kernel
end Go.Proofs.YticmnckkhbniaaaDoor.PHashSums
