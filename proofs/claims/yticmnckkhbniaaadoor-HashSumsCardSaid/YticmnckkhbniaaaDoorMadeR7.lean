/- strongboxref1.Made: the roots of eight primes: by the kernel's own reckoning. Printed by mkroots.py. -/
import Derived.Test.YticmnckkhbniaaaDoorPHashSumsx3
import Derived.Test.YticmnckkhbniaaaDoorSha
namespace Go.Proofs.YticmnckkhbniaaaDoor.PHashSums
open Go Sbx
set_option maxHeartbeats 4000000
set_option maxRecDepth 1000000
theorem cube56 : (strongboxref1_root.f 200 269 true == some ((ks.getD 56 0 : Nat) : Int)) = true := by decide +kernel
theorem cube57 : (strongboxref1_root.f 200 271 true == some ((ks.getD 57 0 : Nat) : Int)) = true := by decide +kernel
theorem cube58 : (strongboxref1_root.f 200 277 true == some ((ks.getD 58 0 : Nat) : Int)) = true := by decide +kernel
theorem cube59 : (strongboxref1_root.f 200 281 true == some ((ks.getD 59 0 : Nat) : Int)) = true := by decide +kernel
theorem cube60 : (strongboxref1_root.f 200 283 true == some ((ks.getD 60 0 : Nat) : Int)) = true := by decide +kernel
theorem cube61 : (strongboxref1_root.f 200 293 true == some ((ks.getD 61 0 : Nat) : Int)) = true := by decide +kernel
theorem cube62 : (strongboxref1_root.f 200 307 true == some ((ks.getD 62 0 : Nat) : Int)) = true := by decide +kernel
theorem cube63 : (strongboxref1_root.f 200 311 true == some ((ks.getD 63 0 : Nat) : Int)) = true := by decide +kernel
theorem square7 : (strongboxref1_root.f 200 19 false == some ((iv.h : Nat) : Int)) = true := by decide +kernel
end Go.Proofs.YticmnckkhbniaaaDoor.PHashSums
