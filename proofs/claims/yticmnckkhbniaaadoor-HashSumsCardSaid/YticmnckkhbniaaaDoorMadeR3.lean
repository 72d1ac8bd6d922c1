/- strongboxref1.Made: the roots of eight primes: by the kernel's own reckoning. Printed by mkroots.py. -/
import Derived.Test.YticmnckkhbniaaaDoorPHashSumsx3
import Derived.Test.YticmnckkhbniaaaDoorSha
namespace Go.Proofs.YticmnckkhbniaaaDoor.PHashSums
open Go Sbx
set_option maxHeartbeats 4000000
set_option maxRecDepth 1000000
theorem cube24 : (strongboxref1_root.f 200 97 true == some ((ks.getD 24 0 : Nat) : Int)) = true := by decide +kernel
theorem cube25 : (strongboxref1_root.f 200 101 true == some ((ks.getD 25 0 : Nat) : Int)) = true := by decide +kernel
theorem cube26 : (strongboxref1_root.f 200 103 true == some ((ks.getD 26 0 : Nat) : Int)) = true := by decide +kernel
theorem cube27 : (strongboxref1_root.f 200 107 true == some ((ks.getD 27 0 : Nat) : Int)) = true := by decide +kernel
theorem cube28 : (strongboxref1_root.f 200 109 true == some ((ks.getD 28 0 : Nat) : Int)) = true := by decide +kernel
theorem cube29 : (strongboxref1_root.f 200 113 true == some ((ks.getD 29 0 : Nat) : Int)) = true := by decide +kernel
theorem cube30 : (strongboxref1_root.f 200 127 true == some ((ks.getD 30 0 : Nat) : Int)) = true := by decide +kernel
theorem cube31 : (strongboxref1_root.f 200 131 true == some ((ks.getD 31 0 : Nat) : Int)) = true := by decide +kernel
theorem square3 : (strongboxref1_root.f 200 7 false == some ((iv.d : Nat) : Int)) = true := by decide +kernel
end Go.Proofs.YticmnckkhbniaaaDoor.PHashSums
