/- strongboxref1.Made: the constants are the roots. Printed by mkroots.py. -/
import Derived.Test.YticmnckkhbniaaaDoorMadeR0
import Derived.Test.YticmnckkhbniaaaDoorMadeR1
import Derived.Test.YticmnckkhbniaaaDoorMadeR2
import Derived.Test.YticmnckkhbniaaaDoorMadeR3
import Derived.Test.YticmnckkhbniaaaDoorMadeR4
import Derived.Test.YticmnckkhbniaaaDoorMadeR5
import Derived.Test.YticmnckkhbniaaaDoorMadeR6
import Derived.Test.YticmnckkhbniaaaDoorMadeR7
namespace Go.Proofs.YticmnckkhbniaaaDoor.PHashSums
open Go Sbx

def prs : List Int := [2, 3, 5, 7, 11, 13, 17, 19, 23, 29, 31, 37, 41, 43, 47, 53, 59, 61, 67, 71, 73, 79, 83, 89, 97, 101, 103, 107, 109, 113, 127, 131, 137, 139, 149, 151, 157, 163, 167, 173, 179, 181, 191, 193, 197, 199, 211, 223, 227, 229, 233, 239, 241, 251, 257, 263, 269, 271, 277, 281, 283, 293, 307, 311]
theorem primes_eval : strongboxref1_primes.f 400 64 = some prs := by decide +kernel
theorem cube_at (i : Nat) (h : i < 64) : strongboxref1_root.f 200 (prs.getD i 0) true = some ((ks.getD i 0 : Nat) : Int) := by
  match i, h with
  | 0, _ => exact eq_of_beq cube0
  | 1, _ => exact eq_of_beq cube1
  | 2, _ => exact eq_of_beq cube2
  | 3, _ => exact eq_of_beq cube3
  | 4, _ => exact eq_of_beq cube4
  | 5, _ => exact eq_of_beq cube5
  | 6, _ => exact eq_of_beq cube6
  | 7, _ => exact eq_of_beq cube7
  | 8, _ => exact eq_of_beq cube8
  | 9, _ => exact eq_of_beq cube9
  | 10, _ => exact eq_of_beq cube10
  | 11, _ => exact eq_of_beq cube11
  | 12, _ => exact eq_of_beq cube12
  | 13, _ => exact eq_of_beq cube13
  | 14, _ => exact eq_of_beq cube14
  | 15, _ => exact eq_of_beq cube15
  | 16, _ => exact eq_of_beq cube16
  | 17, _ => exact eq_of_beq cube17
  | 18, _ => exact eq_of_beq cube18
  | 19, _ => exact eq_of_beq cube19
  | 20, _ => exact eq_of_beq cube20
  | 21, _ => exact eq_of_beq cube21
  | 22, _ => exact eq_of_beq cube22
  | 23, _ => exact eq_of_beq cube23
  | 24, _ => exact eq_of_beq cube24
  | 25, _ => exact eq_of_beq cube25
  | 26, _ => exact eq_of_beq cube26
  | 27, _ => exact eq_of_beq cube27
  | 28, _ => exact eq_of_beq cube28
  | 29, _ => exact eq_of_beq cube29
  | 30, _ => exact eq_of_beq cube30
  | 31, _ => exact eq_of_beq cube31
  | 32, _ => exact eq_of_beq cube32
  | 33, _ => exact eq_of_beq cube33
  | 34, _ => exact eq_of_beq cube34
  | 35, _ => exact eq_of_beq cube35
  | 36, _ => exact eq_of_beq cube36
  | 37, _ => exact eq_of_beq cube37
  | 38, _ => exact eq_of_beq cube38
  | 39, _ => exact eq_of_beq cube39
  | 40, _ => exact eq_of_beq cube40
  | 41, _ => exact eq_of_beq cube41
  | 42, _ => exact eq_of_beq cube42
  | 43, _ => exact eq_of_beq cube43
  | 44, _ => exact eq_of_beq cube44
  | 45, _ => exact eq_of_beq cube45
  | 46, _ => exact eq_of_beq cube46
  | 47, _ => exact eq_of_beq cube47
  | 48, _ => exact eq_of_beq cube48
  | 49, _ => exact eq_of_beq cube49
  | 50, _ => exact eq_of_beq cube50
  | 51, _ => exact eq_of_beq cube51
  | 52, _ => exact eq_of_beq cube52
  | 53, _ => exact eq_of_beq cube53
  | 54, _ => exact eq_of_beq cube54
  | 55, _ => exact eq_of_beq cube55
  | 56, _ => exact eq_of_beq cube56
  | 57, _ => exact eq_of_beq cube57
  | 58, _ => exact eq_of_beq cube58
  | 59, _ => exact eq_of_beq cube59
  | 60, _ => exact eq_of_beq cube60
  | 61, _ => exact eq_of_beq cube61
  | 62, _ => exact eq_of_beq cube62
  | 63, _ => exact eq_of_beq cube63
  | n + 64, h => exact absurd h (by omega)
theorem square_at (i : Nat) (h : i < 8) : strongboxref1_root.f 200 (prs.getD i 0) false = some ((([iv.a, iv.b, iv.c, iv.d, iv.e, iv.f, iv.g, iv.h] : List Nat).getD i 0 : Nat) : Int) := by
  match i, h with
  | 0, _ => exact eq_of_beq square0
  | 1, _ => exact eq_of_beq square1
  | 2, _ => exact eq_of_beq square2
  | 3, _ => exact eq_of_beq square3
  | 4, _ => exact eq_of_beq square4
  | 5, _ => exact eq_of_beq square5
  | 6, _ => exact eq_of_beq square6
  | 7, _ => exact eq_of_beq square7
  | n + 8, h => exact absurd h (by omega)
end Go.Proofs.YticmnckkhbniaaaDoor.PHashSums
