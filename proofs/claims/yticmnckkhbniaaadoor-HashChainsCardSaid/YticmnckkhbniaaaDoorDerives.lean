/- Derived bytes as plain Lean. -/
import Derived.Test.YticmnckkhbniaaaDoorHMac
namespace Sbx
/-- the i-th Mac of a derivation -/
def dlast (k info : List UInt8) : Nat → List UInt8
  | 0 => []
  | i + 1 => hmac k (dlast k info i ++ info ++ [(i + 1).toUInt8])
/-- the first i of them, one behind the other -/
def dout (k info : List UInt8) : Nat → List UInt8
  | 0 => []
  | i + 1 => dout k info i ++ dlast k info (i + 1)
def derive (k info : List UInt8) (n : Nat) : List UInt8 := (dout k info ((n + 31) / 32)).take n
theorem dlast_length (k info : List UInt8) (i : Nat) : (dlast k info (i + 1)).length = 32 := hmac_length _ _
theorem dlast_le (k info : List UInt8) (i : Nat) : (dlast k info i).length ≤ 32 := by
  cases i with
  | zero => simp [dlast]
  | succ i => rw [dlast_length]; omega
theorem dout_length (k info : List UInt8) (i : Nat) : (dout k info i).length = 32 * i := by
  induction i with
  | zero => rfl
  | succ i ih => rw [dout, List.length_append, ih, dlast_length]; omega
theorem derive_length (k info : List UInt8) (n : Nat) : (derive k info n).length = n := by
  unfold derive
  rw [List.length_take, dout_length]
  omega
/-- more bytes begin alike -/
theorem dout_take (k info : List UInt8) (i j : Nat) (h : i ≤ j) : (dout k info j).take (32 * i) = dout k info i := by
  induction j with
  | zero => obtain rfl : i = 0 := by omega
            rfl
  | succ j ih =>
    by_cases e : i = j + 1
    · subst e; rw [List.take_of_length_le (by rw [dout_length]; exact Nat.le_refl _)]
    · rw [dout, List.take_append_of_le_length (by rw [dout_length]; omega), ih (by omega)]
theorem derive_take (k info : List UInt8) (m n : Nat) (h : m ≤ n) : (derive k info n).take m = derive k info m := by
  unfold derive
  rw [List.take_take, Nat.min_eq_left h, ← dout_take k info ((m + 31) / 32) ((n + 31) / 32) (by omega), List.take_take, Nat.min_eq_left (by omega)]
end Sbx
