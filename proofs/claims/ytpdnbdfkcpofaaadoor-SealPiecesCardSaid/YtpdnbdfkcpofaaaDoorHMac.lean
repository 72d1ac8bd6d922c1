/- The keyed digest as plain Lean: HMAC over lists of bytes. -/
import Derived.Test.YtpdnbdfkcpofaaaDoorShaLaw
namespace Sbx
def hkey (k : List UInt8) : List UInt8 := if 64 < k.length then sha k else k
def hpad (k : List UInt8) : List UInt8 := k ++ List.replicate (64 - k.length) 0
def xorAll (x : UInt8) (l : List UInt8) : List UInt8 := l.map (· ^^^ x)
def hmac (k t : List UInt8) : List UInt8 := sha (xorAll 92 (hpad (hkey k)) ++ sha (xorAll 54 (hpad (hkey k)) ++ t))
theorem hkey_le (k : List UInt8) : (hkey k).length ≤ 64 := by
  unfold hkey
  split
  · rw [sha_length]; omega
  · omega
theorem hpad_length (k : List UInt8) (h : k.length ≤ 64) : (hpad k).length = 64 := by
  unfold hpad; simp; omega
theorem xorAll_length (x : UInt8) (l : List UInt8) : (xorAll x l).length = l.length := by simp [xorAll]
theorem hmac_length (k t : List UInt8) : (hmac k t).length = 32 := sha_length _
/-- the first n bytes are turned -/
def xorTo (x : UInt8) (n : Nat) (l : List UInt8) : List UInt8 := xorAll x (l.take n) ++ l.drop n
theorem xorTo_zero (x : UInt8) (l : List UInt8) : xorTo x 0 l = l := by simp [xorTo, xorAll]
theorem xorTo_all (x : UInt8) (n : Nat) (l : List UInt8) (h : l.length ≤ n) : xorTo x n l = xorAll x l := by
  simp [xorTo, List.take_of_length_le h, List.drop_of_length_le h]
theorem xorTo_length (x : UInt8) (n : Nat) (l : List UInt8) : (xorTo x n l).length = l.length := by
  simp [xorTo, xorAll_length]; omega
theorem xorTo_getD (x : UInt8) (n : Nat) (l : List UInt8) : (xorTo x n l).getD n 0 = l.getD n 0 := by
  unfold xorTo
  by_cases h : n < l.length
  · rw [List.getD_eq_getElem?_getD, List.getElem?_append_right (by simp [xorAll_length]; omega)]
    simp [xorAll_length, Nat.min_eq_left (Nat.le_of_lt h)]
  · have h1 : l.length ≤ n := by omega
    simp [List.getD_eq_getElem?_getD, xorAll, List.take_of_length_le h1, List.drop_of_length_le h1, h1]
theorem xorTo_set (x : UInt8) (n : Nat) (l : List UInt8) (h : n < l.length) : (xorTo x n l).set n (l.getD n 0 ^^^ x) = xorTo x (n + 1) l := by
  unfold xorTo
  rw [List.set_append_right _ _ (by simp [xorAll_length]; omega)]
  have e : n - (xorAll x (l.take n)).length = 0 := by simp [xorAll_length]; omega
  rw [e, List.drop_eq_getElem_cons h, List.set_cons_zero, List.take_succ_eq_append_getElem h, List.getD_eq_getElem?_getD, List.getElem?_eq_getElem h]
  unfold xorAll
  rw [List.map_append, List.append_assoc]
  rfl
end Sbx
namespace Sbx
/-- the first n bytes are laid and turned, the others are not laid yet -/
def fillTo (x : UInt8) (n : Nat) (p : List UInt8) : List UInt8 := xorAll x (p.take n) ++ List.replicate (64 - n) 0
theorem fillTo_zero (x : UInt8) (p : List UInt8) : fillTo x 0 p = List.replicate 64 0 := by simp [fillTo, xorAll]
theorem fillTo_all (x : UInt8) (p : List UInt8) (h : p.length = 64) : fillTo x 64 p = xorAll x p := by
  simp [fillTo, List.take_of_length_le (Nat.le_of_eq h)]
theorem fillTo_length (x : UInt8) (n : Nat) (p : List UInt8) (h : p.length = 64) (hn : n ≤ 64) : (fillTo x n p).length = 64 := by
  simp [fillTo, xorAll_length]; omega
theorem fillTo_getD (x : UInt8) (n : Nat) (p : List UInt8) (h : p.length = 64) (hn : n < 64) : (fillTo x n p).getD n 0 = 0 := by
  unfold fillTo
  rw [List.getD_eq_getElem?_getD, List.getElem?_append_right (by simp [xorAll_length]; omega)]
  have e : n - (xorAll x (p.take n)).length = 0 := by simp [xorAll_length]; omega
  rw [e, List.getElem?_replicate]
  split <;> rfl
theorem fillTo_set (x : UInt8) (n : Nat) (p : List UInt8) (h : p.length = 64) (hn : n < 64) : (fillTo x n p).set n (p.getD n 0 ^^^ x) = fillTo x (n + 1) p := by
  unfold fillTo
  have hl : n < p.length := by omega
  rw [List.set_append_right _ _ (by simp [xorAll_length]; omega)]
  have e : n - (xorAll x (p.take n)).length = 0 := by simp [xorAll_length]; omega
  rw [e, show 64 - n = (64 - (n + 1)) + 1 from by omega, List.replicate_succ, List.set_cons_zero, List.take_succ_eq_append_getElem hl, List.getD_eq_getElem?_getD, List.getElem?_eq_getElem hl]
  unfold xorAll
  rw [List.map_append, List.append_assoc]
  rfl
theorem set_set (l : List UInt8) (n : Nat) (a b : UInt8) : (l.set n a).set n b = l.set n b := by simp
theorem hpad_getD_lt (k : List UInt8) (n : Nat) (h : n < k.length) : (hpad k).getD n 0 = k.getD n 0 := by
  unfold hpad
  rw [List.getD_eq_getElem?_getD, List.getElem?_append_left h, ← List.getD_eq_getElem?_getD]
theorem hpad_getD_ge (k : List UInt8) (n : Nat) (h : k.length ≤ n) : (hpad k).getD n 0 = 0 := by
  unfold hpad
  rw [List.getD_eq_getElem?_getD, List.getElem?_append_right h, List.getElem?_replicate]
  split <;> rfl
end Sbx
