/- Bytes as signs, as plain Lean. -/
import Derived.Lib.Bytealg
namespace Sbx
def digits : List UInt8 := [48, 49, 50, 51, 52, 53, 54, 55, 56, 57, 97, 98, 99, 100, 101, 102]
def hexd (n : Nat) : UInt8 := digits.getD n 0
def hexb (b : UInt8) : List UInt8 := [hexd (b.toNat / 16), hexd (b.toNat % 16)]
def hex (t : List UInt8) : List UInt8 := t.flatMap hexb
def val (c : UInt8) : Int := Go.Lib.indexByte digits c
def unhex : List UInt8 → Option (List UInt8)
  | [] => some []
  | [_] => none
  | a :: b :: r => if val a < 0 ∨ val b < 0 then none else (unhex r).map fun l => ((val a).toNat * 16 + (val b).toNat).toUInt8 :: l
theorem val_all : ∀ n, n < 256 → (val n.toUInt8 = -1 ∨ (0 ≤ val n.toUInt8 ∧ val n.toUInt8 < 16 ∧ hexd (val n.toUInt8).toNat = n.toUInt8)) := by decide +kernel
theorem val_cases (c : UInt8) : val c = -1 ∨ (0 ≤ val c ∧ val c < 16 ∧ hexd (val c).toNat = c) := by
  have := val_all c.toNat c.toNat_lt
  simpa using this
theorem val_hexd : ∀ n, n < 16 → val (hexd n) = n := by decide +kernel
theorem hex_length (t : List UInt8) : (hex t).length = 2 * t.length := by
  induction t with
  | nil => rfl
  | cons b t ih => simp only [hex, List.flatMap_cons, List.length_append, List.length_cons] at ih ⊢; rw [ih]; simp [hexb]; omega
theorem hex_cons (b : UInt8) (t : List UInt8) : hex (b :: t) = hexd (b.toNat / 16) :: hexd (b.toNat % 16) :: hex t := rfl
theorem hex_snoc (t : List UInt8) (k : Nat) (h : k < t.length) : hex (t.take (k + 1)) = hex (t.take k) ++ hexb (t.getD k 0) := by
  rw [List.take_succ_eq_append_getElem h, List.getD_eq_getElem?_getD, List.getElem?_eq_getElem h]
  simp only [hex, List.flatMap_append, List.flatMap_cons, List.flatMap_nil, List.append_nil, Option.getD_some]
theorem unhex_hex (t : List UInt8) : unhex (hex t) = some t := by
  induction t with
  | nil => rfl
  | cons b t ih =>
    rw [hex_cons]
    have hb := b.toNat_lt
    have h1 := val_hexd (b.toNat / 16) (by omega)
    have h2 := val_hexd (b.toNat % 16) (by omega)
    simp only [unhex]
    rw [h1, h2, if_neg (by omega), ih]
    simp only [Option.map_some, Option.some.injEq, List.cons.injEq, and_true, Int.toNat_natCast]
    rw [show b.toNat / 16 * 16 + b.toNat % 16 = b.toNat from by omega]
    simp
theorem hex_unhex : ∀ (t c : List UInt8), unhex t = some c → hex c = t
  | [], c, h => by simp only [unhex, Option.some.injEq] at h; rw [← h]; rfl
  | [_], c, h => by simp [unhex] at h
  | a :: b :: r, c, h => by
    simp only [unhex] at h
    split at h
    · cases h
    · rename_i hn
      simp only [Option.map_eq_some_iff] at h
      obtain ⟨l, hl, rfl⟩ := h
      have ih := hex_unhex r l hl
      rcases val_cases a with ha | ⟨a0, a1, a2⟩
      · omega
      · rcases val_cases b with hb | ⟨b0, b1, b2⟩
        · omega
        · have hm : ((val a).toNat * 16 + (val b).toNat).toUInt8.toNat = (val a).toNat * 16 + (val b).toNat := by
            simp; omega
          rw [hex_cons, hm, ih, show ((val a).toNat * 16 + (val b).toNat) / 16 = (val a).toNat from by omega, show ((val a).toNat * 16 + (val b).toNat) % 16 = (val b).toNat from by omega, a2, b2]
theorem unhex_even : ∀ (t c : List UInt8), unhex t = some c → t.length = 2 * c.length
  | t, c, h => by rw [← hex_unhex t c h, hex_length]
/-- the pairs ahead of place k are read -/
theorem unhex_append : ∀ (p q : List UInt8) (c : List UInt8), unhex p = some c → unhex (p ++ q) = (unhex q).map (c ++ ·)
  | [], q, c, h => by simp only [unhex, Option.some.injEq] at h; subst h; simp
  | [_], q, c, h => by simp [unhex] at h
  | a :: b :: r, q, c, h => by
    simp only [unhex] at h
    split at h
    · cases h
    · rename_i hn
      simp only [Option.map_eq_some_iff] at h
      obtain ⟨l, hl, rfl⟩ := h
      simp only [List.cons_append, unhex]
      rw [if_neg hn, unhex_append r q l hl]
      cases unhex q <;> simp
end Sbx
namespace Sbx
theorem unhex_odd (t : List UInt8) (h : t.length % 2 = 1) : unhex t = none := by
  cases e : unhex t with
  | none => rfl
  | some l => have := unhex_even t l e; omega
theorem unhex_two (a b : UInt8) : unhex [a, b] = if val a < 0 ∨ val b < 0 then none else some [((val a).toNat * 16 + (val b).toNat).toUInt8] := by
  simp [unhex]
theorem unhex_step (t : List UInt8) (k : Nat) (l : List UInt8) (h : unhex (t.take (2 * k)) = some l) (hk : 2 * k + 1 < t.length) (h0 : 0 ≤ val (t.getD (2 * k) 0)) (h1 : 0 ≤ val (t.getD (2 * k + 1) 0)) :
    unhex (t.take (2 * (k + 1))) = some (l ++ [((val (t.getD (2 * k) 0)).toNat * 16 + (val (t.getD (2 * k + 1) 0)).toNat).toUInt8]) := by
  have e : t.take (2 * (k + 1)) = t.take (2 * k) ++ [t.getD (2 * k) 0, t.getD (2 * k + 1) 0] := by
    rw [show 2 * (k + 1) = 2 * k + 1 + 1 from by omega, List.take_succ_eq_append_getElem hk, List.take_succ_eq_append_getElem (by omega), List.append_assoc, List.getD_eq_getElem?_getD, List.getD_eq_getElem?_getD, List.getElem?_eq_getElem hk, List.getElem?_eq_getElem (by omega : 2 * k < t.length)]
    rfl
  rw [e, unhex_append _ _ _ h, unhex_two, if_neg (by omega)]
  rfl
theorem unhex_bad (t : List UInt8) (k : Nat) (l : List UInt8) (h : unhex (t.take (2 * k)) = some l) (hk : 2 * k + 1 < t.length) (hb : val (t.getD (2 * k) 0) < 0 ∨ val (t.getD (2 * k + 1) 0) < 0) : unhex t = none := by
  have e : t = t.take (2 * k) ++ (t.getD (2 * k) 0 :: t.getD (2 * k + 1) 0 :: t.drop (2 * k + 2)) := by
    conv => lhs; rw [← List.take_append_drop (2 * k) t, List.drop_eq_getElem_cons (by omega : 2 * k < t.length), List.drop_eq_getElem_cons hk]
    rw [List.getD_eq_getElem?_getD, List.getD_eq_getElem?_getD, List.getElem?_eq_getElem hk, List.getElem?_eq_getElem (by omega : 2 * k < t.length)]
    rfl
  rw [e, unhex_append _ _ _ h]
  simp only [unhex]
  rw [if_pos hb]
  rfl
end Sbx
