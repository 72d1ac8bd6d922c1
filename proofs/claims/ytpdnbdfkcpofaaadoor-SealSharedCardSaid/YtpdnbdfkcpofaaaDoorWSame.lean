/- hash.Same. -/
import Derived.Test.YtpdnbdfkcpofaaaDoorRMac
namespace Go.Proofs.YtpdnbdfkcpofaaaDoor
open Go.RowKit Sbx Go.Sort

theorem byte_at (t : List UInt8) (k : Nat) (h : k < t.length) : ∃ b, b = t.getD k 0 ∧ ∃ hb : k < (⟨t.toArray⟩ : ByteArray).size, (⟨t.toArray⟩ : ByteArray)[k] = b := ⟨_, rfl, h, str_get t k h⟩
theorem take_eq_succ (s t : List UInt8) (k : Nat) (h1 : k < s.length) (h2 : k < t.length) : s.take (k + 1) = t.take (k + 1) ↔ s.take k = t.take k ∧ s.getD k 0 = t.getD k 0 := by
  rw [List.take_succ_eq_append_getElem h1, List.take_succ_eq_append_getElem h2, List.getD_eq_getElem?_getD, List.getD_eq_getElem?_getD, List.getElem?_eq_getElem h1, List.getElem?_eq_getElem h2]
  constructor
  · intro h
    have := List.append_inj' h rfl
    exact ⟨this.1, by simpa using this.2⟩
  · rintro ⟨e1, e2⟩
    simp only [Option.getD_some] at e2
    rw [e1, e2]

set_option maxRecDepth 100000 in
theorem same_any (s t : List UInt8) (w : World) (hs : s.length ≤ 140737488355328) (ht : t.length ≤ 140737488355328) :
    Calls Tryd.prog 40 #[.string ⟨s.toArray⟩, .string ⟨t.toArray⟩] w fun e w' => e = .returned (.bool (s == t)) ∧ Below w.heap.size w w' := by
  obtain ⟨r, er⟩ : ∃ r, r = (s == t) := ⟨_, rfl⟩
  rw [← er]
  have ER := Lib.hid er
  clear er
  by_cases hl : s.length = t.length
  · have hq : ((s.length : Int) != (t.length : Int)) = false := by rw [bne_eq_false_iff_eq]; omega
    have HL := Lib.hid hl
    have hle : (s.length : Int) ≤ 140737488355328 := by omega
    clear hl hs ht
    go_enter Tryd.func40, Tryd.ntmps40
    go_wp2_with fail
    clear hq
    go_loopw [5, 6, 14] (fun v5 v6 v14 wr => ∃ k : Nat, k ≤ s.length ∧ v14 = .int .i64 k ∧ (∃ x : UInt8, v5 = .int .u8 (x.toNat : Int) ∧ Hid (x = 0 ↔ s.take k = t.take k)) ∧ Hid (Below w.heap.size w wr))
      (fun _ _ v14 _ => s.length - (intOf v14).toNat)
    case atStart => exact ⟨0, by omega, rfl, ⟨0, rfl, by simp [Hid]⟩, Below.refl _ _⟩
    case round =>
      obtain ⟨k, hk, hv, ⟨x, hx, hX⟩, hBr⟩ := hrel
      subst hv
      subst hx
      by_cases hlt : k < s.length
      · obtain ⟨a, ea, ha0, ha⟩ := byte_at s k hlt
        obtain ⟨b, eb, hb0, hb⟩ := byte_at t k (by rw [← HL.out]; exact hlt)
        have hst := take_eq_succ s t k hlt (by rw [← HL.out]; exact hlt)
        rw [← ea, ← eb, ← hX.out, ← UInt8.xor_eq_zero_iff (a := a) (b := b), ← UInt8.or_eq_zero_iff] at hst
        have HS := Lib.hid hst
        have q1 : bits .xor .u8 (a.toNat : Int) (b.toNat : Int) = ((a.toNat ^^^ b.toNat : Nat) : Int) := u8_xor_nat _ _ a.toNat_lt b.toNat_lt
        have q2 : bits .or .u8 (x.toNat : Int) ((a.toNat ^^^ b.toNat : Nat) : Int) = ((x.toNat ||| (a.toNat ^^^ b.toNat) : Nat) : Int) := by
          have := (a ^^^ b).toNat_lt
          rw [UInt8.toNat_xor] at this
          exact u8_or_nat _ _ x.toNat_lt this
        have k0 : (0 : Int) ≤ (k : Int) := by omega
        have k1 : (k : Int) < (s.length : Int) := by omega
        have k2 : (k : Int) < (t.length : Int) := by have := HL.out; omega
        clear ea eb hst
        go_wp2_with fail
        go_quiet (fail)
        go_wp2_with fail
        go_roundw
        case rel => exact ⟨k + 1, by omega, by go_num, ⟨x ||| (a ^^^ b), by rw [UInt8.toNat_or, UInt8.toNat_xor], HS.out.symm⟩, drewN_below hBr.out _⟩
        case measure => simp [intOf]; omega
      · obtain rfl : k = s.length := by omega
        have hfin := hX.out
        rw [List.take_of_length_le (Nat.le_refl _), List.take_of_length_le (by rw [HL.out]; exact Nat.le_refl _)] at hfin
        have hr : ((x.toNat : Int) == 0) = r := by
          rw [ER.out, Bool.eq_iff_iff, beq_iff_eq, beq_iff_eq, ← hfin]
          constructor
          · intro h; exact UInt8.toNat_inj.1 (by simpa using h)
          · intro h; rw [h]; rfl
        clear hfin
        go_wp2_with fail
        go_ret
        exact ⟨rfl, hBr.out⟩
  · have hq : ((s.length : Int) != (t.length : Int)) = true := by rw [bne_iff_ne]; omega
    have hr : r = false := by rw [ER.out]; exact beq_eq_false_iff_ne.2 (fun h => hl (by rw [h]))
    rw [hr]
    clear hr hl
    go_enter Tryd.func40, Tryd.ntmps40
    go_wp2_with fail
    go_ret
    exact ⟨rfl, Below.refl _ _⟩
end Go.Proofs.YtpdnbdfkcpofaaaDoor
