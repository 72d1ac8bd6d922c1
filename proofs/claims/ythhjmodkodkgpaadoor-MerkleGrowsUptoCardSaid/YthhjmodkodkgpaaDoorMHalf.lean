/- merkle.half; strongboxref19.below. -/
import Derived.Test.YthhjmodkodkgpaaDoorShelf
import Derived.Test.YthhjmodkodkgpaaDoorRSum
namespace Sbx
/-- the greatest power of two below n (n above 1) -/
def hf (n : Nat) : Nat := 2 ^ Nat.log2 (n - 1)
theorem hf_lt (n : Nat) (h : 2 ≤ n) : hf n < n := by
  have := Nat.log2_self_le (n := n - 1) (by omega)
  unfold hf; omega
theorem hf_ge (n : Nat) (h : 2 ≤ n) : n ≤ 2 * hf n := by
  have := Nat.lt_log2_self (n := n - 1)
  unfold hf
  rw [Nat.pow_succ] at this
  omega
theorem hf_pos (n : Nat) : 1 ≤ hf n := Nat.one_le_two_pow
theorem hf_unique (n e : Nat) (h1 : 2 ^ e < n) (h2 : n ≤ 2 * 2 ^ e) : hf n = 2 ^ e := by
  unfold hf
  have h3 : Nat.log2 (n - 1) = e := by
    apply Nat.le_antisymm
    · have h := Nat.log2_self_le (n := n - 1) (by have := Nat.one_le_two_pow (n := e); omega)
      have h4 : 2 ^ Nat.log2 (n - 1) < 2 ^ (e + 1) := by rw [Nat.pow_succ]; omega
      have := (Nat.pow_lt_pow_iff_right (by omega)).1 h4
      omega
    · have h := Nat.lt_log2_self (n := n - 1)
      have h4 : 2 ^ e < 2 ^ (Nat.log2 (n - 1) + 1) := by omega
      have := (Nat.pow_lt_pow_iff_right (by omega)).1 h4
      omega
  rw [h3]
end Sbx
namespace Go.Proofs.YthhjmodkodkgpaaDoor
open Go.RowKit Sbx Go.Sort

theorem bitLenAux_log : ∀ f x : Nat, 0 < x → x < 2 ^ f → Lib.bitLenAux f x = Nat.log2 x + 1
  | 0, x, h0, h => by simp at h; omega
  | f + 1, x, h0, h => by
    unfold Lib.bitLenAux
    rw [if_neg (by omega), Nat.log2_def]
    by_cases h2 : 2 ≤ x
    · rw [if_pos h2, bitLenAux_log f (x / 2) (by omega) (by rw [Nat.pow_succ] at h; omega)]
      omega
    · rw [if_neg h2, show x / 2 = 0 from by omega]
      have : Lib.bitLenAux f 0 = 0 := by cases f <;> rfl
      rw [this]
theorem bitLen_log (x : Nat) (h0 : 0 < x) (h : x < 2 ^ 64) : Lib.bitLen x = Nat.log2 x + 1 := bitLenAux_log 64 x h0 h

theorem half_any (n : Nat) (w : World) (h2 : 2 ≤ n) (hn : n ≤ 1000000000000) :
    Calls Tryd.prog 46 #[.int .i64 (n : Int)] w fun e w' => e = .returned (.int .i64 (hf n : Int)) ∧ w = w' := by
  obtain ⟨m, rfl⟩ : ∃ m, n = m + 1 := ⟨n - 1, by omega⟩
  have hlen := Tryd.bits_Len (m : Int) w (by omega) (by omega)
  rw [Int.toNat_natCast, bitLen_log m (by omega) (by omega)] at hlen
  obtain ⟨l, el⟩ : ∃ l, l = Nat.log2 m := ⟨_, rfl⟩
  have hl : l < 64 := by rw [el]; exact (Nat.log2_lt (by omega)).2 (by omega)
  have hp : 2 ^ l ≤ m := by rw [el]; exact Nat.log2_self_le (by omega)
  have hh : hf (m + 1) = 2 ^ l := by unfold hf; rw [Nat.add_sub_cancel, el]
  rw [← el] at hlen
  have HL := Lib.hid hlen
  have HH := Lib.hid (And.intro hh hp)
  have lz : (0 : Int) ≤ (l : Int) := by omega
  have l64 : (l : Int) < 64 := by omega
  have mz : (m : Int) ≤ 1000000000000 := by omega
  clear el hh hp hlen hn h2
  go_enter Tryd.func46, Tryd.ntmps46
  go_wp2_with (go_at_call 75; refine HL.out.mono ?_; clear HL; rintro e w' ⟨rfl, rfl⟩)
  have hw : wrap64 ((2 : Int) ^ l) = ((2 ^ l : Nat) : Int) := by
    have h1 : ((2 ^ l : Nat) : Int) = (2 : Int) ^ l := by simp
    have h2 : 2 ^ l ≤ m := HH.out.2
    rw [← h1]
    obtain ⟨z, ez⟩ : ∃ z, z = 2 ^ l := ⟨_, rfl⟩
    rw [← ez] at h2 ⊢
    unfold wrap64
    omega
  have HW := Lib.hid hw
  clear hw
  go_ret
  exact ⟨by rw [HH.out.1, ← HW.out]; rfl, rfl⟩

theorem below_any (n : Nat) (w : World) (h2 : 2 ≤ n) (hn : n ≤ 1000000000000) :
    Calls Tryd.prog 58 #[.int .i64 (n : Int)] w fun e w' => e = .returned (.int .i64 (hf n : Int)) ∧ w = w' := by
  have hnz : (n : Int) ≤ 1000000000000 := by omega
  go_enter Tryd.func58, Tryd.ntmps58
  go_wp2_with fail
  go_loopw [3] (fun v3 wr => ∃ k e : Nat, Hid (k = 2 ^ e) ∧ k < n ∧ 0 < k ∧ v3 = .int .i64 (k : Int) ∧ w = wr) (fun v3 _ => n - (intOf v3).toNat)
  case atStart => exact ⟨1, 0, rfl, by omega, by omega, rfl, rfl⟩
  case round =>
    obtain ⟨k, e, hk, hkn, hk0, rfl, rfl⟩ := hrel
    have k0 : (0 : Int) ≤ (k : Int) := by omega
    have k1 : (k : Int) < (n : Int) := by omega
    by_cases hlt : 2 * k < n
    · have hc : 2 * (k : Int) < (n : Int) := by omega
      go_wp2_with fail
      go_roundw
      case rel => exact ⟨2 * k, e + 1, by show 2 * k = _; rw [hk.out, Nat.pow_succ]; omega, hlt, by omega, by go_num, trivial⟩
      case measure => simp [intOf]; omega
    · have hc : ¬ 2 * (k : Int) < (n : Int) := by omega
      have hh : hf n = k := by rw [hk.out]; exact hf_unique n e (by rw [← hk.out]; exact hkn) (by rw [← hk.out]; omega)
      have HH := Lib.hid hh
      clear hh
      go_wp2_with fail
      go_ret
      exact ⟨by rw [HH.out]; rfl, rfl⟩
end Go.Proofs.YthhjmodkodkgpaaDoor
