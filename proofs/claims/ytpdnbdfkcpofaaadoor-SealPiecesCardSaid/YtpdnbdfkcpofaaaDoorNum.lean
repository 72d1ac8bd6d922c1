/- seal.number: the spec 'num'; the walk. -/
import Derived.Test.YtpdnbdfkcpofaaaDoorRMac
import Derived.Laws.MakeOwn
namespace Sbx
/-- n by k bytes, the highest first -/
def num (n : Nat) : Nat → List UInt8
  | 0 => []
  | k + 1 => (n / 256 ^ k).toUInt8 :: num n k
theorem num_length (n : Nat) : ∀ k, (num n k).length = k
  | 0 => rfl
  | k + 1 => by simp [num, num_length n k]
/-- what lies in the bytes when the lowest j are written -/
def numA (n k j : Nat) : List UInt8 := List.replicate (k - j) 0 ++ num n j
theorem numA_length (n k j : Nat) (h : j ≤ k) : (numA n k j).length = k := by simp [numA, num_length]; omega
theorem numA_zero (n k : Nat) : numA n k 0 = List.replicate k 0 := by simp [numA, num]
theorem numA_all (n k : Nat) : numA n k k = num n k := by simp [numA]
theorem numA_set (n k j : Nat) (h : j < k) : (numA n k j).set (k - 1 - j) (n / 256 ^ j).toUInt8 = numA n k (j + 1) := by
  have e : k - j = (k - 1 - j) + 1 := by omega
  have e2 : k - (j + 1) = k - 1 - j := by omega
  unfold numA
  rw [e, List.replicate_succ', List.append_assoc, List.set_append_right _ _ (by simp), List.length_replicate, Nat.sub_self, e2]
  rfl
theorem num_div (n j : Nat) : n / 256 ^ (j + 1) = n / 256 ^ j / 256 := by rw [Nat.pow_succ, Nat.div_div_eq_div_mul]
theorem num_byte (n : Nat) : ((n : Int) % 256) = (n.toUInt8.toNat : Int) := by simp
end Sbx
namespace Go.Proofs.YtpdnbdfkcpofaaaDoor
open Go.RowKit Sbx Go.Sort

theorem made_bytes (n : Nat) : madeCells #[Value.int .u8 0] n = (b8s (List.replicate n 0)).toArray := by
  apply Array.ext'
  simp only [madeCells, b8s, Array.toList_map, Array.toList_range, List.map_replicate]
  rw [List.eq_replicate_iff]
  refine ⟨by simp, fun b hb => ?_⟩
  obtain ⟨x, _, rfl⟩ := List.mem_map.1 hb
  simp [Nat.mod_one]
theorem make_n (n : Nat) (z : Int) (hz : z = (n : Int)) (hn : n ≤ 281474976710656) (w : World) :
    (Instr.makeSlice 44 (.int .i64 z) (.int .i64 z)).run Tryd.prog w = .ok (.slice (some ⟨w.heap.size, 0, none⟩) n n) (w.alloc (.cells (b8s (List.replicate n 0)).toArray 5)) := by
  obtain ⟨i0, hi, hz0, hz1, hz2⟩ := info_parts info_u8
  have h := run_make (P := Tryd.prog) w 44 5 i0 (.int .u8 0) Tryd.underlying44 hi hz0 .i64 .i64 z z (by omega) (Int.le_refl _) (by rw [hz2]; omega) (by omega)
  have e : z.toNat = n := by omega
  rw [e, hz1, Nat.mul_one] at h
  rw [← made_bytes]
  exact h

set_option maxRecDepth 100000 in
set_option maxHeartbeats 1000000 in
theorem number_any (n k : Nat) (w : World) (hn : n ≤ 9223372036854775807) (hk : k ≤ 64) :
    Calls Tryd.prog 56 #[.int .i64 (n : Int), .int .i64 (k : Int)] w fun e w' => e = .returned (.string ⟨(num n k).toArray⟩) ∧ Below w.heap.size w w' := by
  have hmk := make_n k (k : Int) rfl (by omega) w
  have HN := Lib.hid hn
  have HK := Lib.hid hk
  clear hn hk
  go_enter Tryd.func56, Tryd.ntmps56
  go_wp2_with fail
  clear hmk
  have h0 : (w.alloc (.cells (b8s (List.replicate k 0)).toArray 5)).heap[w.heap.size]? = some (.cells (b8s (numA n k 0)).toArray 5 (0, 0)) := by rw [numA_zero]; exact heap_alloc_new w _
  have hB0 : Below w.heap.size w (w.alloc (.cells (b8s (List.replicate k 0)).toArray 5)) := (Below.refl _ _).alloc (Nat.le_refl _) _
  have H0 := Lib.hid (And.intro h0 hB0)
  clear h0 hB0
  go_loopw [0, 6, 11] (fun v0 v6 v11 wr => ∃ j : Nat, j ≤ k ∧ v0 = .int .i64 ((n / 256 ^ j : Nat) : Int) ∧ v11 = .int .i64 j ∧ Hid (wr.heap[w.heap.size]? = some (.cells (b8s (numA n k j)).toArray 5 (0, 0))) ∧ Hid (Below w.heap.size w wr))
    (fun _ _ v11 _ => k - (intOf v11).toNat)
  case atStart => exact ⟨0, by omega, by simp, rfl, H0.out.1, H0.out.2⟩
  case round =>
    clear H0
    obtain ⟨j, hj, hv0, hv, hC, hBr⟩ := hrel
    by_cases hlt : j < k
    · subst hv
      obtain ⟨q, eq⟩ : ∃ q, q = n / 256 ^ j := ⟨_, rfl⟩
      rw [← eq] at hv0
      subst hv0
      have hq : q ≤ 9223372036854775807 := by rw [eq]; exact Nat.le_trans (Nat.div_le_self _ _) HN.out
      have EQ := Lib.hid eq
      clear eq
      obtain ⟨i, ei⟩ : ∃ i, i = k - 1 - j := ⟨_, rfl⟩
      have hsz : (b8s (numA n k j)).toArray.size = k := by rw [List.size_toArray, b8s_length, numA_length _ _ _ hj]
      obtain ⟨v0, c0⟩ : ∃ v, wr.cell? ⟨w.heap.size, i, none⟩ = some v := cell_ex hC.out (by rw [hsz]; omega)
      have f0 : wr.frozen? ⟨w.heap.size, i, none⟩ = false := frozen_of_row wr _ _ _ _ hC.out
      have hi : (k : Int) - 1 - (j : Int) = (i : Int) := by omega
      have i0 : (0 : Int) ≤ (i : Int) := by omega
      have ik : (i : Int) < (k : Int) := by omega
      have jk : (j : Int) < (k : Int) := by omega
      have hk64 : (k : Int) ≤ 64 := by have := HK.out; omega
      have hq0 : (0 : Int) ≤ (q : Int) := by omega
      have hq1 : (q : Int) ≤ 9223372036854775807 := by omega
      have EI := Lib.hid ei
      clear hsz ei hq hlt
      go_wp2_with fail
      go_roundw
      case rel =>
        refine ⟨j + 1, by omega, ?_, by go_num, ?_, hBr.out.setCell (p := ⟨w.heap.size, i, none⟩) (Nat.le_refl _) _⟩
        · rw [num_div, ← EQ.out]; simp
        · have e1 := heap_setCell_same wr w.heap.size i _ _ (.int .u8 (q.toUInt8.toNat : Int)) hC.out
          rw [b8s_arr_set, EI.out, EQ.out, numA_set _ _ _ (by omega)] at e1
          rw [num_byte, EQ.out, EI.out]
          exact e1
      case measure => simp [intOf]; omega
    · obtain rfl : j = k := by omega
      subst hv
      have hC' := hC.out
      rw [numA_all] at hC'
      have hcv := run_convert_b8 (P := Tryd.prog) (src := 44) (dst := 9) (e := 5) Tryd.underlying44 Tryd.underlying5 Tryd.underlying9 ⟨w.heap.size, 0, none⟩ (num n j) j wr (fun i hi => by
        rw [addr_add, Nat.zero_add, cell_of_row wr _ _ _ _ _ hC', b8s_arr_get _ _ hi])
      rw [num_length] at hcv
      clear hC'
      go_wp2_with fail
      go_ret
      exact ⟨rfl, hBr.out⟩
end Go.Proofs.YtpdnbdfkcpofaaaDoor
