/- strongboxlaw2.shaped. -/
import Derived.Test.YtpdnbdfkcpofaaaDoorR2S
namespace Sbx
def shapeB (s : List UInt8) (i : Nat) : UInt8 := s.getD (i % s.length) 0 + (i / s.length).toUInt8
/-- a text of n bytes, made of a raw one -/
def shapeV (s : List UInt8) (n : Nat) : List UInt8 := if s.length = 0 then List.replicate n 0 else (List.range n).map (shapeB s)
theorem shapeV_length (s : List UInt8) (n : Nat) : (shapeV s n).length = n := by unfold shapeV; split <;> simp
theorem shapeV_getD (s : List UInt8) (n j : Nat) (h : j < n) (hs : s.length ≠ 0) : (shapeV s n).getD j 0 = shapeB s j := by
  unfold shapeV
  rw [if_neg hs, List.getD_eq_getElem?_getD, List.getElem?_map, List.getElem?_range h]
  rfl
/-- the bytes laid so far -/
def shapeTo (s : List UInt8) (n k : Nat) : List UInt8 := (shapeV s n).take k ++ List.replicate (n - k) 0
theorem shapeTo_length (s : List UInt8) (n k : Nat) (h : k ≤ n) : (shapeTo s n k).length = n := by simp [shapeTo, shapeV_length]; omega
theorem shapeTo_zero (s : List UInt8) (n : Nat) : shapeTo s n 0 = List.replicate n 0 := by simp [shapeTo]
theorem shapeTo_all (s : List UInt8) (n : Nat) : shapeTo s n n = shapeV s n := by
  unfold shapeTo
  rw [List.take_of_length_le (by rw [shapeV_length]; exact Nat.le_refl _)]; simp
theorem shapeTo_set (s : List UInt8) (n k : Nat) (h : k < n) (hs : s.length ≠ 0) : (shapeTo s n k).set k (shapeB s k) = shapeTo s n (k + 1) := by
  have hl : k < (shapeV s n).length := by rw [shapeV_length]; exact h
  unfold shapeTo
  rw [show n - k = (n - (k + 1)) + 1 from by omega, List.replicate_succ, List.set_append_right _ _ (by rw [List.length_take]; omega), List.length_take, show k - min k (shapeV s n).length = 0 from by omega, List.set_cons_zero,
    List.take_succ_eq_append_getElem hl, List.append_assoc]
  congr 2
  rw [← shapeV_getD s n k h hs, List.getD_eq_getElem?_getD, List.getElem?_eq_getElem hl]
  rfl
end Sbx
namespace Go.Proofs.YtpdnbdfkcpofaaaDoor
open Go.RowKit Sbx Go.Sort

theorem u8_add (a : UInt8) (q : Nat) : (((a.toNat : Int) + ((q : Int) % 256)) % 256) = ((a + q.toUInt8).toNat : Int) := by
  rw [UInt8.toNat_add]
  simp
theorem u8_add' (a : UInt8) (q : Nat) : (((a.toNat : Int) + (q : Int)) % 256) = ((a + q.toUInt8).toNat : Int) := by
  rw [UInt8.toNat_add]
  simp

set_option maxRecDepth 100000 in
set_option maxHeartbeats 1000000 in
theorem shaped_any (s : List UInt8) (n : Nat) (w : World) (hn : n ≤ 100000) (hn0 : 0 < n) (hs0 : s.length ≤ 9223372036854775807) :
    Calls Tryd.prog 16 #[.string ⟨s.toArray⟩, .int .i64 (n : Int)] w fun e w' => e = .returned (.string ⟨(shapeV s n).toArray⟩) ∧ Below w.heap.size w w' := by
  have hmk := make_n n (n : Int) rfl (by omega) w
  have hnz : (n : Int) ≤ 100000 := by omega
  have hcv := fun (W : World) (l : List UInt8) (hl : l.length = n) (hC : W.heap[w.heap.size]? = some (.cells (b8s l).toArray 5 (0, 0))) => run_convert_b8 (P := Tryd.prog) (src := 44) (dst := 9) (e := 5) Tryd.underlying44 Tryd.underlying5 Tryd.underlying9 ⟨w.heap.size, 0, none⟩ l n W (fun i hi => by
        rw [addr_add, Nat.zero_add, cell_of_row W _ _ _ _ _ hC, b8s_arr_get _ _ hi])
  have HCV := Lib.hid hcv
  clear hn hcv
  have h0 : (w.alloc (.cells (b8s (List.replicate n 0)).toArray 5)).heap[w.heap.size]? = some (.cells (b8s (shapeTo s n 0)).toArray 5 (0, 0)) := by rw [shapeTo_zero]; exact heap_alloc_new w _
  have hB0 : Below w.heap.size w (w.alloc (.cells (b8s (List.replicate n 0)).toArray 5)) := (Below.refl _ _).alloc (Nat.le_refl _) _
  have H0 := Lib.hid (And.intro h0 hB0)
  clear h0 hB0
  by_cases hs : s.length = 0
  · have hz : ((s.length : Int)) = 0 := by omega
    have hz2 : ¬ (0 : Int) < (s.length : Int) := by omega
    have hC := H0.out.1
    have e0 : shapeTo s n 0 = shapeV s n := by rw [shapeTo_zero]; unfold shapeV; rw [if_pos hs]
    rw [e0] at hC
    have h1 := HCV.out _ (shapeV s n) (shapeV_length _ _) hC
    rw [shapeV_length] at h1
    clear hC e0 hs hs0 hz
    have hn1 : (0 : Int) < (n : Int) := by omega
    go_enter Tryd.func16, Tryd.ntmps16
    go_wp2_with fail
    go_loopw [6] (fun v6 wr => v6 = .int .i64 0 ∧ (w.alloc (.cells (b8s (List.replicate n 0)).toArray 5)) = wr) (fun _ _ => 0)
    case atStart => exact ⟨rfl, rfl⟩
    case round =>
      obtain ⟨rfl, rfl⟩ := hrel
      go_wp2_with fail
      go_ret
      exact ⟨rfl, H0.out.2⟩
  · have hsz : (0 : Int) < (s.length : Int) := by omega
    have hsz1 : (s.length : Int) ≤ 9223372036854775807 := by omega
    have hsne : ((s.length : Int) == 0) = false := beq_eq_false_iff_ne.2 (by omega)
    have HNE := Lib.hid hs
    have hn3 : ¬ s = [] := fun e => hs (by rw [e]; rfl)
    have hn4 : (s == []) = false := by simpa using hn3
    have hn5 : s.isEmpty = false := by simpa using hn3
    clear hs hs0
    go_enter Tryd.func16, Tryd.ntmps16
    go_wp2_with fail
    clear hmk
    go_loopw [6] (fun v6 wr => ∃ k : Nat, k ≤ n ∧ v6 = .int .i64 k ∧ Hid (wr.heap[w.heap.size]? = some (.cells (b8s (shapeTo s n k)).toArray 5 (0, 0))) ∧ Hid (Below w.heap.size w wr))
      (fun v6 _ => n - (intOf v6).toNat)
    case atStart => exact ⟨0, by omega, rfl, H0.out.1, H0.out.2⟩
    case round =>
      clear H0
      obtain ⟨k, hk, hv, hC, hBr⟩ := hrel
      subst hv
      by_cases hlt : k < n
      · have hsz' : (b8s (shapeTo s n k)).toArray.size = n := by rw [List.size_toArray, b8s_length, shapeTo_length _ _ _ hk]
        obtain ⟨v0, c0⟩ : ∃ v, wr.drew.cell? ⟨w.heap.size, k, none⟩ = some v := cell_ex (w := wr) hC.out (by rw [hsz']; omega)
        have f0 : wr.drew.frozen? ⟨w.heap.size, k, none⟩ = false := frozen_of_row wr _ _ _ _ hC.out
        have hL : 0 < s.length := by have := HNE.out; omega
        obtain ⟨r, er⟩ : ∃ r, r = k % s.length := ⟨_, rfl⟩
        obtain ⟨q, eq⟩ : ∃ q, q = k / s.length := ⟨_, rfl⟩
        have hr : r < s.length := by rw [er]; exact Nat.mod_lt _ hL
        obtain ⟨S, eS, hS⟩ := str_byte s r hr
        have k0 : (0 : Int) ≤ (k : Int) := by omega
        have k1 : (k : Int) < (n : Int) := by omega
        have t1 : (k : Int).tmod (s.length : Int) = (r : Int) := by rw [Int.tmod_eq_emod_of_nonneg k0, er]; rfl
        have t2 : (k : Int).tdiv (s.length : Int) = (q : Int) := by rw [Int.tdiv_eq_ediv_of_nonneg k0, eq]; rfl
        have r0 : (0 : Int) ≤ (r : Int) := by omega
        have r1 : (r : Int) < (s.length : Int) := by omega
        have q0 : (0 : Int) ≤ (q : Int) := by omega
        have q1 : (q : Int) ≤ 100000 := by have := Nat.div_le_self k s.length; omega
        have eSh : shapeB s k = S + q.toUInt8 := by rw [eS, er, eq]; rfl
        have HE := Lib.hid eSh
        clear eSh er eq eS hL hr
        clear hsz'
        go_wp2_with fail
        go_still_tail 15, (by kernel_rfl)
        change wpList _ _ _ _ _ wr.drew
        go_wp2
        go_roundw
        case rel =>
          refine ⟨k + 1, by omega, by go_num, ?_, (hBr.out.drew).setCell (p := ⟨w.heap.size, k, none⟩) (Nat.le_refl _) _⟩
          have e1 := heap_setCell_same wr.drew w.heap.size k _ _ (.int .u8 ((shapeB s k).toNat : Int)) hC.out
          rw [b8s_arr_set, shapeTo_set _ _ _ hlt HNE.out] at e1
          rw [u8_add', ← HE.out]
          exact e1
        case measure => simp [intOf]; omega
      · obtain rfl : k = n := by omega
        have hC' := hC.out
        rw [shapeTo_all] at hC'
        have h1 := HCV.out wr (shapeV s k) (shapeV_length _ _) hC'
        rw [shapeV_length] at h1
        clear hC'
        go_wp2_with fail
        go_ret
        exact ⟨rfl, hBr.out⟩
theorem shaped32 (s : List UInt8) (w : World) (hs0 : s.length ≤ 9223372036854775807) :
    Calls Tryd.prog 16 #[.string ⟨s.toArray⟩, .int .i64 32] w fun e w' => e = .returned (.string ⟨(shapeV s 32).toArray⟩) ∧ Below w.heap.size w w' := shaped_any s 32 w (by omega) (by omega) hs0
theorem shaped256 (s : List UInt8) (w : World) (hs0 : s.length ≤ 9223372036854775807) :
    Calls Tryd.prog 16 #[.string ⟨s.toArray⟩, .int .i64 256] w fun e w' => e = .returned (.string ⟨(shapeV s 256).toArray⟩) ∧ Below w.heap.size w w' := shaped_any s 256 w (by omega) (by omega) hs0
end Go.Proofs.YtpdnbdfkcpofaaaDoor
