/- strongboxref1: starts, ks, right, filled, piece, Sum. -/
import Derived.Test.YthhjmodkodkgpaaDoorWSumM
import Derived.Test.YthhjmodkodkgpaaDoorMarked
namespace Go.Proofs.YthhjmodkodkgpaaDoor
open Go.RowKit Sbx

set_option maxRecDepth 100000 in
theorem starts_any (w : World) : Calls Tryd.prog 62 #[] w fun e w' => e = .returned (.agg (i32s (stl iv)).toArray) ∧ Below w.heap.size w w' := by
  go_enter Tryd.func62, Tryd.ntmps62
  go_wp2_with fail
  exact bodyPost_ret (results_cell_row rfl _ _ w.heap.size 70 ivA (0, 0) _ rfl (heap_alloc_new _ _) Tryd.underlying70 rfl (by kernel_rfl)) rfl ⟨rfl, (Below.refl _ _).alloc (Nat.le_refl _) _⟩
theorem right_any (x n : Nat) (w : World) (hx : x < 4294967296) (h1 : 1 ≤ n) (h2 : n < 32) :
    Calls Tryd.prog 80 #[.int .u32 x, .int .i64 n] w fun e w' => e = .returned (.int .u32 ((rl x (32 - n) : Nat) : Int)) ∧ ∃ m, w' = w.drewN m := by
  have hs0 : (0 : Int) ≤ (n : Int) := by omega
  have hs1 : (n : Int) ≤ 31 := by omega
  have a1 : IntKind.i64.wrap (32 - (n : Int)) = 32 - (n : Int) := IntWalk.i64_in _ (by omega)
  have a2 : 0 ≤ 32 - (n : Int) := by omega
  have a3 : (n : Int) ≤ 32 := by omega
  have a4 : (32 - (n : Int)).toNat = 32 - n := by omega
  go_enter Tryd.func80, Tryd.ntmps80
  go_wp2
  go_quiet (fail)
  go_wp2
  go_ret
  refine ⟨?_, nq, rfl⟩
  show Ending.returned (.int .u32 (bits BinOp.or IntKind.u32 ((x : Int) / 2 ^ n) ((x : Int) * 2 ^ (32 - n) % 4294967296))) = _
  have e1 : (x : Int) * 2 ^ (32 - n) % 4294967296 = ((x * 2 ^ (32 - n) % 4294967296 : Nat) : Int) := by simp
  have e2 : (x : Int) / 2 ^ n = ((x / 2 ^ n : Nat) : Int) := by simp
  rw [e1, e2, u32_or_nat _ _ (Nat.lt_of_le_of_lt (Nat.div_le_self _ _) hx) (Nat.mod_lt _ (by omega)), Nat.or_comm]
  unfold rl
  rw [show 32 - (32 - n) = n from by omega]

theorem be8_cell (n k : Nat) (hk : k < 8) : #[Value.int .u8 (8 * (n : Int) / 2 ^ (8 * (7 - k)) % 256)] = (b8v [(be8 (8 * n)).getD k 0]).toArray := by
  have e : 8 * (n : Int) / 2 ^ (8 * (7 - k)) % 256 = (((be8 (8 * n)).getD k 0).toNat : Int) := by
    rw [be8_get _ _ hk, show 8 * (7 - k) = 56 - 8 * k from by omega]
    have h1 : 8 * (n : Int) / 2 ^ (56 - 8 * k) = ((8 * n / 2 ^ (56 - 8 * k) : Nat) : Int) := by simp
    rw [h1]
    generalize 8 * n / 2 ^ (56 - 8 * k) = z
    simp
  rw [e]
  rfl
theorem be8_take (n k : Nat) (hk : k < 8) : (be8 n).take k ++ [(be8 n).getD k 0] = (be8 n).take (k + 1) := by
  have hl : k < (be8 n).length := hk
  rw [List.take_succ_eq_append_getElem hl, List.getD_eq_getElem?_getD, List.getElem?_eq_getElem hl]
  rfl
theorem one_byte (b : UInt8) : #[Value.int .u8 (b.toNat : Int)] = (b8v [b]).toArray := rfl
set_option maxRecDepth 100000 in
set_option maxHeartbeats 1000000 in
theorem filled_any (t : List UInt8) (w : World) (hlen : t.length ≤ 140737488354000) :
    Calls Tryd.prog 64 #[.string ⟨t.toArray⟩] w fun e w' => ∃ v, e = .returned v ∧ OwnsM w' w.heap.size 5 v (padded t).length (b8v (padded t)) ∧ Below w.heap.size w w' := by
  obtain ⟨v0, w0, hcv, hO0, hg0, -⟩ := run_bytes_of (P := Tryd.prog) (src := 9) (dst := 74) (e := 5) Tryd.underlying9 Tryd.underlying74 Tryd.underlying5 t (by omega) w
  have hB0 : Below w.heap.size w w0 := (Below.refl _ _).grown hg0 (Nat.le_refl _) (by simp)
  obtain ⟨i0, hi, hz0, hz1, hz2⟩ := info_parts info_u8
  have HI0 := Lib.hid (And.intro hi (And.intro hz0 (And.intro hz1 hz2)))
  have HL := Lib.hid hlen
  have H0 := Lib.hid (And.intro hO0 hB0)
  have hn1 : ((t.length : Nat) : Int) ≤ 140737488354000 := by omega
  clear hlen hO0 hg0 hB0 hi hz0 hz1 hz2
  go_enter Tryd.func64, Tryd.ntmps64
  go_wp2_with ((with_reducible refine gate_op (Op.call { callee := .builtin .append, args := #[.tmp 10, .tmp 11], argTypes := #[74, 74] }) rfl ?_); refine wpList_append_M _ rfl (.tmp 10) (.tmp 11) 74 rfl w.heap.size 5 i0 (.int .u8 0) 1 Tryd.underlying74 HI0.out.1 HI0.out.2.1 HI0.out.2.2.1 HI0.out.2.2.2 rfl _ _ _ rfl (H0.out.1.alloc _) ⟨w0.heap.size, 0, none⟩ 1 1 (b8v [128]) rfl rfl (cells_new (one_byte 128)) (b8v_one _) (by have := HL.out; unfold maxLen; omega) (by have := HL.out; omega) (by have := H0.out.2.size; simp; omega) ?_; intro v1 w1 hO1 hg1)
  obtain ⟨A1, c1, rfl⟩ := hO1.form
  have hB1 : Below w.heap.size w w1 := (H0.out.2.alloc H0.out.2.size _).grown hg1 (by have := H0.out.2.size; simp; omega) (fun j hj => (H0.out.1.lt j hj).1)
  have H1 : Hid (OwnsM w1 w.heap.size 5 (.slice A1 (t.length + 1) c1) (t.length + 1 + 0) (b8v (t ++ [128] ++ List.replicate 0 0))) ∧ Hid (Below w.heap.size w w1) := by
    refine ⟨?_, hB1⟩
    rw [List.replicate_zero, List.append_nil, b8v, List.map_append]
    exact hO1
  clear hB1 hO1 hg1
  go_loopg [4] (zerosN t.length) (fun kq v4 wr => ∃ (k m : Nat) (A : Option Addr) (c : Nat), Hid (k + kq = zerosN t.length ∧ m = t.length + 1 + k) ∧ v4 = .slice A m c ∧
      Hid (OwnsM wr w.heap.size 5 v4 (t.length + 1 + k) (b8v (t ++ [128] ++ List.replicate k 0))) ∧ Hid (Below w.heap.size w wr))
  case atStart => exact ⟨0, t.length + 1, A1, c1, ⟨Nat.zero_add _, rfl⟩, rfl, H1.1, H1.2⟩
  case round =>
    clear H1
    obtain ⟨k, m, A, c, HM, rfl, hO, hB⟩ := hrel
    have hmb : m ≤ 140737488354100 := by have h1 := HM.out; have h2 := HL.out; unfold zerosN at h1; omega
    have hmi : (m : Int) ≤ 140737488354100 := by omega
    cases gk with
    | succ kq =>
      have hne : (((m : Int) % 64) != 56) = true := by
        rw [bne_iff_ne]
        have h1 := zeros_test t.length k (by have := HM.out; omega)
        have h2 := HM.out
        omega
      have hO' : OwnsM wr w.heap.size 5 (.slice A m c) m (b8v (t ++ [128] ++ List.replicate k 0)) := by rw [HM.out.2]; have h := hO.out; rw [← HM.out.2] at h ⊢; exact h
      have HO := Lib.hid hO'
      clear hO'
      go_wp2_with ((with_reducible refine gate_op (Op.call { callee := .builtin .append, args := #[.tmp 17, .tmp 18], argTypes := #[74, 74] }) rfl ?_); refine wpList_append_M _ rfl (.tmp 17) (.tmp 18) 74 rfl w.heap.size 5 i0 (.int .u8 0) 1 Tryd.underlying74 HI0.out.1 HI0.out.2.1 HI0.out.2.2.1 HI0.out.2.2.2 rfl _ _ _ rfl (HO.out.alloc _) ⟨wr.heap.size, 0, none⟩ 1 1 (b8v [0]) rfl rfl (cells_new (one_byte 0)) (b8v_one _) (by have := HM.out; unfold maxLen; omega) (by have := HM.out; omega) (by have := hB.out.size; simp; omega) ?_; intro v' w6 hO6 hg6)
      obtain ⟨A2, c2, rfl⟩ := hO6.form
      have hO7 : Hid (OwnsM w6 w.heap.size 5 (.slice A2 (m + 1) c2) (t.length + 1 + (k + 1)) (b8v (t ++ [128] ++ List.replicate (k + 1) 0))) := by
        rw [List.replicate_succ', ← List.append_assoc, b8v, List.map_append]
        have h := hO6
        rw [show m + 1 = t.length + 1 + (k + 1) from by have := HM.out; omega] at h ⊢
        exact h
      have hB7 : Hid (Below w.heap.size w w6) := (hB.out.alloc hB.out.size _).grown hg6 (by have := hB.out.size; simp; omega) (fun j hj => (HO.out.lt j hj).1)
      clear hO6 hg6
      go_roundg kq
      case measure => omega
      case rel => exact ⟨k + 1, m + 1, A2, c2, ⟨by have := HM.out; omega, by have := HM.out; omega⟩, rfl, hO7, hB7⟩
    | zero =>
      have hne : (((m : Int) % 64) != 56) = false := by
        rw [bne_eq_false_iff_eq]
        have h1 := zeros_test t.length k (by have := HM.out; omega)
        have h2 := HM.out
        omega
      have hO' : OwnsM wr w.heap.size 5 (.slice A m c) (m + 0) (b8v (t ++ [128] ++ List.replicate (zerosN t.length) 0 ++ (be8 (8 * t.length)).take 0)) := by
        have h := hO.out
        have h1 := HM.out
        rw [show k = zerosN t.length from by omega] at h
        rw [List.take_zero, List.append_nil, show m + 0 = t.length + 1 + zerosN t.length from by omega]
        exact h
      have HO := Lib.hid hO'
      have HM0 : Hid (m = t.length + 1 + zerosN t.length) := by have h1 := HM.out; show m = _; omega
      clear hO' hO HM
      go_wp2_with fail
      clear hne
      obtain ⟨wo, rfl⟩ : ∃ wo : World, wo = wr := ⟨_, rfl⟩
      go_loopw [4, 5] (fun v4 v5 w3 => ∃ (k q : Nat) (A : Option Addr) (c : Nat), k ≤ 8 ∧ Hid (q = m + k) ∧ v5 = .int .i64 (7 - (k : Int)) ∧ v4 = .slice A q c ∧
          Hid (OwnsM w3 w.heap.size 5 v4 q (b8v (t ++ [128] ++ List.replicate (zerosN t.length) 0 ++ (be8 (8 * t.length)).take k))) ∧ Hid (Below w.heap.size w w3))
        (fun _ v5 _ => (intOf v5 + 1).toNat)
      case atStart => exact ⟨0, m, A, c, by omega, rfl, rfl, rfl, HO.out, hB⟩
      case round =>
        clear HO hB
        obtain ⟨k, q, A, c, hk, HM, h5, rfl, hO, hB⟩ := hrel
        have hqb : q ≤ 140737488354200 := by have h1 := HM.out; omega
        by_cases hlt : k < 8
        · subst h5
          have k7 : (k : Int) ≤ 7 := by omega
          go_wp2_with ((with_reducible refine gate_op (Op.call { callee := .builtin .append, args := #[.tmp 24, .tmp 31], argTypes := #[74, 74] }) rfl ?_); refine wpList_append_M _ rfl (.tmp 24) (.tmp 31) 74 rfl w.heap.size 5 i0 (.int .u8 0) 1 Tryd.underlying74 HI0.out.1 HI0.out.2.1 HI0.out.2.2.1 HI0.out.2.2.2 rfl _ _ _ rfl (hO.out.alloc _) ⟨wr.heap.size, 0, none⟩ 1 1 (b8v [(be8 (8 * t.length)).getD k 0]) rfl rfl (cells_new (be8_cell _ _ hlt)) (b8v_one _) (by have := HM.out; unfold maxLen; omega) (by have := HM.out; omega) (by have := hB.out.size; simp; omega) ?_; intro v' w6 hO6 hg6)
          obtain ⟨A2, c2, rfl⟩ := hO6.form
          have hO7 : Hid (OwnsM w6 w.heap.size 5 (.slice A2 (q + 1) c2) (q + 1) (b8v (t ++ [128] ++ List.replicate (zerosN t.length) 0 ++ (be8 (8 * t.length)).take (k + 1)))) := by
            rw [← be8_take _ _ hlt, ← List.append_assoc]
            unfold b8v at hO6 ⊢
            rw [List.map_append]
            exact hO6
          have hB7 : Hid (Below w.heap.size w w6) := (hB.out.alloc hB.out.size _).grown hg6 (by have := hB.out.size; simp; omega) (fun j hj => (hO.out.lt j hj).1)
          clear hO6 hg6
          go_roundw
          case rel => exact ⟨k + 1, q + 1, A2, c2, by omega, by have := HM.out; show q + 1 = _; omega, by go_num, rfl, hO7, hB7⟩
          case measure => simp [intOf]; omega
        · obtain rfl : k = 8 := by omega
          replace h5 := h5.trans (show _ = Value.int .i64 (-1) from rfl)
          subst h5
          go_wp2_with fail
          go_ret
          have h := hO.out
          have hm := HM.out
          have hm0 := HM0.out
          have hp : t ++ [128] ++ List.replicate (zerosN t.length) 0 ++ (be8 (8 * t.length)).take 8 = padded t := by
            rw [List.take_of_length_le (by simp [be8])]; rfl
          rw [hp] at h
          have hq : q = (padded t).length := by rw [← hp]; simp [be8]; omega
          rw [hq] at h ⊢
          exact ⟨_, rfl, h, hB.out⟩
end Go.Proofs.YthhjmodkodkgpaaDoor
