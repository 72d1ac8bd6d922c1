/- strongboxref1.Made: true. -/
import Derived.Test.YticmnckkhbniaaaDoorRSum
import Derived.Test.YticmnckkhbniaaaDoorMadeEval
import Derived.Lib.QuietBelow
namespace Go.Proofs.YticmnckkhbniaaaDoor
open Go.RowKit Sbx Go.Sort Go.Proofs.YticmnckkhbniaaaDoorW.PrintWords

theorem prs_len : PHashSums.prs.length = 64 := by decide
theorem iv_get (i : Nat) : (([iv.a, iv.b, iv.c, iv.d, iv.e, iv.f, iv.g, iv.h] : List Nat).getD i 0) = (stl iv).getD i 0 := rfl
set_option maxRecDepth 100000 in
set_option maxHeartbeats 2000000 in
theorem made_any (w : World) : Calls Tryd.prog 11 #[] w fun e w' => e = .returned (.bool true) ∧ Below w.heap.size w w' := by
  go_enter Tryd.func11, Tryd.ntmps11
  go_wp2_with (first
    | (go_at_call 30; refine (PHashSums.strongboxref1_primes.calls 400 64 PHashSums.prs _ PHashSums.primes_eval).mono ?_; rintro e w1 ⟨v1, rfl, hR1, hB1⟩)
    | (go_at_call 31; refine (starts_any _).mono ?_; rintro e w2 ⟨rfl, hB2⟩)
    | ((with_reducible refine gate_op (Op.store 50 (Operand.tmp 2) (Operand.tmp 6)) rfl ?_); refine wpList_store_row rfl 50 (.tmp 2) (.tmp 6) rfl w2.heap.size (i32s (stl iv)).toArray rfl rfl 50 _ (heap_alloc_new _ _) size_arr8 (by rw [i32s_size]; rfl) (i32s_one _) ?_; rw [setRow_alloc])
    | (go_at_call 32; refine (ks_any _).mono ?_; rintro e w3 ⟨rfl, hB3⟩)
    | ((with_reducible refine gate_op (Op.store 52 (Operand.tmp 3) (Operand.tmp 7)) rfl ?_); refine wpList_store_row rfl 52 (.tmp 3) (.tmp 7) rfl w3.heap.size (i32s ks).toArray rfl rfl 52 _ (heap_alloc_new _ _) (by rw [ks64]; exact size_arr64) (by rw [ks64]; rfl) (i32s_one _) ?_; rw [setRow_alloc]))
  obtain ⟨A1, c1, rfl⟩ := Kd.R_slice hR1
  have hO1 := OwnsM.of (Kd.own_of_R (enc := Value.int .i64) (h1 := fun _ => rfl) hR1)
  rw [prs_len] at hO1 ⊢
  obtain ⟨g, rfl, hg0, hg1, hnc, hcm, hcs⟩ := hO1.block (by omega)
  have hs1 := hB1.size
  have hs2 : w1.heap.size ≤ w2.heap.size := hB2.size
  have hs3 : w2.heap.size + 1 ≤ w3.heap.size := by have := hB3.size; simp at this; omega
  have hP : ∀ i, i < 64 → (w3.alloc (.cells (i32s ks).toArray 52 (0, 0))).cell? ⟨g, i, none⟩ = some (.int .i64 (PHashSums.prs.getD i 0)) := by
    intro i hi
    have h1 : w1.cell? ⟨g, i, none⟩ = some (.int .i64 (PHashSums.prs.getD i 0)) := by
      refine hcs i _ ?_
      unfold encs
      have hl : i < PHashSums.prs.length := by rw [prs_len]; exact hi
      rw [List.getElem?_map, List.getElem?_eq_getElem hl, List.getD_eq_getElem?_getD, List.getElem?_eq_getElem hl]
      rfl
    rw [← h1]
    refine World.cell?_of_block (w := w1) ?_
    show _ = w1.heap[g]?
    rw [Below.heap_alloc w3 _ g (by omega), hB3.block g (by simp; omega), Below.heap_alloc w2 _ g (by omega)]
    exact hB2.block g hg1
  have hK : ∀ i, i < 64 → (w3.alloc (.cells (i32s ks).toArray 52 (0, 0))).cell? ⟨w3.heap.size, i, none⟩ = some (.int .u32 ((ks.getD i 0 : Nat) : Int)) := by
    intro i hi
    rw [cell_of_row _ _ _ _ _ _ (heap_alloc_new _ _), List.getElem?_toArray]; exact i32s_get ks i hi
  have hH : ∀ i, i < 8 → (w3.alloc (.cells (i32s ks).toArray 52 (0, 0))).cell? ⟨w2.heap.size, i, none⟩ = some (.int .u32 (((stl iv).getD i 0 : Nat) : Int)) := by
    intro i hi
    have h1 : (w3.alloc (.cells (i32s ks).toArray 52 (0, 0))).heap[w2.heap.size]? = some (.cells (i32s (stl iv)).toArray 50 (0, 0)) := by
      rw [Below.heap_alloc w3 _ w2.heap.size (by omega), hB3.block _ (by simp)]; exact heap_alloc_new _ _
    rw [cell_of_row _ _ _ _ _ _ h1, List.getElem?_toArray]; exact i32s_get (stl iv) i hi
  have hB : Below w.heap.size w (w3.alloc (.cells (i32s ks).toArray 52 (0, 0))) :=
    (((hB1.trans (hB2.mono hs1)).alloc (by omega) _).trans (hB3.mono (by simp; omega))).alloc (by omega) _
  obtain ⟨kb, ek⟩ : ∃ k, k = w3.heap.size := ⟨_, rfl⟩
  obtain ⟨h, eh⟩ : ∃ k, k = w2.heap.size := ⟨_, rfl⟩
  rw [← ek] at hK ⊢
  rw [← eh] at hH ⊢
  generalize w3.alloc (.cells (i32s ks).toArray 52 (0, 0)) = W7 at *
  have H7 := Lib.hid (And.intro hP (And.intro hK (And.intro hH hB)))
  clear hP hK hH hB hO1 hR1 hB1 hB2 hB3 hcs ek eh hs2 hs3 hs1
  go_loopw [4] (fun v4 w3 => ∃ k : Nat, k ≤ 64 ∧ v4 = .int .i64 k ∧ Hid (Below W7.heap.size W7 w3))
    (fun v4 _ => 64 - (intOf v4).toNat)
  case atStart => exact ⟨0, by omega, rfl, Below.refl _ _⟩
  case round =>
    obtain ⟨k, hk, h4, hBr⟩ := hrel
    by_cases hlt : k < 64
    · subst h4
      have q1 : wr.cell? ⟨g, k, none⟩ = some (.int .i64 (PHashSums.prs.getD k 0)) := (hBr.out.cell (block_lt_of_cell (H7.out.1 k hlt))).trans (H7.out.1 k hlt)
      have q2 : wr.cell? ⟨kb, k, none⟩ = some (.int .u32 ((ks.getD k 0 : Nat) : Int)) := (hBr.out.cell (block_lt_of_cell (H7.out.2.1 k hlt))).trans (H7.out.2.1 k hlt)
      have r1 := PHashSums.cube_at k hlt
      obtain ⟨p, ep⟩ : ∃ p, p = PHashSums.prs.getD k 0 := ⟨_, rfl⟩
      obtain ⟨c, ec⟩ : ∃ p, p = ks.getD k 0 := ⟨_, rfl⟩
      rw [← ep] at q1 r1
      rw [← ec] at q2 r1
      have cT : ∀ d os, Calls Tryd.prog 33 #[.int .i64 p, .bool true] (grow (redrawn wr d) os) fun e w'' => e = .returned (.int .u32 (c : Int)) ∧ ∃ p : Regrown, w'' = grow (redrawn wr p.d) p.os :=
        fun d os => Calls.regrown_of (PHashSums.strongboxref1_root.calls 200 p true _ _ r1)
      have k1 := cell_regrown q1
      have k2 := cell_regrown q2
      have k0 : (0 : Int) ≤ (k : Int) := by omega
      have k64 : (k : Int) < 64 := by omega
      by_cases h8 : k < 8
      · have q3 : wr.cell? ⟨h, k, none⟩ = some (.int .u32 (((stl iv).getD k 0 : Nat) : Int)) := (hBr.out.cell (block_lt_of_cell (H7.out.2.2.1 k h8))).trans (H7.out.2.2.1 k h8)
        have r2 := PHashSums.square_at k h8
        rw [iv_get, ← ep] at r2
        obtain ⟨d, ed⟩ : ∃ p, p = (stl iv).getD k 0 := ⟨_, rfl⟩
        rw [← ed] at q3 r2
        have cF : ∀ d' os, Calls Tryd.prog 33 #[.int .i64 p, .bool false] (grow (redrawn wr d') os) fun e w'' => e = .returned (.int .u32 (d : Int)) ∧ ∃ p : Regrown, w'' = grow (redrawn wr p.d) p.os :=
          fun d' os => Calls.regrown_of (PHashSums.strongboxref1_root.calls 200 p false _ _ r2)
        have k3 := cell_regrown q3
        have k8 : (k : Int) < 8 := by omega
        clear r1 r2 ep ec ed q1 q2 q3
        go_wp2_with fail
        refine wp_region_quiet_below (by kernel_rfl) (by kernel_rfl) ?_
        repeat (quiet_step ((first | (with_reducible exact cT _ _) | (with_reducible exact cF _ _))))
        refine wpQuiet_nil ?_
        intro _ hw'
        obtain ⟨⟨dq, osq⟩, hw''⟩ := hw'
        subst hw''
        go_wp2
        go_roundw
        case rel => exact ⟨k + 1, by omega, by go_num, hBr.out.trans ((below_regrown wr dq osq).mono hBr.out.size)⟩
        case measure => simp [intOf]; omega
      · have k8 : decide ((k : Int) < 8) = false := by simp; omega
        have k9 : 8 ≤ (k : Int) := by omega
        have k10 : ¬ (k : Int) < 8 := by omega
        clear r1 ep ec q1 q2
        go_wp2_with fail
        refine wp_region_quiet_below (by kernel_rfl) (by kernel_rfl) ?_
        repeat (first | go_big_quiet_step ((with_reducible exact cT _ _)) | quiet_step ((with_reducible exact cT _ _)))
        refine wpQuiet_nil ?_
        intro _ hw'
        obtain ⟨⟨dq, osq⟩, hw''⟩ := hw'
        subst hw''
        go_wp2
        go_roundw
        case rel => exact ⟨k + 1, by omega, by go_num, hBr.out.trans ((below_regrown wr dq osq).mono hBr.out.size)⟩
        case measure => simp [intOf]; omega
    · obtain rfl : k = 64 := by omega
      replace h4 := h4.trans (show _ = Value.int .i64 64 from rfl)
      subst h4
      go_wp2_with fail
      go_ret
      exact ⟨rfl, H7.out.2.2.2.trans (hBr.out.mono H7.out.2.2.2.size)⟩
end Go.Proofs.YticmnckkhbniaaaDoor
