/- strongboxref1.piece: one more is gone through. -/
import Derived.Test.YthhjmodkodkgpaaDoorRRef
import Derived.Test.YthhjmodkodkgpaaDoorQTail
namespace Go.Proofs.YthhjmodkodkgpaaDoor
open Go.RowKit Sbx

theorem three_new (w : World) (a b c : Obj) : (((w.alloc a).alloc b).alloc c).heap[w.heap.size]? = some a ∧ (((w.alloc a).alloc b).alloc c).heap[w.heap.size + 1]? = some b ∧ (((w.alloc a).alloc b).alloc c).heap[w.heap.size + 1 + 1]? = some c := by
  have s1 : (w.alloc a).heap.size = w.heap.size + 1 := by simp
  have s2 : ((w.alloc a).alloc b).heap.size = w.heap.size + 1 + 1 := by simp
  have h1 := heap_alloc_new w a
  have h2 := heap_alloc_new (w.alloc a) b
  have h3 := heap_alloc_new ((w.alloc a).alloc b) c
  rw [s1] at h2
  rw [s2] at h3
  exact ⟨((Below.heap_alloc _ _ _ (by omega)).trans (Below.heap_alloc _ _ _ (by omega))).trans h1, (Below.heap_alloc _ _ _ (by omega)).trans h2, h3⟩
theorem hid_drewN {wr W : World} (h : Hid (∃ m, W = wr.drewN m)) (k : Nat) : Hid (∃ m, W.drewN k = wr.drewN m) := by
  obtain ⟨m, rfl⟩ := h
  exact ⟨m + k, World.drewN_drewN _ _ _⟩
theorem righti_any (x : Nat) (k : Int) (w : World) (hx : x < 4294967296) (h1 : 1 ≤ k) (h2 : k < 32) :
    Calls Tryd.prog 80 #[.int .u32 x, .int .i64 k] w fun e w' => e = .returned (.int .u32 ((rl x (32 - k.toNat) : Nat) : Int)) ∧ ∃ m, w' = w.drewN m := by
  obtain ⟨n, rfl⟩ := Int.eq_ofNat_of_zero_le (show 0 ≤ k by omega)
  exact right_any x n w hx (by omega) (by omega)
theorem zero8l : #[Value.int .u32 0, .int .u32 0, .int .u32 0, .int .u32 0, .int .u32 0, .int .u32 0, .int .u32 0, .int .u32 0] = (i32s [0, 0, 0, 0, 0, 0, 0, 0]).toArray := rfl
theorem zero8 : Array.replicate 8 (Value.int .u32 0) = (i32s [0, 0, 0, 0, 0, 0, 0, 0]).toArray := rfl
theorem i32s_one (l : List Nat) : (i32s l).toArray.all (·.oneCell') = true := by simp [i32s, Value.oneCell']
theorem i32s_size (l : List Nat) : (i32s l).toArray.size = l.length := by simp [i32s]
theorem ne_add {a : Nat} (k : Nat) (h : 0 < k) : a + k ≠ a := by omega

theorem ch_bits' (e f g : Nat) (he : e < 4294967296) (hf : f < 4294967296) (hg : g < 4294967296) :
    bits BinOp.xor IntKind.u32 (bits BinOp.and IntKind.u32 (e : Int) (f : Int)) (bits BinOp.and IntKind.u32 (bits BinOp.xor IntKind.u32 IntKind.u32.max (e : Int)) (g : Int)) = ((chf e f g : Nat) : Int) := ch_bits e f g he hf hg
theorem rnd_one' (t : St) (c x : Nat) (la : t.a < 4294967296) (lb : t.b < 4294967296) (lc : t.c < 4294967296) (le : t.e < 4294967296) (lf : t.f < 4294967296) (lg : t.g < 4294967296) :
    ((t.h : Int) + bits BinOp.xor IntKind.u32 (bits BinOp.xor IntKind.u32 ↑(rl t.e 26) ↑(rl t.e 21)) ↑(rl t.e 7) + bits BinOp.xor IntKind.u32 (bits BinOp.and IntKind.u32 ↑t.e ↑t.f) (bits BinOp.and IntKind.u32 (bits BinOp.xor IntKind.u32 IntKind.u32.max ↑t.e) ↑t.g) + ↑c + ↑x +
      (bits BinOp.xor IntKind.u32 (bits BinOp.xor IntKind.u32 ↑(rl t.a 30) ↑(rl t.a 19)) ↑(rl t.a 10) + bits BinOp.xor IntKind.u32 (bits BinOp.xor IntKind.u32 (bits BinOp.and IntKind.u32 ↑t.a ↑t.b) (bits BinOp.and IntKind.u32 ↑t.a ↑t.c)) (bits BinOp.and IntKind.u32 ↑t.b ↑t.c))) % 4294967296 = ((rnd t c x).a : Int) := by
  rw [xor3 _ _ _ (rl_lt _ _ le) (rl_lt _ _ le) (rl_lt _ _ le), xor3 _ _ _ (rl_lt _ _ la) (rl_lt _ _ la) (rl_lt _ _ la), ch_bits' _ _ _ le lf lg, maj_bits _ _ _ la lb lc]
  simp only [rnd, bsig1, bsig0]
  omega
theorem rnd_two' (t : St) (c x : Nat) (le : t.e < 4294967296) (lf : t.f < 4294967296) (lg : t.g < 4294967296) :
    ((t.d : Int) + ((t.h : Int) + bits BinOp.xor IntKind.u32 (bits BinOp.xor IntKind.u32 ↑(rl t.e 26) ↑(rl t.e 21)) ↑(rl t.e 7) + bits BinOp.xor IntKind.u32 (bits BinOp.and IntKind.u32 ↑t.e ↑t.f) (bits BinOp.and IntKind.u32 (bits BinOp.xor IntKind.u32 IntKind.u32.max ↑t.e) ↑t.g) + ↑c + ↑x)) % 4294967296 = ((rnd t c x).e : Int) := by
  rw [xor3 _ _ _ (rl_lt _ _ le) (rl_lt _ _ le) (rl_lt _ _ le), ch_bits' _ _ _ le lf lg]
  simp only [rnd, bsig1]
  omega
theorem i32A_set (l : List Nat) (i v : Nat) : ((i32s l).toArray).setIfInBounds i (.int .u32 ((v : Nat) : Int)) = (i32s (l.set i v)).toArray := by
  rw [List.setIfInBounds_toArray]
  unfold i32s
  rw [List.map_set]
theorem size_arr8 : (Tryd.prog.info? 70).map (·.size) = some 8 := by kernel_rfl

set_option maxRecDepth 100000 in
set_option maxHeartbeats 4000000 in
theorem piece_any (hS : St) (gk gb off cap : Nat) (bs : List UInt8) (w : World) (hok : StOk hS) (hl : bs.length = 64)
    (hks : ∀ i, i < 64 → w.cell? ⟨gk, i, none⟩ = some (.int .u32 ((ks.getD i 0 : Nat) : Int)))
    (hbs : ∀ i, i < 64 → w.cell? ⟨gb, off + i, none⟩ = some (.int .u8 ((bs.getD i 0).toNat : Int))) :
    Calls Tryd.prog 65 #[.agg (i32s (stl hS)).toArray, .pointer (some ⟨gk, 0, none⟩), .slice (some ⟨gb, off, none⟩) 64 cap] w fun e w' =>
      e = .returned (.agg (i32s (stl (compress hS bs))).toArray) ∧ Below w.heap.size w w' := by
  have HK := Lib.hid hks
  have HB := Lib.hid hbs
  have HOK := Lib.hid hok
  have HL := Lib.hid hl
  clear hks hbs hok hl
  go_enter Tryd.func65, Tryd.ntmps65
  go_wp2_with fail
  rw [zero8l, ← wcells_zero bs]
  have h3 := three_new w (.cells (i32s (stl hS)).toArray 70) (.cells (i32s [0, 0, 0, 0, 0, 0, 0, 0]).toArray 70) (.cells (wcells bs 0) 72)
  have hB1 : Below w.heap.size w (((w.alloc (.cells (i32s (stl hS)).toArray 70)).alloc (.cells (i32s [0, 0, 0, 0, 0, 0, 0, 0]).toArray 70)).alloc (.cells (wcells bs 0) 72)) :=
    (((Below.refl _ _).alloc (Nat.le_refl _) _).alloc (by simp) _).alloc (by simp; omega) _
  generalize ((w.alloc (.cells (i32s (stl hS)).toArray 70)).alloc (.cells (i32s [0, 0, 0, 0, 0, 0, 0, 0]).toArray 70)).alloc (.cells (wcells bs 0) 72) = W1 at *
  obtain ⟨B, eB⟩ : ∃ B, B = w.heap.size + 1 + 1 := ⟨_, rfl⟩
  rw [← eB] at h3 ⊢
  have hBB : w.heap.size + 1 < B := by omega
  have H3 := Lib.hid h3
  have HB1 := Lib.hid hB1
  have EB := Lib.hid eB
  clear h3 hB1 eB
  have HK1 : Hid (∀ i, i < 64 → W1.cell? ⟨gk, i, none⟩ = some (.int .u32 ((ks.getD i 0 : Nat) : Int))) := fun i hi => (HB1.out.cell (p := ⟨gk, i, none⟩) (block_lt_of_cell (HK.out i hi))).trans (HK.out i hi)
  have HBS1 : Hid (∀ i, i < 64 → W1.cell? ⟨gb, off + i, none⟩ = some (.int .u8 ((bs.getD i 0).toNat : Int))) := fun i hi => (HB1.out.cell (p := ⟨gb, off + i, none⟩) (block_lt_of_cell (HB.out i hi))).trans (HB.out i hi)
  have HGK : Hid (gk ≠ B ∧ gb ≠ B ∧ gk < w.heap.size) := by
    have h1 := block_lt_of_cell (HK.out 0 (by omega))
    have h2 := block_lt_of_cell (HB.out 0 (by omega))
    dsimp only at h1 h2
    exact ⟨by omega, by omega, h1⟩
  go_loopw [8] (fun v8 wr => ∃ k : Nat, k ≤ 16 ∧ v8 = .int .i64 k ∧ Hid (wr.heap[B]? = some (.cells (wcells bs k) 72 (0, 0))) ∧ Hid (W1.grownBy wr (some B)))
    (fun v8 _ => 16 - (intOf v8).toNat)
  case atStart => exact ⟨0, by omega, rfl, H3.out.2.2, only_refl _ _⟩
  case round =>
    obtain ⟨k, hk, h8, hC, hO⟩ := hrel
    by_cases hlt : k < 16
    · subst h8
      have hc : ∀ j, j < 4 → wr.cell? ⟨gb, off + (4 * k + j), none⟩ = some (.int .u8 (bs.getD (4 * k + j) 0).toNat) := by
        intro j hj
        have h1 := HBS1.out (4 * k + j) (by omega)
        rw [← h1]
        exact World.cell?_of_block (w := W1) (hO.out.block _ (block_lt_of_cell h1) (fun e => HGK.out.2.1 (Option.some.inj e)))
      have h0 : wr.cell? ⟨gb, off + (4 * k), none⟩ = some (.int .u8 (bs.getD (4 * k) 0).toNat) := hc 0 (by omega)
      have h1 := hc 1 (by omega)
      have h2 := hc 2 (by omega)
      have h3 := hc 3 (by omega)
      clear hc
      go_wp2
      have e0 : IntKind.i64.wrap (4 * (k : Int)) = 4 * (k : Int) := IntWalk.i64_in _ (by omega)
      have e1 : IntKind.i64.wrap (4 * (k : Int) + 1) = 4 * (k : Int) + 1 := IntWalk.i64_in _ (by omega)
      have e2 : IntKind.i64.wrap (4 * (k : Int) + 2) = 4 * (k : Int) + 2 := IntWalk.i64_in _ (by omega)
      have e3 : IntKind.i64.wrap (4 * (k : Int) + 3) = 4 * (k : Int) + 3 := IntWalk.i64_in _ (by omega)
      have p0 : 0 ≤ 4 * (k : Int) := by omega
      have p1 : 0 ≤ 4 * (k : Int) + 1 := by omega
      have p2 : 0 ≤ 4 * (k : Int) + 2 := by omega
      have p3 : 0 ≤ 4 * (k : Int) + 3 := by omega
      have q0 : 4 * (k : Int) < 64 := by omega
      have q1 : 4 * (k : Int) + 1 < 64 := by omega
      have q2 : 4 * (k : Int) + 2 < 64 := by omega
      have q3 : 4 * (k : Int) + 3 < 64 := by omega
      have t0 : (4 * (k : Int)).toNat = 4 * k := by omega
      have t1 : (4 * (k : Int) + 1).toNat = 4 * k + 1 := by omega
      have t2 : (4 * (k : Int) + 2).toNat = 4 * k + 2 := by omega
      have t3 : (4 * (k : Int) + 3).toNat = 4 * k + 3 := by omega
      have hk0 : (0 : Int) ≤ (k : Int) := by omega
      have hk1 : (k : Int) < 64 := by omega
      go_still_tail 35, (by kernel_rfl)
      have hwl : (wcells bs k).size = 64 := wcells_size bs k (by omega)
      obtain ⟨v0, hcell⟩ : ∃ v, wr.drew.cell? ⟨B, k, none⟩ = some v := cell_ex (w := wr) hC.out (by rw [hwl]; omega)
      have hfr : wr.drew.frozen? ⟨B, k, none⟩ = false := frozen_of_row wr _ _ _ _ hC.out
      change wpList _ _ _ _ _ wr.drew
      clear e0 e1 e2 e3 p0 p1 p2 p3 q0 q1 q2 q3 t0 t1 t2 t3 h0 h1 h2 h3
      go_wp2
      go_roundw
      case rel =>
        refine ⟨k + 1, by omega, by go_num, ?_, only_drew (only_setCell hO.out (p := ⟨B, k, none⟩) (.inl rfl) _)⟩
        show (wr.setCell _ _).heap[B]? = _
        rw [heap_setCell_same _ _ _ _ _ _ hC.out, word_bits, wcells_set bs k (by omega)]
      case measure => simp [intOf]; omega
    · obtain rfl : k = 16 := by omega
      replace h8 := h8.trans (show _ = Value.int .i64 16 from rfl)
      subst h8
      clear hlt
      go_wp2_with fail
      obtain ⟨wo, rfl⟩ : ∃ wo : World, wo = wr := ⟨_, rfl⟩
      go_loopw [9, 10, 11] (fun v9 v10 v11 w3 => ∃ k : Nat, 16 ≤ k ∧ k ≤ 64 ∧ v9 = .int .i64 k ∧ Hid (w3.heap[B]? = some (.cells (wcells bs k) 72 (0, 0))) ∧ Hid (W1.grownBy w3 (some B)))
        (fun v9 _ _ _ => 64 - (intOf v9).toNat)
      case atStart => exact ⟨16, by omega, by omega, rfl, hC, hO⟩
      case round =>
        clear hC hO
        obtain ⟨k, hk1, hk2, h9, hC, hO⟩ := hrel
        by_cases hlt : k < 64
        · subst h9
          have hg : ∀ j, j < k → wr.cell? ⟨B, j, none⟩ = some (.int .u32 ((sched bs k).getD j 0)) := by
            intro j hj
            rw [cell_of_row wr _ _ _ _ _ hC.out]
            exact wcells_get bs k j hj hk2
          obtain ⟨x2, e2⟩ : ∃ n, n = (sched bs k).getD (k - 2) 0 := ⟨_, rfl⟩
          obtain ⟨x7, e7⟩ : ∃ n, n = (sched bs k).getD (k - 7) 0 := ⟨_, rfl⟩
          obtain ⟨x15, e15⟩ : ∃ n, n = (sched bs k).getD (k - 15) 0 := ⟨_, rfl⟩
          obtain ⟨x16, e16⟩ : ∃ n, n = (sched bs k).getD (k - 16) 0 := ⟨_, rfl⟩
          have h2 : wr.cell? ⟨B, k - 2, none⟩ = some (.int .u32 x2) := by rw [e2]; exact hg (k - 2) (by omega)
          have h7 : wr.cell? ⟨B, k - 7, none⟩ = some (.int .u32 x7) := by rw [e7]; exact hg (k - 7) (by omega)
          have h15 : wr.cell? ⟨B, k - 15, none⟩ = some (.int .u32 x15) := by rw [e15]; exact hg (k - 15) (by omega)
          have h16 : wr.cell? ⟨B, k - 16, none⟩ = some (.int .u32 x16) := by rw [e16]; exact hg (k - 16) (by omega)
          have l2 : x2 < 4294967296 := by rw [e2]; exact sched_lt _ _ _
          have l7 : x7 < 4294967296 := by rw [e7]; exact sched_lt _ _ _
          have l15 : x15 < 4294967296 := by rw [e15]; exact sched_lt _ _ _
          have l16 : x16 < 4294967296 := by rw [e16]; exact sched_lt _ _ _
          have E := Lib.hid (And.intro e2 (And.intro e7 (And.intro e15 e16)))
          clear hg e2 e7 e15 e16
          obtain ⟨v0, hcell⟩ : ∃ v, wr.cell? ⟨B, k, none⟩ = some v := cell_ex hC.out (by rw [wcells_size bs k (by omega)]; omega)
          have hfr : wr.frozen? ⟨B, k, none⟩ = false := frozen_of_row wr _ _ _ _ hC.out
          have a2 : 2 ≤ (k : Int) := by omega
          have a15 : 15 ≤ (k : Int) := by omega
          have a7 : 7 ≤ (k : Int) := by omega
          have a16 : 16 ≤ (k : Int) := by omega
          have a64 : (k : Int) < 64 := by omega
          go_wp2_with fail
          have b7 : IntKind.i64.wrap ((k : Int) - 7) = (k : Int) - 7 := IntWalk.i64_in _ (by omega)
          have b16 : IntKind.i64.wrap ((k : Int) - 16) = (k : Int) - 16 := IntWalk.i64_in _ (by omega)
          have d7 : ((k : Int) - 7).toNat = k - 7 := by omega
          have d16 : ((k : Int) - 16).toNat = k - 16 := by omega
          have c7 : (k : Int) - 7 < 64 := by omega
          have c16 : (k : Int) - 16 < 64 := by omega
          have c0 : 0 ≤ (k : Int) := by omega
          have f7 : 0 ≤ (k : Int) - 7 := by omega
          have f16 : 0 ≤ (k : Int) - 16 := by omega
          refine wp_region_quiet_tail 29 (by kernel_rfl) (by kernel_rfl) ?_
          simp only [List.take_succ_cons, List.take_zero, List.drop_succ_cons, List.drop_zero]
          repeat (first | go_big_quiet_step ((go_at_call 80; exact Calls.quiet_of (righti_any _ _ _ (by assumption) (by omega) (by omega)))) | quiet_step ((go_at_call 80; exact Calls.quiet_of (righti_any _ _ _ (by assumption) (by omega) (by omega)))))
          refine wpQuiet_nil ?_
          intro _ hw'
          obtain ⟨nq, hw''⟩ := hw'
          subst hw''
          have hcell' : (wr.drewN nq).cell? ⟨B, k, none⟩ = some v0 := hcell
          have hfr' : (wr.drewN nq).frozen? ⟨B, k, none⟩ = false := hfr
          clear b7 b16 d7 d16 c7 c16 f7 f16 h2 h7 h15 h16 a2 a15 a7 a16
          go_wp2
          go_roundw
          case rel =>
            obtain ⟨e2, e7, e15, e16⟩ := E.out
            refine ⟨k + 1, by omega, by omega, by go_num, ?_, only_setCell (only_drewN hO.out nq) (p := ⟨B, k, none⟩) (.inl rfl) _⟩
            have hC' : (wr.drewN nq).heap[B]? = some (.cells (wcells bs k) 72 (0, 0)) := hC.out
            show ((wr.drewN nq).setCell _ _).heap[B]? = _
            rw [heap_setCell_same _ _ _ _ _ _ hC']
            have s7 : bits BinOp.xor IntKind.u32 (bits BinOp.xor IntKind.u32 ↑(rl x2 15) ↑(rl x2 13)) ((x2 : Int) / 1024) = ((ssig1 x2 : Nat) : Int) := xor3 _ _ (x2 / 1024) (rl_lt _ _ l2) (rl_lt _ _ l2) (by omega)
            have s8 : bits BinOp.xor IntKind.u32 (bits BinOp.xor IntKind.u32 ↑(rl x15 25) ↑(rl x15 14)) ((x15 : Int) / 8) = ((ssig0 x15 : Nat) : Int) := xor3 _ _ (x15 / 8) (rl_lt _ _ l15) (rl_lt _ _ l15) (by omega)
            rw [s7, s8]
            have ev : ((ssig1 x2 : Int) + (x7 : Int) + (ssig0 x15 : Int) + (x16 : Int)) % 4294967296 = (((ssig1 x2 + x7 + ssig0 x15 + x16) % 4294967296 : Nat) : Int) := by omega
            rw [ev, wcells_put bs k _ hlt]
            rw [sched_succ, if_neg (by omega), ← e2, ← e7, ← e15, ← e16]
          case measure => simp [intOf]; omega
        · obtain rfl : k = 64 := by omega
          replace h9 := h9.trans (show _ = Value.int .i64 64 from rfl)
          subst h9
          have hh : wr.heap[w.heap.size]? = some (.cells (i32s (stl hS)).toArray 70 (0, 0)) := (hO.out.block _ (block_of_cells H3.out.1) (fun e => by have := Option.some.inj e; omega)).trans H3.out.1
          have hr : wr.heap[w.heap.size + 1]? = some (.cells (i32s [0, 0, 0, 0, 0, 0, 0, 0]).toArray 70 (0, 0)) := (hO.out.block _ (block_of_cells H3.out.2.1) (fun e => by have := Option.some.inj e; omega)).trans H3.out.2.1
          have HH := Lib.hid (And.intro hh hr)
          have hz8 : (Tryd.prog.info? 70).map (·.size) = some (i32s (stl hS)).toArray.size := by rw [i32s_size]; exact size_arr8
          have HZ8 := Lib.hid hz8
          have hs1 := hO.out.size
          clear hh hr hz8
          go_wp2_with (first
            | ((with_reducible refine gate_op (Op.load 70 (Operand.tmp 3)) rfl ?_); refine wpList_load_row rfl 70 _ rfl w.heap.size rfl 70 (i32s (stl hS)).toArray (0, 0) _ HH.out.1 Tryd.underlying70 rfl HZ8.out ?_)
            | ((with_reducible refine gate_op (Op.store 70 (Operand.tmp 12) (Operand.tmp 99)) rfl ?_); refine wpList_store_row rfl 70 (.tmp 12) (.tmp 99) rfl wr.heap.size (i32s (stl hS)).toArray rfl rfl 70 _ (heap_alloc_new _ _) HZ8.out (by rw [i32s_size]; rfl) (i32s_one _) ?_; rw [setRow_alloc]))
          have hsz : w.heap.size ≤ wr.heap.size := Nat.le_trans HB1.out.size hs1
          have hlB : B < wr.heap.size := block_of_cells hC.out
          have hL := heap_alloc_new wr (.cells (i32s (stl hS)).toArray 70)
          have hh2 : (wr.alloc (.cells (i32s (stl hS)).toArray 70)).heap[w.heap.size]? = some (.cells (i32s (stl hS)).toArray 70 (0, 0)) := (Below.heap_alloc wr _ _ (by omega)).trans HH.out.1
          have hr2 : (wr.alloc (.cells (i32s (stl hS)).toArray 70)).heap[w.heap.size + 1]? = some (.cells (i32s [0, 0, 0, 0, 0, 0, 0, 0]).toArray 70 (0, 0)) := (Below.heap_alloc wr _ _ (by omega)).trans HH.out.2
          have hw2 : (wr.alloc (.cells (i32s (stl hS)).toArray 70)).heap[B]? = some (.cells (wcells bs 64) 72 (0, 0)) := (Below.heap_alloc wr _ _ hlB).trans hC.out
          have hk2' : ∀ i, i < 64 → (wr.alloc (.cells (i32s (stl hS)).toArray 70)).cell? ⟨gk, i, none⟩ = some (.int .u32 ((ks.getD i 0 : Nat) : Int)) := by
            intro i hi
            have h1 := HK1.out i hi
            have h2 : wr.cell? ⟨gk, i, none⟩ = some (.int .u32 ((ks.getD i 0 : Nat) : Int)) := (World.cell?_of_block (w := W1) (hO.out.block gk (block_lt_of_cell h1) (fun e => HGK.out.1 (Option.some.inj e)))).trans h1
            rw [← h2]
            exact World.cell?_of_block (w := wr) (Below.heap_alloc wr _ gk (block_lt_of_cell h2))
          have hB2 : Below w.heap.size w (wr.alloc (.cells (i32s (stl hS)).toArray 70)) := (HB1.out.trans (below_of_only hO.out HB1.out.size (by omega))).alloc hsz _
          obtain ⟨L, eL⟩ : ∃ L, L = wr.heap.size := ⟨_, rfl⟩
          rw [← eL] at hL hlB hsz ⊢
          generalize wr.alloc (.cells (i32s (stl hS)).toArray 70) = W2 at *
          have HW := Lib.hid (And.intro hh2 (And.intro hr2 (And.intro hw2 (And.intro hk2' hB2))))
          have HLL := Lib.hid hL
          clear hh2 hr2 hw2 hk2' hB2 hL eL hC hO hs1
          have hgkL : gk < L := by have := HGK.out.2.2; omega
          have t0 : StOk hS ∧ Hid (hS = rnds (sched bs 64) 0 hS) := ⟨HOK.out, rfl⟩
          go_loopw [13, 14, 15, 16, 17] (fun v13 v14 v15 v16 v17 w3 => ∃ (k : Nat) (t : St), k ≤ 64 ∧ (StOk t ∧ Hid (t = rnds (sched bs 64) k hS)) ∧ v13 = .int .i64 k ∧
              Hid (w3.heap[L]? = some (.cells (i32s (stl t)).toArray 70 (0, 0))) ∧ Hid (W2.grownBy w3 (some L)))
            (fun v13 _ _ _ _ _ => 64 - (intOf v13).toNat)
          case atStart => exact ⟨0, hS, by omega, t0, rfl, HLL.out, only_refl _ _⟩
          case round =>
            clear t0 HLL
            obtain ⟨k, t, hk, ⟨hto, ht⟩, h13, hC, hO⟩ := hrel
            have hto2 := hto
            unfold StOk stl at hto2
            simp only [List.mem_cons, List.not_mem_nil, or_false, forall_eq_or_imp, forall_eq] at hto2
            obtain ⟨la, lb, lc, ld, le, lf, lg, lh⟩ := hto2
            have HTO := Lib.hid hto
            clear hto
            by_cases hlt : k < 64
            · subst h13
              have l0 : wr.cell? ⟨L, 0, none⟩ = some (.int .u32 t.a) := by rw [cell_of_row wr _ _ _ _ _ hC.out, List.getElem?_toArray]; exact i32s_get (stl t) 0 (show 0 < 8 by omega)
              have l1 : wr.cell? ⟨L, 1, none⟩ = some (.int .u32 t.b) := by rw [cell_of_row wr _ _ _ _ _ hC.out, List.getElem?_toArray]; exact i32s_get (stl t) 1 (show 1 < 8 by omega)
              have l2 : wr.cell? ⟨L, 2, none⟩ = some (.int .u32 t.c) := by rw [cell_of_row wr _ _ _ _ _ hC.out, List.getElem?_toArray]; exact i32s_get (stl t) 2 (show 2 < 8 by omega)
              have l3 : wr.cell? ⟨L, 3, none⟩ = some (.int .u32 t.d) := by rw [cell_of_row wr _ _ _ _ _ hC.out, List.getElem?_toArray]; exact i32s_get (stl t) 3 (show 3 < 8 by omega)
              have l4 : wr.cell? ⟨L, 4, none⟩ = some (.int .u32 t.e) := by rw [cell_of_row wr _ _ _ _ _ hC.out, List.getElem?_toArray]; exact i32s_get (stl t) 4 (show 4 < 8 by omega)
              have l5 : wr.cell? ⟨L, 5, none⟩ = some (.int .u32 t.f) := by rw [cell_of_row wr _ _ _ _ _ hC.out, List.getElem?_toArray]; exact i32s_get (stl t) 5 (show 5 < 8 by omega)
              have l6 : wr.cell? ⟨L, 6, none⟩ = some (.int .u32 t.g) := by rw [cell_of_row wr _ _ _ _ _ hC.out, List.getElem?_toArray]; exact i32s_get (stl t) 6 (show 6 < 8 by omega)
              have l7 : wr.cell? ⟨L, 7, none⟩ = some (.int .u32 t.h) := by rw [cell_of_row wr _ _ _ _ _ hC.out, List.getElem?_toArray]; exact i32s_get (stl t) 7 (show 7 < 8 by omega)
              obtain ⟨c, ec⟩ : ∃ c, c = ks.getD k 0 := ⟨_, rfl⟩
              obtain ⟨x, ex⟩ : ∃ x, x = (sched bs 64).getD k 0 := ⟨_, rfl⟩
              have hcub : wr.cell? ⟨gk, k, none⟩ = some (.int .u32 (c : Int)) := by
                have h1 := HW.out.2.2.2.1 k hlt
                rw [ec, ← h1]
                exact World.cell?_of_block (w := W2) (hO.out.block gk (block_lt_of_cell h1) (fun e => by have := Option.some.inj e; omega))
              have hwk : wr.cell? ⟨B, k, none⟩ = some (.int .u32 (x : Int)) := by
                have h1 : W2.cell? ⟨B, k, none⟩ = some (.int .u32 (x : Int)) := by
                  rw [ex, cell_of_row W2 _ _ _ _ _ HW.out.2.2.1]
                  exact wcells_get bs 64 k hlt (by omega)
                rw [← h1]
                exact World.cell?_of_block (w := W2) (hO.out.block B (block_lt_of_cell h1) (fun e => by have := Option.some.inj e; omega))
              have lc1 : c < 4294967296 := by rw [ec]; exact ks_lt k
              have lx : x < 4294967296 := by rw [ex]; exact sched_lt _ _ _
              have E := Lib.hid (And.intro ec ex)
              clear ec ex
              have k0 : (0 : Int) ≤ (k : Int) := by omega
              have k64 : (k : Int) < 64 := by omega
              go_wp2_with fail
              go_quiet ((go_at_call 80; exact Calls.quiet_of (righti_any _ _ _ (by assumption) (by omega) (by omega))))
              have l0 : (wr.drewN nq).cell? ⟨L, 0, none⟩ = some (.int .u32 t.a) := l0
              have l1 : (wr.drewN nq).cell? ⟨L, 1, none⟩ = some (.int .u32 t.b) := l1
              have l2 : (wr.drewN nq).cell? ⟨L, 2, none⟩ = some (.int .u32 t.c) := l2
              have l3 : (wr.drewN nq).cell? ⟨L, 3, none⟩ = some (.int .u32 t.d) := l3
              have l4 : (wr.drewN nq).cell? ⟨L, 4, none⟩ = some (.int .u32 t.e) := l4
              have l5 : (wr.drewN nq).cell? ⟨L, 5, none⟩ = some (.int .u32 t.f) := l5
              have l6 : (wr.drewN nq).cell? ⟨L, 6, none⟩ = some (.int .u32 t.g) := l6
              have l7 : (wr.drewN nq).cell? ⟨L, 7, none⟩ = some (.int .u32 t.h) := l7
              have hC5 : Hid ((wr.drewN nq).heap[L]? = some (.cells (i32s (stl t)).toArray 70 (0, 0))) := hC
              have hO5 : Hid (W2.grownBy (wr.drewN nq) (some L)) := only_drewN hO.out nq
              clear hcub hwk hC hO
              generalize wr.drewN nq = W5 at *
              go_wp2_with fail
              go_quiet ((go_at_call 80; exact Calls.quiet_of (righti_any _ _ _ (by assumption) (by omega) (by omega))))
              have l0 : (W5.drewN nq).cell? ⟨L, 0, none⟩ = some (.int .u32 t.a) := l0
              have l1 : (W5.drewN nq).cell? ⟨L, 1, none⟩ = some (.int .u32 t.b) := l1
              have l2 : (W5.drewN nq).cell? ⟨L, 2, none⟩ = some (.int .u32 t.c) := l2
              have l3 : (W5.drewN nq).cell? ⟨L, 3, none⟩ = some (.int .u32 t.d) := l3
              have l4 : (W5.drewN nq).cell? ⟨L, 4, none⟩ = some (.int .u32 t.e) := l4
              have l5 : (W5.drewN nq).cell? ⟨L, 5, none⟩ = some (.int .u32 t.f) := l5
              have l6 : (W5.drewN nq).cell? ⟨L, 6, none⟩ = some (.int .u32 t.g) := l6
              have l7 : (W5.drewN nq).cell? ⟨L, 7, none⟩ = some (.int .u32 t.h) := l7
              have hC6 : Hid ((W5.drewN nq).heap[L]? = some (.cells (i32s (stl t)).toArray 70 (0, 0))) := hC5
              have hO6 : Hid (W2.grownBy (W5.drewN nq) (some L)) := only_drewN hO5.out nq
              clear hC5 hO5
              generalize W5.drewN nq = W6 at *
              go_wp2_with ((with_reducible refine gate_op (Op.store 70 (Operand.tmp 12) (Operand.tmp 181)) rfl ?_); refine wpList_store_row rfl 70 (.tmp 12) (.tmp 181) rfl L _ rfl rfl 70 _ hC6.out size_arr8 (by rw [i32s_size]; rfl) (by simp [Value.oneCell']) ?_)
              rw [rnd_one' t c x la lb lc le lf lg, rnd_two' t c x le lf lg]
              have hcs : #[Value.int IntKind.u32 ((rnd t c x).a : Int), Value.int IntKind.u32 ↑t.a, Value.int IntKind.u32 ↑t.b, Value.int IntKind.u32 ↑t.c, Value.int IntKind.u32 ((rnd t c x).e : Int), Value.int IntKind.u32 ↑t.e, Value.int IntKind.u32 ↑t.f, Value.int IntKind.u32 ↑t.g] = (i32s (stl (rnd t c x))).toArray := rfl
              rw [hcs]
              have hC7 : Hid ((W6.setRow L (i32s (stl (rnd t c x))).toArray).heap[L]? = some (.cells (i32s (stl (rnd t c x))).toArray 70 (0, 0))) := setRow_heap _ _ _ _ _ _ hC6.out
              have hO7 : Hid (W2.grownBy (W6.setRow L (i32s (stl (rnd t c x))).toArray) (some L)) := only_trans hO6.out (only_setRow _)
              have hr : rnd t c x = rnds (sched bs 64) (k + 1) hS := by
                obtain ⟨ec, ex⟩ := E.out
                rw [ht.out, ec, ex]; rfl
              have HRK := Lib.hid hr
              clear hcs hr hC6 hO6
              go_roundw
              case rel => exact ⟨k + 1, rnd t c x, by omega, ⟨rnd_ok t c x HTO.out, HRK⟩, by go_num, hC7, hO7⟩
              case measure => simp [intOf]; omega
            · obtain rfl : k = 64 := by omega
              replace h13 := h13.trans (show _ = Value.int .i64 64 from rfl)
              subst h13
              have hh3 : wr.heap[w.heap.size]? = some (.cells (i32s (stl hS)).toArray 70 (0, 0)) := (hO.out.block _ (block_of_cells HW.out.1) (fun e => by have := Option.some.inj e; omega)).trans HW.out.1
              have hr3 : wr.heap[w.heap.size + 1]? = some (.cells (i32s [0, 0, 0, 0, 0, 0, 0, 0]).toArray 70 (0, 0)) := (hO.out.block _ (block_of_cells HW.out.2.1) (fun e => by have := Option.some.inj e; omega)).trans HW.out.2.1
              have hB3 : Below w.heap.size w wr := HW.out.2.2.2.2.trans (below_of_only hO.out HW.out.2.2.2.2.size hsz)
              have hA8 : (stl hS).length = 8 := rfl
              have hB8 : (stl (hS.add t)).length = 8 := rfl
              have HX := Lib.hid (And.intro hh3 (And.intro hr3 (And.intro hB3 (And.intro hA8 hB8))))
              clear hh3 hr3 hB3 hA8 hB8 hO
              go_wp2_with fail
              obtain ⟨wp, rfl⟩ : ∃ wp : World, wp = wr := ⟨_, rfl⟩
              go_loopw [18] (fun v18 w3 => ∃ k : Nat, k ≤ 8 ∧ v18 = .int .i64 k ∧
                  Hid (w3.heap[w.heap.size]? = some (.cells (i32s ((stl (hS.add t)).take k ++ (stl hS).drop k)).toArray 70 (0, 0))) ∧ Hid (wp.grownBy w3 (some w.heap.size)))
                (fun v18 _ => 8 - (intOf v18).toNat)
              case atStart => exact ⟨0, by omega, rfl, HX.out.1, only_refl _ _⟩
              case round =>
                obtain ⟨k, hk, h18, hC4, hO4⟩ := hrel
                by_cases hlt : k < 8
                · subst h18
                  obtain ⟨x, ex⟩ : ∃ x, x = (stl hS).getD k 0 := ⟨_, rfl⟩
                  obtain ⟨y, ey⟩ : ∃ y, y = (stl t).getD k 0 := ⟨_, rfl⟩
                  have hml : ((stl (hS.add t)).take k ++ (stl hS).drop k).length = 8 := by rw [List.length_append, List.length_take, List.length_drop, HX.out.2.2.2.1, HX.out.2.2.2.2]; omega
                  have hcx : wr.cell? ⟨w.heap.size, k, none⟩ = some (.int .u32 (x : Int)) := by
                    rw [cell_of_row wr _ _ _ _ _ hC4.out, List.getElem?_toArray, i32s_get _ _ (by omega), mix_get _ _ (HX.out.2.2.2.1.trans HX.out.2.2.2.2.symm) k (by rw [HX.out.2.2.2.1]; exact hlt), ex]
                  have hcy : wr.cell? ⟨L, k, none⟩ = some (.int .u32 (y : Int)) := by
                    have h1 : wp.cell? ⟨L, k, none⟩ = some (.int .u32 (y : Int)) := by
                      rw [cell_of_row wp _ _ _ _ _ hC.out, List.getElem?_toArray, ey]
                      exact i32s_get (stl t) k hlt
                    rw [← h1]
                    exact World.cell?_of_block (w := wp) (hO4.out.block L (block_lt_of_cell h1) (fun e => by have := Option.some.inj e; omega))
                  have hfr : wr.drew.frozen? ⟨w.heap.size, k, none⟩ = false := frozen_of_row wr _ _ _ _ hC4.out
                  have E := Lib.hid (And.intro ex (And.intro ey hml))
                  clear ex ey hml
                  have k0 : (0 : Int) ≤ (k : Int) := by omega
                  have k8 : (k : Int) < 8 := by omega
                  go_wp2_with fail
                  go_still_tail 9, (by kernel_rfl)
                  change wpList _ _ _ _ _ wr.drew
                  go_wp2
                  go_roundw
                  case rel =>
                    obtain ⟨ex, ey, hml⟩ := E.out
                    refine ⟨k + 1, by omega, by go_num, ?_, only_drew (only_setCell hO4.out (p := ⟨w.heap.size, k, none⟩) (.inl rfl) _)⟩
                    show (wr.setCell _ _).heap[w.heap.size]? = _
                    have ev : ((x : Int) + (y : Int)) % 4294967296 = (((stl (hS.add t)).getD k 0 : Nat) : Int) := by rw [stl_add hS t k hlt, ← ex, ← ey]; omega
                    rw [heap_setCell_same _ _ _ _ _ _ hC4.out, ev, i32A_set, mix_step _ _ (HX.out.2.2.2.1.trans HX.out.2.2.2.2.symm) k (by rw [HX.out.2.2.2.1]; exact hlt)]
                  case measure => simp [intOf]; omega
                · obtain rfl : k = 8 := by omega
                  have hC9 := hC4.out
                  rw [List.take_of_length_le (by rw [HX.out.2.2.2.2]; omega), List.drop_of_length_le (by rw [HX.out.2.2.2.1]; omega), List.append_nil, ht.out, ← compress_eq] at hC9
                  have hr9 : wr.heap[w.heap.size + 1]? = some (.cells (i32s [0, 0, 0, 0, 0, 0, 0, 0]).toArray 70 (0, 0)) := (hO4.out.block _ (block_of_cells HX.out.2.1) (fun e => by have := Option.some.inj e; omega)).trans HX.out.2.1
                  have hB9 : Below w.heap.size w wr := HX.out.2.2.1.trans (below_of_only hO4.out HX.out.2.2.1.size (Nat.le_refl _))
                  have hs9 : (Tryd.prog.info? 70).map (·.size) = some (i32s (stl (compress hS bs))).toArray.size := by rw [i32s_size]; exact size_arr8
                  obtain ⟨st, est⟩ : ∃ st, st = compress hS bs := ⟨_, rfl⟩
                  rw [← est] at hC9 hs9
                  have HY := Lib.hid (And.intro hC9 (And.intro hr9 (And.intro hB9 (And.intro hs9 est))))
                  clear hC9 hr9 hB9 hs9 est hC4 hO4 hC
                  go_wp2_with (first
                    | ((with_reducible refine gate_op (Op.load 70 (Operand.tmp 3)) rfl ?_); refine wpList_load_row rfl 70 _ rfl w.heap.size rfl 70 (i32s (stl st)).toArray (0, 0) _ HY.out.1 Tryd.underlying70 rfl HY.out.2.2.2.1 ?_)
                    | ((with_reducible refine gate_op (Op.store 70 (Operand.tmp 6) (Operand.tmp 195)) rfl ?_); refine wpList_store_row rfl 70 (.tmp 6) (.tmp 195) rfl (w.heap.size + 1) (i32s (stl st)).toArray rfl rfl 70 _ HY.out.2.1 HY.out.2.2.2.1 (by rw [i32s_size, i32s_size]; rfl) (i32s_one _) ?_))
                  refine bodyPost_ret (results_cell_row rfl _ _ (w.heap.size + 1) 70 (i32s (stl st)).toArray (0, 0) _ (by simp [Act.put]) (setRow_heap _ _ _ _ _ _ HY.out.2.1) Tryd.underlying70 rfl HY.out.2.2.2.1) rfl ⟨by rw [← HY.out.2.2.2.2], ?_⟩
                  exact HY.out.2.2.1.trans (below_of_only (only_setRow _) HY.out.2.2.1.size (by omega))
end Go.Proofs.YthhjmodkodkgpaaDoor
