/- hash.spread: the 64 words of a piece. -/
import Derived.Test.YthhjmodkodkgpaaDoorMem
namespace Go.Proofs.YthhjmodkodkgpaaDoor
open Go.RowKit Sbx
def ints32 (l : List Nat) : Array Value := (l.map (fun n : Nat => Value.int .u32 n)).toArray
theorem sched_length (bs : List UInt8) (k : Nat) : (sched bs k).length = k := by
  induction k with
  | zero => rfl
  | succ k ih => simp [sched, ih]
def wcells (bs : List UInt8) (k : Nat) : Array Value := ints32 (sched bs k ++ List.replicate (64 - k) 0)
set_option maxRecDepth 100000 in
theorem wcells_zero (bs : List UInt8) : wcells bs 0 = #[Value.int .u32 0, Value.int .u32 0, Value.int .u32 0, Value.int .u32 0, Value.int .u32 0, Value.int .u32 0, Value.int .u32 0, Value.int .u32 0,
 Value.int .u32 0, Value.int .u32 0, Value.int .u32 0, Value.int .u32 0, Value.int .u32 0, Value.int .u32 0, Value.int .u32 0, Value.int .u32 0,
 Value.int .u32 0, Value.int .u32 0, Value.int .u32 0, Value.int .u32 0, Value.int .u32 0, Value.int .u32 0, Value.int .u32 0, Value.int .u32 0,
 Value.int .u32 0, Value.int .u32 0, Value.int .u32 0, Value.int .u32 0, Value.int .u32 0, Value.int .u32 0, Value.int .u32 0, Value.int .u32 0,
 Value.int .u32 0, Value.int .u32 0, Value.int .u32 0, Value.int .u32 0, Value.int .u32 0, Value.int .u32 0, Value.int .u32 0, Value.int .u32 0,
 Value.int .u32 0, Value.int .u32 0, Value.int .u32 0, Value.int .u32 0, Value.int .u32 0, Value.int .u32 0, Value.int .u32 0, Value.int .u32 0,
 Value.int .u32 0, Value.int .u32 0, Value.int .u32 0, Value.int .u32 0, Value.int .u32 0, Value.int .u32 0, Value.int .u32 0, Value.int .u32 0,
 Value.int .u32 0, Value.int .u32 0, Value.int .u32 0, Value.int .u32 0, Value.int .u32 0, Value.int .u32 0, Value.int .u32 0, Value.int .u32 0] := rfl
theorem wcells_size (bs : List UInt8) (k : Nat) (hk : k ≤ 64) : (wcells bs k).size = 64 := by
  simp [wcells, ints32, sched_length]; omega
theorem ints32_set (l : List Nat) (k v : Nat) : (ints32 l).setIfInBounds k (.int .u32 v) = ints32 (l.set k v) := by
  simp [ints32, List.map_set]
theorem set_snoc (l : List Nat) (n v : Nat) : (l ++ List.replicate (n + 1) 0).set l.length v = l ++ [v] ++ List.replicate n 0 := by
  rw [List.set_append_right _ _ (Nat.le_refl _), Nat.sub_self, List.replicate_succ]
  simp
theorem sched_succ (b : List UInt8) (t : Nat) : sched b (t + 1) = sched b t ++ [if t < 16 then word b t else (ssig1 ((sched b t).getD (t-2) 0) + (sched b t).getD (t-7) 0 + ssig0 ((sched b t).getD (t-15) 0) + (sched b t).getD (t-16) 0) % 4294967296] := rfl
theorem wcells_put (bs : List UInt8) (k v : Nat) (hk : k < 64) (hv : sched bs (k + 1) = sched bs k ++ [v]) : (wcells bs k).setIfInBounds k (.int .u32 v) = wcells bs (k + 1) := by
  unfold wcells
  rw [ints32_set, show 64 - k = (64 - (k + 1)) + 1 from by omega]
  conv => lhs; arg 1; arg 2; rw [← sched_length bs k]
  rw [set_snoc, hv]
theorem wcells_set (bs : List UInt8) (k : Nat) (hk : k < 16) : (wcells bs k).setIfInBounds k (.int .u32 (word bs k)) = wcells bs (k + 1) :=
  wcells_put bs k _ (by omega) (by rw [sched_succ, if_pos hk])
theorem or_add (a b i : Nat) (h : b < 2 ^ i) : (a * 2 ^ i) ||| b = a * 2 ^ i + b := by
  rw [← Nat.shiftLeft_eq, Nat.shiftLeft_add_eq_or_of_lt h]
theorem word_bits (bs : List UInt8) (k : Nat) : bits BinOp.or IntKind.u32 (bits BinOp.or IntKind.u32 (bits BinOp.or IntKind.u32 (↑(bs[4 * k]?.getD 0).toNat % 4294967296 * 16777216 % 4294967296) (↑(bs[4 * k + 1]?.getD 0).toNat % 4294967296 * 65536 % 4294967296)) (↑(bs[4 * k + 2]?.getD 0).toNat % 4294967296 * 256 % 4294967296)) (↑(bs[4 * k + 3]?.getD 0).toNat % 4294967296) = ((word bs k : Nat) : Int) := by
  unfold word
  simp only [List.getD_eq_getElem?_getD]
  generalize (bs[4 * k]?.getD 0) = a
  generalize (bs[4 * k + 1]?.getD 0) = b
  generalize (bs[4 * k + 2]?.getD 0) = c
  generalize (bs[4 * k + 3]?.getD 0) = d
  have ha := a.toNat_lt
  have hb := b.toNat_lt
  have hc := c.toNat_lt
  have hd := d.toNat_lt
  generalize a.toNat = a at *
  generalize b.toNat = b at *
  generalize c.toNat = c at *
  generalize d.toNat = d at *
  have ea : (a : Int) % 4294967296 * 16777216 % 4294967296 = ((a * 16777216 : Nat) : Int) := by omega
  have eb : (b : Int) % 4294967296 * 65536 % 4294967296 = ((b * 65536 : Nat) : Int) := by omega
  have ec : (c : Int) % 4294967296 * 256 % 4294967296 = ((c * 256 : Nat) : Int) := by omega
  have ed : (d : Int) % 4294967296 = (d : Int) := by omega
  rw [ea, eb, ec, ed, u32_or_nat _ _ (by omega) (by omega)]
  have o1 : (a * 16777216 ||| b * 65536) = a * 16777216 + b * 65536 := or_add a (b * 65536) 24 (by omega)
  rw [o1, u32_or_nat _ _ (by omega) (by omega)]
  have o2 : (a * 16777216 + b * 65536 ||| c * 256) = a * 16777216 + b * 65536 + c * 256 := by
    have := or_add (a * 256 + b) (c * 256) 16 (by omega)
    rw [show (a * 256 + b) * 2 ^ 16 = a * 16777216 + b * 65536 from by omega] at this
    exact this
  rw [o2, u32_or_nat _ _ (by omega) (by omega)]
  have o3 : (a * 16777216 + b * 65536 + c * 256 ||| d) = a * 16777216 + b * 65536 + c * 256 + d := by
    have := or_add (a * 65536 + b * 256 + c) d 8 (by omega)
    rw [show (a * 65536 + b * 256 + c) * 2 ^ 8 = a * 16777216 + b * 65536 + c * 256 from by omega] at this
    exact this
  rw [o3]
theorem and31 (s : Nat) (k : Int) (hk : k = (s : Int) - 32) (h1 : 1 ≤ s) (h2 : s < 32) : bits .and .u64 (IntKind.u64.wrap k) 31 = (s : Int) := by
  have e : IntKind.u64.wrap k = ((s + 18446744073709551584 : Nat) : Int) := by rw [IntKind.wrap_u64]; omega
  rw [e]
  have := u64_and_nat (s + 18446744073709551584) 31 (by omega) (by omega)
  rw [show ((31 : Nat) : Int) = 31 from rfl] at this
  rw [this]
  have h := Nat.and_two_pow_sub_one_eq_mod (s + 18446744073709551584) 5
  rw [show 2 ^ 5 - 1 = 31 from rfl] at h
  rw [h]
  omega
theorem rot_any (x s : Nat) (k : Int) (w : World) (hx : x < 4294967296) (hk : k = (s : Int) - 32) (h1 : 1 ≤ s) (h2 : s < 32) :
    Calls Tryd.prog 87 #[.int .u32 x, .int .i64 k] w fun e w' => e = .returned (.int .u32 ((rl x s : Nat) : Int)) ∧ w = w' := by
  have ha := and31 s k hk h1 h2
  have HK := Lib.hid hk
  clear hk
  have hs0 : (0 : Int) ≤ (s : Int) := by omega
  have hs1 : (s : Int) ≤ 31 := by omega
  go_enter Tryd.func87, Tryd.ntmps87
  go_wp2
  go_ret
  refine ⟨?_, rfl⟩
  show Ending.returned (.int .u32 (bits BinOp.or IntKind.u32 ((x : Int) * 2 ^ s % 4294967296) ((x : Int) / 2 ^ (32 - s)))) = _
  have e1 : (x : Int) * 2 ^ s % 4294967296 = ((x * 2 ^ s % 4294967296 : Nat) : Int) := by simp
  have e2 : (x : Int) / 2 ^ (32 - s) = ((x / 2 ^ (32 - s) : Nat) : Int) := by simp
  rw [e1, e2, u32_or_nat _ _ (Nat.mod_lt _ (by omega)) (Nat.lt_of_le_of_lt (Nat.div_le_self _ _) hx)]
  rfl
theorem rl_lt (x s : Nat) (hx : x < 4294967296) : rl x s < 4294967296 := by
  unfold rl
  exact Nat.or_lt_two_pow (n := 32) (Nat.mod_lt _ (by omega)) (Nat.lt_of_le_of_lt (Nat.div_le_self _ _) hx)
theorem rotm_any (x : Nat) (k : Int) (w : World) (hx : x < 4294967296) (h1 : -32 < k) (h2 : k < 0) :
    Calls Tryd.prog 87 #[.int .u32 x, .int .i64 k] w fun e w' => e = .returned (.int .u32 ((rl x (k + 32).toNat : Nat) : Int)) ∧ w = w' :=
  rot_any x (k + 32).toNat k w hx (by omega) (by omega) (by omega)
theorem ints32_one (l : List Nat) : (ints32 l).all (·.oneCell') = true := by
  simp [ints32, Value.oneCell']
theorem wcells_all (bs : List UInt8) : wcells bs 64 = ints32 (sched bs 64) := by
  unfold wcells
  rw [Nat.sub_self, List.replicate_zero, List.append_nil]
theorem size52 : (Tryd.prog.info? 72).map (·.size) = some 64 := by kernel_rfl
theorem xor3 (a b c : Nat) (ha : a < 4294967296) (hb : b < 4294967296) (hc : c < 4294967296) : bits BinOp.xor IntKind.u32 (bits BinOp.xor IntKind.u32 (a : Int) (b : Int)) (c : Int) = ((a ^^^ b ^^^ c : Nat) : Int) := by
  rw [u32_xor_nat _ _ ha hb, u32_xor_nat _ _ (Nat.xor_lt_two_pow (n := 32) ha hb) hc]
theorem m32_lt (n : Nat) : n % 4294967296 < 4294967296 := Nat.mod_lt _ (by omega)
theorem word_lt (bs : List UInt8) (t : Nat) : word bs t < 4294967296 := by
  unfold word
  have h0 := (bs.getD (4*t) 0).toNat_lt
  have h1 := (bs.getD (4*t+1) 0).toNat_lt
  have h2 := (bs.getD (4*t+2) 0).toNat_lt
  have h3 := (bs.getD (4*t+3) 0).toNat_lt
  omega
theorem sched_all (bs : List UInt8) (k : Nat) : ∀ n ∈ sched bs k, n < 4294967296 := by
  induction k with
  | zero => intro n hn; cases hn
  | succ k ih =>
    intro n hn
    rw [sched_succ, List.mem_append] at hn
    rcases hn with hn | hn
    · exact ih n hn
    · rw [List.mem_singleton] at hn
      rw [hn]
      split
      · exact word_lt _ _
      · exact m32_lt _
theorem getD_lt (l : List Nat) (h : ∀ n ∈ l, n < 4294967296) (j : Nat) : l.getD j 0 < 4294967296 := by
  rw [List.getD_eq_getElem?_getD]
  cases e : l[j]? with
  | none => simp
  | some v => exact h v (List.mem_of_getElem? e)
theorem sched_lt (bs : List UInt8) (k j : Nat) : (sched bs k).getD j 0 < 4294967296 := getD_lt _ (sched_all bs k) j
theorem wcells_get (bs : List UInt8) (k j : Nat) (hj : j < k) (_hk : k ≤ 64) : (wcells bs k)[j]? = some (.int .u32 ((sched bs k).getD j 0)) := by
  unfold wcells ints32
  have hl := sched_length bs k
  simp only [List.getElem?_toArray, List.getElem?_map]
  rw [List.getElem?_append_left (by omega), List.getD_eq_getElem?_getD, List.getElem?_eq_getElem (by omega)]
  rfl
set_option maxRecDepth 100000 in
set_option maxHeartbeats 2000000 in
theorem spread_any (b off : Nat) (bs : List UInt8) (_hl : bs.length = 64) (w : World)
    (hc : ∀ i, i < 64 → w.cell? ⟨b, off + i, none⟩ = some (.int .u8 (bs.getD i 0).toNat)) :
    Calls Tryd.prog 86 #[.pointer (some ⟨b, off, none⟩)] w fun e w' =>
      e = .returned (.agg (ints32 (sched bs 64))) ∧ Below w.heap.size w w' := by
  have HC := Lib.hid hc
  clear hc
  go_enter Tryd.func86, Tryd.ntmps86
  go_wp2
  go_loopw [3, 9] (fun v3 v9 wr => ∃ k : Nat, k ≤ 16 ∧ v9 = .int .i64 k ∧ wr.heap[w.heap.size]? = some (.cells (wcells bs k) 72 (0, 0)) ∧ Below w.heap.size w wr)
    (fun _ v9 _ => 16 - (intOf v9).toNat)
  case atStart => exact ⟨0, by omega, rfl, by rw [wcells_zero]; exact heap_alloc_new _ _, (Below.refl _ _).alloc (Nat.le_refl _) _⟩
  case round =>
    obtain ⟨k, hk, h9, hB, hb⟩ := hrel
    by_cases hlt : k < 16
    · subst h9
      have hc : ∀ j, j < 4 → wr.cell? ⟨b, off + (4 * k + j), none⟩ = some (.int .u8 (bs.getD (4 * k + j) 0).toNat) := by
        intro j hj
        have h1 := HC.out (4 * k + j) (by omega)
        rw [← h1]
        exact hb.cell (p := ⟨b, off + (4 * k + j), none⟩) (block_lt_of_cell h1)
      have h0 : wr.cell? ⟨b, off + (4 * k), none⟩ = some (.int .u8 (bs.getD (4 * k) 0).toNat) := hc 0 (by omega)
      have h1 := hc 1 (by omega)
      have h2 := hc 2 (by omega)
      have h3 := hc 3 (by omega)
      clear hc
      have hBH := Lib.hid hB
      clear hB
      go_wp2
      have e0 : IntKind.i64.wrap (4 * (k : Int)) = 4 * (k : Int) := IntWalk.i64_in _ (by omega)
      have e1 : IntKind.i64.wrap (4 * (k : Int) + 1) = 4 * (k : Int) + 1 := IntWalk.i64_in _ (by omega)
      have e2 : IntKind.i64.wrap (4 * (k : Int) + 2) = 4 * (k : Int) + 2 := IntWalk.i64_in _ (by omega)
      have e3 : IntKind.i64.wrap (4 * (k : Int) + 3) = 4 * (k : Int) + 3 := IntWalk.i64_in _ (by omega)
      have p0 : 0 ≤ 4 * (k : Int) := by omega
      have p1 : 0 ≤ 4 * (k : Int) + 1 := by omega
      have p2 : 0 ≤ 4 * (k : Int) + 2 := by omega
      have p3 : 0 ≤ 4 * (k : Int) + 3 := by omega
      have q0 : 4 * (k : Int) < 64 := by omega
      have q1 : 4 * (k : Int) + 1 < 64 := by omega
      have q2 : 4 * (k : Int) + 2 < 64 := by omega
      have q3 : 4 * (k : Int) + 3 < 64 := by omega
      have t0 : (4 * (k : Int)).toNat = 4 * k := by omega
      have t1 : (4 * (k : Int) + 1).toNat = 4 * k + 1 := by omega
      have t2 : (4 * (k : Int) + 2).toNat = 4 * k + 2 := by omega
      have t3 : (4 * (k : Int) + 3).toNat = 4 * k + 3 := by omega
      have hk0 : (0 : Int) ≤ (k : Int) := by omega
      have hk1 : (k : Int) < 64 := by omega
      go_still_tail 39, (by kernel_rfl)
      have hwl : (wcells bs k).size = 64 := wcells_size bs k (by omega)
      obtain ⟨v0, hcell⟩ : ∃ v, wr.drew.cell? ⟨w.heap.size, k, none⟩ = some v := cell_ex (w := wr) hBH.out (by rw [hwl]; omega)
      have hfr : wr.drew.frozen? ⟨w.heap.size, k, none⟩ = false := frozen_of_row wr _ _ _ _ hBH.out
      change wpList _ _ _ _ _ wr.drew
      clear e0 e1 e2 e3 p0 p1 p2 p3 q0 q1 q2 q3 t0 t1 t2 t3 h0 h1 h2 h3
      go_wp2
      go_roundw
      case rel =>
        refine ⟨k + 1, by omega, by go_num, ?_, ?_⟩
        · show (wr.setCell _ _).heap[w.heap.size]? = _
          rw [heap_setCell_same _ _ _ _ _ _ hBH.out, word_bits, wcells_set bs k (by omega)]
        · exact (hb.setCell (p := ⟨w.heap.size, k, none⟩) (Nat.le_refl _) _).drew
      case measure => simp [intOf]; omega
    · obtain rfl : k = 16 := by omega
      replace h9 := h9.trans (show _ = Value.int .i64 16 from rfl)
      subst h9
      clear hlt
      go_wp2
      go_loopw [4, 5, 6, 7, 8] (fun v4 v5 v6 v7 v8 wr => ∃ k : Nat, 16 ≤ k ∧ k ≤ 64 ∧ v4 = .int .i64 k ∧ wr.heap[w.heap.size]? = some (.cells (wcells bs k) 72 (0, 0)) ∧ Below w.heap.size w wr)
        (fun v4 _ _ _ _ _ => 64 - (intOf v4).toNat)
      case atStart => exact ⟨16, by omega, by omega, rfl, hB, hb⟩
      case round =>
        clear hb hB
        obtain ⟨k, hk1, hk2, rfl, hB, hb⟩ := hrel
        by_cases hlt : k < 64
        · have hg : ∀ j, j < k → wr.cell? ⟨w.heap.size, j, none⟩ = some (.int .u32 ((sched bs k).getD j 0)) := by
            intro j hj
            rw [cell_of_row wr _ _ _ _ _ hB]
            exact wcells_get bs k j hj hk2
          obtain ⟨x2, e2⟩ : ∃ n, n = (sched bs k).getD (k - 2) 0 := ⟨_, rfl⟩
          obtain ⟨x7, e7⟩ : ∃ n, n = (sched bs k).getD (k - 7) 0 := ⟨_, rfl⟩
          obtain ⟨x15, e15⟩ : ∃ n, n = (sched bs k).getD (k - 15) 0 := ⟨_, rfl⟩
          obtain ⟨x16, e16⟩ : ∃ n, n = (sched bs k).getD (k - 16) 0 := ⟨_, rfl⟩
          have h2 : wr.cell? ⟨w.heap.size, k - 2, none⟩ = some (.int .u32 x2) := by rw [e2]; exact hg (k - 2) (by omega)
          have h7 : wr.cell? ⟨w.heap.size, k - 7, none⟩ = some (.int .u32 x7) := by rw [e7]; exact hg (k - 7) (by omega)
          have h15 : wr.cell? ⟨w.heap.size, k - 15, none⟩ = some (.int .u32 x15) := by rw [e15]; exact hg (k - 15) (by omega)
          have h16 : wr.cell? ⟨w.heap.size, k - 16, none⟩ = some (.int .u32 x16) := by rw [e16]; exact hg (k - 16) (by omega)
          have l2 : x2 < 4294967296 := by rw [e2]; exact sched_lt _ _ _
          have l7 : x7 < 4294967296 := by rw [e7]; exact sched_lt _ _ _
          have l15 : x15 < 4294967296 := by rw [e15]; exact sched_lt _ _ _
          have l16 : x16 < 4294967296 := by rw [e16]; exact sched_lt _ _ _
          have E := Lib.hid (And.intro e2 (And.intro e7 (And.intro e15 e16)))
          clear hg e2 e7 e15 e16
          have hBH := Lib.hid hB
          clear hB
          have a2 : IntKind.i64.wrap ((k : Int) - 2) = (k : Int) - 2 := IntWalk.i64_in _ (by omega)
          have a15 : IntKind.i64.wrap ((k : Int) - 15) = (k : Int) - 15 := IntWalk.i64_in _ (by omega)
          have b2 : 0 ≤ (k : Int) - 2 := by omega
          have b15 : 0 ≤ (k : Int) - 15 := by omega
          have c2 : (k : Int) - 2 < 64 := by omega
          have c15 : (k : Int) - 15 < 64 := by omega
          have d2 : ((k : Int) - 2).toNat = k - 2 := by omega
          have d15 : ((k : Int) - 15).toNat = k - 15 := by omega
          go_wp2_with fail
          go_quiet (fail)
          clear a2 a15 b2 b15 c2 c15 d2 d15 h2 h15
          have h7 : (wr.drewN nq).cell? ⟨w.heap.size, k - 7, none⟩ = some (.int .u32 x7) := h7
          have h16 : (wr.drewN nq).cell? ⟨w.heap.size, k - 16, none⟩ = some (.int .u32 x16) := h16
          have hBH : Hid ((wr.drewN nq).heap[w.heap.size]? = some (.cells (wcells bs k) 72 (0, 0))) := hBH
          have hb : Below w.heap.size w (wr.drewN nq) := ⟨hb.os, hb.tape, hb.output, hb.size, hb.block⟩
          generalize wr.drewN nq = W1 at *
          go_wp2_with (go_at_call 87; refine (rotm_any _ _ _ (by assumption) (by omega) (by omega)).mono ?_; rintro e w' ⟨rfl, rfl⟩)
          have s7 : bits BinOp.xor IntKind.u32 (bits BinOp.xor IntKind.u32 ↑(rl x2 15) ↑(rl x2 13)) ((x2 : Int) / 1024) = ((ssig1 x2 : Nat) : Int) := xor3 _ _ (x2 / 1024) (rl_lt _ _ l2) (rl_lt _ _ l2) (by omega)
          have s8 : bits BinOp.xor IntKind.u32 (bits BinOp.xor IntKind.u32 ↑(rl x15 25) ↑(rl x15 14)) ((x15 : Int) / 8) = ((ssig0 x15 : Nat) : Int) := xor3 _ _ (x15 / 8) (rl_lt _ _ l15) (rl_lt _ _ l15) (by omega)
          rw [s7, s8]
          clear s7 s8
          have a7 : IntKind.i64.wrap ((k : Int) - 7) = (k : Int) - 7 := IntWalk.i64_in _ (by omega)
          have a16 : IntKind.i64.wrap ((k : Int) - 16) = (k : Int) - 16 := IntWalk.i64_in _ (by omega)
          have b7 : 7 ≤ (k : Int) := by omega
          have b16 : 16 ≤ (k : Int) := by omega
          have c7 : (k : Int) - 7 < 64 := by omega
          have c16 : (k : Int) - 16 < 64 := by omega
          have d7 : ((k : Int) - 7).toNat = k - 7 := by omega
          have d16 : ((k : Int) - 16).toNat = k - 16 := by omega
          have hk0 : (0 : Int) ≤ (k : Int) := by omega
          have hk64 : (k : Int) < 64 := by omega
          go_still_tail 15, (by kernel_rfl)
          have hwl : (wcells bs k).size = 64 := wcells_size bs k (by omega)
          obtain ⟨v0, hcell⟩ : ∃ v, W1.drew.cell? ⟨w.heap.size, k, none⟩ = some v := cell_ex (w := W1) hBH.out (by rw [hwl]; omega)
          have hfr : W1.drew.frozen? ⟨w.heap.size, k, none⟩ = false := frozen_of_row W1 _ _ _ _ hBH.out
          change wpList _ _ _ _ _ W1.drew
          clear a7 a16 b7 b16 c7 c16 d7 d16 h7 h16
          go_wp2
          go_roundw
          case rel =>
            refine ⟨k + 1, by omega, by omega, by go_num, ?_, ?_⟩
            · show (W1.setCell _ _).heap[w.heap.size]? = _
              rw [heap_setCell_same _ _ _ _ _ _ hBH.out]
              have ev : ((ssig1 x2 : Int) + (x7 : Int) + (ssig0 x15 : Int) + (x16 : Int)) % 4294967296 = (((ssig1 x2 + x7 + ssig0 x15 + x16) % 4294967296 : Nat) : Int) := by omega
              rw [ev, wcells_put bs k _ hlt]
              obtain ⟨e2, e7, e15, e16⟩ := E.out
              rw [sched_succ, if_neg (by omega), ← e2, ← e7, ← e15, ← e16]
            · exact (hb.setCell (p := ⟨w.heap.size, k, none⟩) (Nat.le_refl _) _).drew
          case measure => simp [intOf]; omega
        · have hk : k = 64 := by omega
          subst hk
          have hsz : (Tryd.prog.info? 72).map (·.size) = some (wcells bs 64).size := size52.trans (by rw [wcells_size bs 64 (by omega)])
          have HB := Lib.hid hB
          have HS := Lib.hid hsz
          clear hB hsz
          go_wp2_with ((with_reducible refine gate_op (Op.load 72 (Operand.tmp 2)) rfl ?_); refine wpList_reload rfl rfl 72 2 95 rfl rfl rfl (by decide) (by simp) w.heap.size 72 (wcells bs 64) _ rfl HB.out Tryd.underlying72 rfl HS.out (ints32_one _) ?_)
          refine bodyPost_ret (results_cell_row rfl _ wr w.heap.size 72 (wcells bs 64) (0, 0) _ (by simp [Act.put]) HB.out Tryd.underlying72 rfl HS.out) rfl ⟨?_, hb⟩
          rw [wcells_all]
end Go.Proofs.YthhjmodkodkgpaaDoor
