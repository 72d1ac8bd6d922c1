/- hash.words.through: a piece is gone through. -/
import Derived.Test.YthhjmodkodkgpaaDoorWSpread
namespace Go.Proofs.YthhjmodkodkgpaaDoor
open Go.RowKit Sbx

def stl (s : St) : List Nat := [s.a, s.b, s.c, s.d, s.e, s.f, s.g, s.h]
def i32s (l : List Nat) : List Value := l.map (fun n : Nat => Value.int .u32 n)
def b8s (l : List UInt8) : List Value := l.map (fun b : UInt8 => Value.int .u8 b.toNat)
/-- the cells of a Hasher -/
def hcells (s : List Nat) (rest : List UInt8) (n : Int) : Array Value := (i32s s ++ (b8s rest ++ [Value.int .i64 n])).toArray
def StOk (s : St) : Prop := ∀ x ∈ stl s, x < 4294967296
/-- what the two listed variables hold -/
structure Glob (w : World) : Prop where
  cubes : ∀ i, i < 64 → w.cell? ⟨1, i, none⟩ = some (.int .u32 ((ks.getD i 0 : Nat) : Int))
  first : ∀ i, i < 8 → w.cell? ⟨0, i, none⟩ = some (.int .u32 (((stl iv).getD i 0 : Nat) : Int))
theorem Glob.below {w w' : World} (h : Glob w) (hb : Below w.heap.size w w') : Glob w' :=
  ⟨fun i hi => (hb.cell (p := ⟨1, i, none⟩) (block_lt_of_cell (h.cubes i hi))).trans (h.cubes i hi),
   fun i hi => (hb.cell (p := ⟨0, i, none⟩) (block_lt_of_cell (h.first i hi))).trans (h.first i hi)⟩

theorem i32s_length (l : List Nat) : (i32s l).length = l.length := by simp [i32s]
theorem b8s_length (l : List UInt8) : (b8s l).length = l.length := by simp [b8s]
theorem i32s_get (l : List Nat) (i : Nat) (h : i < l.length) : (i32s l)[i]? = some (.int .u32 ((l.getD i 0 : Nat) : Int)) := by
  unfold i32s
  rw [List.getElem?_map, List.getElem?_eq_getElem h, List.getD_eq_getElem?_getD, List.getElem?_eq_getElem h]
  rfl
theorem b8s_get (l : List UInt8) (i : Nat) (h : i < l.length) : (b8s l)[i]? = some (.int .u8 ((l.getD i 0).toNat : Int)) := by
  unfold b8s
  rw [List.getElem?_map, List.getElem?_eq_getElem h, List.getD_eq_getElem?_getD, List.getElem?_eq_getElem h]
  rfl
theorem hc_state (s : List Nat) (rest : List UInt8) (n : Int) (hs : s.length = 8) (i : Nat) (hi : i < 8) : (hcells s rest n)[i]? = some (.int .u32 ((s.getD i 0 : Nat) : Int)) := by
  unfold hcells
  rw [List.getElem?_toArray, List.getElem?_append_left (by rw [i32s_length]; omega), i32s_get _ _ (by omega)]
theorem hc_rest (s : List Nat) (rest : List UInt8) (n : Int) (hs : s.length = 8) (hr : rest.length = 64) (i : Nat) (hi : i < 64) : (hcells s rest n)[8 + i]? = some (.int .u8 ((rest.getD i 0).toNat : Int)) := by
  unfold hcells
  rw [List.getElem?_toArray, List.getElem?_append_right (by rw [i32s_length]; omega), List.getElem?_append_left (by rw [i32s_length, b8s_length]; omega), i32s_length, hs, Nat.add_sub_cancel_left, b8s_get _ _ (by omega)]
theorem hc_size (s : List Nat) (rest : List UInt8) (n : Int) (hs : s.length = 8) (hr : rest.length = 64) : (hcells s rest n).size = 73 := by
  simp [hcells, i32s, b8s, hs, hr]
theorem hc_len (s : List Nat) (rest : List UInt8) (n : Int) (hs : s.length = 8) (hr : rest.length = 64) : (hcells s rest n)[72]? = some (.int .i64 n) := by
  unfold hcells
  rw [List.getElem?_toArray, List.getElem?_append_right (by rw [i32s_length]; omega), List.getElem?_append_right (by rw [i32s_length, b8s_length]; omega), i32s_length, b8s_length, hs, hr]
  rfl
theorem hc_set (s : List Nat) (rest : List UInt8) (n : Int) (i v : Nat) (hi : i < s.length) : (hcells s rest n).setIfInBounds i (.int .u32 ((v : Nat) : Int)) = hcells (s.set i v) rest n := by
  unfold hcells
  rw [List.setIfInBounds_toArray, List.set_append_left _ _ (by rw [i32s_length]; exact hi)]
  unfold i32s
  rw [List.map_set]

theorem stl_add (s t : St) (k : Nat) (hk : k < 8) : (stl (s.add t)).getD k 0 = ((stl s).getD k 0 + (stl t).getD k 0) % 4294967296 := by
  match k, hk with
  | 0, _ => rfl
  | 1, _ => rfl
  | 2, _ => rfl
  | 3, _ => rfl
  | 4, _ => rfl
  | 5, _ => rfl
  | 6, _ => rfl
  | 7, _ => rfl
theorem mix_step (A B : List Nat) (h : A.length = B.length) (k : Nat) (hk : k < A.length) : (B.take k ++ A.drop k).set k (B.getD k 0) = B.take (k + 1) ++ A.drop (k + 1) := by
  have hl : (B.take k).length = k := by rw [List.length_take]; omega
  have hB : k < B.length := by omega
  rw [List.set_append_right _ _ (by omega), hl, Nat.sub_self, List.drop_eq_getElem_cons hk, List.set_cons_zero, List.take_succ_eq_append_getElem hB, List.getD_eq_getElem?_getD,
    List.getElem?_eq_getElem hB, List.append_assoc]
  rfl
theorem mix_get (A B : List Nat) (h : A.length = B.length) (k : Nat) (hk : k < A.length) : (B.take k ++ A.drop k).getD k 0 = A.getD k 0 := by
  have hl : (B.take k).length = k := by rw [List.length_take]; omega
  rw [List.getD_eq_getElem?_getD, List.getElem?_append_right (by omega), hl, Nat.sub_self, List.getD_eq_getElem?_getD, List.getElem?_drop]
  rfl
theorem rnds_ok (w : List Nat) (s : St) (hs : StOk s) (k : Nat) : StOk (rnds w k s) := by
  induction k with
  | zero => exact hs
  | succ k ih =>
    intro x hx
    unfold rnds rnd stl at hx
    simp only [List.mem_cons, List.not_mem_nil, or_false] at hx
    have hm : ∀ y ∈ stl (rnds w k s), y < 4294967296 := ih
    simp only [stl, List.mem_cons, List.not_mem_nil, or_false, forall_eq_or_imp, forall_eq] at hm
    rcases hx with rfl | rfl | rfl | rfl | rfl | rfl | rfl | rfl
    · exact m32_lt _
    · exact hm.1
    · exact hm.2.1
    · exact hm.2.2.1
    · exact m32_lt _
    · exact hm.2.2.2.2.1
    · exact hm.2.2.2.2.2.1
    · exact hm.2.2.2.2.2.2.1
theorem add_ok (s t : St) : StOk (s.add t) := by
  intro x hx
  unfold St.add stl m32 at hx
  simp only [List.mem_cons, List.not_mem_nil, or_false] at hx
  rcases hx with rfl | rfl | rfl | rfl | rfl | rfl | rfl | rfl <;> exact m32_lt _
theorem compress_eq (s : St) (b : List UInt8) : compress s b = s.add (rnds (sched b 64) 64 s) := by unfold compress; rfl
theorem compress_ok (s : St) (b : List UInt8) : StOk (compress s b) := by rw [compress_eq]; exact add_ok _ _
theorem iv_ok : StOk iv := by unfold StOk stl iv; decide
theorem ks_lt (i : Nat) : ks.getD i 0 < 4294967296 := getD_lt _ (by decide) i
theorem size_words : (Tryd.prog.info? 69).map (·.size) = some 1 := by kernel_rfl
theorem and_lt (a b : Nat) (ha : a < 4294967296) : a &&& b < 4294967296 := Nat.lt_of_le_of_lt Nat.and_le_left ha
theorem xor_lt (a b : Nat) (ha : a < 4294967296) (hb : b < 4294967296) : a ^^^ b < 4294967296 := Nat.xor_lt_two_pow (n := 32) ha hb
theorem ch_bits (e f g : Nat) (he : e < 4294967296) (hf : f < 4294967296) (hg : g < 4294967296) :
    bits BinOp.xor IntKind.u32 (bits BinOp.and IntKind.u32 (e : Int) (f : Int)) (bits BinOp.and IntKind.u32 (bits BinOp.xor IntKind.u32 (if IntKind.u32.signed = true then -1 else IntKind.u32.max) (e : Int)) (g : Int)) = ((chf e f g : Nat) : Int) := by
  have h1 : (if IntKind.u32.signed = true then (-1 : Int) else IntKind.u32.max) = ((4294967295 : Nat) : Int) := rfl
  rw [h1, u32_xor_nat _ _ (by omega) he, u32_and_nat _ _ he hf, u32_and_nat _ _ (xor_lt _ _ (by omega) he) hg, u32_xor_nat _ _ (and_lt _ _ he) (and_lt _ _ (xor_lt _ _ (by omega) he))]
  rfl
theorem maj_bits (a b c : Nat) (ha : a < 4294967296) (hb : b < 4294967296) (hc : c < 4294967296) :
    bits BinOp.xor IntKind.u32 (bits BinOp.xor IntKind.u32 (bits BinOp.and IntKind.u32 (a : Int) (b : Int)) (bits BinOp.and IntKind.u32 (a : Int) (c : Int))) (bits BinOp.and IntKind.u32 (b : Int) (c : Int)) = ((maj a b c : Nat) : Int) := by
  rw [u32_and_nat _ _ ha hb, u32_and_nat _ _ ha hc, u32_and_nat _ _ hb hc, xor3 _ _ _ (and_lt _ _ ha) (and_lt _ _ ha) (and_lt _ _ hb)]
  rfl
theorem rnd_one (t : St) (c x : Nat) (la : t.a < 4294967296) (lb : t.b < 4294967296) (lc : t.c < 4294967296) (le : t.e < 4294967296) (lf : t.f < 4294967296) (lg : t.g < 4294967296) :
    (((t.h : Int) + bits BinOp.xor IntKind.u32 (bits BinOp.xor IntKind.u32 ↑(rl t.e 26) ↑(rl t.e 21)) ↑(rl t.e 7) + bits BinOp.xor IntKind.u32 (bits BinOp.and IntKind.u32 ↑t.e ↑t.f) (bits BinOp.and IntKind.u32 (bits BinOp.xor IntKind.u32 (if IntKind.u32.signed = true then -1 else IntKind.u32.max) ↑t.e) ↑t.g) + ↑c + ↑x) % 4294967296 +
      (bits BinOp.xor IntKind.u32 (bits BinOp.xor IntKind.u32 ↑(rl t.a 30) ↑(rl t.a 19)) ↑(rl t.a 10) + bits BinOp.xor IntKind.u32 (bits BinOp.xor IntKind.u32 (bits BinOp.and IntKind.u32 ↑t.a ↑t.b) (bits BinOp.and IntKind.u32 ↑t.a ↑t.c)) (bits BinOp.and IntKind.u32 ↑t.b ↑t.c)) % 4294967296) % 4294967296 = ((rnd t c x).a : Int) := by
  rw [xor3 _ _ _ (rl_lt _ _ le) (rl_lt _ _ le) (rl_lt _ _ le), xor3 _ _ _ (rl_lt _ _ la) (rl_lt _ _ la) (rl_lt _ _ la), ch_bits _ _ _ le lf lg, maj_bits _ _ _ la lb lc]
  simp only [rnd, bsig1, bsig0]
  omega
theorem rnd_two (t : St) (c x : Nat) (le : t.e < 4294967296) (lf : t.f < 4294967296) (lg : t.g < 4294967296) :
    ((t.d : Int) + ((t.h : Int) + bits BinOp.xor IntKind.u32 (bits BinOp.xor IntKind.u32 ↑(rl t.e 26) ↑(rl t.e 21)) ↑(rl t.e 7) + bits BinOp.xor IntKind.u32 (bits BinOp.and IntKind.u32 ↑t.e ↑t.f) (bits BinOp.and IntKind.u32 (bits BinOp.xor IntKind.u32 (if IntKind.u32.signed = true then -1 else IntKind.u32.max) ↑t.e) ↑t.g) + ↑c + ↑x) % 4294967296) % 4294967296 = ((rnd t c x).e : Int) := by
  rw [xor3 _ _ _ (rl_lt _ _ le) (rl_lt _ _ le) (rl_lt _ _ le), ch_bits _ _ _ le lf lg]
  simp only [rnd, bsig1]
  omega
theorem rnd_ok (t : St) (c x : Nat) (h : StOk t) : StOk (rnd t c x) := by
  intro y hx
  have hm : ∀ y ∈ stl t, y < 4294967296 := h
  simp only [stl, List.mem_cons, List.not_mem_nil, or_false, forall_eq_or_imp, forall_eq] at hm
  unfold rnd stl at hx
  simp only [List.mem_cons, List.not_mem_nil, or_false] at hx
  rcases hx with rfl | rfl | rfl | rfl | rfl | rfl | rfl | rfl
  · exact m32_lt _
  · exact hm.1
  · exact hm.2.1
  · exact hm.2.2.1
  · exact m32_lt _
  · exact hm.2.2.2.2.1
  · exact hm.2.2.2.2.2.1
  · exact hm.2.2.2.2.2.2.1
theorem vu32 {a b : Int} (h : a = b) : Value.int .u32 a = Value.int .u32 b := by rw [h]

set_option maxRecDepth 100000 in
set_option maxHeartbeats 2000000 in
theorem through_any (g : Nat) (s : St) (rest : List UInt8) (n : Int) (w : World) (hs : StOk s) (hlen : rest.length = 64) (hG : Glob w)
    (hH : w.heap[g]? = some (.cells (hcells (stl s) rest n) 98 (0, 0))) :
    Calls Tryd.prog 79 #[.pointer (some ⟨g, 0, none⟩), .pointer (some ⟨g, 8, none⟩)] w fun e w' =>
      e = .returned (.tuple #[]) ∧ w'.heap[g]? = some (.cells (hcells (stl (compress s rest)) rest n) 98 (0, 0)) ∧ w.grownBy w' (some g) := by
  have HG := Lib.hid hG
  have HH := Lib.hid hH
  have hg := block_of_cells hH
  have HL := Lib.hid hlen
  have hsp := fun (W : World) (hW : W = w) => spread_any g 8 rest hlen W (fun i hi => by rw [hW, cell_of_row w _ _ _ _ _ hH]; exact hc_rest _ _ _ rfl hlen i hi)
  have HSP := Lib.hid hsp
  clear hG hH hlen hsp
  go_enter Tryd.func79, Tryd.ntmps79
  go_wp2_with (first
    | (go_at_call 86; refine (HSP.out _ rfl).mono ?_; rintro e w1 ⟨rfl, hb1⟩)
    | ((with_reducible refine gate_op (Op.store 72 (Operand.tmp 4) (Operand.tmp 19)) rfl ?_); refine wpList_store_row rfl 72 (.tmp 4) (.tmp 19) rfl w1.heap.size (ints32 (sched rest 64)) rfl rfl 72 _ (heap_alloc_new _ _) (size52.trans (by rw [← wcells_all, wcells_size _ _ (by omega)])) (by rw [← wcells_all, wcells_size _ _ (by omega)]; rfl) (ints32_one _) ?_; rw [setRow_alloc]))
  have hB1 : Below w.heap.size w (w1.alloc (.cells (ints32 (sched rest 64)) 72)) := hb1.alloc hb1.size _
  have hW2 : (w1.alloc (.cells (ints32 (sched rest 64)) 72)).heap[w1.heap.size]? = some (.cells (ints32 (sched rest 64)) 72 (0, 0)) := heap_alloc_new _ _
  have hle := hb1.size
  obtain ⟨W2, eW2⟩ : ∃ W, W = w1.alloc (.cells (ints32 (sched rest 64)) 72) := ⟨_, rfl⟩
  obtain ⟨B, eB⟩ : ∃ n, n = w1.heap.size := ⟨_, rfl⟩
  rw [← eW2] at hB1 hW2
  rw [← eB] at hW2 hle
  rw [← eW2, ← eB]
  clear eW2 eB hb1
  have hg2 : W2.heap[g]? = some (.cells (hcells (stl s) rest n) 98 (0, 0)) := (hB1.block g hg).trans HH.out
  have HG2 := Lib.hid (HG.out.below hB1)
  have HW2 := Lib.hid hW2
  have s0 : W2.cell? ⟨g, 0, none⟩ = some (.int .u32 s.a) := by rw [cell_of_row W2 _ _ _ _ _ hg2]; exact hc_state _ _ _ rfl 0 (by omega)
  have s1 : W2.cell? ⟨g, 1, none⟩ = some (.int .u32 s.b) := by rw [cell_of_row W2 _ _ _ _ _ hg2]; exact hc_state _ _ _ rfl 1 (by omega)
  have s2 : W2.cell? ⟨g, 2, none⟩ = some (.int .u32 s.c) := by rw [cell_of_row W2 _ _ _ _ _ hg2]; exact hc_state _ _ _ rfl 2 (by omega)
  have s3 : W2.cell? ⟨g, 3, none⟩ = some (.int .u32 s.d) := by rw [cell_of_row W2 _ _ _ _ _ hg2]; exact hc_state _ _ _ rfl 3 (by omega)
  have s4 : W2.cell? ⟨g, 4, none⟩ = some (.int .u32 s.e) := by rw [cell_of_row W2 _ _ _ _ _ hg2]; exact hc_state _ _ _ rfl 4 (by omega)
  have s5 : W2.cell? ⟨g, 5, none⟩ = some (.int .u32 s.f) := by rw [cell_of_row W2 _ _ _ _ _ hg2]; exact hc_state _ _ _ rfl 5 (by omega)
  have s6 : W2.cell? ⟨g, 6, none⟩ = some (.int .u32 s.g) := by rw [cell_of_row W2 _ _ _ _ _ hg2]; exact hc_state _ _ _ rfl 6 (by omega)
  have s7 : W2.cell? ⟨g, 7, none⟩ = some (.int .u32 s.h) := by rw [cell_of_row W2 _ _ _ _ _ hg2]; exact hc_state _ _ _ rfl 7 (by omega)
  have HG2H := Lib.hid hg2
  clear hg2 hW2
  simp only [Act.put]
  go_quiet (fail)
  clear s0 s1 s2 s3 s4 s5 s6 s7
  go_wp2_with fail
  have t0 : StOk s ∧ Hid (s = rnds (sched rest 64) 0 s) := ⟨hs, rfl⟩
  go_loopw [5, 6, 7, 8, 9, 10, 11, 12, 13, 14, 15, 52] (fun v5 v6 v7 v8 v9 v10 v11 v12 v13 v14 v15 v52 wr => ∃ (k : Nat) (t : St), k ≤ 64 ∧ (StOk t ∧ Hid (t = rnds (sched rest 64) k s)) ∧
      v5 = .int .u32 t.a ∧ v6 = .int .u32 t.b ∧ v7 = .int .u32 t.c ∧ v8 = .int .u32 t.d ∧ v9 = .int .u32 t.e ∧ v10 = .int .u32 t.f ∧ v11 = .int .u32 t.g ∧ v12 = .int .u32 t.h ∧ v52 = .int .i64 k ∧ Hid (∃ m, wr = W2.drewN m))
    (fun _ _ _ _ _ _ _ _ _ _ _ v52 _ => 64 - (intOf v52).toNat)
  case atStart => exact ⟨0, s, by omega, t0, rfl, rfl, rfl, rfl, rfl, rfl, rfl, rfl, rfl, ⟨nq, rfl⟩⟩
  case round =>
    clear t0 hs
    obtain ⟨k, t, hk, ⟨hto, ht⟩, rfl, rfl, rfl, rfl, rfl, rfl, rfl, rfl, h52, hD⟩ := hrel
    have hto2 := hto
    unfold StOk stl at hto2
    simp only [List.mem_cons, List.not_mem_nil, or_false, forall_eq_or_imp, forall_eq] at hto2
    obtain ⟨la, lb, lc, ld, le, lf, lg, lh⟩ := hto2
    have HTO := Lib.hid hto
    clear hto
    by_cases hlt : k < 64
    · subst h52
      obtain ⟨c, ec⟩ : ∃ c, c = ks.getD k 0 := ⟨_, rfl⟩
      obtain ⟨x, ex⟩ : ∃ x, x = (sched rest 64).getD k 0 := ⟨_, rfl⟩
      have hcub : wr.cell? ⟨1, k, none⟩ = some (.int .u32 (c : Int)) := by
        obtain ⟨m, rfl⟩ := hD.out
        rw [ec]; exact HG2.out.cubes k hlt
      have hwk : wr.cell? ⟨B, k, none⟩ = some (.int .u32 (x : Int)) := by
        obtain ⟨m, rfl⟩ := hD.out
        rw [ex]
        show W2.cell? _ = _
        rw [cell_of_row W2 _ _ _ _ _ HW2.out, ← wcells_all]
        exact wcells_get rest 64 k hlt (by omega)
      have lc1 : c < 4294967296 := by rw [ec]; exact ks_lt k
      have lx : x < 4294967296 := by rw [ex]; exact sched_lt _ _ _
      have E := Lib.hid (And.intro ec ex)
      clear ec ex
      have k0 : (0 : Int) ≤ (k : Int) := by omega
      have k64 : (k : Int) < 64 := by omega
      go_wp2_with fail
      go_quiet ((go_at_call 87; exact quiet_left (rotm_any _ _ _ (by assumption) (by omega) (by omega))))
      go_wp2_with (go_at_call 87; refine (rotm_any _ _ _ (by assumption) (by omega) (by omega)).mono ?_; rintro e w' ⟨rfl, rfl⟩)
      go_roundw
      case rel =>
        obtain ⟨ec, ex⟩ := E.out
        have hq : Hid (∃ m, wr.drewN nq = W2.drewN m) := by
          obtain ⟨m, rfl⟩ := hD.out
          exact ⟨m + nq, by simp⟩
        have hr : rnd t c x = rnds (sched rest 64) (k + 1) s := by
          rw [ht.out, ec, ex]; rfl
        exact ⟨k + 1, rnd t c x, by omega, ⟨rnd_ok t c x HTO.out, hr⟩, vu32 (rnd_one t c x la lb lc le lf lg), rfl, rfl, rfl, vu32 (rnd_two t c x le lf lg), rfl, rfl, rfl, by go_num, hq⟩
      case measure => simp [intOf]; omega
    · obtain rfl : k = 64 := by omega
      replace h52 := h52.trans (show _ = Value.int .i64 64 from rfl)
      subst h52
      obtain ⟨m, rfl⟩ := hD.out
      have hA : (stl s).length = 8 := rfl
      have hBl : (stl (s.add t)).length = 8 := rfl
      have HA := Lib.hid (And.intro hA hBl)
      clear hA hBl
      go_wp2_with fail
      go_loopw [16, 17, 124] (fun v16 v17 v124 wr => ∃ (k : Nat), k ≤ 8 ∧ v124 = .int .i64 k ∧
          Hid (wr.heap[g]? = some (.cells (hcells ((stl (s.add t)).take k ++ (stl s).drop k) rest n) 98 (0, 0))) ∧ Hid (W2.grownBy wr (some g)))
        (fun _ _ v124 _ => 8 - (intOf v124).toNat)
      case atStart => exact ⟨0, by omega, rfl, HG2H.out, only_drewN (only_refl _ _) m⟩
      case round =>
        clear hD
        obtain ⟨k, hk, hv, hC, hO⟩ := hrel
        by_cases hlt : k < 8
        · subst hv
          obtain ⟨x, ex⟩ : ∃ x, x = (stl s).getD k 0 := ⟨_, rfl⟩
          obtain ⟨y, ey⟩ : ∃ y, y = (stl t).getD k 0 := ⟨_, rfl⟩
          have hix := run_index_agg (P := Tryd.prog) Tryd.underlying95 Tryd.underlying69 size_words #[Value.int .u32 (t.a : Int), .int .u32 (t.b : Int), .int .u32 (t.c : Int), .int .u32 (t.d : Int), .int .u32 (t.e : Int), .int .u32 (t.f : Int), .int .u32 (t.g : Int), .int .u32 (t.h : Int)]
            .i64 k hlt (.int .u32 (y : Int)) (by rw [ey, List.getElem?_toArray]; exact i32s_get (stl t) k hlt)
          have hml : ((stl (s.add t)).take k ++ (stl s).drop k).length = 8 := by rw [List.length_append, List.length_take, List.length_drop, HA.out.1, HA.out.2]; omega
          have hcx : wr.cell? ⟨g, k, none⟩ = some (.int .u32 (x : Int)) := by
            rw [cell_of_row wr _ _ _ _ _ hC.out, hc_state _ _ _ hml k hlt, mix_get _ _ (HA.out.1.trans HA.out.2.symm) k (by rw [HA.out.1]; exact hlt), ex]
          have hfr : wr.drew.frozen? ⟨g, k, none⟩ = false := frozen_of_row wr _ _ _ _ hC.out
          have E := Lib.hid (And.intro ex (And.intro ey hml))
          clear ex ey hml
          have k0 : (0 : Int) ≤ (k : Int) := by omega
          have k8 : (k : Int) < 8 := by omega
          go_wp2_with fail
          go_still_tail 9, (by kernel_rfl)
          change wpList _ _ _ _ _ wr.drew
          go_wp2
          go_roundw
          case rel =>
            obtain ⟨ex, ey, hml⟩ := E.out
            refine ⟨k + 1, by omega, by go_num, ?_, only_drew (only_setCell hO.out (p := ⟨g, k, none⟩) (.inl rfl) _)⟩
            show (wr.setCell _ _).heap[g]? = _
            have ev : ((x : Int) + (y : Int)) % 4294967296 = (((stl (s.add t)).getD k 0 : Nat) : Int) := by rw [stl_add s t k hlt, ← ex, ← ey]; omega
            rw [heap_setCell_same _ _ _ _ _ _ hC.out, ev, hc_set _ _ _ _ _ (by omega), mix_step _ _ (HA.out.1.trans HA.out.2.symm) k (by rw [HA.out.1]; exact hlt)]
          case measure => simp [intOf]; omega
        · obtain rfl : k = 8 := by omega
          go_wp2_with fail
          go_end0
          refine ⟨rfl, ?_, ?_⟩
          · rw [compress_eq, ← ht.out]
            have := hC.out
            rw [List.take_of_length_le (by rw [HA.out.2]; omega), List.drop_of_length_le (by rw [HA.out.1]; omega), List.append_nil] at this
            exact this
          · exact only_trans (only_of_below hB1 _) hO.out
end Go.Proofs.YthhjmodkodkgpaaDoor
