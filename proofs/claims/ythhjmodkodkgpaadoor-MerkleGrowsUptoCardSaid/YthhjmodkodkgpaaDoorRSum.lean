/- strongboxref1: ks, Sum. -/
import Derived.Test.YthhjmodkodkgpaaDoorRPiece
namespace Go.Proofs.YthhjmodkodkgpaaDoor
open Go.RowKit Sbx

theorem wpList_value {P : Program} {ops : Array Oper} {rest : List Oper} {o : Oper} {a : Act} {w : World} {Q : Exit → Act → World → Prop} (hgd : o.guard = none) (v : Value)
    (h : (execOp a.eval o).run P w = .ok (.value v) w) (k : wpList P ops Q rest (a.put o.dst v) w) : wpList P ops Q (o :: rest) a w :=
  wpList_plain hgd fun _ hK => by unfold Oper.wp; rw [h]; exact hK _ _ k
theorem wpStill_value {P : Program} {ops : Array Oper} {rest : List Oper} {o : Oper} {a : Act} {w : World} {Q : Act → Prop} (hgd : o.guard = none) (v : Value)
    (h : (execOp a.eval o).run P w = .ok (.value v) w) (k : wpStill P ops w Q rest (a.put o.dst v)) : wpStill P ops w Q (o :: rest) a :=
  wpStill_step fun K hK => by
    have hw : Region.wanted o (yielded ops a.tmps) = true := by simp [Region.wanted, hgd]
    rw [if_pos hw]; unfold Oper.still; rw [h, Oper.stillUpon_value]; exact hK _ k
theorem exec_load_row {P : Program} {o : Oper} {a : Act} {w : World} (ty : TypeId) (x : Operand) (ho : o.op = .load ty x)
    (g : Nat) (hx : a.eval x = .pointer (some ⟨g, 0, none⟩)) (t : TypeId) (cs : Array Value) (fr : Nat × Nat) (d : TypeDesc) (hg : w.heap[g]? = some (.cells cs t fr))
    (hu : P.underlying ty = some d) (hd : (match d with | .struct _ | .array _ _ => true | _ => false) = true) (hi : (P.info? ty).map (·.size) = some cs.size) :
    (execOp a.eval o).run P w = .ok (.value (.agg cs)) w := by
  unfold execOp
  simp only [ho, hx, Instr.loadAt, Instr.sureAddr, Sem.run_bind, Sem.run_pure, Result.andThen_ok, run_loadVar_row w g t ty cs fr d hg hu hd hi]
theorem size_arr64 : (Tryd.prog.info? 72).map (·.size) = some 64 := by kernel_rfl
theorem ks64 : (i32s ks).toArray.size = 64 := by rw [i32s_size]; rfl
set_option maxRecDepth 100000 in
set_option maxHeartbeats 2000000 in
theorem ks_any (w : World) : Calls Tryd.prog 63 #[] w fun e w' => e = .returned (.agg (i32s ks).toArray) ∧ Below w.heap.size w w' := by
  go_enter Tryd.func63, Tryd.ntmps63
  go_wp2_with (first
    | ((with_reducible refine gate_op (Op.build 72 _) rfl ?_); refine wpList_value rfl (.agg (i32s ks).toArray) (by kernel_rfl) ?_)
    | ((with_reducible refine gate_op (Op.store 72 (Operand.tmp 0) (Operand.tmp 1)) rfl ?_); refine wpList_store_row rfl 72 (.tmp 0) (.tmp 1) rfl w.heap.size (i32s ks).toArray rfl rfl 72 _ (heap_alloc_new _ _) (by rw [ks64]; exact size_arr64) (by rw [ks64]; rfl) (i32s_one _) ?_; rw [setRow_alloc]))
  refine bodyPost_ret (results_cell_row rfl _ _ w.heap.size 72 (i32s ks).toArray (0, 0) _ (by simp [Act.put]) (heap_alloc_new _ _) Tryd.underlying72 rfl (by rw [ks64]; exact size_arr64)) rfl ⟨rfl, (Below.refl _ _).alloc (Nat.le_refl _) _⟩

theorem out_get (st : St) (k : Nat) (hk : k < 32) : (((st.out.getD k 0).toNat : Nat) : Int) = (((stl st).getD (k / 4) 0 : Nat) : Int) / 2 ^ (24 - 8 * (k % 4)) % 256 := by
  match k, hk with
  | 0, _ => simp [St.out, be4, stl]
  | 1, _ => simp [St.out, be4, stl]
  | 2, _ => simp [St.out, be4, stl]
  | 3, _ => simp [St.out, be4, stl]
  | 4, _ => simp [St.out, be4, stl]
  | 5, _ => simp [St.out, be4, stl]
  | 6, _ => simp [St.out, be4, stl]
  | 7, _ => simp [St.out, be4, stl]
  | 8, _ => simp [St.out, be4, stl]
  | 9, _ => simp [St.out, be4, stl]
  | 10, _ => simp [St.out, be4, stl]
  | 11, _ => simp [St.out, be4, stl]
  | 12, _ => simp [St.out, be4, stl]
  | 13, _ => simp [St.out, be4, stl]
  | 14, _ => simp [St.out, be4, stl]
  | 15, _ => simp [St.out, be4, stl]
  | 16, _ => simp [St.out, be4, stl]
  | 17, _ => simp [St.out, be4, stl]
  | 18, _ => simp [St.out, be4, stl]
  | 19, _ => simp [St.out, be4, stl]
  | 20, _ => simp [St.out, be4, stl]
  | 21, _ => simp [St.out, be4, stl]
  | 22, _ => simp [St.out, be4, stl]
  | 23, _ => simp [St.out, be4, stl]
  | 24, _ => simp [St.out, be4, stl]
  | 25, _ => simp [St.out, be4, stl]
  | 26, _ => simp [St.out, be4, stl]
  | 27, _ => simp [St.out, be4, stl]
  | 28, _ => simp [St.out, be4, stl]
  | 29, _ => simp [St.out, be4, stl]
  | 30, _ => simp [St.out, be4, stl]
  | 31, _ => simp [St.out, be4, stl]
  | n + 32, h => exact absurd h (by omega)
theorem b8A_set (l : List UInt8) (i : Nat) (b : UInt8) : ((b8v l).toArray).setIfInBounds i (.int .u8 (b.toNat : Int)) = (b8v (l.set i b)).toArray := by
  unfold b8v
  rw [List.setIfInBounds_toArray, List.map_set]
theorem put_step (a : List UInt8) (k n : Nat) (ha : a.length = n) (hk : k < n) : (a.take k ++ List.replicate (n - k) 0).set k (a.getD k 0) = a.take (k + 1) ++ List.replicate (n - (k + 1)) 0 := by
  have hl : (a.take k).length = k := by rw [List.length_take]; omega
  rw [List.set_append_right _ _ (by omega), hl, Nat.sub_self, show n - k = (n - (k + 1)) + 1 from by omega, List.replicate_succ, List.set_cons_zero, List.take_succ_eq_append_getElem (by omega), List.getD_eq_getElem?_getD, List.getElem?_eq_getElem (by omega), List.append_assoc]
  rfl
def zero32 : List UInt8 := List.replicate 32 0
theorem make32 (w : World) : (Instr.makeSlice 74 (.int .i64 32) (.int .i64 32)).run Tryd.prog w = .ok (.slice (some ⟨w.heap.size, 0, none⟩) 32 32) (w.alloc (.cells (b8v zero32).toArray 5)) := by kernel_rfl
theorem pieces_ok (n : Nat) : ∀ (b : List UInt8) (s : St), StOk s → StOk (pieces n b s) := by
  induction n with
  | zero => intro b s h; rw [pieces_zero]; exact h
  | succ n ih => intro b s _; rw [pieces_succ]; exact ih _ _ (compress_ok _ _)
theorem OwnsM.block {w : World} {base : Nat} {e : TypeId} {A : Option Addr} {n c : Nat} {xs : List Value} (h : OwnsM w base e (.slice A n c) n xs) (h0 : 0 < n) :
    ∃ g, A = some ⟨g, 0, none⟩ ∧ base ≤ g ∧ g < w.heap.size ∧ n ≤ c ∧ c ≤ maxLen ∧ ∀ j v, xs[j]? = some v → w.cell? ⟨g, j, none⟩ = some v := by
  have hc := fun (g : Nat) hg => h.cells (g := g) hg
  have hl := h.lt
  rcases h.2 with ⟨h1, h2⟩ | ⟨g, cap, cur, fz, hv, hb, hh, hfz, hn, hc2, hs, ht⟩
  · omega
  · simp only [Value.slice.injEq] at hv
    obtain ⟨rfl, -, rfl⟩ := hv
    refine ⟨g, rfl, hb, block_of_cells hh, hn, hc2, fun j v hv => ?_⟩
    have := hc g rfl j v hv
    rwa [addr_add, Nat.zero_add] at this

set_option maxRecDepth 100000 in
set_option maxHeartbeats 2000000 in
theorem rsum_any (t : List UInt8) (w : World) (hlen : t.length ≤ 140737488354000) :
    Calls Tryd.prog 34 #[.string ⟨t.toArray⟩] w fun e w' => e = .returned (.string ⟨(sha t).toArray⟩) ∧ Below w.heap.size w w' := by
  have HL := Lib.hid hlen
  clear hlen
  go_enter Tryd.func34, Tryd.ntmps34
  go_wp2_with (first
    | (go_at_call 62; refine (starts_any _).mono ?_; rintro e w1 ⟨rfl, hB1⟩)
    | ((with_reducible refine gate_op (Op.store 70 (Operand.tmp 3) (Operand.tmp 9)) rfl ?_); refine wpList_store_row rfl 70 (.tmp 3) (.tmp 9) rfl w1.heap.size (i32s (stl iv)).toArray rfl rfl 70 _ (heap_alloc_new _ _) size_arr8 (by rw [i32s_size]; rfl) (i32s_one _) ?_; rw [setRow_alloc])
    | (go_at_call 63; refine (ks_any _).mono ?_; rintro e w2 ⟨rfl, hB2⟩)
    | ((with_reducible refine gate_op (Op.store 72 (Operand.tmp 4) (Operand.tmp 10)) rfl ?_); refine wpList_store_row rfl 72 (.tmp 4) (.tmp 10) rfl w2.heap.size (i32s ks).toArray rfl rfl 72 _ (heap_alloc_new _ _) (by rw [ks64]; exact size_arr64) (by rw [ks64]; rfl) (i32s_one _) ?_; rw [setRow_alloc])
    | (go_at_call 64; refine (filled_any t _ HL.out).mono ?_; rintro e w3 ⟨v3, rfl, hO3, hB3⟩))
  obtain ⟨A3, c3, rfl⟩ := hO3.form
  have hP64 := padded_length t
  have hP0 : 64 ≤ (padded t).length ∧ (padded t).length ≤ 140737488354100 := by have := HL.out; unfold padded at hP64 ⊢; simp [be8] at hP64 ⊢; omega
  obtain ⟨gb, rfl, hgb, hgl, hnc, hcm, hcs⟩ := hO3.block (by omega)
  obtain ⟨m, hm⟩ : ∃ m, m = (padded t).length := ⟨_, rfl⟩
  obtain ⟨h, eh⟩ : ∃ h, h = w1.heap.size := ⟨_, rfl⟩
  obtain ⟨kb, ek⟩ : ∃ k, k = w2.heap.size := ⟨_, rfl⟩
  have hs1 := hB1.size
  have hs2 : h + 1 ≤ kb := by have := hB2.size; simp at this; omega
  have hs3 : kb + 1 ≤ gb := by simp at hgb; omega
  have hH2 : w2.heap[h]? = some (.cells (i32s (stl iv)).toArray 70 (0, 0)) := by
    rw [hB2.block h (by rw [eh]; simp), eh]; exact heap_alloc_new _ _
  have hH3 : w3.heap[h]? = some (.cells (i32s (stl iv)).toArray 70 (0, 0)) := by
    rw [hB3.block h (by simp; omega), Below.heap_alloc _ _ _ (by omega)]; exact hH2
  have hK3 : w3.heap[kb]? = some (.cells (i32s ks).toArray 72 (0, 0)) := by
    rw [hB3.block kb (by rw [ek]; simp), ek]; exact heap_alloc_new _ _
  have hBw : Below w.heap.size w w3 := ((hB1.alloc hs1 _).trans (hB2.mono (by simp; omega))).alloc (by omega) _ |>.trans (hB3.mono (by simp; omega))
  have hsz : w.heap.size ≤ h := by omega
  have HPC := Lib.hid hcs
  have H3 := Lib.hid (And.intro hH3 (And.intro hK3 hBw))
  rw [← hm] at hP64 hP0 hnc ⊢
  have HM := Lib.hid (And.intro hm hP64)
  rw [← eh, ← ek]
  clear hO3 hB3 hB2 hB1 hH2 hH3 hK3 hBw hcs hgb hs1 hm hP64 eh ek
  go_loopw [6] (fun v6 wr => ∃ (k : Nat) (st : St), 64 * k ≤ m ∧ v6 = .int .i64 (64 * (k : Int)) ∧ Hid (st = pieces k (padded t) iv ∧ StOk st) ∧
      Hid (wr.heap[h]? = some (.cells (i32s (stl st)).toArray 70 (0, 0))) ∧ Hid (w3.grownBy wr (some h)))
    (fun v6 _ => m - (intOf v6).toNat)
  case atStart => exact ⟨0, iv, by omega, rfl, ⟨(pieces_zero _ _).symm, iv_ok⟩, H3.out.1, only_refl _ _⟩
  case round =>
    obtain ⟨k, st, hk, h6, hS, hC, hO⟩ := hrel
    by_cases hlt : 64 * k < m
    · subst h6
      have hkm : 64 * k + 64 ≤ m := by have := HM.out.2; omega
      have k0 : (0 : Int) ≤ (k : Int) := by omega
      have k1 : 64 * (k : Int) < (m : Int) := by omega
      have k2 : 64 * (k : Int) + 64 ≤ (m : Int) := by omega
      have k3 : (m : Int) ≤ (c3 : Int) := by omega
      have k4 : (m : Int) ≤ 140737488354100 := by omega
      have t0 : (64 * (k : Int)).toNat = 64 * k := by omega
      have t1 : (64 * (k : Int) + 64).toNat = 64 * k + 64 := by omega
      have e1 : IntKind.i64.wrap (64 * (k : Int) + 64) = 64 * (k : Int) + 64 := IntWalk.i64_in _ (by omega)
      have q0 : 0 ≤ 64 * (k : Int) := by omega
      have q1 : 0 ≤ 64 * (k : Int) + 64 := by omega
      have q2 : 64 * (k : Int) ≤ 64 * (k : Int) + 64 := by omega
      have q3 : 64 * (k : Int) + 64 ≤ (c3 : Int) := by omega
      have hCd : wr.drew.heap[h]? = some (.cells (i32s (stl st)).toArray 70 (0, 0)) := hC.out
      go_wp2_with fail
      refine wp_region_still_tail 6 (by kernel_rfl) (by kernel_rfl) ?_
      simp only [List.take_succ_cons, List.take_zero, List.drop_succ_cons, List.drop_zero]
      refine wpStill_value rfl (.agg (i32s (stl st)).toArray) (exec_load_row 70 _ rfl h rfl 70 _ (0, 0) _ hCd Tryd.underlying70 rfl (by rw [i32s_size]; exact size_arr8)) ?_
      repeat still_step
      try refine wpStill_nil ?_
      change wpList _ _ _ _ _ wr.drew
      have hA : (if c3 = 64 * k then (some ⟨gb, 0, none⟩ : Option Addr) else some ⟨gb, 64 * k, none⟩) = some ⟨gb, 64 * k, none⟩ := if_neg (by omega)
      rw [hA]
      clear hA t0 t1 e1 q0 q1 q2 q3 k0 k1 k2 k3 hCd
      have hks5 : ∀ i, i < 64 → wr.drew.cell? ⟨kb, i, none⟩ = some (.int .u32 ((ks.getD i 0 : Nat) : Int)) := by
        intro i hi
        have h1 : w3.cell? ⟨kb, i, none⟩ = some (.int .u32 ((ks.getD i 0 : Nat) : Int)) := by
          rw [cell_of_row w3 _ _ _ _ _ H3.out.2.1, List.getElem?_toArray]; exact i32s_get ks i hi
        rw [← h1]
        exact World.cell?_of_block (w := w3) (hO.out.block kb (block_lt_of_cell h1) (fun e => by have := Option.some.inj e; omega))
      have hbs5 : ∀ i, i < 64 → wr.drew.cell? ⟨gb, 64 * k + i, none⟩ = some (.int .u8 (((((padded t).drop (64 * k)).take 64).getD i 0).toNat : Int)) := by
        intro i hi
        have hl : 64 * k + i < (padded t).length := by have := HM.out.1; omega
        have h1 : w3.cell? ⟨gb, 64 * k + i, none⟩ = some (.int .u8 (((((padded t).drop (64 * k)).take 64).getD i 0).toNat : Int)) := by
          refine HPC.out _ _ ?_
          unfold b8v
          rw [List.getElem?_map, List.getElem?_eq_getElem hl, List.getD_eq_getElem?_getD, List.getElem?_take, if_pos hi, List.getElem?_drop, List.getElem?_eq_getElem hl]
          rfl
        rw [← h1]
        exact World.cell?_of_block (w := w3) (hO.out.block gb (block_lt_of_cell h1) (fun e => by have := Option.some.inj e; omega))
      have hl5 : (((padded t).drop (64 * k)).take 64).length = 64 := by rw [List.length_take, List.length_drop, ← HM.out.1]; omega
      have H5 := Lib.hid (And.intro hl5 (And.intro hks5 hbs5))
      clear hl5 hks5 hbs5
      go_wp2_with (first
        | (go_at_call 65; refine (piece_any st kb gb (64 * k) _ (((padded t).drop (64 * k)).take 64) wr.drew hS.out.2 H5.out.1 H5.out.2.1 H5.out.2.2).mono ?_; rintro e w5 ⟨rfl, hB5⟩; obtain ⟨st2, est2⟩ : ∃ s, s = compress st (((padded t).drop (64 * k)).take 64) := ⟨_, rfl⟩; rw [← est2]; have HE2 := Lib.hid est2; clear est2)
        | ((with_reducible refine gate_op (Op.store 70 (Operand.tmp 3) (Operand.tmp 25)) rfl ?_); refine wpList_store_row rfl 70 (.tmp 3) (.tmp 25) rfl h (i32s (stl st2)).toArray rfl rfl 70 _ ((hB5.block h (block_of_cells hC.out)).trans hC.out) (by rw [i32s_size]; exact size_arr8) (by rw [i32s_size, i32s_size]; rfl) (i32s_one _) ?_))
      go_roundw
      case rel =>
        refine ⟨k + 1, st2, by omega, by go_num, ⟨by rw [HE2.out, hS.out.1, ← pieces_succ' k (padded t) iv], by rw [HE2.out]; exact compress_ok _ _⟩, setRow_heap _ _ _ _ _ _ ((hB5.block h (block_of_cells hC.out)).trans hC.out), ?_⟩
        exact only_trans hO.out (only_trans (only_drew (only_refl _ _)) (only_trans (only_of_below hB5 _) (only_setRow _)))
      case measure => simp [intOf]; omega
    · have hkm : 64 * k = m := by omega
      have hk' : 64 * (k : Int) = (m : Int) := by omega
      rw [hk'] at h6
      subst h6
      have hfin : pieces k (padded t) iv = pieces ((padded t).length / 64) (padded t) iv := by
        rw [← HM.out.1, ← hkm, Nat.mul_div_cancel_left _ (by omega)]
      have hsh : sha t = st.out := by rw [hS.out.1, hfin]; rfl
      have hok : StOk st := hS.out.2
      have hB6 : Below w.heap.size w wr := H3.out.2.2.trans (below_of_only hO.out H3.out.2.2.size (by omega))
      have H6 := Lib.hid (And.intro hB6 (And.intro hok hsh))
      clear hfin hS hsh hok hB6 hO HPC hk hk'
      have hmk := make32 wr
      go_wp2_with fail
      clear hmk
      obtain ⟨wo, rfl⟩ : ∃ wo : World, wo = wr := ⟨_, rfl⟩
      have hh7 : (wo.alloc (.cells (b8v zero32).toArray 5)).heap[h]? = some (.cells (i32s (stl st)).toArray 70 (0, 0)) := (Below.heap_alloc _ _ _ (block_of_cells hC.out)).trans hC.out
      have hl7 := heap_alloc_new wo (.cells (b8v zero32).toArray 5)
      have hB7 : Below w.heap.size w (wo.alloc (.cells (b8v zero32).toArray 5)) := H6.out.1.alloc H6.out.1.size _
      have hho : h < wo.heap.size := block_of_cells hC.out
      have hbo := H6.out.1.size
      obtain ⟨L, eL⟩ : ∃ L, L = wo.heap.size := ⟨_, rfl⟩
      rw [← eL] at hl7 hho hbo ⊢
      generalize wo.alloc (.cells (b8v zero32).toArray 5) = W7 at *
      have H7 := Lib.hid (And.intro hh7 (And.intro hl7 hB7))
      clear hh7 hl7 hB7 eL
      go_loopw [8] (fun v8 w3 => ∃ k : Nat, k ≤ 32 ∧ v8 = .int .i64 k ∧ Hid (w3.heap[L]? = some (.cells (b8v (st.out.take k ++ List.replicate (32 - k) 0)).toArray 5 (0, 0))) ∧ Hid (W7.grownBy w3 (some L)))
        (fun v8 _ => 32 - (intOf v8).toNat)
      case atStart => exact ⟨0, by omega, rfl, by rw [List.take_zero, List.nil_append]; exact H7.out.2.1, only_refl _ _⟩
      case round =>
        obtain ⟨k, hk, h8, hC8, hO8⟩ := hrel
        by_cases hlt : k < 32
        · subst h8
          obtain ⟨x, ex⟩ : ∃ x, x = (stl st).getD (k / 4) 0 := ⟨_, rfl⟩
          have hx : wr.cell? ⟨h, k / 4, none⟩ = some (.int .u32 (x : Int)) := by
            have h1 : W7.cell? ⟨h, k / 4, none⟩ = some (.int .u32 (x : Int)) := by
              rw [cell_of_row W7 _ _ _ _ _ H7.out.1, List.getElem?_toArray, ex]; exact i32s_get (stl st) (k / 4) (show k / 4 < 8 by omega)
            rw [← h1]
            exact World.cell?_of_block (w := W7) (hO8.out.block h (block_lt_of_cell h1) (fun e => by have := Option.some.inj e; omega))
          have hml : (st.out.take k ++ List.replicate (32 - k) 0).length = 32 := by rw [List.length_append, List.length_take, List.length_replicate, out_length]; omega
          obtain ⟨v0, hcell⟩ : ∃ v, wr.cell? ⟨L, k, none⟩ = some v := cell_ex hC8.out (by rw [List.size_toArray, b8v, List.length_map, hml]; exact hlt)
          have hfr : wr.frozen? ⟨L, k, none⟩ = false := frozen_of_row wr _ _ _ _ hC8.out
          have E := Lib.hid (And.intro ex hml)
          clear ex hml
          have k0 : (0 : Int) ≤ (k : Int) := by omega
          have k8 : (k : Int) < 32 := by omega
          have d4 : ((k : Int).tdiv 4) = ((k / 4 : Nat) : Int) := by simp [Int.tdiv]
          have m4 : ((k : Int).tmod 4) = ((k % 4 : Nat) : Int) := by simp [Int.tmod]
          have d8 : ((k / 4 : Nat) : Int) < 8 := by omega
          have m8 : ((k % 4 : Nat) : Int) < 4 := by omega
          go_wp2_with fail
          go_roundw
          case rel =>
            obtain ⟨ex, hml⟩ := E.out
            refine ⟨k + 1, by omega, by go_num, ?_, only_setCell hO8.out (p := ⟨L, k, none⟩) (.inl rfl) _⟩
            have h1 := heap_setCell_same wr L k _ _ (Value.int IntKind.u8 ((x : Int) / 2 ^ (24 - 8 * (k % 4)) % 256)) hC8.out
            rw [ex, ← out_get st k hlt, b8A_set, put_step _ _ _ (out_length st) hlt, out_get st k hlt, ← ex] at h1
            exact h1
          case measure => simp [intOf]; omega
        · obtain rfl : k = 32 := by omega
          replace h8 := h8.trans (show _ = Value.int .i64 32 from rfl)
          subst h8
          have hcv := run_convert_b8 (P := Tryd.prog) (src := 74) (dst := 9) (e := 5) Tryd.underlying74 Tryd.underlying5 Tryd.underlying9 ⟨L, 0, none⟩ st.out 32 wr (fun j hj => by
            have h1 := hC8.out
            rw [List.take_of_length_le (by rw [out_length]; omega), Nat.sub_self, List.replicate_zero, List.append_nil] at h1
            rw [addr_add, Nat.zero_add, cell_of_row wr _ _ _ _ _ h1, List.getElem?_toArray]
            exact b8s_get st.out j hj)
          rw [out_length] at hcv
          go_wp2_with fail
          clear hcv
          go_ret
          exact ⟨by rw [H6.out.2.2]; rfl, H7.out.2.2.trans (below_of_only hO8.out H7.out.2.2.size (by omega))⟩
end Go.Proofs.YthhjmodkodkgpaaDoor
