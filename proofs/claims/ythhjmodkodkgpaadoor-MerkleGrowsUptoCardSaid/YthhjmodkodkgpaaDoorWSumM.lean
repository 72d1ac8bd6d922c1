/- hash.Hasher.Sum; hash.Sum. -/
import Derived.Test.YthhjmodkodkgpaaDoorWSum
import Derived.Test.YthhjmodkodkgpaaDoorMem2
namespace Go.Proofs.YthhjmodkodkgpaaDoor
open Go.RowKit Sbx

/-- how many zeros are filled in behind n bytes -/
def zerosN (n : Nat) : Nat := (119 - n % 64) % 64
theorem zeros_test (n k : Nat) (hk : k ≤ zerosN n) : (n + 1 + k) % 64 = 56 ↔ k = zerosN n := by unfold zerosN at *; omega

theorem be8_get (m i : Nat) (hi : i < 8) : (be8 m).getD i 0 = (m / 2 ^ (56 - 8 * i)).toUInt8 := by
  match i, hi with
  | 0, _ => rfl
  | 1, _ => rfl
  | 2, _ => rfl
  | 3, _ => rfl
  | 4, _ => rfl
  | 5, _ => rfl
  | 6, _ => rfl
  | 7, _ => simp [be8]
/-- the cells of 'last' after k rounds -/
def lastA (n k : Nat) : Array Value := (b8s ((be8 (8 * n)).take k ++ List.replicate (8 - k) 0)).toArray
theorem lastA_size (n k : Nat) (hk : k ≤ 8) : (lastA n k).size = 8 := by
  simp [lastA, b8s, be8]; omega
theorem lastA_all (n : Nat) : lastA n 8 = (b8s (be8 (8 * n))).toArray := by
  unfold lastA
  rw [List.take_of_length_le (by simp [be8])]
  simp
theorem lastA_set (n k : Nat) (hk : k < 8) : (lastA n k).setIfInBounds k (Value.int IntKind.u8 ((n : Int) * 8 / 2 ^ (56 - 8 * k) % 256)) = lastA n (k + 1) := by
  have hl : (be8 (8 * n)).length = 8 := rfl
  have e : (n : Int) * 8 / 2 ^ (56 - 8 * k) % 256 = (((be8 (8 * n)).getD k 0).toNat : Int) := by
    rw [be8_get _ _ hk, Nat.mul_comm 8 n]
    have h1 : (n : Int) * 8 / 2 ^ (56 - 8 * k) = ((n * 8 / 2 ^ (56 - 8 * k) : Nat) : Int) := by simp
    rw [h1]
    generalize n * 8 / 2 ^ (56 - 8 * k) = z
    simp
  rw [e]
  unfold lastA b8s
  rw [List.setIfInBounds_toArray, show 8 - k = (8 - (k + 1)) + 1 from by omega, List.replicate_succ]
  congr 1
  have hk8 : k < (be8 (8 * n)).length := by omega
  rw [List.take_succ_eq_append_getElem hk8]
  simp only [List.map_append, List.map_cons, List.map_nil]
  rw [List.set_append_right _ _ (by simp [hl]; omega)]
  have : k - (List.map (fun b : UInt8 => Value.int IntKind.u8 (b.toNat : Int)) (List.take k (be8 (8 * n)))).length = 0 := by simp [hl]; omega
  rw [this, List.set_cons_zero, List.getD_eq_getElem?_getD, List.getElem?_eq_getElem hk8]
  simp
theorem info_u8 : (Tryd.prog.info? 5).map (fun i => (i.zero, i.size, i.bytes)) = some (some (.int .u8 0), 1, 1) := by kernel_rfl
theorem be4_cells (x : Nat) : #[Value.int .u8 ((x : Int) / 16777216 % 256), .int .u8 ((x : Int) / 65536 % 256), .int .u8 ((x : Int) / 256 % 256), .int .u8 ((x : Int) % 256)] = (b8v (be4 x)).toArray := by
  simp [b8v, be4]
theorem take_out (st : St) (k : Nat) (hk : k < 8) : st.out.take (4 * k) ++ be4 ((stl st).getD k 0) = st.out.take (4 * (k + 1)) := by
  match k, hk with
  | 0, _ => simp [St.out, be4, stl]
  | 1, _ => simp [St.out, be4, stl]
  | 2, _ => simp [St.out, be4, stl]
  | 3, _ => simp [St.out, be4, stl]
  | 4, _ => simp [St.out, be4, stl]
  | 5, _ => simp [St.out, be4, stl]
  | 6, _ => simp [St.out, be4, stl]
  | 7, _ => simp [St.out, be4, stl]

set_option maxRecDepth 100000 in
set_option maxHeartbeats 2000000 in
theorem summ_any (g : Nat) (t : List UInt8) (w : World) (hG : Glob w) (hA : HAt w g t) (hlen : t.length ≤ 1152921504606846976) :
    Calls Tryd.prog 61 #[.pointer (some ⟨g, 0, none⟩)] w fun e w' => e = .returned (.string ⟨(sha t).toArray⟩) ∧ Below w.heap.size w w' := by
  have hlt := hA.lt
  obtain ⟨hf, s, r, n, hok, hi, hc⟩ := hA
  have hr := hi.len
  have hn : n = t.length := hi.size
  have hsz : (Tryd.prog.info? 98).map (·.size) = some (hcells (stl s) r n).size := size73.trans (by rw [hc_size _ _ _ rfl hr])
  have c72 : (w.alloc (.cells (hcells (stl s) r n) 98 (0, 0))).cell? ⟨g, 72, none⟩ = some (.int .i64 (n : Int)) := by
    rw [cell_of_row _ _ _ _ _ _ ((Below.heap_alloc w _ g hlt).trans hc)]; exact hc_len _ _ _ rfl hr
  have hE : HAt (w.alloc (.cells (hcells (stl s) r n) 98 (0, 0))) w.heap.size t := ⟨⟨Nat.lt_trans hf.1 hlt, Nat.lt_trans hf.2 hlt⟩, s, r, n, hok, hi, heap_alloc_new _ _⟩
  have hG1 : Glob (w.alloc (.cells (hcells (stl s) r n) 98 (0, 0))) := hG.below ((Below.refl _ _).alloc (Nat.le_refl _) _)
  have hB1 : Below w.heap.size w (w.alloc (.cells (hcells (stl s) r n) 98 (0, 0))) := (Below.refl _ _).alloc (Nat.le_refl _) _
  have H := Lib.hid (And.intro hc (And.intro hr (And.intro hsz (And.intro hE (And.intro hG1 hB1)))))
  have HNL := Lib.hid hn
  have hnb : (n : Int) ≤ 1152921504606846976 := by omega
  have hz := zero_hasher
  clear hi hc hr hf hsz hE hG1 hB1 hn hlen hG hok
  go_enter Tryd.func61, Tryd.ntmps61
  go_wp2_with (first
    | ((with_reducible refine gate_op (Op.load 98 (Operand.tmp 15)) rfl ?_); refine wpList_load_row rfl 98 _ rfl g rfl 98 (hcells (stl s) r n) (0, 0) _ H.out.1 Tryd.underlying98 rfl H.out.2.2.1 ?_)
    | ((with_reducible refine gate_op (Op.store 98 (Operand.tmp 3) (Operand.tmp 16)) rfl ?_); refine wpList_store_row rfl 98 (.tmp 3) (.tmp 16) rfl w.heap.size (hcells (stl s) r n) rfl rfl 98 _ (heap_alloc_new _ _) H.out.2.2.1 (by rw [zeroH_size, hc_size _ _ _ rfl H.out.2.1]) (hcells_one _ _ _) ?_; rw [setRow_alloc]))
  obtain ⟨-, -, -, hE, hG1, hB1⟩ := H.out
  have h72 := c72
  clear c72 hz
  refine (write_any w.heap.size t [128] _ hG1 hE (by have := HNL.out; simp; omega)).mono ?_
  rintro e w2 ⟨rfl, hE2, hO2⟩
  have hG2 := hG1.only hE.far hO2
  have hB2 : Below w.heap.size w w2 := hB1.trans (below_of_only hO2 hB1.size (Nat.le_refl _))
  have H2 : Hid (HAt w2 w.heap.size (t ++ [128] ++ List.replicate 0 0)) ∧ Hid (Glob w2) ∧ Hid (Below w.heap.size w w2) := ⟨by rw [List.replicate_zero, List.append_nil]; exact hE2, hG2, hB2⟩
  clear hE hG1 hB1 hE2 hO2 hG2 hB2 h72
  go_wp2_with fail
  go_loopg [] (zerosN n) (fun kq wr => ∃ k, Hid (k + kq = zerosN n) ∧ Hid (HAt wr w.heap.size (t ++ [128] ++ List.replicate k 0)) ∧ Hid (Glob wr) ∧ Hid (Below w.heap.size w wr))
  case atStart => exact ⟨0, Nat.zero_add _, H2.1, H2.2.1, H2.2.2⟩
  case round =>
    clear H2
    obtain ⟨k, hk, hE, hG, hB⟩ := hrel
    obtain ⟨st2, r2, m, hok2, hi2, hc2⟩ := hE.out.holds
    have hm : m = n + 1 + k := by rw [hi2.size, HNL.out]; simp; omega
    have c72 : wr.cell? ⟨w.heap.size, 72, none⟩ = some (.int .i64 (m : Int)) := by rw [cell_of_row wr _ _ _ _ _ hc2]; exact hc_len _ _ _ rfl hi2.len
    have HM := Lib.hid hm
    clear hm hi2 hc2 hok2
    cases gk with
    | succ kq =>
      have hne : (((m : Int) % 64) != 56) = true := by
        rw [bne_iff_ne]
        have h1 := zeros_test n k (by have := hk.out; omega)
        have h2 := hk.out
        have h3 := HM.out
        omega
      go_wp2_with (go_at_call 60; refine (write_any w.heap.size (t ++ [128] ++ List.replicate k 0) [0] _ hG.out hE.out (by have := HNL.out; have := hk.out; unfold zerosN at this; simp; omega)).mono ?_; rintro e w3 ⟨rfl, hE3, hO3⟩)
      go_roundg kq
      case measure => omega
      case rel =>
        refine ⟨k + 1, by have := hk.out; show k + 1 + kq = _; omega, ?_, hG.out.only hE.out.far hO3, hB.out.trans (below_of_only hO3 hB.out.size (Nat.le_refl _))⟩
        rw [List.replicate_succ', ← List.append_assoc]
        exact hE3
    | zero =>
      have hne : (((m : Int) % 64) != 56) = false := by
        rw [bne_eq_false_iff_eq]
        have h1 := zeros_test n k (by have := hk.out; omega)
        have h2 := hk.out
        have h3 := HM.out
        omega
      have hkz : k = zerosN n := hk.out
      have hEz := hE.out
      rw [hkz] at hEz
      have HE := Lib.hid hEz
      clear hE hEz hkz hk HM
      go_wp2_with fail
      clear c72 hne
      obtain ⟨wo, rfl⟩ : ∃ wo : World, wo = wr := ⟨_, rfl⟩
      go_loopw [6, 29] (fun v6 v29 w3 => ∃ k : Nat, k ≤ 8 ∧ v29 = .int .i64 k ∧ Hid (w3.heap[wo.heap.size]? = some (.cells (lastA n k) 102 (0, 0))) ∧ Hid (Below wo.heap.size wo w3))
        (fun _ v29 _ => 8 - (intOf v29).toNat)
      case atStart => exact ⟨0, by omega, rfl, heap_alloc_new _ _, (Below.refl _ _).alloc (Nat.le_refl _) _⟩
      case round =>
        obtain ⟨k, hk, hv, hC, hB3⟩ := hrel
        by_cases hlt8 : k < 8
        · subst hv
          obtain ⟨v0, hcell⟩ : ∃ v, wr.cell? ⟨wo.heap.size, k, none⟩ = some v := cell_ex hC.out (by rw [lastA_size _ _ hk]; exact hlt8)
          have hfr : wr.frozen? ⟨wo.heap.size, k, none⟩ = false := frozen_of_row wr _ _ _ _ hC.out
          have k0 : (0 : Int) ≤ (k : Int) := by omega
          have k8 : (k : Int) < 8 := by omega
          go_wp2_with fail
          go_roundw
          case rel =>
            refine ⟨k + 1, by omega, by go_num, ?_, hB3.out.setCell (p := ⟨wo.heap.size, k, none⟩) (Nat.le_refl _) _⟩
            have h1 := heap_setCell_same wr wo.heap.size k _ _ (Value.int IntKind.u8 ((n : Int) * 8 / 2 ^ (56 - 8 * k) % 256)) hC.out
            rw [lastA_set n k hlt8] at h1
            exact h1
          case measure => simp [intOf]; omega
        · obtain rfl : k = 8 := by omega
          replace hv := hv.trans (show _ = Value.int .i64 8 from rfl)
          subst hv
          have hcv := run_convert_b8 (P := Tryd.prog) (src := 74) (dst := 9) (e := 5) Tryd.underlying74 Tryd.underlying5 Tryd.underlying9 ⟨wo.heap.size, 0, none⟩ (be8 (8 * n)) 8 wr (fun j hj => by
            rw [addr_add, Nat.zero_add, cell_of_row wr _ _ _ _ _ hC.out]
            rw [lastA_all, List.getElem?_toArray]; exact b8s_get (be8 (8 * n)) j hj)
          rw [show (be8 (8 * n)).length = 8 from rfl] at hcv
          go_wp2_with fail
          clear hcv
          have hEw : HAt wr w.heap.size (t ++ [128] ++ List.replicate (zerosN n) 0) := HE.out.below hB3.out HE.out.lt
          have hGw : Glob wr := hG.out.below hB3.out
          have hBw : Below w.heap.size w wr := hB.out.trans (hB3.out.mono hB.out.size)
          refine (write_any w.heap.size _ (be8 (8 * n)) _ hGw hEw (by have := HNL.out; unfold zerosN; simp [be8]; omega)).mono ?_
          rintro e w4 ⟨rfl, hE4, hO4⟩
          have hB4 : Below w.heap.size w w4 := hBw.trans (below_of_only hO4 hBw.size (Nat.le_refl _))
          have hpad : t ++ [128] ++ List.replicate (zerosN n) 0 ++ be8 (8 * n) = padded t := by rw [HNL.out]; rfl
          rw [hpad] at hE4
          obtain ⟨hf4, st, r4, n4, hok4, hi4, hc4⟩ := hE4
          have hout := hi4.done
          have s8 : (stl st).length = 8 := rfl
          have h4 := Lib.hid (And.intro hB4 (And.intro hc4 (And.intro hout hi4)))
          have hst8 : ∀ j v, (i32s (stl st)).toArray[j]? = some v → w4.cell? ((⟨w.heap.size, 0, none⟩ : Addr).add j) = some v := by
            intro j v hv
            have hj : j < 8 := (Array.getElem?_eq_some_iff.1 hv).1
            rw [addr_add, Nat.zero_add, cell_of_row w4 _ _ _ _ _ hc4, hc_state _ _ _ rfl j hj, ← hv, List.getElem?_toArray, i32s_get _ _ hj]
          have HST := Lib.hid hst8
          obtain ⟨i0, hi, hz0, hz1, hz2⟩ := info_parts info_u8
          have HI0 := Lib.hid (And.intro hi (And.intro hz0 (And.intro hz1 hz2)))
          clear hst8 hc4 hout hi4 hB4 hpad hf4 hO4 hEw hGw hBw hi hz0 hz1 hz2 s8
          have hEl : w.heap.size < w4.heap.size := block_of_cells h4.out.2.1
          go_wp2_with (first
            | ((with_reducible refine gate_op (Op.makeSlice 74 (Operand.const (.int .i64 0)) (Operand.const (.int .i64 32))) rfl ?_); refine wpList_make_own _ rfl _ _ 74 rfl w.heap.size 5 i0 (.int .u8 0) 1 Tryd.underlying74 HI0.out.1 HI0.out.2.1 HI0.out.2.2.1 .i64 .i64 32 32 rfl rfl rfl (by rw [HI0.out.2.2.2]; omega) (by unfold maxLen; omega) h4.out.1.size ?_; intro w5 hown5 hg5)
            | ((with_reducible refine gate_op (Op.load 95 (Operand.tmp 45)) rfl ?_); refine wpList_load_cells rfl 95 _ rfl ⟨w.heap.size, 0, none⟩ rfl (i32s (stl st)).toArray _ (cells_grown HST.out hg5 hEl (by simp)) Tryd.underlying95 rfl size8 ?_))
          have hB5 : Below w.heap.size w w5 := h4.out.1.trans (Below.grown (Below.refl _ _) hg5 h4.out.1.size (by simp))
          have HR0 : Hid (w5.ownsRow w.heap.size 5 1 (.slice (some ⟨w4.heap.size, 0, none⟩) 0 32) (4 * 0) (b8v (st.out.take (4 * 0)))) ∧ Hid (Below w.heap.size w w5) := ⟨hown5, hB5⟩
          clear hown5 hB5
          go_loopw [7, 9, 47] (fun v7 v9 v47 wr => ∃ k : Nat, k ≤ 8 ∧ v47 = .int .i64 k ∧ Hid (wr.ownsRow w.heap.size 5 1 v7 (4 * k) (b8v (st.out.take (4 * k)))) ∧ Hid (Below w.heap.size w wr))
            (fun _ _ v47 _ => 8 - (intOf v47).toNat)
          case atStart => exact ⟨0, by omega, rfl, HR0.1, HR0.2⟩
          case round =>
            clear HR0
            obtain ⟨k, hk, hv, hR, hBr⟩ := hrel
            by_cases hlt9 : k < 8
            · subst hv
              obtain ⟨x, ex⟩ : ∃ x, x = (stl st).getD k 0 := ⟨_, rfl⟩
              have hix := run_index_agg (P := Tryd.prog) Tryd.underlying95 Tryd.underlying69 size_words (i32s (stl st)).toArray .i64 k hlt9 (.int .u32 (x : Int)) (by rw [ex, List.getElem?_toArray]; exact i32s_get (stl st) k hlt9)
              have EX := Lib.hid ex
              clear ex
              go_wp2_with ((with_reducible refine gate_op (Op.call { callee := .builtin .append, args := #[.tmp 50, .tmp 62], argTypes := #[74, 74] }) rfl ?_); refine wpList_append_own _ rfl (.tmp 50) (.tmp 62) 74 rfl w.heap.size 5 i0 (.int .u8 0) 1 1 Tryd.underlying74 HI0.out.1 HI0.out.2.1 HI0.out.2.2.1 HI0.out.2.2.2 rfl (by decide) _ _ _ rfl (hR.out.alloc _) ⟨wr.heap.size, 0, none⟩ 4 4 (b8v (be4 x)) rfl rfl (cells_new (be4_cells x)) (b8v_one _) (by unfold maxLen; omega) (by omega) (by have := hBr.out.size; simp; omega) ?_; intro v' w6 hown6 hg6 _)
              have hown7 : Hid (w6.ownsRow w.heap.size 5 1 v' (4 * (k + 1)) (b8v (st.out.take (4 * (k + 1))))) := by
                rw [← take_out st k hlt9, ← EX.out]
                have h1 := hown6
                rw [show 4 * k + 4 = 4 * (k + 1) from by omega] at h1
                unfold b8v at h1 ⊢
                rw [List.map_append]
                exact h1
              have hB6 : Hid (Below w.heap.size w w6) := (hBr.out.alloc hBr.out.size _).grown hg6 (by have := hBr.out.size; simp; omega) (fun j hj => (hR.out.lt j hj).1)
              clear hown6 hg6
              go_roundw
              case rel => exact ⟨k + 1, by omega, by go_num, hown7, hB6⟩
              case measure => simp [intOf]; omega
            · obtain rfl : k = 8 := by omega
              have hown8 := hR.out
              rw [List.take_of_length_le (by rw [out_length]; decide)] at hown8
              have hcv := run_convert_own (P := Tryd.prog) (src := 74) (dst := 9) (e := 5) Tryd.underlying74 Tryd.underlying5 Tryd.underlying9 w.heap.size _ st.out wr (by rw [out_length]; exact hown8)
              rw [h4.out.2.2.1] at hcv
              clear hown8
              go_wp2_with fail
              go_ret
              exact ⟨rfl, hBr.out⟩

theorem summ_nil (w : World) (hG : Glob w) :
    Calls Tryd.prog 61 #[.pointer none] w fun e w' => e = .returned (.string ⟨(sha []).toArray⟩) ∧ Below w.heap.size w w' := by
  have HG := Lib.hid hG
  clear hG
  go_enter Tryd.func61, Tryd.ntmps61
  go_wp2_with fail
  refine (new_any w HG.out).mono ?_
  rintro e w1 ⟨rfl, rfl⟩
  go_wp2_with fail
  refine (summ_any w.heap.size [] _ (HG.out.below ((Below.refl _ _).alloc (Nat.le_refl _) _)) (new_holds w HG.out) (by simp)).mono ?_
  rintro e w2 ⟨rfl, hb⟩
  go_wp2_with fail
  go_ret
  exact ⟨rfl, ((Below.refl _ _).alloc (Nat.le_refl _) _).trans (hb.mono (by simp))⟩

theorem write_nil (s : List UInt8) (w : World) : Calls Tryd.prog 60 #[.pointer none, .string ⟨s.toArray⟩] w fun e w' => e = .returned (.tuple #[]) ∧ w = w' := by
  go_enter Tryd.func60, Tryd.ntmps60
  go_wp2_with fail
  refine bodyPost_ret (results_none rfl _ _ _) rfl ?_
  exact ⟨rfl, rfl⟩
/-- hash.Sum -/
theorem sum_any (t : List UInt8) (w : World) (hG : Glob w) (hlen : t.length ≤ 1152921504606846976) :
    Calls Tryd.prog 31 #[.string ⟨t.toArray⟩] w fun e w' => e = .returned (.string ⟨(sha t).toArray⟩) ∧ Below w.heap.size w w' := by
  have HG := Lib.hid hG
  have HL := Lib.hid hlen
  clear hG hlen
  go_enter Tryd.func31, Tryd.ntmps31
  go_wp2_with fail
  refine (new_any w HG.out).mono ?_
  rintro e w1 ⟨rfl, rfl⟩
  go_wp2_with fail
  have hB1 : Below w.heap.size w (w.alloc (.cells (hcells (stl iv) (List.replicate 64 0) (0 : Nat)) 98 (0, 0))) := (Below.refl _ _).alloc (Nat.le_refl _) _
  have hG1 := HG.out.below hB1
  refine (write_any w.heap.size [] t _ hG1 (new_holds w HG.out) (by have := HL.out; simp; omega)).mono ?_
  rintro e w2 ⟨rfl, hA2, hO2⟩
  rw [List.nil_append] at hA2
  have hG2 := Lib.hid (hG1.only hA2.far hO2)
  have hA2 := Lib.hid hA2
  have hB2 := Lib.hid (hB1.trans (below_of_only hO2 (by simp) (Nat.le_refl _)))
  clear hB1 hG1 hO2
  go_wp2_with fail
  refine (summ_any w.heap.size t _ hG2.out hA2.out HL.out).mono ?_
  rintro e w3 ⟨rfl, hb3⟩
  go_wp2_with fail
  go_ret
  exact ⟨rfl, hB2.out.trans (hb3.mono hB2.out.size)⟩
end Go.Proofs.YthhjmodkodkgpaaDoor
