/- strongboxref1.laid, Mac. -/
import Derived.Test.YtpdnbdfkcpofaaaDoorRSum
import Derived.Test.YtpdnbdfkcpofaaaDoorWMac
namespace Go.Proofs.YtpdnbdfkcpofaaaDoor
open Go.RowKit Sbx Go.Sort

theorem make64 (w : World) : (Instr.makeSlice 44 (.int .i64 64) (.int .i64 64)).run Tryd.prog w = .ok (.slice (some ⟨w.heap.size, 0, none⟩) 64 64) (w.alloc (.cells (b8s (List.replicate 64 0)).toArray 5)) := by kernel_rfl

theorem str_get (u : List UInt8) (k : Nat) (h : k < (⟨u.toArray⟩ : ByteArray).size) : (⟨u.toArray⟩ : ByteArray)[k] = u.getD k 0 := by
  have h' : k < u.length := by simpa [ByteArray.size] using h
  rw [List.getD_eq_getElem?_getD, List.getElem?_eq_getElem h']
  rfl

set_option maxRecDepth 100000 in
theorem laid_any (u : List UInt8) (x : UInt8) (w : World) (hu : u.length ≤ 64) :
    Calls Tryd.prog 51 #[.string ⟨u.toArray⟩, .int .u8 (x.toNat : Int)] w fun e w' => e = .returned (.string ⟨(xorAll x (hpad u)).toArray⟩) ∧ Below w.heap.size w w' := by
  obtain ⟨p, ep⟩ : ∃ p, p = hpad u := ⟨_, rfl⟩
  have hp : p.length = 64 := by rw [ep]; exact hpad_length _ hu
  rw [← ep]
  have HP := Lib.hid hp
  have HE := Lib.hid ep
  clear hp ep
  go_enter Tryd.func51, Tryd.ntmps51
  have hmk := make64 w
  go_wp2_with fail
  clear hmk
  have h0 : (w.alloc (.cells (b8s (List.replicate 64 0)).toArray 5)).heap[w.heap.size]? = some (.cells (b8s (fillTo x 0 p)).toArray 5 (0, 0)) := by rw [fillTo_zero]; exact heap_alloc_new w _
  have hB0 : Below w.heap.size w (w.alloc (.cells (b8s (List.replicate 64 0)).toArray 5)) := (Below.refl _ _).alloc (Nat.le_refl _) _
  have H0 := Lib.hid (And.intro h0 hB0)
  clear h0 hB0
  go_loopw [6] (fun v6 wr => ∃ k : Nat, k ≤ 64 ∧ v6 = .int .i64 k ∧ Hid (wr.heap[w.heap.size]? = some (.cells (b8s (fillTo x k p)).toArray 5 (0, 0))) ∧ Hid (Below w.heap.size w wr))
    (fun v6 _ => 64 - (intOf v6).toNat)
  case atStart => exact ⟨0, by omega, rfl, H0.out.1, H0.out.2⟩
  case round =>
    clear H0
    obtain ⟨k, hk, hv, hC, hBr⟩ := hrel
    by_cases hlt : k < 64
    · subst hv
      have c0 : wr.cell? ⟨w.heap.size, k, none⟩ = some (.int .u8 0) := by
        rw [cell_of_row wr _ _ _ _ _ hC.out, b8s_arr_get _ _ (by rw [fillTo_length _ _ _ HP.out hk]; exact hlt), fillTo_getD _ _ _ HP.out hlt]; rfl
      have f1 : wr.frozen? ⟨w.heap.size, k, none⟩ = false := frozen_of_row wr _ _ _ _ hC.out
      have k0 : (0 : Int) ≤ (k : Int) := by omega
      have k64 : (k : Int) < 64 := by omega
      by_cases hku : k < u.length
      · have eb : u.getD k 0 = p.getD k 0 := by rw [HE.out, hpad_getD_lt _ _ hku]
        have EB := Lib.hid eb
        clear eb
        go_wp2_with fail
        go_roundw
        case rel =>
          refine ⟨k + 1, by omega, by go_num, ?_, (hBr.out.setCell (p := ⟨w.heap.size, k, none⟩) (Nat.le_refl _) _).setCell (p := ⟨w.heap.size, k, none⟩) (Nat.le_refl _) _⟩
          have e1 := heap_setCell_same wr w.heap.size k _ _ (.int .u8 ((p.getD k 0).toNat : Int)) hC.out
          have e2 := heap_setCell_same _ w.heap.size k _ _ (.int .u8 ((p.getD k 0 ^^^ x).toNat : Int)) e1
          rw [b8s_arr_set, b8s_arr_set, set_set, fillTo_set _ _ _ HP.out hlt] at e2
          rw [str_get, EB.out, u8_xor8]
          exact e2
        case measure => simp [intOf]; omega
      · have eb : p.getD k 0 = 0 := by rw [HE.out, hpad_getD_ge _ _ (by omega)]
        have EB := Lib.hid eb
        clear eb
        go_wp2_with fail
        go_roundw
        case rel =>
          refine ⟨k + 1, by omega, by go_num, ?_, hBr.out.setCell (p := ⟨w.heap.size, k, none⟩) (Nat.le_refl _) _⟩
          have e1 := heap_setCell_same wr w.heap.size k _ _ (.int .u8 ((p.getD k 0 ^^^ x).toNat : Int)) hC.out
          rw [b8s_arr_set, fillTo_set _ _ _ HP.out hlt] at e1
          rw [show bits BinOp.xor IntKind.u8 0 (x.toNat : Int) = ((p.getD k 0 ^^^ x).toNat : Int) from by rw [EB.out]; exact u8_xor8 0 x]
          exact e1
        case measure => simp [intOf]; omega
    · obtain rfl : k = 64 := by omega
      replace hv := hv.trans (show _ = Value.int .i64 64 from rfl)
      subst hv
      have hC' := hC.out
      rw [fillTo_all _ _ HP.out] at hC'
      have hcv := run_convert_b8 (P := Tryd.prog) (src := 44) (dst := 9) (e := 5) Tryd.underlying44 Tryd.underlying5 Tryd.underlying9 ⟨w.heap.size, 0, none⟩ (xorAll x p) 64 wr (fun j hj => by
        rw [addr_add, Nat.zero_add, cell_of_row wr _ _ _ _ _ hC', b8s_arr_get _ _ hj])
      rw [xorAll_length, HP.out] at hcv
      clear hC'
      go_wp2_with fail
      go_ret
      exact ⟨rfl, hBr.out⟩

set_option maxRecDepth 100000 in
theorem rmac_from (k t : List UInt8) (wb w : World) (hb : Below wb.heap.size wb w) (hk : k.length ≤ 140737488354000) (ht : t.length ≤ 140737488353900) :
    Calls Tryd.prog 38 #[.string ⟨k.toArray⟩, .string ⟨t.toArray⟩] w fun e w' => e = .returned (.string ⟨(hmac k t).toArray⟩) ∧ Below wb.heap.size wb w' := by
  have hs := rsum_any k w hk
  obtain ⟨u, eu⟩ : ∃ u, u = hkey k := ⟨_, rfl⟩
  have hu : u.length ≤ 64 := by rw [eu]; exact hkey_le k
  have hm : hmac k t = sha (xorAll 92 (hpad u) ++ sha (xorAll 54 (hpad u) ++ t)) := by rw [eu]; rfl
  have HB := Lib.hid hb
  have HT := Lib.hid ht
  have HU := Lib.hid hu
  have HM := Lib.hid hm
  clear hb ht hu hm
  by_cases hl : 64 < k.length
  all_goals first
    | (have hc : (64 : Int) < (k.length : Int) := by omega
       rw [show sha k = u from by rw [eu]; unfold hkey; rw [if_pos hl]] at hs
       have HS := Lib.hid hs
       clear eu hs hk hl
       go_enter Tryd.func38, Tryd.ntmps38
       go_wp2_with fail
       refine HS.out.mono ?_
       have HB' := HB
       clear HB HS hc
       rintro e w1 ⟨rfl, hB0⟩
       have HB := Lib.hid (HB'.out.trans (hB0.mono HB'.out.size))
       clear HB' hB0
       clear w)
    | (have e : u = k := by rw [eu]; unfold hkey; rw [if_neg hl]
       clear hs eu
       subst e
       have hc : ¬ (64 : Int) < (u.length : Int) := by omega
       clear hl
       obtain ⟨w1, rfl⟩ : ∃ w1, w1 = w := ⟨w, rfl⟩
       clear hk
       go_enter Tryd.func38, Tryd.ntmps38)
  all_goals
    obtain ⟨A, eA⟩ : ∃ A, A = xorAll 92 (hpad u) := ⟨_, rfl⟩
    obtain ⟨B, eB⟩ : ∃ A, A = xorAll 54 (hpad u) := ⟨_, rfl⟩
    have lA : A.length = 64 := by rw [eA, xorAll_length, hpad_length _ HU.out]
    have lB : B.length = 64 := by rw [eB, xorAll_length, hpad_length _ HU.out]
    obtain ⟨s1, e1⟩ : ∃ z, z = sha (B ++ t) := ⟨_, rfl⟩
    obtain ⟨s2, e2⟩ : ∃ z, z = sha (A ++ s1) := ⟨_, rfl⟩
    have l1 : s1.length = 32 := by rw [e1]; exact sha_length _
    have hM := HM.out
    rw [← eA, ← eB, ← e1, ← e2] at hM
    have HF := Lib.hid hM
    have le1 : ¬ 9223372036854775807 < B.length + t.length := by have := HT.out; omega
    have le2 : ¬ 9223372036854775807 < A.length + s1.length := by omega
    have H := Lib.hid (And.intro eA (And.intro eB (And.intro e1 (And.intro e2 (And.intro lA (And.intro lB l1))))))
    clear eA eB e1 e2 lA lB l1 hM HM
    go_wp2_with fail
    have q1 := laid_any u 54 w1 HU.out
    rw [← H.out.2.1] at q1
    refine q1.mono ?_
    clear q1
    rintro e w2 ⟨rfl, hB2⟩
    have HB2 := Lib.hid (HB.out.trans (hB2.mono HB.out.size))
    clear HB hB2
    go_wp2_with fail
    have q2 := rsum_any (B ++ t) w2 (by have := HT.out; have := H.out.2.2.2.2.2.1; simp; omega)
    rw [← H.out.2.2.1, ← str_app] at q2
    refine q2.mono ?_
    clear q2
    rintro e w3 ⟨rfl, hB3⟩
    have HB3 := Lib.hid (HB2.out.trans (hB3.mono HB2.out.size))
    clear HB2 hB3
    go_wp2_with fail
    have q1 := laid_any u 92 w3 HU.out
    rw [← H.out.1] at q1
    refine q1.mono ?_
    clear q1
    rintro e w4 ⟨rfl, hB4⟩
    have HB4 := Lib.hid (HB3.out.trans (hB4.mono HB3.out.size))
    clear HB3 hB4
    go_wp2_with fail
    have q2 := rsum_any (A ++ s1) w4 (by have := H.out.2.2.2.2.1; have := H.out.2.2.2.2.2.2; simp; omega)
    rw [← H.out.2.2.2.1, ← str_app] at q2
    refine q2.mono ?_
    clear q2
    rintro e w5 ⟨rfl, hB5⟩
    have HB5 := Lib.hid (HB4.out.trans (hB5.mono HB4.out.size))
    clear HB4 hB5
    go_wp2_with fail
    go_ret
    exact ⟨by rw [HF.out]; rfl, HB5.out⟩
theorem rmac_any (k t : List UInt8) (w : World) (hk : k.length ≤ 140737488354000) (ht : t.length ≤ 140737488353900) :
    Calls Tryd.prog 38 #[.string ⟨k.toArray⟩, .string ⟨t.toArray⟩] w fun e w' => e = .returned (.string ⟨(hmac k t).toArray⟩) ∧ Below w.heap.size w w' :=
  rmac_from k t w w (Below.refl _ _) hk ht
end Go.Proofs.YtpdnbdfkcpofaaaDoor
