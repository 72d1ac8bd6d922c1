/- seal.Stream, Xor. -/
import Derived.Test.YtpdnbdfkcpofaaaDoorKeys
namespace Sbx
/-- one text laid on another -/
def xorS (s t : List UInt8) : List UInt8 := (List.range s.length).map fun j => s.getD j 0 ^^^ t.getD j 0
theorem xorS_length (s t : List UInt8) : (xorS s t).length = s.length := by simp [xorS]
theorem xorS_getD (s t : List UInt8) (j : Nat) (h : j < s.length) : (xorS s t).getD j 0 = s.getD j 0 ^^^ t.getD j 0 := by
  unfold xorS
  rw [List.getD_eq_getElem?_getD, List.getElem?_map, List.getElem?_range h]
  rfl
end Sbx
namespace Go.Proofs.YtpdnbdfkcpofaaaDoor
open Go.RowKit Sbx Go.Sort

theorem stream_getD (key : List UInt8) (i n j : Nat) (h : j < n) : (stream key i n).getD j 0 = byteAt key (i + j) := by
  unfold stream
  rw [List.getD_eq_getElem?_getD, List.getElem?_map, List.getElem?_range h]
  rfl
theorem stream_zero (key : List UInt8) (i : Nat) : stream key i 0 = [] := rfl

/-- Stream's answer -/
def streamV (key : List UInt8) (f n : Int) : List UInt8 := if withinV key f n = 0 then stream key f.toNat n.toNat else []
def xorV (key : List UInt8) (f : Int) (s : List UInt8) : List UInt8 := if withinV key f s.length = 0 then xorS s (stream key f.toNat s.length) else []

theorem convert_nil (w : World) : (convert 44 9 (.slice none 0 0)).run Tryd.prog w = .ok (.string ⟨#[]⟩) w :=
  run_convert_own (P := Tryd.prog) (src := 44) (dst := 9) (e := 5) Tryd.underlying44 Tryd.underlying5 Tryd.underlying9 0 (.slice none 0 0) [] w (World.ownsRow_nil _ _ _ _)

set_option maxRecDepth 100000 in
theorem stream_any (key : List UInt8) (f n : Int) (w : World) (hG : Glob w) (hkey : key.length ≤ 1152921504606840000) (f0 : -9223372036854775808 ≤ f) (f1 : f ≤ 9223372036854775807) (n0 : -9223372036854775808 ≤ n) (n1 : n ≤ 9223372036854775807) :
    Calls Tryd.prog 12 #[.string ⟨key.toArray⟩, .int .i64 f, .int .i64 n] w fun e w' => e = .returned (.tuple #[.string ⟨(streamV key f n).toArray⟩, .int .i64 (withinV key f n)]) ∧ Below w.heap.size w w' := by
  have hw := within_any key f n w f0 f1 n0 n1
  have HG := Lib.hid hG
  have HK := Lib.hid hkey
  obtain ⟨e, ee⟩ : ∃ e, e = withinV key f n := ⟨_, rfl⟩
  rw [← ee] at hw ⊢
  by_cases h0 : withinV key f n = 0
  · have hs : streamV key f n = stream key f.toNat n.toNat := by unfold streamV; rw [if_pos h0]
    rw [hs]
    obtain ⟨h32, p0, p1, p2, p3⟩ := withinV_ok.1 h0
    obtain ⟨i, rfl⟩ : ∃ i : Nat, f = (i : Int) := ⟨f.toNat, by omega⟩
    obtain ⟨m, rfl⟩ : ∃ m : Nat, n = (m : Int) := ⟨n.toNat, by omega⟩
    rw [Int.toNat_natCast, Int.toNat_natCast]
    obtain rfl : e = 0 := by rw [ee, h0]
    have hi : i ≤ 65536 := by omega
    have hm : m ≤ 65536 := by omega
    have H := Lib.hid (And.intro hi hm)
    have HW := Lib.hid hw
    clear hw hs h0 ee h32 p0 p1 p2 p3 f0 f1 n0 n1 hG hkey hi hm
    go_enter Tryd.func12, Tryd.ntmps12
    go_wp2_with fail
    refine HW.out.mono ?_
    clear HW
    rintro e w1 ⟨rfl, hB1⟩
    have HG1 := Lib.hid (HG.out.below hB1)
    have HB1 := Lib.hid hB1
    clear hB1
    go_wp2_with fail
    by_cases hm0 : m = 0
    · subst hm0
      refine (part_zero key i w1 (by omega)).mono ?_
      rintro e w2 ⟨rfl, hB2⟩
      have HB2 := Lib.hid (HB1.out.trans (hB2.mono HB1.out.size))
      have hcv := convert_nil w2
      clear hB2
      go_wp2_with fail
      go_ret2
      exact ⟨rfl, HB2.out⟩
    · refine (part_any key i m w1 HK.out H.out.1 H.out.2 (by omega) HG1.out).mono ?_
      rintro e w2 ⟨g, cur, rfl, hg, hB2, hrow, hc⟩
      have HB2 := Lib.hid (HB1.out.trans (hB2.mono HB1.out.size))
      have hcv := run_convert_b8 (P := Tryd.prog) (src := 44) (dst := 9) (e := 5) Tryd.underlying44 Tryd.underlying5 Tryd.underlying9 ⟨g, i % 32, none⟩ (stream key i m) m w2 (fun j hj => by
        rw [stream_length] at hj
        rw [addr_add, cell_of_row w2 _ _ _ _ _ hrow, hc j hj, stream_getD _ _ _ _ hj])
      rw [stream_length] at hcv
      clear hB2 hc hrow hg
      go_wp2_with fail
      go_ret2
      exact ⟨rfl, HB2.out⟩
  · have hs : streamV key f n = [] := by unfold streamV; rw [if_neg h0]
    rw [hs]
    have he : (e != 0) = true := by rw [bne_iff_ne, ee]; exact h0
    have HW := Lib.hid hw
    clear hw hs h0 ee hG hkey
    go_enter Tryd.func12, Tryd.ntmps12
    go_wp2_with fail
    refine HW.out.mono ?_
    clear HW
    rintro e' w1 ⟨rfl, hB1⟩
    have HB1 := Lib.hid hB1
    clear hB1
    go_wp2_with fail
    go_ret2
    exact ⟨rfl, HB1.out⟩

theorem str_byte (s : List UInt8) (k : Nat) (_h : k < s.length) : ∃ b, b = s.getD k 0 ∧ ∀ h' : k < (⟨s.toArray⟩ : ByteArray).size, (⟨s.toArray⟩ : ByteArray)[k] = b := ⟨_, rfl, fun h' => str_get s k h'⟩

set_option maxRecDepth 100000 in
set_option maxHeartbeats 1000000 in
theorem xor_any (key : List UInt8) (f : Int) (s : List UInt8) (w : World) (hG : Glob w) (hkey : key.length ≤ 1152921504606840000) (f0 : -9223372036854775808 ≤ f) (f1 : f ≤ 9223372036854775807) (n1 : s.length ≤ 9223372036854775807) :
    Calls Tryd.prog 14 #[.string ⟨key.toArray⟩, .int .i64 f, .string ⟨s.toArray⟩] w fun e w' => e = .returned (.tuple #[.string ⟨(xorV key f s).toArray⟩, .int .i64 (withinV key f s.length)]) ∧ Below w.heap.size w w' := by
  have hw := within_any key f (s.length : Int) w f0 f1 (by omega) (by omega)
  have HG := Lib.hid hG
  have HK := Lib.hid hkey
  obtain ⟨e, ee⟩ : ∃ e, e = withinV key f (s.length : Int) := ⟨_, rfl⟩
  rw [← ee] at hw ⊢
  by_cases h0 : withinV key f (s.length : Int) = 0
  · have hs : xorV key f s = xorS s (stream key f.toNat s.length) := by unfold xorV; rw [if_pos h0]
    rw [hs]
    obtain ⟨h32, p0, p1, p2, p3⟩ := withinV_ok.1 h0
    obtain ⟨i, rfl⟩ : ∃ i : Nat, f = (i : Int) := ⟨f.toNat, by omega⟩
    rw [Int.toNat_natCast]
    obtain rfl : e = 0 := by rw [ee, h0]
    have hi : i ≤ 65536 := by omega
    have hm : s.length ≤ 65536 := by omega
    have H := Lib.hid (And.intro hi hm)
    have HW := Lib.hid hw
    obtain ⟨X, eX⟩ : ∃ X, X = xorS s (stream key i s.length) := ⟨_, rfl⟩
    rw [← eX]
    have lX : X.length = s.length := by rw [eX, xorS_length]
    have gX : ∀ j, j < s.length → X.getD j 0 = byteAt key (i + j) ^^^ s.getD j 0 := fun j hj => by rw [eX, xorS_getD _ _ _ hj, stream_getD _ _ _ _ hj, UInt8.xor_comm]
    have HX := Lib.hid (And.intro lX gX)
    clear hw hs h0 ee h32 p0 p1 p2 p3 f0 f1 n1 hG hkey hi hm eX lX gX
    go_enter Tryd.func14, Tryd.ntmps14
    go_wp2_with fail
    refine HW.out.mono ?_
    clear HW
    rintro e w1 ⟨rfl, hB1⟩
    have HG1 := Lib.hid (HG.out.below hB1)
    have HB1 := Lib.hid hB1
    clear hB1
    go_wp2_with fail
    by_cases hm0 : s.length = 0
    · obtain rfl : s = [] := List.eq_nil_of_length_eq_zero hm0
      have hX0 : X = [] := List.eq_nil_of_length_eq_zero HX.out.1
      have HX0 := Lib.hid hX0
      clear hX0
      refine (part_zero key i w1 (by omega)).mono ?_
      rintro e w2 ⟨rfl, hB2⟩
      have HB2 := Lib.hid (HB1.out.trans (hB2.mono HB1.out.size))
      have hcv := convert_nil w2
      clear hB2
      go_wp2_with fail
      go_loopw [10, 26] (fun v10 v26 wr => v26 = .int .i64 0 ∧ w2 = wr) (fun _ _ _ => 0)
      case atStart => exact ⟨rfl, rfl⟩
      case round =>
        obtain ⟨hv, rfl⟩ := hrel
        subst hv
        go_wp2_with fail
        go_ret2
        exact ⟨by rw [HX0.out]; rfl, HB2.out⟩
    · refine (part_any key i s.length w1 HK.out H.out.1 H.out.2 (by omega) HG1.out).mono ?_
      rintro e w2 ⟨g, cur, rfl, hg, hB2, hrow, hc⟩
      generalize i % 32 = sk at *
      have hgw : w.heap.size ≤ g := Nat.le_trans HB1.out.size hg
      have HB2 := Lib.hid (HB1.out.trans (hB2.mono HB1.out.size))
      have HR : Hid (∃ cur, w2.heap[g]? = some (.cells cur 5 (0, 0)) ∧ ∀ j, j < s.length → cur[sk + j]? = some (.int .u8 ((if j < 0 then X.getD j 0 else byteAt key (i + j)).toNat : Int))) := ⟨cur, hrow, fun j hj => by rw [if_neg (by omega)]; exact hc j hj⟩
      clear hB2 hc hrow hg hm0
      go_wp2_with fail
      go_loopw [10, 26] (fun v10 v26 wr => ∃ k : Nat, k ≤ s.length ∧ v26 = .int .i64 k ∧ Hid (∃ cur, wr.heap[g]? = some (.cells cur 5 (0, 0)) ∧ ∀ j, j < s.length → cur[sk + j]? = some (.int .u8 ((if j < k then X.getD j 0 else byteAt key (i + j)).toNat : Int))) ∧ Hid (Below w.heap.size w wr))
        (fun _ v26 _ => s.length - (intOf v26).toNat)
      case atStart => exact ⟨0, by omega, rfl, HR, HB2⟩
      case round =>
        clear HR HB2
        obtain ⟨k, hk, hv, hC, hBr⟩ := hrel
        subst hv
        by_cases hlt : k < s.length
        · obtain ⟨cur, hrow, hcells⟩ := hC.out
          obtain ⟨B, eB⟩ : ∃ B, B = byteAt key (i + k) := ⟨_, rfl⟩
          have c0 : wr.cell? ⟨g, sk + k, none⟩ = some (.int .u8 (B.toNat : Int)) := by
            rw [cell_of_row wr _ _ _ _ _ hrow, hcells k hlt, if_neg (Nat.lt_irrefl _), eB]
          have f0 : wr.frozen? ⟨g, sk + k, none⟩ = false := frozen_of_row wr _ _ _ _ hrow
          obtain ⟨S, eS, hS⟩ := str_byte s k hlt
          have hgX : X.getD k 0 = B ^^^ S := by rw [HX.out.2 k hlt, eB, eS]
          have HR := Lib.hid (And.intro hrow hcells)
          have HE := Lib.hid (And.intro hgX (And.intro eB eS))
          have k0 : (0 : Int) ≤ (k : Int) := by omega
          have k1 : (k : Int) < (s.length : Int) := by omega
          have k2 : (s.length : Int) ≤ 65536 := by have := H.out.2; omega
          clear hrow hcells eB eS hgX
          go_wp2_with fail
          go_still_tail 9, (by kernel_rfl)
          change wpList _ _ _ _ _ wr.drew
          go_wp2
          go_roundw
          case rel =>
            refine ⟨k + 1, by omega, by go_num, ⟨_, heap_setCell_same wr.drew g (sk + k) _ _ _ HR.out.1, fun j hj => ?_⟩, (hBr.out.drew).setCell (p := ⟨g, sk + k, none⟩) hgw _⟩
            have hlt2 : sk + k < cur.size := (Array.getElem?_eq_some_iff.1 (HR.out.2 k hlt)).1
            rw [u8_xor8]
            by_cases hjk : j = k
            · subst hjk
              rw [Array.getElem?_setIfInBounds_self_of_lt hlt2, if_pos (Nat.lt_succ_self _), HE.out.1]
            · rw [Array.getElem?_setIfInBounds_ne (by omega), HR.out.2 j hj]
              by_cases hj2 : j < k
              · rw [if_pos hj2, if_pos (by omega)]
              · rw [if_neg hj2, if_neg (by omega)]
          case measure => simp [intOf]; omega
        · obtain rfl : k = s.length := by omega
          obtain ⟨cur, hrow, hcells⟩ := hC.out
          have hcv := run_convert_b8 (P := Tryd.prog) (src := 44) (dst := 9) (e := 5) Tryd.underlying44 Tryd.underlying5 Tryd.underlying9 ⟨g, sk, none⟩ X s.length wr (fun j hj => by
            rw [HX.out.1] at hj
            rw [addr_add, cell_of_row wr _ _ _ _ _ hrow, hcells j hj, if_pos hj])
          rw [HX.out.1] at hcv
          clear hrow hcells
          go_wp2_with fail
          go_ret2
          exact ⟨rfl, hBr.out⟩
  · have hs : xorV key f s = [] := by unfold xorV; rw [if_neg h0]
    rw [hs]
    have he : (e != 0) = true := by rw [bne_iff_ne, ee]; exact h0
    have HW := Lib.hid hw
    clear hw hs h0 ee hG hkey
    go_enter Tryd.func14, Tryd.ntmps14
    go_wp2_with fail
    refine HW.out.mono ?_
    clear HW
    rintro e' w1 ⟨rfl, hB1⟩
    have HB1 := Lib.hid hB1
    clear hB1
    go_wp2_with fail
    go_ret2
    exact ⟨rfl, HB1.out⟩
end Go.Proofs.YtpdnbdfkcpofaaaDoor
