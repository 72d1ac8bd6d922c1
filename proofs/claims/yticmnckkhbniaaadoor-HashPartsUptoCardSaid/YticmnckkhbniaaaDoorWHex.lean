/- strings.IndexByte; hash.Hex, Unhex. -/
import Derived.Test.YticmnckkhbniaaaDoorWSumM
import Derived.Test.YticmnckkhbniaaaDoorHexes
import Derived.Test.YticmnckkhbniaaaDoorRMac
import Derived.Deep.RegionHeld3
import Derived.Deep.AppendLies
namespace Go.Proofs.YticmnckkhbniaaaDoor
open Go.RowKit Sbx Go.Sort

theorem slIndexByte_any (s : ByteArray) (c : Int) (w : World) :
    Calls Tryd.prog 47 #[.string s, .int .u8 c] w fun e w' => e = .returned (.int .i64 (Lib.indexByte s.data.toList c.toNat.toUInt8)) ∧ w = w' := by
  go_enter Tryd.func47, Tryd.ntmps47
  go_wp2
  rw [run_callFunc_extern Tryd.func51 (by kernel_rfl) (by kernel_rfl) (by kernel_rfl) (e := Extern.BytealgIndexByte.indexByte) (by kernel_rfl), Lib.run_indexByteString]
  simp only [Result.andThen]
  rw [Oper.upon_value]
  go_wp2
  go_ret
  exact ⟨rfl, rfl⟩
theorem indexByte_any (s : ByteArray) (c : Int) (w : World) :
    Calls Tryd.prog 37 #[.string s, .int .u8 c] w fun e w' => e = .returned (.int .i64 (Lib.indexByte s.data.toList c.toNat.toUInt8)) ∧ w = w' := by
  go_enter Tryd.func37, Tryd.ntmps37
  go_wp2_with (go_at_call 47; refine (slIndexByte_any _ _ _).mono ?_; rintro e w' ⟨rfl, rfl⟩)
  go_ret
  exact ⟨rfl, rfl⟩
def digitsA : ByteArray := ⟨#[48, 49, 50, 51, 52, 53, 54, 55, 56, 57, 97, 98, 99, 100, 101, 102]⟩
theorem val_any (b : UInt8) (w : World) : Calls Tryd.prog 37 #[.string ⟨#[48, 49, 50, 51, 52, 53, 54, 55, 56, 57, 97, 98, 99, 100, 101, 102]⟩, .int .u8 (b.toNat : Int)] w fun e w' => e = .returned (.int .i64 (val b)) ∧ w = w' := by
  refine (indexByte_any _ _ w).mono ?_
  rintro e w' ⟨rfl, rfl⟩
  refine ⟨?_, rfl⟩
  simp [val, digits]

theorem digit_get (n : Nat) (h : n < (⟨#[48, 49, 50, 51, 52, 53, 54, 55, 56, 57, 97, 98, 99, 100, 101, 102]⟩ : ByteArray).size) : (⟨#[48, 49, 50, 51, 52, 53, 54, 55, 56, 57, 97, 98, 99, 100, 101, 102]⟩ : ByteArray)[n] = hexd n := str_get digits n h
set_option maxRecDepth 100000 in
theorem hex_any (t : List UInt8) (w : World) (hlen : t.length ≤ 70368744000000) :
    Calls Tryd.prog 17 #[.string ⟨t.toArray⟩] w fun e w' => e = .returned (.string ⟨(hex t).toArray⟩) ∧ Below w.heap.size w w' := by
  obtain ⟨i0, hi, hz0, hz1, hz2⟩ := info_parts info_u8
  have HI := Lib.hid (And.intro hi (And.intro hz0 (And.intro hz1 hz2)))
  have HL := Lib.hid hlen
  have hle : (t.length : Int) ≤ 70368744000000 := by omega
  clear hi hz0 hz1 hz2 hlen
  go_enter Tryd.func17, Tryd.ntmps17
  go_wp2_with ((with_reducible refine gate_op (Op.makeSlice 46 (Operand.const (.int .i64 0)) (Operand.tmp 7)) rfl ?_); refine wpList_make_own _ rfl _ _ 46 rfl w.heap.size 5 i0 (.int .u8 0) 1 Tryd.underlying46 HI.out.1 HI.out.2.1 HI.out.2.2.1 .i64 .i64 _ (2 * t.length) rfl rfl (by simp) (by rw [HI.out.2.2.2]; have := HL.out; omega) (by have := HL.out; unfold maxLen; omega) (Nat.le_refl _) ?_; intro w5 hown5 hg5)
  have H0 : Hid (w5.ownsRow w.heap.size 5 1 (.slice (some ⟨w.heap.size, 0, none⟩) 0 (2 * t.length)) (2 * 0) (b8v (hex (t.take 0)))) ∧ Hid (Below w.heap.size w w5) := ⟨hown5, Below.grown (Below.refl _ _) hg5 (Nat.le_refl _) (by simp)⟩
  clear hown5 hg5
  go_loopw [3, 4, 11] (fun v3 v4 v11 wr => ∃ k : Nat, k ≤ t.length ∧ v11 = .int .i64 k ∧ Hid (wr.ownsRow w.heap.size 5 1 v3 (2 * k) (b8v (hex (t.take k)))) ∧ Hid (Below w.heap.size w wr))
    (fun _ _ v11 _ => t.length - (intOf v11).toNat)
  case atStart => exact ⟨0, by omega, rfl, H0.1, H0.2⟩
  case round =>
    clear H0
    obtain ⟨k, hk, hv, hR, hBr⟩ := hrel
    subst hv
    by_cases hlt : k < t.length
    · have k0 : (0 : Int) ≤ (k : Int) := by omega
      have k1 : (k : Int) < (t.length : Int) := by omega
      have hbz : k < (⟨t.toArray⟩ : ByteArray).size := hlt
      obtain ⟨b, eb⟩ : ∃ b, (⟨t.toArray⟩ : ByteArray)[k] = b := ⟨_, rfl⟩
      have hb256 := b.toNat_lt
      have n1 : b.toNat / 16 < 16 := by omega
      have n2 : b.toNat % 16 < 16 := by omega
      have q1 : (b.toNat : Int) / 16 < 16 := by omega
      have q0 : 0 ≤ (b.toNat : Int) / 16 := by omega
      have q2 : bits .and .u8 (b.toNat : Int) 15 = (b.toNat : Int) % 16 := by
        have h1 := u8_and_nat b.toNat 15 hb256 (by omega)
        rw [show ((15 : Nat) : Int) = 15 from rfl, Nat.and_two_pow_sub_one_eq_mod b.toNat 4] at h1
        rw [h1]; rfl
      have q3 : (b.toNat : Int) % 16 < 16 := by omega
      have q4 : 0 ≤ (b.toNat : Int) % 16 := by omega
      go_wp2_with fail
      go_region_held3 (fun w' => True) (trivial)
        ((refine step_append_lies _ (by rfl) _ _ _ (by rfl) w.heap.size 5 i0 (.int .u8 0) 1 1 Tryd.underlying46 HI.out.1 HI.out.2.1 HI.out.2.2.1 HI.out.2.2.2 rfl (by omega) u3 (2 * k) (b8v (hex (t.take k))) (by rfl) ((hR.out.alloc _).drew)
            ⟨wr.heap.size, 0, none⟩ 2 2 _ (by rfl) (by rfl) (World.news_of_block (heap_alloc_new wr _)) (by simp [Value.oneCell']) (by omega) (by have := HL.out; unfold maxLen; omega) (by have := HL.out; omega) (by have := hBr.out.size; simp; omega) (wr.heap.size + 1) (by simp) ?_; intro gg cap w1 hown1 hgrow hat hlt1))
      all_goals
        have hR2 : Hid (w1.ownsRow w.heap.size 5 1 (.slice (some ⟨gg, 0, none⟩) (2 * k + 2) cap) (2 * (k + 1)) (b8v (hex (t.take (k + 1))))) := by
          rw [hex_snoc t k hlt, ← str_get t k hbz, eb]
          have h1 := hown1
          simp only [digit_get] at h1
          rw [show ((b.toNat : Int) / 16).toNat = b.toNat / 16 from by omega, show ((b.toNat : Int) % 16).toNat = b.toNat % 16 from by omega] at h1
          unfold b8v at h1 ⊢
          rw [List.map_append]
          exact h1
        have hB2 : Hid (Below w.heap.size w w1) := ((hBr.out.alloc hBr.out.size _).drew).grown hgrow (by have := hBr.out.size; simp; omega) (fun j hj => (hR.out.lt j hj).1)
        clear hown1 hgrow hat hlt1
        go_wp2
        go_roundw
        case rel => exact ⟨k + 1, by omega, by go_num, hR2, hB2⟩
        case measure => simp [intOf]; omega
    · obtain rfl : k = t.length := by omega
      have hR' := hR.out
      rw [List.take_of_length_le (Nat.le_refl _), ← hex_length] at hR'
      have hcv := run_convert_own (P := Tryd.prog) (src := 46) (dst := 9) (e := 5) Tryd.underlying46 Tryd.underlying5 Tryd.underlying9 w.heap.size _ (hex t) wr hR'
      clear hR'
      go_wp2_with fail
      go_ret
      exact ⟨rfl, hBr.out⟩
end Go.Proofs.YticmnckkhbniaaaDoor
