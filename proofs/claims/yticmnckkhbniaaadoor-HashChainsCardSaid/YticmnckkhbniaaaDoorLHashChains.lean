/- strongboxlaw1.HashChains: the walk. -/
import Derived.Test.YticmnckkhbniaaaDoorKnown1
import Derived.Test.YticmnckkhbniaaaDoorPick1
import Derived.Test.YticmnckkhbniaaaDoorMem3
import Derived.Test.YticmnckkhbniaaaDoorWDerive
namespace Sbx
theorem derive_piece (k info : List UInt8) (A i : Nat) (h : 32 * (i + 1) ≤ A) : ((derive k info A).drop (32 * i)).take 32 = dlast k info (i + 1) := by
  have h1 := derive_take k info (32 * (i + 1)) A h
  have h2 : derive k info (32 * (i + 1)) = dout k info i ++ dlast k info (i + 1) := by
    unfold derive
    rw [show (32 * (i + 1) + 31) / 32 = i + 1 from by omega, List.take_of_length_le (by rw [dout_length]; exact Nat.le_refl _)]
    rfl
  have h3 : ((derive k info A).drop (32 * i)).take 32 = ((derive k info A).take (32 * (i + 1))).drop (32 * i) := by
    rw [List.drop_take]
    congr 1
    omega
  rw [h3, h1, h2, List.drop_append_of_le_length (by rw [dout_length]; exact Nat.le_refl _), List.drop_of_length_le (by rw [dout_length]; exact Nat.le_refl _)]
  rfl
end Sbx
namespace Go.Proofs.YticmnckkhbniaaaDoor
open Go.RowKit Sbx Go.Sort

set_option maxRecDepth 100000 in
set_option maxHeartbeats 2000000 in
theorem hashchains_any (k info : List UInt8) (n m : Int) (w : World) (hG : Glob w) (hk : k.length ≤ 140737488353000) (hi : info.length ≤ 140737488353000)
    (hn : (Lit.int .i64 n).wf = true) (hm : (Lit.int .i64 m).wf = true) :
    Calls Tryd.prog 10 #[.string ⟨k.toArray⟩, .string ⟨info.toArray⟩, .int .i64 n, .int .i64 m] w fun e w' => e = .returned (.bool true) ∧ Below w.heap.size w w' := by
  obtain ⟨n0, n1⟩ := wf_i64 hn
  obtain ⟨m0, m1⟩ := wf_i64 hm
  have ca := fun W => pick_any n 8161 W (by omega) n0 n1
  obtain ⟨A, hA⟩ : ∃ A : Nat, pickI n 8161 = A := ⟨(pickI n 8161).toNat, by have := pickI_nonneg n 8161 (by omega); omega⟩
  have hA8 : A ≤ 8160 := by have := pickI_lt n 8161 (by omega); omega
  rw [hA] at ca
  have cb := fun W => pick_any m ((A : Int) + 1) W (by omega) m0 m1
  obtain ⟨B, hB⟩ : ∃ B : Nat, pickI m ((A : Int) + 1) = B := ⟨(pickI m ((A : Int) + 1)).toNat, by have := pickI_nonneg m ((A : Int) + 1) (by omega); omega⟩
  have hBA : B ≤ A := by have := pickI_lt m ((A : Int) + 1) (by omega); omega
  rw [hB] at cb
  have dV : ∀ N : Nat, N ≤ 8160 → deriveV k info (N : Int) = .tuple #[.string ⟨(derive k info N).toArray⟩, .int .i64 0] := fun N h => by
    unfold deriveV; rw [if_neg (by omega), if_neg (by omega)]; rfl
  have ds := fun W (h : Glob W) => derive_any k info A W h (by omega) (by omega)
  have dt := fun W (h : Glob W) => derive_any k info B W h (by omega) (by omega)
  have dl := fun W (h : Glob W) => derive_any k info (-1 - (A : Int)) W h (by omega) (by omega)
  have dg := fun W (h : Glob W) => derive_any k info (8161 + (B : Int)) W h (by omega) (by omega)
  rw [dV A hA8] at ds
  rw [dV B (by omega)] at dt
  rw [show deriveV k info (-1 - (A : Int)) = .tuple #[.string ⟨#[]⟩, .int .i64 1] from by unfold deriveV; rw [if_pos (by omega)]] at dl
  rw [show deriveV k info (8161 + (B : Int)) = .tuple #[.string ⟨#[]⟩, .int .i64 10] from by unfold deriveV; rw [if_neg (by omega), if_pos (by omega)]] at dg
  have cm := fun (l : List UInt8) W (h : Glob W) (hl : l.length ≤ 140737488354000) => mac_any k l W h (by omega) (by omega)
  obtain ⟨s, es⟩ : ∃ s, s = derive k info A := ⟨_, rfl⟩
  obtain ⟨t, et⟩ : ∃ s, s = derive k info B := ⟨_, rfl⟩
  have ls : s.length = A := by rw [es]; exact derive_length _ _ _
  have lt : t.length = B := by rw [et]; exact derive_length _ _ _
  have hst : s.take B = t := by rw [es, et]; exact derive_take k info B A hBA
  rw [← es] at ds
  rw [← et] at dt
  have H := Lib.hid (And.intro ca (And.intro cb (And.intro ds (And.intro dt (And.intro dl (And.intro dg cm))))))
  have ES := Lib.hid es
  have HG := Lib.hid hG
  have HI := Lib.hid hi
  have ex : (⟨s.toArray⟩ : ByteArray).extract 0 B = ⟨t.toArray⟩ := by rw [str_extract, List.drop_zero, Nat.sub_zero, hst]
  have LS := Lib.hid ls
  have l1 : ((s.length : Int) != (A : Int)) = false := by rw [bne_eq_false_iff_eq]; omega
  have l2 : ((t.length : Int) != (B : Int)) = false := by rw [bne_eq_false_iff_eq]; omega
  have l3 : B ≤ s.length := by omega
  clear ca cb ds dt dl dg cm es et ls lt hst dV hA hB hn hm n0 n1 m0 m1 hG hk hi
  go_enter Tryd.func10, Tryd.ntmps10
  go_wp2_with fail
  refine (known_any _ HG.out).mono ?_
  rintro e1 w1 ⟨rfl, hB⟩
  have hG1 := Lib.hid (HG.out.below hB)
  have HB1 := Lib.hid hB
  clear hB
  go_wp2_with fail
  refine (H.out.1 _).mono ?_
  rintro e1 w2 ⟨rfl, rfl⟩
  go_wp2_with fail
  refine (H.out.2.1 _).mono ?_
  rintro e1 w2 ⟨rfl, rfl⟩
  go_wp2_with fail
  refine (H.out.2.2.1 _ hG1.out).mono ?_
  rintro e1 w2 ⟨rfl, hB⟩
  have hG2 := Lib.hid (hG1.out.below hB)
  have HB2 := Lib.hid (HB1.out.trans (hB.mono HB1.out.size))
  clear HB1 hG1 hB
  go_wp2_with fail
  refine (H.out.2.2.2.1 _ hG2.out).mono ?_
  rintro e1 w3 ⟨rfl, hB⟩
  have HB3 := Lib.hid (HB2.out.trans (hB.mono HB2.out.size))
  clear HB2 hG2 hB
  go_wp2_with fail
  go_loopw [16, 17, 18] (fun v16 v17 v18 wr => ∃ i : Nat, i ≤ 40 ∧ 32 * i ≤ A ∧ v17 = .int .i64 ((i : Int) + 1) ∧ (∃ l, v16 = .string ⟨l.toArray⟩ ∧ Hid (l = dlast k info i)) ∧ Hid (Below w.heap.size w wr))
    (fun _ v17 _ _ => 41 - (intOf v17).toNat)
  case atStart => exact ⟨0, by omega, by omega, rfl, ⟨[], rfl, rfl⟩, HB3.out⟩
  case round =>
    clear HB3 l1 l2 l3 ex
    obtain ⟨i, hi40, hiA, hv, ⟨l, hl16, hl⟩, hB⟩ := hrel
    subst hv
    subst hl16
    have hll : l.length ≤ 32 := by rw [hl.out]; exact dlast_le k info i
    by_cases hc : 32 * (i + 1) ≤ A
    · by_cases hc40 : i + 1 ≤ 40
      · have g1 : 32 * ((i : Int) + 1) ≤ (A : Int) := by omega
        have g2 : (i : Int) + 1 ≤ 40 := by omega
        have g3 : 0 ≤ (i : Int) := by omega
        have le1 : ¬ 9223372036854775807 < l.length + info.length := by have := HI.out; omega
        have le2 : ¬ 9223372036854775807 < l.length + info.length + 1 := by have := HI.out; omega
        obtain ⟨x, ex⟩ : ∃ x : UInt8, x = (i + 1).toUInt8 := ⟨_, rfl⟩
        have hx : (i : Int) + 1 = (x.toNat : Int) := by rw [ex]; simp; omega
        have cv := fun W fr => run_convert_one x W fr
        simp only [← hx] at cv
        have EX := Lib.hid ex
        clear ex hx
        go_wp2_with fail
        have hB1 : Below wr.heap.size wr (wr.alloc (.cells #[.int .u8 ((i : Int) + 1)] 5)) := (Below.refl _ _).alloc (Nat.le_refl _) _
        obtain ⟨y, ey⟩ : ∃ y, y = hmac k (l ++ info ++ [x]) := ⟨_, rfl⟩
        have hm := H.out.2.2.2.2.2.2 (l ++ info ++ [x]) (wr.alloc (.cells #[.int .u8 ((i : Int) + 1)] 5)) (HG.out.below (hB.out.trans (hB1.mono hB.out.size))) (by have := HI.out; simp; omega)
        rw [← ey, ← str_app, ← str_app] at hm
        have ey2 : y = dlast k info (i + 1) := by rw [ey, hl.out, EX.out]; rfl
        have hsl := fun W => run_slice_str (P := Tryd.prog) Tryd.underlying9 s .i64 .i64 (32 * i) (32 * (i + 1)) (by omega) (by rw [LS.out]; exact hc) (32 * ((i : Int) + 1) - 32) (32 * ((i : Int) + 1)) (by omega) (by omega) W
        rw [show 32 * (i + 1) - 32 * i = 32 from by omega, ES.out, derive_piece k info A i hc, ← ey2, ← ES.out] at hsl
        have M := Lib.hid (And.intro ey2 (hB.out.trans (hB1.mono hB.out.size)))
        clear ey ey2 hB1 cv
        refine hm.mono ?_
        clear hm
        rintro e w4 ⟨rfl, hB4⟩
        have M2 := Lib.hid (M.out.2.trans (hB4.mono M.out.2.size))
        clear hB4
        go_wp2_with fail
        go_roundw
        case rel => exact ⟨i + 1, by omega, hc, by go_num, ⟨y, rfl, M.out.1⟩, M2.out⟩
        case measure => simp [intOf]; omega
      · have g1 : 32 * ((i : Int) + 1) ≤ (A : Int) := by omega
        have g2 : ¬ (i : Int) + 1 ≤ 40 := by omega
        go_wp2_with fail
        refine (H.out.2.2.2.2.1 _ (HG.out.below hB.out)).mono ?_
        rintro e1 w4 ⟨rfl, hB4⟩
        have M := Lib.hid (hB.out.trans (hB4.mono hB.out.size))
        clear hB4
        go_wp2_with fail
        refine (H.out.2.2.2.2.2.1 _ (HG.out.below M.out)).mono ?_
        rintro e1 w5 ⟨rfl, hB5⟩
        have M2 := Lib.hid (M.out.trans (hB5.mono M.out.size))
        clear hB5
        go_wp2_with fail
        go_ret
        exact ⟨rfl, M2.out⟩
    · have g1 : ¬ 32 * ((i : Int) + 1) ≤ (A : Int) := by omega
      go_wp2_with fail
      refine (H.out.2.2.2.2.1 _ (HG.out.below hB.out)).mono ?_
      rintro e1 w4 ⟨rfl, hB4⟩
      have M := Lib.hid (hB.out.trans (hB4.mono hB.out.size))
      clear hB4
      go_wp2_with fail
      refine (H.out.2.2.2.2.2.1 _ (HG.out.below M.out)).mono ?_
      rintro e1 w5 ⟨rfl, hB5⟩
      have M2 := Lib.hid (M.out.trans (hB5.mono M.out.size))
      clear hB5
      go_wp2_with fail
      go_ret
      exact ⟨rfl, M2.out⟩
end Go.Proofs.YticmnckkhbniaaaDoor
