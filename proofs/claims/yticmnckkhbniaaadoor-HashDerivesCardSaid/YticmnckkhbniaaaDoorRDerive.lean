/- strongboxref1.Derive. -/
import Derived.Test.YticmnckkhbniaaaDoorWDerive
import Derived.Test.YticmnckkhbniaaaDoorRMac
namespace Go.Proofs.YticmnckkhbniaaaDoor
open Go.RowKit Sbx Go.Sort

set_option maxRecDepth 100000 in
set_option maxHeartbeats 1000000 in
theorem rderive_any (k info : List UInt8) (n : Int) (w : World) (hk : k.length ≤ 140737488354000) (hi : info.length ≤ 140737488353800) :
    Calls Tryd.prog 29 #[.string ⟨k.toArray⟩, .string ⟨info.toArray⟩, .int .i64 n] w fun e w' => e = .returned (deriveV k info n) ∧ Below w.heap.size w w' := by
  by_cases h0 : n < 0
  · have e : deriveV k info n = .tuple #[.string ⟨#[]⟩, .int .i64 1] := by unfold deriveV; rw [if_pos h0]
    rw [e]
    clear e
    go_enter Tryd.func29, Tryd.ntmps29
    go_wp2_with fail
    go_ret2
    exact ⟨rfl, Below.refl _ _⟩
  by_cases h1 : 8160 < n
  · have e : deriveV k info n = .tuple #[.string ⟨#[]⟩, .int .i64 10] := by unfold deriveV; rw [if_neg h0, if_pos h1]
    rw [e]
    clear e
    go_enter Tryd.func29, Tryd.ntmps29
    go_wp2_with fail
    go_ret2
    exact ⟨rfl, Below.refl _ _⟩
  obtain ⟨N, rfl⟩ : ∃ N : Nat, n = N := ⟨n.toNat, by omega⟩
  have hN : N ≤ 8160 := by omega
  have e : deriveV k info (N : Int) = .tuple #[.string ⟨(derive k info N).toArray⟩, .int .i64 0] := by unfold deriveV; rw [if_neg h0, if_neg h1]; rfl
  rw [e]
  obtain ⟨r, er⟩ : ∃ r, r = derive k info N := ⟨_, rfl⟩
  rw [← er]
  have ER := Lib.hid er
  have HK := Lib.hid hk
  have HI := Lib.hid hi
  clear e er h0 h1 hk hi
  have n0 : ¬ (N : Int) < 0 := by omega
  have n1 : ¬ (8160 : Int) < (N : Int) := by omega
  go_enter Tryd.func29, Tryd.ntmps29
  go_wp2_with fail
  go_loopg [8, 9, 10] ((N + 31) / 32) (fun kq v8 v9 v10 wr => ∃ i : Nat, Hid (i + kq = (N + 31) / 32) ∧ (∃ d, v8 = .string ⟨d.toArray⟩ ∧ Hid (d = dout k info i)) ∧ (∃ l, v9 = .string ⟨l.toArray⟩ ∧ Hid (l = dlast k info i)) ∧ (v10 = .int .i64 ((i : Int) + 1) ∧ i ≤ 255) ∧ Hid (Below w.heap.size w wr))
  case atStart => exact ⟨0, Nat.zero_add _, ⟨[], rfl, rfl⟩, ⟨[], rfl, rfl⟩, ⟨rfl, by omega⟩, Below.refl _ _⟩
  case round =>
    obtain ⟨i, hk, ⟨d, hd8, hd⟩, ⟨l, hl9, hl⟩, ⟨hx10, hi255⟩, hB⟩ := hrel
    subst hd8
    subst hl9
    subst hx10
    have hdl : d.length = 32 * i := by rw [hd.out]; exact dout_length k info i
    have E := Lib.hid hdl
    cases gk with
    | succ kq =>
      have hlt : (d.length : Int) < (N : Int) := by have h1 := hk.out; omega
      clear hdl
      obtain ⟨x, ex⟩ : ∃ x : UInt8, x = (i + 1).toUInt8 := ⟨_, rfl⟩
      have hi254 : i + 1 ≤ 255 := by have h1 := hk.out; omega
      have hx : (i : Int) + 1 = (x.toNat : Int) := by rw [ex]; simp; omega
      have hll : l.length ≤ 32 := by rw [hl.out]; exact dlast_le k info i
      have le1 : ¬ 9223372036854775807 < l.length + info.length := by have := HI.out; omega
      have le2 : ¬ 9223372036854775807 < l.length + info.length + 1 := by have := HI.out; omega
      have le3 : ¬ 9223372036854775807 < d.length + 32 := by omega
      have cv := fun W fr => run_convert_one x W fr
      simp only [← hx] at cv
      have EX := Lib.hid ex
      clear ex hx
      go_wp2_with fail
      have hB1 : Below wr.heap.size wr (wr.alloc (.cells #[.int .u8 ((i : Int) + 1)] 5)) := (Below.refl _ _).alloc (Nat.le_refl _) _
      obtain ⟨m, em⟩ : ∃ m, m = hmac k (l ++ info ++ [x]) := ⟨_, rfl⟩
      have hm := rmac_any k (l ++ info ++ [x]) (wr.alloc (.cells #[.int .u8 ((i : Int) + 1)] 5)) HK.out (by have := HI.out; simp; omega)
      rw [← em, ← str_app, ← str_app] at hm
      have em2 : m = dlast k info (i + 1) := by rw [em, hl.out, EX.out]; rfl
      have hml : m.length = 32 := by rw [em]; exact hmac_length _ _
      have M := Lib.hid (And.intro em2 (hB.out.trans (hB1.mono hB.out.size)))
      have le4 : ¬ 9223372036854775807 < d.length + m.length := by omega
      clear em em2 hB1 hml cv le3
      refine hm.mono ?_
      clear hm
      rintro e w2 ⟨rfl, hB2⟩
      have M2 := Lib.hid (M.out.2.trans (hB2.mono M.out.2.size))
      clear hB2
      have hq := str_app d m
      go_wp2_with fail
      go_roundg kq
      case measure => omega
      case rel =>
        refine ⟨i + 1, by have := hk.out; show i + 1 + kq = _; omega, ⟨d ++ m, rfl, show d ++ m = dout k info (i + 1) from by rw [dout, ← hd.out, ← M.out.1]⟩, ⟨m, rfl, M.out.1⟩, ⟨by go_num, by omega⟩, M2.out⟩
    | zero =>
      have hge : ¬ (d.length : Int) < (N : Int) := by have h1 := hk.out; omega
      have hfin : d.take N = r := by
        rw [ER.out, hd.out, show i = (N + 31) / 32 from hk.out]; rfl
      have hNd : N ≤ d.length := by have h1 := hk.out; omega
      have ex : (⟨d.toArray⟩ : ByteArray).extract 0 N = ⟨r.toArray⟩ := by rw [str_extract, List.drop_zero, Nat.sub_zero, hfin]
      clear hfin hdl
      go_wp2_with fail
      go_ret2
      exact ⟨rfl, hB.out⟩
end Go.Proofs.YticmnckkhbniaaaDoor
