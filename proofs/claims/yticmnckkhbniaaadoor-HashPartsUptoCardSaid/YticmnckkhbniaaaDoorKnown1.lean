/- strongboxlaw1.known: the document's examples, by the kernel's own reckoning; the walk. -/
import Derived.Test.YticmnckkhbniaaaDoorWUnhex
namespace Sbx
set_option maxRecDepth 1000000
set_option maxHeartbeats 4000000
theorem known_sum : (hex (sha [97, 98, 99]) == [98, 97, 55, 56, 49, 54, 98, 102, 56, 102, 48, 49, 99, 102, 101, 97, 52, 49, 52, 49, 52, 48, 100, 101, 53, 100, 97, 101, 50, 50, 50, 51, 98, 48, 48, 51, 54, 49, 97, 51, 57, 54, 49, 55, 55, 97, 57, 99, 98, 52, 49, 48, 102, 102, 54, 49, 102, 50, 48, 48, 49, 53, 97, 100]) = true := by decide +kernel
theorem known_mac : (hex (hmac [74, 101, 102, 101] [119, 104, 97, 116, 32, 100, 111, 32, 121, 97, 32, 119, 97, 110, 116, 32, 102, 111, 114, 32, 110, 111, 116, 104, 105, 110, 103, 63]) == [53, 98, 100, 99, 99, 49, 52, 54, 98, 102, 54, 48, 55, 53, 52, 101, 54, 97, 48, 52, 50, 52, 50, 54, 48, 56, 57, 53, 55, 53, 99, 55, 53, 97, 48, 48, 51, 102, 48, 56, 57, 100, 50, 55, 51, 57, 56, 51, 57, 100, 101, 99, 53, 56, 98, 57, 54, 52, 101, 99, 51, 56, 52, 51]) = true := by decide +kernel
theorem known_hex : (unhex [48, 97] == some [10]) = true := by decide +kernel
end Sbx
namespace Go.Proofs.YticmnckkhbniaaaDoor
open Go.RowKit Sbx Go.Sort

set_option maxRecDepth 100000 in
theorem known_any (w : World) (hG : Glob w) :
    Calls Tryd.prog 14 #[] w fun e w' => e = .returned (.bool true) ∧ Below w.heap.size w w' := by
  obtain ⟨u, eu⟩ : ∃ u, u = sha [97, 98, 99] := ⟨_, rfl⟩
  obtain ⟨v, ev⟩ : ∃ u, u = hmac [74, 101, 102, 101] [119, 104, 97, 116, 32, 100, 111, 32, 121, 97, 32, 119, 97, 110, 116, 32, 102, 111, 114, 32, 110, 111, 116, 104, 105, 110, 103, 63] := ⟨_, rfl⟩
  have hu : u.length = 32 := by rw [eu]; exact sha_length _
  have hv : v.length = 32 := by rw [ev]; exact hmac_length _ _
  have c1 := fun W (h : Glob W) => sum_any [97, 98, 99] W h (by simp)
  have c2 := fun W => hex_any u W (by omega)
  have c3 := fun W (h : Glob W) => mac_any [74, 101, 102, 101] [119, 104, 97, 116, 32, 100, 111, 32, 121, 97, 32, 119, 97, 110, 116, 32, 102, 111, 114, 32, 110, 111, 116, 104, 105, 110, 103, 63] W h (by simp) (by simp)
  have c4 := fun W => hex_any v W (by omega)
  have c5 := fun W => unhex_any [48, 97] W (by simp)
  rw [← eu] at c1
  rw [← ev] at c3
  rw [show hex u = [98, 97, 55, 56, 49, 54, 98, 102, 56, 102, 48, 49, 99, 102, 101, 97, 52, 49, 52, 49, 52, 48, 100, 101, 53, 100, 97, 101, 50, 50, 50, 51, 98, 48, 48, 51, 54, 49, 97, 51, 57, 54, 49, 55, 55, 97, 57, 99, 98, 52, 49, 48, 102, 102, 54, 49, 102, 50, 48, 48, 49, 53, 97, 100] from by rw [eu]; exact eq_of_beq known_sum] at c2
  rw [show hex v = [53, 98, 100, 99, 99, 49, 52, 54, 98, 102, 54, 48, 55, 53, 52, 101, 54, 97, 48, 52, 50, 52, 50, 54, 48, 56, 57, 53, 55, 53, 99, 55, 53, 97, 48, 48, 51, 102, 48, 56, 57, 100, 50, 55, 51, 57, 56, 51, 57, 100, 101, 99, 53, 56, 98, 57, 54, 52, 101, 99, 51, 56, 52, 51] from by rw [ev]; exact eq_of_beq known_mac] at c4
  rw [show unhex [48, 97] = some [10] from eq_of_beq known_hex] at c5
  have H := Lib.hid (And.intro c1 (And.intro c2 (And.intro c3 (And.intro c4 c5))))
  have HG := Lib.hid hG
  clear c1 c2 c3 c4 c5 eu ev hu hv hG
  go_enter Tryd.func14, Tryd.ntmps14
  go_wp2_with fail
  refine (H.out.1 _ HG.out).mono ?_
  rintro e w1 ⟨rfl, hB1⟩
  have hG1 := Lib.hid (HG.out.below hB1)
  have HB1 := Lib.hid hB1
  clear HG hB1
  go_wp2_with fail
  refine (H.out.2.1 _).mono ?_
  rintro e w2 ⟨rfl, hB2⟩
  have hG2 := Lib.hid (hG1.out.below hB2)
  have HB2 := Lib.hid (HB1.out.trans (hB2.mono HB1.out.size))
  clear hG1 HB1 hB2
  go_wp2_with fail
  refine (H.out.2.2.1 _ hG2.out).mono ?_
  rintro e w3 ⟨rfl, hB3⟩
  have HB3 := Lib.hid (HB2.out.trans (hB3.mono HB2.out.size))
  clear hG2 HB2 hB3
  go_wp2_with fail
  refine (H.out.2.2.2.1 _).mono ?_
  rintro e w4 ⟨rfl, hB4⟩
  have HB4 := Lib.hid (HB3.out.trans (hB4.mono HB3.out.size))
  clear HB3 hB4
  go_wp2_with fail
  refine (H.out.2.2.2.2 _).mono ?_
  rintro e w5 ⟨rfl, hB5⟩
  have HB5 := Lib.hid (HB4.out.trans (hB5.mono HB4.out.size))
  clear HB4 hB5
  unfold unhexV
  go_wp2_with fail
  go_ret
  exact ⟨rfl, HB5.out⟩
end Go.Proofs.YticmnckkhbniaaaDoor
