/- strongboxlaw1.HashSums: the walk. -/
import Derived.Test.YticmnckkhbniaaaDoorRMade
namespace Go.Proofs.YticmnckkhbniaaaDoor
open Go.RowKit Sbx Go.Sort

set_option maxRecDepth 100000 in
theorem hashsums_any (t : List UInt8) (w : World) (hG : Glob w) (hlen : t.length ≤ 140737488354000) :
    Calls Tryd.prog 3 #[.string ⟨t.toArray⟩] w fun e w' => e = .returned (.bool true) ∧ Below w.heap.size w w' := by
  have HG := Lib.hid hG
  have HL := Lib.hid hlen
  clear hG hlen
  obtain ⟨u, eu⟩ : ∃ u : List UInt8, u = sha t := ⟨_, rfl⟩
  have hu : u.length = 32 := by rw [eu]; exact sha_length t
  go_enter Tryd.func3, Tryd.ntmps3
  have HU := Lib.hid eu
  have hsz : (⟨u.toArray⟩ : ByteArray).size = 32 := by rw [← hu]; rfl
  clear eu
  go_wp2_with fail
  refine (made_any _).mono ?_
  rintro e w1 ⟨rfl, hB1⟩
  have hG1 := HG.out.below hB1
  go_wp2_with fail
  have s1 := sum_any t w1 hG1 (by have := HL.out; omega)
  rw [← HU.out] at s1
  refine s1.mono ?_
  clear s1
  rintro e w2 ⟨rfl, hB2⟩
  have hG2 := hG1.below hB2
  go_wp2_with fail
  have s2 := rsum_any t w2 HL.out
  rw [← HU.out] at s2
  refine s2.mono ?_
  clear s2
  rintro e w3 ⟨rfl, hB3⟩
  have hG3 := hG2.below hB3
  go_wp2_with fail
  have s3 := sum_any t w3 hG3 (by have := HL.out; omega)
  rw [← HU.out] at s3
  refine s3.mono ?_
  clear s3
  rintro e w4 ⟨rfl, hB4⟩
  have h1 := hB1.size
  have h2 := hB2.size
  have h3 := hB3.size
  have hB := ((hB1.trans (hB2.mono h1)).trans (hB3.mono (by omega))).trans (hB4.mono (by omega))
  clear hB1 hB2 hB3 hB4 hG1 hG2 hG3
  go_wp2_with fail
  go_ret
  exact ⟨rfl, hB⟩
end Go.Proofs.YticmnckkhbniaaaDoor
