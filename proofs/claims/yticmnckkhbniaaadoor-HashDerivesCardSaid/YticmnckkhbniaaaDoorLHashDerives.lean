/- strongboxlaw1.HashDerives: the walk. -/
import Derived.Test.YticmnckkhbniaaaDoorKnown1
import Derived.Test.YticmnckkhbniaaaDoorRDerive
namespace Go.Proofs.YticmnckkhbniaaaDoor
open Go.RowKit Sbx Go.Sort

theorem deriveV_form (k info : List UInt8) (n : Int) : ∃ (s : List UInt8) (e : Int), deriveV k info n = .tuple #[.string ⟨s.toArray⟩, .int .i64 e] := by
  unfold deriveV
  split
  · exact ⟨[], 1, rfl⟩
  · split
    · exact ⟨[], 10, rfl⟩
    · exact ⟨_, 0, rfl⟩
set_option maxRecDepth 100000 in
theorem hashderives_any (k info : List UInt8) (n : Int) (w : World) (hG : Glob w) (hk : k.length ≤ 140737488353000) (hi : info.length ≤ 140737488353000) :
    Calls Tryd.prog 9 #[.string ⟨k.toArray⟩, .string ⟨info.toArray⟩, .int .i64 n] w fun e w' => e = .returned (.bool true) ∧ Below w.heap.size w w' := by
  have cd := fun W (h : Glob W) => derive_any k info n W h (by omega) (by omega)
  have cr := fun W => rderive_any k info n W (by omega) (by omega)
  obtain ⟨s, e, hse⟩ := deriveV_form k info n
  rw [hse] at cd cr
  have H := Lib.hid (And.intro cd cr)
  have HG := Lib.hid hG
  clear cd cr hse hG hk hi
  go_enter Tryd.func9, Tryd.ntmps9
  go_wp2_with fail
  refine (known_any _ HG.out).mono ?_
  rintro e1 w1 ⟨rfl, hB⟩
  have hG1 := Lib.hid (HG.out.below hB)
  have HB1 := Lib.hid hB
  clear HG hB
  go_wp2_with fail
  refine (H.out.1 _ hG1.out).mono ?_
  rintro e1 w2 ⟨rfl, hB⟩
  have HB2 := Lib.hid (HB1.out.trans (hB.mono HB1.out.size))
  clear HB1 hG1 hB
  go_wp2_with fail
  refine (H.out.2 _).mono ?_
  rintro e1 w3 ⟨rfl, hB⟩
  have HB3 := Lib.hid (HB2.out.trans (hB.mono HB2.out.size))
  clear HB2 hB
  go_wp2_with fail
  go_ret
  exact ⟨rfl, HB3.out⟩
end Go.Proofs.YticmnckkhbniaaaDoor
