/- strongboxlaw2.SealStreams, SealXors: the walks. -/
import Derived.Test.YtpdnbdfkcpofaaaDoorAwake2
namespace Go.Proofs.YtpdnbdfkcpofaaaDoor
open Go.RowKit Sbx Go.Sort

set_option maxRecDepth 100000 in
theorem sealstreams_any (key : List UInt8) (f n : Int) (w : World) (hG : Glob w) (hkey : key.length ≤ 1152921504606840000) (f0 : -9223372036854775808 ≤ f) (f1 : f ≤ 9223372036854775807) (n0 : -9223372036854775808 ≤ n) (n1 : n ≤ 9223372036854775807) :
    Calls Tryd.prog 3 #[.string ⟨key.toArray⟩, .int .i64 f, .int .i64 n] w fun e w' => e = .returned (.bool true) ∧ Below w.heap.size w w' := by
  have c1 := fun W (h : Glob W) => stream_any key f n W h hkey f0 f1 n0 n1
  have c2 := fun W => rstream_any key f n W
  obtain ⟨S, eS⟩ : ∃ S, S = streamV key f n := ⟨_, rfl⟩
  obtain ⟨e, ee⟩ : ∃ e, e = withinV key f n := ⟨_, rfl⟩
  rw [← eS, ← ee] at c1 c2
  have H := Lib.hid (And.intro c1 c2)
  have HG := Lib.hid hG
  clear c1 c2 eS ee hG hkey f0 f1 n0 n1
  go_enter Tryd.func3, Tryd.ntmps3
  go_wp2_with fail
  refine (awake_any _ HG.out).mono ?_
  rintro x w1 ⟨rfl, hB1⟩
  have HG1 := Lib.hid (HG.out.below hB1)
  have HB1 := Lib.hid hB1
  clear HG hB1
  go_wp2_with fail
  refine (H.out.1 _ HG1.out).mono ?_
  rintro x w2 ⟨rfl, hB2⟩
  have HB2 := Lib.hid (HB1.out.trans (hB2.mono HB1.out.size))
  clear HG1 HB1 hB2
  go_wp2_with fail
  refine (H.out.2 _).mono ?_
  rintro x w3 ⟨rfl, hB3⟩
  have HB3 := Lib.hid (HB2.out.trans (hB3.mono HB2.out.size))
  clear H HB2 hB3
  go_wp2_with fail
  go_ret
  exact ⟨rfl, HB3.out⟩

set_option maxRecDepth 100000 in
theorem sealxors_any (key : List UInt8) (f : Int) (s : List UInt8) (w : World) (hG : Glob w) (hkey : key.length ≤ 1152921504606840000) (f0 : -9223372036854775808 ≤ f) (f1 : f ≤ 9223372036854775807) (n1 : s.length ≤ 9223372036854775807) :
    Calls Tryd.prog 4 #[.string ⟨key.toArray⟩, .int .i64 f, .string ⟨s.toArray⟩] w fun e w' => e = .returned (.bool true) ∧ Below w.heap.size w w' := by
  have c1 := fun W (h : Glob W) => xor_any key f s W h hkey f0 f1 n1
  have c2 := fun W => rxor_any key f s W n1
  obtain ⟨S, eS⟩ : ∃ S, S = xorV key f s := ⟨_, rfl⟩
  obtain ⟨e, ee⟩ : ∃ e, e = withinV key f s.length := ⟨_, rfl⟩
  rw [← eS, ← ee] at c1 c2
  have H := Lib.hid (And.intro c1 c2)
  have HG := Lib.hid hG
  clear c1 c2 eS ee hG hkey f0 f1 n1
  go_enter Tryd.func4, Tryd.ntmps4
  go_wp2_with fail
  refine (awake_any _ HG.out).mono ?_
  rintro x w1 ⟨rfl, hB1⟩
  have HG1 := Lib.hid (HG.out.below hB1)
  have HB1 := Lib.hid hB1
  clear HG hB1
  go_wp2_with fail
  refine (H.out.1 _ HG1.out).mono ?_
  rintro x w2 ⟨rfl, hB2⟩
  have HB2 := Lib.hid (HB1.out.trans (hB2.mono HB1.out.size))
  clear HG1 HB1 hB2
  go_wp2_with fail
  refine (H.out.2 _).mono ?_
  rintro x w3 ⟨rfl, hB3⟩
  have HB3 := Lib.hid (HB2.out.trans (hB3.mono HB2.out.size))
  clear H HB2 hB3
  go_wp2_with fail
  go_ret
  exact ⟨rfl, HB3.out⟩
end Go.Proofs.YtpdnbdfkcpofaaaDoor
