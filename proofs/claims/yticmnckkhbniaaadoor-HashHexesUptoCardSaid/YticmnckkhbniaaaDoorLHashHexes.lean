/- strongboxlaw1.HashHexes: the walk. -/
import Derived.Test.YticmnckkhbniaaaDoorKnown1
import Derived.Test.YticmnckkhbniaaaDoorRHex
namespace Go.Proofs.YticmnckkhbniaaaDoor
open Go.RowKit Sbx Go.Sort

set_option maxRecDepth 100000 in
theorem hashhexes_any (s t : List UInt8) (w : World) (hG : Glob w) (hs : s.length ≤ 70368744000000) (ht : t.length ≤ 70368744000000) :
    Calls Tryd.prog 5 #[.string ⟨s.toArray⟩, .string ⟨t.toArray⟩] w fun e w' => e = .returned (.bool true) ∧ Below w.heap.size w w' := by
  obtain ⟨a, ea⟩ : ∃ a, a = hex s := ⟨_, rfl⟩
  have la : a.length = 2 * s.length := by rw [ea]; exact hex_length s
  have ca := fun W => hex_any s W hs
  have cr := fun W => rhex_any s W (by omega)
  have cb := fun W => unhex_any a W (by omega)
  have ct := fun W => unhex_any t W (by omega)
  have cu := fun W => runhex_any t W (by omega)
  rw [← ea] at ca cr
  rw [show unhex a = some s from by rw [ea]; exact unhex_hex s] at cb
  have HG := Lib.hid hG
  cases hu : unhex t with
  | none =>
    rw [hu] at ct cu
    have H := Lib.hid (And.intro ca (And.intro cr (And.intro cb (And.intro ct cu))))
    clear ca cr cb ct cu ea la hs ht hG hu
    go_enter Tryd.func5, Tryd.ntmps5
    go_wp2_with fail
    refine (known_any _ HG.out).mono ?_
    rintro e w1 ⟨rfl, hB⟩
    have HB1 := Lib.hid hB
    clear HG hB
    go_wp2_with fail
    refine (H.out.1 _).mono ?_
    rintro e w2 ⟨rfl, hB⟩
    have HB2 := Lib.hid (HB1.out.trans (hB.mono HB1.out.size))
    clear HB1 hB
    go_wp2_with fail
    refine (H.out.2.2.1 _).mono ?_
    rintro e w3 ⟨rfl, hB⟩
    have HB3 := Lib.hid (HB2.out.trans (hB.mono HB2.out.size))
    clear HB2 hB
    unfold unhexV
    go_wp2_with fail
    refine (H.out.2.2.2.1 _).mono ?_
    rintro e w4 ⟨rfl, hB⟩
    have HB4 := Lib.hid (HB3.out.trans (hB.mono HB3.out.size))
    clear HB3 hB
    unfold unhexV
    go_wp2_with fail
    refine (H.out.2.2.2.2 _).mono ?_
    rintro e w5 ⟨rfl, hB⟩
    have HB5 := Lib.hid (HB4.out.trans (hB.mono HB4.out.size))
    clear HB4 hB
    unfold unhexV
    go_wp2_with fail
    refine (H.out.2.1 _).mono ?_
    rintro e w6 ⟨rfl, hB⟩
    have HB6 := Lib.hid (HB5.out.trans (hB.mono HB5.out.size))
    clear HB5 hB
    go_wp2_with fail
    go_ret
    exact ⟨rfl, HB6.out⟩
  | some l =>
    have ll := unhex_even t l hu
    have cl := fun W => hex_any l W (by omega)
    rw [hex_unhex t l hu] at cl
    rw [hu] at ct cu
    have H := Lib.hid (And.intro ca (And.intro cr (And.intro cb (And.intro ct (And.intro cu cl)))))
    clear ca cr cb ct cu cl ea la hs ht hG hu ll
    go_enter Tryd.func5, Tryd.ntmps5
    go_wp2_with fail
    refine (known_any _ HG.out).mono ?_
    rintro e w1 ⟨rfl, hB⟩
    have HB1 := Lib.hid hB
    clear HG hB
    go_wp2_with fail
    refine (H.out.1 _).mono ?_
    rintro e w2 ⟨rfl, hB⟩
    have HB2 := Lib.hid (HB1.out.trans (hB.mono HB1.out.size))
    clear HB1 hB
    go_wp2_with fail
    refine (H.out.2.2.1 _).mono ?_
    rintro e w3 ⟨rfl, hB⟩
    have HB3 := Lib.hid (HB2.out.trans (hB.mono HB2.out.size))
    clear HB2 hB
    unfold unhexV
    go_wp2_with fail
    refine (H.out.2.2.2.1 _).mono ?_
    rintro e w4 ⟨rfl, hB⟩
    have HB4 := Lib.hid (HB3.out.trans (hB.mono HB3.out.size))
    clear HB3 hB
    unfold unhexV
    go_wp2_with fail
    refine (H.out.2.2.2.2.1 _).mono ?_
    rintro e w5 ⟨rfl, hB⟩
    have HB5 := Lib.hid (HB4.out.trans (hB.mono HB4.out.size))
    clear HB4 hB
    unfold unhexV
    go_wp2_with fail
    refine (H.out.2.2.2.2.2 _).mono ?_
    rintro e w6 ⟨rfl, hB⟩
    have HB6 := Lib.hid (HB5.out.trans (hB.mono HB5.out.size))
    clear HB5 hB
    go_wp2_with fail
    refine (H.out.2.1 _).mono ?_
    rintro e w7 ⟨rfl, hB⟩
    have HB7 := Lib.hid (HB6.out.trans (hB.mono HB6.out.size))
    clear HB6 hB
    go_wp2_with fail
    go_ret
    exact ⟨rfl, HB7.out⟩
end Go.Proofs.YticmnckkhbniaaaDoor
