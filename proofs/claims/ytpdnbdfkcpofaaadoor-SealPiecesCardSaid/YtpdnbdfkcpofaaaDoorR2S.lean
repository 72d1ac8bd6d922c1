/- strongboxref2: Stream, Xor. -/
import Derived.Test.YtpdnbdfkcpofaaaDoorR2
namespace Go.Proofs.YtpdnbdfkcpofaaaDoor
open Go.RowKit Sbx Go.Sort

theorem withinV_cases (key : List UInt8) (f n : Int) : (key.length ≠ 32 ∧ withinV key f n = 20) ∨ (key.length = 32 ∧ inS f n = false ∧ withinV key f n = 21) ∨ (key.length = 32 ∧ inS f n = true ∧ withinV key f n = 0) := by
  by_cases hk : key.length = 32
  · by_cases hi : 0 ≤ f ∧ 0 ≤ n ∧ f ≤ 65536 ∧ n ≤ 65536 - f
    · exact .inr (.inr ⟨hk, by unfold inS; rw [decide_eq_true_iff]; exact hi, withinV_ok.2 (by omega)⟩)
    · refine .inr (.inl ⟨hk, by unfold inS; rw [decide_eq_false_iff_not]; exact hi, ?_⟩)
      unfold withinV; rw [if_neg (by simpa using hk), if_pos (by omega)]
  · exact .inl ⟨hk, by unfold withinV; rw [if_pos hk]⟩

set_option maxRecDepth 100000 in
theorem rstream_any (key : List UInt8) (f n : Int) (w : World) :
    Calls Tryd.prog 13 #[.string ⟨key.toArray⟩, .int .i64 f, .int .i64 n] w fun e w' => e = .returned (.tuple #[.string ⟨(streamV key f n).toArray⟩, .int .i64 (withinV key f n)]) ∧ Below w.heap.size w w' := by
  rcases withinV_cases key f n with ⟨hk, hv⟩ | ⟨hk, hi, hv⟩ | ⟨hk, hi, hv⟩
  · have hs : streamV key f n = [] := by unfold streamV; rw [if_neg (by omega)]
    rw [hs, hv]
    have hne : ((key.length : Int) != 32) = true := by rw [bne_iff_ne]; omega
    clear hs hv hk
    go_enter Tryd.func13, Tryd.ntmps13
    go_wp2_with fail
    go_ret2
    exact ⟨rfl, Below.refl _ _⟩
  · have hs : streamV key f n = [] := by unfold streamV; rw [if_neg (by omega)]
    rw [hs, hv]
    have hne : ((key.length : Int) != 32) = false := by rw [bne_eq_false_iff_eq]; omega
    have hw := rwithin_any f n w
    rw [hi] at hw
    have HW := Lib.hid hw
    clear hs hv hk hi hw
    go_enter Tryd.func13, Tryd.ntmps13
    go_wp2_with fail
    refine HW.out.mono ?_
    rintro e w1 ⟨rfl, rfl⟩
    go_wp2_with fail
    go_ret2
    exact ⟨rfl, Below.refl _ _⟩
  · obtain ⟨_, p0, p1, p2, p3⟩ := withinV_ok.1 hv
    have hs : streamV key f n = stream key f.toNat n.toNat := by unfold streamV; rw [if_pos hv]
    rw [hs, hv]
    obtain ⟨i, rfl⟩ : ∃ i : Nat, f = (i : Int) := ⟨f.toNat, by omega⟩
    obtain ⟨m, rfl⟩ : ∃ m : Nat, n = (m : Int) := ⟨n.toNat, by omega⟩
    rw [Int.toNat_natCast, Int.toNat_natCast]
    have hne : ((key.length : Int) != 32) = false := by rw [bne_eq_false_iff_eq]; omega
    have hw := rwithin_any (i : Int) (m : Int) w
    rw [hi] at hw
    have hp := rpart_any key i m w (by omega) (by omega) (by omega)
    have HW := Lib.hid (And.intro hw hp)
    clear hs hv hk hi hw hp p0 p1 p2 p3
    go_enter Tryd.func13, Tryd.ntmps13
    go_wp2_with fail
    refine HW.out.1.mono ?_
    rintro e w1 ⟨rfl, rfl⟩
    go_wp2_with fail
    refine HW.out.2.mono ?_
    rintro e w2 ⟨rfl, hB⟩
    clear HW
    have HB := Lib.hid hB
    clear hB
    go_wp2_with fail
    go_ret2
    exact ⟨rfl, HB.out⟩

set_option maxRecDepth 100000 in
theorem rxor_any (key : List UInt8) (f : Int) (s : List UInt8) (w : World) (n1 : s.length ≤ 9223372036854775807) :
    Calls Tryd.prog 15 #[.string ⟨key.toArray⟩, .int .i64 f, .string ⟨s.toArray⟩] w fun e w' => e = .returned (.tuple #[.string ⟨(xorV key f s).toArray⟩, .int .i64 (withinV key f s.length)]) ∧ Below w.heap.size w w' := by
  have hs := rstream_any key f (s.length : Int) w
  obtain ⟨e, ee⟩ : ∃ e, e = withinV key f (s.length : Int) := ⟨_, rfl⟩
  rw [← ee] at hs ⊢
  obtain ⟨t, et⟩ : ∃ t, t = streamV key f (s.length : Int) := ⟨_, rfl⟩
  rw [← et] at hs
  by_cases h0 : withinV key f (s.length : Int) = 0
  · have hx : xorV key f s = xorS s (stream key f.toNat s.length) := by unfold xorV; rw [if_pos h0]
    rw [hx]
    obtain ⟨h32, p0, p1, p2, p3⟩ := withinV_ok.1 h0
    obtain rfl : e = 0 := by rw [ee, h0]
    have et' : t = stream key f.toNat s.length := by rw [et]; unfold streamV; rw [if_pos h0, Int.toNat_natCast]
    have lt : t.length = s.length := by rw [et', stream_length]
    rw [← et']
    have hl := fun W => rlaid_any s t W (by omega) lt
    have H := Lib.hid (And.intro hs hl)
    clear hs hx h32 p0 p1 p2 p3 h0 ee et et' lt hl
    go_enter Tryd.func15, Tryd.ntmps15
    go_wp2_with fail
    refine H.out.1.mono ?_
    rintro e w1 ⟨rfl, hB1⟩
    have HB1 := Lib.hid hB1
    clear hB1
    go_wp2_with fail
    refine (H.out.2 w1).mono ?_
    rintro e w2 ⟨rfl, hB2⟩
    have HB2 := Lib.hid (HB1.out.trans (hB2.mono HB1.out.size))
    clear hB2 H
    go_wp2_with fail
    go_ret2
    exact ⟨rfl, HB2.out⟩
  · have hx : xorV key f s = [] := by unfold xorV; rw [if_neg h0]
    rw [hx]
    have he : (e != 0) = true := by rw [bne_iff_ne, ee]; exact h0
    have H := Lib.hid hs
    clear hs hx h0 ee et
    go_enter Tryd.func15, Tryd.ntmps15
    go_wp2_with fail
    refine H.out.mono ?_
    rintro e w1 ⟨rfl, hB1⟩
    have HB1 := Lib.hid hB1
    clear hB1 H
    go_wp2_with fail
    go_ret2
    exact ⟨rfl, HB1.out⟩
end Go.Proofs.YtpdnbdfkcpofaaaDoor
