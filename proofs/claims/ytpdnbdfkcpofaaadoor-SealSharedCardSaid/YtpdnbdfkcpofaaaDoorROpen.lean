/- strongboxref2.Open. -/
import Derived.Test.YtpdnbdfkcpofaaaDoorOpen
namespace Go.Proofs.YtpdnbdfkcpofaaaDoor
open Go.RowKit Sbx Go.Sort

theorem str_beq (a b : List UInt8) : ((⟨a.toArray⟩ : ByteArray) == ⟨b.toArray⟩) = (a == b) := by
  show (a.toArray == b.toArray) = (a == b)
  simp
theorem str_bne (a b : List UInt8) : ((⟨a.toArray⟩ : ByteArray) != ⟨b.toArray⟩) = (a != b) := by
  unfold bne; rw [str_beq]

set_option maxRecDepth 100000 in
set_option maxHeartbeats 1000000 in
theorem ropen_any (d k c : List UInt8) (w : World) (hd0 : d.length ≤ 140737488354000) (hk0 : k.length ≤ 140737488354000) (hc0 : c.length ≤ 140737488354000) :
    Calls Tryd.prog 25 #[.string ⟨d.toArray⟩, .string ⟨k.toArray⟩, .string ⟨c.toArray⟩] w fun e w' => e = .returned (.tuple #[.string ⟨(openS d k c).toArray⟩, .int .i64 (openE d k c)]) ∧ Below w.heap.size w w' := by
  rcases open_cases d k c with ⟨hd, he, hs⟩ | ⟨hd, hc, he, hs⟩ | hh
  · rw [he, hs]
    by_cases h1 : d.length = 32
    · have hk : k.length ≠ 32 := fun h => hd ⟨h1, h⟩
      have hn1 : ((d.length : Int) != 32) = false := by rw [bne_eq_false_iff_eq]; omega
      have hn2 : ((k.length : Int) != 32) = true := by rw [bne_iff_ne]; omega
      clear he hs hd h1 hk hd0 hk0 hc0
      go_enter Tryd.func25, Tryd.ntmps25
      go_wp2_with fail
      go_ret2
      exact ⟨rfl, Below.refl _ _⟩
    · have hn1 : ((d.length : Int) != 32) = true := by rw [bne_iff_ne]; omega
      clear he hs hd h1 hd0 hk0 hc0
      go_enter Tryd.func25, Tryd.ntmps25
      go_wp2_with fail
      go_ret2
      exact ⟨rfl, Below.refl _ _⟩
  · rw [he, hs]
    have hn1 : ((d.length : Int) != 32) = false := by rw [bne_eq_false_iff_eq]; omega
    have hn2 : ((k.length : Int) != 32) = false := by rw [bne_eq_false_iff_eq]; omega
    have hne : ((c.length : Int) != 256) = true := by rw [bne_iff_ne]; omega
    clear he hs hd hc hd0 hk0 hc0
    go_enter Tryd.func25, Tryd.ntmps25
    go_wp2_with fail
    go_ret2
    exact ⟨rfl, Below.refl _ _⟩
  · have h1 : (d.length = 32 ∧ k.length = 32) ∧ c.length = 256 := by rcases hh with ⟨a, b, _⟩ | ⟨a, b, _⟩ <;> exact ⟨a, b⟩
    obtain ⟨⟨hd, hk⟩, hc⟩ := h1
    have hn1 : ((d.length : Int) != 32) = false := by rw [bne_eq_false_iff_eq]; omega
    have hn2 : ((k.length : Int) != 32) = false := by rw [bne_eq_false_iff_eq]; omega
    have hne : ((c.length : Int) != 256) = false := by rw [bne_eq_false_iff_eq]; omega
    have c2 : ∀ W, _ := fun W => rpart_any k 0 256 W (by omega) (by omega) (by omega)
    obtain ⟨T, eT⟩ : ∃ T, T = stream k 0 256 := ⟨_, rfl⟩
    have lT : T.length = 256 := by rw [eT, stream_length]
    rw [← eT] at c2
    have c3 := fun W => rlaid_any c T W (by omega) (by omega)
    have x2 : xorS c T = openX k c := by rw [eT]; rfl
    rw [x2] at c3
    obtain ⟨X, eX⟩ : ∃ X, X = openX k c := ⟨_, rfl⟩
    have lX : X.length = 256 := by rw [eX]; unfold openX; rw [xorS_length, hc]
    rw [← eX] at c3 hh
    have c4 := fun W => rmac_any d X W (by omega) (by omega)
    obtain ⟨M, eM⟩ : ∃ M, M = hmac d X := ⟨_, rfl⟩
    rw [← eM] at c4 hh
    have H := Lib.hid (And.intro c2 (And.intro c3 c4))
    clear c2 c3 c4 eT lT x2 eX lX eM hd0 hk0 hc0
    rcases hh with ⟨_, _, h, he, hs⟩ | ⟨_, _, h, he, hs⟩
    · rw [he, hs]
      have hE : (M == k) = false := by simpa using h
      clear he hs h hd hk hc
      go_enter Tryd.func25, Tryd.ntmps25
      go_wp2_with fail
      refine (H.out.1 _).mono ?_
      rintro e w1 ⟨rfl, h1⟩
      have HB := Lib.hid h1
      clear h1
      go_wp2_with fail
      refine (H.out.2.1 w1).mono ?_
      rintro e w2 ⟨rfl, h1⟩
      have HB2 := Lib.hid (HB.out.trans (h1.mono HB.out.size))
      clear h1 HB
      go_wp2_with fail
      refine (H.out.2.2 w2).mono ?_
      rintro e w3 ⟨rfl, h1⟩
      have HB3 := Lib.hid (HB2.out.trans (h1.mono HB2.out.size))
      clear h1 HB2
      go_wp2_with fail
      go_ret2
      exact ⟨rfl, HB3.out⟩
    · rw [he, hs]
      have hE : (M == k) = true := by simpa using h
      clear he hs h hd hk hc
      go_enter Tryd.func25, Tryd.ntmps25
      go_wp2_with fail
      refine (H.out.1 _).mono ?_
      rintro e w1 ⟨rfl, h1⟩
      have HB := Lib.hid h1
      clear h1
      go_wp2_with fail
      refine (H.out.2.1 w1).mono ?_
      rintro e w2 ⟨rfl, h1⟩
      have HB2 := Lib.hid (HB.out.trans (h1.mono HB.out.size))
      clear h1 HB
      go_wp2_with fail
      refine (H.out.2.2 w2).mono ?_
      rintro e w3 ⟨rfl, h1⟩
      have HB3 := Lib.hid (HB2.out.trans (h1.mono HB2.out.size))
      clear h1 HB2
      go_wp2_with fail
      go_ret2
      exact ⟨rfl, HB3.out⟩
end Go.Proofs.YtpdnbdfkcpofaaaDoor
