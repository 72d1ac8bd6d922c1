/- seal.Open, strongboxref2.Open. -/
import Derived.Test.YtpdnbdfkcpofaaaDoorSeal1
import Derived.Test.YtpdnbdfkcpofaaaDoorWSame
namespace Go.Proofs.YtpdnbdfkcpofaaaDoor
open Go.RowKit Sbx Go.Sort

/-- what a chunk comes to under a key -/
def openX (k c : List UInt8) : List UInt8 := xorS c (stream k 0 256)
def openE (d k c : List UInt8) : Int := if ¬ (d.length = 32 ∧ k.length = 32) then 20 else if c.length ≠ 256 then 23 else if hmac d (openX k c) ≠ k then 22 else 0
def openS (d k c : List UInt8) : List UInt8 := if openE d k c = 0 then openX k c else []
theorem open_cases (d k c : List UInt8) :
    (¬ (d.length = 32 ∧ k.length = 32) ∧ openE d k c = 20 ∧ openS d k c = []) ∨ ((d.length = 32 ∧ k.length = 32) ∧ c.length ≠ 256 ∧ openE d k c = 23 ∧ openS d k c = []) ∨
    ((d.length = 32 ∧ k.length = 32) ∧ c.length = 256 ∧ hmac d (openX k c) ≠ k ∧ openE d k c = 22 ∧ openS d k c = []) ∨ ((d.length = 32 ∧ k.length = 32) ∧ c.length = 256 ∧ hmac d (openX k c) = k ∧ openE d k c = 0 ∧ openS d k c = openX k c) := by
  by_cases h1 : d.length = 32 ∧ k.length = 32
  · by_cases h2 : c.length = 256
    · by_cases h3 : hmac d (openX k c) = k
      · have : openE d k c = 0 := by unfold openE; rw [if_neg (by simpa using h1), if_neg (by simpa using h2), if_neg (by simpa using h3)]
        exact .inr (.inr (.inr ⟨h1, h2, h3, this, by unfold openS; rw [if_pos this]⟩))
      · have : openE d k c = 22 := by unfold openE; rw [if_neg (by simpa using h1), if_neg (by simpa using h2), if_pos h3]
        exact .inr (.inr (.inl ⟨h1, h2, h3, this, by unfold openS; rw [if_neg (by omega)]⟩))
    · have : openE d k c = 23 := by unfold openE; rw [if_neg (by simpa using h1), if_pos h2]
      exact .inr (.inl ⟨h1, h2, this, by unfold openS; rw [if_neg (by omega)]⟩)
  · have : openE d k c = 20 := by unfold openE; rw [if_pos h1]
    exact .inl ⟨h1, this, by unfold openS; rw [if_neg (by omega)]⟩

set_option maxRecDepth 100000 in
set_option maxHeartbeats 1000000 in
theorem open_any (d k c : List UInt8) (w : World) (hG : Glob w) :
    Calls Tryd.prog 24 #[.string ⟨d.toArray⟩, .string ⟨k.toArray⟩, .string ⟨c.toArray⟩] w fun e w' => e = .returned (.tuple #[.string ⟨(openS d k c).toArray⟩, .int .i64 (openE d k c)]) ∧ Below w.heap.size w w' := by
  have HS := St.start hG
  rcases open_cases d k c with ⟨hd, he, hs⟩ | ⟨hd, hc, he, hs⟩ | hh
  · rw [he, hs]
    have HD := Lib.hid (show decide (d.length = 32 ∧ k.length = 32) = false by simpa using hd)
    clear he hs hd hG
    go_enter Tryd.func24, Tryd.ntmps24
    go_wp2_with (go_at_call 37; refine (St.still (St.alloc HS _) (keys_two d k _ _ (by simp) (by simp))).mono ?_; clear HS; rintro e w' ⟨rfl, HS⟩; rw [HD.out])
    go_ret2
    exact ⟨rfl, HS.out.2⟩
  · rw [he, hs]
    have HD := Lib.hid (show decide (d.length = 32 ∧ k.length = 32) = true by simpa using hd)
    have hne : ((c.length : Int) != 256) = true := by rw [bne_iff_ne]; omega
    clear he hs hd hc hG
    go_enter Tryd.func24, Tryd.ntmps24
    go_wp2_with (go_at_call 37; refine (St.still (St.alloc HS _) (keys_two d k _ _ (by simp) (by simp))).mono ?_; clear HS; rintro e w' ⟨rfl, HS⟩; rw [HD.out])
    go_ret2
    exact ⟨rfl, HS.out.2⟩
  · have h1 : (d.length = 32 ∧ k.length = 32) ∧ c.length = 256 := by rcases hh with ⟨a, b, _⟩ | ⟨a, b, _⟩ <;> exact ⟨a, b⟩
    obtain ⟨⟨hd, hk⟩, hc⟩ := h1
    have HD := Lib.hid (show decide (d.length = 32 ∧ k.length = 32) = true by simp [hd, hk])
    have hne : ((c.length : Int) != 256) = false := by rw [bne_eq_false_iff_eq]; omega
    have wi : withinV k 0 (c.length : Int) = 0 := withinV_ok.2 (by omega)
    have c2 := fun W (h : Glob W) => xor_any k 0 c W h (by omega) (by omega) (by omega) (by omega)
    have x2 : xorV k 0 c = openX k c := by unfold xorV; rw [if_pos wi, hc]; rfl
    rw [wi, x2] at c2
    obtain ⟨X, eX⟩ : ∃ X, X = openX k c := ⟨_, rfl⟩
    have lX : X.length = 256 := by rw [eX]; unfold openX; rw [xorS_length, hc]
    rw [← eX] at c2 hh
    have c3 := fun W (h : Glob W) => blockkey_any d X W h
    have hb : bkE d X = 0 := by unfold bkE; rw [if_neg (by simpa using hd), if_neg (by simpa using lX)]
    have hb2 : bkS d X = hmac d X := by unfold bkS; rw [if_pos hb]
    rw [hb, hb2] at c3
    obtain ⟨M, eM⟩ : ∃ M, M = hmac d X := ⟨_, rfl⟩
    have lM : M.length = 32 := by rw [eM]; exact hmac_length _ _
    rw [← eM] at c3 hh
    have c4 := fun W => same_any M k W (by omega) (by omega)
    have H := Lib.hid (And.intro c2 (And.intro c3 c4))
    clear c2 c3 c4 wi x2 eX lX hb hb2 eM lM hG
    rcases hh with ⟨_, _, h, he, hs⟩ | ⟨_, _, h, he, hs⟩
    · rw [he, hs]
      have HE := Lib.hid (show (M == k) = false by simpa using h)
      clear he hs h hd hk hc
      go_enter Tryd.func24, Tryd.ntmps24
      go_wp2_with (first
        | (go_at_call 37; refine (St.still (St.alloc HS _) (keys_two d k _ _ (by simp) (by simp))).mono ?_; clear HS; rintro e w' ⟨rfl, HS⟩; rw [HD.out])
        | (go_at_call 14; refine (St.call HS (H.out.1 _ HS.out.1)).mono ?_; clear HS; rintro e w' ⟨rfl, HS⟩)
        | (go_at_call 18; refine (St.call HS (H.out.2.1 _ HS.out.1)).mono ?_; clear HS; rintro e w' ⟨rfl, HS⟩)
        | (go_at_call 40; refine (St.call HS (H.out.2.2 _)).mono ?_; clear HS; rintro e w' ⟨rfl, HS⟩; rw [HE.out]))
      go_ret2
      exact ⟨rfl, HS.out.2⟩
    · rw [he, hs]
      have HE := Lib.hid (show (M == k) = true by simpa using h)
      clear he hs h hd hk hc
      go_enter Tryd.func24, Tryd.ntmps24
      go_wp2_with (first
        | (go_at_call 37; refine (St.still (St.alloc HS _) (keys_two d k _ _ (by simp) (by simp))).mono ?_; clear HS; rintro e w' ⟨rfl, HS⟩; rw [HD.out])
        | (go_at_call 14; refine (St.call HS (H.out.1 _ HS.out.1)).mono ?_; clear HS; rintro e w' ⟨rfl, HS⟩)
        | (go_at_call 18; refine (St.call HS (H.out.2.1 _ HS.out.1)).mono ?_; clear HS; rintro e w' ⟨rfl, HS⟩)
        | (go_at_call 40; refine (St.call HS (H.out.2.2 _)).mono ?_; clear HS; rintro e w' ⟨rfl, HS⟩; rw [HE.out]))
      go_ret2
      exact ⟨rfl, HS.out.2⟩
end Go.Proofs.YtpdnbdfkcpofaaaDoor
