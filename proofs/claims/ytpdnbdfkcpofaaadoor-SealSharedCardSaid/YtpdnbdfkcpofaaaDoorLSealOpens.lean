/- strongboxlaw2.SealOpens: the walk. -/
import Derived.Test.YtpdnbdfkcpofaaaDoorROpen
import Derived.Test.YtpdnbdfkcpofaaaDoorShaped
import Derived.Test.YtpdnbdfkcpofaaaDoorAwake2
namespace Go.Proofs.YtpdnbdfkcpofaaaDoor
open Go.RowKit Sbx Go.Sort

/-- what Seal made is opened again -/
theorem open_sealed (d p : List UInt8) (hd : d.length = 32) (hp : p.length = 256) : openE d (bkS d p) (sealC d p) = 0 ∧ openS d (bkS d p) (sealC d p) = p := by
  have hb : bkE d p = 0 := by unfold bkE; rw [if_neg (by simpa using hd), if_neg (by simpa using hp)]
  have hk : bkS d p = hmac d p := by unfold bkS; rw [if_pos hb]
  have hc : sealC d p = xorS p (stream (bkS d p) 0 256) := by unfold sealC; rw [if_pos hb]
  have hx : openX (bkS d p) (sealC d p) = p := by
    have h := xor_twice (bkS d p) 0 p
    rw [xorS_length, hp] at h
    unfold openX
    rw [hc]; exact h
  have hl : (sealC d p).length = 256 := by rw [hc, xorS_length, hp]
  have hkl : (bkS d p).length = 32 := bkS_length d p hb
  have he : openE d (bkS d p) (sealC d p) = 0 := by
    unfold openE
    rw [if_neg (by simp [hd, hkl]), if_neg (by simpa using hl), hx, ← hk, if_neg (by simp)]
  exact ⟨he, by unfold openS; rw [if_pos he, hx]⟩

set_option maxRecDepth 100000 in
set_option maxHeartbeats 1000000 in
theorem sealopens_any (d k c raw : List UInt8) (w : World) (hG : Glob w) (hd0 : d.length ≤ 140737488354000) (hk0 : k.length ≤ 140737488354000) (hc0 : c.length ≤ 140737488354000) (hr0 : raw.length ≤ 140737488354000) :
    Calls Tryd.prog 7 #[.string ⟨d.toArray⟩, .string ⟨k.toArray⟩, .string ⟨c.toArray⟩, .string ⟨raw.toArray⟩] w fun e w' => e = .returned (.bool true) ∧ Below w.heap.size w w' := by
  have HS := St.start hG
  have c1 := fun W (h : Glob W) => open_any d k c W h
  have c2 := fun W => ropen_any d k c W hd0 hk0 hc0
  obtain ⟨A, eA⟩ : ∃ A, A = openS d k c := ⟨_, rfl⟩
  obtain ⟨a, ea⟩ : ∃ A, A = openE d k c := ⟨_, rfl⟩
  rw [← eA, ← ea] at c1 c2
  have c3 := fun W => shaped32 d W (by omega)
  have c4 := fun W => shaped256 raw W (by omega)
  obtain ⟨D, eD⟩ : ∃ A, A = shapeV d 32 := ⟨_, rfl⟩
  obtain ⟨P, eP⟩ : ∃ A, A = shapeV raw 256 := ⟨_, rfl⟩
  have lD : D.length = 32 := by rw [eD]; exact shapeV_length _ _
  have lP : P.length = 256 := by rw [eP]; exact shapeV_length _ _
  rw [← eD] at c3
  rw [← eP] at c4
  have c5 := fun W (h : Glob W) => seal_any D P W h
  obtain ⟨o1, o2⟩ := open_sealed D P lD lP
  have hb : bkE D P = 0 := by unfold bkE; rw [if_neg (by simpa using lD), if_neg (by simpa using lP)]
  have lK := bkS_length D P hb
  have lC : (sealC D P).length = 256 := by unfold sealC; rw [if_pos hb, xorS_length, lP]
  rw [hb] at c5
  obtain ⟨K, eK⟩ : ∃ A, A = bkS D P := ⟨_, rfl⟩
  obtain ⟨C, eC⟩ : ∃ A, A = sealC D P := ⟨_, rfl⟩
  rw [← eK, ← eC] at c5 o1 o2
  rw [← eK] at lK
  rw [← eC] at lC
  have c6 := fun W (h : Glob W) => open_any D K C W h
  rw [o1, o2] at c6
  have c7 := fun W (h : Glob W) => open_any d K C W h
  have c8 := fun W => ropen_any d K C W hd0 (by omega) (by omega)
  obtain ⟨B, eB⟩ : ∃ A, A = openS d K C := ⟨_, rfl⟩
  obtain ⟨b, eb⟩ : ∃ A, A = openE d K C := ⟨_, rfl⟩
  rw [← eB, ← eb] at c7 c8
  have H := Lib.hid (And.intro c1 (And.intro c2 (And.intro c3 (And.intro c4 (And.intro c5 (And.intro c6 (And.intro c7 c8)))))))
  clear c1 c2 c3 c4 c5 c6 c7 c8 eA ea eD eP lD lP o1 o2 hb lK lC eK eC eB eb hG hd0 hk0 hc0 hr0
  go_enter Tryd.func7, Tryd.ntmps7
  go_wp2_with (first
    | (go_at_call 11; refine (St.call HS (awake_any _ HS.out.1)).mono ?_; clear HS; rintro e w' ⟨rfl, HS⟩)
    | (go_at_call 24; with_reducible refine (St.callG HS H.out.1).mono ?_; clear HS; rintro e w' ⟨rfl, HS⟩)
    | (go_at_call 25; with_reducible refine (St.callR HS H.out.2.1).mono ?_; clear HS; rintro e w' ⟨rfl, HS⟩)
    | (go_at_call 16; with_reducible refine (St.callR HS H.out.2.2.1).mono ?_; clear HS; rintro e w' ⟨rfl, HS⟩)
    | (go_at_call 16; with_reducible refine (St.callR HS H.out.2.2.2.1).mono ?_; clear HS; rintro e w' ⟨rfl, HS⟩)
    | (go_at_call 20; refine (St.callG HS H.out.2.2.2.2.1).mono ?_; clear HS; rintro e w' ⟨rfl, HS⟩)
    | (go_at_call 24; with_reducible refine (St.callG HS H.out.2.2.2.2.2.1).mono ?_; clear HS; rintro e w' ⟨rfl, HS⟩)
    | (go_at_call 24; with_reducible refine (St.callG HS H.out.2.2.2.2.2.2.1).mono ?_; clear HS; rintro e w' ⟨rfl, HS⟩)
    | (go_at_call 25; with_reducible refine (St.callR HS H.out.2.2.2.2.2.2.2).mono ?_; clear HS; rintro e w' ⟨rfl, HS⟩))
  go_ret
  exact ⟨rfl, HS.out.2⟩
end Go.Proofs.YtpdnbdfkcpofaaaDoor
