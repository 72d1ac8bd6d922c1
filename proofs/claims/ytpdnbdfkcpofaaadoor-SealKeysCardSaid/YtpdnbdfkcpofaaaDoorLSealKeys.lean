/- strongboxlaw2.SealKeys: the walk. -/
import Derived.Test.YtpdnbdfkcpofaaaDoorSeal1
import Derived.Test.YtpdnbdfkcpofaaaDoorAwake2
namespace Go.Proofs.YtpdnbdfkcpofaaaDoor
open Go.RowKit Sbx Go.Sort

set_option maxRecDepth 100000 in
set_option maxHeartbeats 1000000 in
theorem sealkeys_any (d p : List UInt8) (w : World) (hG : Glob w) :
    Calls Tryd.prog 6 #[.string ⟨d.toArray⟩, .string ⟨p.toArray⟩] w fun e w' => e = .returned (.bool true) ∧ Below w.heap.size w w' := by
  have HS := St.start hG
  have c1 := fun W (h : Glob W) => blockkey_any d p W h
  have c2 := fun W => rblockkey_any d p W
  have c3 := fun W (h : Glob W) => seal_any d p W h
  have c4 := fun W => rseal_any d p W
  have c5 := fun W (h : Glob W) => digest_any p W h
  have c6 := fun W => rdigest_any p W
  obtain ⟨K, eK⟩ : ∃ K, K = bkS d p := ⟨_, rfl⟩
  obtain ⟨e, ee⟩ : ∃ K, K = bkE d p := ⟨_, rfl⟩
  obtain ⟨C, eC⟩ : ∃ K, K = sealC d p := ⟨_, rfl⟩
  obtain ⟨D, eD⟩ : ∃ K, K = dgS p := ⟨_, rfl⟩
  obtain ⟨g, eg⟩ : ∃ K, K = dgE p := ⟨_, rfl⟩
  rw [← eK, ← ee] at c1 c2
  rw [← eK, ← ee, ← eC] at c3 c4
  rw [← eD, ← eg] at c5 c6
  have H := Lib.hid (And.intro c1 (And.intro c2 (And.intro c3 (And.intro c4 (And.intro c5 c6)))))
  clear c1 c2 c3 c4 c5 c6 eK ee eC eD eg hG
  go_enter Tryd.func6, Tryd.ntmps6
  go_wp2_with (first
    | (go_at_call 11; refine (St.call HS (awake_any _ HS.out.1)).mono ?_; clear HS; rintro e w' ⟨rfl, HS⟩)
    | (go_at_call 18; refine (St.call HS (H.out.1 _ HS.out.1)).mono ?_; clear HS; rintro e w' ⟨rfl, HS⟩)
    | (go_at_call 19; refine (St.call HS (H.out.2.1 _)).mono ?_; clear HS; rintro e w' ⟨rfl, HS⟩)
    | (go_at_call 20; refine (St.call HS (H.out.2.2.1 _ HS.out.1)).mono ?_; clear HS; rintro e w' ⟨rfl, HS⟩)
    | (go_at_call 21; refine (St.call HS (H.out.2.2.2.1 _)).mono ?_; clear HS; rintro e w' ⟨rfl, HS⟩)
    | (go_at_call 22; refine (St.call HS (H.out.2.2.2.2.1 _ HS.out.1)).mono ?_; clear HS; rintro e w' ⟨rfl, HS⟩)
    | (go_at_call 23; refine (St.call HS (H.out.2.2.2.2.2 _)).mono ?_; clear HS; rintro e w' ⟨rfl, HS⟩))
  go_ret
  exact ⟨rfl, HS.out.2⟩
end Go.Proofs.YtpdnbdfkcpofaaaDoor
