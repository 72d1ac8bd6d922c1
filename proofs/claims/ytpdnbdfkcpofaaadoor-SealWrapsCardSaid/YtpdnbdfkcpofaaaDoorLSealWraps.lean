/- strongboxlaw2.SealWraps: the walk. -/
import Derived.Test.YtpdnbdfkcpofaaaDoorRWrap
import Derived.Test.YtpdnbdfkcpofaaaDoorAwake2
namespace Go.Proofs.YtpdnbdfkcpofaaaDoor
open Go.RowKit Sbx Go.Sort

set_option maxRecDepth 100000 in
set_option maxHeartbeats 1000000 in
theorem sealwraps_any (m : List UInt8) (v b : Int) (k s : List UInt8) (w : World) (hG : Glob w) :
    Calls Tryd.prog 8 #[.string ⟨m.toArray⟩, .int .i64 v, .int .i64 b, .string ⟨k.toArray⟩, .string ⟨s.toArray⟩] w fun e w' => e = .returned (.bool true) ∧ Below w.heap.size w w' := by
  have HS := St.start hG
  have c1 := fun W (h : Glob W) => wrap_any m v b k W h
  have c2 := fun W => rwrap_any m v b k W
  have c3 := fun W (h : Glob W) => unwrap_any m v b s W h
  have c4 := fun W => runwrap_any m v b s W
  obtain ⟨A, eA⟩ : ∃ A, A = wrapS m v b k := ⟨_, rfl⟩
  obtain ⟨a, ea⟩ : ∃ A, A = wrapE m v b k := ⟨_, rfl⟩
  obtain ⟨B, eB⟩ : ∃ A, A = unwrapS m v b s := ⟨_, rfl⟩
  obtain ⟨c, ec⟩ : ∃ A, A = unwrapE m v b s := ⟨_, rfl⟩
  rw [← eA, ← ea] at c1 c2
  rw [← eB, ← ec] at c3 c4
  have H := Lib.hid (And.intro c1 (And.intro c2 (And.intro c3 c4)))
  clear c1 c2 c3 c4 eA ea eB ec hG
  go_enter Tryd.func8, Tryd.ntmps8
  go_wp2_with (first
    | (go_at_call 11; refine (St.callG HS awake_any).mono ?_; clear HS; rintro e w' ⟨rfl, HS⟩)
    | (go_at_call 26; refine (St.callG HS H.out.1).mono ?_; clear HS; rintro e w' ⟨rfl, HS⟩)
    | (go_at_call 27; refine (St.callR HS H.out.2.1).mono ?_; clear HS; rintro e w' ⟨rfl, HS⟩)
    | (go_at_call 28; refine (St.callG HS H.out.2.2.1).mono ?_; clear HS; rintro e w' ⟨rfl, HS⟩)
    | (go_at_call 29; refine (St.callR HS H.out.2.2.2).mono ?_; clear HS; rintro e w' ⟨rfl, HS⟩))
  go_ret
  exact ⟨rfl, HS.out.2⟩
end Go.Proofs.YtpdnbdfkcpofaaaDoor
