/- strongboxlaw2.pick. -/
import Derived.Test.YtpdnbdfkcpofaaaDoorMem
namespace Sbx
/-- which of n things the raw number c speaks of -/
def pickI (c n : Int) : Int := (if c < 0 then -(c + 1) else c) % n
theorem pickI_nonneg (c n : Int) (h : 0 < n) : 0 ≤ pickI c n := Int.emod_nonneg _ (by omega)
theorem pickI_lt (c n : Int) (h : 0 < n) : pickI c n < n := Int.emod_lt_of_pos _ h
end Sbx
namespace Go.Proofs.YtpdnbdfkcpofaaaDoor
open Go.RowKit Sbx
theorem pick_any (c n : Int) (w : World) (hn : 0 < n) (h0 : -9223372036854775808 ≤ c) (h1 : c ≤ 9223372036854775807) :
    Calls Tryd.prog 17 #[.int .i64 c, .int .i64 n] w fun e w' => e = .returned (.int .i64 (pickI c n)) ∧ w = w' := by
  have hne : (n == 0) = false := beq_eq_false_iff_ne.2 (by omega)
  by_cases hc : c < 0
  · have e : pickI c n = (-(c + 1)) % n := by unfold pickI; rw [if_pos hc]
    have E := Lib.hid e
    have m0 : 0 ≤ -(c + 1) := by omega
    have m1 : -(c + 1) ≤ 9223372036854775807 := by omega
    have e2 : -((c + 1).tmod n) = (-(c + 1)) % n := by rw [← Int.neg_tmod, Int.tmod_eq_emod_of_nonneg m0]
    have E2 := Lib.hid e2
    clear e e2
    go_enter Tryd.func17, Tryd.ntmps17
    go_wp2_with fail
    go_ret
    exact ⟨by rw [E.out, ← E2.out]; rfl, rfl⟩
  · have e : pickI c n = c % n := by unfold pickI; rw [if_neg hc]
    have E := Lib.hid e
    have m0 : 0 ≤ c := by omega
    clear e
    go_enter Tryd.func17, Tryd.ntmps17
    go_wp2_with fail
    go_ret
    exact ⟨by rw [E.out]; rfl, rfl⟩
theorem wf_i64 {x : Int} (h : (Lit.int .i64 x).wf = true) : -9223372036854775808 ≤ x ∧ x ≤ 9223372036854775807 := by
  simpa [Lit.wf, IntKind.min, IntKind.max, IntKind.signed, IntKind.bits] using h
end Go.Proofs.YtpdnbdfkcpofaaaDoor
