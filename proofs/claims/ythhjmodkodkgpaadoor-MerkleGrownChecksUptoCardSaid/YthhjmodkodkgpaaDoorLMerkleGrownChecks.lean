/- strongboxlaw19.MerkleGrownChecks: the walk. -/
import Derived.Test.YthhjmodkodkgpaaDoorMGrown2
import Derived.Test.YthhjmodkodkgpaaDoorLMerkleChecks
namespace Go.Proofs.YthhjmodkodkgpaaDoor
open Go.RowKit Sbx Go.Sort

set_option maxRecDepth 100000 in
set_option maxHeartbeats 1000000 in
theorem merklegrownchecks_any (oldRoot : List UInt8) (old : Int) (root : List UInt8) (n : Int) (P : List (List UInt8)) (A : Option Addr) (cap : Nat) (w : World) (hG : Glob w) (ho : oldRoot.length ≤ 1048576) (hr : root.length ≤ 1048576) (hP : P.length ≤ 1048576) (hcap : P.length ≤ cap)
    (hR : Reads w w.heap.size A P.length (fun j => .string ⟨(P.getD j []).toArray⟩)) :
    Calls Tryd.prog 9 #[.string ⟨oldRoot.toArray⟩, .int .i64 old, .string ⟨root.toArray⟩, .int .i64 n, .slice A P.length cap] w fun e w' => e = .returned (.bool true) ∧ Below w.heap.size w w' := by
  have HS := St.start hG
  have c1 := fun W h => lent_any P A cap W (by omega) h
  have c2 := fun W (g : Glob W) A' cap' hc h => checkgrown_any oldRoot old root n P A' cap' W g (by omega) hc h
  have c3 := fun W g h k => kept_any P g (P.length + 8) A cap W (by omega) (Nat.le_refl _) h k
  have c4 := fun W h => rcheckgrown_any oldRoot old root n P A cap W (by omega) (by omega) (by omega) hcap h
  obtain ⟨x, ex⟩ : ∃ x, x = mgcheck oldRoot old root n P := ⟨_, rfl⟩
  rw [← ex] at c2 c4
  have H := Lib.hid (And.intro c1 (And.intro c2 (And.intro c3 c4)))
  have HR := Lib.hid hR
  have hPz : (P.length : Int) ≤ 1048576 := by omega
  clear c1 c2 c3 c4 ex hG hr ho hP hcap hR
  go_enter Tryd.func9, Tryd.ntmps9
  go_wp2_with (first
    | (go_at_call 13; refine (St.callG HS awake_any).mono ?_; clear HS; rintro e w' ⟨rfl, HS⟩)
    | (go_at_call 15; refine (Kp.listAt HS (H.out.1 _ (HR.out.belowW (St.bel HS)))).mono ?_; clear HS; rintro e w2 ⟨rfl, HS⟩)
    | (go_at_call 35; refine (Kp.call HS (H.out.2.1 _ HS.out.1.1 _ _ (by omega) HS.out.2.lentFront)).mono ?_; clear HS; rintro e w3 ⟨rfl, HS⟩)
    | (go_at_call 18; refine (Kp.call HS (H.out.2.2.1 _ _ HS.out.2.lentReads (HR.out.belowW HS.out.1.2))).mono ?_; clear HS; rintro e w4 ⟨rfl, HS⟩)
    | (go_at_call 36; refine (Kp.call HS (H.out.2.2.2 _ (HR.out.belowW HS.out.1.2))).mono ?_; clear HS; rintro e w5 ⟨rfl, HS⟩))
  go_ret
  exact ⟨rfl, HS.out.1.2⟩
end Go.Proofs.YthhjmodkodkgpaaDoor
