/- strongboxlaw19.MerkleChecks: the walk. -/
import Derived.Test.YthhjmodkodkgpaaDoorMHelp
import Derived.Test.YthhjmodkodkgpaaDoorMCheck2
import Derived.Test.YthhjmodkodkgpaaDoorKp
namespace Go.Proofs.YthhjmodkodkgpaaDoor
open Go.RowKit Sbx Go.Sort

theorem front_spare (l : List (List UInt8)) (i : Nat) (hi : i < l.length) : (Value.string ⟨((l ++ spare8).getD i []).toArray⟩) = Value.string ⟨(l.getD i []).toArray⟩ := by
  rw [List.getD_eq_getElem?_getD, List.getElem?_append_left hi, ← List.getD_eq_getElem?_getD]
/-- what a lent row reads as -/
theorem Lst.lentReads {w0 w : World} {g n c : Nat} {l : List (List UInt8)} (h : Lst w0 w 9 (.slice (some ⟨g, 0, none⟩) n c) (strs (l ++ spare8))) : Reads w w.heap.size (some ⟨g, 0, none⟩) (l.length + 8) (fun j => .string ⟨((l ++ spare8).getD j []).toArray⟩) := by
  have := h.reads_strs
  rwa [List.length_append, show spare8.length = 8 from rfl] at this
theorem Lst.lentFront {w0 w : World} {g n c : Nat} {l : List (List UInt8)} (h : Lst w0 w 9 (.slice (some ⟨g, 0, none⟩) n c) (strs (l ++ spare8))) : Reads w w.heap.size (some ⟨g, 0, none⟩) l.length (fun j => .string ⟨(l.getD j []).toArray⟩) :=
  h.lentReads.front (by omega) (front_spare l)

set_option maxRecDepth 100000 in
set_option maxHeartbeats 1000000 in
theorem merklechecks_any (root : List UInt8) (n i : Int) (leaf : List UInt8) (P : List (List UInt8)) (A : Option Addr) (cap : Nat) (w : World) (hG : Glob w) (hr : root.length ≤ 1048576) (hl : leaf.length ≤ 1048576) (hP : P.length ≤ 1048576) (hcap : P.length ≤ cap)
    (hR : Reads w w.heap.size A P.length (fun j => .string ⟨(P.getD j []).toArray⟩)) :
    Calls Tryd.prog 4 #[.string ⟨root.toArray⟩, .int .i64 n, .int .i64 i, .string ⟨leaf.toArray⟩, .slice A P.length cap] w fun e w' => e = .returned (.bool true) ∧ Below w.heap.size w w' := by
  have HS := St.start hG
  have c1 := fun W h => lent_any P A cap W (by omega) h
  have c2 := fun W (g : Glob W) A' cap' hc h => check_any root n i leaf P A' cap' W g (by omega) (by omega) hc h
  have c3 := fun W g h k => kept_any P g (P.length + 8) A cap W (by omega) (Nat.le_refl _) h k
  have c4 := fun W h => rcheck_any root n i leaf P A cap W (by omega) (by omega) (by omega) hcap h
  obtain ⟨x, ex⟩ : ∃ x, x = mcheck root n i leaf P := ⟨_, rfl⟩
  rw [← ex] at c2 c4
  have H := Lib.hid (And.intro c1 (And.intro c2 (And.intro c3 c4)))
  have HR := Lib.hid hR
  have hPz : (P.length : Int) ≤ 1048576 := by omega
  clear c1 c2 c3 c4 ex hG hr hl hP hcap hR
  go_enter Tryd.func4, Tryd.ntmps4
  go_wp2_with (first
    | (go_at_call 13; refine (St.callG HS awake_any).mono ?_; clear HS; rintro e w' ⟨rfl, HS⟩)
    | (go_at_call 15; refine (Kp.listAt HS (H.out.1 _ (HR.out.belowW (St.bel HS)))).mono ?_; clear HS; rintro e w2 ⟨rfl, HS⟩)
    | (go_at_call 22; refine (Kp.call HS (H.out.2.1 _ HS.out.1.1 _ _ (by omega) HS.out.2.lentFront)).mono ?_; clear HS; rintro e w3 ⟨rfl, HS⟩)
    | (go_at_call 18; refine (Kp.call HS (H.out.2.2.1 _ _ HS.out.2.lentReads (HR.out.belowW HS.out.1.2))).mono ?_; clear HS; rintro e w4 ⟨rfl, HS⟩)
    | (go_at_call 25; refine (Kp.call HS (H.out.2.2.2 _ (HR.out.belowW HS.out.1.2))).mono ?_; clear HS; rintro e w5 ⟨rfl, HS⟩))
  go_ret
  exact ⟨rfl, HS.out.1.2⟩
end Go.Proofs.YthhjmodkodkgpaaDoor
