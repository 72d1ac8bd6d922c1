/- merkle.Node, strongboxref19.Node. -/
import Derived.Test.YthhjmodkodkgpaaDoorMAll
import Derived.Test.YthhjmodkodkgpaaDoorSt
namespace Go.Proofs.YthhjmodkodkgpaaDoor
open Go.RowKit Sbx Go.Sort

def nodeE (a b : List UInt8) : Int := if a.length = 32 ∧ b.length = 32 then 0 else 193
def nodeS (a b : List UInt8) : List UInt8 := if a.length = 32 ∧ b.length = 32 then mnode a b else []
theorem all_two (a b : List UInt8) (g : Nat) (w : World) (h0 : w.cell? ⟨g, 0, none⟩ = some (.string ⟨a.toArray⟩)) (h1 : w.cell? ⟨g, 1, none⟩ = some (.string ⟨b.toArray⟩)) (hg : g < w.heap.size) :
    Calls Tryd.prog 50 #[.slice (some ⟨g, 0, none⟩) 2 2] w fun e w' => e = .returned (.bool (decide (a.length = 32 ∧ b.length = 32))) ∧ w = w' := by
  have h := all_any [a, b] (some ⟨g, 0, none⟩) 2 w (by simp) (fun i hi => ⟨g, 0, rfl, hg, by
    rw [Nat.zero_add]
    match i, hi with
    | 0, _ => exact h0
    | 1, _ => exact h1⟩)
  rw [show all32 [a, b] = decide (a.length = 32 ∧ b.length = 32) from by simp [all32]; rfl] at h
  exact h
set_option maxRecDepth 100000 in
theorem nodef_any (a b : List UInt8) (w : World) (hG : Glob w) :
    Calls Tryd.prog 26 #[.string ⟨a.toArray⟩, .string ⟨b.toArray⟩] w fun e w' => e = .returned (.tuple #[.string ⟨(nodeS a b).toArray⟩, .int .i64 (nodeE a b)]) ∧ Below w.heap.size w w' := by
  have HS := St.start hG
  by_cases h : a.length = 32 ∧ b.length = 32
  · rw [show nodeS a b = mnode a b from if_pos h, show nodeE a b = 0 from if_pos h]
    have HD := Lib.hid (show decide (a.length = 32 ∧ b.length = 32) = true by simpa using h)
    have c := fun W (g : Glob W) => node_any a b W g (by omega) (by omega)
    obtain ⟨M, eM⟩ : ∃ M, M = mnode a b := ⟨_, rfl⟩
    rw [← eM] at c ⊢
    have C := Lib.hid c
    clear c eM h hG
    go_enter Tryd.func26, Tryd.ntmps26
    go_wp2_with (first
      | (go_at_call 50; refine (St.still (St.alloc HS _) (all_two a b _ _ (by simp) (by simp) (by simp))).mono ?_; clear HS; rintro e w' ⟨rfl, HS⟩; rw [HD.out])
      | (go_at_call 49; refine (St.callG HS C.out).mono ?_; clear HS; rintro e w' ⟨rfl, HS⟩))
    go_ret2
    exact ⟨rfl, HS.out.2⟩
  · rw [show nodeS a b = [] from if_neg h, show nodeE a b = 193 from if_neg h]
    have HD := Lib.hid (show decide (a.length = 32 ∧ b.length = 32) = false by simpa using h)
    clear h hG
    go_enter Tryd.func26, Tryd.ntmps26
    go_wp2_with (go_at_call 50; refine (St.still (St.alloc HS _) (all_two a b _ _ (by simp) (by simp) (by simp))).mono ?_; clear HS; rintro e w' ⟨rfl, HS⟩; rw [HD.out])
    go_ret2
    exact ⟨rfl, HS.out.2⟩
end Go.Proofs.YthhjmodkodkgpaaDoor
