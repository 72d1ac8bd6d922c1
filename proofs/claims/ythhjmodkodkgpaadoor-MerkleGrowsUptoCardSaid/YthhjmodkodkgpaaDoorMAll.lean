/- merkle.all: slices.ContainsFunc, IndexFunc with its closure. -/
import Derived.Test.YthhjmodkodkgpaaDoorMRoot
namespace Go.Proofs.YthhjmodkodkgpaaDoor
open Go.RowKit Sbx Go.Sort

def all32 (l : List (List UInt8)) : Bool := l.all fun s => s.length == 32
theorem allf_any (s : List UInt8) (w : World) : Calls Tryd.prog 77 #[.string ⟨s.toArray⟩] w fun e w' => e = .returned (.bool ((s.length : Int) != 32)) ∧ w = w' := by
  go_enter Tryd.func77, Tryd.ntmps77
  go_wp2_with fail
  go_ret
  exact ⟨rfl, rfl⟩

set_option maxRecDepth 100000 in
theorem index_any (l : List (List UInt8)) (A : Option Addr) (cap : Nat) (w : World) (hl : l.length ≤ 9223372036854775807) (hR : Reads w w.heap.size A l.length (fun j => .string ⟨(l.getD j []).toArray⟩)) :
    Calls Tryd.prog 85 #[.slice A l.length cap, .func (.func 77) #[] #[]] w fun e w' => (∃ z : Int, e = .returned (.int .i64 z) ∧ decide (0 ≤ z) = !all32 l) ∧ w = w' := by
  have HR := Lib.hid hR
  have hlz : (l.length : Int) ≤ 9223372036854775807 := by omega
  clear hR hl
  go_enter Tryd.func85, Tryd.ntmps85
  go_wp2_with fail
  go_loopw [5, 8] (fun v5 v8 wr => ∃ k : Nat, k ≤ l.length ∧ v8 = .int .i64 (k : Int) ∧ Hid (∀ j, j < k → (l.getD j []).length = 32) ∧ w = wr)
    (fun _ v8 _ => l.length - (intOf v8).toNat)
  case atStart => exact ⟨0, by omega, rfl, fun j h => absurd h (Nat.not_lt_zero j), rfl⟩
  case round =>
    obtain ⟨k, hk, rfl, hall, rfl⟩ := hrel
    by_cases hlt : k < l.length
    · obtain ⟨b, off, rfl, hb, hcell⟩ := HR.out k hlt
      obtain ⟨s, es⟩ : ∃ s, s = l.getD k [] := ⟨_, rfl⟩
      have hcell' : w.cell? ⟨b, off + k, none⟩ = some (.string ⟨(l.getD k []).toArray⟩) := hcell
      rw [← es] at hcell'
      clear hcell
      have k0 : (0 : Int) ≤ (k : Int) := by omega
      have k1 : (k : Int) < (l.length : Int) := by omega
      have ES := Lib.hid es
      have CF := Lib.hid (allf_any s w)
      clear es
      by_cases h32 : s.length = 32
      · have hne : ((s.length : Int) != 32) = false := by rw [bne_eq_false_iff_eq]; omega
        have H32 := Lib.hid h32
        clear h32
        go_wp2_with (go_at_call 77; refine CF.out.mono ?_; clear CF; rintro e w' ⟨rfl, rfl⟩)
        go_roundw
        case rel =>
          refine ⟨k + 1, by omega, by go_num, fun j hj => ?_, trivial⟩
          by_cases hjk : j < k
          · exact hall.out j hjk
          · obtain rfl : j = k := by omega
            rw [← ES.out]; exact H32.out
        case measure => simp [intOf]; omega
      · have hne : ((s.length : Int) != 32) = true := by rw [bne_iff_ne]; omega
        have hf : all32 l = false := by
          unfold all32
          rw [List.all_eq_false]
          refine ⟨s, ?_, by simpa using h32⟩
          rw [ES.out, List.getD_eq_getElem?_getD, List.getElem?_eq_getElem hlt]
          exact List.getElem_mem hlt
        have HF := Lib.hid hf
        clear h32 hf
        go_wp2_with (go_at_call 77; refine CF.out.mono ?_; clear CF; rintro e w' ⟨rfl, rfl⟩)
        go_ret
        exact ⟨⟨_, rfl, by rw [HF.out]; simp⟩, rfl⟩
    · obtain rfl : k = l.length := by omega
      have ht : all32 l = true := by
        unfold all32
        rw [List.all_eq_true]
        intro s hs
        obtain ⟨j, hj, rfl⟩ := List.getElem_of_mem hs
        have := hall.out j hj
        rw [List.getD_eq_getElem?_getD, List.getElem?_eq_getElem hj] at this
        simpa using this
      have HT := Lib.hid ht
      clear ht
      go_wp2_with fail
      go_ret
      exact ⟨⟨_, rfl, by rw [HT.out]; rfl⟩, rfl⟩

theorem contains_any (l : List (List UInt8)) (A : Option Addr) (cap : Nat) (w : World) (hl : l.length ≤ 9223372036854775807) (hR : Reads w w.heap.size A l.length (fun j => .string ⟨(l.getD j []).toArray⟩)) :
    Calls Tryd.prog 76 #[.slice A l.length cap, .func (.func 77) #[] #[]] w fun e w' => e = .returned (.bool (!all32 l)) ∧ w = w' := by
  have c := index_any l A cap w hl hR
  obtain ⟨r, er⟩ : ∃ r, r = all32 l := ⟨_, rfl⟩
  rw [← er] at c ⊢
  have C := Lib.hid c
  clear c er hl hR
  go_enter Tryd.func76, Tryd.ntmps76
  go_wp2_with fail
  refine C.out.mono ?_
  rintro e w' ⟨⟨z, rfl, hz⟩, rfl⟩
  go_wp2_with fail
  go_ret
  exact ⟨by simp [← hz], rfl⟩
theorem all_any (l : List (List UInt8)) (A : Option Addr) (cap : Nat) (w : World) (hl : l.length ≤ 9223372036854775807) (hR : Reads w w.heap.size A l.length (fun j => .string ⟨(l.getD j []).toArray⟩)) :
    Calls Tryd.prog 50 #[.slice A l.length cap] w fun e w' => e = .returned (.bool (all32 l)) ∧ w = w' := by
  have c := contains_any l A cap w hl hR
  obtain ⟨r, er⟩ : ∃ r, r = all32 l := ⟨_, rfl⟩
  rw [← er] at c ⊢
  have C := Lib.hid c
  clear c er hl hR
  go_enter Tryd.func50, Tryd.ntmps50
  go_wp2_with fail
  refine C.out.mono ?_
  rintro e w' ⟨rfl, rfl⟩
  go_wp2_with fail
  go_ret
  exact ⟨by simp, rfl⟩
end Go.Proofs.YthhjmodkodkgpaaDoor
