/- seal.place, tag, Wrap. -/
import Derived.Test.YtpdnbdfkcpofaaaDoorSeal1
import Derived.Test.YtpdnbdfkcpofaaaDoorWSame
import Derived.Test.YtpdnbdfkcpofaaaDoorMem3
namespace Go.Proofs.YtpdnbdfkcpofaaaDoor
open Go.RowKit Sbx Go.Sort

def placeE (v b : Int) : Int := if v < 0 ∨ 99 < v ∨ b < 0 ∨ 59 < b then 1 else 0
/-- what a place's wrapping is made with -/
def placeW (m : List UInt8) (v b : Nat) : List UInt8 := hmac m ([119, 114, 97, 112] ++ num v 4 ++ num b 4)
def placeS (m : List UInt8) (v b : Int) : List UInt8 := if placeE v b = 0 then placeW m v.toNat b.toNat else []
theorem placeW_length (m : List UInt8) (v b : Nat) : (placeW m v b).length = 32 := hmac_length _ _

theorem number4 (j : Nat) (w : World) (hj : j ≤ 9223372036854775807) :
    Calls Tryd.prog 56 #[.int .i64 (j : Int), .int .i64 4] w fun e w' => e = .returned (.string ⟨(num j 4).toArray⟩) ∧ Below w.heap.size w w' := number_any j 4 w hj (by omega)

set_option maxRecDepth 100000 in
theorem place_any (m : List UInt8) (v b : Int) (w : World) (hG : Glob w) (hm : m.length ≤ 1152921504606840000) :
    Calls Tryd.prog 41 #[.string ⟨m.toArray⟩, .int .i64 v, .int .i64 b] w fun e w' => e = .returned (.tuple #[.string ⟨(placeS m v b).toArray⟩, .int .i64 (placeE v b)]) ∧ Below w.heap.size w w' := by
  have HS := St.start hG
  have out : placeE v b = 1 → Calls Tryd.prog 41 #[.string ⟨m.toArray⟩, .int .i64 v, .int .i64 b] w (fun e w' => e = .returned (.tuple #[.string ⟨#[]⟩, .int .i64 1]) ∧ w = w') → Calls Tryd.prog 41 #[.string ⟨m.toArray⟩, .int .i64 v, .int .i64 b] w fun e w' => e = .returned (.tuple #[.string ⟨(placeS m v b).toArray⟩, .int .i64 (placeE v b)]) ∧ Below w.heap.size w w' := fun he h => by
    have hs : placeS m v b = [] := by unfold placeS; rw [if_neg (by omega)]
    rw [hs, he]
    exact h.mono fun e w' ⟨h1, h2⟩ => ⟨h1, by rw [← h2]; exact Below.refl _ _⟩
  by_cases h1 : v < 0
  · refine out (by unfold placeE; rw [if_pos (by omega)]) ?_
    clear out HS hG hm
    go_enter Tryd.func41, Tryd.ntmps41
    go_wp2_with fail
    go_ret2
    exact ⟨rfl, rfl⟩
  by_cases h2 : 99 < v
  · refine out (by unfold placeE; rw [if_pos (by omega)]) ?_
    clear out HS hG hm
    have h1' : 0 ≤ v := by omega
    go_enter Tryd.func41, Tryd.ntmps41
    go_wp2_with fail
    go_ret2
    exact ⟨rfl, rfl⟩
  by_cases h3 : b < 0
  · refine out (by unfold placeE; rw [if_pos (by omega)]) ?_
    clear out HS hG hm
    have h1' : 0 ≤ v := by omega
    have h2' : v ≤ 99 := by omega
    go_enter Tryd.func41, Tryd.ntmps41
    go_wp2_with fail
    go_ret2
    exact ⟨rfl, rfl⟩
  by_cases h4 : 59 < b
  · refine out (by unfold placeE; rw [if_pos (by omega)]) ?_
    clear out HS hG hm
    have h1' : 0 ≤ v := by omega
    have h2' : v ≤ 99 := by omega
    have h3' : 0 ≤ b := by omega
    go_enter Tryd.func41, Tryd.ntmps41
    go_wp2_with fail
    go_ret2
    exact ⟨rfl, rfl⟩
  · have he : placeE v b = 0 := by unfold placeE; rw [if_neg (by omega)]
    have hs : placeS m v b = placeW m v.toNat b.toNat := by unfold placeS; rw [if_pos he]
    rw [hs, he]
    obtain ⟨V, rfl⟩ : ∃ V : Nat, v = (V : Int) := ⟨v.toNat, by omega⟩
    obtain ⟨B, rfl⟩ : ∃ V : Nat, b = (V : Int) := ⟨b.toNat, by omega⟩
    rw [Int.toNat_natCast, Int.toNat_natCast]
    have c1 := fun W => number4 V W (by omega)
    have c2 := fun W => number4 B W (by omega)
    have c3 := fun W (h : Glob W) => mac_any m ([119, 114, 97, 112] ++ num V 4 ++ num B 4) W h (by omega) (by simp [num_length])
    rw [← str_app, ← str_app] at c3
    change ∀ W, Glob W → Calls _ _ _ W (fun e w' => e = Ending.returned (Value.string ⟨(placeW m V B).toArray⟩) ∧ _) at c3
    obtain ⟨X, eX⟩ : ∃ X, X = placeW m V B := ⟨_, rfl⟩
    rw [← eX] at c3 ⊢
    obtain ⟨N1, e1⟩ : ∃ X, X = num V 4 := ⟨_, rfl⟩
    obtain ⟨N2, e2⟩ : ∃ X, X = num B 4 := ⟨_, rfl⟩
    have l1 : N1.length = 4 := by rw [e1, num_length]
    have l2 : N2.length = 4 := by rw [e2, num_length]
    rw [← e1] at c1 c3
    rw [← e2] at c2 c3
    have v0 : (0 : Int) ≤ (V : Int) := by omega
    have b0 : (0 : Int) ≤ (B : Int) := by omega
    have v1 : (V : Int) ≤ 99 := by omega
    have b1 : (B : Int) ≤ 59 := by omega
    have H := Lib.hid (And.intro c1 (And.intro c2 c3))
    clear c1 c2 c3 eX e1 e2 hs he out h1 h2 h3 h4 hm hG
    go_enter Tryd.func41, Tryd.ntmps41
    go_wp2_with (first
      | (go_at_call 56; with_reducible refine (St.callR HS H.out.1).mono ?_; clear HS; rintro e w' ⟨rfl, HS⟩)
      | (go_at_call 56; with_reducible refine (St.callR HS H.out.2.1).mono ?_; clear HS; rintro e w' ⟨rfl, HS⟩)
      | (go_at_call 30; refine (St.callG HS H.out.2.2).mono ?_; clear HS; rintro e w' ⟨rfl, HS⟩))
    go_ret2
    exact ⟨rfl, HS.out.2⟩

/-- what stands behind a key that is hidden -/
def tagS (w h : List UInt8) : List UInt8 := (hmac w ([116, 97, 103] ++ h)).take 16
theorem tagS_length (w h : List UInt8) : (tagS w h).length = 16 := by unfold tagS; rw [List.length_take, hmac_length]; rfl
theorem tag_any (k h : List UInt8) (w : World) (hG : Glob w) (hk : k.length ≤ 1152921504606840000) (hh : h.length ≤ 140737488354000) :
    Calls Tryd.prog 42 #[.string ⟨k.toArray⟩, .string ⟨h.toArray⟩] w fun e w' => e = .returned (.string ⟨(tagS k h).toArray⟩) ∧ Below w.heap.size w w' := by
  have HS := St.start hG
  have c := fun W (g : Glob W) => mac_any k ([116, 97, 103] ++ h) W g (by omega) (by simp; omega)
  rw [← str_app] at c
  obtain ⟨M, eM⟩ : ∃ M, M = hmac k ([116, 97, 103] ++ h) := ⟨_, rfl⟩
  have lM : M.length = 32 := by rw [eM]; exact hmac_length _ _
  rw [show tagS k h = M.take 16 from by rw [eM]; rfl]
  rw [← eM] at c
  have hsl := fun W => run_slice_to (P := Tryd.prog) (t := 9) Tryd.underlying9 M .i64 16 (by omega) 16 rfl W
  have C := Lib.hid c
  have le : ¬ 9223372036854775807 < 3 + h.length := by omega
  clear c eM lM hk hh hG
  go_enter Tryd.func42, Tryd.ntmps42
  go_wp2_with (go_at_call 30; refine (St.callG HS C.out).mono ?_; clear HS; rintro e w' ⟨rfl, HS⟩)
  go_ret
  exact ⟨rfl, HS.out.2⟩
end Go.Proofs.YtpdnbdfkcpofaaaDoor
