/- seal.keys, within. -/
import Derived.Test.YtpdnbdfkcpofaaaDoorPart
namespace Sbx
/-- within's answer -/
def withinV (key : List UInt8) (f n : Int) : Int :=
  if key.length ≠ 32 then 20 else if f < 0 ∨ n < 0 ∨ 65536 < f ∨ 65536 - f < n then 21 else 0
theorem withinV_ok {key : List UInt8} {f n : Int} : withinV key f n = 0 ↔ key.length = 32 ∧ 0 ≤ f ∧ 0 ≤ n ∧ f ≤ 65536 ∧ f + n ≤ 65536 := by
  unfold withinV
  split
  · constructor
    · intro h; omega
    · rintro ⟨h, _⟩; contradiction
  · split
    · constructor
      · intro h; omega
      · omega
    · constructor
      · omega
      · intro; rfl
end Sbx
namespace Go.Proofs.YtpdnbdfkcpofaaaDoor
open Go.RowKit Sbx Go.Sort

set_option maxRecDepth 100000 in
theorem keys_any (ss : List (List UInt8)) (b : Nat) (w : World) (hl : ss.length ≤ 1000) (hc : ∀ j, j < ss.length → w.cell? ⟨b, j, none⟩ = some (.string ⟨(ss.getD j []).toArray⟩)) :
    Calls Tryd.prog 37 #[.slice (some ⟨b, 0, none⟩) ss.length ss.length] w fun e w' => e = .returned (.bool (ss.all fun s => s.length == 32)) ∧ w = w' := by
  have HC := Lib.hid hc
  clear hc
  go_enter Tryd.func37, Tryd.ntmps37
  go_wp2_with fail
  go_loopw [4, 7] (fun v4 v7 wr => ∃ k : Nat, k ≤ ss.length ∧ v7 = .int .i64 k ∧ Hid (∀ j, j < k → (ss.getD j []).length = 32) ∧ w = wr)
    (fun _ v7 _ => ss.length - (intOf v7).toNat)
  case atStart => exact ⟨0, by omega, rfl, fun j h => absurd h (Nat.not_lt_zero j), rfl⟩
  case round =>
    obtain ⟨k, hk, hv, hall, rfl⟩ := hrel
    subst hv
    by_cases hlt : k < ss.length
    · have hcell := HC.out k hlt
      obtain ⟨s, es⟩ : ∃ s, s = ss.getD k [] := ⟨_, rfl⟩
      rw [← es] at hcell
      have k0 : (0 : Int) ≤ (k : Int) := by omega
      have k1 : (k : Int) < (ss.length : Int) := by omega
      have k2 : (ss.length : Int) ≤ 1000 := by omega
      have ES := Lib.hid es
      clear es
      by_cases h32 : s.length = 32
      · have hne : ((s.length : Int) != 32) = false := by rw [bne_eq_false_iff_eq]; omega
        have H32 := Lib.hid h32
        clear h32
        go_wp2_with fail
        go_roundw
        case rel =>
          refine ⟨k + 1, by omega, by go_num, fun j hj => ?_, trivial⟩
          by_cases hjk : j < k
          · exact hall.out j hjk
          · obtain rfl : j = k := by omega
            rw [← ES.out]; exact H32.out
        case measure => simp [intOf]; omega
      · have hne : ((s.length : Int) != 32) = true := by rw [bne_iff_ne]; omega
        have hf : (ss.all fun s => s.length == 32) = false := by
          rw [List.all_eq_false]
          refine ⟨s, ?_, by simpa using h32⟩
          rw [ES.out, List.getD_eq_getElem?_getD, List.getElem?_eq_getElem hlt]
          exact List.getElem_mem hlt
        have HF := Lib.hid hf
        clear h32 hf
        go_wp2_with fail
        go_ret
        exact ⟨by rw [HF.out]; rfl, rfl⟩
    · obtain rfl : k = ss.length := by omega
      have ht : (ss.all fun s => s.length == 32) = true := by
        rw [List.all_eq_true]
        intro s hs
        obtain ⟨j, hj, rfl⟩ := List.getElem_of_mem hs
        have := hall.out j hj
        rw [List.getD_eq_getElem?_getD, List.getElem?_eq_getElem hj] at this
        simpa using this
      have HT := Lib.hid ht
      clear ht
      go_wp2_with fail
      go_ret
      exact ⟨by rw [HT.out]; rfl, rfl⟩

theorem keys_one (s : List UInt8) (b : Nat) (w : World) (hc : w.cell? ⟨b, 0, none⟩ = some (.string ⟨s.toArray⟩)) :
    Calls Tryd.prog 37 #[.slice (some ⟨b, 0, none⟩) 1 1] w fun e w' => e = .returned (.bool (decide (s.length = 32))) ∧ w = w' := by
  have h := keys_any [s] b w (by simp) (fun j hj => by
    match j, hj with
    | 0, _ => exact hc)
  rw [show ([s].all fun s => s.length == 32) = decide (s.length = 32) from by simp; rfl] at h
  exact h
theorem keys_two (s t : List UInt8) (b : Nat) (w : World) (hc : w.cell? ⟨b, 0, none⟩ = some (.string ⟨s.toArray⟩)) (hd : w.cell? ⟨b, 1, none⟩ = some (.string ⟨t.toArray⟩)) :
    Calls Tryd.prog 37 #[.slice (some ⟨b, 0, none⟩) 2 2] w fun e w' => e = .returned (.bool (decide (s.length = 32 ∧ t.length = 32))) ∧ w = w' := by
  have h := keys_any [s, t] b w (by simp) (fun j hj => by
    match j, hj with
    | 0, _ => exact hc
    | 1, _ => exact hd)
  rw [show ([s, t].all fun s => s.length == 32) = decide (s.length = 32 ∧ t.length = 32) from by simp; rfl] at h
  exact h

theorem within_any (key : List UInt8) (f n : Int) (w : World) (f0 : -9223372036854775808 ≤ f) (f1 : f ≤ 9223372036854775807) (n0 : -9223372036854775808 ≤ n) (n1 : n ≤ 9223372036854775807) :
    Calls Tryd.prog 32 #[.string ⟨key.toArray⟩, .int .i64 f, .int .i64 n] w fun e w' => e = .returned (.int .i64 (withinV key f n)) ∧ Below w.heap.size w w' := by
  have hB : Below w.heap.size w (w.alloc (.cells #[.string ⟨key.toArray⟩] 9)) := (Below.refl _ w).alloc (Nat.le_refl _) _
  have HB := Lib.hid hB
  clear hB
  by_cases hk : key.length = 32
  · have hd : decide (key.length = 32) = true := by simpa using hk
    have key1 : ∀ r, withinV key f n = r → Calls Tryd.prog 32 #[.string ⟨key.toArray⟩, .int .i64 f, .int .i64 n] w (fun e w' => e = .returned (.int .i64 r) ∧ Below w.heap.size w w') → Calls Tryd.prog 32 #[.string ⟨key.toArray⟩, .int .i64 f, .int .i64 n] w (fun e w' => e = .returned (.int .i64 (withinV key f n)) ∧ Below w.heap.size w w') := fun r hr h => by rw [hr]; exact h
    have HD := Lib.hid hd
    have W0 : ∀ (p : Prop), Hid p → p := fun p h => h.out
    clear hd W0
    by_cases h1 : f < 0
    · refine key1 21 (by unfold withinV; rw [if_neg (by simpa using hk), if_pos (by omega)]) ?_
      clear key1 hk
      go_enter Tryd.func32, Tryd.ntmps32
      go_wp2_with (go_at_call 37; refine (keys_one key _ _ (by simp)).mono ?_; rintro e w' ⟨rfl, rfl⟩; rw [HD.out])
      go_ret
      exact ⟨rfl, HB.out⟩
    by_cases h2 : n < 0
    · refine key1 21 (by unfold withinV; rw [if_neg (by simpa using hk), if_pos (by omega)]) ?_
      clear key1 hk
      go_enter Tryd.func32, Tryd.ntmps32
      go_wp2_with (go_at_call 37; refine (keys_one key _ _ (by simp)).mono ?_; rintro e w' ⟨rfl, rfl⟩; rw [HD.out])
      go_ret
      exact ⟨rfl, HB.out⟩
    by_cases h3 : 65536 < f
    · refine key1 21 (by unfold withinV; rw [if_neg (by simpa using hk), if_pos (by omega)]) ?_
      clear key1 hk
      go_enter Tryd.func32, Tryd.ntmps32
      go_wp2_with (go_at_call 37; refine (keys_one key _ _ (by simp)).mono ?_; rintro e w' ⟨rfl, rfl⟩; rw [HD.out])
      go_ret
      exact ⟨rfl, HB.out⟩
    by_cases h4 : 65536 - f < n
    · refine key1 21 (by unfold withinV; rw [if_neg (by simpa using hk), if_pos (by omega)]) ?_
      clear key1 hk
      go_enter Tryd.func32, Tryd.ntmps32
      go_wp2_with (go_at_call 37; refine (keys_one key _ _ (by simp)).mono ?_; rintro e w' ⟨rfl, rfl⟩; rw [HD.out])
      go_ret
      exact ⟨rfl, HB.out⟩
    · refine key1 0 (by unfold withinV; rw [if_neg (by simpa using hk), if_neg (by omega)]) ?_
      clear key1 hk
      go_enter Tryd.func32, Tryd.ntmps32
      go_wp2_with (go_at_call 37; refine (keys_one key _ _ (by simp)).mono ?_; rintro e w' ⟨rfl, rfl⟩; rw [HD.out])
      go_ret
      exact ⟨rfl, HB.out⟩
  · have hd : decide (key.length = 32) = false := by simpa using hk
    have e : withinV key f n = 20 := by unfold withinV; rw [if_pos (by simpa using hk)]
    rw [e]
    have HD := Lib.hid hd
    clear hd e hk
    go_enter Tryd.func32, Tryd.ntmps32
    go_wp2_with (go_at_call 37; refine (keys_one key _ _ (by simp)).mono ?_; rintro e w' ⟨rfl, rfl⟩; rw [HD.out])
    go_ret
    exact ⟨rfl, HB.out⟩
end Go.Proofs.YtpdnbdfkcpofaaaDoor
