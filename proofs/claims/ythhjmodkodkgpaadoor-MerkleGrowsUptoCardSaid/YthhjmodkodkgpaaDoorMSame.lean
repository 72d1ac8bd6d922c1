/- merkle.same. -/
import Derived.Test.YthhjmodkodkgpaaDoorMDigest
import Derived.ChangeKeysEq
namespace Go.Proofs.YthhjmodkodkgpaaDoor
open Go.RowKit Sbx Go.Sort
theorem eqItems_bytes (a b : List UInt8) (w : World) (d : Nat) : ∀ is : List Nat, (∀ i ∈ is, i < a.length ∧ i < b.length) →
    (Op.eqItems (d + 1) 5 1 (b8s a).toArray (b8s b).toArray is).run Tryd.prog w = .ok (is.all fun i => a.getD i 0 == b.getD i 0) w
  | [], _ => by simp [Op.eqItems]
  | i :: is, h => by
    have hi := h i (by simp)
    have hpa := run_part_plain (P := Tryd.prog) w (e := 5) (by kernel_rfl) (xs := (b8s a).toArray) (off := i) (by rw [List.getElem?_toArray, b8s_get a i hi.1])
    have hpb := run_part_plain (P := Tryd.prog) w (e := 5) (by kernel_rfl) (xs := (b8s b).toArray) (off := i) (by rw [List.getElem?_toArray, b8s_get b i hi.2])
    have ih := eqItems_bytes a b w d is (fun j hj => h j (by simp [hj]))
    have he := run_equalIn_int (P := Tryd.prog) w d 5 .u8 .u8 (a.getD i 0).toNat (b.getD i 0).toNat Tryd.underlying5
    simp only [Op.eqItems, Nat.mul_one, Sem.run_bind, hpa, hpb, he, Result.andThen_ok]
    have hbb : (((a.getD i 0).toNat : Int) == ((b.getD i 0).toNat : Int)) = (a.getD i 0 == b.getD i 0) := by
      rw [Bool.eq_iff_iff, beq_iff_eq, beq_iff_eq]
      constructor
      · intro e
        exact UInt8.toNat_inj.1 (by omega)
      · intro e
        rw [e]
    rw [hbb]
    rw [List.all_cons]
    cases hq : (a.getD i 0 == b.getD i 0)
    · simp
    · simpa using ih
theorem info_u8s : ∃ i, Tryd.prog.info? 5 = some i := by
  cases h : Tryd.prog.info? 5 with
  | none => exact absurd h (by decide +kernel)
  | some i => exact ⟨i, rfl⟩
theorem all_range_eq (a b : List UInt8) (ha : a.length = 32) (hb : b.length = 32) : ((List.range 32).all fun i => a.getD i 0 == b.getD i 0) = decide (a = b) := by
  rw [Bool.eq_iff_iff, List.all_eq_true, decide_eq_true_iff]
  constructor
  · intro h
    apply List.ext_getElem (by omega)
    intro i h1 h2
    have := h i (by simp; omega)
    rw [beq_iff_eq, List.getD_eq_getElem?_getD, List.getD_eq_getElem?_getD, List.getElem?_eq_getElem h1, List.getElem?_eq_getElem h2] at this
    exact this
  · rintro rfl i _
    simp
theorem eq_digest (a b : List UInt8) (w : World) (ha : a.length = 32) (hb : b.length = 32) :
    (Op.equalIn 10000 84 (Value.agg (b8s a).toArray) (Value.agg (b8s b).toArray)).run Tryd.prog w = .ok (decide (a = b)) w := by
  obtain ⟨i, hi⟩ := info_u8s
  rw [run_equalIn_array (P := Tryd.prog) w 9999 _ _ Tryd.underlying84 hi]
  rw [show Tryd.prog.cellsOf 5 = 1 from by kernel_rfl, ← all_range_eq a b ha hb]
  exact eqItems_bytes a b w 9998 (List.range 32) (fun j hj => by simp at hj; omega)
set_option maxRecDepth 100000 in
theorem same_any (a b : List UInt8) (w : World) (ha : a.length = 32) (hb : b.length = 32) :
    Calls Tryd.prog 53 #[.string ⟨a.toArray⟩, .string ⟨b.toArray⟩] w fun e w' => e = .returned (.bool (decide (a = b))) ∧ Below w.heap.size w w' := by
  have HA := Lib.hid (fun W => digestOf_any a W ha)
  have HB := Lib.hid (fun W => digestOf_any b W hb)
  have H0 := Bl.start w
  have hq := fun W => eq_digest a b W ha hb
  obtain ⟨r, er⟩ : ∃ r, r = decide (a = b) := ⟨_, rfl⟩
  rw [← er] at hq ⊢
  clear ha hb er
  go_enter Tryd.func53, Tryd.ntmps53
  go_wp2_with (first
    | (go_at_call 71; refine (Bl.call H0 HA.out).mono ?_; clear H0 HA; rintro e w1 ⟨rfl, H0⟩)
    | (go_at_call 71; refine (Bl.call H0 HB.out).mono ?_; clear H0 HB; rintro e w1 ⟨rfl, H0⟩))
  go_ret
  exact ⟨rfl, H0.out⟩
end Go.Proofs.YthhjmodkodkgpaaDoor
