/-
  PROVED: 'strongboxlaw1.HashParts' returns true for any script on a Hasher and its Clones whose values and letters are at most 1048576: each tells the digest of all that it has taken, whatever was taken by others, however it was cut. Conditions: that bound (the second form: what a Hasher has taken is put together in one text), and the row's own (the two tables hold what the program lays; the form's reach).
-/
import Derived.Test.YticmnckkhbniaaaDoorRowKit
import Derived.Test.YticmnckkhbniaaaDoorArgs
import Derived.Test.YticmnckkhbniaaaDoorGlobLaid
import Derived.Test.YticmnckkhbniaaaDoorLHashParts
import Derived.Test.YticmnckkhbniaaaDoorBulk
namespace Go.Proofs.YticmnckkhbniaaaDoor.rowHashParts
open Go.ChangeShapes Go.WideShapes Go.ChangeAt Go.RowKit Sbx
open Go.ChangeMaps (open_string shut_string)

theorem contract (H : Type) (enc : TypeId × Value → H) (W : World) (base : Nat) (args : Array Value) (ds gs : List (DataW H)) (before : List MemPlace)
    (hval : ∀ (j : Nat) t v, Tryd.f7.params[j]? = some t → args[j]? = some v → Value.okWide Tryd.prog W .any base t v)
    (hW : DataW.Whole enc Tryd.prog Tryd.f7.params.toList Rows.hashPartsSpec.vars false W args.toList ds gs before) (hk : Rows.uptoSmall H (ds ++ gs) = true)
    (hL : laidMetH Tryd.prog Rows.hashPartsUptoRow.laid W) :
    Calls Tryd.prog 7 args W fun e W' => ∃ v, e = .returned v ∧ Rows.hashPartsSpec.post enc Tryd.prog Tryd.f7 false true false false W args v W' := by
  have hG : Glob W := glob_of_laid hL
  have hW' := hW
  obtain ⟨p, q, hA0, hV, rfl, hfz, hnd⟩ := hW
  have hA : DataW.TrodAll enc Tryd.prog W 0 (fun _ => true) true Tryd.f7.params.toList args.toList ds p := hA0
  obtain ⟨rfl, rfl⟩ := trodVars_none hV
  rw [Tryd.params7] at hA hval
  obtain ⟨v0, vs0, d0, ds0, p0, q0, hargs0, rfl, rfl, h0, r0⟩ := trodAll_cons hA
  obtain ⟨rfl, rfl, rfl⟩ := trodAll_nil r0
  obtain rfl : args = #[v0] := by cases args; simp_all
  obtain ⟨A0, cap0, ps0, rfl, hmax0, hr0, hwf0, hbk0⟩ := parts_arg (hval 0 38 v0 rfl rfl) h0
  have hbulk := bulks.bound hk
  have hbb0 : PBulk ps0 ≤ 1048576 := Nat.le_trans hbk0 (Nat.le_trans (bulks.part_le (List.mem_append_left _ (by simp))) hbulk)
  clear hA0 hA h0
  refine (hashparts_any A0 cap0 ps0 W hG (Nat.le_trans (pbulk_length ps0) hbb0) hr0 hwf0 hbb0).mono fun e W1 he => ?_
  exact ⟨_, he.1, post_true rfl (by kernel_rfl) (by kernel_rfl) rfl hW' he.2⟩

theorem reads (os : Os) {H : Type} (enc : TypeId × Value → H) : ∃ places, DataW.whole enc Tryd.prog ((laidWorld os).forCall (fun _ _ => 0) ⟨#[], #[.slice none 0 0], []⟩).memory Tryd.f7.params.toList Rows.hashPartsSpec.vars false (#[.slice none 0 0] : Array Value).toList 8 = some ([.nil], [], places) :=
  ⟨[], by kernel_rfl⟩
set_option maxRecDepth 100000 in
theorem lifted (os : Os) (started : os.Started) (H : Type) (enc : TypeId × Value → H) (F : Stop.Interp) :
    ReturnsInHanded {} Tryd.checked os 7 .any ((Rows.OpenSpec.upto Rows.hashPartsSpec).preRow enc Tryd.prog Tryd.f7 Rows.hashPartsUptoRow.domain false Rows.hashPartsUptoRow.laid) (((Rows.OpenSpec.upto Rows.hashPartsSpec).at F).post enc Tryd.prog Tryd.f7 false true false false) := by
  obtain ⟨places, hx⟩ := reads os enc
  refine returnsInHanded_of_row (C := Tryd.checked) (s := Rows.OpenSpec.upto Rows.hashPartsSpec) own started (by kernel_rfl) Tryd.func7
    (witness_row_at (enc := enc) (C := Tryd.checked) false (laidWorld os) #[.slice none 0 0] rfl (by kernel_rfl) (by kernel_rfl) (by kernel_rfl)
      (OpenSpec.preRow_of_cond 8 hx (by kernel_rfl) (fun k hk => by cases hk; kernel_rfl) (by kernel_rfl) (laid_met os #[.slice none 0 0]))) ?_
  intro W base args ds gs before hval hW _ hcond _ hL _ _
  exact contract H enc W base args ds gs before hval hW (hcond _ rfl) hL
theorem said : Rows.hashPartsUptoRow.holds Tryd.pinned (Rows.OpenSpec.upto Rows.hashPartsSpec) :=
  OpenClaim.holds_of_cond 7 Tryd.f7 rfl rfl rfl rfl rfl rfl rfl ⟨rfl, rfl, rfl, rfl, rfl⟩ rfl rfl rfl rfl rfl (by kernel_rfl) Tryd.func7 (by kernel_rfl)
    (of_decide_eq_true (by kernel_rfl)) (by unfold Func.isWrapper; first | (rw [if_pos (by decide +kernel)]; kernel_rfl) | (rw [if_neg (by decide +kernel)]; exact ⟨rfl, rfl⟩))
    (fun os started H enc _ F => by rw [OpenClaim.pre_eq_preRow]; exact lifted os started H enc F)
/-- THE STATEMENT: the tied card. -/
theorem card : Rows.HashPartsUptoCardSaid :=
  Claim7.holds_tied_plain_at .later [] _ _ _ _ said (fun _ h => by cases h) (by kernel_rfl) (fun _ h => by cases h) hashPartsUpto_row_tie rfl ⟨rfl, rfl⟩ (by kernel_rfl) rfl (plain_of (by kernel_rfl) Tryd.func7 (by kernel_rfl)) (by kernel_rfl)
#print axioms card
end Go.Proofs.YticmnckkhbniaaaDoor.rowHashParts
