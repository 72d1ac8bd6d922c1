/-
  PROVED: 'strongboxlaw2.SealKeys' returns true for every domain and block: BlockKey, Seal and Digest answer as the document does. Conditions: none but the row's own (the two tables hold what the program lays; the form's reach).
-/
import Derived.Test.YtpdnbdfkcpofaaaDoorRowKit
import Derived.Test.YtpdnbdfkcpofaaaDoorArgs
import Derived.Test.YtpdnbdfkcpofaaaDoorGlobLaid
import Derived.Test.YtpdnbdfkcpofaaaDoorLSealKeys
namespace Go.Proofs.YtpdnbdfkcpofaaaDoor.rowSealKeys
open Go.ChangeShapes Go.WideShapes Go.ChangeAt Go.RowKit Sbx
open Go.ChangeMaps (open_string shut_string)

theorem contract (H : Type) (enc : TypeId × Value → H) (W : World) (base : Nat) (args : Array Value) (ds gs : List (DataW H)) (before : List MemPlace)
    (hval : ∀ (j : Nat) t v, Tryd.f6.params[j]? = some t → args[j]? = some v → Value.okWide Tryd.prog W .any base t v)
    (hW : DataW.Whole enc Tryd.prog Tryd.f6.params.toList Rows.sealKeysSpec.vars false W args.toList ds gs before) (hz : (DataW.weightsEach Tryd.prog (Tryd.f6.params.toList ++ (OpenSpec.ofChange Rows.sealKeysSpec).bare.plain.varTypes Tryd.prog) (ds ++ gs)).all (· ≤ reachBytes) = true)
    (hL : laidMetH Tryd.prog Rows.sealKeysRow.laid W) :
    Calls Tryd.prog 6 args W fun e W' => ∃ v, e = .returned v ∧ Rows.sealKeysSpec.post enc Tryd.prog Tryd.f6 false true false false W args v W' := by
  have hG : Glob W := glob_of_laid hL
  have hW' := hW
  obtain ⟨p, q, hA0, hV, rfl, hfz, hnd⟩ := hW
  have hA : DataW.TrodAll enc Tryd.prog W 0 (fun _ => true) true Tryd.f6.params.toList args.toList ds p := hA0
  obtain ⟨rfl, rfl⟩ := trodVars_none hV
  rw [Tryd.params6] at hA hval
  obtain ⟨v0, vs0, d0, ds0, p0, q0, hargs0, rfl, rfl, h0, r0⟩ := trodAll_cons hA
  obtain ⟨v1, vs1, d1, ds1, p1, q1, hargs1, rfl, rfl, h1, r1⟩ := trodAll_cons r0
  obtain ⟨rfl, rfl, rfl⟩ := trodAll_nil r1
  obtain rfl : args = #[v0, v1] := by cases args; simp_all
  obtain ⟨s0, rfl, rfl, rfl, hmax0⟩ := open_string Tryd.underlying9 (hval 0 9 v0 rfl rfl) h0
  obtain ⟨s1, rfl, rfl, rfl, hmax1⟩ := open_string Tryd.underlying9 (hval 1 9 v1 rfl rfl) h1
  obtain ⟨t0, rfl⟩ := string_list s0
  have hn0 : t0.length ≤ 140737488351232 := sized_string (P := Tryd.prog) hz (j := 0) (t := 9) (bytes := t0) (by kernel_rfl) rfl
  obtain ⟨t1, rfl⟩ := string_list s1
  have hn1 : t1.length ≤ 140737488351232 := sized_string (P := Tryd.prog) hz (j := 1) (t := 9) (bytes := t1) (by kernel_rfl) rfl
  clear hA0 hA h0 h1
  refine (sealkeys_any t0 t1 W hG).mono fun e W1 he => ?_
  exact ⟨_, he.1, post_true rfl (by kernel_rfl) (by kernel_rfl) rfl hW' he.2⟩

theorem reads (os : Os) {H : Type} (enc : TypeId × Value → H) : ∃ places, DataW.whole enc Tryd.prog ((laidWorld os).forCall (fun _ _ => 0) ⟨#[], #[.string .empty, .string .empty], []⟩).memory Tryd.f6.params.toList Rows.sealKeysSpec.vars false (#[.string .empty, .string .empty] : Array Value).toList 8 = some ([.lit (.string []), .lit (.string [])], [], places) :=
  ⟨[], by kernel_rfl⟩
set_option maxRecDepth 100000 in
theorem lifted (os : Os) (started : os.Started) (H : Type) (enc : TypeId × Value → H) (F : Stop.Interp) :
    ReturnsInHanded {} Tryd.checked os 6 .any ((OpenSpec.ofChange Rows.sealKeysSpec).preRow enc Tryd.prog Tryd.f6 Rows.sealKeysRow.domain false Rows.sealKeysRow.laid) (((OpenSpec.ofChange Rows.sealKeysSpec).at F).post enc Tryd.prog Tryd.f6 false true false false) := by
  obtain ⟨places, hx⟩ := reads os enc
  refine returnsInHanded_of_row (C := Tryd.checked) (s := OpenSpec.ofChange Rows.sealKeysSpec) own started (by kernel_rfl) Tryd.func6
    (witness_row_at (enc := enc) (C := Tryd.checked) false (laidWorld os) #[.string .empty, .string .empty] rfl (by kernel_rfl) (by kernel_rfl) (by kernel_rfl)
      (OpenSpec.preRow_of_cond 8 hx (by kernel_rfl) (fun k hk => by cases hk) (by kernel_rfl) (laid_met os #[.string .empty, .string .empty]))) ?_
  intro W base args ds gs before hval hW _ _ hz hL _ _
  exact contract H enc W base args ds gs before hval hW hz hL
theorem said : Rows.sealKeysRow.holds Tryd.pinned (OpenSpec.ofChange Rows.sealKeysSpec) :=
  OpenClaim.holds_of_cond 6 Tryd.f6 rfl rfl rfl rfl rfl rfl rfl ⟨rfl, rfl, rfl, rfl, rfl⟩ rfl rfl rfl rfl rfl (by kernel_rfl) Tryd.func6 (by kernel_rfl)
    (of_decide_eq_true (by kernel_rfl)) (by unfold Func.isWrapper; first | (rw [if_pos (by decide +kernel)]; kernel_rfl) | (rw [if_neg (by decide +kernel)]; exact ⟨rfl, rfl⟩))
    (fun os started H enc _ F => by rw [OpenClaim.pre_eq_preRow]; exact lifted os started H enc F)
/-- THE STATEMENT: the tied card. -/
theorem card : Rows.SealKeysCardSaid :=
  Claim7.holds_tied_plain_at .later [] _ _ _ _ said (fun _ h => by cases h) (by kernel_rfl) (fun _ h => by cases h) sealKeys_row_tie rfl ⟨rfl, rfl⟩ (by kernel_rfl) rfl (plain_of (by kernel_rfl) Tryd.func6 (by kernel_rfl)) (by kernel_rfl)
#print axioms card
end Go.Proofs.YtpdnbdfkcpofaaaDoor.rowSealKeys
