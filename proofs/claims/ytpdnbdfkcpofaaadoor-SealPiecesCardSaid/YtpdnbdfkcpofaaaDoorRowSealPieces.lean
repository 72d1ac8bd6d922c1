/-
  PROVED: 'strongboxlaw2.SealPieces' returns true for every raw key, place, cuts and text: parts of a stream one behind the other are the whole, a text laid on in pieces is what it is laid on at once, and twice gives back what was there. Conditions: none but the row's own (the two tables hold what the program lays; the form's reach).
-/
import Derived.Test.YtpdnbdfkcpofaaaDoorRowKit
import Derived.Test.YtpdnbdfkcpofaaaDoorArgs
import Derived.Test.YtpdnbdfkcpofaaaDoorGlobLaid
import Derived.Test.YtpdnbdfkcpofaaaDoorLSealPieces
namespace Go.Proofs.YtpdnbdfkcpofaaaDoor.rowSealPieces
open Go.ChangeShapes Go.WideShapes Go.ChangeAt Go.RowKit Sbx
open Go.ChangeMaps (open_string shut_string)

theorem contract (H : Type) (enc : TypeId × Value → H) (W : World) (base : Nat) (args : Array Value) (ds gs : List (DataW H)) (before : List MemPlace)
    (hval : ∀ (j : Nat) t v, Tryd.f5.params[j]? = some t → args[j]? = some v → Value.okWide Tryd.prog W .any base t v)
    (hW : DataW.Whole enc Tryd.prog Tryd.f5.params.toList Rows.sealPiecesSpec.vars false W args.toList ds gs before) (hz : (DataW.weightsEach Tryd.prog (Tryd.f5.params.toList ++ (OpenSpec.ofChange Rows.sealPiecesSpec).bare.plain.varTypes Tryd.prog) (ds ++ gs)).all (· ≤ reachBytes) = true)
    (hL : laidMetH Tryd.prog Rows.sealPiecesRow.laid W) :
    Calls Tryd.prog 5 args W fun e W' => ∃ v, e = .returned v ∧ Rows.sealPiecesSpec.post enc Tryd.prog Tryd.f5 false true false false W args v W' := by
  have hG : Glob W := glob_of_laid hL
  have hW' := hW
  obtain ⟨p, q, hA0, hV, rfl, hfz, hnd⟩ := hW
  have hA : DataW.TrodAll enc Tryd.prog W 0 (fun _ => true) true Tryd.f5.params.toList args.toList ds p := hA0
  obtain ⟨rfl, rfl⟩ := trodVars_none hV
  rw [Tryd.params5] at hA hval
  obtain ⟨v0, vs0, d0, ds0, p0, q0, hargs0, rfl, rfl, h0, r0⟩ := trodAll_cons hA
  obtain ⟨v1, vs1, d1, ds1, p1, q1, hargs1, rfl, rfl, h1, r1⟩ := trodAll_cons r0
  obtain ⟨v2, vs2, d2, ds2, p2, q2, hargs2, rfl, rfl, h2, r2⟩ := trodAll_cons r1
  obtain ⟨v3, vs3, d3, ds3, p3, q3, hargs3, rfl, rfl, h3, r3⟩ := trodAll_cons r2
  obtain ⟨rfl, rfl, rfl⟩ := trodAll_nil r3
  obtain rfl : args = #[v0, v1, v2, v3] := by cases args; simp_all
  obtain ⟨s0, rfl, rfl, rfl, hmax0⟩ := open_string Tryd.underlying9 (hval 0 9 v0 rfl rfl) h0
  obtain ⟨a1, rfl, rfl, rfl, wf1⟩ := open_int Tryd.underlying3 (hval 1 3 v1 rfl rfl) h1
  obtain ⟨A2, cap2, zs2, rfl, hmax2, hr2, hwf2, hd2⟩ := ints_arg (hval 2 29 v2 rfl rfl) h2
  obtain ⟨s3, rfl, rfl, rfl, hmax3⟩ := open_string Tryd.underlying9 (hval 3 9 v3 rfl rfl) h3
  obtain ⟨t0, rfl⟩ := string_list s0
  have hn0 : t0.length ≤ 140737488351232 := sized_string (P := Tryd.prog) hz (j := 0) (t := 9) (bytes := t0) (by kernel_rfl) rfl
  obtain ⟨t3, rfl⟩ := string_list s3
  have hn3 : t3.length ≤ 140737488351232 := sized_string (P := Tryd.prog) hz (j := 3) (t := 9) (bytes := t3) (by kernel_rfl) rfl
  clear hA0 hA h0 h1 h2 h3
  refine (sealpieces_any t0 a1 A2 cap2 zs2 t3 W hG (by omega) (by omega) (wf_i64 wf1).1 (wf_i64 wf1).2 hmax2 hr2 hwf2).mono fun e W1 he => ?_
  exact ⟨_, he.1, post_true rfl (by kernel_rfl) (by kernel_rfl) rfl hW' he.2⟩

theorem reads (os : Os) {H : Type} (enc : TypeId × Value → H) : ∃ places, DataW.whole enc Tryd.prog ((laidWorld os).forCall (fun _ _ => 0) ⟨#[], #[.string .empty, .int .i64 0, .slice none 0 0, .string .empty], []⟩).memory Tryd.f5.params.toList Rows.sealPiecesSpec.vars false (#[.string .empty, .int .i64 0, .slice none 0 0, .string .empty] : Array Value).toList 8 = some ([.lit (.string []), .lit (.int .i64 0), .nil, .lit (.string [])], [], places) :=
  ⟨[], by kernel_rfl⟩
set_option maxRecDepth 100000 in
theorem lifted (os : Os) (started : os.Started) (H : Type) (enc : TypeId × Value → H) (F : Stop.Interp) :
    ReturnsInHanded {} Tryd.checked os 5 .any ((OpenSpec.ofChange Rows.sealPiecesSpec).preRow enc Tryd.prog Tryd.f5 Rows.sealPiecesRow.domain false Rows.sealPiecesRow.laid) (((OpenSpec.ofChange Rows.sealPiecesSpec).at F).post enc Tryd.prog Tryd.f5 false true false false) := by
  obtain ⟨places, hx⟩ := reads os enc
  refine returnsInHanded_of_row (C := Tryd.checked) (s := OpenSpec.ofChange Rows.sealPiecesSpec) own started (by kernel_rfl) Tryd.func5
    (witness_row_at (enc := enc) (C := Tryd.checked) false (laidWorld os) #[.string .empty, .int .i64 0, .slice none 0 0, .string .empty] rfl (by kernel_rfl) (by kernel_rfl) (by kernel_rfl)
      (OpenSpec.preRow_of_cond 8 hx (by kernel_rfl) (fun k hk => by cases hk) (by kernel_rfl) (laid_met os #[.string .empty, .int .i64 0, .slice none 0 0, .string .empty]))) ?_
  intro W base args ds gs before hval hW _ _ hz hL _ _
  exact contract H enc W base args ds gs before hval hW hz hL
theorem said : Rows.sealPiecesRow.holds Tryd.pinned (OpenSpec.ofChange Rows.sealPiecesSpec) :=
  OpenClaim.holds_of_cond 5 Tryd.f5 rfl rfl rfl rfl rfl rfl rfl ⟨rfl, rfl, rfl, rfl, rfl⟩ rfl rfl rfl rfl rfl (by kernel_rfl) Tryd.func5 (by kernel_rfl)
    (of_decide_eq_true (by kernel_rfl)) (by unfold Func.isWrapper; first | (rw [if_pos (by decide +kernel)]; kernel_rfl) | (rw [if_neg (by decide +kernel)]; exact ⟨rfl, rfl⟩))
    (fun os started H enc _ F => by rw [OpenClaim.pre_eq_preRow]; exact lifted os started H enc F)
/-- THE STATEMENT: the tied card. -/
theorem card : Rows.SealPiecesCardSaid :=
  Claim7.holds_tied_plain_at .later [] _ _ _ _ said (fun _ h => by cases h) (by kernel_rfl) (fun _ h => by cases h) sealPieces_row_tie rfl ⟨rfl, rfl⟩ (by kernel_rfl) rfl (plain_of (by kernel_rfl) Tryd.func5 (by kernel_rfl)) (by kernel_rfl)
#print axioms card
end Go.Proofs.YtpdnbdfkcpofaaaDoor.rowSealPieces
