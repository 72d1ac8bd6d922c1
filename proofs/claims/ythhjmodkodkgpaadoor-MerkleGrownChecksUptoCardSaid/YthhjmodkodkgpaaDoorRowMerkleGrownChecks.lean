/-
  PROVED: 'strongboxlaw19.MerkleGrownChecks' returns true for every two roots, numbers and proof: CheckGrown answers as the document does, and leaves the proof as it was. Conditions: none but the row's own (the two tables hold what the program lays; the form's reach).
-/
import Derived.Test.YthhjmodkodkgpaaDoorRowKit
import Derived.Test.YthhjmodkodkgpaaDoorStrArgs
import Derived.Test.YthhjmodkodkgpaaDoorGlobLaid
import Derived.Test.YthhjmodkodkgpaaDoorLMerkleGrownChecks
import Derived.Test.YthhjmodkodkgpaaDoorBulk
namespace Go.Proofs.YthhjmodkodkgpaaDoor.rowMerkleGrownChecks
open Go.ChangeShapes Go.WideShapes Go.ChangeAt Go.RowKit Sbx
open Go.ChangeMaps (open_string shut_string)

set_option maxRecDepth 100000 in
theorem contract (H : Type) (enc : TypeId × Value → H) (W : World) (base : Nat) (args : Array Value) (ds gs : List (DataW H)) (before : List MemPlace)
    (hval : ∀ (j : Nat) t v, Tryd.f9.params[j]? = some t → args[j]? = some v → Value.okWide Tryd.prog W .any base t v)
    (hW : DataW.Whole enc Tryd.prog Tryd.f9.params.toList Rows.merkleGrownChecksSpec.vars false W args.toList ds gs before) (hk : Rows.uptoSmall H (ds ++ gs) = true)
    (hL : laidMetH Tryd.prog Rows.merkleGrownChecksUptoRow.laid W) :
    Calls Tryd.prog 9 args W fun e W' => ∃ v, e = .returned v ∧ Rows.merkleGrownChecksSpec.post enc Tryd.prog Tryd.f9 false true false false W args v W' := by
  have hG : Glob W := glob_of_laid hL
  have hW' := hW
  obtain ⟨p, q, hA0, hV, rfl, hfz, hnd⟩ := hW
  have hA : DataW.TrodAll enc Tryd.prog W 0 (fun _ => true) true Tryd.f9.params.toList args.toList ds p := hA0
  obtain ⟨rfl, rfl⟩ := trodVars_none hV
  rw [Tryd.params9] at hA hval
  obtain ⟨v0, vs0, d0, ds0, p0, q0, hargs0, rfl, rfl, h0, r0⟩ := trodAll_cons hA
  obtain ⟨v1, vs1, d1, ds1, p1, q1, hargs1, rfl, rfl, h1, r1⟩ := trodAll_cons r0
  obtain ⟨v2, vs2, d2, ds2, p2, q2, hargs2, rfl, rfl, h2, r2⟩ := trodAll_cons r1
  obtain ⟨v3, vs3, d3, ds3, p3, q3, hargs3, rfl, rfl, h3, r3⟩ := trodAll_cons r2
  obtain ⟨v4, vs4, d4, ds4, p4, q4, hargs4, rfl, rfl, h4, r4⟩ := trodAll_cons r3
  obtain ⟨rfl, rfl, rfl⟩ := trodAll_nil r4
  obtain rfl : args = #[v0, v1, v2, v3, v4] := by cases args; simp_all
  obtain ⟨s0, rfl, rfl, rfl, hmax0⟩ := open_string Tryd.underlying9 (hval 0 9 v0 rfl rfl) h0
  obtain ⟨a1, rfl, rfl, rfl, wf1⟩ := open_int Tryd.underlying3 (hval 1 3 v1 rfl rfl) h1
  obtain ⟨s2, rfl, rfl, rfl, hmax2⟩ := open_string Tryd.underlying9 (hval 2 9 v2 rfl rfl) h2
  obtain ⟨a3, rfl, rfl, rfl, wf3⟩ := open_int Tryd.underlying3 (hval 3 3 v3 rfl rfl) h3
  obtain ⟨A4, cap4, ps4, rfl, hcap4, hmax4, hr4, hbk4, hd4⟩ := strings_arg (hval 4 22 v4 rfl rfl) h4
  obtain ⟨t0, rfl⟩ := string_list s0
  obtain ⟨t2, rfl⟩ := string_list s2
  have hbulk := bulks.bound hk
  have hb0 : t0.length ≤ 1048576 := by
    have h1 : Rows.uptoBulk (DataW.lit (H := H) (.string t0)) ≤ 1048576 := Nat.le_trans (bulks.part_le (List.mem_append_left _ (by simp))) hbulk
    rw [bulks.string_eq] at h1; omega
  have hb2 : t2.length ≤ 1048576 := by
    have h1 : Rows.uptoBulk (DataW.lit (H := H) (.string t2)) ≤ 1048576 := Nat.le_trans (bulks.part_le (List.mem_append_left _ (by simp))) hbulk
    rw [bulks.string_eq] at h1; omega
  have hbb4 : SBulk ps4 ≤ 1048576 := Nat.le_trans hbk4 (Nat.le_trans (bulks.part_le (List.mem_append_left _ (by simp))) hbulk)
  clear hA0 hA h0 h1 h2 h3 h4
  refine (merklegrownchecks_any t0 a1 t2 a3 ps4 A4 cap4 W hG hb0 hb2 (Nat.le_trans (sbulk_length ps4) hbb4) hcap4 hr4).mono fun e W1 he => ?_
  exact ⟨_, he.1, post_true rfl (by kernel_rfl) (by kernel_rfl) rfl hW' he.2⟩

theorem reads (os : Os) {H : Type} (enc : TypeId × Value → H) : ∃ places, DataW.whole enc Tryd.prog ((laidWorld os).forCall (fun _ _ => 0) ⟨#[], #[.string .empty, .int .i64 0, .string .empty, .int .i64 0, .slice none 0 0], []⟩).memory Tryd.f9.params.toList Rows.merkleGrownChecksSpec.vars false (#[.string .empty, .int .i64 0, .string .empty, .int .i64 0, .slice none 0 0] : Array Value).toList 8 = some ([.lit (.string []), .lit (.int .i64 0), .lit (.string []), .lit (.int .i64 0), .nil], [], places) :=
  ⟨[], by kernel_rfl⟩
set_option maxRecDepth 100000 in
theorem lifted (os : Os) (started : os.Started) (H : Type) (enc : TypeId × Value → H) (F : Stop.Interp) :
    ReturnsInHanded {} Tryd.checked os 9 .any ((Rows.OpenSpec.upto Rows.merkleGrownChecksSpec).preRow enc Tryd.prog Tryd.f9 Rows.merkleGrownChecksUptoRow.domain false Rows.merkleGrownChecksUptoRow.laid) (((Rows.OpenSpec.upto Rows.merkleGrownChecksSpec).at F).post enc Tryd.prog Tryd.f9 false true false false) := by
  obtain ⟨places, hx⟩ := reads os enc
  refine returnsInHanded_of_row (C := Tryd.checked) (s := Rows.OpenSpec.upto Rows.merkleGrownChecksSpec) own started (by kernel_rfl) Tryd.func9
    (witness_row_at (enc := enc) (C := Tryd.checked) false (laidWorld os) #[.string .empty, .int .i64 0, .string .empty, .int .i64 0, .slice none 0 0] rfl (by kernel_rfl) (by kernel_rfl) (by kernel_rfl)
      (OpenSpec.preRow_of_cond 8 hx (by kernel_rfl) (fun k hk => by cases hk; kernel_rfl) (by kernel_rfl) (laid_met os #[.string .empty, .int .i64 0, .string .empty, .int .i64 0, .slice none 0 0]))) ?_
  intro W base args ds gs before hval hW _ hcond _ hL _ _
  exact contract H enc W base args ds gs before hval hW (hcond _ rfl) hL
theorem said : Rows.merkleGrownChecksUptoRow.holds Tryd.pinned (Rows.OpenSpec.upto Rows.merkleGrownChecksSpec) :=
  OpenClaim.holds_of_cond 9 Tryd.f9 rfl rfl rfl rfl rfl rfl rfl ⟨rfl, rfl, rfl, rfl, rfl⟩ rfl rfl rfl rfl rfl (by kernel_rfl) Tryd.func9 (by kernel_rfl)
    (of_decide_eq_true (by kernel_rfl)) (by unfold Func.isWrapper; first | (rw [if_pos (by decide +kernel)]; kernel_rfl) | (rw [if_neg (by decide +kernel)]; exact ⟨rfl, rfl⟩))
    (fun os started H enc _ F => by rw [OpenClaim.pre_eq_preRow]; exact lifted os started H enc F)
/-- THE STATEMENT: the tied card. -/
theorem card : Rows.MerkleGrownChecksUptoCardSaid :=
  Claim7.holds_tied_plain_at .later [] _ _ _ _ said (fun _ h => by cases h) (by kernel_rfl) (fun _ h => by cases h) merkleGrownChecksUpto_row_tie rfl ⟨rfl, rfl⟩ (by kernel_rfl) rfl (plain_of (by kernel_rfl) Tryd.func9 (by kernel_rfl)) (by kernel_rfl)
#print axioms card
end Go.Proofs.YthhjmodkodkgpaaDoor.rowMerkleGrownChecks
