/-
  PROVED: 'strongboxlaw19.MerkleRoots' returns true for every text, pair of digests and leaves (of the first 5000): Leaf, Node and Root answer as the document does, and leave the leaves as they were. Conditions: none but the row's own (the two tables hold what the program lays; the form's reach).
-/
import Derived.Test.YthhjmodkodkgpaaDoorRowKit
import Derived.Test.YthhjmodkodkgpaaDoorStrArgs
import Derived.Test.YthhjmodkodkgpaaDoorGlobLaid
import Derived.Test.YthhjmodkodkgpaaDoorLMerkleRoots
import Derived.Test.YthhjmodkodkgpaaDoorBulk
namespace Go.Proofs.YthhjmodkodkgpaaDoor.rowMerkleRoots
open Go.ChangeShapes Go.WideShapes Go.ChangeAt Go.RowKit Sbx
open Go.ChangeMaps (open_string shut_string)

set_option maxRecDepth 100000 in
theorem contract (H : Type) (enc : TypeId × Value → H) (W : World) (base : Nat) (args : Array Value) (ds gs : List (DataW H)) (before : List MemPlace)
    (hval : ∀ (j : Nat) t v, Tryd.f5.params[j]? = some t → args[j]? = some v → Value.okWide Tryd.prog W .any base t v)
    (hW : DataW.Whole enc Tryd.prog Tryd.f5.params.toList Rows.merkleRootsSpec.vars false W args.toList ds gs before) (hk : Rows.uptoSmall H (ds ++ gs) = true)
    (hL : laidMetH Tryd.prog Rows.merkleRootsUptoRow.laid W) :
    Calls Tryd.prog 5 args W fun e W' => ∃ v, e = .returned v ∧ Rows.merkleRootsSpec.post enc Tryd.prog Tryd.f5 false true false false W args v W' := by
  have hG : Glob W := glob_of_laid hL
  have hW' := hW
  obtain ⟨p, q, hA0, hV, rfl, hfz, hnd⟩ := hW
  have hA : DataW.TrodAll enc Tryd.prog W 0 (fun _ => true) true Tryd.f5.params.toList args.toList ds p := hA0
  obtain ⟨rfl, rfl⟩ := trodVars_none hV
  rw [Tryd.params5] at hA hval
  obtain ⟨v0, vs0, d0, ds0, p0, q0, hargs0, rfl, rfl, h0, r0⟩ := trodAll_cons hA
  obtain ⟨v1, vs1, d1, ds1, p1, q1, hargs1, rfl, rfl, h1, r1⟩ := trodAll_cons r0
  obtain ⟨v2, vs2, d2, ds2, p2, q2, hargs2, rfl, rfl, h2, r2⟩ := trodAll_cons r1
  obtain ⟨v3, vs3, d3, ds3, p3, q3, hargs3, rfl, rfl, h3, r3⟩ := trodAll_cons r2
  obtain ⟨rfl, rfl, rfl⟩ := trodAll_nil r3
  obtain rfl : args = #[v0, v1, v2, v3] := by cases args; simp_all
  obtain ⟨s0, rfl, rfl, rfl, hmax0⟩ := open_string Tryd.underlying9 (hval 0 9 v0 rfl rfl) h0
  obtain ⟨s1, rfl, rfl, rfl, hmax1⟩ := open_string Tryd.underlying9 (hval 1 9 v1 rfl rfl) h1
  obtain ⟨s2, rfl, rfl, rfl, hmax2⟩ := open_string Tryd.underlying9 (hval 2 9 v2 rfl rfl) h2
  obtain ⟨A3, cap3, ps3, rfl, hcap3, hmax3, hr3, hbk3, hd3⟩ := strings_arg (hval 3 22 v3 rfl rfl) h3
  obtain ⟨t0, rfl⟩ := string_list s0
  obtain ⟨t1, rfl⟩ := string_list s1
  obtain ⟨t2, rfl⟩ := string_list s2
  have hbulk := bulks.bound hk
  have hb0 : t0.length ≤ 1048576 := by
    have h1 : Rows.uptoBulk (DataW.lit (H := H) (.string t0)) ≤ 1048576 := Nat.le_trans (bulks.part_le (List.mem_append_left _ (by simp))) hbulk
    rw [bulks.string_eq] at h1; omega
  have hb1 : t1.length ≤ 1048576 := by
    have h1 : Rows.uptoBulk (DataW.lit (H := H) (.string t1)) ≤ 1048576 := Nat.le_trans (bulks.part_le (List.mem_append_left _ (by simp))) hbulk
    rw [bulks.string_eq] at h1; omega
  have hb2 : t2.length ≤ 1048576 := by
    have h1 : Rows.uptoBulk (DataW.lit (H := H) (.string t2)) ≤ 1048576 := Nat.le_trans (bulks.part_le (List.mem_append_left _ (by simp))) hbulk
    rw [bulks.string_eq] at h1; omega
  have hbb3 : SBulk ps3 ≤ 1048576 := Nat.le_trans hbk3 (Nat.le_trans (bulks.part_le (List.mem_append_left _ (by simp))) hbulk)
  clear hA0 hA h0 h1 h2 h3
  refine (merkleroots_any t0 t1 t2 ps3 A3 cap3 W hG hb0 hb1 hb2 (Nat.le_trans (sbulk_length ps3) hbb3) (fun s hs => by have := sbulk_mem ps3 s hs; omega) hcap3 hmax3 hr3).mono fun e W1 he => ?_
  exact ⟨_, he.1, post_true rfl (by kernel_rfl) (by kernel_rfl) rfl hW' he.2⟩

theorem reads (os : Os) {H : Type} (enc : TypeId × Value → H) : ∃ places, DataW.whole enc Tryd.prog ((laidWorld os).forCall (fun _ _ => 0) ⟨#[], #[.string .empty, .string .empty, .string .empty, .slice none 0 0], []⟩).memory Tryd.f5.params.toList Rows.merkleRootsSpec.vars false (#[.string .empty, .string .empty, .string .empty, .slice none 0 0] : Array Value).toList 8 = some ([.lit (.string []), .lit (.string []), .lit (.string []), .nil], [], places) :=
  ⟨[], by kernel_rfl⟩
set_option maxRecDepth 100000 in
theorem lifted (os : Os) (started : os.Started) (H : Type) (enc : TypeId × Value → H) (F : Stop.Interp) :
    ReturnsInHanded {} Tryd.checked os 5 .any ((Rows.OpenSpec.upto Rows.merkleRootsSpec).preRow enc Tryd.prog Tryd.f5 Rows.merkleRootsUptoRow.domain false Rows.merkleRootsUptoRow.laid) (((Rows.OpenSpec.upto Rows.merkleRootsSpec).at F).post enc Tryd.prog Tryd.f5 false true false false) := by
  obtain ⟨places, hx⟩ := reads os enc
  refine returnsInHanded_of_row (C := Tryd.checked) (s := Rows.OpenSpec.upto Rows.merkleRootsSpec) own started (by kernel_rfl) Tryd.func5
    (witness_row_at (enc := enc) (C := Tryd.checked) false (laidWorld os) #[.string .empty, .string .empty, .string .empty, .slice none 0 0] rfl (by kernel_rfl) (by kernel_rfl) (by kernel_rfl)
      (OpenSpec.preRow_of_cond 8 hx (by kernel_rfl) (fun k hk => by cases hk; kernel_rfl) (by kernel_rfl) (laid_met os #[.string .empty, .string .empty, .string .empty, .slice none 0 0]))) ?_
  intro W base args ds gs before hval hW _ hcond _ hL _ _
  exact contract H enc W base args ds gs before hval hW (hcond _ rfl) hL
theorem said : Rows.merkleRootsUptoRow.holds Tryd.pinned (Rows.OpenSpec.upto Rows.merkleRootsSpec) :=
  OpenClaim.holds_of_cond 5 Tryd.f5 rfl rfl rfl rfl rfl rfl rfl ⟨rfl, rfl, rfl, rfl, rfl⟩ rfl rfl rfl rfl rfl (by kernel_rfl) Tryd.func5 (by kernel_rfl)
    (of_decide_eq_true (by kernel_rfl)) (by unfold Func.isWrapper; first | (rw [if_pos (by decide +kernel)]; kernel_rfl) | (rw [if_neg (by decide +kernel)]; exact ⟨rfl, rfl⟩))
    (fun os started H enc _ F => by rw [OpenClaim.pre_eq_preRow]; exact lifted os started H enc F)
/-- THE STATEMENT: the tied card. -/
theorem card : Rows.MerkleRootsUptoCardSaid :=
  Claim7.holds_tied_plain_at .later [] _ _ _ _ said (fun _ h => by cases h) (by kernel_rfl) (fun _ h => by cases h) merkleRootsUpto_row_tie rfl ⟨rfl, rfl⟩ (by kernel_rfl) rfl (plain_of (by kernel_rfl) Tryd.func5 (by kernel_rfl)) (by kernel_rfl)
#print axioms card
end Go.Proofs.YthhjmodkodkgpaaDoor.rowMerkleRoots
