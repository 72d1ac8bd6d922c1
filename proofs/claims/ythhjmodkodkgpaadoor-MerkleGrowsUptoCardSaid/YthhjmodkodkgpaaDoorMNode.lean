/- merkle.Leaf, node; strongboxref19.Leaf, node; the root's spec. -/
import Derived.Test.YthhjmodkodkgpaaDoorMHalf
namespace Sbx
def mleaf (s : List UInt8) : List UInt8 := sha ([0] ++ s)
def mnode (a b : List UInt8) : List UInt8 := sha ([1] ++ a ++ b)
theorem mleaf_length (s : List UInt8) : (mleaf s).length = 32 := sha_length _
theorem mnode_length (a b : List UInt8) : (mnode a b).length = 32 := sha_length _
/-- the root of some leaves -/
def mroot (l : List (List UInt8)) : List UInt8 :=
  if h0 : l.length = 0 then sha [] else if h1 : l.length = 1 then mleaf (l.getD 0 []) else mnode (mroot (l.take (hf l.length))) (mroot (l.drop (hf l.length)))
termination_by l.length
decreasing_by
  · rw [List.length_take]; have := hf_lt l.length (by omega); omega
  · rw [List.length_drop]; have := hf_pos l.length; omega
theorem mroot_length (l : List (List UInt8)) : (mroot l).length = 32 := by
  unfold mroot
  split
  · exact sha_length _
  · split
    · exact mleaf_length _
    · exact mnode_length _ _
end Sbx
namespace Go.Proofs.YthhjmodkodkgpaaDoor
open Go.RowKit Sbx Go.Sort

theorem str_app (a b : List UInt8) : (⟨a.toArray⟩ : ByteArray) ++ ⟨b.toArray⟩ = ⟨(a ++ b).toArray⟩ := by
  apply ByteArray.ext
  simp

theorem leaf_any (s : List UInt8) (w : World) (hG : Glob w) (hs : s.length ≤ 1152921504606840000) :
    Calls Tryd.prog 29 #[.string ⟨s.toArray⟩] w fun e w' => e = .returned (.string ⟨(mleaf s).toArray⟩) ∧ Below w.heap.size w w' := by
  have c := sum_any ([0] ++ s) w hG (by simp; omega)
  rw [← str_app] at c
  change Calls _ _ _ w (fun e w' => e = Ending.returned (Value.string ⟨(mleaf s).toArray⟩) ∧ _) at c
  obtain ⟨M, eM⟩ : ∃ M, M = mleaf s := ⟨_, rfl⟩
  rw [← eM] at c ⊢
  have C := Lib.hid c
  have le : ¬ 9223372036854775807 < 1 + s.length := by omega
  clear c eM hs hG
  go_enter Tryd.func29, Tryd.ntmps29
  go_wp2_with (go_at_call 31; refine C.out.mono ?_; clear C; rintro e w' ⟨rfl, hB⟩)
  go_ret
  exact ⟨rfl, hB⟩
theorem node_any (a b : List UInt8) (w : World) (hG : Glob w) (ha : a.length ≤ 140737488354000) (hb : b.length ≤ 140737488354000) :
    Calls Tryd.prog 49 #[.string ⟨a.toArray⟩, .string ⟨b.toArray⟩] w fun e w' => e = .returned (.string ⟨(mnode a b).toArray⟩) ∧ Below w.heap.size w w' := by
  have c := sum_any ([1] ++ a ++ b) w hG (by simp; omega)
  rw [← str_app, ← str_app] at c
  change Calls _ _ _ w (fun e w' => e = Ending.returned (Value.string ⟨(mnode a b).toArray⟩) ∧ _) at c
  obtain ⟨M, eM⟩ : ∃ M, M = mnode a b := ⟨_, rfl⟩
  rw [← eM] at c ⊢
  have C := Lib.hid c
  have le : ¬ 9223372036854775807 < 1 + a.length := by omega
  have le2 : ¬ 9223372036854775807 < 1 + a.length + b.length := by omega
  clear c eM ha hb hG
  go_enter Tryd.func49, Tryd.ntmps49
  go_wp2_with (go_at_call 31; refine C.out.mono ?_; clear C; rintro e w' ⟨rfl, hB⟩)
  go_ret
  exact ⟨rfl, hB⟩
theorem rleaf_any (s : List UInt8) (w : World) (hs : s.length ≤ 140737488353000) :
    Calls Tryd.prog 30 #[.string ⟨s.toArray⟩] w fun e w' => e = .returned (.string ⟨(mleaf s).toArray⟩) ∧ Below w.heap.size w w' := by
  have c := rsum_any ([0] ++ s) w (by simp; omega)
  rw [← str_app] at c
  change Calls _ _ _ w (fun e w' => e = Ending.returned (Value.string ⟨(mleaf s).toArray⟩) ∧ _) at c
  obtain ⟨M, eM⟩ : ∃ M, M = mleaf s := ⟨_, rfl⟩
  rw [← eM] at c ⊢
  have C := Lib.hid c
  have le : ¬ 9223372036854775807 < 1 + s.length := by omega
  clear c eM hs
  go_enter Tryd.func30, Tryd.ntmps30
  go_wp2_with (go_at_call 34; refine C.out.mono ?_; clear C; rintro e w' ⟨rfl, hB⟩)
  go_ret
  exact ⟨rfl, hB⟩
theorem rnode_any (a b : List UInt8) (w : World) (ha : a.length ≤ 70368744170000) (hb : b.length ≤ 70368744170000) :
    Calls Tryd.prog 57 #[.string ⟨a.toArray⟩, .string ⟨b.toArray⟩] w fun e w' => e = .returned (.string ⟨(mnode a b).toArray⟩) ∧ Below w.heap.size w w' := by
  have c := rsum_any ([1] ++ a ++ b) w (by simp; omega)
  rw [← str_app, ← str_app] at c
  change Calls _ _ _ w (fun e w' => e = Ending.returned (Value.string ⟨(mnode a b).toArray⟩) ∧ _) at c
  obtain ⟨M, eM⟩ : ∃ M, M = mnode a b := ⟨_, rfl⟩
  rw [← eM] at c ⊢
  have C := Lib.hid c
  have le : ¬ 9223372036854775807 < 1 + a.length := by omega
  have le2 : ¬ 9223372036854775807 < 1 + a.length + b.length := by omega
  clear c eM ha hb
  go_enter Tryd.func57, Tryd.ntmps57
  go_wp2_with (go_at_call 34; refine C.out.mono ?_; clear C; rintro e w' ⟨rfl, hB⟩)
  go_ret
  exact ⟨rfl, hB⟩
end Go.Proofs.YthhjmodkodkgpaaDoor
