/- Root on both sides, of any slice; strongboxref19.Node. -/
import Derived.Test.YthhjmodkodkgpaaDoorLMerkleChecks
import Derived.Test.YthhjmodkodkgpaaDoorLMerkleBelow
namespace Go.Proofs.YthhjmodkodkgpaaDoor
open Go.RowKit Sbx Go.Sort

theorem strAt_of_reads {w : World} {B : Nat} {A : Option Addr} {l : List (List UInt8)} (h : Reads w B A l.length (fun j => .string ⟨(l.getD j []).toArray⟩)) (hne : l ≠ []) : ∃ b off, A = some ⟨b, off, none⟩ ∧ StrAt w B b off l := by
  obtain ⟨b, off, rfl, hb, _⟩ := h 0 (List.length_pos_iff.2 hne)
  refine ⟨b, off, rfl, hb, fun i hi => ?_⟩
  obtain ⟨b', off', e, _, hc⟩ := h i hi
  cases e
  exact hc
set_option maxRecDepth 100000 in
theorem rroot_nil (A : Option Addr) (cap : Nat) (w : World) : Calls Tryd.prog 28 #[.slice A 0 cap] w fun e w' => e = .returned (.string ⟨(mroot []).toArray⟩) ∧ Below w.heap.size w w' := by
  have c := rsum_any [] w (by simp)
  rw [mroot_nil]
  obtain ⟨M, eM⟩ : ∃ M, M = sha [] := ⟨_, rfl⟩
  rw [← eM] at c ⊢
  have C := Lib.hid c
  clear c eM
  go_enter Tryd.func28, Tryd.ntmps28
  go_wp2_with (go_at_call 34; refine C.out.mono ?_; clear C; rintro e w' ⟨rfl, hB⟩)
  go_ret
  exact ⟨rfl, hB⟩
theorem root_any (l : List (List UInt8)) (A : Option Addr) (cap : Nat) (w : World) (hl : l.length ≤ 1000000000000) (hcap : l.length ≤ cap) (hmax : cap ≤ maxLen) (hs : ∀ s ∈ l, s.length ≤ 1152921504606840000) (hG : Glob w) (hR : Reads w w.heap.size A l.length (fun j => .string ⟨(l.getD j []).toArray⟩)) :
    Calls Tryd.prog 21 #[.slice A l.length cap] w fun e w' => e = .returned (.string ⟨(mroot l).toArray⟩) ∧ Below w.heap.size w w' := by
  by_cases h : l = []
  · subst h; exact root_nil A cap w hG
  · obtain ⟨b, off, rfl, hA⟩ := strAt_of_reads hR h
    exact root_in l.length l b off cap w (Nat.le_refl _) hl hcap hmax hs hG hA
theorem rroot_any (l : List (List UInt8)) (A : Option Addr) (cap : Nat) (w : World) (hl : l.length ≤ 1000000000000) (hcap : l.length ≤ cap) (hmax : cap ≤ maxLen) (hs : ∀ s ∈ l, s.length ≤ 140737488353000) (hR : Reads w w.heap.size A l.length (fun j => .string ⟨(l.getD j []).toArray⟩)) :
    Calls Tryd.prog 28 #[.slice A l.length cap] w fun e w' => e = .returned (.string ⟨(mroot l).toArray⟩) ∧ Below w.heap.size w w' := by
  by_cases h : l = []
  · subst h; exact rroot_nil A cap w
  · obtain ⟨b, off, rfl, hA⟩ := strAt_of_reads hR h
    exact rroot_in l.length l b off cap w (Nat.le_refl _) hl hcap hmax hs hA
set_option maxRecDepth 100000 in
theorem rnodef_any (a b : List UInt8) (w : World) (ha : a.length ≤ 1000000000000) (hb : b.length ≤ 1000000000000) :
    Calls Tryd.prog 27 #[.string ⟨a.toArray⟩, .string ⟨b.toArray⟩] w fun e w' => e = .returned (.tuple #[.string ⟨(nodeS a b).toArray⟩, .int .i64 (nodeE a b)]) ∧ Below w.heap.size w w' := by
  by_cases h : a.length = 32 ∧ b.length = 32
  · rw [show nodeS a b = mnode a b from if_pos h, show nodeE a b = 0 from if_pos h]
    have n1 : ((a.length : Int) != 32) = false := by rw [bne_eq_false_iff_eq]; omega
    have n2 : ((b.length : Int) != 32) = false := by rw [bne_eq_false_iff_eq]; omega
    have c := rnode_any a b w (by omega) (by omega)
    obtain ⟨M, eM⟩ : ∃ M, M = mnode a b := ⟨_, rfl⟩
    rw [← eM] at c ⊢
    have C := Lib.hid c
    clear c eM h
    go_enter Tryd.func27, Tryd.ntmps27
    go_wp2_with (go_at_call 57; refine C.out.mono ?_; clear C; rintro e w' ⟨rfl, HS⟩)
    go_ret2
    exact ⟨rfl, HS⟩
  · rw [show nodeS a b = [] from if_neg h, show nodeE a b = 193 from if_neg h]
    by_cases h1 : a.length = 32
    · have n1 : ((a.length : Int) != 32) = false := by rw [bne_eq_false_iff_eq]; omega
      have n2 : ((b.length : Int) != 32) = true := by rw [bne_iff_ne]; omega
      clear h
      go_enter Tryd.func27, Tryd.ntmps27
      go_wp2_with fail
      go_ret2
      exact ⟨rfl, Below.refl _ _⟩
    · have n1 : ((a.length : Int) != 32) = true := by rw [bne_iff_ne]; omega
      clear h
      go_enter Tryd.func27, Tryd.ntmps27
      go_wp2_with fail
      go_ret2
      exact ⟨rfl, Below.refl _ _⟩
/-- the leaves of unlike -/
def unl (l : List (List UInt8)) : List (List UInt8) := l.map (· ++ [39])
theorem unl_length (l : List (List UInt8)) : (unl l).length = l.length := by simp [unl]
theorem unl_le (l : List (List UInt8)) (n : Nat) (h : ∀ s ∈ l, s.length ≤ n) : ∀ s ∈ unl l, s.length ≤ n + 1 := by
  intro s hs
  simp only [unl, List.mem_map] at hs
  obtain ⟨t, ht, rfl⟩ := hs
  have := h t ht
  simp; omega
/-- unlike's leaves are laid over a lent row's -/
theorem lent_over (l m : List (List UInt8)) (h : m.length = l.length) : strs m ++ (strs (l ++ spare8)).drop (strs m).length = strs (m ++ spare8) := by
  rw [strs_app, strs_app, strs_length, h, List.drop_left' (strs_length l)]
theorem St.grown {w0 w w' : World} {g : Nat} (h : Hid (St w0 w)) (hG : Glob w0) (hg : w.grownBy w' (some g)) (hle : w0.heap.size ≤ g) : Hid (St w0 w') := by
  have hb := h.out.2.grown hg h.out.2.size (fun k hk => by cases hk; exact hle)
  exact ⟨hG.below hb, hb⟩
theorem strs_cell (l : List (List UInt8)) : ∀ v ∈ strs l, v.oneCell' = true := by
  intro v hv
  simp only [strs, List.mem_map] at hv
  obtain ⟨t, _, rfl⟩ := hv
  rfl
end Go.Proofs.YthhjmodkodkgpaaDoor
