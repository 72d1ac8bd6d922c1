/- strongboxref19.path, Path; merkle.Path. -/
import Derived.Test.YthhjmodkodkgpaaDoorMSides
import Derived.Test.YthhjmodkodkgpaaDoorMRoot
namespace Sbx
/-- what stands beside the way from the i-th leaf up -/
def mpath (l : List (List UInt8)) (i : Nat) : List (List UInt8) :=
  if h : l.length ≤ 1 then [] else if i < hf l.length then mpath (l.take (hf l.length)) i ++ [mroot (l.drop (hf l.length))] else mpath (l.drop (hf l.length)) (i - hf l.length) ++ [mroot (l.take (hf l.length))]
termination_by l.length
decreasing_by
  · rw [List.length_take]; have := hf_lt l.length (by omega); omega
  · rw [List.length_drop]; have := hf_pos l.length; omega
theorem mpath_one (l : List (List UInt8)) (i : Nat) (h : l.length ≤ 1) : mpath l i = [] := by rw [mpath, dif_pos h]
theorem mpath_lt (l : List (List UInt8)) (i : Nat) (h : 2 ≤ l.length) (hi : i < hf l.length) : mpath l i = mpath (l.take (hf l.length)) i ++ [mroot (l.drop (hf l.length))] := by rw [mpath, dif_neg (by omega), if_pos hi]
theorem mpath_ge (l : List (List UInt8)) (i : Nat) (h : 2 ≤ l.length) (hi : ¬ i < hf l.length) : mpath l i = mpath (l.drop (hf l.length)) (i - hf l.length) ++ [mroot (l.take (hf l.length))] := by rw [mpath, dif_neg (by omega), if_neg hi]
theorem mpath_sides : ∀ (N : Nat) (l : List (List UInt8)) (i : Nat), l.length ≤ N → (mpath l i).length = (msides l.length i).length
  | 0, l, i, h => by rw [mpath_one l i (by omega), msides_one _ i (by omega)]; rfl
  | N + 1, l, i, h => by
    by_cases h1 : l.length ≤ 1
    · rw [mpath_one l i h1, msides_one _ i h1]; rfl
    · have a := hf_lt l.length (by omega)
      have b := hf_pos l.length
      by_cases hi : i < hf l.length
      · have ih := mpath_sides N (l.take (hf l.length)) i (by rw [List.length_take]; omega)
        rw [List.length_take, Nat.min_eq_left (by omega)] at ih
        rw [mpath_lt l i (by omega) hi, msides_lt _ i (by omega) hi, List.length_append, List.length_append, ih]
        rfl
      · have ih := mpath_sides N (l.drop (hf l.length)) (i - hf l.length) (by rw [List.length_drop]; omega)
        rw [List.length_drop] at ih
        rw [mpath_ge l i (by omega) hi, msides_ge _ i (by omega) hi, List.length_append, List.length_append, ih]
        rfl
theorem mpath_length (l : List (List UInt8)) (i : Nat) : (mpath l i).length = (msides l.length i).length := mpath_sides l.length l i (Nat.le_refl _)
theorem mpath_32 : ∀ (N : Nat) (l : List (List UInt8)) (i : Nat), l.length ≤ N → ∀ s ∈ mpath l i, s.length = 32
  | 0, l, i, h => by rw [mpath_one l i (by omega)]; simp
  | N + 1, l, i, h => by
    by_cases h1 : l.length ≤ 1
    · rw [mpath_one l i h1]; simp
    · have a := hf_lt l.length (by omega)
      have b := hf_pos l.length
      by_cases hi : i < hf l.length
      · have ih := mpath_32 N (l.take (hf l.length)) i (by rw [List.length_take]; omega)
        rw [mpath_lt l i (by omega) hi]
        intro s hs
        rcases List.mem_append.1 hs with h2 | h2
        · exact ih s h2
        · rw [List.mem_singleton.1 h2]; exact mroot_length _
      · have ih := mpath_32 N (l.drop (hf l.length)) (i - hf l.length) (by rw [List.length_drop]; omega)
        rw [mpath_ge l i (by omega) hi]
        intro s hs
        rcases List.mem_append.1 hs with h2 | h2
        · exact ih s h2
        · rw [List.mem_singleton.1 h2]; exact mroot_length _
end Sbx
namespace Go.Proofs.YthhjmodkodkgpaaDoor
open Go.RowKit Sbx Go.Sort

theorem StrAt.belowW {w w' : World} {b off : Nat} {l : List (List UInt8)} (h : StrAt w w.heap.size b off l) (hb : Below w.heap.size w w') : StrAt w' w'.heap.size b off l := ⟨Nat.lt_of_lt_of_le h.1 hb.size, (h.below hb).2⟩

set_option maxRecDepth 100000 in
set_option maxHeartbeats 1000000 in
theorem rpath_in : ∀ (N : Nat) (l : List (List UInt8)) (i b off cap : Nat) (w : World), l.length ≤ N → N ≤ 1000000000000 → i < l.length → l.length ≤ cap → cap ≤ maxLen → (∀ s ∈ l, s.length ≤ 140737488353000) → StrAt w w.heap.size b off l →
    Calls Tryd.prog 48 #[.slice (some ⟨b, off, none⟩) l.length cap, .int .i64 (i : Int)] w fun e w' => ∃ v, e = .returned v ∧ Hid (Lst w w' 9 v (strs (mpath l i))) := by
  intro N
  induction N with
  | zero => intro l i b off cap w hl _ hi; omega
  | succ N ih =>
    intro l i b off cap w hl hN hi hcap hmax hs hA
    by_cases h2 : 2 ≤ l.length
    · have hk1 := hf_lt l.length h2
      have hk0 := hf_pos l.length
      have hlt := mpath_lt l i h2
      have hge := mpath_ge l i h2
      have hlen := mpath_length l i
      have hle := msides_length l.length i
      have ch := fun W => below_any l.length W h2 (by omega)
      by_cases hjk : i < hf l.length
      · rw [hlt hjk] at hlen ⊢
        obtain ⟨k, ek⟩ : ∃ k, k = hf l.length := ⟨_, rfl⟩
        rw [← ek] at hk1 hk0 ch hjk hlen ⊢
        have lt : (l.take k).length = k := by rw [List.length_take]; omega
        have ld : (l.drop k).length = l.length - k := by rw [List.length_drop]
        have c1 := fun (W : World) (a : StrAt W W.heap.size b off (l.take k)) => ih (l.take k) i b off cap W (by omega) (by omega) (by omega) (by omega) hmax (fun s h => hs s (List.mem_of_mem_take h)) a
        have c2 := fun (W : World) (a : StrAt W W.heap.size b (off + k) (l.drop k)) => rroot_in (l.drop k).length (l.drop k) b (off + k) (cap - k) W (Nat.le_refl _) (by omega) (by omega) (by omega) (fun s h => hs s (List.mem_of_mem_drop h)) a
        rw [lt] at c1
        rw [ld] at c2
        obtain ⟨X, eX⟩ : ∃ X, X = mpath (l.take k) i := ⟨_, rfl⟩
        obtain ⟨Y, eY⟩ : ∃ z, z = mroot (l.drop k) := ⟨_, rfl⟩
        rw [← eX] at c1 hlen ⊢
        rw [← eY] at c2 hlen ⊢
        have hX : X.length ≤ 1000000000000 := by rw [List.length_append] at hlen; omega
        have H := Lib.hid (And.intro c1 (And.intro c2 hX))
        have HG := Lib.hid (And.intro (hA.take k) (hA.drop k))
        have CH := Lib.hid ch
        have n1 : ((l.length : Int) == 1) = false := beq_eq_false_iff_ne.2 (by omega)
        have k0 : (0 : Int) ≤ (k : Int) := by omega
        have k1 : (k : Int) ≤ (l.length : Int) := by omega
        have k2 : (k : Int) ≤ (cap : Int) := by omega
        have k3 : (l.length : Int) ≤ (cap : Int) := by omega
        have hz : (i : Int) < (k : Int) := by omega
        clear c1 c2 ih hs hA ch ek eX eY lt ld hlt hge hlen hle hX
        go_enter Tryd.func48, Tryd.ntmps48
        go_wp2_with (first
          | (go_at_call 58; refine (CH.out _).mono ?_; clear CH; rintro e w' ⟨rfl, rfl⟩)
          | (go_at_call 48; refine (H.out.1 _ HG.out.1).mono ?_; rintro e w1 ⟨v, rfl, HD⟩)
          | (go_at_call 28; refine (H.out.2.1 _ (HG.out.2.belowW HD.out.2)).mono ?_; rintro e w2 ⟨rfl, hB⟩
             replace HD := Lib.hid (HD.out.below hB)
             clear hB)
          | ((with_reducible refine gate_op (Op.call { callee := .builtin .append, args := #[.tmp 22, .tmp 27], argTypes := #[22, 22] }) rfl ?_)
             refine lst_append elem_str rfl (.tmp 22) (.tmp 27) rfl _ (strs X) _ rfl rfl rfl (by rw [strs_length]; exact H.out.2.2) HD.out ?_
             intro v' w' h1 _
             have HD' := Lib.hid h1
             clear h1))
        go_ret
        exact ⟨_, rfl, by rw [strs_app]; exact HD'⟩
      · rw [hge hjk] at hlen ⊢
        obtain ⟨k, ek⟩ : ∃ k, k = hf l.length := ⟨_, rfl⟩
        rw [← ek] at hk1 hk0 ch hjk hlen ⊢
        have lt : (l.take k).length = k := by rw [List.length_take]; omega
        have ld : (l.drop k).length = l.length - k := by rw [List.length_drop]
        have c1 := fun (W : World) (a : StrAt W W.heap.size b (off + k) (l.drop k)) => ih (l.drop k) (i - k) b (off + k) (cap - k) W (by omega) (by omega) (by omega) (by omega) (by omega) (fun s h => hs s (List.mem_of_mem_drop h)) a
        have c2 := fun (W : World) (a : StrAt W W.heap.size b off (l.take k)) => rroot_in (l.take k).length (l.take k) b off cap W (Nat.le_refl _) (by omega) (by omega) hmax (fun s h => hs s (List.mem_of_mem_take h)) a
        rw [lt] at c2
        rw [ld, show ((i - k : Nat) : Int) = (i : Int) - k by omega] at c1
        obtain ⟨X, eX⟩ : ∃ X, X = mpath (l.drop k) (i - k) := ⟨_, rfl⟩
        obtain ⟨Y, eY⟩ : ∃ z, z = mroot (l.take k) := ⟨_, rfl⟩
        rw [← eX] at c1 hlen ⊢
        rw [← eY] at c2 hlen ⊢
        have hX : X.length ≤ 1000000000000 := by rw [List.length_append] at hlen; omega
        have H := Lib.hid (And.intro c1 (And.intro c2 hX))
        have HG := Lib.hid (And.intro (hA.take k) (hA.drop k))
        have CH := Lib.hid ch
        have n1 : ((l.length : Int) == 1) = false := beq_eq_false_iff_ne.2 (by omega)
        have k0 : (0 : Int) ≤ (k : Int) := by omega
        have k1 : (k : Int) ≤ (l.length : Int) := by omega
        have k2 : (k : Int) ≤ (cap : Int) := by omega
        have k3 : (l.length : Int) ≤ (cap : Int) := by omega
        have hz : ¬ (i : Int) < (k : Int) := by omega
        have hi0 : (i : Int) < 1000000000000 := by omega
        have hw2 : IntKind.i64.wrap ((i : Int) - k) = (i : Int) - k := by rw [IntKind.wrap_i64]; omega
        clear c1 c2 ih hs hA ch ek eX eY lt ld hlt hge hlen hle hX
        go_enter Tryd.func48, Tryd.ntmps48
        go_wp2_with (first
          | (go_at_call 58; refine (CH.out _).mono ?_; clear CH; rintro e w' ⟨rfl, rfl⟩)
          | (go_at_call 48; refine (H.out.1 _ HG.out.2).mono ?_; rintro e w1 ⟨v, rfl, HD⟩)
          | (go_at_call 28; refine (H.out.2.1 _ (HG.out.1.belowW HD.out.2)).mono ?_; rintro e w2 ⟨rfl, hB⟩
             replace HD := Lib.hid (HD.out.below hB)
             clear hB)
          | ((with_reducible refine gate_op (Op.call { callee := .builtin .append, args := #[.tmp 36, .tmp 41], argTypes := #[22, 22] }) rfl ?_)
             refine lst_append elem_str rfl (.tmp 36) (.tmp 41) rfl _ (strs X) _ rfl rfl rfl (by rw [strs_length]; exact H.out.2.2) HD.out ?_
             intro v' w' h1 _
             have HD' := Lib.hid h1
             clear h1))
        go_ret
        exact ⟨_, rfl, by rw [strs_app]; exact HD'⟩
    · have h1 : l.length = 1 := by omega
      rw [mpath_one l i (by omega)]
      have hn0 : Hid (Lst w w 9 (.slice none 0 0) (strs [])) := Lst.nil _ (Below.refl _ _)
      rw [h1]
      clear hl ih hs hA h1 h2
      go_enter Tryd.func48, Tryd.ntmps48
      go_wp2_with fail
      go_ret
      exact ⟨_, rfl, hn0⟩

/-- what Path's answer is: an error, or a list -/
def pathE (l : List (List UInt8)) (i : Int) : Int := if 0 ≤ i ∧ i < l.length then 0 else 190
def pathL (l : List (List UInt8)) (i : Int) : List (List UInt8) := if 0 ≤ i ∧ i < l.length then mpath l i.toNat else []

set_option maxRecDepth 100000 in
theorem rPath_any (l : List (List UInt8)) (i : Int) (A : Option Addr) (cap : Nat) (w : World) (hl : l.length ≤ 1000000000000) (hcap : l.length ≤ cap) (hmax : cap ≤ maxLen) (hs : ∀ s ∈ l, s.length ≤ 140737488353000) (hA : l ≠ [] → ∃ b off, A = some ⟨b, off, none⟩ ∧ StrAt w w.heap.size b off l) :
    Calls Tryd.prog 17 #[.slice A l.length cap, .int .i64 i] w fun e w' => ∃ v, e = .returned (.tuple #[v, .int .i64 (pathE l i)]) ∧ Hid (Lst w w' 9 v (strs (pathL l i))) := by
  by_cases hi : 0 ≤ i ∧ i < l.length
  · rw [pathE, pathL, if_pos hi, if_pos hi]
    obtain ⟨I, rfl⟩ : ∃ I : Nat, i = I := ⟨i.toNat, by omega⟩
    obtain ⟨b, off, rfl, hAt⟩ := hA (by intro e; rw [e] at hi; simp at hi; omega)
    rw [Int.toNat_natCast]
    have C := Lib.hid (rpath_in l.length l I b off cap w (Nat.le_refl _) hl (by omega) hcap hmax hs hAt)
    have c3 : ¬ (I : Int) < 0 := by omega
    have c4 : ¬ (l.length : Int) ≤ I := by omega
    clear hi hA hAt hs
    go_enter Tryd.func17, Tryd.ntmps17
    go_wp2_with (go_at_call 48; refine C.out.mono ?_; clear C; rintro e w1 ⟨v, rfl, HD⟩)
    go_ret2
    exact ⟨_, rfl, HD⟩
  · rw [pathE, pathL, if_neg hi, if_neg hi]
    have hn0 : Hid (Lst w w 9 (.slice none 0 0) (strs [])) := Lst.nil _ (Below.refl _ _)
    clear hA hs
    by_cases h0 : i < 0
    · go_enter Tryd.func17, Tryd.ntmps17
      go_wp2_with fail
      go_ret2
      exact ⟨_, rfl, hn0⟩
    · have h1 : (l.length : Int) ≤ i := by omega
      go_enter Tryd.func17, Tryd.ntmps17
      go_wp2_with fail
      go_ret2
      exact ⟨_, rfl, hn0⟩
end Go.Proofs.YthhjmodkodkgpaaDoor
