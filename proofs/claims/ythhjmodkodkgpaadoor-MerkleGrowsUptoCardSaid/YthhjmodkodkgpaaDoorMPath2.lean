/- merkle.Path. -/
import Derived.Test.YthhjmodkodkgpaaDoorMPath
namespace Go.Proofs.YthhjmodkodkgpaaDoor
open Go.RowKit Sbx Go.Sort

theorem reverse_str {w0 w : World} {v : Value} {l : List (List UInt8)} (h : Lst w0 w 9 v (strs l)) (hl : l.length ≤ 1000000000000) :
    Calls Tryd.prog 47 #[v] w fun e w' => e = .returned (.tuple #[]) ∧ Hid (Lst w0 w' 9 v (strs l.reverse)) := by
  rcases h.1.2 with ⟨rfl, h0⟩ | ⟨g, cap, cur, rfl, hg, hc, h1, h2, h3, h4⟩
  · obtain rfl : l = [] := List.eq_nil_of_length_eq_zero (by simpa [strs] using h0)
    exact (Tryd.slices_Reverse_string_empty none 0 w).mono fun _ _ ⟨he, hw⟩ => ⟨he, by subst hw; exact h⟩
  · rw [strs_length] at h1 h4 ⊢
    have h' := h
    rw [strs_length] at h'
    have c := Tryd.slices_Reverse_string_arr g 0 cap l.toArray w (holds_of_row encStr hc (by rw [Nat.mul_one] at h4; exact h4)) (by simp; omega)
    simp only [List.size_toArray] at c
    refine c.mono fun _ _ ⟨he, m, hw⟩ => ⟨he, ?_⟩
    subst hw
    have h2 := Lst.put (enc := encStr) (ss := l) (ts := l.reverse) (by simp) h' m
    rw [show l.toArray.reverse = l.reverse.toArray from by simp]
    exact h2

/-- where Path's loop stands -/
def PathAt (w wr : World) (l : List (List UInt8)) (i : Nat) (b off cap : Nat) (l' : List (List UInt8)) (j : Nat) (v6 : Value) (ds : List (List UInt8)) : Prop :=
  StrAt w w.heap.size b off l' ∧ j < l'.length ∧ l'.length ≤ l.length ∧ l'.length ≤ cap ∧ cap ≤ maxLen ∧ (∀ s ∈ l', s.length ≤ 1152921504606840000) ∧ mpath l i = mpath l' j ++ ds.reverse ∧ Lst w wr 9 v6 (strs ds)

set_option maxRecDepth 100000 in
set_option maxHeartbeats 1000000 in
theorem path_in (l : List (List UInt8)) (i b off cap : Nat) (w : World) (hN : l.length ≤ 1000000000000) (hi : i < l.length) (hcap : l.length ≤ cap) (hmax : cap ≤ maxLen) (hs : ∀ s ∈ l, s.length ≤ 1152921504606840000) (hG : Glob w) (hA : StrAt w w.heap.size b off l) :
    Calls Tryd.prog 16 #[.slice (some ⟨b, off, none⟩) l.length cap, .int .i64 (i : Int)] w fun e w' => ∃ v, e = .returned (.tuple #[v, .int .i64 0]) ∧ Hid (Lst w w' 9 v (strs (mpath l i))) := by
  have hlen : (mpath l i).length ≤ 1000000000000 := by have := mpath_length l i; have := msides_length l.length i; omega
  have H0 : Hid (PathAt w w l i b off cap l i (.slice none 0 0) []) := ⟨hA, hi, Nat.le_refl _, hcap, hmax, hs, by simp, Lst.nil _ (Below.refl _ _)⟩
  have HL := Lib.hid (And.intro hlen hN)
  have HG := Lib.hid hG
  have c3 : ¬ (i : Int) < 0 := by omega
  have c4 : ¬ (l.length : Int) ≤ i := by omega
  clear hlen hN hi hcap hmax hs hG hA
  go_enter Tryd.func16, Tryd.ntmps16
  go_wp2_with fail
  go_loopw [0, 1, 6] (fun v0 v1 v6 wr => ∃ (b' off' cap' j : Nat) (l' ds : List (List UInt8)), v0 = .slice (some ⟨b', off', none⟩) l'.length cap' ∧ v1 = .int .i64 (j : Int) ∧ Hid (PathAt w wr l i b' off' cap' l' j v6 ds))
    (fun v0 _ _ _ => match v0 with | .slice _ n _ => n | _ => 0)
  case atStart => exact ⟨b, off, cap, i, l, [], rfl, rfl, H0⟩
  case round =>
    clear H0
    obtain ⟨b', off', cap', j, l', ds, rfl, rfl, HP⟩ := hrel
    obtain ⟨hA, hj, hle, hcap, hmax, hs, hp, hD⟩ := HP.out
    have hds : ds.length ≤ 1000000000000 := by have := HL.out.1; rw [hp, List.length_append, List.length_reverse] at this; omega
    by_cases h1 : l'.length ≤ 1
    · have hc : ¬ (1 : Int) < (l'.length : Int) := by omega
      rw [mpath_one l' j h1, List.nil_append] at hp
      have c := reverse_str hD hds
      rw [← hp] at c
      have C := Lib.hid c
      clear c hA hj hle hcap hmax hs hp hD HP hds
      go_wp2_with (go_at_call 47; refine C.out.mono ?_; clear C; rintro e w' ⟨rfl, HD⟩)
      go_ret2
      exact ⟨_, rfl, HD⟩
    · have hk1 := hf_lt l'.length (by omega)
      have hk0 := hf_pos l'.length
      have hlt := mpath_lt l' j (by omega)
      have hge := mpath_ge l' j (by omega)
      have ch := fun W => half_any l'.length W (by omega) (by have := HL.out.2; omega)
      have hl2 := HL.out.2
      obtain ⟨k, ek⟩ : ∃ k, k = hf l'.length := ⟨_, rfl⟩
      rw [← ek] at hk1 hk0 ch hlt hge
      have lt : (l'.take k).length = k := by rw [List.length_take]; omega
      have ld : (l'.drop k).length = l'.length - k := by rw [List.length_drop]
      have hc : (1 : Int) < (l'.length : Int) := by omega
      have k0 : (0 : Int) ≤ (k : Int) := by omega
      have k1 : (k : Int) ≤ (l'.length : Int) := by omega
      have k2 : (k : Int) ≤ (cap' : Int) := by omega
      have k3 : (l'.length : Int) ≤ (cap' : Int) := by omega
      have CH := Lib.hid ch
      have HDS := Lib.hid hds
      by_cases hjk : j < k
      · have hz : (j : Int) < (k : Int) := by omega
        have c2 := fun (W : World) (g : Glob W) (a : StrAt W W.heap.size b' (off' + k) (l'.drop k)) => root_in (l'.drop k).length (l'.drop k) b' (off' + k) (cap' - k) W (Nat.le_refl _) (by omega) (by omega) (by omega) (fun s h => hs s (List.mem_of_mem_drop h)) g a
        rw [ld] at c2
        rw [hlt hjk] at hp
        obtain ⟨Y, eY⟩ : ∃ z, z = mroot (l'.drop k) := ⟨_, rfl⟩
        rw [← eY] at c2 hp
        have C2 := Lib.hid c2
        have HX := Lib.hid (And.intro (hA.take k) (And.intro (hA.drop k) (And.intro hp (And.intro (show ∀ s ∈ l'.take k, s.length ≤ 1152921504606840000 from fun s h => hs s (List.mem_of_mem_take h)) (And.intro hmax hD)))))
        have HY := Lib.hid (And.intro lt (And.intro hjk (And.intro (show k ≤ l.length by omega) (show k ≤ cap' by omega))))
        clear ch ek hlt hge c2 eY hA hj hle hcap hmax hs hp hD HP hds lt ld
        go_wp2_with (first
          | (go_at_call 46; refine (CH.out _).mono ?_; clear CH; rintro e w' ⟨rfl, rfl⟩)
          | (go_at_call 21; refine (C2.out _ (HG.out.below HX.out.2.2.2.2.2.2) (HX.out.2.1.belowW HX.out.2.2.2.2.2.2)).mono ?_; rintro e w2 ⟨rfl, hB⟩
             have HD := Lib.hid (HX.out.2.2.2.2.2.below hB)
             clear hB)
          | ((with_reducible refine gate_op (Op.call { callee := .builtin .append, args := #[.tmp 25, .tmp 30], argTypes := #[22, 22] }) rfl ?_)
             refine lst_append elem_str rfl (.tmp 25) (.tmp 30) rfl _ (strs ds) _ rfl rfl rfl (by rw [strs_length]; exact HDS.out) HD.out ?_
             intro v' w' h1 _
             have HD' := Lib.hid h1
             clear h1))
        go_roundw
        case rel =>
          refine ⟨b', off', cap', j, l'.take k, ds ++ [Y], by rw [HY.out.1], rfl, HX.out.1, ?_, ?_, ?_, HX.out.2.2.2.2.1, HX.out.2.2.2.1, ?_, by rw [strs_app]; exact HD'.out⟩
          · rw [HY.out.1]; exact HY.out.2.1
          · rw [HY.out.1]; exact HY.out.2.2.1
          · rw [HY.out.1]; exact HY.out.2.2.2
          · have := HX.out.2.2.1
            simpa using this
        case measure => show k < l'.length; omega
      · have hz : ¬ (j : Int) < (k : Int) := by omega
        have j0 : (j : Int) < (l'.length : Int) := by omega
        have hl9 : (l'.length : Int) ≤ 1000000000000 := by omega
        have c2 := fun (W : World) (g : Glob W) (a : StrAt W W.heap.size b' off' (l'.take k)) => root_in (l'.take k).length (l'.take k) b' off' cap' W (Nat.le_refl _) (by omega) (by omega) hmax (fun s h => hs s (List.mem_of_mem_take h)) g a
        rw [lt] at c2
        rw [hge hjk] at hp
        obtain ⟨Y, eY⟩ : ∃ z, z = mroot (l'.take k) := ⟨_, rfl⟩
        rw [← eY] at c2 hp
        have C2 := Lib.hid c2
        have HX := Lib.hid (And.intro (hA.take k) (And.intro (hA.drop k) (And.intro hp (And.intro (show ∀ s ∈ l'.drop k, s.length ≤ 1152921504606840000 from fun s h => hs s (List.mem_of_mem_drop h)) (And.intro hmax hD)))))
        have HY := Lib.hid (And.intro ld (And.intro hjk (And.intro (show l'.length - k ≤ l.length by omega) (And.intro (show l'.length - k ≤ cap' - k by omega) (show j - k < l'.length - k by omega)))))
        clear ch ek hlt hge c2 eY hA hj hle hcap hmax hs hp hD HP hds lt ld
        go_wp2_with (first
          | (go_at_call 46; refine (CH.out _).mono ?_; clear CH; rintro e w' ⟨rfl, rfl⟩)
          | (go_at_call 21; refine (C2.out _ (HG.out.below HX.out.2.2.2.2.2.2) (HX.out.1.belowW HX.out.2.2.2.2.2.2)).mono ?_; rintro e w2 ⟨rfl, hB⟩
             have HD := Lib.hid (HX.out.2.2.2.2.2.below hB)
             clear hB)
          | ((with_reducible refine gate_op (Op.call { callee := .builtin .append, args := #[.tmp 35, .tmp 40], argTypes := #[22, 22] }) rfl ?_)
             refine lst_append elem_str rfl (.tmp 35) (.tmp 40) rfl _ (strs ds) _ rfl rfl rfl (by rw [strs_length]; exact HDS.out) HD.out ?_
             intro v' w' h1 _
             have HD' := Lib.hid h1
             clear h1))
        go_roundw
        case rel =>
          refine ⟨b', off' + k, cap' - k, j - k, l'.drop k, ds ++ [Y], by rw [HY.out.1], by go_num, HX.out.2.1, ?_, ?_, ?_, by have := HX.out.2.2.2.2.1; omega, HX.out.2.2.2.1, ?_, by rw [strs_app]; exact HD'.out⟩
          · rw [HY.out.1]; exact HY.out.2.2.2.2
          · rw [HY.out.1]; exact HY.out.2.2.1
          · rw [HY.out.1]; exact HY.out.2.2.2.1
          · have := HX.out.2.2.1
            simpa using this
        case measure => show l'.length - k < l'.length; omega

set_option maxRecDepth 100000 in
theorem Path_any (l : List (List UInt8)) (i : Int) (A : Option Addr) (cap : Nat) (w : World) (hl : l.length ≤ 1000000000000) (hcap : l.length ≤ cap) (hmax : cap ≤ maxLen) (hs : ∀ s ∈ l, s.length ≤ 1152921504606840000) (hG : Glob w) (hA : l ≠ [] → ∃ b off, A = some ⟨b, off, none⟩ ∧ StrAt w w.heap.size b off l) :
    Calls Tryd.prog 16 #[.slice A l.length cap, .int .i64 i] w fun e w' => ∃ v, e = .returned (.tuple #[v, .int .i64 (pathE l i)]) ∧ Hid (Lst w w' 9 v (strs (pathL l i))) := by
  by_cases hi : 0 ≤ i ∧ i < l.length
  · rw [pathE, pathL, if_pos hi, if_pos hi]
    obtain ⟨I, rfl⟩ : ∃ I : Nat, i = I := ⟨i.toNat, by omega⟩
    obtain ⟨b, off, rfl, hAt⟩ := hA (by intro e; rw [e] at hi; simp at hi; omega)
    rw [Int.toNat_natCast]
    exact path_in l I b off cap w hl (by omega) hcap hmax hs hG hAt
  · rw [pathE, pathL, if_neg hi, if_neg hi]
    have hn0 : Hid (Lst w w 9 (.slice none 0 0) (strs [])) := Lst.nil _ (Below.refl _ _)
    clear hA hs hG
    by_cases h0 : i < 0
    · go_enter Tryd.func16, Tryd.ntmps16
      go_wp2_with fail
      go_ret2
      exact ⟨_, rfl, hn0⟩
    · have h1 : (l.length : Int) ≤ i := by omega
      go_enter Tryd.func16, Tryd.ntmps16
      go_wp2_with fail
      go_ret2
      exact ⟨_, rfl, hn0⟩
end Go.Proofs.YthhjmodkodkgpaaDoor
