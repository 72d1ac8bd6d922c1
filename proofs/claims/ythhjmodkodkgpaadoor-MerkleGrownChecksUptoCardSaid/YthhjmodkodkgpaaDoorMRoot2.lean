/- strongboxref19.Root. -/
import Derived.Test.YthhjmodkodkgpaaDoorMRoot
namespace Go.Proofs.YthhjmodkodkgpaaDoor
open Go.RowKit Sbx Go.Sort

set_option maxRecDepth 100000 in
set_option maxHeartbeats 1000000 in
theorem rroot_in : ∀ (N : Nat) (l : List (List UInt8)) (b off cap : Nat) (w : World), l.length ≤ N → N ≤ 1000000000000 → l.length ≤ cap → cap ≤ maxLen → (∀ s ∈ l, s.length ≤ 140737488353000) → StrAt w w.heap.size b off l →
    Calls Tryd.prog 28 #[.slice (some ⟨b, off, none⟩) l.length cap] w fun e w' => e = .returned (.string ⟨(mroot l).toArray⟩) ∧ Below w.heap.size w w' := by
  intro N
  induction N with
  | zero =>
    intro l b off cap w hl _ _ _ _ _
    obtain rfl : l = [] := List.eq_nil_of_length_eq_zero (by omega)
    have c := rsum_any [] w (by simp)
    rw [show mroot [] = sha [] from by rw [mroot]; rfl]
    obtain ⟨M, eM⟩ : ∃ M, M = sha [] := ⟨_, rfl⟩
    rw [← eM] at c ⊢
    have C := Lib.hid c
    clear c eM hl
    go_enter Tryd.func28, Tryd.ntmps28
    go_wp2_with (go_at_call 34; refine C.out.mono ?_; clear C; rintro e w' ⟨rfl, hB⟩)
    go_ret
    exact ⟨rfl, hB⟩
  | succ N ih =>
    intro l b off cap w hl hN hcap hmax hs hA
    by_cases h2 : 2 ≤ l.length
    · have hk1 := hf_lt l.length h2
      have hk0 := hf_pos l.length
      rw [mroot_two l h2]
      obtain ⟨k, ek⟩ : ∃ k, k = hf l.length := ⟨_, rfl⟩
      have ch := fun W => below_any l.length W h2 (by omega)
      rw [← ek] at hk1 hk0 ch ⊢
      have lt : (l.take k).length = k := by rw [List.length_take]; omega
      have ld : (l.drop k).length = l.length - k := by rw [List.length_drop]
      have c1 := fun (W : World) (a : StrAt W W.heap.size b off (l.take k)) => ih (l.take k) b off cap W (by omega) (by omega) (by omega) hmax (fun s h => hs s (List.mem_of_mem_take h)) a
      have c2 := fun (W : World) (a : StrAt W W.heap.size b (off + k) (l.drop k)) => ih (l.drop k) b (off + k) (cap - k) W (by omega) (by omega) (by omega) (by omega) (fun s h => hs s (List.mem_of_mem_drop h)) a
      rw [lt] at c1
      rw [ld] at c2
      have l1 := mroot_length (l.take k)
      have l2 := mroot_length (l.drop k)
      obtain ⟨X, eX⟩ : ∃ X, X = mroot (l.take k) := ⟨_, rfl⟩
      obtain ⟨Y, eY⟩ : ∃ z, z = mroot (l.drop k) := ⟨_, rfl⟩
      rw [← eX] at c1 l1 ⊢
      rw [← eY] at c2 l2 ⊢
      have c3 := fun W => rnode_any X Y W (by omega) (by omega)
      obtain ⟨Z, eZ⟩ : ∃ z, z = mnode X Y := ⟨_, rfl⟩
      rw [← eZ] at c3 ⊢
      have hAt := hA.take k
      have hAd := hA.drop k
      have H := Lib.hid (And.intro c1 (And.intro c2 c3))
      have HG := Lib.hid (And.intro hAt hAd)
      have CH := Lib.hid ch
      have n0 : ((l.length : Int) == 0) = false := beq_eq_false_iff_ne.2 (by omega)
      have n1 : ((l.length : Int) == 1) = false := beq_eq_false_iff_ne.2 (by omega)
      have k0 : (0 : Int) ≤ (k : Int) := by omega
      have k1 : (k : Int) ≤ (l.length : Int) := by omega
      have k2 : (k : Int) ≤ (cap : Int) := by omega
      have k3 : (l.length : Int) ≤ (cap : Int) := by omega
      clear c1 c2 c3 ih hs hA hAt hAd ch ek eX eY eZ lt ld
      go_enter Tryd.func28, Tryd.ntmps28
      go_wp2_with (go_at_call 58; refine (CH.out _).mono ?_; clear CH; rintro e w' ⟨rfl, rfl⟩)
      refine (H.out.1 _ HG.out.1).mono ?_
      rintro e w1 ⟨rfl, h1⟩
      have HB1 := Lib.hid h1
      clear h1
      go_wp2_with fail
      refine (H.out.2.1 w1 ⟨Nat.lt_of_lt_of_le HG.out.2.1 HB1.out.size, (HG.out.2.below HB1.out).2⟩).mono ?_
      rintro e w2 ⟨rfl, h1⟩
      have HB2 := Lib.hid (HB1.out.trans (h1.mono HB1.out.size))
      clear h1 HB1
      go_wp2_with fail
      refine (H.out.2.2 w2).mono ?_
      rintro e w3 ⟨rfl, h1⟩
      have HB3 := Lib.hid (HB2.out.trans (h1.mono HB2.out.size))
      clear h1 HB2
      go_wp2_with fail
      go_ret
      exact ⟨rfl, HB3.out⟩
    · by_cases h1 : l.length = 1
      · rw [mroot_one l h1]
        have hc := hA.2 0 (by omega)
        rw [Nat.add_zero] at hc
        obtain ⟨s, es⟩ : ∃ s, s = l.getD 0 [] := ⟨_, rfl⟩
        rw [← es] at hc ⊢
        have hsl : s.length ≤ 140737488353000 := hs s (by rw [es, List.getD_eq_getElem?_getD, List.getElem?_eq_getElem (by omega)]; exact List.getElem_mem _)
        have c := rleaf_any s w hsl
        obtain ⟨M, eM⟩ : ∃ M, M = mleaf s := ⟨_, rfl⟩
        rw [← eM] at c ⊢
        have C := Lib.hid c
        rw [h1]
        clear c eM hl ih hs hA es hsl h1 h2
        go_enter Tryd.func28, Tryd.ntmps28
        go_wp2_with (go_at_call 30; refine C.out.mono ?_; clear C; rintro e w' ⟨rfl, hB⟩)
        go_ret
        exact ⟨rfl, hB⟩
      · exact ih l b off cap w (by omega) (by omega) hcap hmax hs hA
end Go.Proofs.YthhjmodkodkgpaaDoor
