/- merkle.Root. (under way) strongboxref19.Root. -/
import Derived.Test.YthhjmodkodkgpaaDoorReads
import Derived.Test.YthhjmodkodkgpaaDoorMNode
import Derived.Lib.QuietBelow
namespace Go.Proofs.YthhjmodkodkgpaaDoor
open Go.RowKit Sbx Go.Sort

/-- a slice of texts -/
def StrAt (w : World) (B b off : Nat) (l : List (List UInt8)) : Prop := b < B ∧ ∀ i, i < l.length → w.cell? ⟨b, off + i, none⟩ = some (.string ⟨(l.getD i []).toArray⟩)
theorem StrAt.below {w w' : World} {B b off : Nat} {l : List (List UInt8)} (h : StrAt w B b off l) (hb : Below B w w') : StrAt w' B b off l := ⟨h.1, fun i hi => (hb.cell (p := ⟨b, off + i, none⟩) h.1).trans (h.2 i hi)⟩
theorem StrAt.take {w : World} {B b off : Nat} {l : List (List UInt8)} (h : StrAt w B b off l) (k : Nat) : StrAt w B b off (l.take k) := ⟨h.1, fun i hi => by
  rw [List.length_take] at hi
  rw [h.2 i (by omega), List.getD_eq_getElem?_getD, List.getD_eq_getElem?_getD, List.getElem?_take_of_lt (by omega)]⟩
theorem StrAt.drop {w : World} {B b off : Nat} {l : List (List UInt8)} (h : StrAt w B b off l) (k : Nat) : StrAt w B b (off + k) (l.drop k) := ⟨h.1, fun i hi => by
  rw [List.length_drop] at hi
  rw [Nat.add_assoc, h.2 (k + i) (by omega), List.getD_eq_getElem?_getD, List.getD_eq_getElem?_getD, List.getElem?_drop]⟩
theorem mroot_two (l : List (List UInt8)) (h : 2 ≤ l.length) : mroot l = mnode (mroot (l.take (hf l.length))) (mroot (l.drop (hf l.length))) := by
  rw [mroot, dif_neg (by omega), dif_neg (by omega)]
theorem mroot_one (l : List (List UInt8)) (h : l.length = 1) : mroot l = mleaf (l.getD 0 []) := by
  rw [mroot, dif_neg (by omega), dif_pos h]

set_option maxRecDepth 100000 in
set_option maxHeartbeats 1000000 in
theorem root_in : ∀ (N : Nat) (l : List (List UInt8)) (b off cap : Nat) (w : World), l.length ≤ N → N ≤ 1000000000000 → l.length ≤ cap → cap ≤ maxLen → (∀ s ∈ l, s.length ≤ 1152921504606840000) → Glob w → StrAt w w.heap.size b off l →
    Calls Tryd.prog 21 #[.slice (some ⟨b, off, none⟩) l.length cap] w fun e w' => e = .returned (.string ⟨(mroot l).toArray⟩) ∧ Below w.heap.size w w' := by
  intro N
  induction N with
  | zero =>
    intro l b off cap w hl _ _ _ _ hG _
    obtain rfl : l = [] := List.eq_nil_of_length_eq_zero (by omega)
    have c := sum_any [] w hG (by simp)
    rw [show mroot [] = sha [] from by rw [mroot]; rfl]
    obtain ⟨M, eM⟩ : ∃ M, M = sha [] := ⟨_, rfl⟩
    rw [← eM] at c ⊢
    have C := Lib.hid c
    clear c eM hG hl
    go_enter Tryd.func21, Tryd.ntmps21
    go_wp2_with (go_at_call 31; refine C.out.mono ?_; clear C; rintro e w' ⟨rfl, hB⟩)
    go_ret
    exact ⟨rfl, hB⟩
  | succ N ih =>
    intro l b off cap w hl hN hcap hmax hs hG hA
    by_cases h2 : 2 ≤ l.length
    · have hk1 := hf_lt l.length h2
      have hk0 := hf_pos l.length
      rw [mroot_two l h2]
      obtain ⟨k, ek⟩ : ∃ k, k = hf l.length := ⟨_, rfl⟩
      have ch := fun W => half_any l.length W h2 (by omega)
      rw [← ek] at hk1 hk0 ch ⊢
      have lt : (l.take k).length = k := by rw [List.length_take]; omega
      have ld : (l.drop k).length = l.length - k := by rw [List.length_drop]
      have c1 := fun (W : World) (g : Glob W) (a : StrAt W W.heap.size b off (l.take k)) => ih (l.take k) b off cap W (by omega) (by omega) (by omega) hmax (fun s h => hs s (List.mem_of_mem_take h)) g a
      have c2 := fun (W : World) (g : Glob W) (a : StrAt W W.heap.size b (off + k) (l.drop k)) => ih (l.drop k) b (off + k) (cap - k) W (by omega) (by omega) (by omega) (by omega) (fun s h => hs s (List.mem_of_mem_drop h)) g a
      rw [lt] at c1
      rw [ld] at c2
      have l1 := mroot_length (l.take k)
      have l2 := mroot_length (l.drop k)
      obtain ⟨X, eX⟩ : ∃ X, X = mroot (l.take k) := ⟨_, rfl⟩
      obtain ⟨Y, eY⟩ : ∃ z, z = mroot (l.drop k) := ⟨_, rfl⟩
      rw [← eX] at c1 l1 ⊢
      rw [← eY] at c2 l2 ⊢
      have c3 := fun W (g : Glob W) => node_any X Y W g (by omega) (by omega)
      obtain ⟨Z, eZ⟩ : ∃ z, z = mnode X Y := ⟨_, rfl⟩
      rw [← eZ] at c3 ⊢
      have hAt := hA.take k
      have hAd := hA.drop k
      have H := Lib.hid (And.intro c1 (And.intro c2 c3))
      have HG := Lib.hid (And.intro hG (And.intro hAt hAd))
      have CH := Lib.hid ch
      have n0 : ((l.length : Int) == 0) = false := beq_eq_false_iff_ne.2 (by omega)
      have n1 : ((l.length : Int) == 1) = false := beq_eq_false_iff_ne.2 (by omega)
      have k0 : (0 : Int) ≤ (k : Int) := by omega
      have k1 : (k : Int) ≤ (l.length : Int) := by omega
      have k2 : (k : Int) ≤ (cap : Int) := by omega
      have k3 : (l.length : Int) ≤ (cap : Int) := by omega
      clear c1 c2 c3 ih hs hG hA hAt hAd ch ek eX eY eZ lt ld
      go_enter Tryd.func21, Tryd.ntmps21
      go_wp2_with (go_at_call 46; refine (CH.out _).mono ?_; clear CH; rintro e w' ⟨rfl, rfl⟩)
      have q1 : ∀ d os, Calls Tryd.prog 21 #[.slice (some ⟨b, off, none⟩) k cap] (grow (redrawn w d) os) fun e w' => e = .returned (.string ⟨X.toArray⟩) ∧ ∃ p : Regrown, w' = grow (redrawn w p.d) p.os := fun d os => Calls.regrown_of (H.out.1 _ (HG.out.1.below (below_regrown w d os)) ⟨Nat.lt_of_lt_of_le HG.out.2.1.1 (below_regrown w d os).size, (HG.out.2.1.below (below_regrown w d os)).2⟩)
      have q2 : ∀ d os, Calls Tryd.prog 21 #[.slice (some ⟨b, off + k, none⟩) (l.length - k) (cap - k)] (grow (redrawn w d) os) fun e w' => e = .returned (.string ⟨Y.toArray⟩) ∧ ∃ p : Regrown, w' = grow (redrawn w p.d) p.os := fun d os => Calls.regrown_of (H.out.2.1 _ (HG.out.1.below (below_regrown w d os)) ⟨Nat.lt_of_lt_of_le HG.out.2.2.1 (below_regrown w d os).size, (HG.out.2.2.below (below_regrown w d os)).2⟩)
      have q3 : ∀ d os, Calls Tryd.prog 49 #[.string ⟨X.toArray⟩, .string ⟨Y.toArray⟩] (grow (redrawn w d) os) fun e w' => e = .returned (.string ⟨Z.toArray⟩) ∧ ∃ p : Regrown, w' = grow (redrawn w p.d) p.os := fun d os => Calls.regrown_of (H.out.2.2 _ (HG.out.1.below (below_regrown w d os)))
      refine wp_region_quiet_below (by kernel_rfl) (by kernel_rfl) ?_
      repeat (first | go_big_quiet_step ((first | (with_reducible exact q1 _ _) | (with_reducible exact q2 _ _) | (with_reducible exact q3 _ _))) | quiet_step ((first | (with_reducible exact q1 _ _) | (with_reducible exact q2 _ _) | (with_reducible exact q3 _ _))))
      refine wpQuiet_nil ?_
      intro _ hw'
      obtain ⟨⟨dq, osq⟩, hw''⟩ := hw'
      subst hw''
      have hB := below_regrown w dq osq
      clear q1 q2 q3
      generalize grow (redrawn w dq) osq = w2 at *
      go_wp2
      go_ret
      exact ⟨rfl, hB⟩
    · by_cases h1 : l.length = 1
      · rw [mroot_one l h1]
        have hc := hA.2 0 (by omega)
        rw [Nat.add_zero] at hc
        obtain ⟨s, es⟩ : ∃ s, s = l.getD 0 [] := ⟨_, rfl⟩
        rw [← es] at hc ⊢
        have hsl : s.length ≤ 1152921504606840000 := hs s (by rw [es, List.getD_eq_getElem?_getD, List.getElem?_eq_getElem (by omega)]; exact List.getElem_mem _)
        have c := leaf_any s w hG hsl
        obtain ⟨M, eM⟩ : ∃ M, M = mleaf s := ⟨_, rfl⟩
        rw [← eM] at c ⊢
        have C := Lib.hid c
        rw [h1]
        clear c eM hG hl ih hs hA es hsl h1 h2
        go_enter Tryd.func21, Tryd.ntmps21
        go_wp2_with (go_at_call 29; refine C.out.mono ?_; clear C; rintro e w' ⟨rfl, hB⟩)
        go_ret
        exact ⟨rfl, hB⟩
      · exact ih l b off cap w (by omega) (by omega) hcap hmax hs hG hA
end Go.Proofs.YthhjmodkodkgpaaDoor
namespace Go.Proofs.YthhjmodkodkgpaaDoor
open Go.RowKit Sbx Go.Sort

set_option maxRecDepth 100000 in
set_option maxHeartbeats 1000000 in
theorem rroot_in : ∀ (N : Nat) (l : List (List UInt8)) (b off cap : Nat) (w : World), l.length ≤ N → N ≤ 1000000000000 → l.length ≤ cap → cap ≤ maxLen → (∀ s ∈ l, s.length ≤ 140737488353000) → StrAt w w.heap.size b off l →
    Calls Tryd.prog 28 #[.slice (some ⟨b, off, none⟩) l.length cap] w fun e w' => e = .returned (.string ⟨(mroot l).toArray⟩) ∧ Below w.heap.size w w' := by
  intro N
  induction N with
  | zero =>
    intro l b off cap w hl _ _ _ _ _
    obtain rfl : l = [] := List.eq_nil_of_length_eq_zero (by omega)
    have c := rsum_any [] w (by simp)
    rw [show mroot [] = sha [] from by rw [mroot]; rfl]
    obtain ⟨M, eM⟩ : ∃ M, M = sha [] := ⟨_, rfl⟩
    rw [← eM] at c ⊢
    have C := Lib.hid c
    clear c eM hl
    go_enter Tryd.func28, Tryd.ntmps28
    go_wp2_with (go_at_call 34; refine C.out.mono ?_; clear C; rintro e w' ⟨rfl, hB⟩)
    go_ret
    exact ⟨rfl, hB⟩
  | succ N ih =>
    intro l b off cap w hl hN hcap hmax hs hA
    by_cases h2 : 2 ≤ l.length
    · have hk1 := hf_lt l.length h2
      have hk0 := hf_pos l.length
      rw [mroot_two l h2]
      obtain ⟨k, ek⟩ : ∃ k, k = hf l.length := ⟨_, rfl⟩
      have ch := fun W => below_any l.length W h2 (by omega)
      rw [← ek] at hk1 hk0 ch ⊢
      have lt : (l.take k).length = k := by rw [List.length_take]; omega
      have ld : (l.drop k).length = l.length - k := by rw [List.length_drop]
      have c1 := fun (W : World) (a : StrAt W W.heap.size b off (l.take k)) => ih (l.take k) b off cap W (by omega) (by omega) (by omega) hmax (fun s h => hs s (List.mem_of_mem_take h)) a
      have c2 := fun (W : World) (a : StrAt W W.heap.size b (off + k) (l.drop k)) => ih (l.drop k) b (off + k) (cap - k) W (by omega) (by omega) (by omega) (by omega) (fun s h => hs s (List.mem_of_mem_drop h)) a
      rw [lt] at c1
      rw [ld] at c2
      have l1 := mroot_length (l.take k)
      have l2 := mroot_length (l.drop k)
      obtain ⟨X, eX⟩ : ∃ X, X = mroot (l.take k) := ⟨_, rfl⟩
      obtain ⟨Y, eY⟩ : ∃ z, z = mroot (l.drop k) := ⟨_, rfl⟩
      rw [← eX] at c1 l1 ⊢
      rw [← eY] at c2 l2 ⊢
      have c3 := fun W => rnode_any X Y W (by omega) (by omega)
      obtain ⟨Z, eZ⟩ : ∃ z, z = mnode X Y := ⟨_, rfl⟩
      rw [← eZ] at c3 ⊢
      have hAt := hA.take k
      have hAd := hA.drop k
      have H := Lib.hid (And.intro c1 (And.intro c2 c3))
      have HG := Lib.hid (And.intro hAt hAd)
      have CH := Lib.hid ch
      have n0 : ((l.length : Int) == 0) = false := beq_eq_false_iff_ne.2 (by omega)
      have n1 : ((l.length : Int) == 1) = false := beq_eq_false_iff_ne.2 (by omega)
      have k0 : (0 : Int) ≤ (k : Int) := by omega
      have k1 : (k : Int) ≤ (l.length : Int) := by omega
      have k2 : (k : Int) ≤ (cap : Int) := by omega
      have k3 : (l.length : Int) ≤ (cap : Int) := by omega
      clear c1 c2 c3 ih hs hA hAt hAd ch ek eX eY eZ lt ld
      go_enter Tryd.func28, Tryd.ntmps28
      go_wp2_with (go_at_call 58; refine (CH.out _).mono ?_; clear CH; rintro e w' ⟨rfl, rfl⟩)
      refine (H.out.1 _ HG.out.1).mono ?_
      rintro e w1 ⟨rfl, h1⟩
      have HB1 := Lib.hid h1
      clear h1
      go_wp2_with fail
      refine (H.out.2.1 w1 ⟨Nat.lt_of_lt_of_le HG.out.2.1 HB1.out.size, (HG.out.2.below HB1.out).2⟩).mono ?_
      rintro e w2 ⟨rfl, h1⟩
      have HB2 := Lib.hid (HB1.out.trans (h1.mono HB1.out.size))
      clear h1 HB1
      go_wp2_with fail
      refine (H.out.2.2 w2).mono ?_
      rintro e w3 ⟨rfl, h1⟩
      have HB3 := Lib.hid (HB2.out.trans (h1.mono HB2.out.size))
      clear h1 HB2
      go_wp2_with fail
      go_ret
      exact ⟨rfl, HB3.out⟩
    · by_cases h1 : l.length = 1
      · rw [mroot_one l h1]
        have hc := hA.2 0 (by omega)
        rw [Nat.add_zero] at hc
        obtain ⟨s, es⟩ : ∃ s, s = l.getD 0 [] := ⟨_, rfl⟩
        rw [← es] at hc ⊢
        have hsl : s.length ≤ 140737488353000 := hs s (by rw [es, List.getD_eq_getElem?_getD, List.getElem?_eq_getElem (by omega)]; exact List.getElem_mem _)
        have c := rleaf_any s w hsl
        obtain ⟨M, eM⟩ : ∃ M, M = mleaf s := ⟨_, rfl⟩
        rw [← eM] at c ⊢
        have C := Lib.hid c
        rw [h1]
        clear c eM hl ih hs hA es hsl h1 h2
        go_enter Tryd.func28, Tryd.ntmps28
        go_wp2_with (go_at_call 30; refine C.out.mono ?_; clear C; rintro e w' ⟨rfl, hB⟩)
        go_ret
        exact ⟨rfl, hB⟩
      · exact ih l b off cap w (by omega) (by omega) hcap hmax hs hA
end Go.Proofs.YthhjmodkodkgpaaDoor
