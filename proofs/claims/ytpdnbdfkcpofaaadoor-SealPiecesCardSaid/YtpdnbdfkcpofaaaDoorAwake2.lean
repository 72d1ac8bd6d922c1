/- strongboxlaw2.awake. -/
import Derived.Test.YtpdnbdfkcpofaaaDoorR2S
import Derived.Test.YtpdnbdfkcpofaaaDoorMem3
namespace Go.Proofs.YtpdnbdfkcpofaaaDoor
open Go.RowKit Sbx Go.Sort

theorem num_zero : num 0 8 = List.replicate 8 0 := by decide +kernel
theorem piece_zero (key : List UInt8) : stream key 0 32 = piece key 0 := by
  apply List.ext_getElem?
  intro j
  unfold stream
  by_cases hj : j < 32
  · rw [List.getElem?_map, List.getElem?_range hj]
    show some (byteAt key (0 + j)) = _
    unfold byteAt
    rw [Nat.zero_add, show j / 32 = 0 from by omega, show j % 32 = j from by omega, List.getD_eq_getElem?_getD, List.getElem?_eq_getElem (by rw [piece_length]; exact hj)]
    rfl
  · rw [List.getElem?_eq_none (by simp; omega), List.getElem?_eq_none (by rw [piece_length]; omega)]
theorem xor_twice (key : List UInt8) (f : Nat) (s : List UInt8) : xorS (xorS s (stream key f s.length)) (stream key f (xorS s (stream key f s.length)).length) = s := by
  have hl := xorS_length s (stream key f s.length)
  rw [hl]
  apply List.ext_getElem?
  intro j
  by_cases hj : j < s.length
  · have h1 := xorS_getD (xorS s (stream key f s.length)) (stream key f s.length) j (by rw [hl]; exact hj)
    rw [xorS_getD _ _ _ hj, UInt8.xor_assoc, UInt8.xor_self, UInt8.xor_zero, List.getD_eq_getElem?_getD, List.getD_eq_getElem?_getD, List.getElem?_eq_getElem (by rw [xorS_length, hl]; exact hj), List.getElem?_eq_getElem hj] at h1
    rw [List.getElem?_eq_getElem (by rw [xorS_length, hl]; exact hj), List.getElem?_eq_getElem hj]
    exact congrArg some (by simpa using h1)
  · rw [List.getElem?_eq_none (by rw [xorS_length, hl]; omega), List.getElem?_eq_none (by omega)]

theorem made32 (w : World) : (Instr.makeSlice 44 (.int .i64 32) (.int .i64 32)).run Tryd.prog w = .ok (.slice (some ⟨w.heap.size, 0, none⟩) 32 32) (w.alloc (.cells (b8s (List.replicate 32 0)).toArray 5)) := make_n 32 32 rfl (by omega) w
theorem made40 (w : World) : (Instr.makeSlice 44 (.int .i64 40) (.int .i64 40)).run Tryd.prog w = .ok (.slice (some ⟨w.heap.size, 0, none⟩) 40 40) (w.alloc (.cells (b8s (List.replicate 40 0)).toArray 5)) := make_n 40 40 rfl (by omega) w
theorem conv_made (n : Nat) (w : World) : (convert 44 9 (.slice (some ⟨w.heap.size, 0, none⟩) n n)).run Tryd.prog (w.alloc (.cells (b8s (List.replicate n 0)).toArray 5)) = .ok (.string ⟨(List.replicate n (0 : UInt8)).toArray⟩) (w.alloc (.cells (b8s (List.replicate n 0)).toArray 5)) := by
  have h := run_convert_b8 (P := Tryd.prog) (src := 44) (dst := 9) (e := 5) Tryd.underlying44 Tryd.underlying5 Tryd.underlying9 ⟨w.heap.size, 0, none⟩ (List.replicate n 0) n (w.alloc (.cells (b8s (List.replicate n 0)).toArray 5)) (fun j hj => by
    rw [addr_add, Nat.zero_add, cell_of_row _ _ _ _ _ _ (heap_alloc_new w _), b8s_arr_get _ _ hj])
  rw [List.length_replicate] at h
  exact h

set_option maxRecDepth 100000 in
theorem awake_any (w : World) (hG : Glob w) :
    Calls Tryd.prog 11 #[] w fun e w' => e = .returned (.bool true) ∧ Below w.heap.size w w' := by
  obtain ⟨K, eK⟩ : ∃ K, K = List.replicate 32 (0 : UInt8) := ⟨_, rfl⟩
  obtain ⟨Z, eZ⟩ : ∃ Z, Z = List.replicate 40 (0 : UInt8) := ⟨_, rfl⟩
  have lK : K.length = 32 := by rw [eK]; simp
  have hKZ : K ++ num 0 8 = Z := by rw [eK, eZ, num_zero]; rfl
  have m1 := made32 w
  have v1 := conv_made 32 w
  have m2 := fun W => made40 W
  have v2 := fun W => conv_made 40 W
  rw [← eK] at m1 v1
  rw [← eZ] at m2 v2
  have wi1 : withinV K 0 32 = 0 := withinV_ok.2 (by omega)
  have wi2 : withinV K 10 3 = 0 := withinV_ok.2 (by omega)
  have c1 := fun W (h : Glob W) => stream_any K 0 32 W h (by omega) (by omega) (by omega) (by omega) (by omega)
  have c2 := fun W (h : Glob W) => xor_any K 10 [97, 98, 99] W h (by omega) (by omega) (by omega) (by simp)
  obtain ⟨T, eT⟩ : ∃ T, T = xorV K 10 [97, 98, 99] := ⟨_, rfl⟩
  have eT' : T = xorS [97, 98, 99] (stream K 10 3) := by rw [eT]; unfold xorV; rw [if_pos (show withinV K 10 (([97, 98, 99] : List UInt8).length : Int) = 0 from wi2)]; rfl
  have lT : T.length = 3 := by rw [eT', xorS_length]; rfl
  have c3 := fun W (h : Glob W) => xor_any K 10 T W h (by omega) (by omega) (by omega) (by omega)
  have c4 := fun W (h : Glob W) => sum_any Z W h (by rw [eZ]; simp)
  have x3 : xorV K 10 T = [97, 98, 99] := by
    unfold xorV
    rw [lT, if_pos (show withinV K 10 ((3 : Nat) : Int) = 0 from wi2)]
    have h := xor_twice K 10 [97, 98, 99]
    rw [show ([97, 98, 99] : List UInt8).length = 3 from rfl, ← eT', lT] at h
    exact h
  have x1 : streamV K 0 32 = sha Z := by
    unfold streamV
    rw [if_pos wi1]
    show stream K 0 32 = _
    rw [piece_zero]
    unfold piece
    rw [hKZ]
  rw [← eT] at c2
  rw [x3, lT] at c3
  rw [x1] at c1
  obtain ⟨S, eS⟩ : ∃ S, S = sha Z := ⟨_, rfl⟩
  have lS : S.length = 32 := by rw [eS]; exact sha_length _
  rw [← eS] at c1 c4
  rw [wi1] at c1
  rw [show withinV K 10 (([97, 98, 99] : List UInt8).length : Int) = 0 from wi2] at c2
  rw [show withinV K 10 ((3 : Nat) : Int) = 0 from wi2] at c3
  have hG1 : Glob (w.alloc (.cells (b8s K).toArray 5)) := hG.below ((Below.refl _ w).alloc (Nat.le_refl _) _)
  have HG1 := Lib.hid hG1
  have HB0 := Lib.hid ((Below.refl w.heap.size w).alloc (Nat.le_refl _) (.cells (b8s K).toArray 5))
  have H := Lib.hid (And.intro c1 (And.intro c2 (And.intro c3 (And.intro c4 (And.intro m2 v2)))))
  clear eK eZ lK hKZ wi1 wi2 c1 c2 c3 c4 eT eT' lT x3 x1 eS hG1 hG m2 v2
  go_enter Tryd.func11, Tryd.ntmps11
  go_wp2_with fail
  clear m1 v1
  refine (H.out.1 _ HG1.out).mono ?_
  rintro e w1 ⟨rfl, hB1⟩
  have HG2 := Lib.hid (HG1.out.below hB1)
  have HB1 := Lib.hid (HB0.out.trans (hB1.mono HB0.out.size))
  clear HG1 HB0 hB1
  go_wp2_with fail
  refine (H.out.2.1 _ HG2.out).mono ?_
  rintro e w2 ⟨rfl, hB2⟩
  have HG3 := Lib.hid (HG2.out.below hB2)
  have HB2 := Lib.hid (HB1.out.trans (hB2.mono HB1.out.size))
  clear HG2 HB1 hB2
  go_wp2_with fail
  refine (H.out.2.2.1 _ HG3.out).mono ?_
  rintro e w3 ⟨rfl, hB3⟩
  have HG4 := Lib.hid (HG3.out.below hB3)
  have HB3 := Lib.hid (HB2.out.trans (hB3.mono HB2.out.size))
  clear HG3 HB2 hB3
  have m2 := H.out.2.2.2.2.1 w3
  have v2 := H.out.2.2.2.2.2 w3
  have HB4 := Lib.hid ((Below.refl w3.heap.size w3).alloc (Nat.le_refl _) (.cells (b8s Z).toArray 5))
  go_wp2_with fail
  clear m2 v2
  refine (H.out.2.2.2.1 _ (HG4.out.below HB4.out)).mono ?_
  rintro e w4 ⟨rfl, hB4⟩
  have HB5 := Lib.hid (HB3.out.trans ((HB4.out.mono HB3.out.size).trans (hB4.mono (by have := HB3.out.size; have := HB4.out.size; omega))))
  clear H HB3 HB4 hB4 HG4
  go_wp2_with fail
  go_ret
  exact ⟨rfl, HB5.out⟩
end Go.Proofs.YtpdnbdfkcpofaaaDoor
