/- strongboxlaw19.MerkleGrows: the walk. -/
import Derived.Test.YthhjmodkodkgpaaDoorMOver
import Derived.Test.YthhjmodkodkgpaaDoorMGrowLaw
namespace Go.Proofs.YthhjmodkodkgpaaDoor
open Go.RowKit Sbx Go.Sort

theorem grownL_le (l : List (List UInt8)) (i : Int) : (grownL l i).length ≤ l.length + 1 := by
  unfold grownL
  split
  · rw [mgrown_length]; exact mcount_bound l.length _ _ _ (Nat.le_refl _)
  · simp
theorem slice_front (l : List (List UInt8)) (O : Nat) (hO : O ≤ l.length) (A : Option Addr) (cap : Nat) (hc : l.length ≤ cap) :
    ∃ A2, (∀ W, (Instr.sliceAt 22 (.slice A l.length cap) none (some (.int .i64 (O : Int))) none).run Tryd.prog W = .ok (.slice A2 O cap) W) ∧ ∀ W, Reads W W.heap.size A l.length (fun j => .string ⟨(l.getD j []).toArray⟩) → Reads W W.heap.size A2 O (fun j => .string ⟨((l.take O).getD j []).toArray⟩) := by
  refine ⟨if cap = 0 then A else A.map (·.add 0), fun W => ?_, fun W h i hi => ?_⟩
  · have ht : Tryd.prog.underlying 22 = some (.slice (Tryd.prog.elem 22)) := by kernel_rfl
    rw [run_sliceAt_slice W _ _ _ _ _ ht, run_slice_h W _ _ _ _ ht .i64 O (by omega) (by omega)]
    obtain ⟨i, x1, x2, x3, x4⟩ := info_parts info_str1
    have he : Tryd.prog.elem 22 = 9 := by kernel_rfl
    rw [he]
    simp [sizeOf, typeInfo, x1, sliced]
  · obtain ⟨b, off, e, hb, hcell⟩ := h i (by omega)
    refine ⟨b, off, ?_, hb, ?_⟩
    · rw [e, if_neg (by omega), Option.map_some, addr_add]; rfl
    · rw [hcell]
      show some (Value.string ⟨(l.getD i []).toArray⟩) = some (Value.string ⟨((l.take O).getD i []).toArray⟩)
      rw [List.getD_eq_getElem?_getD, List.getD_eq_getElem?_getD, List.getElem?_take_of_lt hi]
set_option maxRecDepth 100000 in
set_option maxHeartbeats 8000000 in
theorem merklegrows_in (P : List (List UInt8)) (i : Int) (A : Option Addr) (cap : Nat) (w : World) (hG : Glob w) (hP : P.length ≤ 1048576) (hPs : ∀ s ∈ P, s.length ≤ 1048576) (hcap : P.length ≤ cap) (hmax : cap ≤ maxLen)
    (hR : Reads w w.heap.size A P.length (fun j => .string ⟨(P.getD j []).toArray⟩)) (ht : 0 ≤ i ∧ i ≤ (P.take 5000).length) :
    Calls Tryd.prog 11 #[.slice A P.length cap, .int .i64 i] w fun e w' => e = .returned (.bool true) ∧ Below w.heap.size w w' := by
  have HS := St.start hG
  have c0 := fun W => some_any P.length 5000 A cap W hcap hmax (fun h => by obtain ⟨b, off, e, _⟩ := hR 0 h; exact ⟨b, off, e⟩)
  obtain ⟨l, el⟩ : ∃ l, l = P.take 5000 := ⟨_, rfl⟩
  have hl : l.length = min P.length 5000 := by rw [el, List.length_take, Nat.min_comm]
  have hR' : Reads w w.heap.size A l.length (fun j => .string ⟨(l.getD j []).toArray⟩) := by
    refine hR.front (by omega) (fun i hi => ?_)
    rw [el, List.getD_eq_getElem?_getD, List.getD_eq_getElem?_getD, List.getElem?_take_of_lt (by omega)]
  have hls : ∀ s ∈ l, s.length ≤ 1048576 := fun s h => hPs s (by rw [el] at h; exact List.mem_of_mem_take h)
  rw [← el] at ht
  rw [← hl] at c0
  have hlc : l.length ≤ cap := by omega
  have hln : l.length ≤ 5000 := by omega
  obtain ⟨I, rfl⟩ : ∃ I : Nat, i = I := ⟨i.toNat, by omega⟩
  have hI : I ≤ l.length := by omega
  have hus := unl_le l 1048576 hls
  have hul := unl_length l
  have hov := lent_over l (unl l) hul
  have he2 : grownE (unl l) (I : Int) = 0 := by unfold grownE; rw [hul, if_pos ht]
  have he1 : grownE l (I : Int) = 0 := by unfold grownE; rw [if_pos ht]
  have he3 : grownE l ((l.length : Int) - I) = 0 := by unfold grownE; rw [if_pos (by omega)]
  obtain ⟨A2, hsl, hA2⟩ := slice_front l I hI A cap hlc
  have htk : (l.take I).length = I := by rw [List.length_take]; omega
  have hck : mgcheck (mroot (l.take I)) I (mroot l) l.length (grownL l I) = if (l.length : Int) ≤ 4096 then 0 else 191 := by
    by_cases h4 : (l.length : Int) ≤ 4096
    · rw [if_pos h4]
      exact mgcheck_grown l I hI (by omega)
    · have r1 := mroot_length (l.take I)
      have r2 := mroot_length l
      rw [if_neg h4]
      unfold mgcheck
      rw [if_neg (by simp [r1, r2]), if_pos (by omega)]
  have c1 := fun W h => lent_any l A cap W (by omega) h
  have c2 := fun W (g : Glob W) A' h => Grown_any l I A' (l.length + 8) W (by omega) (by omega) (by unfold maxLen; omega) (fun s h => by have := hls s h; omega) g (strAt_opt h)
  have c3 := fun W h => rGrown_any l I A cap W (by omega) hlc hmax (fun s h => by have := hls s h; omega) (strAt_opt h)
  have c4 := fun W g h k => kept_any l g (l.length + 8) A cap W (by omega) (Nat.le_refl _) h k
  have c5 := fun W h => unlike_any l A cap W (by omega) (fun s h => by have := hls s h; omega) h
  change ∀ W h, Calls _ _ _ W (fun e w' => ∃ v, e = Ending.returned v ∧ Hid (Lst W w' 9 v (strs (unl l)))) at c5
  obtain ⟨u, eu⟩ : ∃ u, u = unl l := ⟨_, rfl⟩
  rw [← eu] at c5 hus hul hov he2
  have c6 := fun W A' cap' hc hm h => rGrown_any u I A' cap' W (by omega) hc hm (fun s h => by have := hus s h; omega) (strAt_opt h)
  have c7 := fun W (g : Glob W) A' cap' hc hm h => Grown_any u I A' cap' W (by omega) hc hm (fun s h => by have := hus s h; omega) g (strAt_opt h)
  have c8 := fun W (g : Glob W) h => Grown_any l I A cap W (by omega) hlc hmax (fun s h => by have := hls s h; omega) g (strAt_opt h)
  have c9 := fun W (g : Glob W) h => Grown_any l ((l.length : Int) - I) A cap W (by omega) hlc hmax (fun s h => by have := hls s h; omega) g (strAt_opt h)
  have c10 := fun W h => rGrown_any l ((l.length : Int) - I) A cap W (by omega) hlc hmax (fun s h => by have := hls s h; omega) (strAt_opt h)
  rw [he1] at c2 c3 c8
  rw [he3] at c9 c10
  rw [he2] at c6 c7
  rw [hul] at c6 c7
  have lx := grownL_le l I
  have ly := grownL_le u I
  have lz := grownL_le l ((l.length : Int) - I)
  rw [hul] at ly
  have d1 := fun W (g : Glob W) h => root_any l A cap W (by omega) hlc hmax (fun s h => by have := hls s h; omega) g h
  have d0 := fun W (g : Glob W) h => root_any (l.take I) A2 cap W (by omega) (by omega) hmax (fun s h => by have := hls s (List.mem_of_mem_take h); omega) g h
  rw [htk] at d0
  obtain ⟨X, eX⟩ : ∃ x, x = grownL l I := ⟨_, rfl⟩
  obtain ⟨Y, eY⟩ : ∃ x, x = grownL u I := ⟨_, rfl⟩
  obtain ⟨Z, eZ⟩ : ∃ x, x = grownL l ((l.length : Int) - I) := ⟨_, rfl⟩
  obtain ⟨R, eR⟩ : ∃ x, x = mroot l := ⟨_, rfl⟩
  obtain ⟨R0, eR0⟩ : ∃ x, x = mroot (l.take I) := ⟨_, rfl⟩
  rw [← eX] at c2 c3 c8 lx hck
  rw [← eY] at c6 c7 ly
  rw [← eZ] at c9 c10 lz
  rw [← eR] at d1 hck
  rw [← eR0] at d0 hck
  have d2 := fun W (g : Glob W) A' cap' hc h => checkgrown_any R0 I R l.length X A' cap' W g (by omega) hc h
  rw [hck] at d2
  have f1 := fun W A' B' c' d' h k => lsame_any X X A' B' c' d' W (by omega) h k
  have f2 := fun W A' B' c' d' h k => lsame_any Y Y A' B' c' d' W (by omega) h k
  have f3 := fun W A' B' c' d' h k => lsame_any Z Z A' B' c' d' W (by omega) h k
  rw [show decide (X = X) = true from by simp] at f1
  rw [show decide (Y = Y) = true from by simp] at f2
  rw [show decide (Z = Z) = true from by simp] at f3
  obtain ⟨m1, em1⟩ : ∃ m : List UInt8, m = [111, 110, 101] := ⟨_, rfl⟩
  obtain ⟨m2, em2⟩ : ∃ m : List UInt8, m = [116, 119, 111] := ⟨_, rfl⟩
  have ea1 : (⟨m1.toArray⟩ : ByteArray) = ⟨#[111, 110, 101]⟩ := by rw [em1]
  have ea2 : (⟨m2.toArray⟩ : ByteArray) = ⟨#[116, 119, 111]⟩ := by rw [em2]
  have g1 := fun v B W h => over_any X m1 v B W (by omega) h
  have g2 := fun v B W h => over_any X m2 v B W (by omega) h
  have g3 := fun A' c' W h => still_any (List.replicate (X.length + 22) m1) m1 A' c' W (by simp; omega) (repl_mem _ _) h
  have g4 := fun A' c' W h => still_any (List.replicate (X.length + 22) m2) m2 A' c' W (by simp; omega) (repl_mem _ _) h
  rw [ea1] at g1 g3
  rw [ea2] at g2 g4
  rw [List.length_replicate] at g3 g4
  have H := Lib.hid (And.intro c0 (And.intro c1 (And.intro c2 (And.intro c3 (And.intro c4 (And.intro c5 (And.intro c6 c7)))))))
  have K := Lib.hid (And.intro c8 (And.intro c9 (And.intro c10 (And.intro d1 (And.intro d2 d0)))))
  have F := Lib.hid (And.intro f1 (And.intro f2 f3))
  have G := Lib.hid (And.intro g1 (And.intro g2 (And.intro g3 g4)))
  have HR := Lib.hid (And.intro hR' (And.intro hG (And.intro hul (And.intro hov hA2))))
  have HMN := Lib.hid (And.intro (show (strs u).length = Nat.min l.length (l.length + 8) from by rw [strs_length, hul]; exact (Nat.min_eq_left (by omega)).symm) (show (strs u).length ≤ (strs (l ++ spare8)).length from by rw [strs_length, strs_length, hul, List.length_append]; omega))
  have hlz : (l.length : Int) ≤ 5000 := by omega
  have hcz : (l.length : Int) ≤ (cap : Int) := by omega
  have i0 : (0 : Int) ≤ (I : Int) := by omega
  have i1 : (I : Int) ≤ (l.length : Int) := by omega
  have hw2 : IntKind.i64.wrap ((l.length : Int) - I) = (l.length : Int) - I := by rw [IntKind.wrap_i64]; omega
  clear c0 c1 c2 c3 c4 c5 c6 c7 c8 c9 c10 d1 d2 d0 f1 f2 f3 g1 g2 g3 g4 em1 em2 ea1 ea2 eX eY eZ eR eR0 eu el hl hR hR' hls hus hul hov hG hP hPs hcap hmax hlc hck he1 he2 he3 ht hI lx ly lz htk hA2 hln
  by_cases h4 : (l.length : Int) ≤ 4096
  all_goals
    first | rw [if_pos h4] at K | rw [if_neg h4] at K
    go_enter Tryd.func11, Tryd.ntmps11
    go_wp2_with (first
      | (go_at_call 13; refine (St.callG HS awake_any).mono ?_; clear HS; rintro e w' ⟨rfl, HS⟩)
      | (go_at_call 14; refine (Kp.still HS (H.out.1 _)).mono ?_; clear HS; rintro e w' ⟨rfl, HS⟩)
      | (go_at_call 15; have hsz := Lib.hid (St.bel HS).size; refine (Kp.listAt HS (H.out.2.1 _ (HR.out.1.belowW (St.bel HS)))).mono ?_; clear HS; rintro e w2 ⟨rfl, HL⟩)
      | (go_at_call 44; have hg2 := Lib.hid (LstW.lt HL.out.2); have hw2s := Lib.hid (St.bel HL.out.1).size; refine (Kp.row2 HL (H.out.2.2.1 _ HL.out.1.1 _ HL.out.2.lentFront)).mono ?_; clear HL; rintro e w3 ⟨va, rfl, HA⟩
         obtain ⟨Aa, ca, rfl, hca, _⟩ := HA.out.2.form
         rw [strs_length] at hca HA ⊢)
      | (go_at_call 45; have hg3 := Lib.hid (LstW.lt HA.out.1.2); have hab := Lib.hid (fun k hk => (HA.out.2.lt k hk).2); refine (Kp.row2 HA (H.out.2.2.2.1 _ (HR.out.1.belowW HA.out.1.1.2))).mono ?_; clear HA; rintro e w4 ⟨vb, rfl, HB⟩
         obtain ⟨Ab, cb, rfl, _, _⟩ := HB.out.2.form
         rw [strs_length])
      | (go_at_call 18; refine (Kp.call HB (H.out.2.2.2.2.1 _ _ HB.out.1.1.2.lentReads (HR.out.1.belowW HB.out.1.1.1.2))).mono ?_; clear HB; rintro e w5 ⟨rfl, HK⟩)
      | (go_at_call 19; refine (Kp.list HK (H.out.2.2.2.2.2.1 _ (HR.out.1.belowW HK.out.1.1.1.2))).mono ?_; clear HK; rintro e w6 ⟨v, rfl, HU⟩
         obtain ⟨A5, c5, rfl, hc5, hm5⟩ := Lst.form HU.out.2
         rw [strs_length, HR.out.2.2.1] at hc5 ⊢)
      | (go_at_call 45; have hg6 := Lib.hid (LstW.lt HU.out.1.1.1.2); refine (Kp.row2 HU (H.out.2.2.2.2.2.2.1 _ _ _ hc5 hm5 (by have := Lst.reads_strs HU.out.2; rwa [HR.out.2.2.1] at this))).mono ?_; clear HU; rintro e w7 ⟨vv, rfl, HV⟩
         obtain ⟨Av, cv, rfl, _, _⟩ := HV.out.2.form
         rw [strs_length])
      | (go_at_call 19; refine (Kp.list HV (H.out.2.2.2.2.2.1 _ (HR.out.1.belowW HV.out.1.1.1.1.1.2))).mono ?_; clear HV; rintro e w8 ⟨v, rfl, HW⟩
         obtain ⟨A6, c6, rfl, hc6, hm6⟩ := Lst.form HW.out.2
         rw [strs_length, HR.out.2.2.1] at hc6 ⊢)
      | ((with_reducible refine gate_op (Op.call { callee := .builtin .copy, args := #[.tmp 61, .tmp 63], argTypes := #[22, 22] }) rfl ?_)
         refine lst_copy rfl (.tmp 61) (.tmp 63) 22 9 rfl Tryd.underlying22 size_str1 _ _ _ _ _ _ _ _ rfl rfl _ (strs u) HW.out.1.1.1.1.1.2 HMN.out.1 HMN.out.2 (fun j => .string ⟨(u.getD j []).toArray⟩) (fun i hi => strs_getD u i (by rwa [strs_length] at hi)) (by rw [strs_length]; exact Lst.reads_strs HW.out.2) (strs_cell u) ?_
         intro w9 h1 hg9
         rw [HR.out.2.2.2.1] at h1
         have hq := after_copy HR.out.2.1 HW.out.1.1.1.1.1.1 h1 HW.out.1.1.1.1.2 HW.out.1.1.1.2 HW.out.1.2 hg9 hsz.out hg2.out hg3.out hg6.out
         have HM := Lib.hid hq
         clear hq
         clear h1 hg9 HW hg2 hg3 hg6 hsz)
      | (go_at_call 44; refine (Kp.row2 HM (H.out.2.2.2.2.2.2.2 _ HM.out.1.1.1.1.1 _ _ (by omega) (by unfold maxLen; omega) (by have := Lst.lentFront HM.out.1.1.1.2; rwa [HR.out.2.2.1] at this))).mono ?_; clear HM; rintro e w10 ⟨vu, rfl, HN⟩
         obtain ⟨Au, cu, rfl, _, _⟩ := HN.out.2.form
         rw [strs_length])
      | (go_at_call 20; refine (Kp.call HN (F.out.1 _ _ _ _ _ HN.out.1.1.1.2.readsS HN.out.1.1.2.readsS)).mono ?_; clear HN; rintro e w11 ⟨rfl, HO⟩)
      | (go_at_call 21; refine (Kp.call HO (K.out.2.2.2.2.2 _ HO.out.1.1.1.1.1.1 (HR.out.2.2.2.2 _ (HR.out.1.belowW HO.out.1.1.1.1.1.2)))).mono ?_; clear HO; rintro e w12 ⟨rfl, HP0⟩)
      | (go_at_call 21; refine (Kp.call HP0 (K.out.2.2.2.1 _ HP0.out.1.1.1.1.1.1 (HR.out.1.belowW HP0.out.1.1.1.1.1.2))).mono ?_; clear HP0; rintro e w12 ⟨rfl, HP⟩)
      | (go_at_call 35; refine (Kp.call HP (K.out.2.2.2.2.1 _ HP.out.1.1.1.1.1.1 _ _ hca HP.out.1.1.1.2.readsS)).mono ?_; clear HP; rintro e w13 ⟨rfl, HQ⟩)
      | (go_at_call 44; have hac := Lib.hid (fun k hk => (HQ.out.1.1.1.2.lt k hk).2); have hwc := Lib.hid (St.bel HQ.out.1.1.1.1.1).size; refine (Kp.row2 HQ (K.out.1 _ HQ.out.1.1.1.1.1.1 (HR.out.1.belowW HQ.out.1.1.1.1.1.2))).mono ?_; clear HQ; rintro e w14 ⟨vc, rfl, HC⟩
         obtain ⟨Ac, cc, rfl, _, _⟩ := HC.out.2.form
         rw [strs_length] at HC ⊢)
      | (go_at_call 44; refine (Kp.row2 HC (K.out.2.1 _ HC.out.1.1.1.1.1.1.1 (HR.out.1.belowW HC.out.1.1.1.1.1.1.2))).mono ?_; clear HC; rintro e w15 ⟨vd, rfl, HD⟩
         obtain ⟨Ad, cd, rfl, _, _⟩ := HD.out.2.form
         rw [strs_length])
      | (go_at_call 45; refine (Kp.row2 HD (K.out.2.2.1 _ (HR.out.1.belowW HD.out.1.1.1.1.1.1.1.2))).mono ?_; clear HD; rintro e w16 ⟨vx, rfl, HE⟩
         obtain ⟨Ax, cx, rfl, _, _⟩ := HE.out.2.form
         rw [strs_length])
      | (go_at_call 20; refine (Kp.call HE (F.out.2.2 _ _ _ _ _ HE.out.1.2.readsS HE.out.2.readsS)).mono ?_; clear HE; rintro e w17 ⟨rfl, HE2⟩)
      | (go_at_call 20; refine (Kp.call HE2 (F.out.2.1 _ _ _ _ _ HE2.out.1.1.1.2.readsS HE2.out.1.1.1.1.2.readsS)).mono ?_; clear HE2; rintro e w18 ⟨rfl, HE3⟩)
      | (go_at_call 20; refine (Kp.call HE3 (F.out.1 _ _ _ _ _ HE3.out.1.1.1.1.1.1.2.readsS HE3.out.1.1.1.1.1.2.readsS)).mono ?_; clear HE3; rintro e w19 ⟨rfl, HE4⟩)
      | (go_at_call 23; refine (G.out.1 _ _ _ HE4.out.1.1.1.1.1.1.2).mono ?_; rintro e w20 ⟨v1, rfl, h1⟩
         have hq := after_over HR.out.2.1 HE4.out.1.1.1.1.1.1.1.1 HE4.out.1.1.1.1.1.1.2 HE4.out.1.1.1.1.1.2 HE4.out.1.1.2 h1.out.1 h1.out.2.1 h1.out.2.2 hw2s.out hab.out hac.out
         have HY := Lib.hid hq
         clear hq
         obtain ⟨A1, c1, rfl, _, _⟩ := h1.out.1.form
         rw [strs_length, List.length_replicate]
         clear h1 HE4 hab hac hw2s)
      | (go_at_call 20; refine (Kp.call HY (F.out.1 _ _ _ _ _ HY.out.1.2.readsS HY.out.1.1.2.readsS)).mono ?_; clear HY; rintro e w21 ⟨rfl, HY2⟩)
      | (go_at_call 23; refine (G.out.2.1 _ _ _ HY2.out.1.2).mono ?_; rintro e w22 ⟨v2, rfl, h1⟩
         have hq := after_over2 HR.out.2.1 HY2.out.1.1.1 HY2.out.1.2 HY2.out.2.1 HY2.out.2.2 h1.out.1 h1.out.2.1 hwc.out
         have HZ := Lib.hid hq
         clear hq
         obtain ⟨A2, c2, rfl, _, _⟩ := h1.out.1.form
         rw [strs_length, List.length_replicate]
         clear h1 HY2 hwc)
      | (go_at_call 24; refine (Kp.still HZ (G.out.2.2.1 _ _ _ HZ.out.1.2.readsR)).mono ?_; clear HZ; rintro e w23 ⟨rfl, HZ2⟩)
      | (go_at_call 24; refine (Kp.still HZ2 (G.out.2.2.2 _ _ _ HZ2.out.2.readsR)).mono ?_; clear HZ2; rintro e w24 ⟨rfl, HZ3⟩))
    go_ret
    exact ⟨rfl, HZ3.out.1.1.2⟩

set_option maxRecDepth 100000 in
set_option maxHeartbeats 8000000 in
theorem merklegrows_out (P : List (List UInt8)) (i : Int) (A : Option Addr) (cap : Nat) (w : World) (hG : Glob w) (hP : P.length ≤ 1048576) (hPs : ∀ s ∈ P, s.length ≤ 1048576) (hcap : P.length ≤ cap) (hmax : cap ≤ maxLen)
    (hR : Reads w w.heap.size A P.length (fun j => .string ⟨(P.getD j []).toArray⟩)) (ht : ¬ (0 ≤ i ∧ i ≤ (P.take 5000).length)) :
    Calls Tryd.prog 11 #[.slice A P.length cap, .int .i64 i] w fun e w' => e = .returned (.bool true) ∧ Below w.heap.size w w' := by
  have HS := St.start hG
  have c0 := fun W => some_any P.length 5000 A cap W hcap hmax (fun h => by obtain ⟨b, off, e, _⟩ := hR 0 h; exact ⟨b, off, e⟩)
  obtain ⟨l, el⟩ : ∃ l, l = P.take 5000 := ⟨_, rfl⟩
  have hl : l.length = min P.length 5000 := by rw [el, List.length_take, Nat.min_comm]
  have hR' : Reads w w.heap.size A l.length (fun j => .string ⟨(l.getD j []).toArray⟩) := by
    refine hR.front (by omega) (fun i hi => ?_)
    rw [el, List.getD_eq_getElem?_getD, List.getD_eq_getElem?_getD, List.getElem?_take_of_lt (by omega)]
  have hls : ∀ s ∈ l, s.length ≤ 1048576 := fun s h => hPs s (by rw [el] at h; exact List.mem_of_mem_take h)
  rw [← el] at ht
  rw [← hl] at c0
  have hlc : l.length ≤ cap := by omega
  have hln : l.length ≤ 5000 := by omega
  have hus := unl_le l 1048576 hls
  have hul := unl_length l
  have hov := lent_over l (unl l) hul
  have he2 : grownE (unl l) i = 191 := by unfold grownE; rw [hul, if_neg ht]
  have he1 : grownE l i = 191 := by unfold grownE; rw [if_neg ht]
  have hx1 : grownL l i = [] := by unfold grownL; rw [if_neg (by omega)]
  have c1 := fun W h => lent_any l A cap W (by omega) h
  have c2 := fun W (g : Glob W) A' h => Grown_any l i A' (l.length + 8) W (by omega) (by omega) (by unfold maxLen; omega) (fun s h => by have := hls s h; omega) g (strAt_opt h)
  have c3 := fun W h => rGrown_any l i A cap W (by omega) hlc hmax (fun s h => by have := hls s h; omega) (strAt_opt h)
  have c4 := fun W g h k => kept_any l g (l.length + 8) A cap W (by omega) (Nat.le_refl _) h k
  have c5 := fun W h => unlike_any l A cap W (by omega) (fun s h => by have := hls s h; omega) h
  change ∀ W h, Calls _ _ _ W (fun e w' => ∃ v, e = Ending.returned v ∧ Hid (Lst W w' 9 v (strs (unl l)))) at c5
  obtain ⟨u, eu⟩ : ∃ u, u = unl l := ⟨_, rfl⟩
  rw [← eu] at c5 hus hul hov he2
  have c6 := fun W A' cap' hc hm h => rGrown_any u i A' cap' W (by omega) hc hm (fun s h => by have := hus s h; omega) (strAt_opt h)
  have c7 := fun W (g : Glob W) A' cap' hc hm h => Grown_any u i A' cap' W (by omega) hc hm (fun s h => by have := hus s h; omega) g (strAt_opt h)
  rw [he1] at c2 c3
  rw [he2] at c6 c7
  rw [hul] at c6 c7
  rw [hx1] at c2 c3
  have ly := grownL_le u i
  rw [hul] at ly
  obtain ⟨X, eX⟩ : ∃ x : List (List UInt8), x = [] := ⟨_, rfl⟩
  have hX0 : X.length = 0 := by rw [eX]; rfl
  obtain ⟨Y, eY⟩ : ∃ x, x = grownL u i := ⟨_, rfl⟩
  rw [← eX] at c2 c3
  rw [← eY] at c6 c7 ly
  have f1 := fun W A' B' c' d' => lsame_any X X A' B' c' d' W (by omega) (fun i hi => by omega) (fun i hi => by omega)
  rw [show decide (X = X) = true from by simp, hX0] at f1
  have H := Lib.hid (And.intro c0 (And.intro c1 (And.intro c2 (And.intro c3 (And.intro c4 (And.intro c5 (And.intro c6 c7)))))))
  have F := Lib.hid f1
  have HR := Lib.hid (And.intro hR' (And.intro hG (And.intro hul hov)))
  have HMN := Lib.hid (And.intro (show (strs u).length = Nat.min l.length (l.length + 8) from by rw [strs_length, hul]; exact (Nat.min_eq_left (by omega)).symm) (show (strs u).length ≤ (strs (l ++ spare8)).length from by rw [strs_length, strs_length, hul, List.length_append]; omega))
  have hlz : (l.length : Int) ≤ 5000 := by omega
  have hcz : (l.length : Int) ≤ (cap : Int) := by omega
  clear c0 c1 c2 c3 c4 c5 c6 c7 f1 eX eY eu el hl hR hR' hls hus hul hov hG hP hPs hcap hmax hlc he1 he2 hx1 ht ly hln
  go_enter Tryd.func11, Tryd.ntmps11
  go_wp2_with (first
    | (go_at_call 13; refine (St.callG HS awake_any).mono ?_; clear HS; rintro e w' ⟨rfl, HS⟩)
    | (go_at_call 14; refine (Kp.still HS (H.out.1 _)).mono ?_; clear HS; rintro e w' ⟨rfl, HS⟩)
    | (go_at_call 15; have hsz := Lib.hid (St.bel HS).size; refine (Kp.listAt HS (H.out.2.1 _ (HR.out.1.belowW (St.bel HS)))).mono ?_; clear HS; rintro e w2 ⟨rfl, HL⟩)
    | (go_at_call 44; have hg2 := Lib.hid (LstW.lt HL.out.2); have hw2s := Lib.hid (St.bel HL.out.1).size; refine (Kp.row2 HL (H.out.2.2.1 _ HL.out.1.1 _ HL.out.2.lentFront)).mono ?_; clear HL; rintro e w3 ⟨va, rfl, HA⟩
       obtain ⟨Aa, ca, rfl, hca, _⟩ := HA.out.2.form
       rw [strs_length] at hca HA ⊢)
    | (go_at_call 45; have hg3 := Lib.hid (LstW.lt HA.out.1.2); have hab := Lib.hid (fun k hk => (HA.out.2.lt k hk).2); refine (Kp.row2 HA (H.out.2.2.2.1 _ (HR.out.1.belowW HA.out.1.1.2))).mono ?_; clear HA; rintro e w4 ⟨vb, rfl, HB⟩
       obtain ⟨Ab, cb, rfl, _, _⟩ := HB.out.2.form
       rw [strs_length])
    | (go_at_call 18; refine (Kp.call HB (H.out.2.2.2.2.1 _ _ HB.out.1.1.2.lentReads (HR.out.1.belowW HB.out.1.1.1.2))).mono ?_; clear HB; rintro e w5 ⟨rfl, HK⟩)
    | (go_at_call 19; refine (Kp.list HK (H.out.2.2.2.2.2.1 _ (HR.out.1.belowW HK.out.1.1.1.2))).mono ?_; clear HK; rintro e w6 ⟨v, rfl, HU⟩
       obtain ⟨A5, c5, rfl, hc5, hm5⟩ := Lst.form HU.out.2
       rw [strs_length, HR.out.2.2.1] at hc5 ⊢)
    | (go_at_call 45; have hg6 := Lib.hid (LstW.lt HU.out.1.1.1.2); refine (Kp.row2 HU (H.out.2.2.2.2.2.2.1 _ _ _ hc5 hm5 (by have := Lst.reads_strs HU.out.2; rwa [HR.out.2.2.1] at this))).mono ?_; clear HU; rintro e w7 ⟨vv, rfl, HV⟩
       obtain ⟨Av, cv, rfl, _, _⟩ := HV.out.2.form
       rw [strs_length])
    | (go_at_call 19; refine (Kp.list HV (H.out.2.2.2.2.2.1 _ (HR.out.1.belowW HV.out.1.1.1.1.1.2))).mono ?_; clear HV; rintro e w8 ⟨v, rfl, HW⟩
       obtain ⟨A6, c6, rfl, hc6, hm6⟩ := Lst.form HW.out.2
       rw [strs_length, HR.out.2.2.1] at hc6 ⊢)
    | ((with_reducible refine gate_op (Op.call { callee := .builtin .copy, args := #[.tmp 61, .tmp 63], argTypes := #[22, 22] }) rfl ?_)
       refine lst_copy rfl (.tmp 61) (.tmp 63) 22 9 rfl Tryd.underlying22 size_str1 _ _ _ _ _ _ _ _ rfl rfl _ (strs u) HW.out.1.1.1.1.1.2 HMN.out.1 HMN.out.2 (fun j => .string ⟨(u.getD j []).toArray⟩) (fun i hi => strs_getD u i (by rwa [strs_length] at hi)) (by rw [strs_length]; exact Lst.reads_strs HW.out.2) (strs_cell u) ?_
       intro w9 h1 hg9
       rw [HR.out.2.2.2] at h1
       have hq := after_copy HR.out.2.1 HW.out.1.1.1.1.1.1 h1 HW.out.1.1.1.1.2 HW.out.1.1.1.2 HW.out.1.2 hg9 hsz.out hg2.out hg3.out hg6.out
       have HM := Lib.hid hq
       clear hq
       clear h1 hg9 HW hg2 hg3 hg6 hsz)
    | (go_at_call 44; refine (Kp.row2 HM (H.out.2.2.2.2.2.2.2 _ HM.out.1.1.1.1.1 _ _ (by omega) (by unfold maxLen; omega) (by have := Lst.lentFront HM.out.1.1.1.2; rwa [HR.out.2.2.1] at this))).mono ?_; clear HM; rintro e w10 ⟨vu, rfl, HN⟩
       obtain ⟨Au, cu, rfl, _, _⟩ := HN.out.2.form
       rw [strs_length])
    | (go_at_call 20; refine (Kp.call HN (F.out _ _ _ _ _)).mono ?_; clear HN; rintro e w11 ⟨rfl, HO⟩))
  go_ret
  exact ⟨rfl, HO.out.1.1.1.1.1.2⟩
theorem merklegrows_any (P : List (List UInt8)) (i : Int) (A : Option Addr) (cap : Nat) (w : World) (hG : Glob w) (hP : P.length ≤ 1048576) (hPs : ∀ s ∈ P, s.length ≤ 1048576) (hcap : P.length ≤ cap) (hmax : cap ≤ maxLen)
    (hR : Reads w w.heap.size A P.length (fun j => .string ⟨(P.getD j []).toArray⟩)) :
    Calls Tryd.prog 11 #[.slice A P.length cap, .int .i64 i] w fun e w' => e = .returned (.bool true) ∧ Below w.heap.size w w' := by
  by_cases ht : 0 ≤ i ∧ i ≤ (P.take 5000).length
  · exact merklegrows_in P i A cap w hG hP hPs hcap hmax hR ht
  · exact merklegrows_out P i A cap w hG hP hPs hcap hmax hR ht
end Go.Proofs.YthhjmodkodkgpaaDoor
