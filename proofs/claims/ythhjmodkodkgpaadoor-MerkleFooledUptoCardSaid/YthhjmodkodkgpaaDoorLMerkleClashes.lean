/- strongboxlaw19.MerkleClashes, MerkleFooled: the walks. -/
import Derived.Test.YthhjmodkodkgpaaDoorMClash2
import Derived.Test.YthhjmodkodkgpaaDoorLMerkleChecks
import Derived.Test.YthhjmodkodkgpaaDoorRowB
namespace Go.Proofs.YthhjmodkodkgpaaDoor
open Go.RowKit Sbx Go.Sort

set_option maxRecDepth 100000 in
set_option maxHeartbeats 2000000 in
theorem merkleclashes_any (root : List UInt8) (n i : Int) (one : List UInt8) (P : List (List UInt8)) (two : List UInt8) (Q : List (List UInt8)) (A B : Option Addr) (cap cap2 : Nat) (w : World) (hG : Glob w) (hr : root.length ≤ 1048576) (hl : one.length ≤ 1048576) (hP : P.length ≤ 1048576) (hcap : P.length ≤ cap)
    (hl2 : two.length ≤ 1048576) (hQ : Q.length ≤ 1048576) (hcap2 : Q.length ≤ cap2) (hR : Reads w w.heap.size A P.length (fun j => .string ⟨(P.getD j []).toArray⟩)) (hR2 : Reads w w.heap.size B Q.length (fun j => .string ⟨(Q.getD j []).toArray⟩)) :
    Calls Tryd.prog 7 #[.string ⟨root.toArray⟩, .int .i64 n, .int .i64 i, .string ⟨one.toArray⟩, .slice A P.length cap, .string ⟨two.toArray⟩, .slice B Q.length cap2] w fun e w' => e = .returned (.bool true) ∧ Below w.heap.size w w' := by
  have HS := St.start hG
  have c1 := fun W h => lent_any P A cap W (by omega) h
  have c2 := fun W h => lent_any Q B cap2 W (by omega) h
  have c3 := fun W (g : Glob W) A' B' h h2 => clash_any root n i one P two Q A' B' (P.length + 8) (Q.length + 8) W g (by omega) (by omega) (by omega) (by omega) (by omega) (by omega) h h2
  have c4 := fun W h h2 => rclash_any root n i one P two Q A B cap cap2 W (by omega) (by omega) (by omega) hcap (by omega) (by omega) hcap2 h h2
  have c5 := fun W g h k => kept_any P g (P.length + 8) A cap W (by omega) (Nat.le_refl _) h k
  have c6 := fun W g h k => kept_any Q g (Q.length + 8) B cap2 W (by omega) (Nat.le_refl _) h k
  obtain ⟨v, ev⟩ : ∃ v, v = clashV root n i one P two Q := ⟨_, rfl⟩
  rw [← ev] at c3 c4
  obtain ⟨X, Y, E⟩ := v
  unfold clashR at c3 c4
  simp only [] at c3 c4
  have H := Lib.hid (And.intro c1 (And.intro c2 (And.intro c3 (And.intro c4 (And.intro c5 c6)))))
  have HR := Lib.hid (And.intro hR hR2)
  have hPz : (P.length : Int) ≤ 1048576 := by omega
  have hQz : (Q.length : Int) ≤ 1048576 := by omega
  clear c1 c2 c3 c4 c5 c6 ev hG hr hl hP hcap hl2 hQ hcap2 hR hR2
  go_enter Tryd.func7, Tryd.ntmps7
  go_wp2_with (first
    | (go_at_call 13; refine (St.callG HS awake_any).mono ?_; clear HS; rintro e w' ⟨rfl, HS⟩)
    | (go_at_call 15; with_reducible refine (Kp.listAt HS (H.out.1 _ (HR.out.1.belowW (St.bel HS)))).mono ?_; clear HS; rintro e w2 ⟨rfl, HA⟩)
    | (go_at_call 15; refine (Kp.listAt HA (H.out.2.1 _ (HR.out.2.belowW HA.out.1.2))).mono ?_; clear HA; rintro e w3 ⟨rfl, HB⟩))
  have q1 : ∀ d os, Calls Tryd.prog 32 #[.string ⟨root.toArray⟩, .int .i64 n, .int .i64 i, .string ⟨one.toArray⟩, .slice (some ⟨w'.heap.size, 0, none⟩) P.length (P.length + 8), .string ⟨two.toArray⟩, .slice (some ⟨w2.heap.size, 0, none⟩) Q.length (Q.length + 8)] (grow (redrawn w3 d) os) fun e w' => e = .returned (.tuple #[.string ⟨X.toArray⟩, .string ⟨Y.toArray⟩, .int .i64 E]) ∧ ∃ p : Regrown, w' = grow (redrawn w3 p.d) p.os := fun d os => by
    have h := Kp.keep _ _ HB.out (below_regrown w3 d os)
    exact Calls.regrown_of (H.out.2.2.1 _ h.1.1.1 _ _ (Lst.lentFront h.1.2) (Lst.lentFront h.2))
  refine wp_region_quiet_below (by kernel_rfl) (by kernel_rfl) ?_
  repeat (first | go_big_quiet_step ((with_reducible exact q1 _ _)) | quiet_step ((with_reducible exact q1 _ _)))
  refine wpQuiet_nil ?_
  intro _ hw'
  obtain ⟨⟨dq, osq⟩, hw''⟩ := hw'
  subst hw''
  have HC := Lib.hid (Kp.keep _ _ HB.out (below_regrown w3 dq osq))
  clear q1 HB
  generalize grow (redrawn w3 dq) osq = w4 at *
  go_wp2_with (first
    | (go_at_call 33; refine (Kp.call HC (H.out.2.2.2.1 _ (HR.out.1.belowW HC.out.1.1.2) (HR.out.2.belowW HC.out.1.1.2))).mono ?_; clear HC; rintro e w5 ⟨rfl, HD⟩)
    | (go_at_call 18; refine (Kp.call HD (H.out.2.2.2.2.1 _ _ (Lst.lentReads HD.out.1.2) (HR.out.1.belowW HD.out.1.1.2))).mono ?_; clear HD; rintro e w6 ⟨rfl, HE⟩)
    | (go_at_call 18; refine (Kp.call HE (H.out.2.2.2.2.2 _ _ (Lst.lentReads HE.out.2) (HR.out.2.belowW HE.out.1.1.2))).mono ?_; clear HE; rintro e w7 ⟨rfl, HF⟩))
  go_ret
  exact ⟨rfl, HF.out.1.1.2⟩

section
variable (root : List UInt8) (n i : Int) (one : List UInt8) (P : List (List UInt8)) (two : List UInt8) (Q : List (List UInt8)) (A B : Option Addr) (cap cap2 : Nat) (w : World)
set_option maxRecDepth 100000 in
set_option maxHeartbeats 4000000 in
theorem fooled_in (hG : Glob w) (hr : root.length ≤ 1048576) (hl : one.length ≤ 1048576) (hP : P.length ≤ 1048576) (hcap : P.length ≤ cap)
    (hl2 : two.length ≤ 1048576) (hQ : Q.length ≤ 1048576) (hcap2 : Q.length ≤ cap2) (hR : Reads w w.heap.size A P.length (fun j => .string ⟨(P.getD j []).toArray⟩)) (hR2 : Reads w w.heap.size B Q.length (fun j => .string ⟨(Q.getD j []).toArray⟩)) (h1 : mcheck root n i one P = 0) (h2 : mcheck root n i two Q = 0) (hne : one ≠ two) :
    Calls Tryd.prog 8 #[.string ⟨root.toArray⟩, .int .i64 n, .int .i64 i, .string ⟨one.toArray⟩, .slice A P.length cap, .string ⟨two.toArray⟩, .slice B Q.length cap2] w fun e w' => e = .returned (.bool true) ∧ Below w.heap.size w w' := by
  have HS := St.start hG
  have c1 := fun W (g : Glob W) h => check_any root n i one P A cap W g (by omega) (by omega) hcap h
  have c2 := fun W (g : Glob W) h => check_any root n i two Q B cap2 W g (by omega) (by omega) hcap2 h
  have c3 := fun W (g : Glob W) h h2 => clash_any root n i one P two Q A B cap cap2 W g (by omega) (by omega) hcap (by omega) (by omega) hcap2 h h2
  rw [h1] at c1
  rw [h2] at c2
  obtain ⟨a1, a2, a3⟩ := clash_good h1 h2 hne
  obtain ⟨_, _, _, _, _, p1, p2, _⟩ := mcheck_zero h1
  obtain ⟨_, _, _, _, _, q1, q2, _⟩ := mcheck_zero h2
  unfold clashV at c3
  rw [if_neg (by simpa using h1), if_neg (by simpa using h2), if_neg hne] at c3
  obtain ⟨S, eS⟩ : ∃ S, S = msides n.toNat i.toNat := ⟨_, rfl⟩
  rw [← eS] at c3 a1 a2 p1 q1
  obtain ⟨h, eh⟩ : ∃ h, h = clashH S one P two Q := ⟨_, rfl⟩
  rw [← eh] at c3 a1 a2
  have la := mtext_le S one P (getD_le_of_all P p2) h
  have lb := mtext_le S two Q (getD_le_of_all Q q2) h
  have hgd : mtext S one P h ≠ mtext S two Q h ∧ sha (mtext S one P h) = sha (mtext S two Q h) := by simpa [goodAt] using a2
  unfold clashR at c3
  simp only [] at c3
  obtain ⟨Ta, ea⟩ : ∃ T, T = mtext S one P h := ⟨_, rfl⟩
  obtain ⟨Tb, eb⟩ : ∃ T, T = mtext S two Q h := ⟨_, rfl⟩
  rw [← ea] at c3 la hgd
  rw [← eb] at c3 lb hgd
  have d1 := fun W (g : Glob W) => sum_any Ta W g (by omega)
  have d2 := fun W (g : Glob W) => sum_any Tb W g (by omega)
  have d3 := fun W => rsum_any Ta W (by omega)
  rw [← hgd.2] at d2
  obtain ⟨D, eD⟩ : ∃ D, D = sha Ta := ⟨_, rfl⟩
  rw [← eD] at d1 d2 d3
  have hq : (Ta == Tb) = false := by simpa using hgd.1
  have hq2 : (one == two) = false := by simpa using hne
  have H := Lib.hid (And.intro c1 (And.intro c2 (And.intro c3 (And.intro d1 (And.intro d2 d3)))))
  have HR := Lib.hid (And.intro hR hR2)
  clear c1 c2 c3 d1 d2 d3 hgd la lb ea eb eh eS a1 a2 a3 p1 p2 q1 q2 eD hne h1 h2 hG hR hR2 hr hl hP hcap hl2 hQ hcap2
  go_enter Tryd.func8, Tryd.ntmps8
  go_wp2_with (first
    | (go_at_call 13; refine (St.callG HS awake_any).mono ?_; clear HS; rintro e w' ⟨rfl, HS1⟩)
    | (go_at_call 22; refine (Kp.call HS1 (H.out.1 _ (St.glob HS1) (HR.out.1.belowW (St.bel HS1)))).mono ?_; clear HS1; rintro e w' ⟨rfl, HS2⟩)
    | (go_at_call 22; refine (Kp.call HS2 (H.out.2.1 _ (St.glob HS2) (HR.out.2.belowW (St.bel HS2)))).mono ?_; clear HS2; rintro e w' ⟨rfl, HS3⟩)
    | (go_at_call 32; refine (Kp.call HS3 (H.out.2.2.1 _ (St.glob HS3) (HR.out.1.belowW (St.bel HS3)) (HR.out.2.belowW (St.bel HS3)))).mono ?_; clear HS3; rintro e w' ⟨rfl, HS4⟩)
    | (go_at_call 31; with_reducible refine (St.callG HS4 H.out.2.2.2.1).mono ?_; clear HS4; rintro e w' ⟨rfl, HS4⟩)
    | (go_at_call 31; with_reducible refine (St.callG HS4 H.out.2.2.2.2.1).mono ?_; clear HS4; rintro e w' ⟨rfl, HS4⟩)
    | (go_at_call 34; with_reducible refine (St.callR HS4 H.out.2.2.2.2.2).mono ?_; clear HS4; rintro e w' ⟨rfl, HS4⟩))
  go_ret
  exact ⟨rfl, HS4.out.2⟩

set_option maxRecDepth 100000 in
set_option maxHeartbeats 4000000 in
theorem fooled_out (hG : Glob w) (hr : root.length ≤ 1048576) (hl : one.length ≤ 1048576) (hP : P.length ≤ 1048576) (hcap : P.length ≤ cap)
    (hl2 : two.length ≤ 1048576) (hQ : Q.length ≤ 1048576) (hcap2 : Q.length ≤ cap2) (hR : Reads w w.heap.size A P.length (fun j => .string ⟨(P.getD j []).toArray⟩)) (hR2 : Reads w w.heap.size B Q.length (fun j => .string ⟨(Q.getD j []).toArray⟩)) (hno : ¬ (mcheck root n i one P = 0 ∧ mcheck root n i two Q = 0 ∧ one ≠ two)) :
    Calls Tryd.prog 8 #[.string ⟨root.toArray⟩, .int .i64 n, .int .i64 i, .string ⟨one.toArray⟩, .slice A P.length cap, .string ⟨two.toArray⟩, .slice B Q.length cap2] w fun e w' => e = .returned (.bool true) ∧ Below w.heap.size w w' := by
  have HS := St.start hG
  have c1 := fun W (g : Glob W) h => check_any root n i one P A cap W g (by omega) (by omega) hcap h
  have c2 := fun W (g : Glob W) h => check_any root n i two Q B cap2 W g (by omega) (by omega) hcap2 h
  have c3 := fun W (g : Glob W) h h2 => clash_any root n i one P two Q A B cap cap2 W g (by omega) (by omega) hcap (by omega) (by omega) hcap2 h h2
  have hv : ∃ E : Int, clashV root n i one P two Q = ([], [], E) ∧ (E != 0) = true := by
    unfold clashV
    by_cases h1 : mcheck root n i one P = 0
    · rw [if_neg (by simpa using h1)]
      by_cases h2 : mcheck root n i two Q = 0
      · rw [if_neg (by simpa using h2), if_pos (by
          apply Classical.byContradiction
          intro h3
          exact hno ⟨h1, h2, h3⟩)]
        exact ⟨1, rfl, rfl⟩
      · rw [if_pos h2]
        exact ⟨_, rfl, by rw [bne_iff_ne]; exact h2⟩
    · rw [if_pos h1]
      exact ⟨_, rfl, by rw [bne_iff_ne]; exact h1⟩
  obtain ⟨E, eE, hE⟩ := hv
  rw [eE] at c3
  unfold clashR at c3
  simp only [] at c3
  have hc : (mcheck root n i one P == 0) = false ∨ (mcheck root n i one P == 0) = true ∧ (mcheck root n i two Q == 0) = false ∨ (mcheck root n i one P == 0) = true ∧ (mcheck root n i two Q == 0) = true ∧ (one == two) = true := by
    by_cases h1 : mcheck root n i one P = 0
    · right
      by_cases h2 : mcheck root n i two Q = 0
      · right
        refine ⟨by simpa using h1, by simpa using h2, ?_⟩
        rw [beq_iff_eq]
        apply Classical.byContradiction
        intro h3
        exact hno ⟨h1, h2, h3⟩
      · exact .inl ⟨by simpa using h1, by simpa using h2⟩
    · exact .inl (by simpa using h1)
  obtain ⟨x, ex⟩ : ∃ x, x = mcheck root n i one P := ⟨_, rfl⟩
  obtain ⟨y, ey⟩ : ∃ x, x = mcheck root n i two Q := ⟨_, rfl⟩
  rw [← ex] at c1 hc
  rw [← ey] at c2 hc
  have H := Lib.hid (And.intro c1 (And.intro c2 c3))
  have HR := Lib.hid (And.intro hR hR2)
  clear c1 c2 c3 eE ex ey hno hG hR hR2 hr hl hP hcap hl2 hQ hcap2
  rcases hc with z1 | ⟨z1, z2⟩ | ⟨z1, z2, z3⟩
  all_goals
    go_enter Tryd.func8, Tryd.ntmps8
    go_wp2_with (first
      | (go_at_call 13; refine (St.callG HS awake_any).mono ?_; clear HS; rintro e w' ⟨rfl, HS1⟩)
      | (go_at_call 22; refine (Kp.call HS1 (H.out.1 _ (St.glob HS1) (HR.out.1.belowW (St.bel HS1)))).mono ?_; clear HS1; rintro e w' ⟨rfl, HS2⟩)
      | (go_at_call 22; refine (Kp.call HS2 (H.out.2.1 _ (St.glob HS2) (HR.out.2.belowW (St.bel HS2)))).mono ?_; clear HS2; rintro e w' ⟨rfl, HS3⟩)
      | (go_at_call 32; refine (Kp.call HS3 (H.out.2.2 _ (St.glob HS3) (HR.out.1.belowW (St.bel HS3)) (HR.out.2.belowW (St.bel HS3)))).mono ?_; clear HS3; rintro e w' ⟨rfl, HS4⟩))
    go_ret
    exact ⟨rfl, HS4.out.2⟩
theorem merklefooled_any (hG : Glob w) (hr : root.length ≤ 1048576) (hl : one.length ≤ 1048576) (hP : P.length ≤ 1048576) (hcap : P.length ≤ cap)
    (hl2 : two.length ≤ 1048576) (hQ : Q.length ≤ 1048576) (hcap2 : Q.length ≤ cap2) (hR : Reads w w.heap.size A P.length (fun j => .string ⟨(P.getD j []).toArray⟩)) (hR2 : Reads w w.heap.size B Q.length (fun j => .string ⟨(Q.getD j []).toArray⟩)) :
    Calls Tryd.prog 8 #[.string ⟨root.toArray⟩, .int .i64 n, .int .i64 i, .string ⟨one.toArray⟩, .slice A P.length cap, .string ⟨two.toArray⟩, .slice B Q.length cap2] w fun e w' => e = .returned (.bool true) ∧ Below w.heap.size w w' := by
  by_cases h : mcheck root n i one P = 0 ∧ mcheck root n i two Q = 0 ∧ one ≠ two
  · exact fooled_in root n i one P two Q A B cap cap2 w hG hr hl hP hcap hl2 hQ hcap2 hR hR2 h.1 h.2.1 h.2.2
  · exact fooled_out root n i one P two Q A B cap cap2 w hG hr hl hP hcap hl2 hQ hcap2 hR hR2 h
end
end Go.Proofs.YthhjmodkodkgpaaDoor
