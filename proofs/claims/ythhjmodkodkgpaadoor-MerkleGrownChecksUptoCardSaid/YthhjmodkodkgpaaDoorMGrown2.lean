/- strongboxref19.CheckGrown. -/
import Derived.Test.YthhjmodkodkgpaaDoorMGrown1
namespace Go.Proofs.YthhjmodkodkgpaaDoor
open Go.RowKit Sbx Go.Sort

set_option maxRecDepth 100000 in
set_option maxHeartbeats 4000000 in
theorem rgc_root (oldRoot : List UInt8) (old n : Int) (root : List UInt8) (P : List (List UInt8)) (A : Option Addr) (cap : Nat) (w : World) (hol : oldRoot.length ≤ 9223372036854775807) (hrl : root.length ≤ 9223372036854775807) (hr : ¬ (oldRoot.length = 32 ∧ root.length = 32)) :
    Calls Tryd.prog 36 #[.string ⟨oldRoot.toArray⟩, .int .i64 old, .string ⟨root.toArray⟩, .int .i64 n, .slice A P.length cap] w fun e w' => e = .returned (.int .i64 193) ∧ Below w.heap.size w w' := by
  have HS := Bl.start w
  by_cases h1 : oldRoot.length = 32
  · have n1 : ((oldRoot.length : Int) != 32) = false := by rw [bne_eq_false_iff_eq]; omega
    have n2 : ((root.length : Int) != 32) = true := by rw [bne_iff_ne]; omega
    clear hr h1
    go_enter Tryd.func36, Tryd.ntmps36
    go_wp2_with fail
    go_ret
    exact ⟨rfl, HS.out⟩
  · have n1 : ((oldRoot.length : Int) != 32) = true := by rw [bne_iff_ne]; omega
    clear hr h1
    go_enter Tryd.func36, Tryd.ntmps36
    go_wp2_with fail
    go_ret
    exact ⟨rfl, HS.out⟩
set_option maxRecDepth 100000 in
set_option maxHeartbeats 4000000 in
theorem rgc_range (oldRoot : List UInt8) (old n : Int) (root : List UInt8) (P : List (List UInt8)) (A : Option Addr) (cap : Nat) (w : World) (hr : oldRoot.length = 32 ∧ root.length = 32) (hni : n < 0 ∨ n > 4096 ∨ old < 0 ∨ old > n) :
    Calls Tryd.prog 36 #[.string ⟨oldRoot.toArray⟩, .int .i64 old, .string ⟨root.toArray⟩, .int .i64 n, .slice A P.length cap] w fun e w' => e = .returned (.int .i64 191) ∧ Below w.heap.size w w' := by
  have HS := Bl.start w
  have n1 : ((oldRoot.length : Int) != 32) = false := by rw [bne_eq_false_iff_eq]; omega
  have n2 : ((root.length : Int) != 32) = false := by rw [bne_eq_false_iff_eq]; omega
  clear hr
  go_enter Tryd.func36, Tryd.ntmps36
  go_wp2_with fail
  all_goals (go_ret; exact ⟨rfl, HS.out⟩)
set_option maxRecDepth 100000 in
set_option maxHeartbeats 4000000 in
theorem rgc_form (oldRoot : List UInt8) (old n : Nat) (root : List UInt8) (P : List (List UInt8)) (A : Option Addr) (cap : Nat) (w : World) (hr : oldRoot.length = 32 ∧ root.length = 32) (hn : n ≤ 4096) (ho : old ≤ n) (hPl : P.length ≤ 1000000000000) (hR : Reads w w.heap.size A P.length (fun j => .string ⟨(P.getD j []).toArray⟩)) (hf : ¬ (P.length = mwant old n ∧ (P.all fun s => s.length == 32) = true)) :
    Calls Tryd.prog 36 #[.string ⟨oldRoot.toArray⟩, .int .i64 (old : Int), .string ⟨root.toArray⟩, .int .i64 (n : Int), .slice A P.length cap] w fun e w' => e = .returned (.int .i64 192) ∧ Below w.heap.size w w' := by
  have HS := Bl.start w
  have n1 : ((oldRoot.length : Int) != 32) = false := by rw [bne_eq_false_iff_eq]; omega
  have n2 : ((root.length : Int) != 32) = false := by rw [bne_eq_false_iff_eq]; omega
  have c1 : ¬ (n : Int) < 0 := by omega
  have c2 : ¬ (4096 : Int) < n := by omega
  have c3 : ¬ (old : Int) < 0 := by omega
  have c4 : ¬ (n : Int) < old := by omega

  have cf := fun W h => formed_any P (mwant old n) A cap W hPl h
  rw [show (decide (P.length = mwant old n) && all32 P) = false from by
    rw [Bool.and_eq_false_iff, decide_eq_false_iff_not]
    by_cases h1 : P.length = mwant old n
    · right
      cases h2 : all32 P with
      | false => rfl
      | true => exact absurd ⟨h1, h2⟩ hf
    · exact .inl h1] at cf
  have CF := Lib.hid cf
  have HR := Lib.hid hR
  by_cases h0 : 0 < old
  · have z0 : (0 : Int) < (old : Int) := by omega
    have cn := fun W => long_any n old n true W (Nat.le_refl _) (by omega) (by omega) ho
    rw [show mcount old n true = mwant old n from by unfold mwant; rw [if_pos h0]] at cn
    obtain ⟨X, eX⟩ : ∃ X, X = mwant old n := ⟨_, rfl⟩
    rw [← eX] at cn CF
    have CN := Lib.hid cn
    clear cn cf eX hf hr hR h0
    go_enter Tryd.func36, Tryd.ntmps36
    go_wp2_with (first
      | (go_at_call 68; refine (Kp.still HS (CN.out _)).mono ?_; clear HS; rintro e w' ⟨rfl, HS⟩)
      | (go_at_call 55; refine (Kp.still HS (CF.out _ (HR.out.belowW (Bl.bel HS)))).mono ?_; clear HS; rintro e w' ⟨rfl, HS⟩))
    go_ret
    exact ⟨rfl, HS.out⟩
  · have z0 : ¬ (0 : Int) < (old : Int) := by omega
    have hw : mwant old n = 0 := by unfold mwant; rw [if_neg h0]
    rw [hw] at CF
    clear cf hf hr hR h0 hw
    go_enter Tryd.func36, Tryd.ntmps36
    go_wp2_with (go_at_call 55; refine (Kp.still HS (CF.out _ (HR.out.belowW (Bl.bel HS)))).mono ?_; clear HS; rintro e w' ⟨rfl, HS⟩)
    go_ret
    exact ⟨rfl, HS.out⟩
set_option maxRecDepth 100000 in
set_option maxHeartbeats 4000000 in
theorem rgc_zero (oldRoot : List UInt8) (n : Nat) (root : List UInt8) (P : List (List UInt8)) (A : Option Addr) (cap : Nat) (w : World) (hr : oldRoot.length = 32 ∧ root.length = 32) (hn : n ≤ 4096) (hPl : P.length ≤ 1000000000000) (hR : Reads w w.heap.size A P.length (fun j => .string ⟨(P.getD j []).toArray⟩)) (hf : P.length = 0) :
    Calls Tryd.prog 36 #[.string ⟨oldRoot.toArray⟩, .int .i64 0, .string ⟨root.toArray⟩, .int .i64 (n : Int), .slice A P.length cap] w fun e w' => e = .returned (.int .i64 (if oldRoot = sha [] ∧ (0 < (n : Int) ∨ root = sha []) then 0 else 192)) ∧ Below w.heap.size w w' := by
  have HS := Bl.start w
  have n1 : ((oldRoot.length : Int) != 32) = false := by rw [bne_eq_false_iff_eq]; omega
  have n2 : ((root.length : Int) != 32) = false := by rw [bne_eq_false_iff_eq]; omega
  have c1 : ¬ (n : Int) < 0 := by omega
  have c2 : ¬ (4096 : Int) < n := by omega
  have cz := fun W => rsum_any [] W (by simp)
  have lz := sha_length []

  have cf := fun W h => formed_any P 0 A cap W hPl h
  rw [show (decide (P.length = 0) && all32 P) = true from by rw [List.eq_nil_of_length_eq_zero hf]; rfl] at cf
  have CF := Lib.hid cf
  have HR := Lib.hid hR
  obtain ⟨Z, eZ⟩ : ∃ Z, Z = sha [] := ⟨_, rfl⟩
  rw [← eZ] at cz lz ⊢
  have CZ := Lib.hid cz
  have hsp : (if oldRoot = Z ∧ (0 < (n : Int) ∨ root = Z) then (0 : Int) else 192) = if (oldRoot == Z) = true ∧ (0 < (n : Int) ∨ (root == Z) = true) then 0 else 192 := by simp
  rw [hsp]
  clear cz cf hf hr hR eZ lz hsp
  by_cases hn0 : n = 0
  · subst hn0
    have hp0 : ((0 : Int) < ((0 : Nat) : Int)) = False := by simp
    cases h1 : (oldRoot == Z)
    all_goals cases h2 : (root == Z)
    all_goals
      simp only [Bool.false_eq_true, false_and, and_false, or_false, false_or, or_true, and_true, true_and, if_true, if_false, Int.lt_irrefl, and_self, or_self, hp0]
      go_enter Tryd.func36, Tryd.ntmps36
      go_wp2_with (first
        | (go_at_call 55; refine (Kp.still HS (CF.out _ (HR.out.belowW (Bl.bel HS)))).mono ?_; clear HS; rintro e w' ⟨rfl, HS⟩)
        | (go_at_call 34; refine (Bl.call HS CZ.out).mono ?_; clear HS; rintro e w' ⟨rfl, HS⟩))
      go_ret
      exact ⟨by simp, HS.out⟩
  · have hq : ((n : Int) == 0) = false := by rw [beq_eq_false_iff_ne]; omega
    have hp : (0 : Int) < (n : Int) := by omega
    have d1 : decide ((n : Int) < 0) = false := by simp
    have d2 : decide ((4096 : Int) < (n : Int)) = false := by simp; omega
    cases h1 : (oldRoot == Z)
    all_goals
      simp only [Bool.false_eq_true, false_and, true_or, and_true, if_true, if_false, hp]
      go_enter Tryd.func36, Tryd.ntmps36
      go_wp2_with (first
        | (go_at_call 55; refine (Kp.still HS (CF.out _ (HR.out.belowW (Bl.bel HS)))).mono ?_; clear HS; rintro e w' ⟨rfl, HS⟩)
        | (go_at_call 34; refine (Bl.call HS CZ.out).mono ?_; clear HS; rintro e w' ⟨rfl, HS⟩))
      go_ret
      exact ⟨by simp, HS.out⟩
set_option maxRecDepth 100000 in
set_option maxHeartbeats 4000000 in
theorem rgc_same (oldRoot : List UInt8) (n : Nat) (root : List UInt8) (P : List (List UInt8)) (A : Option Addr) (cap : Nat) (w : World) (hr : oldRoot.length = 32 ∧ root.length = 32) (hn : n ≤ 4096) (h0 : 0 < n) (hPl : P.length ≤ 1000000000000) (hR : Reads w w.heap.size A P.length (fun j => .string ⟨(P.getD j []).toArray⟩)) (hf : P.length = 0) :
    Calls Tryd.prog 36 #[.string ⟨oldRoot.toArray⟩, .int .i64 (n : Int), .string ⟨root.toArray⟩, .int .i64 (n : Int), .slice A P.length cap] w fun e w' => e = .returned (.int .i64 (if oldRoot = root then 0 else 192)) ∧ Below w.heap.size w w' := by
  have HS := Bl.start w
  have n1 : ((oldRoot.length : Int) != 32) = false := by rw [bne_eq_false_iff_eq]; omega
  have n2 : ((root.length : Int) != 32) = false := by rw [bne_eq_false_iff_eq]; omega
  have c1 : ¬ (n : Int) < 0 := by omega
  have c2 : ¬ (4096 : Int) < n := by omega
  have z0 : (0 : Int) < (n : Int) := by omega
  have z1 : ((n : Int) == 0) = false := by rw [beq_eq_false_iff_ne]; omega
  have cn := fun W => long_any n n n true W (Nat.le_refl _) (by omega) (by omega) (Nat.le_refl _)
  rw [show mcount n n true = 0 from mcount_end _ _ _ (.inl rfl)] at cn
  have CN := Lib.hid cn
  have cz := fun W => rsum_any [] W (by simp)
  have lz := sha_length []

  have cf := fun W h => formed_any P 0 A cap W hPl h
  rw [show (decide (P.length = 0) && all32 P) = true from by rw [List.eq_nil_of_length_eq_zero hf]; rfl] at cf
  have CF := Lib.hid cf
  have HR := Lib.hid hR
  obtain ⟨Z, eZ⟩ : ∃ Z, Z = sha [] := ⟨_, rfl⟩
  rw [← eZ] at cz lz
  have CZ := Lib.hid cz
  have hsp : (if oldRoot = root then (0 : Int) else 192) = if (oldRoot == root) = true then 0 else 192 := by simp
  rw [hsp]
  clear cz cf hf hr hR eZ lz hsp cn h0
  cases h1 : (oldRoot == root)
  all_goals
    go_enter Tryd.func36, Tryd.ntmps36
    go_wp2_with (first
      | (go_at_call 68; refine (Kp.still HS (CN.out _)).mono ?_; clear HS; rintro e w' ⟨rfl, HS⟩)
      | (go_at_call 55; refine (Kp.still HS (CF.out _ (HR.out.belowW (Bl.bel HS)))).mono ?_; clear HS; rintro e w' ⟨rfl, HS⟩)
      | (go_at_call 34; refine (Bl.call HS CZ.out).mono ?_; clear HS; rintro e w' ⟨rfl, HS⟩))
    go_ret
    exact ⟨rfl, HS.out⟩
set_option maxRecDepth 100000 in
set_option maxHeartbeats 4000000 in
theorem rgc_come (oldRoot : List UInt8) (old n : Nat) (root : List UInt8) (P : List (List UInt8)) (A : Option Addr) (cap : Nat) (w : World) (hr : oldRoot.length = 32 ∧ root.length = 32) (hn : n ≤ 4096) (h0 : 0 < old) (ho : old < n) (hPl : P.length ≤ 1000000000000) (hR : Reads w w.heap.size A P.length (fun j => .string ⟨(P.getD j []).toArray⟩)) (hcap : P.length ≤ cap) (hf : P.length = mcount old n true ∧ (P.all fun s => s.length == 32) = true) :
    Calls Tryd.prog 36 #[.string ⟨oldRoot.toArray⟩, .int .i64 (old : Int), .string ⟨root.toArray⟩, .int .i64 (n : Int), .slice A P.length cap] w fun e w' => e = .returned (.int .i64 (if (mcome old n true oldRoot P).1 = oldRoot ∧ (mcome old n true oldRoot P).2 = root then 0 else 192)) ∧ Below w.heap.size w w' := by
  have HS := Bl.start w
  have n1 : ((oldRoot.length : Int) != 32) = false := by rw [bne_eq_false_iff_eq]; omega
  have n2 : ((root.length : Int) != 32) = false := by rw [bne_eq_false_iff_eq]; omega
  have c1 : ¬ (n : Int) < 0 := by omega
  have c2 : ¬ (4096 : Int) < n := by omega
  have c3 : ¬ (old : Int) < 0 := by omega
  have c4 : ¬ (n : Int) < old := by omega
  have z0 : (0 : Int) < (old : Int) := by omega
  have z1 : ((old : Int) == 0) = false := by rw [beq_eq_false_iff_ne]; omega
  have z2 : ((old : Int) == (n : Int)) = false := by rw [beq_eq_false_iff_ne]; omega
  have cn := fun W => long_any n old n true W (Nat.le_refl _) (by omega) (by omega) (by omega)
  have h32 := mcome_32 n old n true oldRoot P (Nat.le_refl _) hr.1 (fun j hj => by
    rw [List.getD_eq_getElem?_getD, List.getElem?_eq_getElem (by omega)]
    exact beq_iff_eq.1 (List.all_eq_true.1 hf.2 _ (List.getElem_mem (by omega))))
  have cm := fun W h => comes_any oldRoot P A cap (by omega) (getD_le_of_all P hf.2) n old n true W (Nat.le_refl _) (by omega) (by omega) (by omega) (by omega) h
  rw [← hf.1] at cn cm
  obtain ⟨r, er⟩ : ∃ r, r = mcome old n true oldRoot P := ⟨_, rfl⟩
  rw [← er] at cm h32 ⊢
  obtain ⟨X, Y⟩ := r
  simp only [] at cm h32 ⊢
  have CN := Lib.hid cn
  have cz := fun W => rsum_any [] W (by simp)
  have lz := sha_length []

  have cf := fun W h => formed_any P P.length A cap W hPl h
  rw [show (decide (P.length = P.length) && all32 P) = true from by simp; exact hf.2] at cf
  have CF := Lib.hid cf
  have CM := Lib.hid cm
  have HR := Lib.hid hR
  obtain ⟨Z, eZ⟩ : ∃ Z, Z = sha [] := ⟨_, rfl⟩
  rw [← eZ] at cz lz
  have CZ := Lib.hid cz
  have hsp : (if X = oldRoot ∧ Y = root then (0 : Int) else 192) = if (X == oldRoot) = true ∧ (Y == root) = true then 0 else 192 := by simp
  rw [hsp]
  clear cz cf hf hr hR eZ lz hsp cn h0 cm er h32 hcap
  cases h1 : (X == oldRoot)
  all_goals cases h2 : (Y == root)
  all_goals
    go_enter Tryd.func36, Tryd.ntmps36
    go_wp2_with (first
      | (go_at_call 68; refine (Kp.still HS (CN.out _)).mono ?_; clear HS; rintro e w' ⟨rfl, HS⟩)
      | (go_at_call 55; refine (Kp.still HS (CF.out _ (HR.out.belowW (Bl.bel HS)))).mono ?_; clear HS; rintro e w' ⟨rfl, HS⟩)
      | (go_at_call 34; refine (Bl.call HS CZ.out).mono ?_; clear HS; rintro e w' ⟨rfl, HS⟩)
      | (go_at_call 69; refine (Kp.call HS (CM.out _ (HR.out.belowW (Bl.bel HS)))).mono ?_; clear HS; rintro e w' ⟨rfl, HS⟩))
    go_ret
    exact ⟨by simp, HS.out⟩
theorem rcheckgrown_any (oldRoot : List UInt8) (old : Int) (root : List UInt8) (n : Int) (P : List (List UInt8)) (A : Option Addr) (cap : Nat) (w : World) (hol : oldRoot.length ≤ 9223372036854775807) (hrl : root.length ≤ 9223372036854775807) (hPl : P.length ≤ 1000000000000) (hcap : P.length ≤ cap) (hR : Reads w w.heap.size A P.length (fun j => .string ⟨(P.getD j []).toArray⟩)) :
    Calls Tryd.prog 36 #[.string ⟨oldRoot.toArray⟩, .int .i64 old, .string ⟨root.toArray⟩, .int .i64 n, .slice A P.length cap] w fun e w' => e = .returned (.int .i64 (mgcheck oldRoot old root n P)) ∧ Below w.heap.size w w' := by
  unfold mgcheck
  by_cases hr : oldRoot.length = 32 ∧ root.length = 32
  · rw [if_neg (by simpa using hr)]
    by_cases hni : n < 0 ∨ n > 4096 ∨ old < 0 ∨ old > n
    · rw [if_pos hni]
      exact rgc_range oldRoot old n root P A cap w hr hni
    · rw [if_neg hni]
      obtain ⟨N, rfl⟩ : ∃ N : Nat, n = N := ⟨n.toNat, by omega⟩
      obtain ⟨O, rfl⟩ : ∃ O : Nat, old = O := ⟨old.toNat, by omega⟩
      rw [Int.toNat_natCast, Int.toNat_natCast]
      by_cases hf : P.length = mwant O N ∧ (P.all fun s => s.length == 32) = true
      · rw [if_neg (by simpa using hf)]
        by_cases h0 : (O : Int) = 0
        · obtain rfl : O = 0 := by omega
          rw [if_pos h0]
          exact rgc_zero oldRoot N root P A cap w hr (by omega) hPl hR (by rw [hf.1]; rfl)
        · rw [if_neg h0]
          by_cases h1 : (O : Int) = N
          · obtain rfl : O = N := by omega
            rw [if_pos rfl]
            exact rgc_same oldRoot O root P A cap w hr (by omega) (by omega) hPl hR (by rw [hf.1]; unfold mwant; rw [if_pos (by omega), mcount_end _ _ _ (.inl rfl)]; rfl)
          · rw [if_neg h1]
            exact rgc_come oldRoot O N root P A cap w hr (by omega) (by omega) (by omega) hPl hR hcap ⟨by rw [hf.1]; unfold mwant; rw [if_pos (by omega)], hf.2⟩
      · rw [if_pos (by simpa using hf)]
        exact rgc_form oldRoot O N root P A cap w hr (by omega) (by omega) hPl hR hf
  · rw [if_pos hr]
    exact rgc_root oldRoot old n root P A cap w hol hrl hr
end Go.Proofs.YthhjmodkodkgpaaDoor
