/- merkle.CheckGrown. -/
import Derived.Test.YthhjmodkodkgpaaDoorMCome
import Derived.Test.YthhjmodkodkgpaaDoorMNode2
namespace Sbx
theorem mcome_32 : ∀ (N m n : Nat) (w : Bool) (old : List UInt8) (P : List (List UInt8)), n ≤ N → old.length = 32 → (∀ j, j < mcount m n w → (P.getD j []).length = 32) → (mcome m n w old P).1.length = 32 ∧ (mcome m n w old P).2.length = 32
  | 0, m, n, w, old, P, h, h1, h2 => by
    rw [mcount_end m n w (by omega)] at h2
    rw [mcome_end m n w old P (by omega)]
    cases w
    · exact ⟨h2 0 (by simp), h2 0 (by simp)⟩
    · exact ⟨h1, h1⟩
  | N + 1, m, n, w, old, P, h, h1, h2 => by
    by_cases he : m = n ∨ n ≤ 1
    · rw [mcount_end m n w he] at h2
      rw [mcome_end m n w old P he]
      cases w
      · exact ⟨h2 0 (by simp), h2 0 (by simp)⟩
      · exact ⟨h1, h1⟩
    · have a := hf_lt n (by omega)
      have b := hf_pos n
      by_cases hm : m ≤ hf n
      · rw [mcount_le m n w he hm] at h2
        rw [mcome_le m n w old P he hm]
        have := mcome_32 N m (hf n) w old P (by omega) h1 (fun j hj => h2 j (by omega))
        exact ⟨this.1, mnode_length _ _⟩
      · rw [mcome_gt m n w old P he hm]
        exact ⟨mnode_length _ _, mnode_length _ _⟩
/-- how many elements CheckGrown wants -/
def mwant (old n : Nat) : Nat := if 0 < old then mcount old n true else 0
/-- what CheckGrown says -/
def mgcheck (oldRoot : List UInt8) (old : Int) (root : List UInt8) (n : Int) (P : List (List UInt8)) : Int :=
  if ¬ (oldRoot.length = 32 ∧ root.length = 32) then 193 else if n < 0 ∨ n > 4096 ∨ old < 0 ∨ old > n then 191
  else if ¬ (P.length = mwant old.toNat n.toNat ∧ (P.all fun s => s.length == 32) = true) then 192
  else if old = 0 then (if oldRoot = sha [] ∧ (0 < n ∨ root = sha []) then 0 else 192)
  else if old = n then (if oldRoot = root then 0 else 192)
  else if (mcome old.toNat n.toNat true oldRoot P).1 = oldRoot ∧ (mcome old.toNat n.toNat true oldRoot P).2 = root then 0 else 192
end Sbx
namespace Go.Proofs.YthhjmodkodkgpaaDoor
open Go.RowKit Sbx Go.Sort

set_option maxRecDepth 100000 in
set_option maxHeartbeats 4000000 in
theorem gc_root (oldRoot : List UInt8) (old n : Int) (root : List UInt8) (P : List (List UInt8)) (A : Option Addr) (cap : Nat) (w : World) (hG : Glob w) (hr : ¬ (oldRoot.length = 32 ∧ root.length = 32)) :
    Calls Tryd.prog 35 #[.string ⟨oldRoot.toArray⟩, .int .i64 old, .string ⟨root.toArray⟩, .int .i64 n, .slice A P.length cap] w fun e w' => e = .returned (.int .i64 193) ∧ Below w.heap.size w w' := by
  have HS := St.start hG
  have ca := fun g W h0 h1 hg => all_two oldRoot root g W h0 h1 hg
  rw [show decide (oldRoot.length = 32 ∧ root.length = 32) = false from by simpa using hr] at ca
  have CA := Lib.hid ca
  clear ca hr hG
  go_enter Tryd.func35, Tryd.ntmps35
  go_wp2_with (go_at_call 50; with_reducible refine (St.still (St.alloc HS _) (CA.out _ _ (by simp) (by simp) (by simp))).mono ?_; clear HS; rintro e w' ⟨rfl, HS⟩)
  go_ret
  exact ⟨rfl, HS.out.2⟩
set_option maxRecDepth 100000 in
set_option maxHeartbeats 4000000 in
theorem gc_range (oldRoot : List UInt8) (old n : Int) (root : List UInt8) (P : List (List UInt8)) (A : Option Addr) (cap : Nat) (w : World) (hG : Glob w) (hr : oldRoot.length = 32 ∧ root.length = 32) (hni : n < 0 ∨ n > 4096 ∨ old < 0 ∨ old > n) :
    Calls Tryd.prog 35 #[.string ⟨oldRoot.toArray⟩, .int .i64 old, .string ⟨root.toArray⟩, .int .i64 n, .slice A P.length cap] w fun e w' => e = .returned (.int .i64 191) ∧ Below w.heap.size w w' := by
  have HS := St.start hG
  have ca := fun g W h0 h1 hg => all_two oldRoot root g W h0 h1 hg
  rw [show decide (oldRoot.length = 32 ∧ root.length = 32) = true from by simpa using hr] at ca
  have CA := Lib.hid ca
  clear ca
  clear hr hG
  go_enter Tryd.func35, Tryd.ntmps35
  go_wp2_with (go_at_call 50; with_reducible refine (St.still (St.alloc HS _) (CA.out _ _ (by simp) (by simp) (by simp))).mono ?_; clear HS; rintro e w' ⟨rfl, HS⟩)
  all_goals (go_ret; exact ⟨rfl, HS.out.2⟩)
set_option maxRecDepth 100000 in
set_option maxHeartbeats 4000000 in
theorem gc_form (oldRoot : List UInt8) (old n : Nat) (root : List UInt8) (P : List (List UInt8)) (A : Option Addr) (cap : Nat) (w : World) (hG : Glob w) (hr : oldRoot.length = 32 ∧ root.length = 32) (hn : n ≤ 4096) (ho : old ≤ n) (hPl : P.length ≤ 1000000000000) (hR : Reads w w.heap.size A P.length (fun j => .string ⟨(P.getD j []).toArray⟩)) (hf : ¬ (P.length = mwant old n ∧ (P.all fun s => s.length == 32) = true)) :
    Calls Tryd.prog 35 #[.string ⟨oldRoot.toArray⟩, .int .i64 (old : Int), .string ⟨root.toArray⟩, .int .i64 (n : Int), .slice A P.length cap] w fun e w' => e = .returned (.int .i64 192) ∧ Below w.heap.size w w' := by
  have HS := St.start hG
  have ca := fun g W h0 h1 hg => all_two oldRoot root g W h0 h1 hg
  rw [show decide (oldRoot.length = 32 ∧ root.length = 32) = true from by simpa using hr] at ca
  have CA := Lib.hid ca
  clear ca
  have c1 : ¬ (n : Int) < 0 := by omega
  have c2 : ¬ (4096 : Int) < n := by omega
  have c3 : ¬ (old : Int) < 0 := by omega
  have c4 : ¬ (n : Int) < old := by omega

  have cf := fun W h => all_any P A cap W (by omega) h
  have HR := Lib.hid hR
  have hq : ((P.length : Int) != (mwant old n : Int)) = true ∨ ((P.length : Int) != (mwant old n : Int)) = false ∧ all32 P = false := by
    by_cases h1 : P.length = mwant old n
    · right
      refine ⟨by rw [bne_eq_false_iff_eq]; omega, ?_⟩
      cases h2 : all32 P with
      | false => rfl
      | true => exact absurd ⟨h1, h2⟩ hf
    · exact .inl (by rw [bne_iff_ne]; omega)
  by_cases h0 : 0 < old
  · have z0 : (0 : Int) < (old : Int) := by omega
    have cn := fun W => count_any old n true W (by omega) (by omega) ho
    rw [show mcount old n true = mwant old n from by unfold mwant; rw [if_pos h0]] at cn
    obtain ⟨X, eX⟩ : ∃ X, X = mwant old n := ⟨_, rfl⟩
    rw [← eX] at cn hq
    have CN := Lib.hid cn
    clear cn eX hf hr hR h0 hG
    rcases hq with hq | ⟨hq, ha⟩
    · clear cf
      go_enter Tryd.func35, Tryd.ntmps35
      go_wp2_with (first
        | (go_at_call 50; with_reducible refine (St.still (St.alloc HS _) (CA.out _ _ (by simp) (by simp) (by simp))).mono ?_; clear HS; rintro e w' ⟨rfl, HS⟩)
        | (go_at_call 66; refine (Kp.still HS (CN.out _)).mono ?_; clear HS; rintro e w' ⟨rfl, HS⟩))
      go_ret
      exact ⟨rfl, HS.out.2⟩
    · rw [ha] at cf
      have CF := Lib.hid cf
      clear cf ha
      go_enter Tryd.func35, Tryd.ntmps35
      go_wp2_with (first
        | (go_at_call 50; with_reducible refine (St.still (St.alloc HS _) (CA.out _ _ (by simp) (by simp) (by simp))).mono ?_; clear HS; rintro e w' ⟨rfl, HS⟩)
        | (go_at_call 66; refine (Kp.still HS (CN.out _)).mono ?_; clear HS; rintro e w' ⟨rfl, HS⟩)
        | (go_at_call 50; with_reducible refine (Kp.still HS (CF.out _ (HR.out.belowW (St.bel HS)))).mono ?_; clear HS; rintro e w' ⟨rfl, HS⟩))
      go_ret
      exact ⟨rfl, HS.out.2⟩
  · have z0 : ¬ (0 : Int) < (old : Int) := by omega
    have hw : mwant old n = 0 := by unfold mwant; rw [if_neg h0]
    rw [hw] at hq
    clear hf hr hR h0 hw hG
    rcases hq with hq | ⟨hq, ha⟩
    · have hq2 : ((P.length : Int) != 0) = true := hq
      clear cf
      go_enter Tryd.func35, Tryd.ntmps35
      go_wp2_with (first
        | (go_at_call 50; with_reducible refine (St.still (St.alloc HS _) (CA.out _ _ (by simp) (by simp) (by simp))).mono ?_; clear HS; rintro e w' ⟨rfl, HS⟩))
      go_ret
      exact ⟨rfl, HS.out.2⟩
    · have hq2 : ((P.length : Int) != 0) = false := hq
      rw [ha] at cf
      have CF := Lib.hid cf
      clear cf ha
      go_enter Tryd.func35, Tryd.ntmps35
      go_wp2_with (first
        | (go_at_call 50; with_reducible refine (St.still (St.alloc HS _) (CA.out _ _ (by simp) (by simp) (by simp))).mono ?_; clear HS; rintro e w' ⟨rfl, HS⟩)
        | (go_at_call 50; with_reducible refine (Kp.still HS (CF.out _ (HR.out.belowW (St.bel HS)))).mono ?_; clear HS; rintro e w' ⟨rfl, HS⟩))
      go_ret
      exact ⟨rfl, HS.out.2⟩
set_option maxRecDepth 100000 in
set_option maxHeartbeats 4000000 in
theorem gc_zero (oldRoot : List UInt8) (n : Nat) (root : List UInt8) (P : List (List UInt8)) (A : Option Addr) (cap : Nat) (w : World) (hG : Glob w) (hr : oldRoot.length = 32 ∧ root.length = 32) (hn : n ≤ 4096) (hPl : P.length ≤ 1000000000000) (hR : Reads w w.heap.size A P.length (fun j => .string ⟨(P.getD j []).toArray⟩)) (hf : P.length = 0) :
    Calls Tryd.prog 35 #[.string ⟨oldRoot.toArray⟩, .int .i64 0, .string ⟨root.toArray⟩, .int .i64 (n : Int), .slice A P.length cap] w fun e w' => e = .returned (.int .i64 (if oldRoot = sha [] ∧ (0 < (n : Int) ∨ root = sha []) then 0 else 192)) ∧ Below w.heap.size w w' := by
  have HS := St.start hG
  have ca := fun g W h0 h1 hg => all_two oldRoot root g W h0 h1 hg
  rw [show decide (oldRoot.length = 32 ∧ root.length = 32) = true from by simpa using hr] at ca
  have CA := Lib.hid ca
  clear ca
  have c1 : ¬ (n : Int) < 0 := by omega
  have c2 : ¬ (4096 : Int) < n := by omega
  have cz := fun W (g : Glob W) => sum_any [] W g (by simp)
  have lz := sha_length []

  have cf := fun W h => all_any P A cap W (by omega) h
  rw [show all32 P = true from by rw [List.eq_nil_of_length_eq_zero hf]; rfl] at cf
  have CF := Lib.hid cf
  have HR := Lib.hid hR
  have hq0 : ((P.length : Int) != 0) = false := by rw [bne_eq_false_iff_eq]; omega
  obtain ⟨Z, eZ⟩ : ∃ Z, Z = sha [] := ⟨_, rfl⟩
  rw [← eZ] at cz lz ⊢
  have CZ := Lib.hid cz
  have s1 := fun W => same_any oldRoot Z W hr.1 lz
  have s2 := fun W => same_any root Z W hr.2 lz
  have hsp : (if oldRoot = Z ∧ (0 < (n : Int) ∨ root = Z) then (0 : Int) else 192) = if decide (oldRoot = Z) = true ∧ (0 < (n : Int) ∨ decide (root = Z) = true) then 0 else 192 := by simp
  rw [hsp]
  obtain ⟨r1, er1⟩ : ∃ r, r = decide (oldRoot = Z) := ⟨_, rfl⟩
  obtain ⟨r2, er2⟩ : ∃ r, r = decide (root = Z) := ⟨_, rfl⟩
  rw [← er1] at s1 ⊢
  rw [← er2] at s2 ⊢
  have S := Lib.hid (And.intro s1 s2)
  clear cz cf hf hr hR eZ lz hsp er1 er2 s1 s2 hG
  by_cases hn0 : n = 0
  · subst hn0
    have hp0 : ((0 : Int) < ((0 : Nat) : Int)) = False := by simp
    cases r1
    all_goals cases r2
    all_goals
      simp only [Bool.false_eq_true, false_and, and_false, or_false, false_or, or_true, and_true, true_and, if_true, if_false, and_self, or_self, hp0]
      go_enter Tryd.func35, Tryd.ntmps35
      go_wp2_with (first
        | (go_at_call 50; with_reducible refine (St.still (St.alloc HS _) (CA.out _ _ (by simp) (by simp) (by simp))).mono ?_; clear HS; rintro e w' ⟨rfl, HS⟩)
        | (go_at_call 50; with_reducible refine (Kp.still HS (CF.out _ (HR.out.belowW (St.bel HS)))).mono ?_; clear HS; rintro e w' ⟨rfl, HS⟩)
        | (go_at_call 31; refine (St.callG HS CZ.out).mono ?_; clear HS; rintro e w' ⟨rfl, HS⟩)
        | (go_at_call 53; with_reducible refine (Kp.call HS (S.out.1 _)).mono ?_; clear HS; rintro e w' ⟨rfl, HS⟩)
        | (go_at_call 53; with_reducible refine (Kp.call HS (S.out.2 _)).mono ?_; clear HS; rintro e w' ⟨rfl, HS⟩))
      go_ret
      exact ⟨by simp, HS.out.2⟩
  · have hp : (0 : Int) < (n : Int) := by omega
    have d1 : decide ((n : Int) < 0) = false := by simp
    have d2 : decide ((4096 : Int) < (n : Int)) = false := by simp; omega
    cases r1
    all_goals
      simp only [Bool.false_eq_true, false_and, true_or, and_true, if_true, if_false, hp]
      go_enter Tryd.func35, Tryd.ntmps35
      go_wp2_with (first
        | (go_at_call 50; with_reducible refine (St.still (St.alloc HS _) (CA.out _ _ (by simp) (by simp) (by simp))).mono ?_; clear HS; rintro e w' ⟨rfl, HS⟩)
        | (go_at_call 50; with_reducible refine (Kp.still HS (CF.out _ (HR.out.belowW (St.bel HS)))).mono ?_; clear HS; rintro e w' ⟨rfl, HS⟩)
        | (go_at_call 31; refine (St.callG HS CZ.out).mono ?_; clear HS; rintro e w' ⟨rfl, HS⟩)
        | (go_at_call 53; with_reducible refine (Kp.call HS (S.out.1 _)).mono ?_; clear HS; rintro e w' ⟨rfl, HS⟩))
      go_ret
      exact ⟨by simp, HS.out.2⟩
set_option maxRecDepth 100000 in
set_option maxHeartbeats 4000000 in
theorem gc_same (oldRoot : List UInt8) (n : Nat) (root : List UInt8) (P : List (List UInt8)) (A : Option Addr) (cap : Nat) (w : World) (hG : Glob w) (hr : oldRoot.length = 32 ∧ root.length = 32) (hn : n ≤ 4096) (h0 : 0 < n) (hPl : P.length ≤ 1000000000000) (hR : Reads w w.heap.size A P.length (fun j => .string ⟨(P.getD j []).toArray⟩)) (hf : P.length = 0) :
    Calls Tryd.prog 35 #[.string ⟨oldRoot.toArray⟩, .int .i64 (n : Int), .string ⟨root.toArray⟩, .int .i64 (n : Int), .slice A P.length cap] w fun e w' => e = .returned (.int .i64 (if oldRoot = root then 0 else 192)) ∧ Below w.heap.size w w' := by
  have HS := St.start hG
  have ca := fun g W h0 h1 hg => all_two oldRoot root g W h0 h1 hg
  rw [show decide (oldRoot.length = 32 ∧ root.length = 32) = true from by simpa using hr] at ca
  have CA := Lib.hid ca
  clear ca
  have c1 : ¬ (n : Int) < 0 := by omega
  have c2 : ¬ (4096 : Int) < n := by omega
  have z0 : (0 : Int) < (n : Int) := by omega
  have z1 : ((n : Int) == 0) = false := by rw [beq_eq_false_iff_ne]; omega
  have cn := fun W => count_any n n true W (by omega) (by omega) (Nat.le_refl _)
  rw [show mcount n n true = 0 from mcount_end _ _ _ (.inl rfl)] at cn
  have CN := Lib.hid cn
  have cz := fun W (g : Glob W) => sum_any [] W g (by simp)
  have lz := sha_length []

  have cf := fun W h => all_any P A cap W (by omega) h
  rw [show all32 P = true from by rw [List.eq_nil_of_length_eq_zero hf]; rfl] at cf
  have CF := Lib.hid cf
  have HR := Lib.hid hR
  have hq0 : ((P.length : Int) != 0) = false := by rw [bne_eq_false_iff_eq]; omega
  obtain ⟨Z, eZ⟩ : ∃ Z, Z = sha [] := ⟨_, rfl⟩
  rw [← eZ] at cz lz
  have CZ := Lib.hid cz
  have s1 := fun W => same_any oldRoot root W hr.1 hr.2
  have hsp : (if oldRoot = root then (0 : Int) else 192) = if decide (oldRoot = root) = true then 0 else 192 := by simp
  rw [hsp]
  obtain ⟨r1, er1⟩ : ∃ r, r = decide (oldRoot = root) := ⟨_, rfl⟩
  rw [← er1] at s1 ⊢
  have S := Lib.hid s1
  clear cz cf hf hr hR eZ lz hsp er1 s1 hG cn h0
  cases r1
  all_goals
    go_enter Tryd.func35, Tryd.ntmps35
    go_wp2_with (first
      | (go_at_call 50; with_reducible refine (St.still (St.alloc HS _) (CA.out _ _ (by simp) (by simp) (by simp))).mono ?_; clear HS; rintro e w' ⟨rfl, HS⟩)
      | (go_at_call 66; refine (Kp.still HS (CN.out _)).mono ?_; clear HS; rintro e w' ⟨rfl, HS⟩)
      | (go_at_call 50; with_reducible refine (Kp.still HS (CF.out _ (HR.out.belowW (St.bel HS)))).mono ?_; clear HS; rintro e w' ⟨rfl, HS⟩)
      | (go_at_call 31; refine (St.callG HS CZ.out).mono ?_; clear HS; rintro e w' ⟨rfl, HS⟩)
      | (go_at_call 53; refine (Kp.call HS (S.out _)).mono ?_; clear HS; rintro e w' ⟨rfl, HS⟩))
    go_ret
    exact ⟨rfl, HS.out.2⟩
set_option maxRecDepth 100000 in
set_option maxHeartbeats 4000000 in
theorem gc_come (oldRoot : List UInt8) (old n : Nat) (root : List UInt8) (P : List (List UInt8)) (A : Option Addr) (cap : Nat) (w : World) (hG : Glob w) (hr : oldRoot.length = 32 ∧ root.length = 32) (hn : n ≤ 4096) (h0 : 0 < old) (ho : old < n) (hPl : P.length ≤ 1000000000000) (hR : Reads w w.heap.size A P.length (fun j => .string ⟨(P.getD j []).toArray⟩)) (hcap : P.length ≤ cap) (hf : P.length = mcount old n true ∧ (P.all fun s => s.length == 32) = true) :
    Calls Tryd.prog 35 #[.string ⟨oldRoot.toArray⟩, .int .i64 (old : Int), .string ⟨root.toArray⟩, .int .i64 (n : Int), .slice A P.length cap] w fun e w' => e = .returned (.int .i64 (if (mcome old n true oldRoot P).1 = oldRoot ∧ (mcome old n true oldRoot P).2 = root then 0 else 192)) ∧ Below w.heap.size w w' := by
  have HS := St.start hG
  have ca := fun g W h0 h1 hg => all_two oldRoot root g W h0 h1 hg
  rw [show decide (oldRoot.length = 32 ∧ root.length = 32) = true from by simpa using hr] at ca
  have CA := Lib.hid ca
  clear ca
  have c1 : ¬ (n : Int) < 0 := by omega
  have c2 : ¬ (4096 : Int) < n := by omega
  have c3 : ¬ (old : Int) < 0 := by omega
  have c4 : ¬ (n : Int) < old := by omega
  have z0 : (0 : Int) < (old : Int) := by omega
  have z1 : ((old : Int) == 0) = false := by rw [beq_eq_false_iff_ne]; omega
  have z2 : ((old : Int) == (n : Int)) = false := by rw [beq_eq_false_iff_ne]; omega
  have cn := fun W => count_any old n true W (by omega) (by omega) (by omega)
  have h32 := mcome_32 n old n true oldRoot P (Nat.le_refl _) hr.1 (fun j hj => by
    rw [List.getD_eq_getElem?_getD, List.getElem?_eq_getElem (by omega)]
    exact beq_iff_eq.1 (List.all_eq_true.1 hf.2 _ (List.getElem_mem (by omega))))
  have cm := fun W (g : Glob W) h => come_any oldRoot P A P.length cap (by omega) (getD_le_of_all P hf.2) n old n true W (Nat.le_refl _) (by omega) (by omega) (by omega) (by omega) hcap g h
  rw [← hf.1] at cn cm
  obtain ⟨r, er⟩ : ∃ r, r = mcome old n true oldRoot P := ⟨_, rfl⟩
  rw [← er] at cm h32 ⊢
  obtain ⟨X, Y⟩ := r
  simp only [] at cm h32 ⊢
  have CN := Lib.hid cn
  have cz := fun W (g : Glob W) => sum_any [] W g (by simp)
  have lz := sha_length []

  have cf := fun W h => all_any P A cap W (by omega) h
  rw [show all32 P = true from hf.2] at cf
  have CF := Lib.hid cf
  have CM := Lib.hid cm
  have HR := Lib.hid hR
  have hq0 : ((P.length : Int) != (P.length : Int)) = false := by simp
  obtain ⟨Z, eZ⟩ : ∃ Z, Z = sha [] := ⟨_, rfl⟩
  rw [← eZ] at cz lz
  have CZ := Lib.hid cz
  have s1 := fun W => same_any X oldRoot W h32.1 hr.1
  have s2 := fun W => same_any Y root W h32.2 hr.2
  have hsp : (if X = oldRoot ∧ Y = root then (0 : Int) else 192) = if decide (X = oldRoot) = true ∧ decide (Y = root) = true then 0 else 192 := by simp
  rw [hsp]
  obtain ⟨r1, er1⟩ : ∃ r, r = decide (X = oldRoot) := ⟨_, rfl⟩
  obtain ⟨r2, er2⟩ : ∃ r, r = decide (Y = root) := ⟨_, rfl⟩
  rw [← er1] at s1 ⊢
  rw [← er2] at s2 ⊢
  have S := Lib.hid (And.intro s1 s2)
  clear cz cf hf hr hR eZ lz hsp cn h0 cm er h32 hcap er1 er2 s1 s2 hG
  cases r1
  all_goals cases r2
  all_goals
    go_enter Tryd.func35, Tryd.ntmps35
    go_wp2_with (first
      | (go_at_call 50; with_reducible refine (St.still (St.alloc HS _) (CA.out _ _ (by simp) (by simp) (by simp))).mono ?_; clear HS; rintro e w' ⟨rfl, HS⟩)
      | (go_at_call 66; refine (Kp.still HS (CN.out _)).mono ?_; clear HS; rintro e w' ⟨rfl, HS⟩)
      | (go_at_call 50; with_reducible refine (Kp.still HS (CF.out _ (HR.out.belowW (St.bel HS)))).mono ?_; clear HS; rintro e w' ⟨rfl, HS⟩)
      | (go_at_call 31; refine (St.callG HS CZ.out).mono ?_; clear HS; rintro e w' ⟨rfl, HS⟩)
      | (go_at_call 67; refine (Kp.call HS (CM.out _ (St.glob HS) (HR.out.belowW (St.bel HS)))).mono ?_; clear HS; rintro e w' ⟨rfl, HS⟩)
      | (go_at_call 53; with_reducible refine (Kp.call HS (S.out.1 _)).mono ?_; clear HS; rintro e w' ⟨rfl, HS⟩)
      | (go_at_call 53; with_reducible refine (Kp.call HS (S.out.2 _)).mono ?_; clear HS; rintro e w' ⟨rfl, HS⟩))
    go_ret
    exact ⟨by simp, HS.out.2⟩
theorem checkgrown_any (oldRoot : List UInt8) (old : Int) (root : List UInt8) (n : Int) (P : List (List UInt8)) (A : Option Addr) (cap : Nat) (w : World) (hG : Glob w) (hPl : P.length ≤ 1000000000000) (hcap : P.length ≤ cap) (hR : Reads w w.heap.size A P.length (fun j => .string ⟨(P.getD j []).toArray⟩)) :
    Calls Tryd.prog 35 #[.string ⟨oldRoot.toArray⟩, .int .i64 old, .string ⟨root.toArray⟩, .int .i64 n, .slice A P.length cap] w fun e w' => e = .returned (.int .i64 (mgcheck oldRoot old root n P)) ∧ Below w.heap.size w w' := by
  unfold mgcheck
  by_cases hr : oldRoot.length = 32 ∧ root.length = 32
  · rw [if_neg (by simpa using hr)]
    by_cases hni : n < 0 ∨ n > 4096 ∨ old < 0 ∨ old > n
    · rw [if_pos hni]
      exact gc_range oldRoot old n root P A cap w hG hr hni
    · rw [if_neg hni]
      obtain ⟨N, rfl⟩ : ∃ N : Nat, n = N := ⟨n.toNat, by omega⟩
      obtain ⟨O, rfl⟩ : ∃ O : Nat, old = O := ⟨old.toNat, by omega⟩
      rw [Int.toNat_natCast, Int.toNat_natCast]
      by_cases hf : P.length = mwant O N ∧ (P.all fun s => s.length == 32) = true
      · rw [if_neg (by simpa using hf)]
        by_cases h0 : (O : Int) = 0
        · obtain rfl : O = 0 := by omega
          rw [if_pos h0]
          exact gc_zero oldRoot N root P A cap w hG hr (by omega) hPl hR (by rw [hf.1]; rfl)
        · rw [if_neg h0]
          by_cases h1 : (O : Int) = N
          · obtain rfl : O = N := by omega
            rw [if_pos rfl]
            exact gc_same oldRoot O root P A cap w hG hr (by omega) (by omega) hPl hR (by rw [hf.1]; unfold mwant; rw [if_pos (by omega), mcount_end _ _ _ (.inl rfl)]; rfl)
          · rw [if_neg h1]
            exact gc_come oldRoot O N root P A cap w hG hr (by omega) (by omega) (by omega) hPl hR hcap ⟨by rw [hf.1]; unfold mwant; rw [if_pos (by omega)], hf.2⟩
      · rw [if_pos (by simpa using hf)]
        exact gc_form oldRoot O N root P A cap w hG hr (by omega) (by omega) hPl hR hf
  · rw [if_pos hr]
    exact gc_root oldRoot old n root P A cap w hG hr
end Go.Proofs.YthhjmodkodkgpaaDoor
