/- merkle.count, strongboxref19.long; merkle.come, strongboxref19.comes. -/
import Derived.Test.YthhjmodkodkgpaaDoorMNode
import Derived.Test.YthhjmodkodkgpaaDoorKp
import Derived.Test.YthhjmodkodkgpaaDoorMCheck2
import Derived.Lib.QuietBelow
namespace Sbx
/-- how many elements a proof of growth has -/
def mcount (m n : Nat) (w : Bool) : Nat :=
  if h : m = n ∨ n ≤ 1 then (if w then 0 else 1) else if m ≤ hf n then mcount m (hf n) w + 1 else mcount (m - hf n) (n - hf n) false + 1
termination_by n
decreasing_by
  · exact hf_lt n (by omega)
  · have := hf_pos n; omega
theorem mcount_end (m n : Nat) (w : Bool) (h : m = n ∨ n ≤ 1) : mcount m n w = if w then 0 else 1 := by rw [mcount, dif_pos h]
theorem mcount_le (m n : Nat) (w : Bool) (h : ¬ (m = n ∨ n ≤ 1)) (hm : m ≤ hf n) : mcount m n w = mcount m (hf n) w + 1 := by rw [mcount, dif_neg h, if_pos hm]
theorem mcount_gt (m n : Nat) (w : Bool) (h : ¬ (m = n ∨ n ≤ 1)) (hm : ¬ m ≤ hf n) : mcount m n w = mcount (m - hf n) (n - hf n) false + 1 := by rw [mcount, dif_neg h, if_neg hm]
theorem mcount_bound : ∀ (N m n : Nat) (w : Bool), n ≤ N → mcount m n w ≤ n + 1
  | 0, m, n, w, h => by rw [mcount_end m n w (by omega)]; split <;> omega
  | N + 1, m, n, w, h => by
    by_cases he : m = n ∨ n ≤ 1
    · rw [mcount_end m n w he]; split <;> omega
    · have a := hf_lt n (by omega)
      have b := hf_pos n
      by_cases hm : m ≤ hf n
      · rw [mcount_le m n w he hm]
        have := mcount_bound N m (hf n) w (by omega)
        omega
      · rw [mcount_gt m n w he hm]
        have := mcount_bound N (m - hf n) (n - hf n) false (by omega)
        omega
/-- what a proof of growth comes to: the old root, the root -/
def mcome (m n : Nat) (w : Bool) (old : List UInt8) (P : List (List UInt8)) : List UInt8 × List UInt8 :=
  if h : m = n ∨ n ≤ 1 then (if w then (old, old) else (P.getD 0 [], P.getD 0 []))
  else if m ≤ hf n then ((mcome m (hf n) w old P).1, mnode (mcome m (hf n) w old P).2 (P.getD (mcount m (hf n) w) []))
  else (mnode (P.getD (mcount (m - hf n) (n - hf n) false) []) (mcome (m - hf n) (n - hf n) false old P).1, mnode (P.getD (mcount (m - hf n) (n - hf n) false) []) (mcome (m - hf n) (n - hf n) false old P).2)
termination_by n
decreasing_by
  all_goals first | exact hf_lt n (by omega) | (have := hf_pos n; omega)
theorem mcome_end (m n : Nat) (w : Bool) (old : List UInt8) (P : List (List UInt8)) (h : m = n ∨ n ≤ 1) : mcome m n w old P = if w then (old, old) else (P.getD 0 [], P.getD 0 []) := by rw [mcome, dif_pos h]
theorem mcome_le (m n : Nat) (w : Bool) (old : List UInt8) (P : List (List UInt8)) (h : ¬ (m = n ∨ n ≤ 1)) (hm : m ≤ hf n) : mcome m n w old P = ((mcome m (hf n) w old P).1, mnode (mcome m (hf n) w old P).2 (P.getD (mcount m (hf n) w) [])) := by rw [mcome, dif_neg h, if_pos hm]
theorem mcome_gt (m n : Nat) (w : Bool) (old : List UInt8) (P : List (List UInt8)) (h : ¬ (m = n ∨ n ≤ 1)) (hm : ¬ m ≤ hf n) : mcome m n w old P = (mnode (P.getD (mcount (m - hf n) (n - hf n) false) []) (mcome (m - hf n) (n - hf n) false old P).1, mnode (P.getD (mcount (m - hf n) (n - hf n) false) []) (mcome (m - hf n) (n - hf n) false old P).2) := by rw [mcome, dif_neg h, if_neg hm]
theorem mcome_len : ∀ (N m n : Nat) (w : Bool) (old : List UInt8) (P : List (List UInt8)), n ≤ N → old.length ≤ 32 → (∀ j, (P.getD j []).length ≤ 32) → (mcome m n w old P).1.length ≤ 32 ∧ (mcome m n w old P).2.length ≤ 32
  | 0, m, n, w, old, P, h, h1, h2 => by
    rw [mcome_end m n w old P (by omega)]
    cases w
    · exact ⟨h2 0, h2 0⟩
    · exact ⟨h1, h1⟩
  | N + 1, m, n, w, old, P, h, h1, h2 => by
    by_cases he : m = n ∨ n ≤ 1
    · rw [mcome_end m n w old P he]
      cases w
      · exact ⟨h2 0, h2 0⟩
      · exact ⟨h1, h1⟩
    · have a := hf_lt n (by omega)
      have b := hf_pos n
      by_cases hm : m ≤ hf n
      · rw [mcome_le m n w old P he hm]
        have := mcome_len N m (hf n) w old P (by omega) h1 h2
        exact ⟨this.1, by show (mnode _ _).length ≤ 32; rw [mnode_length]; omega⟩
      · rw [mcome_gt m n w old P he hm]
        exact ⟨by show (mnode _ _).length ≤ 32; rw [mnode_length]; omega, by show (mnode _ _).length ≤ 32; rw [mnode_length]; omega⟩
end Sbx
namespace Go.Proofs.YthhjmodkodkgpaaDoor
open Go.RowKit Sbx Go.Sort

set_option maxRecDepth 100000 in
theorem count_any (m n : Nat) (b : Bool) (w : World) (hn : n ≤ 1000000000000) (h1 : 1 ≤ m) (hm : m ≤ n) :
    Calls Tryd.prog 66 #[.int .i64 (m : Int), .int .i64 (n : Int), .bool b] w fun e w' => e = .returned (.int .i64 (mcount m n b : Int)) ∧ w = w' := by
  have hbd := mcount_bound n m n b (Nat.le_refl _)
  obtain ⟨C, eC⟩ : ∃ C, C = mcount m n b := ⟨_, rfl⟩
  rw [← eC] at hbd ⊢
  have HC := Lib.hid (And.intro eC hbd)
  have H0 := Lib.hid (And.intro h1 hm)
  clear eC hbd h1 hm
  go_enter Tryd.func66, Tryd.ntmps66
  go_wp2_with fail
  go_loopw [0, 1, 2, 7] (fun v0 v1 v2 v7 wr => ∃ (m' n' c : Nat) (b' : Bool), v0 = .int .i64 (m' : Int) ∧ v1 = .int .i64 (n' : Int) ∧ v2 = .bool b' ∧ v7 = .int .i64 (c : Int) ∧ Hid (1 ≤ m' ∧ m' ≤ n' ∧ n' ≤ n ∧ C = c + mcount m' n' b') ∧ w = wr)
    (fun _ v1 _ _ _ => (intOf v1).toNat)
  case atStart => exact ⟨m, n, 0, b, rfl, rfl, rfl, rfl, ⟨H0.out.1, H0.out.2, Nat.le_refl _, by rw [Nat.zero_add]; exact HC.out.1⟩, rfl⟩
  case round =>
    obtain ⟨m', n', c, b', rfl, rfl, rfl, rfl, hx, rfl⟩ := hrel
    obtain ⟨g1, g2, g3, g4⟩ := hx.out
    have c0 : (c : Int) ≤ 1000000000001 := by have := HC.out.2; omega
    by_cases he : m' = n'
    · subst he
      rw [mcount_end _ _ _ (.inl rfl)] at g4
      have hr : C = if b' then c else c + 1 := by rw [g4]; cases b' <;> rfl
      have HR := Lib.hid hr
      have hne : ((m' : Int) != (m' : Int)) = false := by simp
      clear g1 g2 g3 g4 hx hr
      cases b'
      all_goals
        go_wp2_with fail
        go_ret
        exact ⟨by rw [HR.out]; rfl, rfl⟩
    · have hne : ((m' : Int) != (n' : Int)) = true := by rw [bne_iff_ne]; omega
      have hk1 := hf_lt n' (by omega)
      have hk0 := hf_pos n'
      have ch := fun W => half_any n' W (by omega) (by omega)
      have hle := mcount_le m' n' b' (by omega)
      have hgt := mcount_gt m' n' b' (by omega)
      obtain ⟨k, ek⟩ : ∃ k, k = hf n' := ⟨_, rfl⟩
      rw [← ek] at hk1 hk0 ch hle hgt
      have CH := Lib.hid ch
      have HX := Lib.hid (And.intro hle (And.intro hgt (And.intro g4 g3)))
      have m0 : (1 : Int) ≤ (m' : Int) := by omega
      have m1 : (m' : Int) ≤ (n' : Int) := by omega
      have n0 : (n' : Int) ≤ 1000000000000 := by omega
      have k0 : (1 : Int) ≤ (k : Int) := by omega
      have k1 : (k : Int) < (n' : Int) := by omega
      clear ch ek hle hgt g4 hx
      by_cases hmk : m' ≤ k
      · have hz : (m' : Int) ≤ (k : Int) := by omega
        go_wp2_with (go_at_call 46; refine (CH.out _).mono ?_; clear CH; rintro e w' ⟨rfl, rfl⟩)
        go_roundw
        case rel =>
          refine ⟨m', k, c + 1, b', rfl, rfl, rfl, by go_num, ⟨by omega, hmk, by omega, ?_⟩, trivial⟩
          have := HX.out.2.2.1
          rw [HX.out.1 hmk] at this
          omega
        case measure => simp [intOf]; omega
      · have hz : ¬ (m' : Int) ≤ (k : Int) := by omega
        go_wp2_with (go_at_call 46; refine (CH.out _).mono ?_; clear CH; rintro e w' ⟨rfl, rfl⟩)
        go_roundw
        case rel =>
          refine ⟨m' - k, n' - k, c + 1, false, by go_num, by go_num, rfl, by go_num, ⟨by omega, by omega, by omega, ?_⟩, trivial⟩
          have := HX.out.2.2.1
          rw [HX.out.2.1 hmk] at this
          omega
        case measure => simp [intOf]; omega

set_option maxRecDepth 100000 in
theorem long_any : ∀ (N m n : Nat) (b : Bool) (w : World), n ≤ N → n ≤ 1000000000000 → 1 ≤ m → m ≤ n →
    Calls Tryd.prog 68 #[.int .i64 (m : Int), .int .i64 (n : Int), .bool b] w fun e w' => e = .returned (.int .i64 (mcount m n b : Int)) ∧ w = w' := by
  intro N
  induction N with
  | zero => intro m n b w h _ h1 h2; omega
  | succ N ih =>
    intro m n b w hN hn h1 hm
    by_cases he : m = n
    · subst he
      rw [mcount_end _ _ _ (.inl rfl)]
      have hq : ((m : Int) == (m : Int)) = true := by simp
      clear ih
      cases b
      all_goals
        go_enter Tryd.func68, Tryd.ntmps68
        go_wp2_with fail
        go_ret
        exact ⟨rfl, rfl⟩
    · have hq : ((m : Int) == (n : Int)) = false := by rw [beq_eq_false_iff_ne]; omega
      have hk1 := hf_lt n (by omega)
      have hk0 := hf_pos n
      have ch := fun W => below_any n W (by omega) (by omega)
      have hle := mcount_le m n b (by omega)
      have hgt := mcount_gt m n b (by omega)
      have c1 := fun W (h : m ≤ hf n) => ih m (hf n) b W (by omega) (by omega) h1 h
      have c2 := fun W (h : ¬ m ≤ hf n) => ih (m - hf n) (n - hf n) false W (by omega) (by omega) (by omega) (by omega)
      have b1 := mcount_bound n m (hf n) b (by omega)
      have b2 := mcount_bound n (m - hf n) (n - hf n) false (by omega)
      obtain ⟨k, ek⟩ : ∃ k, k = hf n := ⟨_, rfl⟩
      rw [← ek] at hk1 hk0 ch hle hgt c1 c2 b1 b2
      have CH := Lib.hid ch
      have m0 : (1 : Int) ≤ (m : Int) := by omega
      have m1 : (m : Int) ≤ (n : Int) := by omega
      have n0 : (n : Int) ≤ 1000000000000 := by omega
      have k0 : (1 : Int) ≤ (k : Int) := by omega
      have k1 : (k : Int) < (n : Int) := by omega
      clear ch ek ih
      by_cases hmk : m ≤ k
      · rw [hle hmk]
        have hz : (m : Int) ≤ (k : Int) := by omega
        have c3 := fun W => c1 W hmk
        obtain ⟨X, eX⟩ : ∃ X, X = mcount m k b := ⟨_, rfl⟩
        rw [← eX] at c3 b1 ⊢
        have C1 := Lib.hid c3
        have x1 : (X : Int) ≤ 1000000000001 := by omega
        clear c1 c2 c3 eX hle hgt b2
        go_enter Tryd.func68, Tryd.ntmps68
        go_wp2_with (first
          | (go_at_call 58; refine (CH.out _).mono ?_; clear CH; rintro e w' ⟨rfl, rfl⟩)
          | (go_at_call 68; refine (C1.out _).mono ?_; clear C1; rintro e w' ⟨rfl, rfl⟩))
        go_ret
        exact ⟨by first | rfl | simp, rfl⟩
      · rw [hgt hmk]
        have hz : ¬ (m : Int) ≤ (k : Int) := by omega
        have c3 := fun W => c2 W hmk
        rw [show ((m - k : Nat) : Int) = (m : Int) - k by omega, show ((n - k : Nat) : Int) = (n : Int) - k by omega] at c3
        obtain ⟨X, eX⟩ : ∃ X, X = mcount (m - k) (n - k) false := ⟨_, rfl⟩
        rw [← eX] at c3 b2 ⊢
        have C1 := Lib.hid c3
        have x1 : (X : Int) ≤ 1000000000001 := by omega
        have hw1 : IntKind.i64.wrap ((m : Int) - k) = (m : Int) - k := by rw [IntKind.wrap_i64]; omega
        have hw2 : IntKind.i64.wrap ((n : Int) - k) = (n : Int) - k := by rw [IntKind.wrap_i64]; omega
        clear c1 c2 c3 eX hle hgt b1
        go_enter Tryd.func68, Tryd.ntmps68
        go_wp2_with (first
          | (go_at_call 58; refine (CH.out _).mono ?_; clear CH; rintro e w' ⟨rfl, rfl⟩)
          | (go_at_call 68; refine (C1.out _).mono ?_; clear C1; rintro e w' ⟨rfl, rfl⟩))
        go_ret
        exact ⟨by first | rfl | simp, rfl⟩
end Go.Proofs.YthhjmodkodkgpaaDoor
