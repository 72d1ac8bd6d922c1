/- The law of growth: CheckGrown takes what Grown makes. -/
import Derived.Test.YthhjmodkodkgpaaDoorMGrow
import Derived.Test.YthhjmodkodkgpaaDoorMGrown1
namespace Sbx
theorem mcome_congr : ∀ (N m n : Nat) (w : Bool) (old : List UInt8) (P Q : List (List UInt8)), n ≤ N → (∀ j, j < mcount m n w → P.getD j [] = Q.getD j []) → mcome m n w old P = mcome m n w old Q
  | 0, m, n, w, old, P, Q, h, h2 => by
    rw [mcount_end m n w (by omega)] at h2
    rw [mcome_end m n w old P (by omega), mcome_end m n w old Q (by omega)]
    cases w
    · rw [h2 0 (by simp)]
    · rfl
  | N + 1, m, n, w, old, P, Q, h, h2 => by
    by_cases he : m = n ∨ n ≤ 1
    · rw [mcount_end m n w he] at h2
      rw [mcome_end m n w old P he, mcome_end m n w old Q he]
      cases w
      · rw [h2 0 (by simp)]
      · rfl
    · have a := hf_lt n (by omega)
      have b := hf_pos n
      by_cases hm : m ≤ hf n
      · rw [mcount_le m n w he hm] at h2
        rw [mcome_le m n w old P he hm, mcome_le m n w old Q he hm, mcome_congr N m (hf n) w old P Q (by omega) (fun j hj => h2 j (by omega)), h2 _ (by omega)]
      · rw [mcount_gt m n w he hm] at h2
        rw [mcome_gt m n w old P he hm, mcome_gt m n w old Q he hm, mcome_congr N (m - hf n) (n - hf n) false old P Q (by omega) (fun j hj => h2 j (by omega)), h2 _ (by omega)]
theorem mroot_cut (l : List (List UInt8)) (h : 2 ≤ l.length) : mroot l = mnode (mroot (l.take (hf l.length))) (mroot (l.drop (hf l.length))) := by
  rw [mroot, dif_neg (by omega), dif_neg (by omega)]
theorem hf_between (m n : Nat) (h2 : 2 ≤ n) (h1 : hf n < m) (hm : m ≤ n) : hf m = hf n := by
  have := hf_ge n h2
  unfold hf at this h1 ⊢
  exact hf_unique m (Nat.log2 (n - 1)) h1 (by omega)
theorem snoc_getD (P : List (List UInt8)) (Y : List UInt8) (j : Nat) (h : j < P.length) : (P ++ [Y]).getD j [] = P.getD j [] := by
  rw [List.getD_eq_getElem?_getD, List.getD_eq_getElem?_getD, List.getElem?_append_left h]
theorem snoc_last (P : List (List UInt8)) (Y : List UInt8) (j : Nat) (h : j = P.length) : (P ++ [Y]).getD j [] = Y := by
  rw [List.getD_eq_getElem?_getD, List.getElem?_append_right (by omega), h, Nat.sub_self]
  rfl
theorem mcome_grown : ∀ (N m : Nat) (l : List (List UInt8)) (w : Bool) (old : List UInt8), l.length ≤ N → 1 ≤ m → m ≤ l.length → (w = true → old = mroot (l.take m)) → mcome m l.length w old (mgrown m l w) = (mroot (l.take m), mroot l)
  | 0, m, l, w, old, h, h1, h2, _ => by omega
  | N + 1, m, l, w, old, h, h1, h2, h3 => by
    by_cases he : m = l.length
    · rw [mcome_end m _ w old _ (.inl he), mgrown_end m l w (.inl he)]
      have ht : l.take m = l := by rw [he, List.take_length]
      cases w
      · rw [ht]; rfl
      · rw [h3 rfl, ht]; rfl
    · have a := hf_lt l.length (by omega)
      have b := hf_pos l.length
      have hne : ¬ (m = l.length ∨ l.length ≤ 1) := by omega
      by_cases hm : m ≤ hf l.length
      · have ltk : (l.take (hf l.length)).length = hf l.length := by rw [List.length_take]; omega
        have htt : (l.take (hf l.length)).take m = l.take m := by rw [List.take_take, Nat.min_eq_left hm]
        have ih := mcome_grown N m (l.take (hf l.length)) w old (by omega) h1 (by omega) (fun e => by rw [htt]; exact h3 e)
        have hlen := mgrown_length m (l.take (hf l.length)) w
        rw [ltk] at ih hlen
        rw [mgrown_le m l w hne hm, mcome_le m _ w old _ hne hm, snoc_last _ _ _ hlen.symm, mcome_congr (hf l.length) m (hf l.length) w old _ (mgrown m (l.take (hf l.length)) w) (Nat.le_refl _) (fun j hj => snoc_getD _ _ _ (by omega)), ih, htt]
        show (mroot (l.take m), mnode (mroot (l.take (hf l.length))) (mroot (l.drop (hf l.length)))) = _
        rw [← mroot_cut l (by omega)]
      · have ldk : (l.drop (hf l.length)).length = l.length - hf l.length := by rw [List.length_drop]
        have ih := mcome_grown N (m - hf l.length) (l.drop (hf l.length)) false old (by omega) (by omega) (by omega) (fun e => by cases e)
        have hlen := mgrown_length (m - hf l.length) (l.drop (hf l.length)) false
        rw [ldk] at ih hlen
        rw [mgrown_gt m l w hne hm, mcome_gt m _ w old _ hne hm, snoc_last _ _ _ hlen.symm, mcome_congr (l.length - hf l.length) (m - hf l.length) (l.length - hf l.length) false old _ (mgrown (m - hf l.length) (l.drop (hf l.length)) false) (Nat.le_refl _) (fun j hj => snoc_getD _ _ _ (by omega)), ih]
        have lm : (l.take m).length = m := by rw [List.length_take]; omega
        have hk := hf_between m l.length (by omega) (by omega) h2
        have h5 := mroot_cut (l.take m) (by omega)
        rw [lm, hk, List.take_take, Nat.min_eq_left (by omega), List.drop_take] at h5
        show (mnode (mroot (l.take (hf l.length))) (mroot ((l.drop (hf l.length)).take (m - hf l.length))), mnode (mroot (l.take (hf l.length))) (mroot (l.drop (hf l.length)))) = _
        rw [← h5, ← mroot_cut l (by omega)]
end Sbx
namespace Go.Proofs.YthhjmodkodkgpaaDoor
open Go.RowKit Sbx Go.Sort
theorem mgcheck_grown (l : List (List UInt8)) (old : Nat) (ho : old ≤ l.length) (hn : l.length ≤ 4096) : mgcheck (mroot (l.take old)) old (mroot l) l.length (grownL l old) = 0 := by
  have r1 := mroot_length (l.take old)
  have r2 := mroot_length l
  unfold mgcheck
  rw [if_neg (by simp [r1, r2]), if_neg (by omega), Int.toNat_natCast, Int.toNat_natCast]
  by_cases h0 : old = 0
  · subst h0
    have hg : grownL l ((0 : Nat) : Int) = [] := by unfold grownL; rw [if_neg (by omega)]
    rw [hg, if_neg (by simp [mwant]), if_pos (show ((0 : Nat) : Int) = 0 from rfl)]
    have : mroot (l.take 0) = sha [] := by rw [List.take_zero]; exact mroot_nil
    by_cases h1 : l.length = 0
    · have hl := List.eq_nil_of_length_eq_zero h1
      rw [if_pos ⟨this, .inr (by rw [hl]; exact mroot_nil)⟩]
    · rw [if_pos ⟨this, .inl (by omega)⟩]
  · have hg : grownL l (old : Int) = mgrown old l true := by unfold grownL; rw [if_pos (by omega), Int.toNat_natCast]
    have hw : mwant old l.length = mcount old l.length true := by unfold mwant; rw [if_pos (by omega)]
    rw [hg, hw, if_neg (by
      rw [Classical.not_not]
      refine ⟨mgrown_length old l true, ?_⟩
      rw [List.all_eq_true]
      intro s hs
      simpa using mgrown_32 l.length old l true (Nat.le_refl _) s hs), if_neg (by omega)]
    by_cases h1 : (old : Int) = l.length
    · rw [if_pos h1, if_pos]
      rw [show old = l.length by omega, List.take_length]
    · rw [if_neg h1, mcome_grown l.length old l true _ (Nat.le_refl _) (by omega) ho (fun _ => rfl), if_pos ⟨rfl, rfl⟩]
end Go.Proofs.YthhjmodkodkgpaaDoor
