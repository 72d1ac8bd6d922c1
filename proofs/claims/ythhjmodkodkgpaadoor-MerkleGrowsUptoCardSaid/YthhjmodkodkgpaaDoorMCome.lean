/- merkle.come, strongboxref19.comes. -/
import Derived.Test.YthhjmodkodkgpaaDoorMCount
namespace Go.Proofs.YthhjmodkodkgpaaDoor
open Go.RowKit Sbx Go.Sort

theorem mcount_pos (m n : Nat) : 1 ≤ mcount m n false := by
  by_cases he : m = n ∨ n ≤ 1
  · rw [mcount_end m n false he]; simp
  · by_cases hm : m ≤ hf n
    · rw [mcount_le m n false he hm]; omega
    · rw [mcount_gt m n false he hm]; omega

set_option maxRecDepth 100000 in
set_option maxHeartbeats 1000000 in
theorem come_any (old : List UInt8) (P : List (List UInt8)) (A : Option Addr) (L cap : Nat) (ho : old.length ≤ 32) (hP : ∀ j, (P.getD j []).length ≤ 32) : ∀ (N m n : Nat) (b : Bool) (w : World), n ≤ N → n ≤ 1000000000000 → 1 ≤ m → m ≤ n → mcount m n b ≤ L → L ≤ cap → Glob w → Reads w w.heap.size A L (fun j => .string ⟨(P.getD j []).toArray⟩) →
    Calls Tryd.prog 67 #[.int .i64 (m : Int), .int .i64 (n : Int), .bool b, .string ⟨old.toArray⟩, .slice A L cap] w fun e w' => e = .returned (.tuple #[.string ⟨(mcome m n b old P).1.toArray⟩, .string ⟨(mcome m n b old P).2.toArray⟩, .int .i64 (mcount m n b : Int)]) ∧ Below w.heap.size w w' := by
  intro N
  induction N with
  | zero => intro m n b w h _ h1 h2; omega
  | succ N ih =>
    intro m n b w hN hn h1 hm hL hcap hG hR
    by_cases he : m = n
    · subst he
      rw [mcount_end _ _ _ (.inl rfl)] at hL ⊢
      rw [mcome_end _ _ _ _ _ (.inl rfl)]
      have hq : ((m : Int) == (m : Int)) = true := by simp
      clear ih
      cases b
      · obtain ⟨bb, off, rfl, _, hc⟩ := hR 0 (by simp at hL; omega)
        have hc' : w.cell? ⟨bb, off, none⟩ = some (.string ⟨(P.getD 0 []).toArray⟩) := hc
        have L1 : (0 : Int) < (L : Int) := by simp at hL; omega
        obtain ⟨p, ep⟩ : ∃ p, p = P.getD 0 [] := ⟨_, rfl⟩
        rw [← ep] at hc'
        simp only [Bool.false_eq_true, if_false]
        rw [← ep]
        clear hR hc ep hG hP
        go_enter Tryd.func67, Tryd.ntmps67
        go_wp2_with fail
        go_region
        go_wp2
        go_ret3
        exact ⟨rfl, (Below.refl _ _).drew⟩
      · clear hR hG hP
        simp only [if_true]
        go_enter Tryd.func67, Tryd.ntmps67
        go_wp2_with fail
        go_ret3
        exact ⟨rfl, Below.refl _ _⟩
    · have hq : ((m : Int) == (n : Int)) = false := by rw [beq_eq_false_iff_ne]; omega
      have hk1 := hf_lt n (by omega)
      have hk0 := hf_pos n
      have ch := fun W => half_any n W (by omega) (by omega)
      have hle := mcount_le m n b (by omega)
      have hgt := mcount_gt m n b (by omega)
      have hle2 := mcome_le m n b old P (by omega)
      have hgt2 := mcome_gt m n b old P (by omega)
      have c1 := fun (W : World) (h : m ≤ hf n) hl (g : Glob W) r => ih m (hf n) b W (by omega) (by omega) h1 h hl hcap g r
      have c2 := fun (W : World) (h : ¬ m ≤ hf n) hl (g : Glob W) r => ih (m - hf n) (n - hf n) false W (by omega) (by omega) (by omega) (by omega) hl hcap g r
      have b1 := mcount_bound n m (hf n) b (by omega)
      have b2 := mcount_bound n (m - hf n) (n - hf n) false (by omega)
      have l1 := mcome_len n m (hf n) b old P (by omega) ho hP
      have l2 := mcome_len n (m - hf n) (n - hf n) false old P (by omega) ho hP
      obtain ⟨k, ek⟩ : ∃ k, k = hf n := ⟨_, rfl⟩
      rw [← ek] at hk1 hk0 ch hle hgt hle2 hgt2 c1 c2 b1 b2 l1 l2
      have HS := St.start hG
      have CH := Lib.hid ch
      have m0 : (1 : Int) ≤ (m : Int) := by omega
      have m1 : (m : Int) ≤ (n : Int) := by omega
      have n0 : (n : Int) ≤ 1000000000000 := by omega
      have k0 : (1 : Int) ≤ (k : Int) := by omega
      have k1 : (k : Int) < (n : Int) := by omega
      clear ch ek ih
      by_cases hmk : m ≤ k
      · rw [hle hmk] at hL ⊢
        rw [hle2 hmk]
        have hz : (m : Int) ≤ (k : Int) := by omega
        have c3 := c1 w hmk (by omega) hG hR
        obtain ⟨bb, off, rfl, hbl, hc⟩ := hR (mcount m k b) (by omega)
        have hc' : w.cell? ⟨bb, off + mcount m k b, none⟩ = some (.string ⟨(P.getD (mcount m k b) []).toArray⟩) := hc
        have hpl := hP (mcount m k b)
        have x0 : (mcount m k b : Int) < (L : Int) := by omega
        obtain ⟨X, eX⟩ : ∃ X, X = mcount m k b := ⟨_, rfl⟩
        obtain ⟨r, er⟩ : ∃ r, r = mcome m k b old P := ⟨_, rfl⟩
        rw [← eX] at c3 b1 hc' hpl x0 ⊢
        rw [← er] at c3 l1 ⊢
        obtain ⟨ra, rb⟩ := r
        obtain ⟨p, ep⟩ : ∃ p, p = P.getD X [] := ⟨_, rfl⟩
        rw [← ep] at hc' hpl ⊢
        have c4 := fun W (g : Glob W) => node_any rb p W g (by have := l1.2; simp only [] at this; omega) (by omega)
        simp only [] at c3 ⊢
        obtain ⟨M, eM⟩ : ∃ M, M = mnode rb p := ⟨_, rfl⟩
        rw [← eM] at c4 ⊢
        have C1 := Lib.hid (And.intro c3 c4)
        have HC := Lib.hid (And.intro hbl hc')
        have x1 : (X : Int) ≤ 1000000000001 := by omega
        have x2 : (0 : Int) ≤ (X : Int) := by omega
        clear c1 c2 c3 c4 eX er ep eM hle hgt hle2 hgt2 b1 b2 l1 l2 hpl hG hR hP hc hc' hbl
        go_enter Tryd.func67, Tryd.ntmps67
        go_wp2_with (first
          | (go_at_call 46; refine (CH.out _).mono ?_; clear CH; rintro e w' ⟨rfl, rfl⟩)
          | (go_at_call 67; refine (St.call HS C1.out.1).mono ?_; clear HS; rintro e w1 ⟨rfl, HS1⟩
             have hcell := ((St.bel HS1).cell (p := ⟨bb, off + X, none⟩) HC.out.1).trans HC.out.2)
          | (go_at_call 49; refine (St.callG HS1 C1.out.2).mono ?_; clear HS1 hcell; rintro e w2 ⟨rfl, HS2⟩))
        go_ret3
        exact ⟨by first | rfl | simp, HS2.out.2⟩
      · rw [hgt hmk] at hL ⊢
        rw [hgt2 hmk]
        have hz : ¬ (m : Int) ≤ (k : Int) := by omega
        have c3 := c2 w hmk (by omega) hG hR
        rw [show ((m - k : Nat) : Int) = (m : Int) - k by omega, show ((n - k : Nat) : Int) = (n : Int) - k by omega] at c3
        obtain ⟨bb, off, rfl, hbl, hc⟩ := hR (mcount (m - k) (n - k) false) (by omega)
        have hc' : w.cell? ⟨bb, off + mcount (m - k) (n - k) false, none⟩ = some (.string ⟨(P.getD (mcount (m - k) (n - k) false) []).toArray⟩) := hc
        have hpl := hP (mcount (m - k) (n - k) false)
        have x0 : (mcount (m - k) (n - k) false : Int) < (L : Int) := by omega
        obtain ⟨X, eX⟩ : ∃ X, X = mcount (m - k) (n - k) false := ⟨_, rfl⟩
        obtain ⟨r, er⟩ : ∃ r, r = mcome (m - k) (n - k) false old P := ⟨_, rfl⟩
        rw [← eX] at c3 b2 hc' hpl x0 ⊢
        rw [← er] at c3 l2 ⊢
        obtain ⟨ra, rb⟩ := r
        obtain ⟨p, ep⟩ : ∃ p, p = P.getD X [] := ⟨_, rfl⟩
        rw [← ep] at hc' hpl ⊢
        have c4 := fun W (g : Glob W) => node_any p ra W g (by omega) (by have := l2.1; simp only [] at this; omega)
        have c5 := fun W (g : Glob W) => node_any p rb W g (by omega) (by have := l2.2; simp only [] at this; omega)
        simp only [] at c3 ⊢
        obtain ⟨M, eM⟩ : ∃ M, M = mnode p ra := ⟨_, rfl⟩
        obtain ⟨M2, eM2⟩ : ∃ M, M = mnode p rb := ⟨_, rfl⟩
        rw [← eM] at c4 ⊢
        rw [← eM2] at c5 ⊢
        have C1 := Lib.hid (And.intro c3 (And.intro c4 c5))
        have HC := Lib.hid (And.intro hbl hc')
        have x1 : (X : Int) ≤ 1000000000001 := by omega
        have x2 : (0 : Int) ≤ (X : Int) := by omega
        have hw1 : IntKind.i64.wrap ((m : Int) - k) = (m : Int) - k := by rw [IntKind.wrap_i64]; omega
        have hw2 : IntKind.i64.wrap ((n : Int) - k) = (n : Int) - k := by rw [IntKind.wrap_i64]; omega
        have hw3 : IntKind.i64.wrap ((X : Int) + 1) = (X : Int) + 1 := by rw [IntKind.wrap_i64]; omega
        clear c1 c2 c3 c4 c5 eX er ep eM eM2 hle hgt hle2 hgt2 b1 b2 l1 l2 hpl hG hR hP hc hc' hbl
        go_enter Tryd.func67, Tryd.ntmps67
        go_wp2_with (first
          | (go_at_call 46; refine (CH.out _).mono ?_; clear CH; rintro e w' ⟨rfl, rfl⟩)
          | (go_at_call 67; refine (St.call HS C1.out.1).mono ?_; clear HS; rintro e w1 ⟨rfl, HS1⟩
             have hcell := ((St.bel HS1).cell (p := ⟨bb, off + X, none⟩) HC.out.1).trans HC.out.2))
        have kc := cell_regrown hcell
        have hGr := HS1.out.1
        have z1 : ∀ d os, Calls Tryd.prog 49 #[.string ⟨p.toArray⟩, .string ⟨ra.toArray⟩] (grow (redrawn w1 d) os) fun e w' => e = .returned (.string ⟨M.toArray⟩) ∧ ∃ q : Regrown, w' = grow (redrawn w1 q.d) q.os := fun d os => Calls.regrown_of (C1.out.2.1 _ (hGr.below (below_regrown w1 d os)))
        have z2 : ∀ d os, Calls Tryd.prog 49 #[.string ⟨p.toArray⟩, .string ⟨rb.toArray⟩] (grow (redrawn w1 d) os) fun e w' => e = .returned (.string ⟨M2.toArray⟩) ∧ ∃ q : Regrown, w' = grow (redrawn w1 q.d) q.os := fun d os => Calls.regrown_of (C1.out.2.2 _ (hGr.below (below_regrown w1 d os)))
        clear hcell hGr
        refine wp_region_quiet_below (by kernel_rfl) (by kernel_rfl) ?_
        repeat (first | go_big_quiet_step ((first | (with_reducible exact z1 _ _) | (with_reducible exact z2 _ _))) | quiet_step ((first | (with_reducible exact z1 _ _) | (with_reducible exact z2 _ _))))
        refine wpQuiet_nil ?_
        intro _ hw'
        obtain ⟨⟨dq, osq⟩, hw''⟩ := hw'
        subst hw''
        have HS2 := St.below HS1 (below_regrown w1 dq osq)
        clear z1 z2 kc HS1
        generalize grow (redrawn w1 dq) osq = w6 at *
        go_wp2
        go_ret3
        exact ⟨by first | rfl | simp, HS2.out.2⟩

set_option maxRecDepth 100000 in
set_option maxHeartbeats 1000000 in
theorem comes_any (old : List UInt8) (P : List (List UInt8)) (A : Option Addr) (cap : Nat) (ho : old.length ≤ 32) (hP : ∀ j, (P.getD j []).length ≤ 32) : ∀ (N m n : Nat) (b : Bool) (w : World), n ≤ N → n ≤ 1000000000000 → 1 ≤ m → m ≤ n → mcount m n b ≤ cap → Reads w w.heap.size A (mcount m n b) (fun j => .string ⟨(P.getD j []).toArray⟩) →
    Calls Tryd.prog 69 #[.int .i64 (m : Int), .int .i64 (n : Int), .bool b, .string ⟨old.toArray⟩, .slice A (mcount m n b) cap] w fun e w' => e = .returned (.tuple #[.string ⟨(mcome m n b old P).1.toArray⟩, .string ⟨(mcome m n b old P).2.toArray⟩]) ∧ Below w.heap.size w w' := by
  intro N
  induction N with
  | zero => intro m n b w h _ h1 h2; omega
  | succ N ih =>
    intro m n b w hN hn h1 hm hcap hR
    by_cases he : m = n
    · subst he
      rw [mcount_end _ _ _ (.inl rfl)] at hcap hR ⊢
      rw [mcome_end _ _ _ _ _ (.inl rfl)]
      have hq : ((m : Int) == (m : Int)) = true := by simp
      clear ih
      cases b
      · obtain ⟨bb, off, rfl, _, hc⟩ := hR 0 (by simp)
        have hc' : w.cell? ⟨bb, off, none⟩ = some (.string ⟨(P.getD 0 []).toArray⟩) := hc
        obtain ⟨p, ep⟩ : ∃ p, p = P.getD 0 [] := ⟨_, rfl⟩
        rw [← ep] at hc'
        simp only [Bool.false_eq_true, if_false]
        rw [← ep]
        clear hR hc ep hP
        go_enter Tryd.func69, Tryd.ntmps69
        go_wp2_with fail
        go_region
        go_wp2
        go_ret2
        exact ⟨rfl, (Below.refl _ _).drew⟩
      · clear hR hP
        simp only [if_true]
        go_enter Tryd.func69, Tryd.ntmps69
        go_wp2_with fail
        go_ret2
        exact ⟨rfl, Below.refl _ _⟩
    · have hq : ((m : Int) == (n : Int)) = false := by rw [beq_eq_false_iff_ne]; omega
      have hk1 := hf_lt n (by omega)
      have hk0 := hf_pos n
      have ch := fun W => below_any n W (by omega) (by omega)
      have hle := mcount_le m n b (by omega)
      have hgt := mcount_gt m n b (by omega)
      have hle2 := mcome_le m n b old P (by omega)
      have hgt2 := mcome_gt m n b old P (by omega)
      have c1 := fun (W : World) (h : m ≤ hf n) hl r => ih m (hf n) b W (by omega) (by omega) h1 h hl r
      have c2 := fun (W : World) (h : ¬ m ≤ hf n) hl r => ih (m - hf n) (n - hf n) false W (by omega) (by omega) (by omega) (by omega) hl r
      have b1 := mcount_bound n m (hf n) b (by omega)
      have b2 := mcount_bound n (m - hf n) (n - hf n) false (by omega)
      have l1 := mcome_len n m (hf n) b old P (by omega) ho hP
      have l2 := mcome_len n (m - hf n) (n - hf n) false old P (by omega) ho hP
      obtain ⟨k, ek⟩ : ∃ k, k = hf n := ⟨_, rfl⟩
      rw [← ek] at hk1 hk0 ch hle hgt hle2 hgt2 c1 c2 b1 b2 l1 l2
      have HS := Bl.start w
      have CH := Lib.hid ch
      have m0 : (1 : Int) ≤ (m : Int) := by omega
      have m1 : (m : Int) ≤ (n : Int) := by omega
      have n0 : (n : Int) ≤ 1000000000000 := by omega
      have k0 : (1 : Int) ≤ (k : Int) := by omega
      have k1 : (k : Int) < (n : Int) := by omega
      clear ch ek ih
      by_cases hmk : m ≤ k
      · rw [hle hmk] at hcap hR ⊢
        rw [hle2 hmk]
        have hz : (m : Int) ≤ (k : Int) := by omega
        have c3 := c1 w hmk (by omega) (hR.front (by omega) (fun _ _ => rfl))
        obtain ⟨bb, off, rfl, hbl, hc⟩ := hR (mcount m k b) (by omega)
        have hc' : w.cell? ⟨bb, off + mcount m k b, none⟩ = some (.string ⟨(P.getD (mcount m k b) []).toArray⟩) := hc
        have hpl := hP (mcount m k b)
        obtain ⟨X, eX⟩ : ∃ X, X = mcount m k b := ⟨_, rfl⟩
        obtain ⟨r, er⟩ : ∃ r, r = mcome m k b old P := ⟨_, rfl⟩
        rw [← eX] at c3 b1 hc' hpl hcap ⊢
        rw [← er] at c3 l1 ⊢
        obtain ⟨ra, rb⟩ := r
        obtain ⟨p, ep⟩ : ∃ p, p = P.getD X [] := ⟨_, rfl⟩
        rw [← ep] at hc' hpl ⊢
        have c4 := fun W => rnode_any rb p W (by have := l1.2; simp only [] at this; omega) (by omega)
        simp only [] at c3 ⊢
        obtain ⟨M, eM⟩ : ∃ M, M = mnode rb p := ⟨_, rfl⟩
        rw [← eM] at c4 ⊢
        have C1 := Lib.hid (And.intro c3 c4)
        have x1 : (X : Int) ≤ 1000000000001 := by omega
        have x2 : (0 : Int) ≤ (X : Int) := by omega
        have x3 : (X : Int) + 1 ≤ (cap : Int) := by omega
        have x4 : (X : Int) ≤ (cap : Int) := by omega
        clear c1 c2 c3 c4 eX er ep eM hle hgt hle2 hgt2 b1 b2 l1 l2 hpl hR hP hc hbl hcap
        go_enter Tryd.func69, Tryd.ntmps69
        go_wp2_with (first
          | (go_at_call 58; refine (CH.out _).mono ?_; clear CH; rintro e w' ⟨rfl, rfl⟩)
          | (go_at_call 69; refine (Kp.call HS C1.out.1).mono ?_; clear HS; rintro e w1 ⟨rfl, HS1⟩)
          | (go_at_call 57; refine (Kp.call HS1 (C1.out.2 _)).mono ?_; clear HS1; rintro e w2 ⟨rfl, HS2⟩))
        go_ret2
        exact ⟨rfl, HS2.out⟩
      · rw [hgt hmk] at hcap hR ⊢
        rw [hgt2 hmk]
        have hz : ¬ (m : Int) ≤ (k : Int) := by omega
        have c3 := c2 w hmk (by omega) (hR.front (by omega) (fun _ _ => rfl))
        rw [show ((m - k : Nat) : Int) = (m : Int) - k by omega, show ((n - k : Nat) : Int) = (n : Int) - k by omega] at c3
        obtain ⟨bb, off, rfl, hbl, hc⟩ := hR (mcount (m - k) (n - k) false) (by omega)
        have hc' : w.cell? ⟨bb, off + mcount (m - k) (n - k) false, none⟩ = some (.string ⟨(P.getD (mcount (m - k) (n - k) false) []).toArray⟩) := hc
        have hpl := hP (mcount (m - k) (n - k) false)
        obtain ⟨X, eX⟩ : ∃ X, X = mcount (m - k) (n - k) false := ⟨_, rfl⟩
        obtain ⟨r, er⟩ : ∃ r, r = mcome (m - k) (n - k) false old P := ⟨_, rfl⟩
        rw [← eX] at c3 b2 hc' hpl hcap ⊢
        rw [← er] at c3 l2 ⊢
        obtain ⟨ra, rb⟩ := r
        obtain ⟨p, ep⟩ : ∃ p, p = P.getD X [] := ⟨_, rfl⟩
        rw [← ep] at hc' hpl ⊢
        have c4 := fun W => rnode_any p ra W (by omega) (by have := l2.1; simp only [] at this; omega)
        have c5 := fun W => rnode_any p rb W (by omega) (by have := l2.2; simp only [] at this; omega)
        simp only [] at c3 ⊢
        obtain ⟨M, eM⟩ : ∃ M, M = mnode p ra := ⟨_, rfl⟩
        obtain ⟨M2, eM2⟩ : ∃ M, M = mnode p rb := ⟨_, rfl⟩
        rw [← eM] at c4 ⊢
        rw [← eM2] at c5 ⊢
        have C1 := Lib.hid (And.intro c3 (And.intro c4 c5))
        have x1 : (X : Int) ≤ 1000000000001 := by omega
        have x2 : (0 : Int) ≤ (X : Int) := by omega
        have x3 : (X : Int) + 1 ≤ (cap : Int) := by omega
        have x4 : (X : Int) ≤ (cap : Int) := by omega
        have hw1 : IntKind.i64.wrap ((m : Int) - k) = (m : Int) - k := by rw [IntKind.wrap_i64]; omega
        have hw2 : IntKind.i64.wrap ((n : Int) - k) = (n : Int) - k := by rw [IntKind.wrap_i64]; omega
        clear c1 c2 c3 c4 c5 eX er ep eM eM2 hle hgt hle2 hgt2 b1 b2 l1 l2 hpl hR hP hc hbl hcap
        go_enter Tryd.func69, Tryd.ntmps69
        go_wp2_with (first
          | (go_at_call 58; refine (CH.out _).mono ?_; clear CH; rintro e w' ⟨rfl, rfl⟩)
          | (go_at_call 69; refine (Kp.call HS C1.out.1).mono ?_; clear HS; rintro e w1 ⟨rfl, HS1⟩)
          | (go_at_call 57; with_reducible refine (Kp.call HS1 (C1.out.2.1 _)).mono ?_; clear HS1; rintro e w2 ⟨rfl, HS2⟩)
          | (go_at_call 57; with_reducible refine (Kp.call HS2 (C1.out.2.2 _)).mono ?_; clear HS2; rintro e w3 ⟨rfl, HS3⟩))
        go_ret2
        exact ⟨rfl, HS3.out⟩
end Go.Proofs.YthhjmodkodkgpaaDoor
