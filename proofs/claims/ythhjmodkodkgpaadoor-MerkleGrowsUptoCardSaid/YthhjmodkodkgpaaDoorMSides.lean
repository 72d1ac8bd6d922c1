/- merkle.sides, strongboxref19.sides. -/
import Derived.Test.YthhjmodkodkgpaaDoorMNode
import Derived.Test.YthhjmodkodkgpaaDoorLst
namespace Sbx
/-- from the leaf up: does what stands beside the i-th of n stand on the right? -/
def msides (n i : Nat) : List Bool :=
  if h : n ≤ 1 then [] else if i < hf n then msides (hf n) i ++ [true] else msides (n - hf n) (i - hf n) ++ [false]
termination_by n
decreasing_by
  · exact hf_lt n (by omega)
  · have := hf_pos n; omega
theorem msides_one (n i : Nat) (h : n ≤ 1) : msides n i = [] := by rw [msides, dif_pos h]
theorem msides_lt (n i : Nat) (h : 2 ≤ n) (hi : i < hf n) : msides n i = msides (hf n) i ++ [true] := by rw [msides, dif_neg (by omega), if_pos hi]
theorem msides_ge (n i : Nat) (h : 2 ≤ n) (hi : ¬ i < hf n) : msides n i = msides (n - hf n) (i - hf n) ++ [false] := by rw [msides, dif_neg (by omega), if_neg hi]
theorem msides_le : ∀ (N n i : Nat), n ≤ N → (msides n i).length ≤ n
  | 0, n, i, h => by rw [msides_one n i (by omega)]; simp
  | N + 1, n, i, h => by
    by_cases h1 : n ≤ 1
    · rw [msides_one n i h1]; simp
    · have a := hf_lt n (by omega)
      have b := hf_pos n
      by_cases hi : i < hf n
      · rw [msides_lt n i (by omega) hi, List.length_append]
        have := msides_le N (hf n) i (by omega)
        simp; omega
      · rw [msides_ge n i (by omega) hi, List.length_append]
        have := msides_le N (n - hf n) (i - hf n) (by omega)
        simp; omega
theorem msides_length (n i : Nat) : (msides n i).length ≤ n := msides_le n n i (Nat.le_refl _)
end Sbx
namespace Go.Proofs.YthhjmodkodkgpaaDoor
open Go.RowKit Sbx Go.Sort

theorem elem_bool : Elem1 63 4 := by
  have h : (Tryd.prog.info? 4).map (fun i => (i.zero, i.size, i.bytes)) = some (some (.bool false), 1, 1) := by kernel_rfl
  obtain ⟨i, x1, x2, x3, x4⟩ := info_parts h
  exact ⟨i, _, Tryd.underlying63, x1, x2, x3, rfl, by omega⟩

abbrev encB : Bool → Value := fun b => Value.bool b
set_option maxHeartbeats 1600000 in
set_option maxRecDepth 1000000 in
theorem reverse_bool_arr (blk off cap : Nat) (d : Array Bool) (w : World) (hH : Holds encB w blk off d) (hsz : d.size ≤ 9223372036854775807) :
    Calls Tryd.prog 78 #[.slice (some ⟨blk, off, none⟩) d.size cap] w fun e w' => e = .returned (.tuple #[]) ∧ ∃ n, w' = putRow encB (Sort.ahead w n) blk off d.reverse := by
  go_enter Tryd.func78, Tryd.ntmps78
  go_wp2
  go_loopg [2, 3] d.size (fun k s2 s3 wr => ∃ (i jn : Nat) (jz : Int) (dk : Array Bool) (n : Nat), s2 = .int .i64 i ∧ s3 = .int .i64 jz ∧ ((i : Int) < jz → jz = jn ∧ jn < d.size) ∧ (¬ (i : Int) < jz → ¬ i < jn) ∧ jn - i ≤ k ∧
    dk.size = d.size ∧ wr = putRow encB (Sort.ahead w n) blk off dk ∧ reverseLoop i jn dk = reverseLoop 0 (d.size - 1) d)
  case atStart => exact ⟨0, d.size - 1, (d.size : Int) - 1, d, 0, rfl, rfl, fun h => ⟨by omega, by omega⟩, fun h => by omega, by omega, rfl, (putRow_self encB w blk off d hH).symm, rfl⟩
  case round =>
    obtain ⟨i, jn, jz, dk, n, rfl, rfl, h1, h2, hk, hds, hwr, heq⟩ := hrel
    by_cases hlt : (i : Int) < jz
    · obtain ⟨rfl, hjn⟩ := h1 hlt
      have hij : i < jn := by omega
      have hHk : Holds encB wr blk off dk := by rw [hwr]; exact holds_putRow encB _ blk off d dk (holds_ahead encB w n blk off d hH) hds
      obtain ⟨ci, fi⟩ := hHk i (by omega)
      obtain ⟨cj, fj⟩ := hHk jn (by omega)
      have A : Aside (wr = putRow encB (Sort.ahead w n) blk off dk) := hwr
      clear hwr hHk hH h1 h2
      go_wp2_with fail
      go_region
      go_wp2
      go_roundg (jn - 1 - (i + 1))
      case measure => omega
      case rel =>
        rw [reverseLoop, if_pos hij] at heq
        exact ⟨i + 1, jn - 1, (jn : Int) - 1, swp dk i jn, n + 1, by simp, rfl, fun h => ⟨by omega, by omega⟩, fun h => by omega, Nat.le_refl _, by rw [size_swp]; exact hds,
          swap_world encB (by omega) (by omega) A.out (by first | rfl | simp [encB, getElem!_pos, show jn < dk.size by omega]) (by first | rfl | simp [encB, getElem!_pos, show i < dk.size by omega]), heq⟩
    · have hnot := h2 hlt
      go_wp2
      go_end0
      refine ⟨rfl, n, ?_⟩
      rw [reverseLoop, if_neg hnot] at heq
      rw [← Lib.reverseLoop_reverse, ← heq]
theorem reverse_bool_empty (a : Option Addr) (cap : Nat) (w : World) :
    Calls Tryd.prog 78 #[.slice a 0 cap] w fun e w' => e = .returned (.tuple #[]) ∧ w' = w := by
  go_enter Tryd.func78, Tryd.ntmps78
  go_wp2
  go_loopg [2, 3] 0 (fun _ s2 s3 wr => s2 = .int .i64 0 ∧ s3 = .int .i64 (-1) ∧ wr = w)
  case atStart => exact ⟨rfl, rfl, rfl⟩
  case round =>
    obtain ⟨rfl, rfl, rfl⟩ := hrel
    go_wp2
    go_end0
    exact ⟨rfl, rfl⟩
theorem reverse_bool {w0 w : World} {v : Value} {l : List Bool} (h : Lst w0 w 4 v (bools l)) (hl : l.length ≤ 1000000000000) :
    Calls Tryd.prog 78 #[v] w fun e w' => e = .returned (.tuple #[]) ∧ Hid (Lst w0 w' 4 v (bools l.reverse)) := by
  rcases h.1.2 with ⟨rfl, h0⟩ | ⟨g, cap, cur, rfl, hg, hc, h1, h2, h3, h4⟩
  · obtain rfl : l = [] := List.eq_nil_of_length_eq_zero (by simpa [bools] using h0)
    exact (reverse_bool_empty none 0 w).mono fun _ _ ⟨he, hw⟩ => ⟨he, by subst hw; exact h⟩
  · rw [bools_length] at h1 h4 ⊢
    have h' := h
    rw [bools_length] at h'
    have c := reverse_bool_arr g 0 cap l.toArray w (holds_of_row encB hc (by rw [Nat.mul_one] at h4; exact h4)) (by simp; omega)
    simp only [List.size_toArray] at c
    refine c.mono fun _ _ ⟨he, m, hw⟩ => ⟨he, ?_⟩
    subst hw
    have h2 := Lst.put (enc := encB) (ss := l) (ts := l.reverse) (by simp) h' m
    rw [show l.toArray.reverse = l.reverse.toArray from by simp]
    exact h2

set_option maxRecDepth 100000 in
theorem sides_any (n i : Nat) (w : World) (hn : n ≤ 1000000000000) (hi : i < n) :
    Calls Tryd.prog 51 #[.int .i64 (n : Int), .int .i64 (i : Int)] w fun e w' => ∃ v, e = .returned v ∧ Hid (Lst w w' 4 v (bools (msides n i))) := by
  have hlen := msides_length n i
  obtain ⟨S, eS⟩ : ∃ S, S = msides n i := ⟨_, rfl⟩
  rw [← eS] at hlen ⊢
  have HS := Lib.hid eS
  have HL := Lib.hid hlen
  clear eS hlen
  go_enter Tryd.func51, Tryd.ntmps51
  go_wp2_with fail
  go_loopw [0, 1, 5] (fun v0 v1 v5 wr => ∃ (m j : Nat) (ds : List Bool), v0 = .int .i64 (m : Int) ∧ v1 = .int .i64 (j : Int) ∧ Hid (j < m ∧ m ≤ n ∧ S = msides m j ++ ds.reverse) ∧ Hid (Lst w wr 4 v5 (bools ds)))
    (fun v0 _ _ _ => (intOf v0).toNat)
  case atStart => exact ⟨n, i, [], rfl, rfl, ⟨hi, Nat.le_refl _, by simpa using HS.out⟩, Lst.nil _ (Below.refl _ _)⟩
  case round =>
    obtain ⟨m, j, ds, rfl, rfl, hm, HD⟩ := hrel
    obtain ⟨hjm, hmn, hS⟩ := hm.out
    by_cases h1 : m ≤ 1
    · have hc : ¬ (1 : Int) < (m : Int) := by omega
      rw [msides_one m j h1, List.nil_append] at hS
      have hlS : ds.length ≤ 1000000000000 := by have := HL.out; rw [hS, List.length_reverse] at this; omega
      have c := reverse_bool HD.out hlS
      rw [← hS] at c
      have C := Lib.hid c
      clear c hS hm HD hjm
      go_wp2_with (go_at_call 78; refine C.out.mono ?_; clear C; rintro e w' ⟨rfl, HD⟩)
      go_ret
      exact ⟨_, rfl, HD⟩
    · have hc : (1 : Int) < (m : Int) := by omega
      have hk1 := hf_lt m (by omega)
      have hk0 := hf_pos m
      have hlt := msides_lt m j (by omega)
      have hge := msides_ge m j (by omega)
      have ch := fun W => half_any m W (by omega) (by omega)
      obtain ⟨k, ek⟩ : ∃ k, k = hf m := ⟨_, rfl⟩
      rw [← ek] at hk1 hk0 ch hlt hge
      have hdl : ds.length ≤ 1000000000000 := by have := HL.out; rw [hS, List.length_append, List.length_reverse] at this; omega
      have HX := Lib.hid (And.intro hlt (And.intro hge (And.intro hS (And.intro hjm hmn))))
      have CH := Lib.hid ch
      have HDL := Lib.hid hdl
      have m1 : (m : Int) ≤ 1000000000000 := by omega
      have j0 : (0 : Int) ≤ (j : Int) := by omega
      have j1 : (j : Int) < (m : Int) := by omega
      have k0 : (0 : Int) ≤ (k : Int) := by omega
      have k1 : (k : Int) < (m : Int) := by omega
      clear hlt hge hS ch ek hdl hm hjm
      by_cases hjk : j < k
      · have hz : (j : Int) < (k : Int) := by omega
        go_wp2_with (first
          | (go_at_call 46; refine (CH.out _).mono ?_; clear CH; rintro e w' ⟨rfl, rfl⟩)
          | ((with_reducible refine gate_op (Op.call { callee := .builtin .append, args := #[.tmp 11, .tmp 15], argTypes := #[63, 63] }) rfl ?_)
             refine lst_append elem_bool rfl (.tmp 11) (.tmp 15) rfl _ (bools ds) (.bool true) rfl rfl rfl (by rw [bools_length]; exact HDL.out) HD.out ?_
             intro v' w' h1 _
             have HD' := Lib.hid h1
             clear h1))
        go_roundw
        case rel =>
          refine ⟨k, j, ds ++ [true], rfl, rfl, ⟨hjk, by have := HX.out.2.2.2.2; omega, ?_⟩, by rw [bools_app]; exact HD'⟩
          have := HX.out.2.2.1
          rw [HX.out.1 hjk] at this
          simpa using this
        case measure => simp [intOf]; omega
      · have hz : ¬ (j : Int) < (k : Int) := by omega
        go_wp2_with (first
          | (go_at_call 46; refine (CH.out _).mono ?_; clear CH; rintro e w' ⟨rfl, rfl⟩)
          | ((with_reducible refine gate_op (Op.call { callee := .builtin .append, args := #[.tmp 11, .tmp 15], argTypes := #[63, 63] }) rfl ?_)
             refine lst_append elem_bool rfl (.tmp 11) (.tmp 15) rfl _ (bools ds) (.bool false) rfl rfl rfl (by rw [bools_length]; exact HDL.out) HD.out ?_
             intro v' w' h1 _
             have HD' := Lib.hid h1
             clear h1))
        go_roundw
        case rel =>
          refine ⟨m - k, j - k, ds ++ [false], by go_num, by go_num, ⟨by have := HX.out.2.2.2.1; omega, by have := HX.out.2.2.2.2; omega, ?_⟩, by rw [bools_app]; exact HD'⟩
          have := HX.out.2.2.1
          rw [HX.out.2.1 hjk] at this
          simpa using this
        case measure => simp [intOf]; omega

set_option maxRecDepth 100000 in
theorem rsides_any : ∀ (N n i : Nat) (w : World), n ≤ N → n ≤ 1000000000000 → i < n →
    Calls Tryd.prog 54 #[.int .i64 (n : Int), .int .i64 (i : Int)] w fun e w' => ∃ v, e = .returned v ∧ Hid (Lst w w' 4 v (bools (msides n i))) := by
  intro N
  induction N with
  | zero => intro n i w h _ hi; omega
  | succ N ih =>
    intro n i w hN hn hi
    by_cases h1 : n = 1
    · subst h1
      rw [msides_one 1 i (by omega)]
      have hn0 : Hid (Lst w w 4 (.slice none 0 0) (bools [])) := Lst.nil _ (Below.refl _ _)
      go_enter Tryd.func54, Tryd.ntmps54
      go_wp2_with fail
      go_ret
      exact ⟨_, rfl, hn0⟩
    · have hk1 := hf_lt n (by omega)
      have hk0 := hf_pos n
      have ch := fun W => below_any n W (by omega) (by omega)
      have hlen := msides_length n i
      have n1 : ((n : Int) == 1) = false := beq_eq_false_iff_ne.2 (by omega)
      by_cases hjk : i < hf n
      · have hlt := msides_lt n i (by omega) hjk
        have c1 := fun W => ih (hf n) i W (by omega) (by omega) hjk
        rw [hlt] at hlen ⊢
        obtain ⟨k, ek⟩ : ∃ k, k = hf n := ⟨_, rfl⟩
        rw [← ek] at hk1 hk0 ch c1 hjk hlen ⊢
        obtain ⟨S, eS⟩ : ∃ S, S = msides k i := ⟨_, rfl⟩
        rw [← eS] at c1 hlen ⊢
        have HL := Lib.hid (show S.length ≤ 1000000000000 by simp at hlen; omega)
        have CH := Lib.hid ch
        have C1 := Lib.hid c1
        have hz : (i : Int) < (k : Int) := by omega
        clear ch c1 ek eS hlen ih hlt
        go_enter Tryd.func54, Tryd.ntmps54
        go_wp2_with (first
          | (go_at_call 58; refine (CH.out _).mono ?_; clear CH; rintro e w' ⟨rfl, rfl⟩)
          | (go_at_call 54; refine (C1.out _).mono ?_; clear C1; rintro e w1 ⟨v, rfl, HD⟩)
          | ((with_reducible refine gate_op (Op.call { callee := .builtin .append, args := #[.tmp 18, .tmp 19], argTypes := #[63, 63] }) rfl ?_)
             refine lst_append elem_bool rfl (.tmp 18) (.tmp 19) rfl _ (bools S) (.bool true) rfl rfl rfl (by rw [bools_length]; exact HL.out) HD.out ?_
             intro v' w' h1 _
             have HD' := Lib.hid h1
             clear h1))
        go_ret
        exact ⟨_, rfl, by rw [bools_app]; exact HD'⟩
      · have hlt := msides_ge n i (by omega) hjk
        have c1 := fun W => ih (n - hf n) (i - hf n) W (by omega) (by omega) (by omega)
        rw [hlt] at hlen ⊢
        obtain ⟨k, ek⟩ : ∃ k, k = hf n := ⟨_, rfl⟩
        rw [← ek] at hk1 hk0 ch c1 hjk hlen ⊢
        obtain ⟨S, eS⟩ : ∃ S, S = msides (n - k) (i - k) := ⟨_, rfl⟩
        rw [← eS] at c1 hlen ⊢
        rw [show ((n - k : Nat) : Int) = (n : Int) - k by omega, show ((i - k : Nat) : Int) = (i : Int) - k by omega] at c1
        have HL := Lib.hid (show S.length ≤ 1000000000000 by simp at hlen; omega)
        have CH := Lib.hid ch
        have C1 := Lib.hid c1
        have hz : ¬ (i : Int) < (k : Int) := by omega
        have k0 : (0 : Int) ≤ (k : Int) := by omega
        have k1 : (k : Int) < (n : Int) := by omega
        have hn0 : (n : Int) ≤ 1000000000000 := by omega
        have hi0 : (i : Int) < n := by omega
        have hw1 : IntKind.i64.wrap ((n : Int) - k) = (n : Int) - k := by rw [IntKind.wrap_i64]; omega
        have hw2 : IntKind.i64.wrap ((i : Int) - k) = (i : Int) - k := by rw [IntKind.wrap_i64]; omega
        clear ch c1 ek eS hlen ih hlt
        go_enter Tryd.func54, Tryd.ntmps54
        go_wp2_with (first
          | (go_at_call 58; refine (CH.out _).mono ?_; clear CH; rintro e w' ⟨rfl, rfl⟩)
          | (go_at_call 54; refine (C1.out _).mono ?_; clear C1; rintro e w1 ⟨v, rfl, HD⟩)
          | ((with_reducible refine gate_op (Op.call { callee := .builtin .append, args := #[.tmp 28, .tmp 29], argTypes := #[63, 63] }) rfl ?_)
             refine lst_append elem_bool rfl (.tmp 28) (.tmp 29) rfl _ (bools S) (.bool false) rfl rfl rfl (by rw [bools_length]; exact HL.out) HD.out ?_
             intro v' w' h1 _
             have HD' := Lib.hid h1
             clear h1))
        go_ret
        exact ⟨_, rfl, by rw [bools_app]; exact HD'⟩
end Go.Proofs.YthhjmodkodkgpaaDoor
