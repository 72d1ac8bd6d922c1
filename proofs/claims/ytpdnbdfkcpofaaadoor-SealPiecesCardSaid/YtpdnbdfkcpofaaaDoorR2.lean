/- strongboxref2: number, within, laid, part, Stream, Xor. -/
import Derived.Test.YtpdnbdfkcpofaaaDoorStream
namespace Go.Proofs.YtpdnbdfkcpofaaaDoor
open Go.RowKit Sbx Go.Sort

set_option maxRecDepth 100000 in
set_option maxHeartbeats 1000000 in
theorem rnumber_any (n k : Nat) (w : World) (hn : n ≤ 9223372036854775807) (hk : k ≤ 64) :
    Calls Tryd.prog 50 #[.int .i64 (n : Int), .int .i64 (k : Int)] w fun e w' => e = .returned (.string ⟨(num n k).toArray⟩) ∧ Below w.heap.size w w' := by
  have hmk := make_n k (k : Int) rfl (by omega) w
  have HN := Lib.hid hn
  have HK := Lib.hid hk
  have hk64 : (k : Int) ≤ 64 := by omega
  clear hn hk
  go_enter Tryd.func50, Tryd.ntmps50
  go_wp2_with fail
  clear hmk
  have h0 : (w.alloc (.cells (b8s (List.replicate k 0)).toArray 5)).heap[w.heap.size]? = some (.cells (b8s (numA n k 0)).toArray 5 (0, 0)) := by rw [numA_zero]; exact heap_alloc_new w _
  have hB0 : Below w.heap.size w (w.alloc (.cells (b8s (List.replicate k 0)).toArray 5)) := (Below.refl _ _).alloc (Nat.le_refl _) _
  have H0 := Lib.hid (And.intro h0 hB0)
  clear h0 hB0
  go_loopw [0, 6] (fun v0 v6 wr => ∃ j : Nat, j ≤ k ∧ v0 = .int .i64 ((n / 256 ^ j : Nat) : Int) ∧ v6 = .int .i64 ((k : Int) - 1 - j) ∧ Hid (wr.heap[w.heap.size]? = some (.cells (b8s (numA n k j)).toArray 5 (0, 0))) ∧ Hid (Below w.heap.size w wr))
    (fun _ v6 _ => (intOf v6 + 1).toNat)
  case atStart => exact ⟨0, by omega, by simp, by simp, H0.out.1, H0.out.2⟩
  case round =>
    clear H0
    obtain ⟨j, hj, hv0, hv, hC, hBr⟩ := hrel
    by_cases hlt : j < k
    · obtain ⟨q, eq⟩ : ∃ q, q = n / 256 ^ j := ⟨_, rfl⟩
      rw [← eq] at hv0
      subst hv0
      have hq : q ≤ 9223372036854775807 := by rw [eq]; exact Nat.le_trans (Nat.div_le_self _ _) HN.out
      have EQ := Lib.hid eq
      clear eq
      obtain ⟨i, ei⟩ : ∃ i, i = k - 1 - j := ⟨_, rfl⟩
      have hsz : (b8s (numA n k j)).toArray.size = k := by rw [List.size_toArray, b8s_length, numA_length _ _ _ hj]
      obtain ⟨v0, c0⟩ : ∃ v, wr.cell? ⟨w.heap.size, i, none⟩ = some v := cell_ex hC.out (by rw [hsz]; omega)
      have f0 : wr.frozen? ⟨w.heap.size, i, none⟩ = false := frozen_of_row wr _ _ _ _ hC.out
      have hi : (k : Int) - 1 - (j : Int) = (i : Int) := by omega
      rw [hi] at hv
      subst hv
      have i0 : (0 : Int) ≤ (i : Int) := by omega
      have ik : (i : Int) < (k : Int) := by omega
      have hq0 : (0 : Int) ≤ (q : Int) := by omega
      have hq1 : (q : Int) ≤ 9223372036854775807 := by omega
      have EI := Lib.hid ei
      have HI := Lib.hid hi
      have HLT := Lib.hid hlt
      clear hsz ei hq hlt hi
      go_wp2_with fail
      go_roundw
      case rel =>
        refine ⟨j + 1, by have := HLT.out; omega, ?_, by have := HI.out; go_num, ?_, hBr.out.setCell (p := ⟨w.heap.size, i, none⟩) (Nat.le_refl _) _⟩
        · rw [num_div, ← EQ.out]; simp
        · have e1 := heap_setCell_same wr w.heap.size i _ _ (.int .u8 (q.toUInt8.toNat : Int)) hC.out
          rw [b8s_arr_set, EI.out, EQ.out, numA_set _ _ _ HLT.out] at e1
          rw [num_byte, EQ.out, EI.out]
          exact e1
      case measure => simp [intOf] <;> omega
    · obtain rfl : j = k := by omega
      replace hv := hv.trans (show Value.int .i64 ((j : Int) - 1 - j) = Value.int .i64 (-1) from by congr 1; omega)
      subst hv
      have hC' := hC.out
      rw [numA_all] at hC'
      have hcv := run_convert_b8 (P := Tryd.prog) (src := 44) (dst := 9) (e := 5) Tryd.underlying44 Tryd.underlying5 Tryd.underlying9 ⟨w.heap.size, 0, none⟩ (num n j) j wr (fun i hi => by
        rw [addr_add, Nat.zero_add, cell_of_row wr _ _ _ _ _ hC', b8s_arr_get _ _ hi])
      rw [num_length] at hcv
      clear hC'
      go_wp2_with fail
      go_ret
      exact ⟨rfl, hBr.out⟩

/-- within's answer, without the key -/
def inS (f n : Int) : Bool := decide (0 ≤ f ∧ 0 ≤ n ∧ f ≤ 65536 ∧ n ≤ 65536 - f)
theorem rwithin_any (f n : Int) (w : World) :
    Calls Tryd.prog 34 #[.int .i64 f, .int .i64 n] w fun e w' => e = .returned (.bool (inS f n)) ∧ w = w' := by
  have out : ∀ r, inS f n = r → Calls Tryd.prog 34 #[.int .i64 f, .int .i64 n] w (fun e w' => e = .returned (.bool r) ∧ w = w') → Calls Tryd.prog 34 #[.int .i64 f, .int .i64 n] w (fun e w' => e = .returned (.bool (inS f n)) ∧ w = w') := fun r hr h => by rw [hr]; exact h
  by_cases h1 : f < 0
  · refine out false (by unfold inS; rw [decide_eq_false_iff_not]; omega) ?_
    clear out
    go_enter Tryd.func34, Tryd.ntmps34
    go_wp2_with fail
    go_ret
    exact ⟨rfl, rfl⟩
  by_cases h2 : n < 0
  · refine out false (by unfold inS; rw [decide_eq_false_iff_not]; omega) ?_
    clear out
    have h1' : 0 ≤ f := by omega
    go_enter Tryd.func34, Tryd.ntmps34
    go_wp2_with fail
    go_ret
    exact ⟨rfl, rfl⟩
  by_cases h3 : 65536 < f
  · refine out false (by unfold inS; rw [decide_eq_false_iff_not]; omega) ?_
    clear out
    have h1' : 0 ≤ f := by omega
    have h2' : 0 ≤ n := by omega
    go_enter Tryd.func34, Tryd.ntmps34
    go_wp2_with fail
    go_ret
    exact ⟨rfl, rfl⟩
  by_cases h4 : 65536 - f < n
  · refine out false (by unfold inS; rw [decide_eq_false_iff_not]; omega) ?_
    clear out
    have h1' : 0 ≤ f := by omega
    have h2' : 0 ≤ n := by omega
    have h3' : f ≤ 65536 := by omega
    have h4' : ¬ n ≤ 65536 - f := by omega
    go_enter Tryd.func34, Tryd.ntmps34
    go_wp2_with fail
    go_ret
    exact ⟨rfl, rfl⟩
  · refine out true (by unfold inS; rw [decide_eq_true_iff]; omega) ?_
    clear out
    have h1' : 0 ≤ f := by omega
    have h2' : 0 ≤ n := by omega
    have h3' : f ≤ 65536 := by omega
    have h4' : n ≤ 65536 - f := by omega
    go_enter Tryd.func34, Tryd.ntmps34
    go_wp2_with fail
    go_ret
    exact ⟨rfl, rfl⟩

/-- the bytes laid so far -/
def xorTo (s t : List UInt8) (k : Nat) : List UInt8 := (xorS s t).take k ++ List.replicate (s.length - k) 0
theorem xorTo_length (s t : List UInt8) (k : Nat) (h : k ≤ s.length) : (xorTo s t k).length = s.length := by simp [xorTo, xorS_length]; omega
theorem xorTo_zero (s t : List UInt8) : xorTo s t 0 = List.replicate s.length 0 := by simp [xorTo]
theorem xorTo_all (s t : List UInt8) : xorTo s t s.length = xorS s t := by
  unfold xorTo
  rw [List.take_of_length_le (by rw [xorS_length]; exact Nat.le_refl _)]; simp
theorem xorTo_set (s t : List UInt8) (k : Nat) (h : k < s.length) : (xorTo s t k).set k (s.getD k 0 ^^^ t.getD k 0) = xorTo s t (k + 1) := by
  have hl : k < (xorS s t).length := by rw [xorS_length]; exact h
  unfold xorTo
  rw [show s.length - k = (s.length - (k + 1)) + 1 from by omega, List.replicate_succ, List.set_append_right _ _ (by rw [List.length_take]; omega), List.length_take, show k - min k (xorS s t).length = 0 from by omega, List.set_cons_zero,
    List.take_succ_eq_append_getElem hl, List.append_assoc]
  congr 2
  rw [← xorS_getD s t k h, List.getD_eq_getElem?_getD, List.getElem?_eq_getElem hl]
  rfl

set_option maxRecDepth 100000 in
theorem rlaid_any (s t : List UInt8) (w : World) (hs : s.length ≤ 140737488354000) (hl : t.length = s.length) :
    Calls Tryd.prog 36 #[.string ⟨s.toArray⟩, .string ⟨t.toArray⟩] w fun e w' => e = .returned (.string ⟨(xorS s t).toArray⟩) ∧ Below w.heap.size w w' := by
  have hmk := make_n s.length (s.length : Int) rfl (by omega) w
  have HL := Lib.hid (And.intro hs hl)
  have hle : (s.length : Int) ≤ 140737488354000 := by omega
  have htl : (t.length : Int) = (s.length : Int) := by omega
  clear hs hl
  go_enter Tryd.func36, Tryd.ntmps36
  go_wp2_with fail
  clear hmk
  have h0 : (w.alloc (.cells (b8s (List.replicate s.length 0)).toArray 5)).heap[w.heap.size]? = some (.cells (b8s (xorTo s t 0)).toArray 5 (0, 0)) := by rw [xorTo_zero]; exact heap_alloc_new w _
  have hB0 : Below w.heap.size w (w.alloc (.cells (b8s (List.replicate s.length 0)).toArray 5)) := (Below.refl _ _).alloc (Nat.le_refl _) _
  have H0 := Lib.hid (And.intro h0 hB0)
  clear h0 hB0
  go_loopw [6] (fun v6 wr => ∃ k : Nat, k ≤ s.length ∧ v6 = .int .i64 k ∧ Hid (wr.heap[w.heap.size]? = some (.cells (b8s (xorTo s t k)).toArray 5 (0, 0))) ∧ Hid (Below w.heap.size w wr))
    (fun v6 _ => s.length - (intOf v6).toNat)
  case atStart => exact ⟨0, by omega, rfl, H0.out.1, H0.out.2⟩
  case round =>
    clear H0
    obtain ⟨k, hk, hv, hC, hBr⟩ := hrel
    subst hv
    by_cases hlt : k < s.length
    · have hsz : (b8s (xorTo s t k)).toArray.size = s.length := by rw [List.size_toArray, b8s_length, xorTo_length _ _ _ hk]
      obtain ⟨v0, c0⟩ : ∃ v, wr.drew.cell? ⟨w.heap.size, k, none⟩ = some v := cell_ex (w := wr) hC.out (by rw [hsz]; omega)
      have f0 : wr.drew.frozen? ⟨w.heap.size, k, none⟩ = false := frozen_of_row wr _ _ _ _ hC.out
      obtain ⟨S, eS, hS⟩ := str_byte s k hlt
      obtain ⟨T, eT, hT⟩ := str_byte t k (by have := HL.out.2; omega)
      have k0 : (0 : Int) ≤ (k : Int) := by omega
      have k1 : (k : Int) < (s.length : Int) := by omega
      have k2 : (k : Int) < (t.length : Int) := by omega
      have HE := Lib.hid (And.intro eS eT)
      clear hsz eS eT htl
      go_wp2_with fail
      go_still_tail 10, (by kernel_rfl)
      change wpList _ _ _ _ _ wr.drew
      go_wp2
      go_roundw
      case rel =>
        refine ⟨k + 1, by omega, by go_num, ?_, (hBr.out.drew).setCell (p := ⟨w.heap.size, k, none⟩) (Nat.le_refl _) _⟩
        have e1 := heap_setCell_same wr.drew w.heap.size k _ _ (.int .u8 ((S ^^^ T).toNat : Int)) hC.out
        rw [b8s_arr_set, HE.out.1, HE.out.2, xorTo_set _ _ _ hlt] at e1
        rw [u8_xor8, HE.out.1, HE.out.2]
        exact e1
      case measure => simp [intOf]; omega
    · obtain rfl : k = s.length := by omega
      have hC' := hC.out
      rw [xorTo_all] at hC'
      have hcv := run_convert_b8 (P := Tryd.prog) (src := 44) (dst := 9) (e := 5) Tryd.underlying44 Tryd.underlying5 Tryd.underlying9 ⟨w.heap.size, 0, none⟩ (xorS s t) s.length wr (fun i hi => by
        rw [addr_add, Nat.zero_add, cell_of_row wr _ _ _ _ _ hC', b8s_arr_get _ _ hi])
      rw [xorS_length] at hcv
      clear hC'
      go_wp2_with fail
      go_ret
      exact ⟨rfl, hBr.out⟩

theorem rnumber8 (j : Nat) (w : World) (hj : j ≤ 9223372036854775807) :
    Calls Tryd.prog 50 #[.int .i64 (j : Int), .int .i64 8] w fun e w' => e = .returned (.string ⟨(num j 8).toArray⟩) ∧ Below w.heap.size w w' := rnumber_any j 8 w hj (by omega)
theorem rsum_piece (key : List UInt8) (j : Nat) (w : World) (hk : key.length ≤ 140737488353000) :
    Calls Tryd.prog 39 #[.string (⟨key.toArray⟩ ++ ⟨(num j 8).toArray⟩)] w fun e w' => e = .returned (.string ⟨(piece key j).toArray⟩) ∧ Below w.heap.size w w' := by
  have h := rsum_any (key ++ num j 8) w (by rw [List.length_append, num_length]; omega)
  rw [← str_app] at h
  exact h
theorem owns_none {W W' : World} {base size k : Nat} {e : TypeId} {v : Value} {xs : List Value} (h : W.ownsRow base e size v k xs) (hb : Below W.heap.size W W') : W'.ownsRow base e size v k xs := by
  refine h.kept (grown_none hb) ?_
  rcases h.2 with ⟨rfl, _⟩ | ⟨g, cap, cur, rfl, _⟩
  · exact .inl rfl
  · exact .inr (by simp [Value.ownBlock])
theorem stream_succ (key : List UInt8) (i k : Nat) : stream key i (k + 1) = stream key i k ++ [byteAt key (i + k)] := by
  unfold stream
  rw [List.range_succ, List.map_append]
  rfl

set_option maxRecDepth 100000 in
set_option maxHeartbeats 1000000 in
theorem rpart_any (key : List UInt8) (f n : Nat) (w : World) (hk : key.length ≤ 140737488353000) (hf : f ≤ 65536) (hn : n ≤ 65536) :
    Calls Tryd.prog 35 #[.string ⟨key.toArray⟩, .int .i64 (f : Int), .int .i64 (n : Int)] w fun e w' => e = .returned (.string ⟨(stream key f n).toArray⟩) ∧ Below w.heap.size w w' := by
  obtain ⟨i0, hi0, hz0, hz1, hz2⟩ := info_parts info_u8
  have HI := Lib.hid (And.intro hi0 (And.intro hz0 (And.intro hz1 hz2)))
  have HK := Lib.hid hk
  have hfz : (f : Int) ≤ 65536 := by omega
  have hnz : (n : Int) ≤ 65536 := by omega
  clear hi0 hz0 hz1 hz2 hk hf hn
  go_enter Tryd.func35, Tryd.ntmps35
  go_wp2_with fail
  go_loopw [7, 8, 9, 10] (fun v7 v8 v9 v10 wr => ∃ (i k : Nat) (at_ : Int) (P : List UInt8), Hid (i = f + k) ∧ k ≤ n ∧ v10 = .int .i64 (i : Int) ∧ v9 = .int .i64 at_ ∧ v8 = .string ⟨P.toArray⟩ ∧ Hid (∀ q : Nat, at_ = (q : Int) → P = piece key q) ∧
      Hid (wr.ownsRow w.heap.size 5 1 v7 k (b8v (stream key f k))) ∧ Hid (Below w.heap.size w wr))
    (fun _ _ _ v10 _ => f + n - (intOf v10).toNat)
  case atStart => exact ⟨f, 0, -1, [], rfl, by omega, rfl, rfl, rfl, fun q h => by omega, World.ownsRow_nil _ _ _ _, Below.refl _ _⟩
  case round =>
    obtain ⟨i, k, at_, P, hik, hkn, rfl, rfl, rfl, hP, hR, hBr⟩ := hrel
    by_cases hlt : k < n
    · have hc : (i : Int) < (f : Int) + (n : Int) := by have := hik.out; omega
      have i0' : (0 : Int) ≤ (i : Int) := by omega
      have i1' : (i : Int) ≤ 200000 := by omega
      -- the piece in hand, and its byte
      have lp : (piece key (i / 32)).length = 32 := piece_length _ _
      obtain ⟨S, eS, hS⟩ := str_byte (piece key (i / 32)) (i % 32) (by rw [lp]; omega)
      have lpz : ((piece key (i / 32)).length : Int) = 32 := by omega
      have hmod : (i : Int) % 32 < 32 := by omega
      have hmod0 : (0 : Int) ≤ (i : Int) % 32 := by omega
      have HE := Lib.hid (show byteAt key (f + k) = S by rw [eS, ← hik.out]; rfl)
      clear eS lp
      by_cases he : at_ = ((i / 32 : Nat) : Int)
      all_goals first
        | (have eP := hP.out _ he
           subst eP
           subst he
           obtain ⟨wz, rfl⟩ : ∃ wz, wz = wr := ⟨_, rfl⟩
           have hRz := hR
           have hBz := hBr
           clear hR hBr hP)
        | (have hne : (((i : Int) / 32) != at_) = true := by rw [bne_iff_ne]; omega
           have hq : ((i : Int) / 32) = ((i / 32 : Nat) : Int) := by omega
           have c1 := rnumber8 (i / 32) wr (by omega)
           rw [← hq] at c1
           have C1 := Lib.hid c1
           have le : ¬ 9223372036854775807 < key.length + (num (i / 32) 8).length := by have := HK.out; rw [num_length]; omega
           clear c1 hq he hP
           go_wp2_with fail
           refine C1.out.mono ?_
           clear C1
           rintro e w1 ⟨rfl, hB1⟩
           have HB1 := Lib.hid hB1
           clear hB1
           go_wp2_with fail
           refine (rsum_piece key (i / 32) w1 HK.out).mono ?_
           rintro e wz ⟨rfl, hB2⟩
           have hB := HB1.out.trans (hB2.mono HB1.out.size)
           have hRz := Lib.hid (owns_none hR.out hB)
           have hBz := Lib.hid (hBr.out.trans (hB.mono hBr.out.size))
           clear hR hBr HB1 hB2 hB hne le)
      all_goals
        have hbz : w.heap.size ≤ wz.heap.size := hBz.out.size
        go_wp2_with ((with_reducible refine gate_op (Op.call { callee := .builtin .append, args := #[.tmp 30, .tmp 35], argTypes := #[44, 44] }) rfl ?_); refine wpList_append_own _ rfl (.tmp 30) (.tmp 35) 44 rfl w.heap.size 5 i0 (.int .u8 0) 1 1 Tryd.underlying44 HI.out.1 HI.out.2.1 HI.out.2.2.1 HI.out.2.2.2 rfl (by decide) _ k _ rfl (hRz.out.alloc _) ⟨wz.heap.size, 0, none⟩ 1 1 (b8v [S]) rfl rfl (cells_new (show #[Value.int .u8 (S.toNat : Int)] = (b8v [S]).toArray from rfl)) (b8v_one _) (by unfold maxLen; omega) (by omega) (by simp; omega) ?_; intro v' w6 hown6 hg6 _)
        have hR6 : Hid (w6.ownsRow w.heap.size 5 1 v' (k + 1) (b8v (stream key f (k + 1)))) := by
          rw [stream_succ, HE.out]
          have h1 := hown6
          unfold b8v at h1 ⊢
          rw [List.map_append]
          exact h1
        have hB6 : Hid (Below w.heap.size w w6) := (hBz.out.alloc hbz _).grown hg6 (by simp; omega) (fun j hj => (hRz.out.lt j hj).1)
        clear hown6 hg6
        go_roundw
        case rel =>
          refine ⟨i + 1, k + 1, ((i / 32 : Nat) : Int), piece key (i / 32), by have := hik.out; show i + 1 = _; omega, by omega, by go_num, by first | rfl | simp, rfl, fun q h => ?_, hR6, hB6⟩
          obtain rfl : i / 32 = q := by omega
          rfl
        case measure => simp [intOf]; have := hik.out; omega
    · obtain rfl : k = n := by omega
      have hcv := run_convert_own (P := Tryd.prog) (src := 44) (dst := 9) (e := 5) Tryd.underlying44 Tryd.underlying5 Tryd.underlying9 w.heap.size _ (stream key f k) wr (by rw [stream_length]; exact hR.out)
      have hc : ¬ (i : Int) < (f : Int) + (k : Int) := by have := hik.out; omega
      go_wp2_with fail
      go_ret
      exact ⟨rfl, hBr.out⟩
end Go.Proofs.YtpdnbdfkcpofaaaDoor
