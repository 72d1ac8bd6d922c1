/- hash.Mac. -/
import Derived.Test.YtpdnbdfkcpofaaaDoorWSumM
import Derived.Test.YtpdnbdfkcpofaaaDoorHMac
import Derived.Lib.QuietBelow
namespace Go.Proofs.YtpdnbdfkcpofaaaDoor
open Go.RowKit Sbx Go.Sort

theorem b8s_arr_get (l : List UInt8) (i : Nat) (h : i < l.length) : (b8s l).toArray[i]? = some (.int .u8 ((l.getD i 0).toNat : Int)) := by
  rw [List.getElem?_toArray]; exact b8s_get l i h
theorem b8s_arr_set (l : List UInt8) (i : Nat) (b : UInt8) : (b8s l).toArray.setIfInBounds i (.int .u8 (b.toNat : Int)) = (b8s (l.set i b)).toArray := by
  simp [b8s, List.map_set]
theorem u8_xor8 (a b : UInt8) : bits .xor .u8 (a.toNat : Int) (b.toNat : Int) = ((a ^^^ b).toNat : Int) := by
  rw [u8_xor_nat _ _ a.toNat_lt b.toNat_lt, UInt8.toNat_xor]
set_option maxRecDepth 100000 in
theorem zero64 : #[Value.int .u8 0, .int .u8 0, .int .u8 0, .int .u8 0, .int .u8 0, .int .u8 0, .int .u8 0, .int .u8 0,
  .int .u8 0, .int .u8 0, .int .u8 0, .int .u8 0, .int .u8 0, .int .u8 0, .int .u8 0, .int .u8 0,
  .int .u8 0, .int .u8 0, .int .u8 0, .int .u8 0, .int .u8 0, .int .u8 0, .int .u8 0, .int .u8 0,
  .int .u8 0, .int .u8 0, .int .u8 0, .int .u8 0, .int .u8 0, .int .u8 0, .int .u8 0, .int .u8 0,
  .int .u8 0, .int .u8 0, .int .u8 0, .int .u8 0, .int .u8 0, .int .u8 0, .int .u8 0, .int .u8 0,
  .int .u8 0, .int .u8 0, .int .u8 0, .int .u8 0, .int .u8 0, .int .u8 0, .int .u8 0, .int .u8 0,
  .int .u8 0, .int .u8 0, .int .u8 0, .int .u8 0, .int .u8 0, .int .u8 0, .int .u8 0, .int .u8 0,
  .int .u8 0, .int .u8 0, .int .u8 0, .int .u8 0, .int .u8 0, .int .u8 0, .int .u8 0, .int .u8 0] = (b8s (List.replicate 64 0)).toArray := rfl

/-- 'copy(in[:], s)' into an array of the call's own -/
theorem wpList_copy_arr {P : Program} {w : World} {ops : Array Oper} {rest : List Oper} {o : Oper} {a : Act} {Q : Exit → Act → World → Prop} (hgd : o.guard = none) (d s : Operand) (t t' e T : TypeId)
    (ho : o.op = .call { callee := .builtin .copy, args := #[d, s], argTypes := #[t, t'] }) (hu : P.underlying t = some (.slice e)) (hsz : (P.info? e).map (·.size) = some 1)
    (g len dCap n : Nat) (z b : List UInt8) (hd : a.eval d = .slice (some ⟨g, 0, none⟩) len dCap) (hs : a.eval s = .string ⟨b.toArray⟩) (hn : Nat.min b.length len = n) (hz : z.length = len)
    (hg : w.heap[g]? = some (.cells (b8s z).toArray T (0, 0)))
    (h : ∀ W1, W1.heap[g]? = some (.cells (b8s (b.take n ++ z.drop n)).toArray T (0, 0)) → w.grownBy W1 (some g) → W1.heap.size = w.heap.size → wpList P ops Q rest (a.put o.dst (.int .i64 n)) W1) : wpList P ops Q (o :: rest) a w := by
  have hn2 : n ≤ len := by rw [← hn]; exact Nat.min_le_right _ _
  have hrun := run_copy_str (P := P) w t t' o.type e g 0 len dCap n b _ T hu hsz hg hn (by simp [b8s, hz]; omega)
  refine Lib.wpList_copy_run w hgd d s t t' ho _ _ hd hs hrun ?_
  have hcc : ((b8s z).toArray.toList.take 0 ++ b8s (b.take n) ++ (b8s z).toArray.toList.drop (0 + n)).toArray = (b8s (b.take n ++ z.drop n)).toArray := by
    simp [b8s, List.map_drop]
  rw [hcc]
  exact h _ (setRow_heap w g _ _ T _ hg) (only_setRow _) (by simp [World.setRow])
theorem take_pad (k : List UInt8) (h : k.length ≤ 64) (n : Nat) (hn : Nat.min k.length 64 = n) : k.take n ++ (List.replicate 64 (0 : UInt8)).drop n = hpad k := by
  have hn' : n = k.length := by rw [← hn]; exact Nat.min_eq_left h
  rw [hn', List.take_of_length_le (Nat.le_refl _), List.drop_replicate]
  rfl
theorem size64b : (Tryd.prog.info? 52).map (·.size) = some 64 := by kernel_rfl
theorem b8s_arr_one (l : List UInt8) : (b8s l).toArray.all (·.oneCell') = true := by simp [b8s, Value.oneCell']
theorem str_app (a b : List UInt8) : (⟨a.toArray⟩ : ByteArray) ++ ⟨b.toArray⟩ = ⟨(a ++ b).toArray⟩ := by
  apply ByteArray.ext
  simp

theorem two_new (w : World) (cs : Array Value) (T : TypeId) : ((w.alloc (.cells cs T)).alloc (.cells cs T)).heap[w.heap.size]? = some (.cells cs T (0, 0)) ∧ ((w.alloc (.cells cs T)).alloc (.cells cs T)).heap[w.heap.size + 1]? = some (.cells cs T (0, 0)) ∧ ((w.alloc (.cells cs T)).alloc (.cells cs T)).heap.size = w.heap.size + 2 ∧
    Below w.heap.size w ((w.alloc (.cells cs T)).alloc (.cells cs T)) := by
  have h1 := heap_alloc_new (w.alloc (.cells cs T)) (.cells cs T)
  have e : (w.alloc (.cells cs T)).heap.size = w.heap.size + 1 := by simp
  rw [e] at h1
  exact ⟨(Below.heap_alloc _ _ _ (by simp)).trans (heap_alloc_new w _), h1, by simp, ((Below.refl _ _).alloc (Nat.le_refl _) _).alloc (by simp) _⟩
theorem str_app_list (a b : List UInt8) : (⟨a.toArray ++ b.toArray⟩ : ByteArray) = ⟨(a ++ b).toArray⟩ := by simp

set_option maxRecDepth 100000 in
set_option maxHeartbeats 2000000 in
theorem mac_from (k t : List UInt8) (wb w : World) (hb : Below wb.heap.size wb w) (hG : Glob w) (hk : k.length ≤ 1152921504606846976) (ht : t.length ≤ 576460752303423488) :
    Calls Tryd.prog 30 #[.string ⟨k.toArray⟩, .string ⟨t.toArray⟩] w fun e w' => e = .returned (.string ⟨(hmac k t).toArray⟩) ∧ Below wb.heap.size wb w' := by
  have hs := sum_any k w hG hk
  obtain ⟨u, eu⟩ : ∃ u, u = hkey k := ⟨_, rfl⟩
  have hu : u.length ≤ 64 := by rw [eu]; exact hkey_le k
  have hm : hmac k t = sha (xorAll 92 (hpad u) ++ sha (xorAll 54 (hpad u) ++ t)) := by rw [eu]; rfl
  have HG := Lib.hid hG
  have HB := Lib.hid hb
  have HT := Lib.hid ht
  have HU := Lib.hid hu
  have HM := Lib.hid hm
  clear hG hb ht hu hm
  have start : ∀ R : Prop, True := fun _ => trivial
  by_cases hl : 64 < k.length
  all_goals first
    | (have hc : (64 : Int) < (k.length : Int) := by omega
       rw [show sha k = u from by rw [eu]; unfold hkey; rw [if_pos hl]] at hs
       have HS := Lib.hid hs
       clear eu hs hk hl start
       go_enter Tryd.func30, Tryd.ntmps30
       go_wp2_with fail
       refine HS.out.mono ?_
       have HG' := HG
       have HB' := HB
       clear HG HB HS hc
       rintro e w1 ⟨rfl, hB0⟩
       have HG := Lib.hid (HG'.out.below hB0)
       have HB := Lib.hid (HB'.out.trans (hB0.mono HB'.out.size))
       clear HG' HB' hB0
       clear w)
    | (have e : u = k := by rw [eu]; unfold hkey; rw [if_neg hl]
       clear hs eu start
       subst e
       have hc : ¬ (64 : Int) < (u.length : Int) := by omega
       clear hl
       obtain ⟨w1, rfl⟩ : ∃ w1, w1 = w := ⟨w, rfl⟩
       clear hk
       go_enter Tryd.func30, Tryd.ntmps30)
  all_goals
    go_wp2_with (first
      | ((with_reducible refine gate_op (Op.call { callee := .builtin .copy, args := #[.tmp 13, .tmp 14], argTypes := #[44, 9] }) rfl ?_)
         refine wpList_copy_arr rfl (.tmp 13) (.tmp 14) 44 9 5 52 rfl Tryd.underlying44 eight_info w1.heap.size 64 64 _ (List.replicate 64 0) u rfl rfl rfl rfl (by rw [← zero64]; exact (two_new _ _ _).1) ?_
         intro W1 hW1 hO1 hS1
         rw [take_pad u HU.out _ rfl] at hW1
         have hOut : W1.heap[w1.heap.size + 1]? = some (.cells (b8s (List.replicate 64 0)).toArray 52 (0, 0)) := (hO1.block _ (by rw [(two_new _ _ _).2.2.1]; omega) (by simp)).trans (by rw [← zero64]; exact (two_new _ _ _).2.1)
         have hBe : Below w1.heap.size w1 W1 := (two_new w1 _ _).2.2.2.trans (below_of_only hO1 (by rw [(two_new _ _ _).2.2.1]; omega) (Nat.le_refl _))
         have HW := Lib.hid (And.intro hW1 (And.intro hOut hBe))
         clear hW1 hOut hBe hO1 hS1)
      | ((with_reducible refine gate_op (Op.load 52 (Operand.tmp 5)) rfl ?_); refine wpList_load_row rfl 52 _ rfl w1.heap.size rfl 52 (b8s (hpad u)).toArray (0, 0) _ HW.out.1 Tryd.underlying52 rfl (size64b.trans (by rw [List.size_toArray, b8s_length, hpad_length _ HU.out])) ?_)
      | ((with_reducible refine gate_op (Op.store 52 (Operand.tmp 6) (Operand.tmp 16)) rfl ?_); refine wpList_store_row rfl 52 (.tmp 6) (.tmp 16) rfl (w1.heap.size + 1) (b8s (hpad u)).toArray rfl rfl 52 _ HW.out.2.1 (size64b.trans (by rw [List.size_toArray, b8s_length, hpad_length _ HU.out])) (by rw [List.size_toArray, List.size_toArray, b8s_length, b8s_length, hpad_length _ HU.out]; rfl) (b8s_arr_one _) ?_))
    have hB2 : Below w1.heap.size w1 (W1.setRow (w1.heap.size + 1) (b8s (hpad u)).toArray) := HW.out.2.2.trans (below_of_only (only_setRow _) HW.out.2.2.size (by omega))
    have h20 : (W1.setRow (w1.heap.size + 1) (b8s (hpad u)).toArray).heap[w1.heap.size]? = some (.cells (b8s (hpad u)).toArray 52 (0, 0)) := (setRow_other _ _ _ _ (by omega)).trans HW.out.1
    have h21 : (W1.setRow (w1.heap.size + 1) (b8s (hpad u)).toArray).heap[w1.heap.size + 1]? = some (.cells (b8s (hpad u)).toArray 52 (0, 0)) := setRow_heap W1 _ _ _ _ _ HW.out.2.1
    generalize W1.setRow (w1.heap.size + 1) (b8s (hpad u)).toArray = W2 at *
    have H2 := Lib.hid (And.intro h20 (And.intro h21 hB2))
    clear h20 h21 hB2 HW
    obtain ⟨p, ep⟩ : ∃ p, p = hpad u := ⟨_, rfl⟩
    have hp64 : p.length = 64 := by rw [ep]; exact hpad_length _ HU.out
    rw [← ep] at H2 HM ⊢
    have HP := Lib.hid hp64
    clear ep HU hp64
    go_loopw [7, 17] (fun v7 v17 wr => ∃ k : Nat, k ≤ 64 ∧ v17 = .int .i64 k ∧ Hid (wr.heap[w1.heap.size]? = some (.cells (b8s (xorTo 54 k p)).toArray 52 (0, 0))) ∧ Hid (wr.heap[w1.heap.size + 1]? = some (.cells (b8s (xorTo 92 k p)).toArray 52 (0, 0))) ∧ Hid (Below w1.heap.size w1 wr))
      (fun _ v17 _ => 64 - (intOf v17).toNat)
    case atStart => exact ⟨0, by omega, rfl, by rw [xorTo_zero]; exact H2.out.1, by rw [xorTo_zero]; exact H2.out.2.1, H2.out.2.2⟩
    case round =>
      clear H2
      obtain ⟨k, hk, hv, hC1, hC2, hBr⟩ := hrel
      by_cases hlt : k < 64
      · subst hv
        obtain ⟨b, eb⟩ : ∃ b, b = p.getD k 0 := ⟨_, rfl⟩
        have c1 : wr.cell? ⟨w1.heap.size, k, none⟩ = some (.int .u8 (b.toNat : Int)) := by
          rw [cell_of_row wr _ _ _ _ _ hC1.out, b8s_arr_get _ _ (by rw [xorTo_length, HP.out]; exact hlt), xorTo_getD, eb]
        have c2 : wr.cell? ⟨w1.heap.size + 1, k, none⟩ = some (.int .u8 (b.toNat : Int)) := by
          rw [cell_of_row wr _ _ _ _ _ hC2.out, b8s_arr_get _ _ (by rw [xorTo_length, HP.out]; exact hlt), xorTo_getD, eb]
        have f1 : wr.frozen? ⟨w1.heap.size, k, none⟩ = false := frozen_of_row wr _ _ _ _ hC1.out
        have f2 : wr.frozen? ⟨w1.heap.size + 1, k, none⟩ = false := frozen_of_row wr _ _ _ _ hC2.out
        have x1 : bits .xor .u8 (b.toNat : Int) 54 = ((b ^^^ 54).toNat : Int) := u8_xor8 b 54
        have x2 : bits .xor .u8 (b.toNat : Int) 92 = ((b ^^^ 92).toNat : Int) := u8_xor8 b 92
        have k0 : (0 : Int) ≤ (k : Int) := by omega
        have k64 : (k : Int) < 64 := by omega
        have EB := Lib.hid eb
        clear eb
        go_wp2_with fail
        go_roundw
        case rel =>
          have e1 := heap_setCell_same wr w1.heap.size k _ _ (.int .u8 ((b ^^^ 54).toNat : Int)) hC1.out
          have e2 := heap_setCell_same (wr.setCell ⟨w1.heap.size, k, none⟩ (.int .u8 ((b ^^^ 54).toNat : Int))) (w1.heap.size + 1) k _ _ (.int .u8 ((b ^^^ 92).toNat : Int)) ((Below.heap_setCell wr ⟨w1.heap.size, k, none⟩ _ (w1.heap.size + 1) (by simp)).trans hC2.out)
          rw [b8s_arr_set, EB.out, xorTo_set _ _ _ (by rw [HP.out]; exact hlt)] at e1 e2
          refine ⟨k + 1, by omega, by go_num, ?_, ?_, (hBr.out.setCell (p := ⟨w1.heap.size, k, none⟩) (Nat.le_refl _) _).setCell (p := ⟨w1.heap.size + 1, k, none⟩) (by simp) _⟩
          · refine Eq.trans ?_ e1
            rw [EB.out]
            exact Below.heap_setCell _ ⟨w1.heap.size + 1, k, none⟩ _ w1.heap.size (by simp)
          · rw [EB.out]; exact e2
        case measure => simp [intOf]; omega
      · obtain rfl : k = 64 := by omega
        replace hv := hv.trans (show _ = Value.int .i64 64 from rfl)
        subst hv
        have hC1' := hC1.out
        have hC2' := hC2.out
        rw [xorTo_all _ _ _ (by rw [HP.out]; exact Nat.le_refl _)] at hC1' hC2'
        obtain ⟨A, eA⟩ : ∃ A, A = xorAll 92 p := ⟨_, rfl⟩
        obtain ⟨B, eB⟩ : ∃ A, A = xorAll 54 p := ⟨_, rfl⟩
        have lA : A.length = 64 := by rw [eA, xorAll_length, HP.out]
        have lB : B.length = 64 := by rw [eB, xorAll_length, HP.out]
        have hM := HM.out
        rw [← eA, ← eB] at hM
        rw [← eB] at hC1'
        rw [← eA] at hC2'
        obtain ⟨s1, e1⟩ : ∃ z, z = sha (B ++ t) := ⟨_, rfl⟩
        obtain ⟨s2, e2⟩ : ∃ z, z = sha (A ++ s1) := ⟨_, rfl⟩
        have l1 : s1.length = 32 := by rw [e1]; exact sha_length _
        have hG2 := HG.out.below hBr.out
        have cvA := fun (d : Nat) (os : Array Obj) => run_convert_b8 (P := Tryd.prog) (src := 44) (dst := 9) (e := 5) Tryd.underlying44 Tryd.underlying5 Tryd.underlying9 ⟨w1.heap.size + 1, 0, none⟩ A 64 (grow (redrawn wr d) os) (fun j hj => by
          rw [addr_add, Nat.zero_add]
          exact cell_regrown (by rw [cell_of_row wr _ _ _ _ _ hC2', b8s_arr_get _ _ hj]) d os)
        have cvB := fun (d : Nat) (os : Array Obj) => run_convert_b8 (P := Tryd.prog) (src := 44) (dst := 9) (e := 5) Tryd.underlying44 Tryd.underlying5 Tryd.underlying9 ⟨w1.heap.size, 0, none⟩ B 64 (grow (redrawn wr d) os) (fun j hj => by
          rw [addr_add, Nat.zero_add]
          exact cell_regrown (by rw [cell_of_row wr _ _ _ _ _ hC1', b8s_arr_get _ _ hj]) d os)
        rw [lA] at cvA
        rw [lB] at cvB
        have cs1 : ∀ d os, Calls Tryd.prog 31 #[.string (⟨B.toArray⟩ ++ ⟨t.toArray⟩)] (grow (redrawn wr d) os) fun e w'' => e = .returned (.string ⟨s1.toArray⟩) ∧ ∃ p : Regrown, w'' = grow (redrawn wr p.d) p.os := fun d os => by
          rw [str_app, e1]
          exact Calls.regrown_of (sum_any (B ++ t) _ (hG2.below (below_regrown wr d os)) (by have := HT.out; simp [lB]; omega))
        have cs2 : ∀ d os, Calls Tryd.prog 31 #[.string (⟨A.toArray⟩ ++ ⟨s1.toArray⟩)] (grow (redrawn wr d) os) fun e w'' => e = .returned (.string ⟨s2.toArray⟩) ∧ ∃ p : Regrown, w'' = grow (redrawn wr p.d) p.os := fun d os => by
          rw [str_app, e2]
          exact Calls.regrown_of (sum_any (A ++ s1) _ (hG2.below (below_regrown wr d os)) (by simp [lA, l1]))
        rw [← e1, ← e2] at hM
        have le1 : ¬ 9223372036854775807 < B.length + t.length := by have := HT.out; omega
        have le2 : ¬ 9223372036854775807 < A.length + s1.length := by omega
        have HF := Lib.hid hM
        clear hC1 hC2 hC1' hC2' eA eB e1 e2 lA lB l1 hM hG2 HM HT HP HG hlt hk
        go_wp2_with fail
        refine wp_region_quiet_below (by kernel_rfl) (by kernel_rfl) ?_
        repeat (quiet_step ((first | (with_reducible exact cs1 _ _) | (with_reducible exact cs2 _ _))))
        refine wpQuiet_nil ?_
        intro _ hw'
        obtain ⟨⟨dq, osq⟩, hw''⟩ := hw'
        subst hw''
        go_wp2
        go_ret
        exact ⟨by rw [HF.out]; rfl, HB.out.trans ((hBr.out.trans ((below_regrown wr dq osq).mono hBr.out.size)).mono HB.out.size)⟩
theorem mac_any (k t : List UInt8) (w : World) (hG : Glob w) (hk : k.length ≤ 1152921504606846976) (ht : t.length ≤ 576460752303423488) :
    Calls Tryd.prog 30 #[.string ⟨k.toArray⟩, .string ⟨t.toArray⟩] w fun e w' => e = .returned (.string ⟨(hmac k t).toArray⟩) ∧ Below w.heap.size w w' :=
  mac_from k t w w (Below.refl _ _) hG hk ht
end Go.Proofs.YtpdnbdfkcpofaaaDoor
