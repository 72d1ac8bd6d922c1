/- The laws of paths; strongboxlaw19.awake. -/
import Derived.Test.YthhjmodkodkgpaaDoorMCheck
import Derived.Test.YthhjmodkodkgpaaDoorMPath2
namespace Sbx
theorem mtext_snoc (S : List Bool) (b : Bool) (leaf : List UInt8) (P : List (List UInt8)) (Y : List UInt8) (h : Nat) (hS : h ≤ S.length) (hP : S.length = P.length) : mtext (S ++ [b]) leaf (P ++ [Y]) h = mtext S leaf P h := by
  induction h with
  | zero => rfl
  | succ h ih =>
    rw [mtext, mtext, ih (by omega)]
    rw [List.getD_eq_getElem?_getD, List.getD_eq_getElem?_getD, List.getD_eq_getElem?_getD, List.getD_eq_getElem?_getD, List.getElem?_append_left (by omega), List.getElem?_append_left (by omega)]
theorem mtext_last (S : List Bool) (b : Bool) (leaf : List UInt8) (P : List (List UInt8)) (Y : List UInt8) (hP : S.length = P.length) : mtext (S ++ [b]) leaf (P ++ [Y]) (S.length + 1) = mnext b (sha (mtext S leaf P S.length)) Y := by
  rw [mtext, mtext_snoc S b leaf P Y S.length (Nat.le_refl _) hP, List.getD_eq_getElem?_getD, List.getD_eq_getElem?_getD, List.getElem?_append_right (Nat.le_refl _), hP, List.getElem?_append_right (Nat.le_refl _)]
  simp
theorem mtop_mroot : ∀ (N : Nat) (l : List (List UInt8)) (i : Nat), l.length ≤ N → i < l.length → mtop l.length i (l.getD i []) (mpath l i) = mroot l
  | 0, l, i, h, hi => by omega
  | N + 1, l, i, h, hi => by
    by_cases h1 : l.length = 1
    · obtain rfl : i = 0 := by omega
      rw [mtop, msides_one _ _ (by omega), mpath_one _ _ (by omega), mroot, dif_neg (by omega), dif_pos h1]
      rfl
    · have a := hf_lt l.length (by omega)
      have b := hf_pos l.length
      have hr : mroot l = mnode (mroot (l.take (hf l.length))) (mroot (l.drop (hf l.length))) := by rw [mroot, dif_neg (by omega), dif_neg h1]
      rw [hr]
      by_cases hik : i < hf l.length
      · have ih := mtop_mroot N (l.take (hf l.length)) i (by rw [List.length_take]; omega) (by rw [List.length_take]; omega)
        have hl := mpath_length (l.take (hf l.length)) i
        rw [List.length_take, Nat.min_eq_left (by omega)] at ih hl
        have hg : (l.take (hf l.length)).getD i [] = l.getD i [] := by rw [List.getD_eq_getElem?_getD, List.getD_eq_getElem?_getD, List.getElem?_take_of_lt hik]
        rw [hg] at ih
        rw [mtop, msides_lt _ _ (by omega) hik, mpath_lt _ _ (by omega) hik, List.length_append, List.length_singleton, mtext_last _ _ _ _ _ hl.symm, ← ih]
        rfl
      · have ih := mtop_mroot N (l.drop (hf l.length)) (i - hf l.length) (by rw [List.length_drop]; omega) (by rw [List.length_drop]; omega)
        have hl := mpath_length (l.drop (hf l.length)) (i - hf l.length)
        rw [List.length_drop] at ih hl
        have hg : (l.drop (hf l.length)).getD (i - hf l.length) [] = l.getD i [] := by rw [List.getD_eq_getElem?_getD, List.getD_eq_getElem?_getD, List.getElem?_drop, show hf l.length + (i - hf l.length) = i by omega]
        rw [hg] at ih
        rw [mtop, msides_ge _ _ (by omega) hik, mpath_ge _ _ (by omega) hik, List.length_append, List.length_singleton, mtext_last _ _ _ _ _ hl.symm, ← ih]
        rfl
theorem mok_mpath (l : List (List UInt8)) (i : Nat) : mok l.length i (mpath l i) = true := by
  unfold mok
  rw [Bool.and_eq_true, decide_eq_true_iff, List.all_eq_true]
  exact ⟨mpath_length l i, fun s hs => by simpa using mpath_32 l.length l i (Nat.le_refl _) s hs⟩
theorem mcheck_mpath (l : List (List UInt8)) (i : Nat) (hi : i < l.length) (h : l.length ≤ 4096) : mcheck (mroot l) l.length i (l.getD i []) (mpath l i) = 0 := by
  have hr := mroot_length l
  rw [mcheck, if_neg (by omega), if_neg (by omega), Int.toNat_natCast, Int.toNat_natCast, if_neg (by rw [mok_mpath]; decide), if_neg (by rw [mtop_mroot l.length l i (Nat.le_refl _) hi]; simp)]

def abc : List (List UInt8) := [[97], [98], [99]]
theorem hf3 : hf 3 = 2 := by decide +kernel
theorem hf2 : hf 2 = 1 := by decide +kernel
theorem mroot_abc : mroot abc = mnode (mnode (mleaf [97]) (mleaf [98])) (mleaf [99]) := by
  have h2 : mroot [[97], [98]] = mnode (mleaf [97]) (mleaf [98]) := by
    rw [mroot, dif_neg (by simp), dif_neg (by simp)]
    show mnode (mroot ([[97], [98]].take (hf 2))) (mroot ([[97], [98]].drop (hf 2))) = _
    rw [hf2]
    show mnode (mroot [[97]]) (mroot [[98]]) = _
    rw [mroot, dif_neg (by simp), dif_pos (by simp), mroot, dif_neg (by simp), dif_pos (by simp)]
    rfl
  rw [mroot, dif_neg (by simp [abc]), dif_neg (by simp [abc])]
  show mnode (mroot (abc.take (hf 3))) (mroot (abc.drop (hf 3))) = _
  rw [hf3]
  show mnode (mroot [[97], [98]]) (mroot [[99]]) = _
  rw [h2, mroot, dif_neg (by simp), dif_pos (by simp)]
  rfl
theorem msides31 : msides 3 1 = [false, true] := by
  rw [msides_lt 3 1 (by omega) (by rw [hf3]; omega), hf3, msides_ge 2 1 (by omega) (by rw [hf2]; omega), hf2, msides_one _ _ (by omega)]
  rfl
theorem mpath_abc : mpath abc 1 = [mleaf [97], mleaf [99]] := by
  have e3 : hf abc.length = 2 := hf3
  rw [mpath_lt abc 1 (by simp [abc]) (by rw [e3]; omega), e3]
  show mpath [[97], [98]] 1 ++ [mroot [[99]]] = _
  have e2 : hf ([[97], [98]] : List (List UInt8)).length = 1 := hf2
  rw [mpath_ge [[97], [98]] 1 (by simp) (by rw [e2]; omega), e2]
  show (mpath [[98]] 0 ++ [mroot [[97]]]) ++ [mroot [[99]]] = _
  rw [mpath_one _ _ (by simp), mroot, dif_neg (by simp), dif_pos (by simp), mroot, dif_neg (by simp), dif_pos (by simp)]
  rfl
set_option maxRecDepth 1000000
set_option maxHeartbeats 4000000
theorem other_leaf : (mnode (mnode (mleaf [97]) (mleaf [120])) (mleaf [99]) == mnode (mnode (mleaf [97]) (mleaf [98])) (mleaf [99])) = false := by decide +kernel
theorem mcheck_x : mcheck (mroot abc) 3 1 [120] (mpath abc 1) = 192 := by
  have hr := mroot_length abc
  have hm : mok 3 1 (mpath abc 1) = true := mok_mpath abc 1
  rw [mcheck, if_neg (by omega), if_neg (by omega), if_neg (by rw [show (3 : Int).toNat = 3 from rfl, show (1 : Int).toNat = 1 from rfl, hm]; decide), if_pos]
  rw [show (3 : Int).toNat = 3 from rfl, show (1 : Int).toNat = 1 from rfl, mroot_abc, mtop, msides31, mpath_abc]
  show mnode (mnode (mleaf [97]) (mleaf [120])) (mleaf [99]) ≠ _
  intro e
  have := other_leaf
  rw [e, beq_self_eq_true] at this
  cases this
end Sbx
namespace Go.Proofs.YthhjmodkodkgpaaDoor
open Go.RowKit Sbx Go.Sort

theorem strAt_alloc {w : World} {o : Obj} {g off : Nat} {l : List (List UInt8)} (h : StrAt w w.heap.size g off l) : StrAt (w.alloc o) (w.alloc o).heap.size g off l :=
  ⟨by have := h.1; simp; omega, fun i hi => (((Below.refl w.heap.size w).alloc (Nat.le_refl _) o).cell (p := ⟨g, off + i, none⟩) h.1).trans (h.2 i hi)⟩
theorem StrAt.reads {w : World} {B b off : Nat} {l : List (List UInt8)} (h : StrAt w B b off l) : Reads w B (some ⟨b, off, none⟩) l.length (fun j => .string ⟨(l.getD j []).toArray⟩) := fun i hi => ⟨b, off, rfl, h.1, h.2 i hi⟩
theorem Lst.reads_strs {w0 w : World} {A : Option Addr} {n c : Nat} {l : List (List UInt8)} (h : Lst w0 w 9 (.slice A n c) (strs l)) : Reads w w.heap.size A l.length (fun j => .string ⟨(l.getD j []).toArray⟩) := by
  have := h.reads (fun j => .string ⟨(l.getD j []).toArray⟩) (fun i hi => strs_getD l i (by rwa [strs_length] at hi))
  rwa [strs_length] at this
theorem strAt_new (w : World) (l : List (List UInt8)) : StrAt (w.alloc (.cells (strs l).toArray 9)) (w.alloc (.cells (strs l).toArray 9)).heap.size w.heap.size 0 l :=
  ⟨by simp, fun i hi => by rw [Nat.zero_add, cell_of_row _ _ _ _ _ _ (heap_alloc_new w _), List.getElem?_toArray, strs_getD l i hi]⟩
theorem St.belowO {w0 w w' : World} (h : Hid (St w0 w)) (hb : Below w.heap.size w w') : Hid (St w0 w') := St.below h hb

set_option maxRecDepth 100000 in
set_option maxHeartbeats 1000000 in
theorem awake_any (w : World) (hG : Glob w) :
    Calls Tryd.prog 13 #[] w fun e w' => e = .returned (.bool true) ∧ Below w.heap.size w w' := by
  have HS := St.start hG
  have hA : StrAt (w.alloc (.cells #[.string ⟨#[97]⟩, .string ⟨#[98]⟩, .string ⟨#[99]⟩] 9)) (w.alloc (.cells #[.string ⟨#[97]⟩, .string ⟨#[98]⟩, .string ⟨#[99]⟩] 9)).heap.size w.heap.size 0 abc := strAt_new w abc
  have hB0 : Below w.heap.size w (w.alloc (.cells #[.string ⟨#[97]⟩, .string ⟨#[98]⟩, .string ⟨#[99]⟩] 9)) := (Below.refl _ _).alloc (Nat.le_refl _) _
  have c1 := fun (W : World) (g : Glob W) (a : StrAt W W.heap.size w.heap.size 0 abc) => Path_any abc 1 (some ⟨w.heap.size, 0, none⟩) 3 W (by simp [abc]) (by simp [abc]) (by unfold maxLen; omega) (by intro s hs; simp [abc] at hs; rcases hs with rfl | rfl | rfl <;> simp) g (fun _ => ⟨_, _, rfl, a⟩)
  have c2 := fun (W : World) (g : Glob W) (a : StrAt W W.heap.size w.heap.size 0 abc) => root_in 3 abc w.heap.size 0 3 W (by simp [abc]) (by omega) (by simp [abc]) (by unfold maxLen; omega) (by intro s hs; simp [abc] at hs; rcases hs with rfl | rfl | rfl <;> simp) g a
  rw [show pathE abc 1 = 0 from by decide, show pathL abc 1 = mpath abc 1 from by rw [pathL, if_pos (by decide)]; rfl] at c1
  have k1 := mcheck_mpath abc 1 (by simp [abc]) (by simp [abc])
  rw [show (abc.getD 1 [] : List UInt8) = [98] from rfl] at k1
  have k2 := mcheck_x
  have hl : (mpath abc 1).length = 2 := by rw [mpath_abc]; rfl
  have hlabc : abc.length = 3 := rfl
  rw [hlabc] at c1 c2 k1
  obtain ⟨P, eP⟩ : ∃ P, P = mpath abc 1 := ⟨_, rfl⟩
  obtain ⟨R, eR⟩ : ∃ R, R = mroot abc := ⟨_, rfl⟩
  rw [← eP] at c1 hl k1 k2
  rw [← eR] at c2 k1 k2
  have c3 := fun (W : World) (g : Glob W) (A : Option Addr) (cap : Nat) (hc : P.length ≤ cap) h => check_any R 3 1 [98] P A cap W g (by simp) (by omega) hc h
  have c4 := fun (W : World) (g : Glob W) (A : Option Addr) (cap : Nat) (hc : P.length ≤ cap) h => check_any R 3 1 [120] P A cap W g (by simp) (by omega) hc h
  rw [show mcheck R 3 1 [98] P = 0 from k1] at c3
  rw [k2] at c4
  rw [hl] at c3 c4
  have H := Lib.hid (And.intro c1 (And.intro c2 (And.intro c3 (And.intro c4 hl))))
  have HA := Lib.hid (And.intro hA hB0)
  clear c1 c2 c3 c4 hG hA k1 k2 eP eR hB0
  go_enter Tryd.func13, Tryd.ntmps13
  go_wp2_with (first
    | (go_at_call 16
       refine (H.out.1 _ (St.glob (St.alloc HS _)) HA.out.1).mono ?_
       rintro e w1 ⟨v, rfl, HD⟩
       obtain ⟨A2, c2, rfl, hc2, hm2⟩ := HD.out.form
       rw [strs_length, H.out.2.2.2.2] at hc2 ⊢
       have HS1 := St.belowL (St.alloc HS (.cells #[.string ⟨#[97]⟩, .string ⟨#[98]⟩, .string ⟨#[99]⟩] 9)) HD
       have HA1 := Lib.hid (HA.out.1.belowW HD.out.2)
       have HR1 := Lib.hid HD.out.reads_strs
       rw [H.out.2.2.2.2] at HR1
       clear HA HS HD)
    | (go_at_call 21
       refine (H.out.2.1 _ (St.glob HS1) HA1.out).mono ?_
       rintro e w2 ⟨rfl, hB⟩
       have HS2 := St.below HS1 hB
       have HR2 := Lib.hid (HR1.out.belowW hB)
       clear HA1 HS1 HR1 hB)
    | (go_at_call 22
       refine (H.out.2.2.1 _ (St.glob HS2) A2 c2 hc2 HR2.out).mono ?_
       rintro e w3 ⟨rfl, hB⟩
       have HS3 := St.below HS2 hB
       have HR3 := Lib.hid (HR2.out.belowW hB)
       clear HS2 HR2 hB)
    | (go_at_call 22
       refine (H.out.2.2.2.1 _ (St.glob HS3) A2 c2 hc2 HR3.out).mono ?_
       rintro e w4 ⟨rfl, hB⟩
       have HS4 := St.below HS3 hB
       clear HS3 HR3 hB))
  go_ret
  exact ⟨rfl, HS4.out.2⟩
end Go.Proofs.YthhjmodkodkgpaaDoor
