/- seal.pieces and the function that it hands back. -/
import Derived.RangeFuncNested
import Derived.RangeFuncBound
import Derived.RangeFuncCalls
import Derived.RangeFuncLeaves
import Derived.Shelf.Abstract
import Derived.Shelf.RegionOpen
import Derived.WalkKit
import Derived.OwnWalkIn
import Derived.TacticsInMore
import Derived.LoopNIn
import Derived.LoopIn
import Derived.Test.YtpdnbdfkcpofaaaDoorNum
import Derived.Test.YtpdnbdfkcpofaaaDoorSeqB
namespace Go.Proofs.YtpdnbdfkcpofaaaDoor
open Go.RowKit Go.Shelf Sbx
attribute [local go_sem] Oper.semAt_some

/-- a stream's piece -/
def piece (key : List UInt8) (i : Nat) : List UInt8 := sha (key ++ num i 8)
theorem piece_length (key : List UInt8) (i : Nat) : (piece key i).length = 32 := sha_length _

/-- below s, and from s + 3 to s + 4, nothing has turned -/
def KeptP (s : Nat) (W W' : World) : Prop := ∀ k, k < s ∨ (s + 3 ≤ k ∧ k < s + 5) → W'.heap[k]? = W.heap[k]?
theorem KeptP.trans {s : Nat} {A B C : World} (h : KeptP s A B) (k : KeptP s B C) : KeptP s A C := fun i hi => (k i hi).trans (h i hi)
theorem KeptP.of_below {s n : Nat} {A B : World} (h : Below n A B) (hn : s + 5 ≤ n) : KeptP s A B := fun i hi => h.block i (by omega)
theorem Glob.keptP {s : Nat} {A B : World} (h : Glob A) (hs : 0 < s ∧ 1 < s) (k : KeptP s A B) : Glob B :=
  ⟨fun i hi => (World.cell?_of_block (w := A) (k _ (.inl hs.2))).trans (h.cubes i hi), fun i hi => (World.cell?_of_block (w := A) (k _ (.inl hs.1))).trans (h.first i hi)⟩
theorem grown_none {A B : World} (h : Below A.heap.size A B) : A.grownBy B none := ⟨h.os, h.tape, h.output, h.size, fun k hk _ => h.block k hk⟩

theorem pieces_any (key : List UInt8) (i : Int) (w : World) :
    Calls Tryd.prog 49 #[.string ⟨key.toArray⟩, .int .i64 i] w fun e w' =>
      e = .returned (.func (.func 58) #[] #[.pointer (some ⟨w.heap.size + 1, 0, none⟩), .pointer (some ⟨w.heap.size, 0, none⟩)]) ∧
      (w.alloc (.cells #[.string ⟨key.toArray⟩] 9)).alloc (.cells #[.int .i64 i] 3) = w' := by
  go_enter Tryd.func49, Tryd.ntmps49
  go_wp2_with fail
  go_ret
  exact ⟨rfl, rfl⟩

theorem number8 (j : Nat) (z : Int) (w : World) (hz : z = (j : Int)) (hj : j ≤ 9223372036854775807) :
    Calls Tryd.prog 56 #[.int .i64 z, .int .i64 8] w fun e w' => e = .returned (.string ⟨(num j 8).toArray⟩) ∧ Below w.heap.size w w' := by subst hz; exact number_any j 8 w hj (by omega)
theorem sum_piece (key : List UInt8) (j : Nat) (w : World) (hG : Glob w) (hk : key.length ≤ 1152921504606840000) :
    Calls Tryd.prog 31 #[.string (⟨key.toArray⟩ ++ ⟨(num j 8).toArray⟩)] w fun e w' => e = .returned (.string ⟨(piece key j).toArray⟩) ∧ Below w.heap.size w w' := by
  have h := sum_any (key ++ num j 8) w hG (by rw [List.length_append, num_length]; omega)
  rw [← str_app] at h
  exact h

set_option maxRecDepth 100000 in
set_option maxHeartbeats 2000000 in
theorem pieces_seq (key : List UInt8) (i s N n : Nat) (w : World) (hkey : key.length ≤ 1152921504606840000) (hi : i + N ≤ 1152921504606840000) (hs : 0 < s ∧ 1 < s) (hG : Glob w)
    (hA : w.cell? ⟨s + 4, 0, none⟩ = some (.int .i64 (i : Int))) (hB : w.cell? ⟨s + 3, 0, none⟩ = some (.string ⟨key.toArray⟩)) (hn : 2 ≤ n) :
    SeqB Fence.wide n Tryd.prog 58 #[.pointer (some ⟨s + 4, 0, none⟩), .pointer (some ⟨s + 3, 0, none⟩)] (fun j : Nat => Value.string ⟨(piece key j).toArray⟩) (KeptP s) (fun pre => ∃ k, pre = List.range' i k) N w := fun l J Jx W hW hJ hJx hN hY h0 => by
  have hs5 : s + 4 < w.heap.size := by have := block_lt_of_cell hA; exact this
  have hGW : Glob W := hG.below hW
  have hAW : W.cell? ⟨s + 4, 0, none⟩ = some (.int .i64 (i : Int)) := (hW.cell (p := ⟨s + 4, 0, none⟩) hs5).trans hA
  have hBW : W.cell? ⟨s + 3, 0, none⟩ = some (.string ⟨key.toArray⟩) := (hW.cell (p := ⟨s + 3, 0, none⟩) (by show s + 3 < _; omega)).trans hB
  have HB := Lib.hid hBW
  have HG := Lib.hid hGW
  have HI := Lib.hid hi
  have HJ := Lib.hid hJ
  have HN := Lib.hid hN
  have HY := Lib.hid hY
  have HK := Lib.hid hkey
  have HS := Lib.hid hs
  have H0 := Lib.hid h0
  clear hW hJ hJx hN hY hA hB hG hs5 hGW hBW hi hkey hs h0
  refine callsIn_of_wp Tryd.func58 rfl trivial ?_ rfl
  simp only [Tryd.ntmps58, List.size_toArray, List.length_cons, List.length_nil, Nat.reduceAdd, Nat.reduceSub, Array.replicate_succ, Array.replicate_zero, List.push_toArray, List.append_toArray, List.nil_append, List.cons_append]
  gi_wp2
  gi_loopw [4] (fun v4 wr => ∃ k : Nat, v4 = .int .i64 ((i + k : Nat) : Int) ∧ Hid (J (List.range' i k) wr) ∧ Hid (wr.cell? ⟨s + 3, 0, none⟩ = some (.string ⟨key.toArray⟩)) ∧ Hid (Glob wr))
    (fun v4 _ => i + N - (intOf v4).toNat)
  case atStart => exact ⟨0, rfl, H0.out, HB.out, HG.out⟩
  case round =>
    obtain ⟨k, rfl, hJk, hBk, hGk⟩ := hrel
    have hkN : k < N := by have := HN.out _ _ hJk.out; simpa using this
    have hik : i + k ≤ 1152921504606840000 := by have := HI.out; omega
    have le : ¬ 9223372036854775807 < key.length + (num (i + k) 8).length := by have := HK.out; rw [num_length]; omega
    have hmx : Tryd.prog.follows .mixedOrders = true := by kernel_rfl
    have hd : 1 ≤ n - 1 := by omega
    have hikz : (i : Int) + (k : Int) ≤ 1152921504606840000 := by omega
    have hik0 : (0 : Int) ≤ (i : Int) + (k : Int) := by omega
    have HIK := Lib.hid hik
    have hBk' := hBk.out
    clear hik
    gi_wp2
    gi_region_with_o (first
      | (refine ⟨trivial, fun _ => by omega, ?_⟩
         gi_at_call 56
         refine (callsIn_wide.2 (number8 (i + k) _ _ (by omega) (by have := HIK.out; omega))).mono ?_
         rintro e w2 ⟨rfl, hB2⟩
         have hc2 : w2.cell? ⟨s + 3, 0, none⟩ = some (.string ⟨key.toArray⟩) := (((Below.refl wr.heap.size wr).drew.trans hB2).cell (p := ⟨s + 3, 0, none⟩) (block_lt_of_cell hBk.out)).trans hBk.out
         have HB2 := Lib.hid ((Below.refl wr.heap.size wr).drew.trans hB2)
         clear hB2)
      | (refine ⟨trivial, fun _ => by omega, ?_⟩
         gi_at_call 31
         go_loud (
           refine (callsIn_wide.2 (sum_piece key (i + k) _ (hGk.out.below HB2.out) HK.out)).mono ?_
           rintro e w3 ⟨rfl, hB3⟩
           have hB3' : Below wr.heap.size wr w3 := HB2.out.trans (hB3.mono HB2.out.size)
           have HB3 := Lib.hid hB3'
           obtain ⟨fn, tmps, assign, body, hy, hR⟩ := HY.out (List.range' i k) (i + k) w3 (HJ.out _ _ _ none hJk.out (grown_none hB3') (fun r e => by cases e))
           (try dsimp only at hy)
           clear hB3 hB3'))
      | (refine ⟨fun _ => by omega, ?_⟩
         refine hR.mono ?_
         rintro e W4 hor
         obtain ⟨b, rfl, hb4⟩ : ∃ b : Bool, e = .returned (.bool b) ∧ ((b = true ∧ J (List.range' i k ++ [i + k]) W4 ∧ KeptP s w3 W4) ∨ (b = false ∧ Jx (List.range' i k ++ [i + k]) W4)) := by
           rcases hor with ⟨h, hJ4, hk4⟩ | ⟨h, hJx4⟩
           · exact ⟨true, h, .inl ⟨rfl, hJ4, hk4⟩⟩
           · exact ⟨false, h, .inr ⟨rfl, hJx4⟩⟩
         have HB4 := Lib.hid hb4
         clear hb4 hor hR hy))
    all_goals
      have h4 := HB4.out
      have hc3 : w3.cell? ⟨s + 3, 0, none⟩ = some (.string ⟨key.toArray⟩) := (HB3.out.cell (p := ⟨s + 3, 0, none⟩) (block_lt_of_cell hBk.out)).trans hBk.out
      have HC3 := Lib.hid hc3
      clear HB4 hc2 hc3 hBk'
      rcases h4 with ⟨rfl, hJ4, hk4⟩ | ⟨rfl, hJx4⟩
      · have HJ4 := Lib.hid hJ4
        have HK4 := Lib.hid hk4
        clear hJ4 hk4
        gi_wp2
        go_roundw
        case rel =>
          refine ⟨k + 1, by go_num, ?_, (World.cell?_of_block (w := w3) (HK4.out _ (.inr ⟨Nat.le_refl _, by show s + 3 < s + 5; omega⟩))).trans HC3.out, (hGk.out.below HB3.out).keptP HS.out HK4.out⟩
          rw [List.range'_1_concat]; exact HJ4.out
        case measure => simp [intOf]; omega
      · have HJ4 := Lib.hid hJx4
        clear hJx4
        gi_wp2
        go_end0
        exact ⟨⟨_, rfl⟩, _, ⟨k + 1, (List.range'_1_concat).symm⟩, HJ4.out⟩
end Go.Proofs.YtpdnbdfkcpofaaaDoor
