/- strongboxlaw2.SealPieces: the walk. -/
import Derived.Test.YtpdnbdfkcpofaaaDoorSeal1
import Derived.Test.YtpdnbdfkcpofaaaDoorShaped
import Derived.Test.YtpdnbdfkcpofaaaDoorAwake2
import Derived.Test.YtpdnbdfkcpofaaaDoorPick2
import Derived.Test.YtpdnbdfkcpofaaaDoorArgs
import Derived.StillTactics
namespace Go.Proofs.YtpdnbdfkcpofaaaDoor
open Go.RowKit Sbx Go.Sort

theorem map_take {α : Type} (F : Nat → α) (n f : Nat) (h : f ≤ n) : ((List.range n).map F).take f = (List.range f).map F := by
  rw [← List.map_take, List.take_range, Nat.min_eq_left h]
theorem map_add {α : Type} (F : Nat → α) (f m : Nat) : (List.range (f + m)).map F = (List.range f).map F ++ (List.range m).map (fun j => F (f + j)) := by
  rw [List.range_add, List.map_append, List.map_map]; rfl
theorem stream_take (K : List UInt8) (A n f m : Nat) (h : f + m ≤ n) : (stream K A n).take f ++ stream K (A + f) m = (stream K A n).take (f + m) := by
  unfold stream
  rw [map_take _ _ _ (by omega), map_take _ _ _ h, map_add]
  congr 1
  refine List.map_congr_left fun j _ => ?_
  rw [Nat.add_assoc]
theorem xor_take (K T : List UInt8) (A f m : Nat) (h : f + m ≤ T.length) :
    (xorS T (stream K A T.length)).take f ++ xorS ((T.drop f).take m) (stream K (A + f) m) = (xorS T (stream K A T.length)).take (f + m) := by
  have hq : ((T.drop f).take m).length = m := by rw [List.length_take, List.length_drop]; omega
  unfold xorS
  rw [map_take _ _ _ (by omega), map_take _ _ _ h, map_add, hq]
  congr 1
  refine List.map_congr_left fun j hj => ?_
  have hj := List.mem_range.1 hj
  rw [stream_getD _ _ _ _ hj, stream_getD _ _ _ _ (by omega), Nat.add_assoc]
  congr 1
  rw [List.getD_eq_getElem?_getD, List.getElem?_take_of_lt hj, List.getElem?_drop, ← List.getD_eq_getElem?_getD]

theorem stream_ok (K : List UInt8) (A n : Nat) (hK : K.length = 32) (h : A + n ≤ 65536) (w : World) (hG : Glob w) :
    Calls Tryd.prog 12 #[.string ⟨K.toArray⟩, .int .i64 (A : Int), .int .i64 (n : Int)] w fun e w' => e = .returned (.tuple #[.string ⟨(stream K A n).toArray⟩, .int .i64 0]) ∧ Below w.heap.size w w' := by
  have c := stream_any K (A : Int) (n : Int) w hG (by omega) (by omega) (by omega) (by omega) (by omega)
  have wi : withinV K (A : Int) (n : Int) = 0 := withinV_ok.2 (by omega)
  rw [wi, show streamV K (A : Int) (n : Int) = stream K A n from by unfold streamV; rw [if_pos wi]; rfl] at c
  exact c
theorem xor_ok (K T : List UInt8) (A : Nat) (hK : K.length = 32) (h : A + T.length ≤ 65536) (w : World) (hG : Glob w) :
    Calls Tryd.prog 14 #[.string ⟨K.toArray⟩, .int .i64 (A : Int), .string ⟨T.toArray⟩] w fun e w' => e = .returned (.tuple #[.string ⟨(xorS T (stream K A T.length)).toArray⟩, .int .i64 0]) ∧ Below w.heap.size w w' := by
  have c := xor_any K (A : Int) T w hG (by omega) (by omega) (by omega) (by omega)
  have wi : withinV K (A : Int) (T.length : Int) = 0 := withinV_ok.2 (by omega)
  rw [wi, show xorV K (A : Int) T = xorS T (stream K A T.length) from by unfold xorV; rw [if_pos wi]; rfl] at c
  exact c

set_option maxRecDepth 100000 in
set_option maxHeartbeats 2000000 in
theorem sealpieces_any (raw : List UInt8) (v : Int) (A0 : Option Addr) (cap : Nat) (zs : List Int) (t : List UInt8) (w : World) (hG : Glob w) (hr0 : raw.length ≤ 140737488354000) (ht0 : t.length ≤ 140737488354000)
    (v0 : -9223372036854775808 ≤ v) (v1 : v ≤ 9223372036854775807) (hl : zs.length ≤ maxLen) (hr : Reads w w.heap.size A0 zs.length (fun i => .int .i64 (zs.getD i 0))) (hwf : ∀ z ∈ zs, (Lit.int .i64 z).wf = true) :
    Calls Tryd.prog 5 #[.string ⟨raw.toArray⟩, .int .i64 v, .slice A0 zs.length cap, .string ⟨t.toArray⟩] w fun e w' => e = .returned (.bool true) ∧ Below w.heap.size w w' := by
  have HS := St.start hG
  have HR := Lib.hid hr
  have HW := Lib.hid hwf
  obtain ⟨T, eT⟩ : ∃ T, T = t.take 3000 := ⟨_, rfl⟩
  have lT : T.length ≤ 3000 := by rw [eT, List.length_take]; omega
  have c1 := fun W => shaped32 raw W (by omega)
  obtain ⟨K, eK⟩ : ∃ A, A = shapeV raw 32 := ⟨_, rfl⟩
  have lK : K.length = 32 := by rw [eK]; exact shapeV_length _ _
  rw [← eK] at c1
  have c2 := fun W => pick_any v 60000 W (by omega) v0 v1
  obtain ⟨A, eA⟩ : ∃ A : Nat, pickI v 60000 = (A : Int) := ⟨(pickI v 60000).toNat, by have := pickI_nonneg v 60000 (by omega); omega⟩
  have lA : A < 60000 := by have := pickI_lt v 60000 (by omega); omega
  rw [eA] at c2
  have c3 := fun W (h : Glob W) => stream_ok K A T.length lK (by omega) W h
  have c4 := fun W (h : Glob W) => xor_ok K T A lK (by omega) W h
  obtain ⟨S, eS⟩ : ∃ S, S = stream K A T.length := ⟨_, rfl⟩
  obtain ⟨X, eX⟩ : ∃ X, X = xorS T S := ⟨_, rfl⟩
  have lS : S.length = T.length := by rw [eS, stream_length]
  have lX : X.length = T.length := by rw [eX, xorS_length]
  have c5 := fun W (h : Glob W) => xor_ok K X A lK (by omega) W h
  have hx2 : xorS X (stream K A X.length) = T := by
    have h := xor_twice K A T
    rw [← eS, ← eX] at h
    exact h
  rw [hx2] at c5
  rw [← eS] at c3 c4
  rw [← eX] at c4
  have hbytes : ∀ j, j < T.length → X.getD j 0 = T.getD j 0 ^^^ S.getD j 0 := fun j hj => by rw [eX, xorS_getD _ _ _ hj]
  have hst : ∀ f m, f + m ≤ T.length → S.take f ++ stream K (A + f) m = S.take (f + m) := fun f m h => by rw [eS]; exact stream_take K A _ f m h
  have hxt : ∀ f m, f + m ≤ T.length → X.take f ++ xorS ((T.drop f).take m) (stream K (A + f) m) = X.take (f + m) := fun f m h => by rw [eX, eS]; exact xor_take K T A f m h
  have hsl : 3000 < t.length → ∀ W, (Instr.slice 9 (.string ⟨t.toArray⟩) none (some (.int .i64 3000)) none).run Tryd.prog W = .ok (.string ⟨T.toArray⟩) W := fun h W => by
    rw [eT]; exact run_slice_to (P := Tryd.prog) (t := 9) Tryd.underlying9 t .i64 3000 (by omega) 3000 rfl W
  have htT : ¬ 3000 < t.length → t = T := fun h => by rw [eT, List.take_of_length_le (by omega)]
  have H := Lib.hid (And.intro c1 (And.intro c2 (And.intro c3 (And.intro c4 c5))))
  have HB := Lib.hid (And.intro hbytes (And.intro hst hxt))
  have HL := Lib.hid (And.intro lT (And.intro lK (And.intro lA (And.intro lS lX))))
  have hSl : (S.length : Int) = (T.length : Int) := by omega
  have hzl : (zs.length : Int) ≤ 9223372036854775807 := by unfold maxLen at hl; omega
  clear c1 c2 c3 c4 c5 eT lT eK lK eA lA eS eX lS lX hx2 hbytes hst hxt hG hr0 v0 v1 hr hwf hl
  by_cases h3000 : 3000 < t.length
  all_goals first
    | (have hc : (3000 : Int) < (t.length : Int) := by omega
       have hs3 := hsl h3000
       clear hsl htT h3000 ht0
       go_enter Tryd.func5, Tryd.ntmps5)
    | (have e := htT h3000
       clear hsl htT ht0
       subst e
       have hc : ¬ (3000 : Int) < (t.length : Int) := by omega
       clear h3000
       obtain ⟨T, rfl⟩ : ∃ T, T = t := ⟨_, rfl⟩
       go_enter Tryd.func5, Tryd.ntmps5)
  all_goals
    go_wp2_with (first
      | (go_at_call 11; refine (St.callG HS awake_any).mono ?_; clear HS; rintro e w' ⟨rfl, HS⟩)
      | (go_at_call 16; refine (St.callR HS H.out.1).mono ?_; clear HS; rintro e w' ⟨rfl, HS⟩)
      | (go_at_call 17; refine (St.still HS (H.out.2.1 _)).mono ?_; clear HS; rintro e w' ⟨rfl, HS⟩)
      | (go_at_call 12; refine (St.callG HS H.out.2.2.1).mono ?_; clear HS; rintro e w' ⟨rfl, HS⟩)
      | (go_at_call 14; with_reducible refine (St.callG HS H.out.2.2.2.1).mono ?_; clear HS; rintro e w' ⟨rfl, HS⟩)
      | (go_at_call 14; with_reducible refine (St.callG HS H.out.2.2.2.2).mono ?_; clear HS; rintro e w' ⟨rfl, HS⟩))
    go_loopw [18, 19, 20, 21] (fun v18 v19 v20 v21 wr => ∃ i f : Nat, i ≤ zs.length ∧ f ≤ T.length ∧ v21 = .int .i64 (i : Int) ∧ v20 = .int .i64 (f : Int) ∧ v18 = .string ⟨(S.take f).toArray⟩ ∧ v19 = .string ⟨(X.take f).toArray⟩ ∧ Hid (St w wr))
      (fun _ _ _ v21 _ => zs.length - (intOf v21).toNat)
    case atStart => exact ⟨0, 0, by omega, by omega, rfl, rfl, rfl, rfl, HS⟩
    case round =>
      clear HS
      obtain ⟨i, f, hi, hf, rfl, rfl, rfl, rfl, HS⟩ := hrel
      by_cases hgo : i < zs.length ∧ i < 20 ∧ f < T.length
      · obtain ⟨hlt, hlt2, hlt3⟩ := hgo
        obtain ⟨b, off, rfl, hb, hcell⟩ := (HR.out.below HS.out.2) i hlt
        obtain ⟨z, ez⟩ : ∃ z, z = zs.getD i 0 := ⟨_, rfl⟩
        have hcell' : wr.cell? ⟨b, off + i, none⟩ = some (.int .i64 (zs.getD i 0)) := hcell
        rw [← ez] at hcell'
        clear hcell
        have hzw : (Lit.int .i64 z).wf = true := HW.out z (by rw [ez, List.getD_eq_getElem?_getD, List.getElem?_eq_getElem hlt]; exact List.getElem_mem hlt)
        obtain ⟨z0, z1⟩ := wf_i64 hzw
        have hp := fun W => pick_any z ((T.length : Int) - (f : Int) + 1) W (by omega) z0 z1
        obtain ⟨m, hm⟩ : ∃ m : Nat, pickI z ((T.length : Int) - (f : Int) + 1) = m := ⟨(pickI z ((T.length : Int) - (f : Int) + 1)).toNat, by have := pickI_nonneg z ((T.length : Int) - (f : Int) + 1) (by omega); omega⟩
        have hmf : f + m ≤ T.length := by have := pickI_lt z ((T.length : Int) - (f : Int) + 1) (by omega); omega
        rw [hm] at hp
        have hsl := fun W => run_slice_str (P := Tryd.prog) Tryd.underlying9 T .i64 .i64 f (f + m) (by omega) hmf (f : Int) ((f : Int) + (m : Int)) rfl (by omega) W
        rw [Nat.add_sub_cancel_left] at hsl
        have e1 := HB.out.2.1 f m hmf
        have e2 := HB.out.2.2 f m hmf
        have c1 := fun W (h : Glob W) => stream_ok K (A + f) m HL.out.2.1 (by have := HL.out.1; have := HL.out.2.2.1; omega) W h
        have lq : ((T.drop f).take m).length = m := by rw [List.length_take, List.length_drop]; omega
        have c2 := fun W (h : Glob W) => xor_ok K ((T.drop f).take m) (A + f) HL.out.2.1 (by rw [lq]; have := HL.out.1; have := HL.out.2.2.1; omega) W h
        rw [lq] at c2
        obtain ⟨q, eq⟩ : ∃ q, q = (T.drop f).take m := ⟨_, rfl⟩
        rw [← eq] at hsl e2 c2
        obtain ⟨u, eu⟩ : ∃ u, u = stream K (A + f) m := ⟨_, rfl⟩
        have lu : u.length = m := by rw [eu, stream_length]
        rw [← eu] at c1 c2 e1 e2
        obtain ⟨y, ey⟩ : ∃ y0, y0 = xorS q u := ⟨_, rfl⟩
        have ly : y.length = m := by rw [ey, xorS_length, eq, lq]
        rw [← ey] at c2 e2
        have hAf : ((A + f : Nat) : Int) = (A : Int) + (f : Int) := by omega
        rw [hAf] at c1 c2
        have HH := Lib.hid (And.intro hp (And.intro c1 c2))
        have HE := Lib.hid (And.intro e1 (And.intro e2 hmf))
        have l1 : (S.take f).length = f := by rw [List.length_take, HL.out.2.2.2.1]; omega
        have l2 : (X.take f).length = f := by rw [List.length_take, HL.out.2.2.2.2]; omega
        obtain ⟨a1, ea1⟩ : ∃ a, a = S.take f := ⟨_, rfl⟩
        obtain ⟨a2, ea2⟩ : ∃ a, a = X.take f := ⟨_, rfl⟩
        rw [← ea1] at l1 ⊢
        rw [← ea2] at l2 ⊢
        have lT := HL.out.1
        have lA := HL.out.2.2.1
        have le1 : ¬ 9223372036854775807 < a1.length + u.length := by omega
        have le2 : ¬ 9223372036854775807 < a2.length + y.length := by omega
        have g1 : (i : Int) < (zs.length : Int) := by omega
        have g2 : (i : Int) < 20 := by omega
        have g3 : (f : Int) < (T.length : Int) := by omega
        have g4 : (f : Int) + (m : Int) ≤ (T.length : Int) := by omega
        have g5 : (T.length : Int) ≤ 3000 := by omega
        have g6 : (A : Int) < 60000 := by omega
        have g7 : 0 ≤ (i : Int) := by omega
        have HEA := Lib.hid (And.intro ea1 ea2)
        clear ez hzw hm hp e1 e2 c1 c2 lq eq eu ey hAf z0 z1 lT lA l1 l2 lu ly ea1 ea2
        go_wp2_with (first
          | (go_at_call 17; refine (St.still HS (HH.out.1 _)).mono ?_; clear HS; rintro e w' ⟨rfl, HS⟩)
          | (go_at_call 12; refine (St.callG HS HH.out.2.1).mono ?_; clear HS; rintro e w' ⟨rfl, HS⟩)
          | (go_at_call 14; refine (St.callG HS HH.out.2.2).mono ?_; clear HS; rintro e w' ⟨rfl, HS⟩))
        go_roundw
        case rel =>
          refine ⟨i + 1, f + m, by omega, HE.out.2.2, by go_num, by go_num, ?_, ?_, HS⟩
          · rw [← HE.out.1, ← HEA.out.1, str_app]
          · rw [← HE.out.2.1, ← HEA.out.2, str_app]
        case measure => simp [intOf]; omega
      · have s1 := fun W => run_slice_to (P := Tryd.prog) (t := 9) Tryd.underlying9 S .i64 f (by rw [HL.out.2.2.2.1]; exact hf) (f : Int) rfl W
        have s2 := fun W => run_slice_to (P := Tryd.prog) (t := 9) Tryd.underlying9 X .i64 f (by rw [HL.out.2.2.2.2]; exact hf) (f : Int) rfl W
        have lX := HL.out.2.2.2.2
        have lS := HL.out.2.2.2.1
        have lT := HL.out.1
        have g5 : (T.length : Int) ≤ 3000 := by omega
        obtain ⟨a1, ea1⟩ : ∃ a, a = S.take f := ⟨_, rfl⟩
        obtain ⟨a2, ea2⟩ : ∃ a, a = X.take f := ⟨_, rfl⟩
        rw [← ea1] at s1 ⊢
        rw [← ea2] at s2 ⊢
        clear ea1 ea2
        have hcase : ¬ (i : Int) < (zs.length : Int) ∨ ((i : Int) < (zs.length : Int) ∧ ¬ (i : Int) < 20) ∨ ((i : Int) < (zs.length : Int) ∧ (i : Int) < 20 ∧ ¬ (f : Int) < (T.length : Int)) := by omega
        have HLL := Lib.hid (And.intro lX (And.intro lS lT))
        clear hgo lX lS lT hf hi
        rcases hcase with k1 | ⟨k1, k2⟩ | ⟨k1, k2, k3⟩
        all_goals
          go_wp2_with fail
          go_loopw [27] (fun v27 wr => ∃ j : Nat, j ≤ T.length ∧ v27 = .int .i64 (j : Int) ∧ Hid (St w wr)) (fun v27 _ => T.length - (intOf v27).toNat)
          case atStart => exact ⟨0, by omega, rfl, HS⟩
          case round =>
            clear HS
            obtain ⟨j, hj, rfl, HS⟩ := hrel
            by_cases hlt : j < T.length
            · obtain ⟨a, ea, ha⟩ := str_byte T j hlt
              obtain ⟨b, eb, hb⟩ := str_byte S j (by have := HLL.out.2.1; omega)
              obtain ⟨c, ec, hcx⟩ := str_byte X j (by have := HLL.out.1; omega)
              have hx : bits BinOp.xor IntKind.u8 (a.toNat : Int) (b.toNat : Int) = (c.toNat : Int) := by
                rw [u8_xor8, ea, eb, ec, HB.out.1 j hlt]
              have r0 : (0 : Int) ≤ (j : Int) := by omega
              have r1 : (j : Int) < (T.length : Int) := by omega
              have r2 : (j : Int) < (S.length : Int) := by have := HLL.out.2.1; omega
              have r3 : (j : Int) < (X.length : Int) := by have := HLL.out.1; omega
              clear ea eb ec hSl s1 s2 hlt
              go_wp2_with fail
              go_still (by kernel_rfl)
              go_wp2
              go_roundw
              case rel => exact ⟨j + 1, by omega, by go_num, St.below HS ((Below.refl _ _).drew)⟩
              case measure => simp [intOf]; omega
            · obtain rfl : j = T.length := by omega
              have r1 : ¬ (T.length : Int) < (T.length : Int) := by omega
              go_wp2_with fail
              go_ret
              exact ⟨rfl, HS.out.2⟩
end Go.Proofs.YtpdnbdfkcpofaaaDoor
