/- hash.Unhex. -/
import Derived.Test.YticmnckkhbniaaaDoorWHex
namespace Go.Proofs.YticmnckkhbniaaaDoor
open Go.RowKit Sbx Go.Sort

/-- what Unhex hands back -/
def unhexV : Option (List UInt8) → Value
  | some l => .tuple #[.string ⟨l.toArray⟩, .int .i64 0]
  | none => .tuple #[.string ⟨#[]⟩, .int .i64 11]
theorem val_nat (a : UInt8) (h : 0 ≤ val a) : ∃ x : Nat, val a = (x : Int) ∧ x < 16 := by
  rcases val_cases a with h1 | ⟨h1, h2, _⟩
  · omega
  · exact ⟨(val a).toNat, by omega, by omega⟩
theorem or16 : ∀ x : Nat, x < 16 → ∀ y : Nat, y < 16 → bits .or .i64 ((x : Int) * 16) (y : Int) = (x : Int) * 16 + (y : Int) := by
  intro x hx y hy
  have e : (x : Int) * 16 = ((x * 16 : Nat) : Int) := by omega
  have h1 : (BitVec.ofInt 64 ((x * 16 : Nat) : Int)).toNat = x * 16 := by rw [BitVec.ofInt_natCast, BitVec.toNat_ofNat]; exact Nat.mod_eq_of_lt (by omega)
  have h2 : (BitVec.ofInt 64 ((y : Nat) : Int)).toNat = y := by rw [BitVec.ofInt_natCast, BitVec.toNat_ofNat]; exact Nat.mod_eq_of_lt (by omega)
  rw [e]
  show IntKind.i64.wrap ((BitVec.ofInt 64 ((x * 16 : Nat) : Int) ||| BitVec.ofInt 64 ((y : Nat) : Int)).toNat : Int) = _
  rw [BitVec.toNat_or, h1, h2]
  have h3 : (x * 16 ||| y) = x * 16 + y := or_add x y 4 (by omega)
  rw [h3, IntKind.wrap_i64]
  omega
theorem even_bytes (t : List UInt8) (k : Nat) (h : k < t.length) : ∃ b, b = t.getD k 0 ∧ ∃ hb : k < (⟨t.toArray⟩ : ByteArray).size, (⟨t.toArray⟩ : ByteArray)[k] = b := ⟨_, rfl, h, str_get t k h⟩

set_option maxRecDepth 100000 in
set_option maxHeartbeats 1000000 in
theorem unhex_any (t : List UInt8) (w : World) (hlen : t.length ≤ 140737488354000) :
    Calls Tryd.prog 18 #[.string ⟨t.toArray⟩] w fun e w' => e = .returned (unhexV (unhex t)) ∧ Below w.heap.size w w' := by
  obtain ⟨i0, hi, hz0, hz1, hz2⟩ := info_parts info_u8
  have HI := Lib.hid (And.intro hi (And.intro hz0 (And.intro hz1 hz2)))
  have hle : (t.length : Int) ≤ 140737488354000 := by omega
  clear hi hz0 hz1 hz2
  by_cases hodd : t.length % 2 = 1
  · have e := unhex_odd t hodd
    have ho : (((t.length : Int) % 2) != 0) = true := by rw [bne_iff_ne]; omega
    rw [e]
    clear e hodd
    go_enter Tryd.func18, Tryd.ntmps18
    go_wp2_with fail
    go_ret2
    exact ⟨rfl, Below.refl _ _⟩
  · have ho : (((t.length : Int) % 2) != 0) = false := by rw [bne_eq_false_iff_eq]; omega
    have HO := Lib.hid hodd
    have HL := Lib.hid hlen
    clear hodd hlen
    obtain ⟨r, er⟩ : ∃ r, r = unhexV (unhex t) := ⟨_, rfl⟩
    rw [← er]
    have ER := Lib.hid er
    clear er
    go_enter Tryd.func18, Tryd.ntmps18
    go_wp2_with ((with_reducible refine gate_op (Op.makeSlice 46 (Operand.const (.int .i64 0)) (Operand.tmp 14)) rfl ?_); refine wpList_make_own _ rfl _ _ 46 rfl w.heap.size 5 i0 (.int .u8 0) 1 Tryd.underlying46 HI.out.1 HI.out.2.1 HI.out.2.2.1 .i64 .i64 _ (t.length / 2) rfl rfl (by simp) (by rw [HI.out.2.2.2]; have := HL.out; omega) (by have := HL.out; unfold maxLen; omega) (Nat.le_refl _) ?_; intro w5 hown5 hg5)
    have H0 : Hid (w5.ownsRow w.heap.size 5 1 (.slice (some ⟨w.heap.size, 0, none⟩) 0 (t.length / 2)) 0 (b8v [])) ∧ Hid (Below w.heap.size w w5) := ⟨hown5, Below.grown (Below.refl _ _) hg5 (Nat.le_refl _) (by simp)⟩
    clear hown5 hg5 ho
    go_loopw [4, 5] (fun v4 v5 wr => ∃ k : Nat, 2 * k ≤ t.length ∧ v5 = .int .i64 (2 * (k : Int)) ∧ (∃ l, Hid (unhex (t.take (2 * k)) = some l ∧ wr.ownsRow w.heap.size 5 1 v4 k (b8v l))) ∧ Hid (Below w.heap.size w wr))
      (fun _ v5 _ => t.length - (intOf v5).toNat)
    case atStart => exact ⟨0, by omega, rfl, ⟨[], rfl, H0.1⟩, H0.2⟩
    case round =>
      clear H0
      obtain ⟨k, hk, hv, ⟨l, hL⟩, hBr⟩ := hrel
      subst hv
      by_cases hlt : 2 * k < t.length
      · have hlt1 : 2 * k + 1 < t.length := by have := HO.out; omega
        obtain ⟨a, ea, ha0, ha⟩ := even_bytes t (2 * k) hlt
        obtain ⟨b, eb, hb0, hb⟩ := even_bytes t (2 * k + 1) hlt1
        have HE := Lib.hid (And.intro ea eb)
        have k0 : (0 : Int) ≤ (k : Int) := by omega
        have k1 : 2 * (k : Int) + 1 < (t.length : Int) := by omega
        have w1 : IntKind.i64.wrap (2 * (k : Int) + 1) = 2 * (k : Int) + 1 := IntWalk.i64_in _ (by omega)
        have t0 : (2 * (k : Int)).toNat = 2 * k := by omega
        have t1 : (2 * (k : Int) + 1).toNat = 2 * k + 1 := by omega
        have k2 : 0 ≤ 2 * (k : Int) := by omega
        have k3 : 0 ≤ 2 * (k : Int) + 1 := by omega
        have k4 : 2 * (k : Int) < (t.length : Int) := by omega
        clear ea eb
        by_cases hx : val a < 0
        · have e1 : val a = -1 := by rcases val_cases a with h | ⟨h, _⟩ <;> omega
          have hbad : unhex t = none := unhex_bad t k l hL.out.1 hlt1 (by rw [← HE.out.1]; exact .inl hx)
          have HB := Lib.hid hbad
          have ca := fun W => val_any a W
          have cb := fun W => val_any b W
          rw [e1] at ca
          generalize val b = z at cb
          clear hx hbad e1
          go_wp2_with fail
          go_quiet ((go_at_call 37; (first | (with_reducible exact quiet_left (ca _)) | (with_reducible exact quiet_left (cb _)))))
          clear w1 t0 t1
          go_wp2_with fail
          go_ret2
          exact ⟨by rw [ER.out, HB.out]; rfl, drewN_below hBr.out _⟩
        · by_cases hy : val b < 0
          · have e2 : val b = -1 := by rcases val_cases b with h | ⟨h, _⟩ <;> omega
            obtain ⟨x, e1, hx16⟩ := val_nat a (by omega)
            have hbad : unhex t = none := unhex_bad t k l hL.out.1 hlt1 (by rw [← HE.out.2]; exact .inr hy)
            have HB := Lib.hid hbad
            have hx0 : ¬ (x : Int) < 0 := by omega
            have ca := fun W => val_any a W
            have cb := fun W => val_any b W
            rw [e1] at ca
            rw [e2] at cb
            clear hx hy hbad e1 e2
            go_wp2_with fail
            go_quiet ((go_at_call 37; (first | (with_reducible exact quiet_left (ca _)) | (with_reducible exact quiet_left (cb _)))))
            clear w1 t0 t1
            go_wp2_with fail
            go_ret2
            exact ⟨by rw [ER.out, HB.out]; rfl, drewN_below hBr.out _⟩
          · obtain ⟨x, e1, hx16⟩ := val_nat a (by omega)
            obtain ⟨y, e2, hy16⟩ := val_nat b (by omega)
            have hstep := unhex_step t k l hL.out.1 hlt1 (by rw [← HE.out.1]; omega) (by rw [← HE.out.2]; omega)
            rw [← HE.out.1, ← HE.out.2, e1, e2] at hstep
            simp only [Int.toNat_natCast] at hstep
            have hll : l.length = k := by have := unhex_even _ _ hL.out.1; rw [List.length_take] at this; omega
            have hc := or16 x hx16 y hy16
            have hx0 : ¬ (x : Int) < 0 := by omega
            have hy0 : ¬ (y : Int) < 0 := by omega
            have hx8 : (x : Int) < 16 := by omega
            have hy8 : (y : Int) < 16 := by omega
            have HS := Lib.hid (And.intro hstep hll)
            have ca := fun W => val_any a W
            have cb := fun W => val_any b W
            rw [e1] at ca
            rw [e2] at cb
            clear hx hy hstep hll e1 e2
            go_wp2_with fail
            go_quiet ((go_at_call 37; (first | (with_reducible exact quiet_left (ca _)) | (with_reducible exact quiet_left (cb _)))))
            clear w1 t0 t1
            go_wp2_with ((with_reducible refine gate_op (Op.call { callee := .builtin .append, args := #[.tmp 37, .tmp 43], argTypes := #[46, 46] }) rfl ?_); refine wpList_append_own _ rfl (.tmp 37) (.tmp 43) 46 rfl w.heap.size 5 i0 (.int .u8 0) 1 1 Tryd.underlying46 HI.out.1 HI.out.2.1 HI.out.2.2.1 HI.out.2.2.2 rfl (by decide) _ _ _ rfl (World.ownsRow.alloc (w := wr.drewN nq) hL.out.2 _) ⟨wr.heap.size, 0, none⟩ 1 1 (b8v [(x * 16 + y).toUInt8]) rfl rfl (cells_new (by simp [b8v]; omega)) (b8v_one _) (by unfold maxLen; omega) (by omega) (by have := hBr.out.size; simp; omega) ?_; intro v' w6 hown6 hg6 _)
            have hL2 : ∃ l', Hid (unhex (t.take (2 * (k + 1))) = some l' ∧ w6.ownsRow w.heap.size 5 1 v' (k + 1) (b8v l')) := ⟨_, HS.out.1, by
              have h1 := hown6
              unfold b8v at h1 ⊢
              rw [List.map_append]
              exact h1⟩
            have hB6 : Hid (Below w.heap.size w w6) := ((drewN_below hBr.out _).alloc hBr.out.size _).grown hg6 (by have := hBr.out.size; simp; omega) (fun j hj => (hL.out.2.lt j hj).1)
            clear hown6 hg6
            go_roundw
            case rel => exact ⟨k + 1, by omega, by go_num, hL2, hB6⟩
            case measure => simp [intOf]; omega
      · have hk2 : 2 * k = t.length := by omega
        have hfin : unhex t = some l := by have := hL.out.1; rw [hk2, List.take_of_length_le (Nat.le_refl _)] at this; exact this
        have hll : l.length = k := by have := unhex_even _ _ hfin; omega
        have hown := hL.out.2
        rw [← hll] at hown
        have hcv := run_convert_own (P := Tryd.prog) (src := 46) (dst := 9) (e := 5) Tryd.underlying46 Tryd.underlying5 Tryd.underlying9 w.heap.size _ l wr hown
        have HF := Lib.hid hfin
        clear hown hfin hll
        go_wp2_with fail
        go_ret2
        exact ⟨by rw [ER.out, HF.out]; rfl, hBr.out⟩
end Go.Proofs.YticmnckkhbniaaaDoor
