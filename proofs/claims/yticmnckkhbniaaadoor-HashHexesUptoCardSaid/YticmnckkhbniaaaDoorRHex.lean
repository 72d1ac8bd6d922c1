/- strongboxref1.Hex, Unhex. -/
import Derived.Test.YticmnckkhbniaaaDoorWUnhex
import Derived.Laws.MakeOwn
namespace Sbx
theorem put2 (l : List UInt8) (k m : Nat) (a b : UInt8) (h : l.length = 2 * k) : ((l ++ List.replicate (2 * (m + 1)) 0).set (2 * k) a).set (2 * k + 1) b = (l ++ [a, b]) ++ List.replicate (2 * m) 0 := by
  rw [show 2 * (m + 1) = 2 * m + 1 + 1 from by omega, List.replicate_succ, List.replicate_succ, List.set_append_right _ _ (by omega), show 2 * k - l.length = 0 from by omega, List.set_cons_zero, List.set_append_right _ _ (by omega), show 2 * k + 1 - l.length = 1 from by omega]
  simp
def valTo (c : UInt8) : Nat → Int
  | 0 => -1
  | k + 1 => if digits.getD k 0 = c then (k : Int) else valTo c k
/-- what the reference's Unhex holds ahead of byte i -/
def UInv (t : List UInt8) (i : Nat) (cs : List UInt8) : Prop :=
  t.length % 2 = 0 ∧ cs.length = t.length / 2 ∧ ∃ l, unhex (t.take (2 * (i / 2))) = some l ∧
    ((i % 2 = 0 ∧ cs = l ++ List.replicate (t.length / 2 - i / 2) 0) ∨ (i % 2 = 1 ∧ 0 ≤ val (t.getD (i - 1) 0) ∧ cs = l ++ [(val (t.getD (i - 1) 0)).toNat.toUInt8] ++ List.replicate (t.length / 2 - i / 2 - 1) 0))
theorem UInv.start (t : List UInt8) (h : t.length % 2 = 0) : UInv t 0 (List.replicate (t.length / 2) 0) :=
  ⟨h, by simp, [], rfl, .inl ⟨rfl, rfl⟩⟩
theorem take_len_unhex {t l : List UInt8} {k : Nat} (h : unhex (t.take (2 * k)) = some l) (hk : 2 * k ≤ t.length) : l.length = k := by
  have := unhex_even _ _ h
  rw [List.length_take] at this
  omega
theorem two_digits : ∀ x, x < 16 → ∀ y, y < 16 → (16 : UInt8) * x.toUInt8 + y.toUInt8 = (x * 16 + y).toUInt8 := by decide +kernel
theorem UInv.step {t cs : List UInt8} {i : Nat} (h : UInv t i cs) (hi : i < t.length) (hv : 0 ≤ val (t.getD i 0)) :
    UInv t (i + 1) (cs.set (i / 2) (16 * cs.getD (i / 2) 0 + (val (t.getD i 0)).toNat.toUInt8)) := by
  obtain ⟨he, hl, l, hu, hc⟩ := h
  have hll := take_len_unhex hu (by omega)
  refine ⟨he, by rw [List.length_set]; exact hl, ?_⟩
  rcases hc with ⟨h0, rfl⟩ | ⟨h1, hx, rfl⟩
  · refine ⟨l, by rw [show (i + 1) / 2 = i / 2 from by omega]; exact hu, .inr ⟨by omega, hv, ?_⟩⟩
    rw [show (i + 1) / 2 = i / 2 from by omega, show t.length / 2 - i / 2 = (t.length / 2 - i / 2 - 1) + 1 from by omega, List.replicate_succ, List.set_append_right _ _ (by omega), show i / 2 - l.length = 0 from by omega, List.set_cons_zero,
      List.getD_eq_getElem?_getD, List.getElem?_append_right (by omega), show i / 2 - l.length = 0 from by omega]
    simp
  · obtain ⟨k, rfl⟩ : ∃ k, i = 2 * k + 1 := ⟨i / 2, by omega⟩
    rw [show (2 * k + 1) / 2 = k from by omega] at hu hll ⊢
    rw [show 2 * k + 1 - 1 = 2 * k from by omega] at hx ⊢
    have hs := unhex_step t k l hu hi hx hv
    refine ⟨_, by rw [show (2 * k + 1 + 1) / 2 = k + 1 from by omega]; exact hs, .inl ⟨by omega, ?_⟩⟩
    rcases val_cases (t.getD (2 * k) 0) with q | ⟨_, q1, _⟩
    · omega
    rcases val_cases (t.getD (2 * k + 1) 0) with q | ⟨_, q2, _⟩
    · omega
    have hd := two_digits (val (t.getD (2 * k) 0)).toNat (by omega) (val (t.getD (2 * k + 1) 0)).toNat (by omega)
    rw [List.append_assoc, List.set_append_right _ _ (by omega), show k - l.length = 0 from by omega, List.singleton_append, List.set_cons_zero, List.getD_eq_getElem?_getD, List.getElem?_append_right (by omega), show k - l.length = 0 from by omega]
    simp only [List.getElem?_cons_zero, Option.getD_some]
    rw [hd, show (2 * k + 1 + 1) / 2 = k + 1 from by omega, show t.length / 2 - (k + 1) = t.length / 2 - k - 1 from by omega]
    simp
theorem UInv.done {t cs : List UInt8} (h : UInv t t.length cs) : unhex t = some cs := by
  obtain ⟨he, hl, l, hu, hc⟩ := h
  rcases hc with ⟨h0, rfl⟩ | ⟨h1, _⟩
  · rw [show 2 * (t.length / 2) = t.length from by omega, List.take_of_length_le (Nat.le_refl _)] at hu
    simpa using hu
  · omega
theorem UInv.bad {t cs : List UInt8} {i : Nat} (h : UInv t i cs) (hi : i < t.length) (hv : val (t.getD i 0) < 0) : unhex t = none := by
  obtain ⟨he, hl, l, hu, hc⟩ := h
  refine unhex_bad t (i / 2) l hu (by omega) ?_
  rcases hc with ⟨h0, _⟩ | ⟨h1, _⟩
  · exact .inl (by rw [show 2 * (i / 2) = i from by omega]; exact hv)
  · exact .inr (by rw [show 2 * (i / 2) + 1 = i from by omega]; exact hv)
theorem valTo_all (c : UInt8) : valTo c 16 = val c := by
  have h : ∀ n, n < 256 → valTo n.toUInt8 16 = val n.toUInt8 := by decide +kernel
  have := h c.toNat c.toNat_lt
  simpa using this
end Sbx
namespace Go.Proofs.YticmnckkhbniaaaDoor
open Go.RowKit Sbx Go.Sort

theorem made_bytes (n : Nat) : madeCells #[Value.int .u8 0] n = (b8s (List.replicate n 0)).toArray := by
  apply Array.ext'
  simp only [madeCells, b8s, Array.toList_map, Array.toList_range, List.map_replicate]
  rw [List.eq_replicate_iff]
  refine ⟨by simp, fun b hb => ?_⟩
  obtain ⟨x, _, rfl⟩ := List.mem_map.1 hb
  simp [Nat.mod_one]
theorem make_n (n : Nat) (z : Int) (hz : z = (n : Int)) (hn : n ≤ 281474976710656) (w : World) :
    (Instr.makeSlice 46 (.int .i64 z) (.int .i64 z)).run Tryd.prog w = .ok (.slice (some ⟨w.heap.size, 0, none⟩) n n) (w.alloc (.cells (b8s (List.replicate n 0)).toArray 5)) := by
  obtain ⟨i0, hi, hz0, hz1, hz2⟩ := info_parts info_u8
  have h := run_make (P := Tryd.prog) w 46 5 i0 (.int .u8 0) Tryd.underlying46 hi hz0 .i64 .i64 z z (by omega) (Int.le_refl _) (by rw [hz2]; omega) (by omega)
  have e : z.toNat = n := by omega
  rw [e, hz1, Nat.mul_one] at h
  rw [← made_bytes]
  exact h

set_option maxRecDepth 100000 in
set_option maxHeartbeats 1000000 in
theorem rhex_any (t : List UInt8) (w : World) (hlen : t.length ≤ 140737488354000) :
    Calls Tryd.prog 20 #[.string ⟨t.toArray⟩] w fun e w' => e = .returned (.string ⟨(hex t).toArray⟩) ∧ Below w.heap.size w w' := by
  have hmk := make_n (2 * t.length) (2 * (t.length : Int)) (by omega) (by omega) w
  have HL := Lib.hid hlen
  have hle : (t.length : Int) ≤ 140737488354000 := by omega
  clear hlen
  go_enter Tryd.func20, Tryd.ntmps20
  go_wp2_with fail
  clear hmk
  have h0 : (w.alloc (.cells (b8s (List.replicate (2 * t.length) 0)).toArray 5)).heap[w.heap.size]? = some (.cells (b8s (hex (t.take 0) ++ List.replicate (2 * (t.length - 0)) 0)).toArray 5 (0, 0)) := heap_alloc_new w _
  have hB0 : Below w.heap.size w (w.alloc (.cells (b8s (List.replicate (2 * t.length) 0)).toArray 5)) := (Below.refl _ _).alloc (Nat.le_refl _) _
  have H0 := Lib.hid (And.intro h0 hB0)
  clear h0 hB0
  go_loopw [5] (fun v5 wr => ∃ k : Nat, k ≤ t.length ∧ v5 = .int .i64 k ∧ Hid (wr.heap[w.heap.size]? = some (.cells (b8s (hex (t.take k) ++ List.replicate (2 * (t.length - k)) 0)).toArray 5 (0, 0))) ∧ Hid (Below w.heap.size w wr))
    (fun v5 _ => t.length - (intOf v5).toNat)
  case atStart => exact ⟨0, by omega, rfl, H0.out.1, H0.out.2⟩
  case round =>
    clear H0
    obtain ⟨k, hk, hv, hC, hBr⟩ := hrel
    subst hv
    by_cases hlt : k < t.length
    · have hll : (hex (t.take k)).length = 2 * k := by rw [hex_length, List.length_take]; omega
      have hsz : (b8s (hex (t.take k) ++ List.replicate (2 * (t.length - k)) 0)).toArray.size = 2 * t.length := by rw [List.size_toArray, b8s_length, List.length_append, hll, List.length_replicate]; omega
      obtain ⟨v0, c0⟩ : ∃ v, wr.cell? ⟨w.heap.size, 2 * k, none⟩ = some v := cell_ex hC.out (by rw [hsz]; omega)
      obtain ⟨v1, c1⟩ : ∃ v, wr.cell? ⟨w.heap.size, 2 * k + 1, none⟩ = some v := cell_ex hC.out (by rw [hsz]; omega)
      have f0 : wr.frozen? ⟨w.heap.size, 2 * k, none⟩ = false := frozen_of_row wr _ _ _ _ hC.out
      have f1 : wr.frozen? ⟨w.heap.size, 2 * k + 1, none⟩ = false := frozen_of_row wr _ _ _ _ hC.out
      obtain ⟨b, ebt, hb0, hb⟩ := even_bytes t k hlt
      have hb256 := b.toNat_lt
      have q0 : 0 ≤ (b.toNat : Int) := by omega
      have q1 : (b.toNat : Int) / 16 < 16 := by omega
      have q2 : 0 ≤ (b.toNat : Int) / 16 := by omega
      have q3 : (b.toNat : Int) % 16 < 16 := by omega
      have q4 : 0 ≤ (b.toNat : Int) % 16 := by omega
      have k0 : (0 : Int) ≤ (k : Int) := by omega
      have k1 : (k : Int) < (t.length : Int) := by omega
      have k2 : 2 * (k : Int) < 2 * (t.length : Int) := by omega
      have k3 : 2 * (k : Int) + 1 < 2 * (t.length : Int) := by omega
      have E := Lib.hid (And.intro ebt hll)
      clear ebt hll hsz
      go_wp2_with fail
      go_roundw
      case rel =>
        refine ⟨k + 1, by omega, by go_num, ?_, (hBr.out.setCell (p := ⟨w.heap.size, 2 * k, none⟩) (Nat.le_refl _) _).setCell (p := ⟨w.heap.size, 2 * k + 1, none⟩) (Nat.le_refl _) _⟩
        have e1 := heap_setCell_same wr w.heap.size (2 * k) _ _ (.int .u8 ((hexd (b.toNat / 16)).toNat : Int)) hC.out
        have e2 := heap_setCell_same _ w.heap.size (2 * k + 1) _ _ (.int .u8 ((hexd (b.toNat % 16)).toNat : Int)) e1
        rw [b8s_arr_set, b8s_arr_set, show t.length - k = (t.length - (k + 1)) + 1 from by omega, put2 _ _ _ _ _ E.out.2] at e2
        rw [hex_snoc t k hlt, ← E.out.1]
        simp only [digit_get]
        exact e2
      case measure => simp [intOf]; omega
    · obtain rfl : k = t.length := by omega
      have hC' := hC.out
      rw [List.take_of_length_le (Nat.le_refl _), Nat.sub_self, Nat.mul_zero, List.replicate_zero, List.append_nil] at hC'
      have hcv := run_convert_b8 (P := Tryd.prog) (src := 46) (dst := 9) (e := 5) Tryd.underlying46 Tryd.underlying5 Tryd.underlying9 ⟨w.heap.size, 0, none⟩ (hex t) (2 * t.length) wr (fun j hj => by
        rw [addr_add, Nat.zero_add, cell_of_row wr _ _ _ _ _ hC', b8s_arr_get _ _ hj])
      rw [hex_length] at hcv
      clear hC'
      go_wp2_with fail
      go_ret
      exact ⟨rfl, hBr.out⟩

theorem u8_lin (d : UInt8) (x : Nat) (hx : x < 16) : 16 * (d.toNat : Int) % 256 + (x : Int) = ((16 * d + x.toUInt8).toNat : Int) := by
  have h1 : (16 * d + x.toUInt8).toNat = (16 * d.toNat + x) % 256 := by
    rw [UInt8.toNat_add, UInt8.toNat_mul]
    simp
  rw [h1]
  omega

set_option maxRecDepth 100000 in
set_option maxHeartbeats 2000000 in
theorem runhex_any (t : List UInt8) (w : World) (hlen : t.length ≤ 140737488354000) :
    Calls Tryd.prog 19 #[.string ⟨t.toArray⟩] w fun e w' => e = .returned (unhexV (unhex t)) ∧ Below w.heap.size w w' := by
  obtain ⟨h, eh⟩ : ∃ h, h = t.length / 2 := ⟨_, rfl⟩
  have hmk := make_n h ((t.length : Int) / 2) (by omega) (by omega) w
  have HH := Lib.hid eh
  have hle : (t.length : Int) ≤ 140737488354000 := by omega
  obtain ⟨r, er⟩ : ∃ r, r = unhexV (unhex t) := ⟨_, rfl⟩
  rw [← er]
  have ER := Lib.hid er
  clear hlen eh er
  go_enter Tryd.func19, Tryd.ntmps19
  go_wp2_with fail
  clear hmk
  have h0 : (w.alloc (.cells (b8s (List.replicate h 0)).toArray 5)).heap[w.heap.size]? = some (.cells (b8s (List.replicate h 0)).toArray 5 (0, 0)) := heap_alloc_new w _
  have hB0 : Below w.heap.size w (w.alloc (.cells (b8s (List.replicate h 0)).toArray 5)) := (Below.refl _ _).alloc (Nat.le_refl _) _
  have H0 := Lib.hid (And.intro h0 hB0)
  clear h0 hB0
  go_loopw [5, 6, 7] (fun v5 v6 v7 wr => ∃ (i : Nat) (cs : List UInt8), i ≤ t.length ∧ v5 = .int .i64 i ∧ Hid (cs.length = h ∧ (UInv t i cs ∨ (t.length % 2 = 1 ∧ i = 0))) ∧ Hid (wr.heap[w.heap.size]? = some (.cells (b8s cs).toArray 5 (0, 0))) ∧ Hid (Below w.heap.size w wr))
    (fun v5 _ _ _ => t.length - (intOf v5).toNat)
  case atStart =>
    refine ⟨0, _, by omega, rfl, ⟨by simp, ?_⟩, H0.out.1, H0.out.2⟩
    by_cases ho : t.length % 2 = 1
    · exact .inr ⟨ho, rfl⟩
    · rw [HH.out]; exact .inl (UInv.start t (by omega))
  case round =>
    clear H0
    obtain ⟨i, cs, hi, hv, hI, hC, hBr⟩ := hrel
    subst hv
    by_cases hlt : i < t.length
    · obtain ⟨c, ec, hc0, hc⟩ := even_bytes t i hlt
      have EC := Lib.hid ec
      have k0 : (0 : Int) ≤ (i : Int) := by omega
      have k1 : (i : Int) < (t.length : Int) := by omega
      clear ec
      go_wp2_with fail
      obtain ⟨wo, rfl⟩ : ∃ wo : World, wo = wr := ⟨_, rfl⟩
      go_loopw [6, 7] (fun v6 v7 w3 => ∃ k : Nat, k ≤ 16 ∧ v7 = .int .i64 k ∧ (∃ z, v6 = .int .i64 z ∧ Hid (z = valTo c k)) ∧ ∃ n, w3 = wo.drewN n)
        (fun _ v7 _ => 16 - (intOf v7).toNat)
      case atStart => exact ⟨0, by omega, rfl, ⟨-1, rfl, rfl⟩, 0, rfl⟩
      case round =>
        obtain ⟨k, hk, hv7, ⟨z, hv6, hz⟩, n, hw⟩ := hrel
        subst hv6
        subst hw
        by_cases hk16 : k < 16
        · subst hv7
          have k2 : (k : Int) < 16 := by omega
          have k3 : (0 : Int) ≤ (k : Int) := by omega
          have hd := digit_get k hk16
          obtain ⟨d, ed⟩ : ∃ d, d = hexd k := ⟨_, rfl⟩
          rw [← ed] at hd
          have ED := Lib.hid ed
          clear ed
          by_cases hq : d = c
          · have hq1 : ((d.toNat : Int) == (c.toNat : Int)) = true := by rw [hq]; simp
            have HQ := Lib.hid hq
            clear hq
            go_wp2_with fail
            go_quiet (fail)
            go_wp2_with fail
            go_roundw
            case rel => exact ⟨k + 1, by omega, by go_num, ⟨_, rfl, (by rw [if_pos (by rw [← HQ.out, ED.out]; rfl)] : ((k : Nat) : Int) = if digits.getD k 0 = c then (k : Int) else valTo c k)⟩, _, rfl⟩
            case measure => simp [intOf]; omega
          · have hq1 : ((d.toNat : Int) == (c.toNat : Int)) = false := by
              rw [beq_eq_false_iff_ne]; intro h; exact hq (UInt8.toNat_inj.1 (by omega))
            have HQ := Lib.hid hq
            clear hq
            go_wp2_with fail
            go_quiet (fail)
            go_wp2_with fail
            go_roundw
            case rel => exact ⟨k + 1, by omega, by go_num, ⟨_, rfl, (by rw [if_neg (by intro h; exact HQ.out (by rw [ED.out]; exact h))]; exact hz.out : z = if digits.getD k 0 = c then (k : Int) else valTo c k)⟩, _, rfl⟩
            case measure => simp [intOf]; omega
        · obtain rfl : k = 16 := by omega
          replace hv7 := hv7.trans (show _ = Value.int .i64 16 from rfl)
          subst hv7
          have hz' : z = val c := by rw [hz.out]; exact valTo_all c
          have hC9 : (wo.drewN n).heap[w.heap.size]? = some (.cells (b8s cs).toArray 5 (0, 0)) := hC.out
          have hB9 : Below w.heap.size w (wo.drewN n) := drewN_below hBr.out n
          generalize wo.drewN n = w9 at *
          have HC := Lib.hid hC9
          have HB := Lib.hid hB9
          have HZ := Lib.hid hz'
          clear hC hBr hC9 hB9 hz hz' hk hk16
          by_cases hodd : t.length % 2 = 1
          · have e1 := unhex_odd t hodd
            have HE := Lib.hid e1
            have ho : (((t.length : Int) % 2) == 1) = true := beq_iff_eq.2 (by omega)
            clear e1 hodd
            by_cases hneg : z < 0
            · go_wp2_with fail
              go_ret2
              exact ⟨by rw [ER.out, HE.out]; rfl, HB.out⟩
            · go_wp2_with fail
              go_ret2
              exact ⟨by rw [ER.out, HE.out]; rfl, HB.out⟩
          · have hu : UInv t i cs := by
              rcases hI.out.2 with h | ⟨h, _⟩
              · exact h
              · exact absurd h hodd
            have ho : (((t.length : Int) % 2) == 1) = false := beq_eq_false_iff_ne.2 (by omega)
            have hev : t.length % 2 = 0 := by omega
            clear hodd
            by_cases hneg : z < 0
            · have HE := Lib.hid (hu.bad hlt (by rw [← EC.out, ← HZ.out]; exact hneg))
              clear hu hev
              go_wp2_with fail
              go_ret2
              exact ⟨by rw [ER.out, HE.out]; rfl, HB.out⟩
            · have hst := hu.step hlt (by rw [← EC.out, ← HZ.out]; omega)
              rw [← EC.out, ← HZ.out] at hst
              obtain ⟨x, hx, hx16⟩ := val_nat c (by rw [← HZ.out]; omega)
              rw [← HZ.out] at hx
              subst hx
              obtain ⟨d, ed⟩ : ∃ d, d = cs.getD (i / 2) 0 := ⟨_, rfl⟩
              rw [← ed] at hst
              simp only [Int.toNat_natCast] at hst
              have hi2 : i / 2 < h := by rw [HH.out]; omega
              have hcl := hI.out.1
              have cd : w9.cell? ⟨w.heap.size, i / 2, none⟩ = some (.int .u8 (d.toNat : Int)) := by
                rw [cell_of_row w9 _ _ _ _ _ HC.out, b8s_arr_get _ _ (by rw [hcl]; exact hi2), ed]
              have fd : w9.frozen? ⟨w.heap.size, i / 2, none⟩ = false := frozen_of_row w9 _ _ _ _ HC.out
              have hd256 := d.toNat_lt
              have d0 : 0 ≤ (d.toNat : Int) := by omega
              have x0 : 0 ≤ (x : Int) := by omega
              have x16 : (x : Int) < 16 := by omega
              have i0 : 0 ≤ (i : Int) / 2 := by omega
              have i1 : (i : Int) / 2 < (h : Int) := by omega
              have HS := Lib.hid (And.intro hst hcl)
              clear hst hcl ed hu hev
              go_wp2_with fail
              go_roundw
              case rel =>
                refine ⟨i + 1, _, by omega, by go_num, ⟨by rw [List.length_set]; exact HS.out.2, .inl HS.out.1⟩, ?_, HB.out.setCell (p := ⟨w.heap.size, i / 2, none⟩) (Nat.le_refl _) _⟩
                have e1 := heap_setCell_same w9 w.heap.size (i / 2) _ _ (.int .u8 ((16 * d + x.toUInt8).toNat : Int)) HC.out
                rw [b8s_arr_set] at e1
                rw [u8_lin d x hx16]
                exact e1
              case measure => simp [intOf]; omega
    · obtain rfl : i = t.length := by omega
      have hfin : unhex t = some cs := by
        rcases hI.out.2 with h | ⟨h1, h2⟩
        · exact h.done
        · omega
      have hcv := run_convert_b8 (P := Tryd.prog) (src := 46) (dst := 9) (e := 5) Tryd.underlying46 Tryd.underlying5 Tryd.underlying9 ⟨w.heap.size, 0, none⟩ cs h wr (fun j hj => by
        rw [addr_add, Nat.zero_add, cell_of_row wr _ _ _ _ _ hC.out, b8s_arr_get _ _ hj])
      rw [hI.out.1] at hcv
      have HF := Lib.hid hfin
      clear hfin
      go_wp2_with fail
      go_ret2
      exact ⟨by rw [ER.out, HF.out]; rfl, hBr.out⟩
end Go.Proofs.YticmnckkhbniaaaDoor
