/- strongboxref19.formed, Check. -/
import Derived.Test.YthhjmodkodkgpaaDoorMCheck
namespace Go.Proofs.YthhjmodkodkgpaaDoor
open Go.RowKit Sbx Go.Sort

set_option maxRecDepth 100000 in
theorem formed_any (l : List (List UInt8)) (n : Nat) (A : Option Addr) (cap : Nat) (w : World) (hl : l.length ≤ 1000000000000) (hR : Reads w w.heap.size A l.length (fun j => .string ⟨(l.getD j []).toArray⟩)) :
    Calls Tryd.prog 55 #[.slice A l.length cap, .int .i64 (n : Int)] w fun e w' => e = .returned (.bool (decide (l.length = n) && all32 l)) ∧ w = w' := by
  have HR := Lib.hid hR
  have hlz : (l.length : Int) ≤ 1000000000000 := by omega
  clear hR hl
  by_cases hn : l.length = n
  · rw [show (decide (l.length = n) && all32 l) = all32 l from by simp [hn]]
    have hne : ((l.length : Int) != (n : Int)) = false := by rw [bne_eq_false_iff_eq]; omega
    clear hn
    go_enter Tryd.func55, Tryd.ntmps55
    go_wp2_with fail
    go_loopw [5] (fun v5 wr => ∃ k : Nat, k ≤ l.length ∧ v5 = .int .i64 (k : Int) ∧ Hid (∀ j, j < k → (l.getD j []).length = 32) ∧ w = wr)
      (fun v5 _ => l.length - (intOf v5).toNat)
    case atStart => exact ⟨0, by omega, rfl, fun j h => absurd h (Nat.not_lt_zero j), rfl⟩
    case round =>
      obtain ⟨k, hk, rfl, hall, rfl⟩ := hrel
      by_cases hlt : k < l.length
      · obtain ⟨b, off, rfl, hb, hcell⟩ := HR.out k hlt
        obtain ⟨s, es⟩ : ∃ s, s = l.getD k [] := ⟨_, rfl⟩
        have hcell' : w.cell? ⟨b, off + k, none⟩ = some (.string ⟨(l.getD k []).toArray⟩) := hcell
        rw [← es] at hcell'
        clear hcell
        have k0 : (0 : Int) ≤ (k : Int) := by omega
        have k1 : (k : Int) < (l.length : Int) := by omega
        have ES := Lib.hid es
        clear es
        by_cases h32 : s.length = 32
        · have hne : ((s.length : Int) != 32) = false := by rw [bne_eq_false_iff_eq]; omega
          have H32 := Lib.hid h32
          clear h32
          go_wp2_with fail
          go_roundw
          case rel =>
            refine ⟨k + 1, by omega, by go_num, fun j hj => ?_, trivial⟩
            by_cases hjk : j < k
            · exact hall.out j hjk
            · obtain rfl : j = k := by omega
              rw [← ES.out]; exact H32.out
          case measure => simp [intOf]; omega
        · have hne : ((s.length : Int) != 32) = true := by rw [bne_iff_ne]; omega
          have hf : all32 l = false := by
            unfold all32
            rw [List.all_eq_false]
            refine ⟨s, ?_, by simpa using h32⟩
            rw [ES.out, List.getD_eq_getElem?_getD, List.getElem?_eq_getElem hlt]
            exact List.getElem_mem hlt
          have HF := Lib.hid hf
          clear h32 hf
          go_wp2_with fail
          go_ret
          exact ⟨by rw [HF.out]; rfl, rfl⟩
      · obtain rfl : k = l.length := by omega
        have ht : all32 l = true := by
          unfold all32
          rw [List.all_eq_true]
          intro s hs
          obtain ⟨j, hj, rfl⟩ := List.getElem_of_mem hs
          have := hall.out j hj
          rw [List.getD_eq_getElem?_getD, List.getElem?_eq_getElem hj] at this
          simpa using this
        have HT := Lib.hid ht
        clear ht
        go_wp2_with fail
        go_ret
        exact ⟨by rw [HT.out]; rfl, rfl⟩
  · rw [show (decide (l.length = n) && all32 l) = false from by simp [hn]]
    have hne : ((l.length : Int) != (n : Int)) = true := by rw [bne_iff_ne]; omega
    clear hn
    go_enter Tryd.func55, Tryd.ntmps55
    go_wp2_with fail
    go_ret
    exact ⟨rfl, rfl⟩

theorem Bl.belowL {w0 w w' : World} {e : TypeId} {v : Value} {xs : List Value} (h : Hid (Bl w0 w)) (hb : Hid (Lst w w' e v xs)) : Hid (Bl w0 w') := Below.trans h.out (Below.mono hb.out.2 (Below.size h.out))
theorem Bl.bel {w0 w : World} (h : Hid (Bl w0 w)) : Below w0.heap.size w0 w := h.out
theorem Bl.still1 {w0 w : World} {f : FuncId} {args : Array Value} {v : Ending} (h : Hid (Bl w0 w)) (c : Calls Tryd.prog f args w fun e w' => e = v ∧ w = w') : Calls Tryd.prog f args w fun e w' => e = v ∧ Hid (Bl w0 w') :=
  c.mono fun _ _ ⟨he, hb⟩ => ⟨he, by rw [← hb]; exact h⟩
set_option maxRecDepth 100000 in
set_option maxHeartbeats 1000000 in
theorem rcheck_range (root : List UInt8) (n i : Int) (leaf : List UInt8) (P : List (List UInt8)) (A : Option Addr) (cap : Nat) (w : World) (hr : root.length = 32) (hni : n < 1 ∨ n > 4096 ∨ i < 0 ∨ i ≥ n) :
    Calls Tryd.prog 25 #[.string ⟨root.toArray⟩, .int .i64 n, .int .i64 i, .string ⟨leaf.toArray⟩, .slice A P.length cap] w fun e w' => e = .returned (.int .i64 (190)) ∧ Below w.heap.size w w' := by
  have hne : ((root.length : Int) != 32) = false := by rw [bne_eq_false_iff_eq]; omega
  have HS := Bl.start w
  clear hr
  go_enter Tryd.func25, Tryd.ntmps25
  go_wp2_with fail
  all_goals (go_ret; exact ⟨rfl, HS.out⟩)
set_option maxRecDepth 100000 in
set_option maxHeartbeats 1000000 in
theorem rcheck_form (root : List UInt8) (N I : Nat) (leaf : List UInt8) (P : List (List UInt8)) (A : Option Addr) (cap : Nat) (w : World) (hr : root.length = 32) (hN : N ≤ 4096) (hI : I < N) (hPl : P.length ≤ 1000000000000)
    (hok : mok N I P = false) (hR : Reads w w.heap.size A P.length (fun j => .string ⟨(P.getD j []).toArray⟩)) : Calls Tryd.prog 25 #[.string ⟨root.toArray⟩, .int .i64 (N : Int), .int .i64 (I : Int), .string ⟨leaf.toArray⟩, .slice A P.length cap] w fun e w' => e = .returned (.int .i64 (192)) ∧ Below w.heap.size w w' := by
  have hne : ((root.length : Int) != 32) = false := by rw [bne_eq_false_iff_eq]; omega
  have HS := Bl.start w
  have c1 : ¬ (N : Int) < 1 := by omega
  have c2 : ¬ (4096 : Int) < N := by omega
  have c3 : ¬ (I : Int) < 0 := by omega
  have c4 : ¬ (N : Int) ≤ I := by omega
  have cs := fun W => rsides_any N N I W (Nat.le_refl _) (by omega) (by omega)
  have hlen := msides_length N I
  unfold mok at hok
  obtain ⟨S, eS⟩ : ∃ S, S = msides N I := ⟨_, rfl⟩
  rw [← eS] at cs hlen hok
  have CS := Lib.hid cs
  have hSl : S.length ≤ 4096 := by omega
  have cf := fun W hr => formed_any P S.length A cap W hPl hr
  rw [show (decide (P.length = S.length) && all32 P) = false from hok] at cf
  have CF := Lib.hid cf
  have HR := Lib.hid hR
  clear hr cs hlen eS hok hR cf
  go_enter Tryd.func25, Tryd.ntmps25
  go_wp2_with (first
    | (go_at_call 54; refine (CS.out _).mono ?_; clear CS; rintro e w1 ⟨v18, rfl, HD⟩; obtain ⟨A18, c18, rfl, hc18, hm18⟩ := HD.out.form; rw [bools_length] at hc18 ⊢; replace HS := Bl.belowL HS HD)
    | (go_at_call 55; refine (Bl.still1 HS (CF.out _ (HR.out.belowW (Bl.bel HS)))).mono ?_; clear HS; rintro e w' ⟨rfl, HS⟩))
  go_ret
  exact ⟨rfl, HS.out⟩
set_option maxRecDepth 100000 in
set_option maxHeartbeats 1000000 in
theorem rcheck_end (root : List UInt8) (N I : Nat) (leaf : List UInt8) (P : List (List UInt8)) (A : Option Addr) (cap : Nat) (w : World) (hr : root.length = 32) (hN : N ≤ 4096) (hI : I < N) (hPl : P.length ≤ 1000000000000) (hl : leaf.length ≤ 140737488349000) (hcap : P.length ≤ cap)
    (hPS : P.length = (msides N I).length) (hal : all32 P = true) (hR : Reads w w.heap.size A P.length (fun j => .string ⟨(P.getD j []).toArray⟩)) : Calls Tryd.prog 25 #[.string ⟨root.toArray⟩, .int .i64 (N : Int), .int .i64 (I : Int), .string ⟨leaf.toArray⟩, .slice A P.length cap] w fun e w' => e = .returned (.int .i64 (if mtop N I leaf P ≠ root then 192 else 0)) ∧ Below w.heap.size w w' := by
  have hne : ((root.length : Int) != 32) = false := by rw [bne_eq_false_iff_eq]; omega
  have HS := Bl.start w
  have c1 : ¬ (N : Int) < 1 := by omega
  have c2 : ¬ (4096 : Int) < N := by omega
  have c3 : ¬ (I : Int) < 0 := by omega
  have c4 : ¬ (N : Int) ≤ I := by omega
  have cs := fun W => rsides_any N N I W (Nat.le_refl _) (by omega) (by omega)
  have hgd := getD_le_of_all P hal
  have ct := fun W hr => rtexts_any N I leaf P A cap W (by omega) (by omega) hl hgd hPS hcap hr
  have hlen := msides_length N I
  unfold mtop
  obtain ⟨S, eS⟩ : ∃ S, S = msides N I := ⟨_, rfl⟩
  rw [← eS] at cs hlen hPS ct ⊢
  have CS := Lib.hid cs
  have CT := Lib.hid ct
  have hSl : S.length ≤ 4096 := by omega
  have cf := fun W hr => formed_any P S.length A cap W hPl hr
  rw [show (decide (P.length = S.length) && all32 P) = true from by rw [hal]; simpa using hPS] at cf
  have CF := Lib.hid cf
  have HR := Lib.hid hR
  have htl := mtext_le S leaf P hgd S.length
  obtain ⟨T, eT⟩ : ∃ T, T = mtext S leaf P S.length := ⟨_, rfl⟩
  rw [← eT] at htl ⊢
  have c5 := fun W => rsum_any T W (by omega)
  obtain ⟨D, eD⟩ : ∃ D, D = sha T := ⟨_, rfl⟩
  rw [← eD] at c5 ⊢
  have C5 := Lib.hid c5
  have HT := Lib.hid eT
  have hrr : (if D ≠ root then (192 : Int) else 0) = if (D == root) = true then 0 else 192 := by by_cases h : D = root <;> simp [h]
  rw [hrr]
  clear hr cs hlen eS hPS hal hR hgd ct htl c5 eT eD hrr cf hl
  cases hq : (D == root)
  all_goals
    go_enter Tryd.func25, Tryd.ntmps25
    go_wp2_with (first
      | (go_at_call 54; refine (CS.out _).mono ?_; clear CS; rintro e w1 ⟨v18, rfl, HD⟩; obtain ⟨A18, c18, rfl, hc18, hm18⟩ := HD.out.form; rw [bools_length] at hc18 ⊢; replace HS := Bl.belowL HS HD)
      | (go_at_call 55; refine (Bl.still1 HS (CF.out _ (HR.out.belowW (Bl.bel HS)))).mono ?_; clear HS; rintro e w' ⟨rfl, HS⟩)
      | (go_at_call 56; refine (CT.out _ (HR.out.belowW (Bl.bel HS))).mono ?_; clear CT; rintro e w2 ⟨v, rfl, HD2⟩; obtain ⟨g, c, rfl, hgl⟩ := HD2.out.shape (strs_mtexts_ne _ _ _ _)
         have hlast := HD2.out.cell S.length _ (strs_getD _ S.length (by rw [mtexts_length]; omega))
         rw [mtexts_getD _ _ _ _ _ (Nat.le_refl _), ← HT.out] at hlast
         rw [strs_length, mtexts_length]
         replace HS := Bl.belowL HS HD2)
      | (go_at_call 34; refine (Bl.call HS C5.out).mono ?_; clear HS; rintro e w' ⟨rfl, HS⟩))
    go_ret
    exact ⟨rfl, HS.out⟩
set_option maxRecDepth 100000 in
theorem rcheck_any (root : List UInt8) (n i : Int) (leaf : List UInt8) (P : List (List UInt8)) (A : Option Addr) (cap : Nat) (w : World) (hl : leaf.length ≤ 140737488349000) (hrl : root.length ≤ 9223372036854775807) (hPl : P.length ≤ 1000000000000)
    (hcap : P.length ≤ cap) (hR : Reads w w.heap.size A P.length (fun j => .string ⟨(P.getD j []).toArray⟩)) : Calls Tryd.prog 25 #[.string ⟨root.toArray⟩, .int .i64 n, .int .i64 i, .string ⟨leaf.toArray⟩, .slice A P.length cap] w fun e w' => e = .returned (.int .i64 (mcheck root n i leaf P)) ∧ Below w.heap.size w w' := by
  by_cases hr : root.length = 32
  · by_cases hni : n < 1 ∨ n > 4096 ∨ i < 0 ∨ i ≥ n
    · rw [mcheck, if_neg (by omega), if_pos hni]
      exact rcheck_range root n i leaf P A cap w hr hni
    · obtain ⟨N, rfl⟩ : ∃ N : Nat, n = N := ⟨n.toNat, by omega⟩
      obtain ⟨I, rfl⟩ : ∃ I : Nat, i = I := ⟨i.toNat, by omega⟩
      rw [mcheck, if_neg (by omega), if_neg hni, Int.toNat_natCast, Int.toNat_natCast]
      cases hok : mok N I P with
      | false =>
        rw [if_pos rfl]
        exact rcheck_form root N I leaf P A cap w hr (by omega) (by omega) hPl hok hR
      | true =>
        rw [if_neg (by decide)]
        have h2 := hok
        unfold mok at h2
        rw [Bool.and_eq_true, decide_eq_true_iff] at h2
        exact rcheck_end root N I leaf P A cap w hr (by omega) (by omega) hPl hl hcap h2.1 h2.2 hR
  · rw [mcheck, if_pos hr]
    have hne : ((root.length : Int) != 32) = true := by rw [bne_iff_ne]; omega
    clear hr hR
    go_enter Tryd.func25, Tryd.ntmps25
    go_wp2_with fail
    go_ret
    exact ⟨rfl, Below.refl _ _⟩
end Go.Proofs.YthhjmodkodkgpaaDoor
