/- merkle.Check, strongboxref19.Check. -/
import Derived.Test.YthhjmodkodkgpaaDoorMTexts
import Derived.Test.YthhjmodkodkgpaaDoorMSame
import Derived.Test.YthhjmodkodkgpaaDoorMNode2
namespace Sbx
/-- what Check says -/
def mtop (n i : Nat) (leaf : List UInt8) (P : List (List UInt8)) : List UInt8 := sha (mtext (msides n i) leaf P (msides n i).length)
def mok (n i : Nat) (P : List (List UInt8)) : Bool := decide (P.length = (msides n i).length) && P.all fun s => s.length == 32
def mcheck (root : List UInt8) (n i : Int) (leaf : List UInt8) (P : List (List UInt8)) : Int :=
  if root.length ≠ 32 then 193 else if n < 1 ∨ n > 4096 ∨ i < 0 ∨ i ≥ n then 190
  else if mok n.toNat i.toNat P = false then 192 else if mtop n.toNat i.toNat leaf P ≠ root then 192 else 0
end Sbx
namespace Go.Proofs.YthhjmodkodkgpaaDoor
open Go.RowKit Sbx Go.Sort

theorem all_one (a : List UInt8) (g : Nat) (w : World) (h0 : w.cell? ⟨g, 0, none⟩ = some (.string ⟨a.toArray⟩)) (hg : g < w.heap.size) :
    Calls Tryd.prog 50 #[.slice (some ⟨g, 0, none⟩) 1 1] w fun e w' => e = .returned (.bool (decide (a.length = 32))) ∧ w = w' := by
  have h := all_any [a] (some ⟨g, 0, none⟩) 1 w (by simp) (fun i hi => ⟨g, 0, rfl, hg, by
    rw [Nat.zero_add]
    match i, hi with
    | 0, _ => exact h0⟩)
  rw [show all32 [a] = decide (a.length = 32) from by simp [all32]; rfl] at h
  exact h

theorem getD_le_of_all (P : List (List UInt8)) (h : (P.all fun s => s.length == 32) = true) (j : Nat) : (P.getD j []).length ≤ 32 := by
  rw [List.getD_eq_getElem?_getD]
  by_cases hj : j < P.length
  · rw [List.getElem?_eq_getElem hj]
    have := List.all_eq_true.1 h _ (List.getElem_mem hj)
    simp only [Option.getD_some]
    have := beq_iff_eq.1 this
    omega
  · rw [List.getElem?_eq_none (by omega)]
    simp

theorem St.belowL {w0 w w' : World} {e : TypeId} {v : Value} {xs : List Value} (h : Hid (St w0 w)) (hb : Hid (Lst w w' e v xs)) : Hid (St w0 w') := St.below h hb.out.2
theorem St.bel {w0 w : World} (h : Hid (St w0 w)) : Below w0.heap.size w0 w := h.out.2
theorem St.glob {w0 w : World} (h : Hid (St w0 w)) : Glob w := h.out.1
theorem Reads.belowW {w w' : World} {A : Option Addr} {n : Nat} {f : Nat → Value} (h : Reads w w.heap.size A n f) (hb : Below w.heap.size w w') : Reads w' w'.heap.size A n f := fun i hi => by
  obtain ⟨b, off, e, hlt, hc⟩ := h i hi
  exact ⟨b, off, e, Nat.lt_of_lt_of_le hlt hb.size, (hb.cell (p := ⟨b, off + i, none⟩) hlt).trans hc⟩
theorem strs_mtexts_ne (S : List Bool) (leaf : List UInt8) (P : List (List UInt8)) (h : Nat) : strs (mtexts S leaf P h) ≠ [] := by
  intro e
  have := congrArg List.length e
  simp [strs_length, mtexts_length] at this
set_option maxRecDepth 100000 in
set_option maxHeartbeats 1000000 in
theorem check_root (root : List UInt8) (n i : Int) (leaf : List UInt8) (P : List (List UInt8)) (A : Option Addr) (cap : Nat) (w : World) (hG : Glob w) (hr : root.length ≠ 32) :
    Calls Tryd.prog 22 #[.string ⟨root.toArray⟩, .int .i64 n, .int .i64 i, .string ⟨leaf.toArray⟩, .slice A P.length cap] w fun e w' => e = .returned (.int .i64 193) ∧ Below w.heap.size w w' := by
  have HS := St.start hG
  have hd : decide (root.length = 32) = false := by simpa using hr
  have ca := fun (g : Nat) (W : World) h0 hg => all_one root g W h0 hg
  rw [hd] at ca
  have CA := Lib.hid ca
  clear hG hd ca hr
  go_enter Tryd.func22, Tryd.ntmps22
  go_wp2_with (go_at_call 50; with_reducible refine (St.still (St.alloc HS _) (CA.out _ _ (by simp) (by simp))).mono ?_; clear HS; rintro e w' ⟨rfl, HS⟩)
  go_ret
  exact ⟨rfl, HS.out.2⟩
set_option maxRecDepth 100000 in
set_option maxHeartbeats 1000000 in
theorem check_range (root : List UInt8) (n i : Int) (leaf : List UInt8) (P : List (List UInt8)) (A : Option Addr) (cap : Nat) (w : World) (hG : Glob w) (hr : root.length = 32) (hni : n < 1 ∨ n > 4096 ∨ i < 0 ∨ i ≥ n) :
    Calls Tryd.prog 22 #[.string ⟨root.toArray⟩, .int .i64 n, .int .i64 i, .string ⟨leaf.toArray⟩, .slice A P.length cap] w fun e w' => e = .returned (.int .i64 190) ∧ Below w.heap.size w w' := by
  have HS := St.start hG
  have hd : decide (root.length = 32) = true := by simpa using hr
  have ca := fun (g : Nat) (W : World) h0 hg => all_one root g W h0 hg
  rw [hd] at ca
  have CA := Lib.hid ca
  clear hG hd ca hr
  go_enter Tryd.func22, Tryd.ntmps22
  go_wp2_with (go_at_call 50; with_reducible refine (St.still (St.alloc HS _) (CA.out _ _ (by simp) (by simp))).mono ?_; clear HS; rintro e w' ⟨rfl, HS⟩)
  all_goals (go_ret; exact ⟨rfl, HS.out.2⟩)
set_option maxRecDepth 100000 in
set_option maxHeartbeats 1000000 in
theorem check_len (root : List UInt8) (N I : Nat) (leaf : List UInt8) (P : List (List UInt8)) (A : Option Addr) (cap : Nat) (w : World) (hG : Glob w) (hr : root.length = 32) (hN : N ≤ 4096) (hI : I < N) (hPl : P.length ≤ 1000000000000)
    (hne : P.length ≠ (msides N I).length) : Calls Tryd.prog 22 #[.string ⟨root.toArray⟩, .int .i64 (N : Int), .int .i64 (I : Int), .string ⟨leaf.toArray⟩, .slice A P.length cap] w fun e w' => e = .returned (.int .i64 192) ∧ Below w.heap.size w w' := by
  have HS := St.start hG
  have hd : decide (root.length = 32) = true := by simpa using hr
  have ca := fun (g : Nat) (W : World) h0 hg => all_one root g W h0 hg
  rw [hd] at ca
  have CA := Lib.hid ca
  have c1 : ¬ (N : Int) < 1 := by omega
  have c2 : ¬ (4096 : Int) < N := by omega
  have c3 : ¬ (I : Int) < 0 := by omega
  have c4 : ¬ (N : Int) ≤ I := by omega
  have cs := fun W => sides_any N I W (by omega) (by omega)
  have hlen := msides_length N I
  obtain ⟨S, eS⟩ : ∃ S, S = msides N I := ⟨_, rfl⟩
  rw [← eS] at cs hlen hne
  have CS := Lib.hid cs
  have hSl : S.length ≤ 4096 := by omega
  have hneq : ((P.length : Int) != (S.length : Int)) = true := by rw [bne_iff_ne]; omega
  clear hG hd ca hr cs hlen eS hne
  go_enter Tryd.func22, Tryd.ntmps22
  go_wp2_with (first
    | (go_at_call 50; with_reducible refine (St.still (St.alloc HS _) (CA.out _ _ (by simp) (by simp))).mono ?_; clear HS; rintro e w' ⟨rfl, HS⟩)
    | (go_at_call 51; refine (CS.out _).mono ?_; clear CS; rintro e w1 ⟨v18, rfl, HD⟩; obtain ⟨A18, c18, rfl, hc18, hm18⟩ := HD.out.form; rw [bools_length] at hc18 ⊢; replace HS := St.belowL HS HD))
  go_ret
  exact ⟨rfl, HS.out.2⟩
set_option maxRecDepth 100000 in
set_option maxHeartbeats 1000000 in
theorem check_form (root : List UInt8) (N I : Nat) (leaf : List UInt8) (P : List (List UInt8)) (A : Option Addr) (cap : Nat) (w : World) (hG : Glob w) (hr : root.length = 32) (hN : N ≤ 4096) (hI : I < N)
    (hPS : P.length = (msides N I).length) (hal : all32 P = false) (hR : Reads w w.heap.size A P.length (fun j => .string ⟨(P.getD j []).toArray⟩)) : Calls Tryd.prog 22 #[.string ⟨root.toArray⟩, .int .i64 (N : Int), .int .i64 (I : Int), .string ⟨leaf.toArray⟩, .slice A P.length cap] w fun e w' => e = .returned (.int .i64 192) ∧ Below w.heap.size w w' := by
  have HS := St.start hG
  have hd : decide (root.length = 32) = true := by simpa using hr
  have ca := fun (g : Nat) (W : World) h0 hg => all_one root g W h0 hg
  rw [hd] at ca
  have CA := Lib.hid ca
  have c1 : ¬ (N : Int) < 1 := by omega
  have c2 : ¬ (4096 : Int) < N := by omega
  have c3 : ¬ (I : Int) < 0 := by omega
  have c4 : ¬ (N : Int) ≤ I := by omega
  have cs := fun W => sides_any N I W (by omega) (by omega)
  have hlen := msides_length N I
  obtain ⟨S, eS⟩ : ∃ S, S = msides N I := ⟨_, rfl⟩
  rw [← eS] at cs hlen hPS
  have CS := Lib.hid cs
  have hSl : S.length ≤ 4096 := by omega
  have CL := Lib.hid (fun W hr => all_any P A cap W (by omega) hr)
  have hneq : ((P.length : Int) != (S.length : Int)) = false := by rw [bne_eq_false_iff_eq]; omega
  have HA := Lib.hid hal
  have HR := Lib.hid hR
  clear hG hd ca hr cs hlen eS hPS hal hR
  go_enter Tryd.func22, Tryd.ntmps22
  go_wp2_with (first
    | (go_at_call 50; with_reducible refine (St.still (St.alloc HS _) (CA.out _ _ (by simp) (by simp))).mono ?_; clear HS; rintro e w' ⟨rfl, HS⟩)
    | (go_at_call 51; refine (CS.out _).mono ?_; clear CS; rintro e w1 ⟨v18, rfl, HD⟩; obtain ⟨A18, c18, rfl, hc18, hm18⟩ := HD.out.form; rw [bools_length] at hc18 ⊢; replace HS := St.belowL HS HD)
    | (go_at_call 50; with_reducible refine (St.still HS (CL.out _ (HR.out.belowW (St.bel HS)))).mono ?_; clear HS; rintro e w' ⟨rfl, HS⟩; rw [HA.out]))
  go_ret
  exact ⟨rfl, HS.out.2⟩
set_option maxRecDepth 100000 in
set_option maxHeartbeats 1000000 in
theorem check_end (root : List UInt8) (N I : Nat) (leaf : List UInt8) (P : List (List UInt8)) (A : Option Addr) (cap : Nat) (w : World) (hG : Glob w) (hr : root.length = 32) (hN : N ≤ 4096) (hI : I < N) (hl : leaf.length ≤ 1152921504606840000) (hcap : P.length ≤ cap)
    (hPS : P.length = (msides N I).length) (hal : all32 P = true) (hR : Reads w w.heap.size A P.length (fun j => .string ⟨(P.getD j []).toArray⟩)) : Calls Tryd.prog 22 #[.string ⟨root.toArray⟩, .int .i64 (N : Int), .int .i64 (I : Int), .string ⟨leaf.toArray⟩, .slice A P.length cap] w fun e w' => e = .returned (.int .i64 (if mtop N I leaf P ≠ root then 192 else 0)) ∧ Below w.heap.size w w' := by
  have HS := St.start hG
  have hd : decide (root.length = 32) = true := by simpa using hr
  have ca := fun (g : Nat) (W : World) h0 hg => all_one root g W h0 hg
  rw [hd] at ca
  have CA := Lib.hid ca
  have c1 : ¬ (N : Int) < 1 := by omega
  have c2 : ¬ (4096 : Int) < N := by omega
  have c3 : ¬ (I : Int) < 0 := by omega
  have c4 : ¬ (N : Int) ≤ I := by omega
  have cs := fun W => sides_any N I W (by omega) (by omega)
  have hgd := getD_le_of_all P hal
  have ct := fun W (g : Glob W) hr => texts_any N I leaf P A cap W (by omega) (by omega) g hl hgd hPS hcap hr
  have hlen := msides_length N I
  unfold mtop
  obtain ⟨S, eS⟩ : ∃ S, S = msides N I := ⟨_, rfl⟩
  rw [← eS] at cs hlen hPS ct ⊢
  have CS := Lib.hid cs
  have CT := Lib.hid ct
  have hSl : S.length ≤ 4096 := by omega
  have CL := Lib.hid (fun W hr => all_any P A cap W (by omega) hr)
  have hneq : ((P.length : Int) != (S.length : Int)) = false := by rw [bne_eq_false_iff_eq]; omega
  have HA := Lib.hid hal
  have HR := Lib.hid hR
  have htl := mtext_le S leaf P hgd S.length
  obtain ⟨T, eT⟩ : ∃ T, T = mtext S leaf P S.length := ⟨_, rfl⟩
  rw [← eT] at htl ⊢
  have c5 := fun W (g : Glob W) => sum_any T W g (by omega)
  have hDl := sha_length T
  obtain ⟨D, eD⟩ : ∃ D, D = sha T := ⟨_, rfl⟩
  rw [← eD] at c5 hDl ⊢
  have c6 := fun W => same_any D root W hDl hr
  have hrr : (if D ≠ root then (192 : Int) else 0) = if decide (D = root) then 0 else 192 := by by_cases h : D = root <;> simp [h]
  rw [hrr]
  obtain ⟨r, er⟩ : ∃ r, r = decide (D = root) := ⟨_, rfl⟩
  rw [← er] at c6 ⊢
  have C5 := Lib.hid c5
  have C6 := Lib.hid c6
  have HT := Lib.hid eT
  clear hG hd ca hr cs hlen eS hPS hal hR hgd ct htl c5 c6 eT hDl eD hrr er hl
  cases r
  all_goals
    go_enter Tryd.func22, Tryd.ntmps22
    go_wp2_with (first
      | (go_at_call 50; with_reducible refine (St.still (St.alloc HS _) (CA.out _ _ (by simp) (by simp))).mono ?_; clear HS; rintro e w' ⟨rfl, HS⟩)
      | (go_at_call 51; refine (CS.out _).mono ?_; clear CS; rintro e w1 ⟨v18, rfl, HD⟩; obtain ⟨A18, c18, rfl, hc18, hm18⟩ := HD.out.form; rw [bools_length] at hc18 ⊢; replace HS := St.belowL HS HD)
      | (go_at_call 50; with_reducible refine (St.still HS (CL.out _ (HR.out.belowW (St.bel HS)))).mono ?_; clear HS; rintro e w' ⟨rfl, HS⟩; rw [HA.out])
      | (go_at_call 52; refine (CT.out _ (St.glob HS) (HR.out.belowW (St.bel HS))).mono ?_; clear CT; rintro e w2 ⟨v, rfl, HD2⟩; obtain ⟨g, c, rfl, hgl⟩ := HD2.out.shape (strs_mtexts_ne _ _ _ _)
         have hlast := HD2.out.cell S.length _ (strs_getD _ S.length (by rw [mtexts_length]; omega))
         rw [mtexts_getD _ _ _ _ _ (Nat.le_refl _), ← HT.out] at hlast
         rw [strs_length, mtexts_length]
         replace HS := St.belowL HS HD2)
      | (go_at_call 31; refine (St.callG HS C5.out).mono ?_; clear HS; rintro e w' ⟨rfl, HS⟩)
      | (go_at_call 53; refine (St.callR HS C6.out).mono ?_; clear HS; rintro e w' ⟨rfl, HS⟩))
    go_ret
    exact ⟨rfl, HS.out.2⟩
theorem check_any (root : List UInt8) (n i : Int) (leaf : List UInt8) (P : List (List UInt8)) (A : Option Addr) (cap : Nat) (w : World) (hG : Glob w) (hl : leaf.length ≤ 1152921504606840000) (hPl : P.length ≤ 1000000000000)
    (hcap : P.length ≤ cap) (hR : Reads w w.heap.size A P.length (fun j => .string ⟨(P.getD j []).toArray⟩)) : Calls Tryd.prog 22 #[.string ⟨root.toArray⟩, .int .i64 n, .int .i64 i, .string ⟨leaf.toArray⟩, .slice A P.length cap] w fun e w' => e = .returned (.int .i64 (mcheck root n i leaf P)) ∧ Below w.heap.size w w' := by
  by_cases hr : root.length = 32
  · by_cases hni : n < 1 ∨ n > 4096 ∨ i < 0 ∨ i ≥ n
    · rw [mcheck, if_neg (by omega), if_pos hni]
      exact check_range root n i leaf P A cap w hG hr hni
    · obtain ⟨N, rfl⟩ : ∃ N : Nat, n = N := ⟨n.toNat, by omega⟩
      obtain ⟨I, rfl⟩ : ∃ I : Nat, i = I := ⟨i.toNat, by omega⟩
      rw [mcheck, if_neg (by omega), if_neg hni, Int.toNat_natCast, Int.toNat_natCast]
      by_cases hPS : P.length = (msides N I).length
      · cases hal : all32 P with
        | false =>
          rw [if_pos (by unfold mok; rw [show (P.all fun s => s.length == 32) = false from hal, Bool.and_false])]
          exact check_form root N I leaf P A cap w hG hr (by omega) (by omega) hPS hal hR
        | true =>
          rw [if_neg (by unfold mok; rw [show (P.all fun s => s.length == 32) = true from hal]; simpa using hPS)]
          exact check_end root N I leaf P A cap w hG hr (by omega) (by omega) hl hcap hPS hal hR
      · rw [if_pos (by unfold mok; simp [hPS])]
        exact check_len root N I leaf P A cap w hG hr (by omega) (by omega) hPl hPS
  · rw [mcheck, if_pos hr]
    exact check_root root n i leaf P A cap w hG hr
end Go.Proofs.YthhjmodkodkgpaaDoor
