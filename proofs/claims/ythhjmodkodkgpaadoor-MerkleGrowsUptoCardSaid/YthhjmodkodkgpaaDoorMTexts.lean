/- merkle.texts, strongboxref19.texts. strongboxref19.texts. -/
import Derived.Test.YthhjmodkodkgpaaDoorMSides
namespace Sbx
/-- what is digested a step further up -/
def mnext (right : Bool) (d p : List UInt8) : List UInt8 := if right then [1] ++ d ++ p else [1] ++ p ++ d
def mtext (S : List Bool) (leaf : List UInt8) (P : List (List UInt8)) : Nat → List UInt8
  | 0 => [0] ++ leaf
  | h + 1 => mnext (S.getD h false) (sha (mtext S leaf P h)) (P.getD h [])
def mtexts (S : List Bool) (leaf : List UInt8) (P : List (List UInt8)) (h : Nat) : List (List UInt8) := (List.range (h + 1)).map (mtext S leaf P)
theorem mtexts_length (S : List Bool) (leaf : List UInt8) (P : List (List UInt8)) (h : Nat) : (mtexts S leaf P h).length = h + 1 := by simp [mtexts]
theorem mtexts_succ (S : List Bool) (leaf : List UInt8) (P : List (List UInt8)) (h : Nat) : mtexts S leaf P (h + 1) = mtexts S leaf P h ++ [mtext S leaf P (h + 1)] := by
  rw [mtexts, List.range_succ, List.map_append]; rfl
theorem mtexts_getD (S : List Bool) (leaf : List UInt8) (P : List (List UInt8)) (h j : Nat) (hj : j ≤ h) : (mtexts S leaf P h).getD j [] = mtext S leaf P j := by
  simp [mtexts, List.getD_eq_getElem?_getD, List.getElem?_map, List.getElem?_range (show j < h + 1 by omega)]
theorem mnext_length (r : Bool) (d p : List UInt8) : (mnext r d p).length = 1 + d.length + p.length := by
  unfold mnext; split <;> simp <;> omega
theorem mtext_le (S : List Bool) (leaf : List UInt8) (P : List (List UInt8)) (hP : ∀ j, (P.getD j []).length ≤ 32) (h : Nat) : (mtext S leaf P h).length ≤ leaf.length + 65 := by
  cases h with
  | zero => simp [mtext]
  | succ h =>
    rw [mtext, mnext_length, sha_length]
    have := hP h
    omega
end Sbx
namespace Go.Proofs.YthhjmodkodkgpaaDoor
open Go.RowKit Sbx Go.Sort

set_option maxRecDepth 100000 in
set_option maxHeartbeats 1000000 in
theorem texts_any (n i : Nat) (leaf : List UInt8) (P : List (List UInt8)) (A : Option Addr) (cap : Nat) (w : World) (hn : n ≤ 1000000000000) (hi : i < n) (hG : Glob w) (hl : leaf.length ≤ 1152921504606840000)
    (hP : ∀ j, (P.getD j []).length ≤ 32) (hS : P.length = (msides n i).length) (hcap : P.length ≤ cap) (hR : Reads w w.heap.size A P.length (fun j => .string ⟨(P.getD j []).toArray⟩)) :
    Calls Tryd.prog 52 #[.int .i64 (n : Int), .int .i64 (i : Int), .string ⟨leaf.toArray⟩, .slice A P.length cap] w fun e w' => ∃ v, e = .returned v ∧ Hid (Lst w w' 9 v (strs (mtexts (msides n i) leaf P (msides n i).length))) := by
  have hlen := msides_length n i
  have cs := fun W => sides_any n i W hn hi
  obtain ⟨S, eS⟩ : ∃ S, S = msides n i := ⟨_, rfl⟩
  rw [← eS] at hlen hS cs ⊢
  have hle := mtext_le S leaf P hP
  have HG := Lib.hid (And.intro hG (And.intro hR (And.intro hle hP)))
  have CS := Lib.hid cs
  have le : ¬ 9223372036854775807 < 1 + leaf.length := by omega
  have e0 := str_app [0] leaf
  have H1 := Lib.hid hl
  have pz : (P.length : Int) ≤ 1000000000000 := by omega
  clear hG hR hle hP cs eS hl
  go_enter Tryd.func52, Tryd.ntmps52
  go_wp2_with (go_at_call 51; refine (CS.out _).mono ?_; clear CS; rintro e w1 ⟨v18, rfl, HD⟩; obtain ⟨A18, c18, rfl, hc18, hm18⟩ := HD.out.form; rw [bools_length] at hc18 ⊢)
  have HL : Hid (Lst w w1 9 (.slice (some ⟨w.heap.size, 0, none⟩) 1 1) (strs (mtexts S leaf P 0)) ∧ Lst w w1 4 (.slice A18 S.length c18) (bools S)) := by
    have h9 : strs (mtexts S leaf P 0) = [.string (⟨#[0]⟩ ++ ⟨leaf.toArray⟩)] := by rw [show (⟨#[0]⟩ ++ ⟨leaf.toArray⟩ : ByteArray) = ⟨([0] ++ leaf).toArray⟩ from e0]; rfl
    have h18 := HD.out
    rw [bools_length] at h18
    refine ⟨by rw [h9]; exact (Lst.one w _ _).below h18.2, h18.deeper ((Below.refl _ _).alloc (Nat.le_refl _) _)⟩
  clear HD
  go_loopw [9, 20] (fun v9 v20 wr => ∃ (h g c : Nat), h ≤ S.length ∧ v20 = .int .i64 (h : Int) ∧ v9 = .slice (some ⟨g, 0, none⟩) (h + 1) c ∧ h + 1 ≤ c ∧ Hid (Lst w wr 9 (.slice (some ⟨g, 0, none⟩) (h + 1) c) (strs (mtexts S leaf P h)) ∧ Lst w wr 4 (.slice A18 S.length c18) (bools S)))
    (fun _ v20 _ => S.length - (intOf v20).toNat)
  case atStart => exact ⟨0, w.heap.size, 1, by omega, rfl, rfl, by omega, HL⟩
  case round =>
    clear HL
    obtain ⟨h, g, c, hh, rfl, rfl, hc, HL⟩ := hrel
    by_cases hlt : h < S.length
    · have hr18 := HL.out.2.reads (fun j => .bool (S.getD j false)) (fun j hj => bools_getD S j (by rwa [bools_length] at hj))
      rw [bools_length] at hr18
      obtain ⟨b, off, rfl, hb, hcell⟩ := hr18 h hlt
      have r9 := HL.out.1.cell h _ (strs_getD (mtexts S leaf P h) h (by rw [mtexts_length]; omega))
      rw [mtexts_getD S leaf P h h (Nat.le_refl _)] at r9
      have hTl := HG.out.2.2.1 h
      have hnx : mtext S leaf P (h + 1) = mnext (S.getD h false) (sha (mtext S leaf P h)) (P.getD h []) := rfl
      obtain ⟨T, eT⟩ : ∃ T, T = mtext S leaf P h := ⟨_, rfl⟩
      rw [← eT] at r9 hTl hnx
      have cT := sum_any T wr (HG.out.1.below HL.out.1.2) (by have := H1.out; omega)
      have hdl := sha_length T
      obtain ⟨D, eD⟩ : ∃ D, D = sha T := ⟨_, rfl⟩
      rw [← eD] at cT hnx hdl
      obtain ⟨bp, op, eA, hbp, hpc⟩ := HG.out.2.1 h (by omega)
      have hpl := HG.out.2.2.2 h
      obtain ⟨p, ep⟩ : ∃ p, p = P.getD h [] := ⟨_, rfl⟩
      have hpc' : w.cell? ⟨bp, op + h, none⟩ = some (.string ⟨(P.getD h []).toArray⟩) := hpc
      rw [← ep] at hpc' hpl hnx
      have HP := Lib.hid (And.intro hbp (And.intro hpc' hnx))
      have CT := Lib.hid cT
      have h0 : (0 : Int) ≤ (h : Int) := by omega
      have h1 : (h : Int) < (S.length : Int) := by omega
      have h2 : (h : Int) < (P.length : Int) := by omega
      have le1 : ¬ 9223372036854775807 < 1 + D.length := by omega
      have le2 : ¬ 9223372036854775807 < 1 + D.length + p.length := by omega
      have le3 : ¬ 9223372036854775807 < 1 + p.length := by omega
      have le4 : ¬ 9223372036854775807 < 1 + p.length + D.length := by omega
      have hcell' : wr.cell? ⟨b, off + h, none⟩ = some (.bool (S.getD h false)) := hcell
      have hSl : S.length ≤ 1000000000000 := by omega
      have HSl := Lib.hid hSl
      subst eA
      clear hcell hpc hpc' hbp cT hTl eT eD ep hr18 hnx hb hSl
      cases hbit : S.getD h false with
      | true =>
        rw [hbit] at hcell' HP
        have en : (⟨#[1]⟩ : ByteArray) ++ ⟨D.toArray⟩ ++ ⟨p.toArray⟩ = ⟨([1] ++ D ++ p).toArray⟩ := by rw [← str_app, ← str_app]
        have EN := Lib.hid en
        clear hbit en
        go_wp2_with (first
          | (go_at_call 31; refine CT.out.mono ?_; clear CT; rintro e w3 ⟨rfl, hB⟩
             have rp : w3.cell? ⟨bp, op + h, none⟩ = some (.string ⟨p.toArray⟩) := (((HL.out.1.2.trans (hB.mono HL.out.1.2.size)).cell (p := ⟨bp, op + h, none⟩) HP.out.1).trans HP.out.2.1)
             have HL3 := Lib.hid (And.intro (HL.out.1.below hB) (HL.out.2.below hB))
             clear hB HL)
          | ((with_reducible refine gate_op (Op.call { callee := .builtin .append, args := #[.tmp 31, .tmp 39], argTypes := #[22, 22] }) rfl ?_)
             refine lst_append elem_str rfl (.tmp 31) (.tmp 39) rfl _ (strs (mtexts S leaf P h)) _ rfl rfl rfl (by rw [strs_length, mtexts_length]; have := HSl.out; omega) HL3.out.1 ?_
             intro v' w' h1 hg
             have HL' := Lib.hid (And.intro h1 (HL3.out.2.beside HL3.out.1 (by decide) hg))
             clear h1 hg HL3))
        have hxs : strs (mtexts S leaf P h) ++ [Value.string (⟨#[1]⟩ ++ ⟨D.toArray⟩ ++ ⟨p.toArray⟩)] = strs (mtexts S leaf P (h + 1)) := by
          rw [mtexts_succ, strs_app, HP.out.2.2, EN.out]; rfl
        obtain ⟨gq, cq, rfl, _⟩ := HL'.out.1.shape (by simp)
        have HX := Lib.hid hxs
        clear hxs
        have hcq : h + 1 + 1 ≤ cq := by
          obtain ⟨A2, c2, e2, hx, _⟩ := HL'.out.1.form
          cases e2
          simpa [mtexts_length, strs_length] using hx
        go_roundw
        case rel =>
          refine ⟨h + 1, gq, cq, by omega, by go_num, by simp [strs_length, mtexts_length], hcq, ?_⟩
          rw [← HX.out]
          have := HL'.out
          refine Lib.hid ?_
          simpa [strs_length, mtexts_length] using this
        case measure => simp [intOf]; omega
      | false =>
        rw [hbit] at hcell' HP
        have en : (⟨#[1]⟩ : ByteArray) ++ ⟨p.toArray⟩ ++ ⟨D.toArray⟩ = ⟨([1] ++ p ++ D).toArray⟩ := by rw [← str_app, ← str_app]
        have EN := Lib.hid en
        clear hbit en
        go_wp2_with (first
          | (go_at_call 31; refine CT.out.mono ?_; clear CT; rintro e w3 ⟨rfl, hB⟩
             have rp : w3.cell? ⟨bp, op + h, none⟩ = some (.string ⟨p.toArray⟩) := (((HL.out.1.2.trans (hB.mono HL.out.1.2.size)).cell (p := ⟨bp, op + h, none⟩) HP.out.1).trans HP.out.2.1)
             have HL3 := Lib.hid (And.intro (HL.out.1.below hB) (HL.out.2.below hB))
             clear hB HL)
          | ((with_reducible refine gate_op (Op.call { callee := .builtin .append, args := #[.tmp 41, .tmp 49], argTypes := #[22, 22] }) rfl ?_)
             refine lst_append elem_str rfl (.tmp 41) (.tmp 49) rfl _ (strs (mtexts S leaf P h)) _ rfl rfl rfl (by rw [strs_length, mtexts_length]; have := HSl.out; omega) HL3.out.1 ?_
             intro v' w' h1 hg
             have HL' := Lib.hid (And.intro h1 (HL3.out.2.beside HL3.out.1 (by decide) hg))
             clear h1 hg HL3))
        have hxs : strs (mtexts S leaf P h) ++ [Value.string (⟨#[1]⟩ ++ ⟨p.toArray⟩ ++ ⟨D.toArray⟩)] = strs (mtexts S leaf P (h + 1)) := by
          rw [mtexts_succ, strs_app, HP.out.2.2, EN.out]; rfl
        obtain ⟨gq, cq, rfl, _⟩ := HL'.out.1.shape (by simp)
        have HX := Lib.hid hxs
        clear hxs
        have hcq : h + 1 + 1 ≤ cq := by
          obtain ⟨A2, c2, e2, hx, _⟩ := HL'.out.1.form
          cases e2
          simpa [mtexts_length, strs_length] using hx
        go_roundw
        case rel =>
          refine ⟨h + 1, gq, cq, by omega, by go_num, by simp [strs_length, mtexts_length], hcq, ?_⟩
          rw [← HX.out]
          have := HL'.out
          refine Lib.hid ?_
          simpa [strs_length, mtexts_length] using this
        case measure => simp [intOf]; omega
    · obtain rfl : h = S.length := by omega
      go_wp2_with fail
      go_ret
      exact ⟨_, rfl, HL.out.1⟩
end Go.Proofs.YthhjmodkodkgpaaDoor
namespace Go.Proofs.YthhjmodkodkgpaaDoor
open Go.RowKit Sbx Go.Sort

set_option maxRecDepth 100000 in
set_option maxHeartbeats 1000000 in
theorem rtexts_any (n i : Nat) (leaf : List UInt8) (P : List (List UInt8)) (A : Option Addr) (cap : Nat) (w : World) (hn : n ≤ 1000000000000) (hi : i < n) (hl : leaf.length ≤ 140737488349000)
    (hP : ∀ j, (P.getD j []).length ≤ 32) (hS : P.length = (msides n i).length) (hcap : P.length ≤ cap) (hR : Reads w w.heap.size A P.length (fun j => .string ⟨(P.getD j []).toArray⟩)) :
    Calls Tryd.prog 56 #[.int .i64 (n : Int), .int .i64 (i : Int), .string ⟨leaf.toArray⟩, .slice A P.length cap] w fun e w' => ∃ v, e = .returned v ∧ Hid (Lst w w' 9 v (strs (mtexts (msides n i) leaf P (msides n i).length))) := by
  have hlen := msides_length n i
  have cs := fun W => rsides_any n n i W (Nat.le_refl _) hn hi
  obtain ⟨S, eS⟩ : ∃ S, S = msides n i := ⟨_, rfl⟩
  rw [← eS] at hlen hS cs ⊢
  have hle := mtext_le S leaf P hP
  have HG := Lib.hid (And.intro hR (And.intro hle hP))
  have CS := Lib.hid cs
  have le : ¬ 9223372036854775807 < 1 + leaf.length := by omega
  have e0 := str_app [0] leaf
  have H1 := Lib.hid hl
  have pz : (P.length : Int) ≤ 1000000000000 := by omega
  clear hR hle hP cs eS hl
  go_enter Tryd.func56, Tryd.ntmps56
  go_wp2_with (go_at_call 54; refine (CS.out _).mono ?_; clear CS; rintro e w1 ⟨v10, rfl, HD⟩; obtain ⟨A10, c10, rfl, hc10, hm10⟩ := HD.out.form; rw [bools_length] at hc10 ⊢)
  have HL : Hid (Lst w w1 9 (.slice (some ⟨w.heap.size, 0, none⟩) 1 1) (strs (mtexts S leaf P 0)) ∧ Lst w w1 4 (.slice A10 S.length c10) (bools S)) := by
    have h9 : strs (mtexts S leaf P 0) = [.string (⟨#[0]⟩ ++ ⟨leaf.toArray⟩)] := by rw [show (⟨#[0]⟩ ++ ⟨leaf.toArray⟩ : ByteArray) = ⟨([0] ++ leaf).toArray⟩ from e0]; rfl
    have h18 := HD.out
    rw [bools_length] at h18
    refine ⟨by rw [h9]; exact (Lst.one w _ _).below h18.2, h18.deeper ((Below.refl _ _).alloc (Nat.le_refl _) _)⟩
  clear HD
  go_loopw [9, 11] (fun v9 v11 wr => ∃ (h g c : Nat), h ≤ S.length ∧ v11 = .int .i64 (h : Int) ∧ v9 = .slice (some ⟨g, 0, none⟩) (h + 1) c ∧ h + 1 ≤ c ∧ Hid (Lst w wr 9 (.slice (some ⟨g, 0, none⟩) (h + 1) c) (strs (mtexts S leaf P h)) ∧ Lst w wr 4 (.slice A10 S.length c10) (bools S)))
    (fun _ v11 _ => S.length - (intOf v11).toNat)
  case atStart => exact ⟨0, w.heap.size, 1, by omega, rfl, rfl, by omega, HL⟩
  case round =>
    clear HL
    obtain ⟨h, g, c, hh, rfl, rfl, hc, HL⟩ := hrel
    by_cases hlt : h < S.length
    · have hr18 := HL.out.2.reads (fun j => .bool (S.getD j false)) (fun j hj => bools_getD S j (by rwa [bools_length] at hj))
      rw [bools_length] at hr18
      obtain ⟨b, off, rfl, hb, hcell⟩ := hr18 h hlt
      have r9 := HL.out.1.cell h _ (strs_getD (mtexts S leaf P h) h (by rw [mtexts_length]; omega))
      rw [mtexts_getD S leaf P h h (Nat.le_refl _)] at r9
      have hTl := HG.out.2.1 h
      have hnx : mtext S leaf P (h + 1) = mnext (S.getD h false) (sha (mtext S leaf P h)) (P.getD h []) := rfl
      obtain ⟨T, eT⟩ : ∃ T, T = mtext S leaf P h := ⟨_, rfl⟩
      rw [← eT] at r9 hTl hnx
      have cT := rsum_any T wr (by have := H1.out; omega)
      have hdl := sha_length T
      obtain ⟨D, eD⟩ : ∃ D, D = sha T := ⟨_, rfl⟩
      rw [← eD] at cT hnx hdl
      obtain ⟨bp, op, eA, hbp, hpc⟩ := HG.out.1 h (by omega)
      have hpl := HG.out.2.2 h
      obtain ⟨p, ep⟩ : ∃ p, p = P.getD h [] := ⟨_, rfl⟩
      have hpc' : w.cell? ⟨bp, op + h, none⟩ = some (.string ⟨(P.getD h []).toArray⟩) := hpc
      rw [← ep] at hpc' hpl hnx
      have HP := Lib.hid (And.intro hbp (And.intro hpc' hnx))
      have CT := Lib.hid cT
      have h0 : (0 : Int) ≤ (h : Int) := by omega
      have h1 : (h : Int) < (S.length : Int) := by omega
      have h2 : (h : Int) < (P.length : Int) := by omega
      have le1 : ¬ 9223372036854775807 < 1 + D.length := by omega
      have le2 : ¬ 9223372036854775807 < 1 + D.length + p.length := by omega
      have le3 : ¬ 9223372036854775807 < 1 + p.length := by omega
      have le4 : ¬ 9223372036854775807 < 1 + p.length + D.length := by omega
      have hcell' : wr.cell? ⟨b, off + h, none⟩ = some (.bool (S.getD h false)) := hcell
      have hSl : S.length ≤ 1000000000000 := by omega
      have HSl := Lib.hid hSl
      have HB := Lib.hid hb
      subst eA
      clear hcell hpc hpc' hbp cT hTl eT eD ep hr18 hnx hb hSl
      cases hbit : S.getD h false with
      | true =>
        rw [hbit] at hcell' HP
        have en : (⟨#[1]⟩ : ByteArray) ++ ⟨D.toArray⟩ ++ ⟨p.toArray⟩ = ⟨([1] ++ D ++ p).toArray⟩ := by rw [← str_app, ← str_app]
        have EN := Lib.hid en
        clear hbit en
        go_wp2_with (first
          | (go_at_call 34; refine CT.out.mono ?_; clear CT; rintro e w3 ⟨rfl, hB⟩
             have rp : w3.cell? ⟨bp, op + h, none⟩ = some (.string ⟨p.toArray⟩) := (((HL.out.1.2.trans (hB.mono HL.out.1.2.size)).cell (p := ⟨bp, op + h, none⟩) HP.out.1).trans HP.out.2.1)
             have rb : w3.cell? ⟨b, off + h, none⟩ = some (.bool true) := (hB.cell (p := ⟨b, off + h, none⟩) HB.out).trans hcell'
             have HL3 := Lib.hid (And.intro (HL.out.1.below hB) (HL.out.2.below hB))
             clear hB HL)
          | ((with_reducible refine gate_op (Op.call { callee := .builtin .append, args := #[.tmp 34, .tmp 42], argTypes := #[22, 22] }) rfl ?_)
             refine lst_append elem_str rfl (.tmp 34) (.tmp 42) rfl _ (strs (mtexts S leaf P h)) _ rfl rfl rfl (by rw [strs_length, mtexts_length]; have := HSl.out; omega) HL3.out.1 ?_
             intro v' w' h1 hg
             have HL' := Lib.hid (And.intro h1 (HL3.out.2.beside HL3.out.1 (by decide) hg))
             clear h1 hg HL3))
        have hxs : strs (mtexts S leaf P h) ++ [Value.string (⟨#[1]⟩ ++ ⟨D.toArray⟩ ++ ⟨p.toArray⟩)] = strs (mtexts S leaf P (h + 1)) := by
          rw [mtexts_succ, strs_app, HP.out.2.2, EN.out]; rfl
        obtain ⟨gq, cq, rfl, _⟩ := HL'.out.1.shape (by simp)
        have HX := Lib.hid hxs
        clear hxs
        have hcq : h + 1 + 1 ≤ cq := by
          obtain ⟨A2, c2, e2, hx, _⟩ := HL'.out.1.form
          cases e2
          simpa [mtexts_length, strs_length] using hx
        go_roundw
        case rel =>
          refine ⟨h + 1, gq, cq, by omega, by go_num, by simp [strs_length, mtexts_length], hcq, ?_⟩
          rw [← HX.out]
          have := HL'.out
          refine Lib.hid ?_
          simpa [strs_length, mtexts_length] using this
        case measure => simp [intOf]; omega
      | false =>
        rw [hbit] at hcell' HP
        have en : (⟨#[1]⟩ : ByteArray) ++ ⟨p.toArray⟩ ++ ⟨D.toArray⟩ = ⟨([1] ++ p ++ D).toArray⟩ := by rw [← str_app, ← str_app]
        have EN := Lib.hid en
        clear hbit en
        go_wp2_with (first
          | (go_at_call 34; refine CT.out.mono ?_; clear CT; rintro e w3 ⟨rfl, hB⟩
             have rp : w3.cell? ⟨bp, op + h, none⟩ = some (.string ⟨p.toArray⟩) := (((HL.out.1.2.trans (hB.mono HL.out.1.2.size)).cell (p := ⟨bp, op + h, none⟩) HP.out.1).trans HP.out.2.1)
             have rb : w3.cell? ⟨b, off + h, none⟩ = some (.bool false) := (hB.cell (p := ⟨b, off + h, none⟩) HB.out).trans hcell'
             have HL3 := Lib.hid (And.intro (HL.out.1.below hB) (HL.out.2.below hB))
             clear hB HL)
          | ((with_reducible refine gate_op (Op.call { callee := .builtin .append, args := #[.tmp 44, .tmp 52], argTypes := #[22, 22] }) rfl ?_)
             refine lst_append elem_str rfl (.tmp 44) (.tmp 52) rfl _ (strs (mtexts S leaf P h)) _ rfl rfl rfl (by rw [strs_length, mtexts_length]; have := HSl.out; omega) HL3.out.1 ?_
             intro v' w' h1 hg
             have HL' := Lib.hid (And.intro h1 (HL3.out.2.beside HL3.out.1 (by decide) hg))
             clear h1 hg HL3))
        have hxs : strs (mtexts S leaf P h) ++ [Value.string (⟨#[1]⟩ ++ ⟨p.toArray⟩ ++ ⟨D.toArray⟩)] = strs (mtexts S leaf P (h + 1)) := by
          rw [mtexts_succ, strs_app, HP.out.2.2, EN.out]; rfl
        obtain ⟨gq, cq, rfl, _⟩ := HL'.out.1.shape (by simp)
        have HX := Lib.hid hxs
        clear hxs
        have hcq : h + 1 + 1 ≤ cq := by
          obtain ⟨A2, c2, e2, hx, _⟩ := HL'.out.1.form
          cases e2
          simpa [mtexts_length, strs_length] using hx
        go_roundw
        case rel =>
          refine ⟨h + 1, gq, cq, by omega, by go_num, by simp [strs_length, mtexts_length], hcq, ?_⟩
          rw [← HX.out]
          have := HL'.out
          refine Lib.hid ?_
          simpa [strs_length, mtexts_length] using this
        case measure => simp [intOf]; omega
    · obtain rfl : h = S.length := by omega
      go_wp2_with fail
      go_ret
      exact ⟨_, rfl, HL.out.1⟩
end Go.Proofs.YthhjmodkodkgpaaDoor
