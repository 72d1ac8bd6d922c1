/- strongboxlaw19's helpers: some, lent, same, kept, unlike, over, still. -/
import Derived.Test.YthhjmodkodkgpaaDoorMLaw
import Derived.Laws.CopyOwn
namespace Go.Proofs.YthhjmodkodkgpaaDoor
open Go.RowKit Sbx Go.Sort

/-- a text that stands in a lent row's spare room -/
def spare8 : List (List UInt8) := List.replicate 8 [115, 112, 97, 114, 101]

set_option maxRecDepth 100000 in
theorem some_any (n M : Nat) (A : Option Addr) (cap : Nat) (w : World) (hn : n ≤ cap) (hc : cap ≤ maxLen) (hA : 0 < n → ∃ b off, A = some ⟨b, off, none⟩) :
    Calls Tryd.prog 14 #[.slice A n cap, .int .i64 (M : Int)] w fun e w' => e = .returned (.slice A (min n M) cap) ∧ w = w' := by
  by_cases h : M < n
  · rw [Nat.min_eq_right (by omega)]
    obtain ⟨b, off, rfl⟩ := hA (by omega)
    have c1 : (M : Int) < (n : Int) := by omega
    have c2 : (M : Int) ≤ (cap : Int) := by omega
    have c3 : (0 : Int) ≤ (M : Int) := by omega
    have c4 : (n : Int) ≤ (cap : Int) := by omega
    clear hA hc
    go_enter Tryd.func14, Tryd.ntmps14
    go_wp2_with fail
    go_ret
    exact ⟨rfl, rfl⟩
  · rw [Nat.min_eq_left (by omega)]
    have c1 : ¬ (M : Int) < (n : Int) := by omega
    clear hA hc
    go_enter Tryd.func14, Tryd.ntmps14
    go_wp2_with fail
    go_ret
    exact ⟨rfl, rfl⟩

set_option maxRecDepth 100000 in
set_option maxHeartbeats 1000000 in
theorem lsame_any (l m : List (List UInt8)) (A B : Option Addr) (c d : Nat) (w : World) (hl : l.length ≤ 1000000000000) (hR : Reads w w.heap.size A l.length (fun j => .string ⟨(l.getD j []).toArray⟩)) (hS : Reads w w.heap.size B m.length (fun j => .string ⟨(m.getD j []).toArray⟩)) :
    Calls Tryd.prog 20 #[.slice A l.length c, .slice B m.length d] w fun e w' => e = .returned (.bool (decide (l = m))) ∧ Below w.heap.size w w' := by
  have hlz : (l.length : Int) ≤ 1000000000000 := by omega
  by_cases hlm : l.length = m.length
  · have hne : ((l.length : Int) != (m.length : Int)) = false := by rw [bne_eq_false_iff_eq]; omega
    have HR := Lib.hid (And.intro hR hS)
    clear hR hS hl
    go_enter Tryd.func20, Tryd.ntmps20
    go_wp2_with fail
    go_loopw [5] (fun v5 wr => ∃ k : Nat, k ≤ l.length ∧ v5 = .int .i64 (k : Int) ∧ Hid (∀ j, j < k → l.getD j [] = m.getD j []) ∧ Hid (Below w.heap.size w wr))
      (fun v5 _ => l.length - (intOf v5).toNat)
    case atStart => exact ⟨0, by omega, rfl, fun j h => absurd h (Nat.not_lt_zero j), Below.refl _ _⟩
    case round =>
      obtain ⟨k, hk, rfl, hall, hB⟩ := hrel
      by_cases hlt : k < l.length
      · obtain ⟨b, off, rfl, hb, hcell⟩ := HR.out.1 k hlt
        obtain ⟨b2, off2, rfl, hb2, hcell2⟩ := HR.out.2 k (by omega)
        have hx : wr.cell? ⟨b, off + k, none⟩ = some (.string ⟨(l.getD k []).toArray⟩) := (hB.out.cell (p := ⟨b, off + k, none⟩) hb).trans hcell
        have hy : wr.cell? ⟨b2, off2 + k, none⟩ = some (.string ⟨(m.getD k []).toArray⟩) := (hB.out.cell (p := ⟨b2, off2 + k, none⟩) hb2).trans hcell2
        obtain ⟨s, es⟩ : ∃ s, s = l.getD k [] := ⟨_, rfl⟩
        obtain ⟨t, et⟩ : ∃ s, s = m.getD k [] := ⟨_, rfl⟩
        rw [← es] at hx
        rw [← et] at hy
        have k0 : (0 : Int) ≤ (k : Int) := by omega
        have k1 : (k : Int) < (l.length : Int) := by omega
        have k2 : (k : Int) < (m.length : Int) := by omega
        have ES := Lib.hid (And.intro es et)
        clear es et hcell hcell2 hb hb2
        by_cases hst : s = t
        · have hq : (s == t) = true := by simpa using hst
          go_wp2_with fail
          go_region
          go_wp2_with fail
          go_roundw
          case rel =>
            refine ⟨k + 1, by omega, by go_num, fun j hj => ?_, hB.out.drew⟩
            by_cases hjk : j < k
            · exact hall.out j hjk
            · obtain rfl : j = k := by omega
              rw [← ES.out.1, ← ES.out.2]; exact hst
          case measure => simp [intOf]; omega
        · have hq : (s == t) = false := by simpa using hst
          have hf : decide (l = m) = false := by
            rw [decide_eq_false_iff_not]
            rintro rfl
            exact hst (ES.out.1.trans ES.out.2.symm)
          have HF := Lib.hid hf
          clear hf hst
          go_wp2_with fail
          go_region
          go_wp2_with fail
          go_ret
          exact ⟨by rw [HF.out]; rfl, hB.out.drew⟩
      · obtain rfl : k = l.length := by omega
        have ht : decide (l = m) = true := by
          rw [decide_eq_true_iff]
          apply List.ext_getElem hlm
          intro i h1 h2
          have := hall.out i h1
          rwa [List.getD_eq_getElem?_getD, List.getD_eq_getElem?_getD, List.getElem?_eq_getElem h1, List.getElem?_eq_getElem h2] at this
        have HT := Lib.hid ht
        clear ht
        go_wp2_with fail
        go_ret
        exact ⟨by rw [HT.out]; rfl, hB.out⟩
  · rw [show decide (l = m) = false from by rw [decide_eq_false_iff_not]; rintro rfl; exact hlm rfl]
    have hne : ((l.length : Int) != (m.length : Int)) = true := by rw [bne_iff_ne]; omega
    clear hR hS hl
    go_enter Tryd.func20, Tryd.ntmps20
    go_wp2_with fail
    go_ret
    exact ⟨rfl, Below.refl _ _⟩

set_option maxRecDepth 100000 in
theorem unlike_any (l : List (List UInt8)) (A : Option Addr) (c : Nat) (w : World) (hl : l.length ≤ 1000000000000) (hs : ∀ s ∈ l, s.length ≤ 140737488353000) (hR : Reads w w.heap.size A l.length (fun j => .string ⟨(l.getD j []).toArray⟩)) :
    Calls Tryd.prog 19 #[.slice A l.length c] w fun e w' => ∃ v, e = .returned v ∧ Hid (Lst w w' 9 v (strs (l.map (· ++ [39])))) := by
  have hlz : (l.length : Int) ≤ 1000000000000 := by omega
  have HR := Lib.hid (And.intro hR hs)
  clear hR hs hl
  go_enter Tryd.func19, Tryd.ntmps19
  go_wp2_with fail
  go_loopw [3, 4] (fun v3 v4 wr => ∃ k : Nat, k ≤ l.length ∧ v4 = .int .i64 (k : Int) ∧ Hid (Lst w wr 9 v3 (strs ((l.take k).map (· ++ [39])))))
    (fun _ v4 _ => l.length - (intOf v4).toNat)
  case atStart => exact ⟨0, by omega, rfl, Lst.nil _ (Below.refl _ _)⟩
  case round =>
    obtain ⟨k, hk, rfl, HD⟩ := hrel
    by_cases hlt : k < l.length
    · obtain ⟨b, off, rfl, hb, hcell⟩ := HR.out.1 k hlt
      have hx : wr.cell? ⟨b, off + k, none⟩ = some (.string ⟨(l.getD k []).toArray⟩) := (HD.out.2.cell (p := ⟨b, off + k, none⟩) hb).trans hcell
      obtain ⟨s, es⟩ : ∃ s, s = l.getD k [] := ⟨_, rfl⟩
      rw [← es] at hx
      have hg : l[k] = s := by rw [es, List.getD_eq_getElem?_getD, List.getElem?_eq_getElem hlt]; rfl
      have hsl : s.length ≤ 140737488353000 := HR.out.2 s (by rw [← hg]; exact List.getElem_mem hlt)
      have le : ¬ 9223372036854775807 < s.length + 1 := by omega
      have k0 : (0 : Int) ≤ (k : Int) := by omega
      have k1 : (k : Int) < (l.length : Int) := by omega
      have HX := Lib.hid (And.intro hg (str_app s [39]))
      clear es hcell hb hg
      go_wp2_with ((with_reducible refine gate_op (Op.call { callee := .builtin .append, args := #[.tmp 11, .tmp 17], argTypes := #[22, 22] }) rfl ?_)
                   refine lst_append elem_str rfl (.tmp 11) (.tmp 17) rfl _ (strs ((l.take k).map (· ++ [39]))) _ rfl rfl rfl (by rw [strs_length, List.length_map, List.length_take]; omega) HD.out ?_
                   intro v' w' h1 _
                   have HD' := Lib.hid h1
                   clear h1)
      go_roundw
      case rel =>
        refine ⟨k + 1, by omega, by go_num, ?_⟩
        have h1 := HD'.out
        have h2 : strs ((l.take (k + 1)).map (· ++ [39])) = strs ((l.take k).map (· ++ [39])) ++ [.string (⟨s.toArray⟩ ++ ⟨#[39]⟩)] := by
          rw [List.take_succ_eq_append_getElem hlt, List.map_append, strs_app, HX.out.1, show (⟨s.toArray⟩ ++ ⟨#[39]⟩ : ByteArray) = ⟨(s ++ [39]).toArray⟩ from HX.out.2]
          rfl
        rw [h2]
        exact h1
      case measure => simp [intOf]; omega
    · obtain rfl : k = l.length := by omega
      rw [List.take_length] at HD
      go_wp2_with fail
      go_ret
      exact ⟨_, rfl, HD⟩

set_option maxRecDepth 100000 in
theorem still_any (l : List (List UInt8)) (m : List UInt8) (A : Option Addr) (c : Nat) (w : World) (hl : l.length ≤ 1000000000000) (hs : ∀ s ∈ l, s = m) (hR : Reads w w.heap.size A l.length (fun j => .string ⟨(l.getD j []).toArray⟩)) :
    Calls Tryd.prog 24 #[.slice A l.length c, .string ⟨m.toArray⟩] w fun e w' => e = .returned (.bool true) ∧ w = w' := by
  have hlz : (l.length : Int) ≤ 1000000000000 := by omega
  have HR := Lib.hid (And.intro hR hs)
  clear hR hs hl
  go_enter Tryd.func24, Tryd.ntmps24
  go_wp2_with fail
  go_loopw [5] (fun v5 wr => ∃ k : Nat, k ≤ l.length ∧ v5 = .int .i64 (k : Int) ∧ w = wr)
    (fun v5 _ => l.length - (intOf v5).toNat)
  case atStart => exact ⟨0, by omega, rfl, rfl⟩
  case round =>
    obtain ⟨k, hk, rfl, rfl⟩ := hrel
    by_cases hlt : k < l.length
    · obtain ⟨b, off, rfl, hb, hcell⟩ := HR.out.1 k hlt
      have hx : w.cell? ⟨b, off + k, none⟩ = some (.string ⟨(l.getD k []).toArray⟩) := hcell
      rw [show l.getD k [] = m from HR.out.2 _ (by rw [List.getD_eq_getElem?_getD, List.getElem?_eq_getElem hlt]; exact List.getElem_mem hlt)] at hx
      have k0 : (0 : Int) ≤ (k : Int) := by omega
      have k1 : (k : Int) < (l.length : Int) := by omega
      clear hcell hb
      go_wp2_with fail
      go_roundw
      case rel => exact ⟨k + 1, by omega, by go_num, trivial⟩
      case measure => simp [intOf]; omega
    · obtain rfl : k = l.length := by omega
      go_wp2_with fail
      go_ret
      exact ⟨rfl, rfl⟩
end Go.Proofs.YthhjmodkodkgpaaDoor
