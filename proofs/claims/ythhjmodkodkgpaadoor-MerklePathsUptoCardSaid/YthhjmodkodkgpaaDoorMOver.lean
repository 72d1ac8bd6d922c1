/- strongboxlaw19.over. -/
import Derived.Test.YthhjmodkodkgpaaDoorRowB
import Derived.Test.YthhjmodkodkgpaaDoorMLent
namespace Go.Proofs.YthhjmodkodkgpaaDoor
open Go.RowKit Sbx Go.Sort

theorem fill_step (l : List (List UInt8)) (k : Nat) (m : List UInt8) (h : k < l.length) : (List.replicate k m ++ l.drop k).set k m = List.replicate (k + 1) m ++ l.drop (k + 1) := by
  rw [List.set_append_right _ _ (by simp), List.length_replicate, Nat.sub_self, List.drop_eq_getElem_cons h, List.set_cons_zero, List.replicate_succ', List.append_assoc]
  rfl
theorem strs_repl (n : Nat) (m : List UInt8) : strs (List.replicate n m) ++ [.string ⟨m.toArray⟩] = strs (List.replicate (n + 1) m) := by
  simp [strs, List.replicate_succ']
set_option maxRecDepth 100000 in
set_option maxHeartbeats 1000000 in
theorem over_any (l : List (List UInt8)) (m : List UInt8) (v : Value) (B : Nat) (w : World) (hl : l.length ≤ 100000000000) (h : Row B 9 v (strs l) w) :
    Calls Tryd.prog 23 #[v, .string ⟨m.toArray⟩] w fun e w' => ∃ v', e = .returned v' ∧ Hid (Row B 9 v' (strs (List.replicate (l.length + 22) m)) w' ∧ w.grownBy w' v.ownBlock ∧ Loc w v.ownBlock v'.ownBlock) := by
  obtain ⟨A, c, rfl, hc1, hc2⟩ := h.form
  rw [strs_length] at hc1 h ⊢
  have H0 : Hid (Row B 9 (.slice A l.length c) (strs (List.replicate 0 m ++ l.drop 0)) w ∧ w.grownBy w (Value.slice A l.length c).ownBlock) := ⟨h, only_refl _ _⟩
  have HB := Lib.hid hl
  have hlz : (l.length : Int) ≤ 100000000000 := by omega
  clear h hc1 hc2 hl
  go_enter Tryd.func23, Tryd.ntmps23
  go_wp2_with fail
  go_loopw [5] (fun v5 wr => ∃ k : Nat, k ≤ l.length ∧ v5 = .int .i64 (k : Int) ∧ Hid (Row B 9 (.slice A l.length c) (strs (List.replicate k m ++ l.drop k)) wr ∧ w.grownBy wr (Value.slice A l.length c).ownBlock))
    (fun v5 _ => l.length - (intOf v5).toNat)
  case atStart => exact ⟨0, by omega, rfl, H0⟩
  case round =>
    clear H0
    obtain ⟨k, hk, rfl, HR⟩ := hrel
    by_cases hlt : k < l.length
    · have hlen : (List.replicate k m ++ l.drop k).length = l.length := by simp; omega
      obtain ⟨g, c', e1, hg⟩ := HR.out.1.shape (by intro e; have := congrArg List.length e; rw [strs_length, hlen, List.length_nil] at this; omega)
      rw [strs_length, hlen] at e1
      cases e1
      have hx : ∃ u, wr.cell? ⟨g, k, none⟩ = some u := ⟨_, HR.out.1.cell k _ (strs_getD _ k (by rw [hlen]; exact hlt))⟩
      obtain ⟨u, hx⟩ := hx
      have hf := HR.out.1.frozen k
      have k0 : (0 : Int) ≤ (k : Int) := by omega
      have k1 : (k : Int) < (l.length : Int) := by omega
      obtain ⟨s1, s2⟩ := HR.out.1.stored k (.string ⟨m.toArray⟩)
      rw [← strs_set, fill_step l k m hlt] at s1
      have HT : Hid (Row B 9 (.slice (some ⟨g, 0, none⟩) l.length c) (strs (List.replicate (k + 1) m ++ l.drop (k + 1))) (wr.setCell ⟨g, k, none⟩ (.string ⟨m.toArray⟩)) ∧ w.grownBy (wr.setCell ⟨g, k, none⟩ (.string ⟨m.toArray⟩)) (Value.slice (some ⟨g, 0, none⟩) l.length c).ownBlock) := ⟨s1, grown_chain HR.out.2 s2 (.inl rfl)⟩
      clear s1 s2 hlen hg
      go_wp2_with fail
      go_roundw
      case rel => exact ⟨k + 1, by omega, by go_num, HT⟩
      case measure => simp [intOf]; omega
    · obtain rfl : k = l.length := by omega
      rw [List.drop_length, List.append_nil] at HR
      go_wp2_with (first
        | ((with_reducible refine gate_op (Op.call { callee := .builtin .append, args := #[.tmp 19, .tmp 21], argTypes := #[22, 22] }) rfl ?_)
           refine row_append (B := B) elem_str rfl (.tmp 19) (.tmp 21) rfl _ (strs (List.replicate l.length m)) _ rfl rfl rfl (by rw [strs_length, List.length_replicate]; have := HB.out; omega) HR.out.1 ?_
           intro v6 w1 r1 g1 l1
           rw [strs_repl] at r1
           have H1 := Lib.hid (And.intro r1 (And.intro (grown_chain HR.out.2 g1 (.inl rfl)) (Loc.trans (Loc.refl w _) l1 HR.out.2.size)))
           clear r1 g1 l1)
        | ((with_reducible refine gate_op (Op.call { callee := .builtin .append, args := #[.tmp 23, .tmp 25], argTypes := #[22, 22] }) rfl ?_)
           refine row_append (B := B) elem_str rfl (.tmp 23) (.tmp 25) rfl _ (strs (List.replicate (l.length + 1) m)) _ rfl rfl rfl (by rw [strs_length, List.length_replicate]; have := HB.out; omega) H1.out.1 ?_
           intro v7 w2 r1 g1 l1
           rw [strs_repl] at r1
           have H2 := Lib.hid (And.intro r1 (And.intro (grown_chain H1.out.2.1 g1 H1.out.2.2) (Loc.trans H1.out.2.2 l1 H1.out.2.1.size)))
           clear r1 g1 l1))
      go_loopw [7, 8] (fun v7 v8 w3 => ∃ j : Nat, j ≤ 20 ∧ v8 = .int .i64 (j : Int) ∧ Hid (Row B 9 v7 (strs (List.replicate (l.length + 2 + j) m)) w3 ∧ w.grownBy w3 (Value.slice A l.length c).ownBlock ∧ Loc w (Value.slice A l.length c).ownBlock v7.ownBlock))
        (fun _ v8 _ => 20 - (intOf v8).toNat)
      case atStart => exact ⟨0, by omega, rfl, H2⟩
      case round =>
        clear H2 H1 HR
        obtain ⟨j, hj, rfl, H3⟩ := hrel
        have j0 : (0 : Int) ≤ (j : Int) := by omega
        by_cases hlt : j < 20
        · have j1 : (j : Int) < 20 := by omega
          go_wp2_with ((with_reducible refine gate_op (Op.call { callee := .builtin .append, args := #[.tmp 31, .tmp 33], argTypes := #[22, 22] }) rfl ?_)
                       refine row_append (B := B) elem_str rfl (.tmp 31) (.tmp 33) rfl _ (strs (List.replicate (l.length + 2 + j) m)) _ rfl rfl rfl (by rw [strs_length, List.length_replicate]; have := HB.out; omega) H3.out.1 ?_
                       intro v9 w4 r1 g1 l1
                       rw [strs_repl] at r1
                       have H4 := Lib.hid (And.intro r1 (And.intro (grown_chain H3.out.2.1 g1 H3.out.2.2) (Loc.trans H3.out.2.2 l1 H3.out.2.1.size)))
                       clear r1 g1 l1)
          go_roundw
          case rel => exact ⟨j + 1, by omega, by go_num, H4⟩
          case measure => simp [intOf]; omega
        · obtain rfl : j = 20 := by omega
          go_wp2_with fail
          go_ret
          exact ⟨_, rfl, H3⟩
end Go.Proofs.YthhjmodkodkgpaaDoor
