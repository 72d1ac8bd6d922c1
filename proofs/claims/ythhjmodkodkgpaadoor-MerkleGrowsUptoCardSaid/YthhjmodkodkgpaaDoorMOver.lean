/- strongboxlaw19.over. -/
import Derived.Test.YthhjmodkodkgpaaDoorRowB
import Derived.Test.YthhjmodkodkgpaaDoorMRootA
import Derived.Test.YthhjmodkodkgpaaDoorMHelp
namespace Go.Proofs.YthhjmodkodkgpaaDoor
open Go.RowKit Sbx Go.Sort

theorem fill_step (l : List (List UInt8)) (k : Nat) (m : List UInt8) (h : k < l.length) : (List.replicate k m ++ l.drop k).set k m = List.replicate (k + 1) m ++ l.drop (k + 1) := by
  rw [List.set_append_right _ _ (by simp), List.length_replicate, Nat.sub_self, List.drop_eq_getElem_cons h, List.set_cons_zero, List.replicate_succ', List.append_assoc]
  rfl
theorem strs_repl (n : Nat) (m : List UInt8) : strs (List.replicate n m) ++ [.string ⟨m.toArray⟩] = strs (List.replicate (n + 1) m) := by
  simp [strs, List.replicate_succ']
set_option maxRecDepth 100000 in
set_option maxHeartbeats 1000000 in
theorem over_any (l : List (List UInt8)) (m : List UInt8) (v : Value) (B : Nat) (w : World) (hl : l.length ≤ 100000000000) (h : Row B 9 v (strs l) w) :
    Calls Tryd.prog 23 #[v, .string ⟨m.toArray⟩] w fun e w' => ∃ v', e = .returned v' ∧ Hid (Row B 9 v' (strs (List.replicate (l.length + 22) m)) w' ∧ w.grownBy w' v.ownBlock ∧ Loc w v.ownBlock v'.ownBlock) := by
  obtain ⟨A, c, rfl, hc1, hc2⟩ := h.form
  rw [strs_length] at hc1 h ⊢
  have H0 : Hid (Row B 9 (.slice A l.length c) (strs (List.replicate 0 m ++ l.drop 0)) w ∧ w.grownBy w (Value.slice A l.length c).ownBlock) := ⟨h, only_refl _ _⟩
  have HB := Lib.hid hl
  have hlz : (l.length : Int) ≤ 100000000000 := by omega
  clear h hc1 hc2 hl
  go_enter Tryd.func23, Tryd.ntmps23
  go_wp2_with fail
  go_loopw [5] (fun v5 wr => ∃ k : Nat, k ≤ l.length ∧ v5 = .int .i64 (k : Int) ∧ Hid (Row B 9 (.slice A l.length c) (strs (List.replicate k m ++ l.drop k)) wr ∧ w.grownBy wr (Value.slice A l.length c).ownBlock))
    (fun v5 _ => l.length - (intOf v5).toNat)
  case atStart => exact ⟨0, by omega, rfl, H0⟩
  case round =>
    clear H0
    obtain ⟨k, hk, rfl, HR⟩ := hrel
    by_cases hlt : k < l.length
    · have hlen : (List.replicate k m ++ l.drop k).length = l.length := by simp; omega
      obtain ⟨g, c', e1, hg⟩ := HR.out.1.shape (by intro e; have := congrArg List.length e; rw [strs_length, hlen, List.length_nil] at this; omega)
      rw [strs_length, hlen] at e1
      cases e1
      have hx : ∃ u, wr.cell? ⟨g, k, none⟩ = some u := ⟨_, HR.out.1.cell k _ (strs_getD _ k (by rw [hlen]; exact hlt))⟩
      obtain ⟨u, hx⟩ := hx
      have hf := HR.out.1.frozen k
      have k0 : (0 : Int) ≤ (k : Int) := by omega
      have k1 : (k : Int) < (l.length : Int) := by omega
      obtain ⟨s1, s2⟩ := HR.out.1.stored k (.string ⟨m.toArray⟩)
      rw [← strs_set, fill_step l k m hlt] at s1
      have HT : Hid (Row B 9 (.slice (some ⟨g, 0, none⟩) l.length c) (strs (List.replicate (k + 1) m ++ l.drop (k + 1))) (wr.setCell ⟨g, k, none⟩ (.string ⟨m.toArray⟩)) ∧ w.grownBy (wr.setCell ⟨g, k, none⟩ (.string ⟨m.toArray⟩)) (Value.slice (some ⟨g, 0, none⟩) l.length c).ownBlock) := ⟨s1, grown_chain HR.out.2 s2 (.inl rfl)⟩
      clear s1 s2 hlen hg
      go_wp2_with fail
      go_roundw
      case rel => exact ⟨k + 1, by omega, by go_num, HT⟩
      case measure => simp [intOf]; omega
    · obtain rfl : k = l.length := by omega
      rw [List.drop_length, List.append_nil] at HR
      go_wp2_with (first
        | ((with_reducible refine gate_op (Op.call { callee := .builtin .append, args := #[.tmp 19, .tmp 21], argTypes := #[22, 22] }) rfl ?_)
           refine row_append (B := B) elem_str rfl (.tmp 19) (.tmp 21) rfl _ (strs (List.replicate l.length m)) _ rfl rfl rfl (by rw [strs_length, List.length_replicate]; have := HB.out; omega) HR.out.1 ?_
           intro v6 w1 r1 g1 l1
           rw [strs_repl] at r1
           have H1 := Lib.hid (And.intro r1 (And.intro (grown_chain HR.out.2 g1 (.inl rfl)) (Loc.trans (Loc.refl w _) l1 HR.out.2.size)))
           clear r1 g1 l1)
        | ((with_reducible refine gate_op (Op.call { callee := .builtin .append, args := #[.tmp 23, .tmp 25], argTypes := #[22, 22] }) rfl ?_)
           refine row_append (B := B) elem_str rfl (.tmp 23) (.tmp 25) rfl _ (strs (List.replicate (l.length + 1) m)) _ rfl rfl rfl (by rw [strs_length, List.length_replicate]; have := HB.out; omega) H1.out.1 ?_
           intro v7 w2 r1 g1 l1
           rw [strs_repl] at r1
           have H2 := Lib.hid (And.intro r1 (And.intro (grown_chain H1.out.2.1 g1 H1.out.2.2) (Loc.trans H1.out.2.2 l1 H1.out.2.1.size)))
           clear r1 g1 l1))
      go_loopw [7, 8] (fun v7 v8 w3 => ∃ j : Nat, j ≤ 20 ∧ v8 = .int .i64 (j : Int) ∧ Hid (Row B 9 v7 (strs (List.replicate (l.length + 2 + j) m)) w3 ∧ w.grownBy w3 (Value.slice A l.length c).ownBlock ∧ Loc w (Value.slice A l.length c).ownBlock v7.ownBlock))
        (fun _ v8 _ => 20 - (intOf v8).toNat)
      case atStart => exact ⟨0, by omega, rfl, H2⟩
      case round =>
        clear H2 H1 HR
        obtain ⟨j, hj, rfl, H3⟩ := hrel
        have j0 : (0 : Int) ≤ (j : Int) := by omega
        by_cases hlt : j < 20
        · have j1 : (j : Int) < 20 := by omega
          go_wp2_with ((with_reducible refine gate_op (Op.call { callee := .builtin .append, args := #[.tmp 31, .tmp 33], argTypes := #[22, 22] }) rfl ?_)
                       refine row_append (B := B) elem_str rfl (.tmp 31) (.tmp 33) rfl _ (strs (List.replicate (l.length + 2 + j) m)) _ rfl rfl rfl (by rw [strs_length, List.length_replicate]; have := HB.out; omega) H3.out.1 ?_
                       intro v9 w4 r1 g1 l1
                       rw [strs_repl] at r1
                       have H4 := Lib.hid (And.intro r1 (And.intro (grown_chain H3.out.2.1 g1 H3.out.2.2) (Loc.trans H3.out.2.2 l1 H3.out.2.1.size)))
                       clear r1 g1 l1)
          go_roundw
          case rel => exact ⟨j + 1, by omega, by go_num, H4⟩
          case measure => simp [intOf]; omega
        · obtain rfl : j = 20 := by omega
          go_wp2_with fail
          go_ret
          exact ⟨_, rfl, H3⟩
theorem strAt_opt {w : World} {A : Option Addr} {l : List (List UInt8)} (h : Reads w w.heap.size A l.length (fun j => .string ⟨(l.getD j []).toArray⟩)) : l ≠ [] → ∃ b off, A = some ⟨b, off, none⟩ ∧ StrAt w w.heap.size b off l := strAt_of_reads h
/-- what stands behind the copy over a lent row -/
theorem after_copy {w w1 w9 w8 : World} {g na nb nv : Nat} {vo va vb vv : Value} {xo' xa xb xv : List Value} (hG : Glob w) (hS : St w w8) (ho : Lst w1 w9 9 vo xo') (ha : Row na 9 va xa w8) (hb : Row nb 9 vb xb w8) (hv : Row nv 9 vv xv w8)
    (hg : w8.grownBy w9 (some g)) (h0 : w.heap.size ≤ g) (h1 : g < na) (h2 : g < nb) (h3 : g < nv) : And2 (And2 (And2 (And2 (St w) (LstW w1 9 vo xo')) (Row na 9 va xa)) (Row nb 9 vb xb)) (Row nv 9 vv xv) w9 :=
  ⟨⟨⟨⟨hS.grownR hG hg (fun k hk => by cases hk; exact h0), ho⟩, ha.grown hg (fun k hk => by cases hk; exact .inl h1)⟩, hb.grown hg (fun k hk => by cases hk; exact .inl h2)⟩, hv.grown hg (fun k hk => by cases hk; exact .inl h3)⟩
theorem LstW.lt {w0 w : World} {e : TypeId} {g n c : Nat} {xs : List Value} (h : LstW w0 e (.slice (some ⟨g, 0, none⟩) n c) xs w) : g < w.heap.size := (h.1.lt g rfl).2
/-- .. and behind the first over -/
theorem after_over {w w16 w17 : World} {nb nc na : Nat} {v1 va vb vc : Value} {x1 xb xc xa : List Value} (hG : Glob w) (hS : St w w16) (hra : Row na 9 va xa w16) (hb : Row nb 9 vb xb w16) (hc : Row nc 9 vc xc w16)
    (h1 : Row na 9 v1 x1 w17) (hg : w16.grownBy w17 va.ownBlock) (hl : Loc w16 va.ownBlock v1.ownBlock) (h0 : w.heap.size ≤ na) (hab : ∀ k, va.ownBlock = some k → k < nb) (hac : ∀ k, va.ownBlock = some k → k < nc) :
    And2 (And2 (And2 (St w) (Row nb 9 vb xb)) (Row nc 9 vc xc)) (And2 (Row na 9 v1 x1) (fun _ => ∀ k, vc.ownBlock = some k → v1.ownBlock ≠ some k)) w17 :=
  ⟨⟨⟨hS.grownR hG hg (fun k hk => Nat.le_trans h0 (hra.lt k hk).1), hb.grown hg (fun k hk => .inl (hab k hk))⟩, hc.grown hg (fun k hk => .inl (hac k hk))⟩, h1, fun k hk e => by
    have hcl := hc.lt k hk
    rcases hl with h2 | ⟨j, h2, h3⟩
    · have := hac k (h2.symm.trans e); omega
    · have : some k = some j := e.symm.trans h2
      cases this; omega⟩
/-- .. and behind the second -/
theorem after_over2 {w w17 w18 : World} {na nc : Nat} {v1 v2 vc : Value} {x1 x2 xc : List Value} (hG : Glob w) (hS : St w w17) (hc : Row nc 9 vc xc w17) (h1 : Row na 9 v1 x1 w17) (hne : ∀ k, vc.ownBlock = some k → v1.ownBlock ≠ some k)
    (h2 : Row nc 9 v2 x2 w18) (hg : w17.grownBy w18 vc.ownBlock) (h0 : w.heap.size ≤ nc) : And2 (And2 (St w) (Row na 9 v1 x1)) (Row nc 9 v2 x2) w18 :=
  ⟨⟨hS.grownR hG hg (fun k hk => Nat.le_trans h0 (hc.lt k hk).1), h1.grown hg (fun k hk => .inr (hne k hk))⟩, h2⟩
theorem Row.readsR {B : Nat} {A : Option Addr} {n c k : Nat} {m : List UInt8} {w : World} (h : Row B 9 (.slice A n c) (strs (List.replicate k m)) w) : Reads w w.heap.size A k (fun j => .string ⟨((List.replicate k m).getD j []).toArray⟩) := by
  have := h.readsS
  rwa [List.length_replicate] at this
theorem repl_mem (n : Nat) (m s : List UInt8) (h : s ∈ List.replicate n m) : s = m := (List.mem_replicate.1 h).2

end Go.Proofs.YthhjmodkodkgpaaDoor
