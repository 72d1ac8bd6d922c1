/- strongboxlaw19.MerkleBelow: the walk. -/
import Derived.Test.YthhjmodkodkgpaaDoorMLaw
namespace Sbx
theorem mroot_nil : mroot [] = sha [] := by rw [mroot]; rfl
theorem mroot_c (a : List UInt8) : mroot [a] = mleaf a := by rw [mroot, dif_neg (by simp), dif_pos (by simp)]; rfl
theorem mroot_ab (a b : List UInt8) : mroot [a, b] = mnode (mleaf a) (mleaf b) := by
  rw [mroot, dif_neg (by simp), dif_neg (by simp)]
  show mnode (mroot ([a, b].take (hf 2))) (mroot ([a, b].drop (hf 2))) = _
  rw [hf2]
  show mnode (mroot [a]) (mroot [b]) = _
  rw [mroot_c, mroot_c]
theorem mroot_3 (a b c : List UInt8) : mroot [a, b, c] = mnode (mnode (mleaf a) (mleaf b)) (mleaf c) := by
  rw [mroot, dif_neg (by simp), dif_neg (by simp)]
  show mnode (mroot ([a, b, c].take (hf 3))) (mroot ([a, b, c].drop (hf 3))) = _
  rw [hf3]
  show mnode (mroot [a, b]) (mroot [c]) = _
  rw [mroot_ab, mroot_c]
end Sbx
namespace Go.Proofs.YthhjmodkodkgpaaDoor
open Go.RowKit Sbx Go.Sort

theorem root_new (l : List (List UInt8)) (n : Nat) (hn : l.length = n) (hl : n ≤ 1000000000000) (hs : ∀ s ∈ l, s.length ≤ 1152921504606840000) (w : World) (g : Glob w) :
    Calls Tryd.prog 21 #[.slice (some ⟨w.heap.size, 0, none⟩) n n] (w.alloc (.cells (strs l).toArray 9)) fun e w' => e = .returned (.string ⟨(mroot l).toArray⟩) ∧ Below (w.alloc (.cells (strs l).toArray 9)).heap.size (w.alloc (.cells (strs l).toArray 9)) w' := by
  subst hn
  exact root_in l.length l w.heap.size 0 l.length _ (Nat.le_refl _) hl (Nat.le_refl _) (by unfold maxLen; omega) hs (g.below ((Below.refl _ _).alloc (Nat.le_refl _) _)) (strAt_new w l)
set_option maxRecDepth 100000 in
theorem root_nil (A : Option Addr) (cap : Nat) (w : World) (hG : Glob w) : Calls Tryd.prog 21 #[.slice A 0 cap] w fun e w' => e = .returned (.string ⟨(mroot []).toArray⟩) ∧ Below w.heap.size w w' := by
  have c := sum_any [] w hG (by simp)
  rw [mroot_nil]
  obtain ⟨M, eM⟩ : ∃ M, M = sha [] := ⟨_, rfl⟩
  rw [← eM] at c ⊢
  have C := Lib.hid c
  clear c eM hG
  go_enter Tryd.func21, Tryd.ntmps21
  go_wp2_with (go_at_call 31; refine C.out.mono ?_; clear C; rintro e w' ⟨rfl, hB⟩)
  go_ret
  exact ⟨rfl, hB⟩
theorem St.callA {w0 w : World} {f : FuncId} {n : Nat} {v : Ending} {o : Obj} (h : Hid (St w0 w)) (c : ∀ W, Glob W → Calls Tryd.prog f #[.slice (some ⟨W.heap.size, 0, none⟩) n n] (W.alloc o) fun e w' => e = v ∧ Below (W.alloc o).heap.size (W.alloc o) w') : Calls Tryd.prog f #[.slice (some ⟨w.heap.size, 0, none⟩) n n] (w.alloc o) fun e w' => e = v ∧ Hid (St w0 w') := St.call (St.alloc h o) (c w h.out.1)

set_option maxRecDepth 100000 in
set_option maxHeartbeats 4000000 in
theorem merklebelow_any (a b c : List UInt8) (w : World) (hG : Glob w) (ha : a.length ≤ 140737488354000) (hb : b.length ≤ 140737488354000) (hc : c.length ≤ 140737488354000) :
    Calls Tryd.prog 6 #[.string ⟨a.toArray⟩, .string ⟨b.toArray⟩, .string ⟨c.toArray⟩] w fun e w' => e = .returned (.bool true) ∧ Below w.heap.size w w' := by
  have HS := St.start hG
  have c1 := fun W (h : Glob W) => sum_any ([0] ++ a) W h (by simp; omega)
  have c2 := fun W (h : Glob W) => sum_any ([0] ++ b) W h (by simp; omega)
  have c3 := fun W (h : Glob W) => sum_any ([0] ++ c) W h (by simp; omega)
  rw [← str_app] at c1 c2 c3
  change ∀ W, Glob W → Calls _ _ _ W (fun e w' => e = Ending.returned (Value.string ⟨(mleaf a).toArray⟩) ∧ _) at c1
  change ∀ W, Glob W → Calls _ _ _ W (fun e w' => e = Ending.returned (Value.string ⟨(mleaf b).toArray⟩) ∧ _) at c2
  change ∀ W, Glob W → Calls _ _ _ W (fun e w' => e = Ending.returned (Value.string ⟨(mleaf c).toArray⟩) ∧ _) at c3
  have d1 := fun W (h : Glob W) => leaf_any a W h (by omega)
  have d2 : ∀ W, Glob W → Calls Tryd.prog 21 #[.slice (some ⟨W.heap.size, 0, none⟩) 3 3] (W.alloc (.cells #[.string ⟨a.toArray⟩, .string ⟨b.toArray⟩, .string ⟨c.toArray⟩] 9)) fun e w' => e = .returned (.string ⟨(mroot [a, b, c]).toArray⟩) ∧ Below (W.alloc (.cells #[.string ⟨a.toArray⟩, .string ⟨b.toArray⟩, .string ⟨c.toArray⟩] 9)).heap.size (W.alloc (.cells #[.string ⟨a.toArray⟩, .string ⟨b.toArray⟩, .string ⟨c.toArray⟩] 9)) w' := fun W h => root_new [a, b, c] 3 rfl (by omega) (by intro s hs; simp at hs; rcases hs with rfl | rfl | rfl <;> omega) W h
  have d3 : ∀ W, Glob W → Calls Tryd.prog 21 #[.slice (some ⟨W.heap.size, 0, none⟩) 2 2] (W.alloc (.cells #[.string ⟨a.toArray⟩, .string ⟨b.toArray⟩] 9)) fun e w' => e = .returned (.string ⟨(mroot [a, b]).toArray⟩) ∧ Below (W.alloc (.cells #[.string ⟨a.toArray⟩, .string ⟨b.toArray⟩] 9)).heap.size (W.alloc (.cells #[.string ⟨a.toArray⟩, .string ⟨b.toArray⟩] 9)) w' := fun W h => root_new [a, b] 2 rfl (by omega) (by intro s hs; simp at hs; rcases hs with rfl | rfl <;> omega) W h
  have d4 : ∀ W, Glob W → Calls Tryd.prog 21 #[.slice (some ⟨W.heap.size, 0, none⟩) 1 1] (W.alloc (.cells #[.string ⟨c.toArray⟩] 9)) fun e w' => e = .returned (.string ⟨(mroot [c]).toArray⟩) ∧ Below (W.alloc (.cells #[.string ⟨c.toArray⟩] 9)).heap.size (W.alloc (.cells #[.string ⟨c.toArray⟩] 9)) w' := fun W h => root_new [c] 1 rfl (by omega) (by intro s hs; simp at hs; rcases hs with rfl <;> omega) W h
  have d5 := fun W (h : Glob W) => root_nil none 0 W h
  rw [mroot_3] at d2
  rw [mroot_ab] at d3
  rw [mroot_c] at d4
  rw [mroot_nil] at d5
  have lx := mleaf_length a
  have ly := mleaf_length b
  have lz := mleaf_length c
  obtain ⟨X, eX⟩ : ∃ X, X = mleaf a := ⟨_, rfl⟩
  obtain ⟨Y, eY⟩ : ∃ X, X = mleaf b := ⟨_, rfl⟩
  obtain ⟨Z, eZ⟩ : ∃ X, X = mleaf c := ⟨_, rfl⟩
  rw [← eX] at c1 d1 lx
  rw [← eX, ← eY, ← eZ] at d2
  rw [← eX, ← eY] at d3
  rw [← eY] at c2 ly
  rw [← eZ] at c3 d4 lz
  have c4 := fun W (h : Glob W) => sum_any ([1] ++ X ++ Y) W h (by simp; omega)
  rw [← str_app, ← str_app] at c4
  change ∀ W, Glob W → Calls _ _ _ W (fun e w' => e = Ending.returned (Value.string ⟨(mnode X Y).toArray⟩) ∧ _) at c4
  have d6 := fun W (h : Glob W) => nodef_any X Y W h
  rw [show nodeS X Y = mnode X Y from if_pos ⟨lx, ly⟩, show nodeE X Y = 0 from if_pos ⟨lx, ly⟩] at d6
  have lm := mnode_length X Y
  obtain ⟨M, eM⟩ : ∃ X', X' = mnode X Y := ⟨_, rfl⟩
  rw [← eM] at c4 d2 d3 d6 lm
  have c5 := fun W (h : Glob W) => sum_any ([1] ++ M ++ Z) W h (by simp; omega)
  rw [← str_app, ← str_app] at c5
  change ∀ W, Glob W → Calls _ _ _ W (fun e w' => e = Ending.returned (Value.string ⟨(mnode M Z).toArray⟩) ∧ _) at c5
  obtain ⟨T, eT⟩ : ∃ X', X' = mnode M Z := ⟨_, rfl⟩
  rw [← eT] at c5 d2
  have c6 := fun W (h : Glob W) => sum_any [] W h (by simp)
  obtain ⟨O, eO⟩ : ∃ X', X' = sha [] := ⟨_, rfl⟩
  rw [← eO] at c6 d5
  have H := Lib.hid (And.intro c1 (And.intro c2 (And.intro c3 (And.intro c4 (And.intro c5 c6)))))
  have D := Lib.hid (And.intro d1 (And.intro d2 (And.intro d3 (And.intro d4 (And.intro d5 d6)))))
  have le1 : ¬ 9223372036854775807 < 1 + a.length := by omega
  have le2 : ¬ 9223372036854775807 < 1 + b.length := by omega
  have le3 : ¬ 9223372036854775807 < 1 + c.length := by omega
  have le4 : ¬ 9223372036854775807 < 1 + X.length := by omega
  have le5 : ¬ 9223372036854775807 < 1 + X.length + Y.length := by omega
  have le6 : ¬ 9223372036854775807 < 1 + M.length := by omega
  have le7 : ¬ 9223372036854775807 < 1 + M.length + Z.length := by omega
  clear c1 c2 c3 c4 c5 c6 d1 d2 d3 d4 d5 d6 eX eY eZ eM eT eO lx ly lz lm hG ha hb hc
  go_enter Tryd.func6, Tryd.ntmps6
  go_wp2_with (first
    | (go_at_call 13; refine (St.callG HS awake_any).mono ?_; clear HS; rintro e w' ⟨rfl, HS⟩)
    | (go_at_call 31; with_reducible refine (St.callG HS H.out.1).mono ?_; clear HS; rintro e w' ⟨rfl, HS⟩)
    | (go_at_call 31; with_reducible refine (St.callG HS H.out.2.1).mono ?_; clear HS; rintro e w' ⟨rfl, HS⟩)
    | (go_at_call 31; with_reducible refine (St.callG HS H.out.2.2.1).mono ?_; clear HS; rintro e w' ⟨rfl, HS⟩)
    | (go_at_call 31; with_reducible refine (St.callG HS H.out.2.2.2.1).mono ?_; clear HS; rintro e w' ⟨rfl, HS⟩)
    | (go_at_call 31; with_reducible refine (St.callG HS H.out.2.2.2.2.1).mono ?_; clear HS; rintro e w' ⟨rfl, HS⟩)
    | (go_at_call 31; with_reducible refine (St.callG HS H.out.2.2.2.2.2).mono ?_; clear HS; rintro e w' ⟨rfl, HS⟩)
    | (go_at_call 29; with_reducible refine (St.callG HS D.out.1).mono ?_; clear HS; rintro e w' ⟨rfl, HS⟩)
    | (go_at_call 26; with_reducible refine (St.callG HS D.out.2.2.2.2.2).mono ?_; clear HS; rintro e w' ⟨rfl, HS⟩)
    | (go_at_call 21; with_reducible refine (St.callA HS D.out.2.1).mono ?_; clear HS; rintro e w' ⟨rfl, HS⟩)
    | (go_at_call 21; with_reducible refine (St.callA HS D.out.2.2.1).mono ?_; clear HS; rintro e w' ⟨rfl, HS⟩)
    | (go_at_call 21; with_reducible refine (St.callA HS D.out.2.2.2.1).mono ?_; clear HS; rintro e w' ⟨rfl, HS⟩)
    | (go_at_call 21; with_reducible refine (St.callG HS D.out.2.2.2.2.1).mono ?_; clear HS; rintro e w' ⟨rfl, HS⟩))
  go_ret
  exact ⟨rfl, HS.out.2⟩
end Go.Proofs.YthhjmodkodkgpaaDoor
