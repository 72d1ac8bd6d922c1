/- strongboxlaw19's helpers: some, lent, same, kept, unlike, over, still. strongboxlaw19.lent, kept, over. -/
import Derived.Test.YthhjmodkodkgpaaDoorMLaw
import Derived.Laws.CopyOwn
namespace Go.Proofs.YthhjmodkodkgpaaDoor
open Go.RowKit Sbx Go.Sort

/-- a text that stands in a lent row's spare room -/
def spare8 : List (List UInt8) := List.replicate 8 [115, 112, 97, 114, 101]

set_option maxRecDepth 100000 in
theorem some_any (n M : Nat) (A : Option Addr) (cap : Nat) (w : World) (hn : n ≤ cap) (hc : cap ≤ maxLen) (hA : 0 < n → ∃ b off, A = some ⟨b, off, none⟩) :
    Calls Tryd.prog 14 #[.slice A n cap, .int .i64 (M : Int)] w fun e w' => e = .returned (.slice A (min n M) cap) ∧ w = w' := by
  by_cases h : M < n
  · rw [Nat.min_eq_right (by omega)]
    obtain ⟨b, off, rfl⟩ := hA (by omega)
    have c1 : (M : Int) < (n : Int) := by omega
    have c2 : (M : Int) ≤ (cap : Int) := by omega
    have c3 : (0 : Int) ≤ (M : Int) := by omega
    have c4 : (n : Int) ≤ (cap : Int) := by omega
    clear hA hc
    go_enter Tryd.func14, Tryd.ntmps14
    go_wp2_with fail
    go_ret
    exact ⟨rfl, rfl⟩
  · rw [Nat.min_eq_left (by omega)]
    have c1 : ¬ (M : Int) < (n : Int) := by omega
    clear hA hc
    go_enter Tryd.func14, Tryd.ntmps14
    go_wp2_with fail
    go_ret
    exact ⟨rfl, rfl⟩

set_option maxRecDepth 100000 in
set_option maxHeartbeats 1000000 in
theorem lsame_any (l m : List (List UInt8)) (A B : Option Addr) (c d : Nat) (w : World) (hl : l.length ≤ 1000000000000) (hR : Reads w w.heap.size A l.length (fun j => .string ⟨(l.getD j []).toArray⟩)) (hS : Reads w w.heap.size B m.length (fun j => .string ⟨(m.getD j []).toArray⟩)) :
    Calls Tryd.prog 20 #[.slice A l.length c, .slice B m.length d] w fun e w' => e = .returned (.bool (decide (l = m))) ∧ Below w.heap.size w w' := by
  have hlz : (l.length : Int) ≤ 1000000000000 := by omega
  by_cases hlm : l.length = m.length
  · have hne : ((l.length : Int) != (m.length : Int)) = false := by rw [bne_eq_false_iff_eq]; omega
    have HR := Lib.hid (And.intro hR hS)
    clear hR hS hl
    go_enter Tryd.func20, Tryd.ntmps20
    go_wp2_with fail
    go_loopw [5] (fun v5 wr => ∃ k : Nat, k ≤ l.length ∧ v5 = .int .i64 (k : Int) ∧ Hid (∀ j, j < k → l.getD j [] = m.getD j []) ∧ Hid (Below w.heap.size w wr))
      (fun v5 _ => l.length - (intOf v5).toNat)
    case atStart => exact ⟨0, by omega, rfl, fun j h => absurd h (Nat.not_lt_zero j), Below.refl _ _⟩
    case round =>
      obtain ⟨k, hk, rfl, hall, hB⟩ := hrel
      by_cases hlt : k < l.length
      · obtain ⟨b, off, rfl, hb, hcell⟩ := HR.out.1 k hlt
        obtain ⟨b2, off2, rfl, hb2, hcell2⟩ := HR.out.2 k (by omega)
        have hx : wr.cell? ⟨b, off + k, none⟩ = some (.string ⟨(l.getD k []).toArray⟩) := (hB.out.cell (p := ⟨b, off + k, none⟩) hb).trans hcell
        have hy : wr.cell? ⟨b2, off2 + k, none⟩ = some (.string ⟨(m.getD k []).toArray⟩) := (hB.out.cell (p := ⟨b2, off2 + k, none⟩) hb2).trans hcell2
        obtain ⟨s, es⟩ : ∃ s, s = l.getD k [] := ⟨_, rfl⟩
        obtain ⟨t, et⟩ : ∃ s, s = m.getD k [] := ⟨_, rfl⟩
        rw [← es] at hx
        rw [← et] at hy
        have k0 : (0 : Int) ≤ (k : Int) := by omega
        have k1 : (k : Int) < (l.length : Int) := by omega
        have k2 : (k : Int) < (m.length : Int) := by omega
        have ES := Lib.hid (And.intro es et)
        clear es et hcell hcell2 hb hb2
        by_cases hst : s = t
        · have hq : (s == t) = true := by simpa using hst
          go_wp2_with fail
          go_region
          go_wp2_with fail
          go_roundw
          case rel =>
            refine ⟨k + 1, by omega, by go_num, fun j hj => ?_, hB.out.drew⟩
            by_cases hjk : j < k
            · exact hall.out j hjk
            · obtain rfl : j = k := by omega
              rw [← ES.out.1, ← ES.out.2]; exact hst
          case measure => simp [intOf]; omega
        · have hq : (s == t) = false := by simpa using hst
          have hf : decide (l = m) = false := by
            rw [decide_eq_false_iff_not]
            rintro rfl
            exact hst (ES.out.1.trans ES.out.2.symm)
          have HF := Lib.hid hf
          clear hf hst
          go_wp2_with fail
          go_region
          go_wp2_with fail
          go_ret
          exact ⟨by rw [HF.out]; rfl, hB.out.drew⟩
      · obtain rfl : k = l.length := by omega
        have ht : decide (l = m) = true := by
          rw [decide_eq_true_iff]
          apply List.ext_getElem hlm
          intro i h1 h2
          have := hall.out i h1
          rwa [List.getD_eq_getElem?_getD, List.getD_eq_getElem?_getD, List.getElem?_eq_getElem h1, List.getElem?_eq_getElem h2] at this
        have HT := Lib.hid ht
        clear ht
        go_wp2_with fail
        go_ret
        exact ⟨by rw [HT.out]; rfl, hB.out⟩
  · rw [show decide (l = m) = false from by rw [decide_eq_false_iff_not]; rintro rfl; exact hlm rfl]
    have hne : ((l.length : Int) != (m.length : Int)) = true := by rw [bne_iff_ne]; omega
    clear hR hS hl
    go_enter Tryd.func20, Tryd.ntmps20
    go_wp2_with fail
    go_ret
    exact ⟨rfl, Below.refl _ _⟩

set_option maxRecDepth 100000 in
theorem unlike_any (l : List (List UInt8)) (A : Option Addr) (c : Nat) (w : World) (hl : l.length ≤ 1000000000000) (hs : ∀ s ∈ l, s.length ≤ 140737488353000) (hR : Reads w w.heap.size A l.length (fun j => .string ⟨(l.getD j []).toArray⟩)) :
    Calls Tryd.prog 19 #[.slice A l.length c] w fun e w' => ∃ v, e = .returned v ∧ Hid (Lst w w' 9 v (strs (l.map (· ++ [39])))) := by
  have hlz : (l.length : Int) ≤ 1000000000000 := by omega
  have HR := Lib.hid (And.intro hR hs)
  clear hR hs hl
  go_enter Tryd.func19, Tryd.ntmps19
  go_wp2_with fail
  go_loopw [3, 4] (fun v3 v4 wr => ∃ k : Nat, k ≤ l.length ∧ v4 = .int .i64 (k : Int) ∧ Hid (Lst w wr 9 v3 (strs ((l.take k).map (· ++ [39])))))
    (fun _ v4 _ => l.length - (intOf v4).toNat)
  case atStart => exact ⟨0, by omega, rfl, Lst.nil _ (Below.refl _ _)⟩
  case round =>
    obtain ⟨k, hk, rfl, HD⟩ := hrel
    by_cases hlt : k < l.length
    · obtain ⟨b, off, rfl, hb, hcell⟩ := HR.out.1 k hlt
      have hx : wr.cell? ⟨b, off + k, none⟩ = some (.string ⟨(l.getD k []).toArray⟩) := (HD.out.2.cell (p := ⟨b, off + k, none⟩) hb).trans hcell
      obtain ⟨s, es⟩ : ∃ s, s = l.getD k [] := ⟨_, rfl⟩
      rw [← es] at hx
      have hg : l[k] = s := by rw [es, List.getD_eq_getElem?_getD, List.getElem?_eq_getElem hlt]; rfl
      have hsl : s.length ≤ 140737488353000 := HR.out.2 s (by rw [← hg]; exact List.getElem_mem hlt)
      have le : ¬ 9223372036854775807 < s.length + 1 := by omega
      have k0 : (0 : Int) ≤ (k : Int) := by omega
      have k1 : (k : Int) < (l.length : Int) := by omega
      have HX := Lib.hid (And.intro hg (str_app s [39]))
      clear es hcell hb hg
      go_wp2_with ((with_reducible refine gate_op (Op.call { callee := .builtin .append, args := #[.tmp 11, .tmp 17], argTypes := #[22, 22] }) rfl ?_)
                   refine lst_append elem_str rfl (.tmp 11) (.tmp 17) rfl _ (strs ((l.take k).map (· ++ [39]))) _ rfl rfl rfl (by rw [strs_length, List.length_map, List.length_take]; omega) HD.out ?_
                   intro v' w' h1 _
                   have HD' := Lib.hid h1
                   clear h1)
      go_roundw
      case rel =>
        refine ⟨k + 1, by omega, by go_num, ?_⟩
        have h1 := HD'.out
        have h2 : strs ((l.take (k + 1)).map (· ++ [39])) = strs ((l.take k).map (· ++ [39])) ++ [.string (⟨s.toArray⟩ ++ ⟨#[39]⟩)] := by
          rw [List.take_succ_eq_append_getElem hlt, List.map_append, strs_app, HX.out.1, show (⟨s.toArray⟩ ++ ⟨#[39]⟩ : ByteArray) = ⟨(s ++ [39]).toArray⟩ from HX.out.2]
          rfl
        rw [h2]
        exact h1
      case measure => simp [intOf]; omega
    · obtain rfl : k = l.length := by omega
      rw [List.take_length] at HD
      go_wp2_with fail
      go_ret
      exact ⟨_, rfl, HD⟩

set_option maxRecDepth 100000 in
theorem still_any (l : List (List UInt8)) (m : List UInt8) (A : Option Addr) (c : Nat) (w : World) (hl : l.length ≤ 1000000000000) (hs : ∀ s ∈ l, s = m) (hR : Reads w w.heap.size A l.length (fun j => .string ⟨(l.getD j []).toArray⟩)) :
    Calls Tryd.prog 24 #[.slice A l.length c, .string ⟨m.toArray⟩] w fun e w' => e = .returned (.bool true) ∧ w = w' := by
  have hlz : (l.length : Int) ≤ 1000000000000 := by omega
  have HR := Lib.hid (And.intro hR hs)
  clear hR hs hl
  go_enter Tryd.func24, Tryd.ntmps24
  go_wp2_with fail
  go_loopw [5] (fun v5 wr => ∃ k : Nat, k ≤ l.length ∧ v5 = .int .i64 (k : Int) ∧ w = wr)
    (fun v5 _ => l.length - (intOf v5).toNat)
  case atStart => exact ⟨0, by omega, rfl, rfl⟩
  case round =>
    obtain ⟨k, hk, rfl, rfl⟩ := hrel
    by_cases hlt : k < l.length
    · obtain ⟨b, off, rfl, hb, hcell⟩ := HR.out.1 k hlt
      have hx : w.cell? ⟨b, off + k, none⟩ = some (.string ⟨(l.getD k []).toArray⟩) := hcell
      rw [show l.getD k [] = m from HR.out.2 _ (by rw [List.getD_eq_getElem?_getD, List.getElem?_eq_getElem hlt]; exact List.getElem_mem hlt)] at hx
      have k0 : (0 : Int) ≤ (k : Int) := by omega
      have k1 : (k : Int) < (l.length : Int) := by omega
      clear hcell hb
      go_wp2_with fail
      go_roundw
      case rel => exact ⟨k + 1, by omega, by go_num, trivial⟩
      case measure => simp [intOf]; omega
    · obtain rfl : k = l.length := by omega
      go_wp2_with fail
      go_ret
      exact ⟨rfl, rfl⟩
end Go.Proofs.YthhjmodkodkgpaaDoor
namespace Go.Proofs.YthhjmodkodkgpaaDoor
open Go.RowKit Sbx Go.Sort

theorem info_str1 : (Tryd.prog.info? 9).map (fun i => (i.zero, i.size, i.bytes)) = some (some (.string ⟨#[]⟩), 1, 16) := by kernel_rfl
theorem size_str1 : (Tryd.prog.info? 9).map (·.size) = some 1 := by kernel_rfl
theorem made_strs (n : Nat) : madeCells (Value.string ⟨#[]⟩).cells n = (strs (List.replicate n [])).toArray := by
  apply Array.toList_inj.1
  apply List.ext_getElem?
  intro i
  by_cases h : i < n
  · simp [madeCells, strs, Value.cells, h, Nat.mod_one]
  · simp [madeCells, strs, Value.cells, h]
theorem make_s (n : Nat) (z : Int) (hz : z = (n : Int)) (hn : n ≤ 1000000000000) (w : World) :
    (Instr.makeSlice 22 (.int .i64 z) (.int .i64 z)).run Tryd.prog w = .ok (.slice (some ⟨w.heap.size, 0, none⟩) n n) (w.alloc (.cells (strs (List.replicate n [])).toArray 9)) := by
  obtain ⟨i0, hi, hz0, hz1, hz2⟩ := info_parts info_str1
  have h := run_make (P := Tryd.prog) w 22 9 i0 (.string ⟨#[]⟩) Tryd.underlying22 hi hz0 .i64 .i64 z z (by omega) (Int.le_refl _) (by rw [hz2]; omega) (by omega)
  have e : z.toNat = n := by omega
  rw [e, hz1, Nat.mul_one] at h
  rw [← made_strs]
  exact h
theorem Lst.made (w : World) (e : TypeId) (xs : List Value) (hn : xs.length ≤ maxLen) : Lst w (w.alloc (.cells xs.toArray e)) e (.slice (some ⟨w.heap.size, 0, none⟩) xs.length xs.length) xs :=
  ⟨⟨by simp, .inr ⟨w.heap.size, xs.length, xs.toArray, rfl, Nat.le_refl _, heap_alloc_new w _, Nat.le_refl _, hn, by simp, by simp⟩⟩, (Below.refl _ _).alloc (Nat.le_refl _) _⟩
theorem Lst.stored {w0 w : World} {e : TypeId} {g n c : Nat} {xs : List Value} (h : Lst w0 w e (.slice (some ⟨g, 0, none⟩) n c) xs) (j : Nat) (u : Value) :
    Lst w0 (w.setCell ⟨g, j, none⟩ u) e (.slice (some ⟨g, 0, none⟩) n c) (xs.set j u) ∧ w.grownBy (w.setCell ⟨g, j, none⟩ u) (some g) := by
  obtain ⟨A, c', e1, _⟩ := h.form
  obtain ⟨rfl, rfl, rfl⟩ : some ⟨g, 0, none⟩ = A ∧ n = xs.length ∧ c = c' := by simpa using e1
  obtain ⟨h1, h2⟩ := h.1.stored j u
  exact ⟨⟨by rw [List.length_set]; exact h1, h.2.grown h2 h.2.size (fun k hk => (h.1.lt k (by rw [← hk]; rfl)).1)⟩, h2⟩
theorem Lst.frozen {w0 w : World} {e : TypeId} {g n c : Nat} {xs : List Value} (h : Lst w0 w e (.slice (some ⟨g, 0, none⟩) n c) xs) (j : Nat) : w.frozen? ⟨g, j, none⟩ = false := by
  obtain ⟨A, c', e1, _⟩ := h.form
  obtain ⟨rfl, rfl, rfl⟩ : some ⟨g, 0, none⟩ = A ∧ n = xs.length ∧ c = c' := by simpa using e1
  exact h.1.frozenAt j
theorem Lst.len {w0 w : World} {e : TypeId} {A : Option Addr} {n c : Nat} {xs : List Value} (h : Lst w0 w e (.slice A n c) xs) : n = xs.length ∧ xs.length ≤ c ∧ c ≤ maxLen := by
  obtain ⟨A', c', e1, h1, h2⟩ := h.form
  obtain ⟨rfl, rfl, rfl⟩ : A = A' ∧ n = xs.length ∧ c = c' := by simpa using e1
  exact ⟨rfl, h1, h2⟩
theorem strs_set (T : List (List UInt8)) (n : Nat) (t : List UInt8) : strs (T.set n t) = (strs T).set n (.string ⟨t.toArray⟩) := by simp [strs, List.map_set]
theorem only_setRow' {w : World} {g : Nat} (cs : Array Value) : w.grownBy (w.setRow g cs) (some g) := ⟨rfl, rfl, rfl, by simp [World.setRow], fun i _ hne => setRow_other w g i cs (fun e => hne (by rw [e]))⟩
theorem splice_take {α : Type} (cs xs L : List α) (h : L.take xs.length = xs) (hc : cs.length ≤ xs.length) : (cs ++ L.drop cs.length).take (cs ++ xs.drop cs.length).length = cs ++ xs.drop cs.length := by
  have hL : L = xs ++ L.drop xs.length := by
    have := List.take_append_drop xs.length L
    rw [h] at this
    exact this.symm
  rw [hL, List.drop_append_of_le_length hc, ← List.append_assoc, List.take_left]
theorem lst_copy {w0 w : World} {ops : Array Oper} {rest : List Oper} {o : Oper} {a : Act} {Q : Exit → Act → World → Prop} (hgd : o.guard = none) (d s : Operand) (T e : TypeId)
    (ho : o.op = .call { callee := .builtin .copy, args := #[d, s], argTypes := #[T, T] }) (hu : Tryd.prog.underlying T = some (.slice e)) (hsz : (Tryd.prog.info? e).map (·.size) = some 1)
    (g n c dLen dCap : Nat) (sp : Option Addr) (sLen sCap : Nat) (hd : a.eval d = .slice (some ⟨g, 0, none⟩) dLen dCap) (hs : a.eval s = .slice sp sLen sCap)
    (xs cs : List Value) (H : Lst w0 w e (.slice (some ⟨g, 0, none⟩) n c) xs) (hn : cs.length = Nat.min sLen dLen) (hfit : cs.length ≤ xs.length) (f : Nat → Value) (hf : ∀ i, i < cs.length → cs[i]? = some (f i)) (hR : Reads w w.heap.size sp cs.length f) (h1 : ∀ v ∈ cs, v.oneCell' = true)
    (h : ∀ w', Lst w0 w' e (.slice (some ⟨g, 0, none⟩) n c) (cs ++ xs.drop cs.length) → w.grownBy w' (some g) → wpList Tryd.prog ops Q rest (a.put o.dst (goInt cs.length)) w') : wpList Tryd.prog ops Q (o :: rest) a w := by
  by_cases h0 : cs.length = 0
  · obtain rfl : cs = [] := List.eq_nil_of_length_eq_zero h0
    refine wpList_copy_nothing hgd d s T T ho e hu hsz _ sp dLen dCap sLen sCap hd hs (by simpa using hn.symm) ?_
    exact h w (by simpa using H) (only_refl _ _)
  · obtain ⟨b, off, rfl, hb, hc⟩ := hR 0 (by omega)
    obtain ⟨hn1, hc1, hm⟩ := H.len
    rcases H.1.2 with ⟨hv, _⟩ | ⟨g', cap', cur, hv, hg, hrow, h4, h5, h6, h7⟩
    · cases hv
    · cases hv
      rw [Nat.mul_one] at h6 h7
      refine wpList_copy_own hgd d s T T ho e hu hsz g 0 dLen dCap ⟨b, off, none⟩ sLen sCap hd hs cur e hrow cs hn ?_ (by omega) h1 ?_
      · intro j v hv
        have hj : j < cs.length := (List.getElem?_eq_some_iff.1 hv).1
        obtain ⟨b', off', e', _, hc'⟩ := hR j hj
        cases e'
        rw [addr_add]
        rw [hf j hj] at hv
        rw [hc', hv]
      · refine h _ ⟨⟨by simp, .inr ⟨g, c, _, ?_, hg, setRow_heap w g _ _ e _ hrow, by simp; omega, h5, ?_, ?_⟩⟩, below_setRow H.2 hg _⟩ (only_setRow' _)
        · simp; omega
        · simp; omega
        · simp only [Nat.mul_one, Nat.zero_add, List.take_zero, List.nil_append]
          exact splice_take cs xs cur.toList h7 hfit

theorem lent_step (l : List (List UInt8)) (k b : Nat) : (l ++ (List.replicate k [115, 112, 97, 114, 101] ++ List.replicate (b + 1) [])).set (l.length + k) [115, 112, 97, 114, 101] = l ++ (List.replicate (k + 1) [115, 112, 97, 114, 101] ++ List.replicate b ([] : List UInt8)) := by
  rw [List.set_append_right _ _ (by omega), List.set_append_right _ _ (by simp)]
  simp only [List.length_replicate, Nat.add_sub_cancel_left, Nat.sub_self]
  rw [List.replicate_succ, List.set_cons_zero, List.replicate_succ', List.append_assoc]
  rfl
theorem lent_get (l : List (List UInt8)) (k b : Nat) : (l ++ (List.replicate k [115, 112, 97, 114, 101] ++ List.replicate (b + 1) [])).getD (l.length + k) [] = ([] : List UInt8) := by
  rw [List.getD_eq_getElem?_getD, List.getElem?_append_right (by omega), Nat.add_sub_cancel_left, List.getElem?_append_right (by simp), List.length_replicate, Nat.sub_self, List.replicate_succ]
  rfl
theorem spare_get (l : List (List UInt8)) (k : Nat) (h : k < 8) : (l ++ spare8).getD (l.length + k) [] = ([115, 112, 97, 114, 101] : List UInt8) := by
  rw [List.getD_eq_getElem?_getD, List.getElem?_append_right (by omega), Nat.add_sub_cancel_left, spare8, List.getElem?_replicate, if_pos h]
  rfl
set_option maxRecDepth 100000 in
set_option maxHeartbeats 1000000 in
theorem lent_any (l : List (List UInt8)) (A : Option Addr) (c : Nat) (w : World) (hl : l.length ≤ 100000000000) (hR : Reads w w.heap.size A l.length (fun j => .string ⟨(l.getD j []).toArray⟩)) :
    Calls Tryd.prog 15 #[.slice A l.length c] w fun e w' => e = .returned (.slice (some ⟨w.heap.size, 0, none⟩) (l.length + 8) (l.length + 8)) ∧ Hid (Lst w w' 9 (.slice (some ⟨w.heap.size, 0, none⟩) (l.length + 8) (l.length + 8)) (strs (l ++ spare8))) := by
  have hlz : (l.length : Int) ≤ 100000000000 := by omega
  have m1 := make_s (l.length + 8) ((l.length : Int) + 8) (by omega) (by omega) w
  have H0 : Lst w (w.alloc (.cells (strs (List.replicate (l.length + 8) [])).toArray 9)) 9 (.slice (some ⟨w.heap.size, 0, none⟩) (l.length + 8) (l.length + 8)) (strs (List.replicate (l.length + 8) [])) := by
    have := Lst.made w 9 (strs (List.replicate (l.length + 8) [])) (by rw [strs_length, List.length_replicate]; unfold maxLen; omega)
    rw [strs_length, List.length_replicate] at this
    exact this
  obtain ⟨Z, eZ⟩ : ∃ Z, Z = List.replicate (l.length + 8) ([] : List UInt8) := ⟨_, rfl⟩
  rw [← eZ] at m1 H0
  have hZ : Z.length = l.length + 8 := by rw [eZ]; simp
  have hdrop : strs l ++ (strs Z).drop (strs l).length = strs (l ++ List.replicate 8 []) := by
    rw [strs_length, strs_app, eZ]
    congr 1
    simp [strs]
  have HH := Lib.hid (And.intro H0 (And.intro (hR.belowW ((Below.refl _ _).alloc (Nat.le_refl _) (.cells (strs Z).toArray 9))) (And.intro hZ hdrop)))
  clear hR hl H0 eZ hZ hdrop
  go_enter Tryd.func15, Tryd.ntmps15
  go_wp2_with ((with_reducible refine gate_op (Op.call { callee := .builtin .copy, args := #[.tmp 9, .tmp 10], argTypes := #[22, 22] }) rfl ?_)
               refine lst_copy rfl (.tmp 9) (.tmp 10) 22 9 rfl Tryd.underlying22 size_str1 w.heap.size (l.length + 8) (l.length + 8) _ _ _ _ _ rfl rfl (strs Z) (strs l) HH.out.1 (by rw [strs_length]; exact (Nat.min_eq_left (by omega)).symm) (by rw [strs_length, strs_length, HH.out.2.2.1]; omega) (fun j => .string ⟨(l.getD j []).toArray⟩) (fun i hi => strs_getD l i (by rwa [strs_length] at hi)) (by rw [strs_length]; exact HH.out.2.1) (by intro v hv; simp only [strs, List.mem_map] at hv; obtain ⟨t, _, rfl⟩ := hv; rfl) ?_
               intro w1 h1 _
               rw [HH.out.2.2.2] at h1
               have HD := Lib.hid h1
               clear h1)
  go_loopw [4] (fun v4 wr => ∃ k : Nat, k ≤ 8 ∧ v4 = .int .i64 ((l.length + k : Nat) : Int) ∧ Hid (Lst w wr 9 (.slice (some ⟨w.heap.size, 0, none⟩) (l.length + 8) (l.length + 8)) (strs (l ++ (List.replicate k [115, 112, 97, 114, 101] ++ List.replicate (8 - k) [])))))
    (fun v4 _ => l.length + 8 - (intOf v4).toNat)
  case atStart => exact ⟨0, by omega, rfl, HD⟩
  case round =>
    clear HD
    obtain ⟨k, hk, rfl, HD⟩ := hrel
    by_cases hlt : k < 8
    · have hx : wr.cell? ⟨w.heap.size, l.length + k, none⟩ = some (.string ⟨#[]⟩) := by
        have := HD.out.cell (l.length + k) _ (strs_getD _ (l.length + k) (by simp; omega))
        rw [show 8 - k = (8 - (k + 1)) + 1 by omega, lent_get] at this
        exact this
      have hf := HD.out.frozen (l.length + k)
      have k0 : (0 : Int) ≤ ((l.length + k : Nat) : Int) := by omega
      have k1 : ((l.length + k : Nat) : Int) < (l.length : Int) + 8 := by omega
      have hst := (HD.out.stored (l.length + k) (.string ⟨#[115, 112, 97, 114, 101]⟩)).1
      rw [show (Value.string ⟨#[115, 112, 97, 114, 101]⟩) = .string ⟨([115, 112, 97, 114, 101] : List UInt8).toArray⟩ from rfl, ← strs_set, show 8 - k = (8 - (k + 1)) + 1 by omega, lent_step] at hst
      have HT := Lib.hid hst
      clear hst
      go_wp2_with fail
      go_roundw
      case rel => exact ⟨k + 1, by omega, by go_num, HT⟩
      case measure => simp [intOf]; omega
    · obtain rfl : k = 8 := by omega
      go_wp2_with fail
      go_ret
      exact ⟨rfl, HD⟩

set_option maxRecDepth 100000 in
set_option maxHeartbeats 1000000 in
theorem kept_any (l : List (List UInt8)) (g cap : Nat) (B : Option Addr) (d : Nat) (w : World) (hl : l.length ≤ 100000000000) (hc : l.length + 8 ≤ cap) (hR : Reads w w.heap.size (some ⟨g, 0, none⟩) (l.length + 8) (fun j => .string ⟨((l ++ spare8).getD j []).toArray⟩)) (hS : Reads w w.heap.size B l.length (fun j => .string ⟨(l.getD j []).toArray⟩)) :
    Calls Tryd.prog 18 #[.slice (some ⟨g, 0, none⟩) (l.length + 8) cap, .slice B l.length d] w fun e w' => e = .returned (.bool true) ∧ Below w.heap.size w w' := by
  have hlz : (l.length : Int) ≤ 100000000000 := by omega
  have hcz : (l.length : Int) + 8 ≤ (cap : Int) := by omega
  have cz : (l.length : Int) ≤ (cap : Int) := by omega
  have hS0 : Reads w w.heap.size (some ⟨g, 0, none⟩) l.length (fun j => .string ⟨(l.getD j []).toArray⟩) := fun i hi => by
    obtain ⟨b, off, e, hb, h⟩ := hR i (by omega)
    refine ⟨b, off, e, hb, h.trans ?_⟩
    show some (Value.string ⟨((l ++ spare8).getD i []).toArray⟩) = some (Value.string ⟨(l.getD i []).toArray⟩)
    rw [List.getD_eq_getElem?_getD, List.getElem?_append_left hi, ← List.getD_eq_getElem?_getD]
  have cs := lsame_any l l (some ⟨g, 0, none⟩) B cap d w (by omega) hS0 hS
  rw [show decide (l = l) = true from by simp] at cs
  have CS := Lib.hid cs
  have HR := Lib.hid (And.intro hR hS)
  clear hR hS hS0 cs hl hc
  go_enter Tryd.func18, Tryd.ntmps18
  go_wp2_with fail
  go_loopw [5] (fun v5 wr => ∃ k : Nat, k ≤ 8 ∧ v5 = .int .i64 ((l.length + k : Nat) : Int) ∧ w = wr)
    (fun v5 _ => l.length + 8 - (intOf v5).toNat)
  case atStart => exact ⟨0, by omega, rfl, rfl⟩
  case round =>
    obtain ⟨k, hk, rfl, rfl⟩ := hrel
    have k0 : (0 : Int) ≤ ((l.length + k : Nat) : Int) := by omega
    by_cases hlt : k < 8
    · obtain ⟨b, off, e, hb, hcell⟩ := HR.out.1 (l.length + k) (by omega)
      cases e
      have hx : w.cell? ⟨g, l.length + k, none⟩ = some (.string ⟨#[115, 112, 97, 114, 101]⟩) := by
        rw [← Nat.zero_add (l.length + k), hcell]
        show some (Value.string ⟨((l ++ spare8).getD (l.length + k) []).toArray⟩) = _
        rw [spare_get l k hlt]
      have k1 : ((l.length + k : Nat) : Int) < (l.length : Int) + 8 := by omega
      clear hcell hb
      go_wp2_with fail
      go_roundw
      case rel => exact ⟨k + 1, by omega, by go_num, trivial⟩
      case measure => simp [intOf]; omega
    · obtain rfl : k = 8 := by omega
      go_wp2_with (go_at_call 20; refine CS.out.mono ?_; clear CS; rintro e w1 ⟨rfl, hB⟩)
      go_ret
      exact ⟨rfl, hB⟩
end Go.Proofs.YthhjmodkodkgpaaDoor
