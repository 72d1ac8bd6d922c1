/- Rows of one-cell values that a call has built (Lst): append of one, reading, reversing. -/
import Derived.Test.YthhjmodkodkgpaaDoorSt
import Derived.Test.YthhjmodkodkgpaaDoorMRoot
import Derived.Sort.OwnSorted
import Derived.Lib.SlicesMore
import Derived.Sort.WalkB12
namespace Go.Proofs.YthhjmodkodkgpaaDoor
open Go.RowKit Sbx Go.Sort

def strs (T : List (List UInt8)) : List Value := T.map fun t => Value.string ⟨t.toArray⟩
def bools (T : List Bool) : List Value := T.map fun t => Value.bool t
theorem strs_length (T : List (List UInt8)) : (strs T).length = T.length := by simp [strs]
theorem bools_length (T : List Bool) : (bools T).length = T.length := by simp [bools]
theorem strs_getD (T : List (List UInt8)) (i : Nat) (h : i < T.length) : (strs T)[i]? = some (.string ⟨(T.getD i []).toArray⟩) := by
  simp [strs, List.getElem?_map, List.getElem?_eq_getElem h, List.getD_eq_getElem?_getD]
theorem bools_getD (T : List Bool) (i : Nat) (h : i < T.length) : (bools T)[i]? = some (.bool (T.getD i false)) := by
  simp [bools, List.getElem?_map, List.getElem?_eq_getElem h, List.getD_eq_getElem?_getD]
theorem strs_app (a b : List (List UInt8)) : strs (a ++ b) = strs a ++ strs b := by simp [strs]
theorem bools_app (a b : List Bool) : bools (a ++ b) = bools a ++ bools b := by simp [bools]

/-- v owns xs, in memory that w0 had not; what w0 had is as it was -/
def Lst (w0 w : World) (e : TypeId) (v : Value) (xs : List Value) : Prop := w.ownsRow w0.heap.size e 1 v xs.length xs ∧ Below w0.heap.size w0 w
theorem Lst.nil {w0 w : World} (e : TypeId) (h : Below w0.heap.size w0 w) : Lst w0 w e (.slice none 0 0) [] := ⟨World.ownsRow_nil _ _ _ _, h⟩
theorem Lst.below {w0 w w' : World} {e : TypeId} {v : Value} {xs : List Value} (h : Lst w0 w e v xs) (hb : Below w.heap.size w w') : Lst w0 w' e v xs :=
  ⟨h.1.kept (row := none) (only_of_below hb none) (by cases hv : v.ownBlock <;> simp), h.2.trans (hb.mono h.2.size)⟩
theorem Lst.form {w0 w : World} {e : TypeId} {v : Value} {xs : List Value} (h : Lst w0 w e v xs) : ∃ A c, v = .slice A xs.length c ∧ xs.length ≤ c ∧ c ≤ maxLen := by
  rcases h.1.2 with ⟨rfl, h0⟩ | ⟨g, cap, cur, rfl, _, _, h1, h2, _⟩
  · exact ⟨none, 0, by rw [h0], by omega, by unfold maxLen; omega⟩
  · exact ⟨_, _, rfl, h1, h2⟩
theorem Lst.reads {w0 w : World} {e : TypeId} {A : Option Addr} {n c : Nat} {xs : List Value} (h : Lst w0 w e (.slice A n c) xs) (f : Nat → Value) (hf : ∀ i, i < xs.length → xs[i]? = some (f i)) : Reads w w.heap.size A xs.length f := by
  intro i hi
  rcases h.1.2 with ⟨hv, h0⟩ | ⟨g, cap, cur, hv, h0, h1, _⟩
  · omega
  · cases hv
    refine ⟨g, 0, rfl, block_of_cells h1, ?_⟩
    have := h.1.cells (g := g) rfl i _ (hf i hi)
    rwa [addr_add] at this
/-- another call's list, behind ours -/
theorem Lst.deeper {w0 w1 w : World} {e : TypeId} {v : Value} {xs : List Value} (h : Lst w1 w e v xs) (hb : Below w0.heap.size w0 w1) : Lst w0 w e v xs := by
  refine ⟨⟨h.1.1, ?_⟩, hb.trans (h.2.mono hb.size)⟩
  rcases h.1.2 with hn | ⟨g, cap, cur, hv, hg, r⟩
  · exact .inl hn
  · exact .inr ⟨g, cap, cur, hv, Nat.le_trans hb.size hg, r⟩
theorem Lst.one (w : World) (e : TypeId) (u : Value) : Lst w (w.alloc (.cells #[u] e)) e (.slice (some ⟨w.heap.size, 0, none⟩) 1 1) [u] :=
  ⟨⟨rfl, .inr ⟨w.heap.size, 1, #[u], rfl, Nat.le_refl _, heap_alloc_new w _, Nat.le_refl _, by unfold maxLen; omega, rfl, rfl⟩⟩, (Below.refl _ _).alloc (Nat.le_refl _) _⟩
/-- a list of another kind stands beside -/
theorem Lst.beside {w0 w w' : World} {e1 e2 : TypeId} {v1 v2 : Value} {x1 x2 : List Value} (h2 : Lst w0 w e2 v2 x2) (h1 : Lst w0 w e1 v1 x1) (he : e1 ≠ e2) (hg : w.grownBy w' v1.ownBlock) : Lst w0 w' e2 v2 x2 := by
  have hne : v2.ownBlock = none ∨ v2.ownBlock ≠ v1.ownBlock := by
    rcases h2.1.2 with ⟨rfl, _⟩ | ⟨g2, c2, cur2, rfl, _, hc2, _⟩
    · exact .inl rfl
    · right
      rcases h1.1.2 with ⟨rfl, _⟩ | ⟨g1, c1, cur1, rfl, _, hc1, _⟩
      · simp [Value.ownBlock]
      · intro e
        simp only [Value.ownBlock, Option.some.injEq] at e
        subst e
        rw [hc1] at hc2
        simp only [Option.some.injEq, Obj.cells.injEq] at hc2
        exact he hc2.2.1
  exact ⟨h2.1.kept hg hne, h2.2.grown hg h2.2.size (fun j hj => (h1.1.lt j hj).1)⟩
theorem Lst.cell {w0 w : World} {e : TypeId} {g n c : Nat} {xs : List Value} (h : Lst w0 w e (.slice (some ⟨g, 0, none⟩) n c) xs) (i : Nat) (u : Value) (hu : xs[i]? = some u) : w.cell? ⟨g, i, none⟩ = some u := by
  have := h.1.cells (g := g) rfl i u hu
  rwa [addr_add, Nat.zero_add] at this
theorem Lst.shape {w0 w : World} {e : TypeId} {v : Value} {xs : List Value} (h : Lst w0 w e v xs) (hne : xs ≠ []) : ∃ g c, v = .slice (some ⟨g, 0, none⟩) xs.length c ∧ g < w.heap.size := by
  rcases h.1.2 with ⟨rfl, h0⟩ | ⟨g, cap, cur, rfl, _, hc, _⟩
  · exact absurd (List.eq_nil_of_length_eq_zero h0) hne
  · exact ⟨g, cap, rfl, block_of_cells hc⟩
/-- what the append of one asks of a kind of elements -/
def Elem1 (T e : TypeId) : Prop := ∃ i z, Tryd.prog.underlying T = some (.slice e) ∧ Tryd.prog.info? e = some i ∧ i.zero = some z ∧ i.size = 1 ∧ z.cells.size = 1 ∧ i.bytes ≤ 16
theorem elem_str : Elem1 22 9 := by
  have h : (Tryd.prog.info? 9).map (fun i => (i.zero, i.size, i.bytes)) = some (some (.string ⟨#[]⟩), 1, 16) := by kernel_rfl
  obtain ⟨i, x1, x2, x3, x4⟩ := info_parts h
  exact ⟨i, _, Tryd.underlying22, x1, x2, x3, rfl, by omega⟩
theorem lst_append {w0 w : World} {ops : Array Oper} {rest : List Oper} {o : Oper} {a : Act} {Q : Exit → Act → World → Prop} {T e : TypeId} (E : Elem1 T e) (hgd : o.guard = none) (s x : Operand)
    (ho : o.op = .call { callee := .builtin .append, args := #[s, x], argTypes := #[T, T] }) (v : Value) (xs : List Value) (u : Value) (hs : a.eval s = v) (hx : a.eval x = .slice (some ⟨w.heap.size, 0, none⟩) 1 1)
    (h1 : u.oneCell' = true) (hl : xs.length ≤ 1000000000000) (H : Lst w0 w e v xs)
    (h : ∀ v' w', Lst w0 w' e v' (xs ++ [u]) → w.grownBy w' v.ownBlock → wpList Tryd.prog ops Q rest (a.put o.dst v') w') : wpList Tryd.prog ops Q (o :: rest) a (w.alloc (.cells #[u] e)) := by
  obtain ⟨i, z, e1, e2, e3, e4, e5, e6⟩ := E
  have hbl : (xs.length + 1) * i.bytes ≤ 140737488355328 := Nat.le_trans (Nat.mul_le_mul_left _ e6) (by omega)
  refine wpList_append_own _ hgd s x T ho w0.heap.size e i z 1 i.bytes e1 e2 e3 e4 rfl e5 (by decide) v xs.length xs hs (H.1.alloc _) ⟨w.heap.size, 0, none⟩ 1 1 [u] hx rfl (cells_new rfl) (by simpa using h1) (by unfold maxLen; omega) hbl (by have := H.2.size; simp; omega) ?_
  intro v' w' ho' hg' _
  have hsz := H.2.size
  refine h v' w' ⟨by simpa using ho', ?_⟩ ?_
  · exact (H.2.alloc H.2.size _).grown hg' (by simp; omega) (fun j hj => (H.1.lt j hj).1)
  · exact ⟨hg'.os, hg'.tape, hg'.output, Nat.le_trans (by simp) hg'.size, fun i hi hne => (hg'.block i (by simp; omega) hne).trans (Below.heap_alloc _ _ _ hi)⟩

section
variable {α : Type} [Inhabited α] (enc : α → Value)
theorem holds_of_row {w : World} {g : Nat} {cur : Array Value} {e : TypeId} {ss : List α} (hb : w.heap[g]? = some (.cells cur e (0, 0))) (ht : cur.toList.take ss.length = ss.map enc) : Holds enc w g 0 ss.toArray := by
  intro j hj
  have hj' : j < ss.length := by simpa using hj
  refine ⟨?_, by simp [World.frozen?, hb]⟩
  have h1 : (cur.toList.take ss.length)[j]? = (ss.map enc)[j]? := by rw [ht]
  rw [List.getElem?_take_of_lt hj'] at h1
  simp only [World.cell?, hb, Nat.zero_add]
  simp only [Option.isSome_none, Bool.false_eq_true, if_false]
  rw [← Array.getElem?_toList, h1]
  simp [hj']
theorem heap_put {w : World} {g n : Nat} {cur : Array Value} {e : TypeId} {fr : Nat × Nat} (d : Array α) (hb : w.heap[g]? = some (.cells cur e fr)) :
    (putRow enc (Sort.ahead w n) g 0 d).heap[g]? = some (.cells (putCells enc 0 d cur) e fr) := by
  simp [putRow, mapBlock, Sort.ahead, Array.getElem?_modify, hb, onCells]
theorem grownBy_put {w : World} {g n : Nat} (d : Array α) : w.grownBy (putRow enc (Sort.ahead w n) g 0 d) (some g) := by
  refine ⟨rfl, rfl, rfl, by simp, fun k hk hne => ?_⟩
  have : g ≠ k := fun e => hne (by rw [e])
  simp [putRow, mapBlock, Sort.ahead, Array.getElem?_modify, this]
theorem take_put (cur : Array Value) (ts : List α) (h : ts.length ≤ cur.size) : (putCells enc 0 ts.toArray cur).toList.take ts.length = ts.map enc := by
  apply List.ext_getElem?
  intro j
  by_cases hj : j < ts.length
  · rw [List.getElem?_take_of_lt hj, Array.getElem?_toList]
    simp [putCells, hj, show j < cur.size by omega]
  · rw [List.getElem?_take_eq_none (by omega), List.getElem?_eq_none (by simp; omega)]
/-- behind a reversal (as slices.Reverse's contract says it) the same slice owns the list turned round -/
theorem Lst.put {w0 w : World} {e : TypeId} {g n cap : Nat} {ss ts : List α} (hl : ts.length = ss.length) (h : Lst w0 w e (.slice (some ⟨g, 0, none⟩) n cap) (ss.map enc)) (m : Nat) :
    Lst w0 (putRow enc (Sort.ahead w m) g 0 ts.toArray) e (.slice (some ⟨g, 0, none⟩) n cap) (ts.map enc) := by
  rcases h.1.2 with ⟨hv, h0⟩ | ⟨g', cap', cur, hv, hg, hc, h1, h2, h3, h4⟩
  · cases hv
  · cases hv
    rw [List.length_map] at h1 h4 h
    refine ⟨⟨by simp, .inr ⟨g, cap, _, ?_, hg, heap_put enc _ hc, by simp; omega, h2, by simp [putCells, h3], by rw [Nat.mul_one, List.length_map]; exact take_put enc cur ts (by omega)⟩⟩, ?_⟩
    · simp [hl]
    · exact h.2.grown (grownBy_put enc _) h.2.size (fun j hj => by simp [Value.ownBlock] at hj; omega)
end
end Go.Proofs.YthhjmodkodkgpaaDoor
