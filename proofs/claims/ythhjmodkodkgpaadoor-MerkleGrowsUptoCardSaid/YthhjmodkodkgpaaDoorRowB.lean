/- Rows that stand beside one another, each owned: append, what is kept. -/
import Derived.Test.YthhjmodkodkgpaaDoorKp
import Derived.Maps.AppendAt
namespace Go.Proofs.YthhjmodkodkgpaaDoor
open Go.RowKit Sbx Go.Sort

/-- v owns xs, in a block from B on -/
structure Row (B : Nat) (e : TypeId) (v : Value) (xs : List Value) (w : World) : Prop where
  own : w.ownsRow B e 1 v xs.length xs
  size : B ≤ w.heap.size
theorem Lst.row {w0 w : World} {e : TypeId} {v : Value} {xs : List Value} (h : Lst w0 w e v xs) : Row w0.heap.size e v xs w := ⟨h.1, h.2.size⟩
theorem Row.lt {B : Nat} {e : TypeId} {v : Value} {xs : List Value} {w : World} (h : Row B e v xs w) : ∀ k, v.ownBlock = some k → B ≤ k ∧ k < w.heap.size := h.own.lt
theorem Row.grown {B : Nat} {e : TypeId} {v : Value} {xs : List Value} {w w' : World} {r : Option Nat} (h : Row B e v xs w) (hg : w.grownBy w' r) (hne : ∀ k, r = some k → k < B ∨ v.ownBlock ≠ some k) : Row B e v xs w' := ⟨h.own.kept hg (by
    cases hv : v.ownBlock with
    | none => exact .inl rfl
    | some j =>
      right
      intro e
      rcases hne j e.symm with h1 | h1
      · have := (h.lt j hv).1; omega
      · exact h1 hv), Nat.le_trans h.size hg.size⟩
instance (B : Nat) (e : TypeId) (v : Value) (xs : List Value) : Kp (Row B e v xs) := ⟨fun _ _ h hb => Row.grown h (only_of_below hb none) (fun k hk => by cases hk)⟩
theorem Row.form {B : Nat} {e : TypeId} {v : Value} {xs : List Value} {w : World} (h : Row B e v xs w) : ∃ A c, v = .slice A xs.length c ∧ xs.length ≤ c ∧ c ≤ maxLen := by
  rcases h.own.2 with ⟨rfl, h0⟩ | ⟨g, cap, cur, rfl, _, _, h1, h2, _⟩
  · exact ⟨none, 0, by rw [h0], by omega, by unfold maxLen; omega⟩
  · exact ⟨_, _, rfl, h1, h2⟩
theorem Row.shape {B : Nat} {e : TypeId} {v : Value} {xs : List Value} {w : World} (h : Row B e v xs w) (hne : xs ≠ []) : ∃ g c, v = .slice (some ⟨g, 0, none⟩) xs.length c ∧ g < w.heap.size := by
  rcases h.own.2 with ⟨rfl, h0⟩ | ⟨g, cap, cur, rfl, _, hc, _⟩
  · exact absurd (List.eq_nil_of_length_eq_zero h0) hne
  · exact ⟨g, cap, rfl, block_of_cells hc⟩
theorem Row.reads {B : Nat} {e : TypeId} {A : Option Addr} {n c : Nat} {xs : List Value} {w : World} (h : Row B e (.slice A n c) xs w) (f : Nat → Value) (hf : ∀ i, i < xs.length → xs[i]? = some (f i)) : Reads w w.heap.size A xs.length f := by
  intro i hi
  rcases h.own.2 with ⟨hv, h0⟩ | ⟨g, cap, cur, hv, h0, h1, _⟩
  · omega
  · cases hv
    refine ⟨g, 0, rfl, block_of_cells h1, ?_⟩
    have := h.own.cells (g := g) rfl i _ (hf i hi)
    rwa [addr_add] at this
theorem Row.readsS {B : Nat} {A : Option Addr} {n c : Nat} {l : List (List UInt8)} {w : World} (h : Row B 9 (.slice A n c) (strs l) w) : Reads w w.heap.size A l.length (fun j => .string ⟨(l.getD j []).toArray⟩) := by
  have := h.reads (fun j => .string ⟨(l.getD j []).toArray⟩) (fun i hi => strs_getD l i (by rwa [strs_length] at hi))
  rwa [strs_length] at this
theorem Row.cell {B : Nat} {e : TypeId} {g n c : Nat} {xs : List Value} {w : World} (h : Row B e (.slice (some ⟨g, 0, none⟩) n c) xs w) (i : Nat) (u : Value) (hu : xs[i]? = some u) : w.cell? ⟨g, i, none⟩ = some u := by
  have := h.own.cells (g := g) rfl i u hu
  rwa [addr_add, Nat.zero_add] at this
/-- r' is r, or a block that w had not -/
def Loc (w : World) (r r' : Option Nat) : Prop := r' = r ∨ ∃ k, r' = some k ∧ w.heap.size ≤ k
theorem Loc.refl (w : World) (r : Option Nat) : Loc w r r := .inl rfl
theorem Loc.trans {w w1 : World} {r r1 r2 : Option Nat} (h : Loc w r r1) (h1 : Loc w1 r1 r2) (hs : w.heap.size ≤ w1.heap.size) : Loc w r r2 := by
  rcases h1 with rfl | ⟨k, rfl, hk⟩
  · exact h
  · exact .inr ⟨k, rfl, by omega⟩
theorem grown_chain {w w1 w2 : World} {r r1 : Option Nat} (h : w.grownBy w1 r) (h1 : w1.grownBy w2 r1) (hr : Loc w r r1) : w.grownBy w2 r :=
  ⟨h1.os.trans h.os, h1.tape.trans h.tape, h1.output.trans h.output, Nat.le_trans h.size h1.size, fun i hi hne => (h1.block i (Nat.lt_of_lt_of_le hi h.size) (by
    rcases hr with rfl | ⟨k, rfl, hk⟩
    · exact hne
    · intro e; cases e; omega)).trans (h.block i hi hne)⟩
theorem row_append {w : World} {B : Nat} {ops : Array Oper} {rest : List Oper} {o : Oper} {a : Act} {Q : Exit → Act → World → Prop} {T e : TypeId} (E : Elem1 T e) (hgd : o.guard = none) (s x : Operand)
    (ho : o.op = .call { callee := .builtin .append, args := #[s, x], argTypes := #[T, T] }) (v : Value) (xs : List Value) (u : Value) (hs : a.eval s = v) (hx : a.eval x = .slice (some ⟨w.heap.size, 0, none⟩) 1 1)
    (h1 : u.oneCell' = true) (hl : xs.length ≤ 1000000000000) (H : Row B e v xs w)
    (h : ∀ v' w', Row B e v' (xs ++ [u]) w' → w.grownBy w' v.ownBlock → Loc w v.ownBlock v'.ownBlock → wpList Tryd.prog ops Q rest (a.put o.dst v') w') : wpList Tryd.prog ops Q (o :: rest) a (w.alloc (.cells #[u] e)) := by
  obtain ⟨i, z, e1, e2, e3, e4, e5, e6⟩ := E
  have hbl : (xs.length + 1) * i.bytes ≤ 140737488355328 := Nat.le_trans (Nat.mul_le_mul_left _ e6) (by omega)
  refine wpList_append_own_at _ hgd s x T ho B e i z 1 i.bytes e1 e2 e3 e4 rfl e5 (by decide) v xs.length xs hs (H.own.alloc _) ⟨w.heap.size, 0, none⟩ 1 1 [u] hx rfl (cells_new rfl) (by simpa using h1) (by unfold maxLen; omega) hbl (by have := H.size; simp; omega) ?_
  intro v' w' ho' hg' _ hat
  refine h v' w' ⟨by simpa using ho', by have := H.size; have := hg'.size; simp at this; omega⟩ ⟨hg'.os, hg'.tape, hg'.output, Nat.le_trans (by simp) hg'.size, fun i hi hne => (hg'.block i (by simp; omega) hne).trans (Below.heap_alloc _ _ _ hi)⟩ ?_
  rcases hat with h2 | h2
  · exact .inl h2
  · exact .inr ⟨_, h2, by simp⟩
theorem Row.stored {B : Nat} {e : TypeId} {g n c : Nat} {xs : List Value} {w : World} (h : Row B e (.slice (some ⟨g, 0, none⟩) n c) xs w) (j : Nat) (u : Value) :
    Row B e (.slice (some ⟨g, 0, none⟩) n c) (xs.set j u) (w.setCell ⟨g, j, none⟩ u) ∧ w.grownBy (w.setCell ⟨g, j, none⟩ u) (some g) := by
  obtain ⟨A, c', e1, _⟩ := h.form
  obtain ⟨rfl, rfl, rfl⟩ : some ⟨g, 0, none⟩ = A ∧ n = xs.length ∧ c = c' := by simpa using e1
  obtain ⟨h1, h2⟩ := h.own.stored j u
  exact ⟨⟨by rw [List.length_set]; exact h1, Nat.le_trans h.size h2.size⟩, h2⟩
theorem Row.frozen {B : Nat} {e : TypeId} {g n c : Nat} {xs : List Value} {w : World} (h : Row B e (.slice (some ⟨g, 0, none⟩) n c) xs w) (j : Nat) : w.frozen? ⟨g, j, none⟩ = false := by
  obtain ⟨A, c', e1, _⟩ := h.form
  obtain ⟨rfl, rfl, rfl⟩ : some ⟨g, 0, none⟩ = A ∧ n = xs.length ∧ c = c' := by simpa using e1
  exact h.own.frozenAt j
/-- a list that a call hands out joins -/
theorem Kp.row {C : World → Prop} [Kp C] {w : World} {f : FuncId} {args : Array Value} {e0 : TypeId} {xs : List Value} (h : Hid (C w)) (c : Calls Tryd.prog f args w fun e w' => ∃ v, e = .returned v ∧ Hid (Lst w w' e0 v xs)) : Calls Tryd.prog f args w fun e w' => ∃ v, e = .returned v ∧ Hid (And2 C (Row w.heap.size e0 v xs) w') :=
  c.mono fun _ _ ⟨v, he, hb⟩ => ⟨v, he, Kp.keep _ _ h.out hb.out.2, hb.out.row⟩
theorem Kp.row2 {C : World → Prop} [Kp C] {w : World} {f : FuncId} {args : Array Value} {e0 : TypeId} {xs : List Value} {x : Value} (h : Hid (C w)) (c : Calls Tryd.prog f args w fun e w' => ∃ v, e = .returned (.tuple #[v, x]) ∧ Hid (Lst w w' e0 v xs)) : Calls Tryd.prog f args w fun e w' => ∃ v, e = .returned (.tuple #[v, x]) ∧ Hid (And2 C (Row w.heap.size e0 v xs) w') :=
  c.mono fun _ _ ⟨v, he, hb⟩ => ⟨v, he, Kp.keep _ _ h.out hb.out.2, hb.out.row⟩
theorem St.grownR {w0 w w' : World} {r : Option Nat} (h : St w0 w) (hG : Glob w0) (hg : w.grownBy w' r) (hle : ∀ k, r = some k → w0.heap.size ≤ k) : St w0 w' := by
  have hb := h.2.grown hg h.2.size hle
  exact ⟨hG.below hb, hb⟩
end Go.Proofs.YthhjmodkodkgpaaDoor
