/- Hashers and what they have taken: what a script's rounds keep. -/
import Derived.Test.YticmnckkhbniaaaDoorWSumM
import Derived.Lib.Builder
namespace Go.Proofs.YticmnckkhbniaaaDoor
open Go.RowKit Sbx

def ptrs (G : List Nat) : List Value := G.map fun g => Value.pointer (some ⟨g, 0, none⟩)
def strs (T : List (List UInt8)) : List Value := T.map fun t => Value.string ⟨t.toArray⟩
structure PInv (B : Nat) (v5 v6 : Value) (w : World) (T : List (List UInt8)) (G : List Nat) : Prop where
  o5 : w.ownsRow B 31 1 v5 T.length (ptrs G)
  o6 : w.ownsRow B 9 1 v6 T.length (strs T)
  len : G.length = T.length
  nodup : G.Nodup
  big : ∀ g ∈ G, B ≤ g
  hold : ∀ j (hj : j < G.length), HAt w G[j] (T.getD j [])
theorem HAt.ne_own {w : World} {g : Nat} {t : List UInt8} (h : HAt w g t) {B : Nat} {e : TypeId} {v : Value} {n : Nat} {xs : List Value} (o : w.ownsRow B e 1 v n xs) (he : 64 ≠ e) : v.ownBlock ≠ some g := by
  obtain ⟨_, s, r, m, _, _, hc⟩ := h
  exact Lib.ownBlock_ne o hc he
theorem own_ne_own {w : World} {B e1 e2 n1 n2 : Nat} {v1 v2 : Value} {x1 x2 : List Value} (o1 : w.ownsRow B e1 1 v1 n1 x1) (o2 : w.ownsRow B e2 1 v2 n2 x2) (he : e1 ≠ e2) : v1.ownBlock = none ∨ v1.ownBlock ≠ v2.ownBlock := by
  rcases o1.2 with ⟨rfl, _⟩ | ⟨g1, c1, cur1, rfl, _, h1, _⟩
  · exact .inl rfl
  · right
    rcases o2.2 with ⟨rfl, _⟩ | ⟨g2, c2, cur2, rfl, _, h2, _⟩
    · simp [Value.ownBlock]
    · intro e
      simp only [Value.ownBlock, Option.some.injEq] at e
      subst e
      rw [h1] at h2
      simp only [Option.some.injEq, Obj.cells.injEq] at h2
      exact he h2.2.1
theorem PInv.below {B : Nat} {v5 v6 : Value} {w w' : World} {T : List (List UInt8)} {G : List Nat} (h : PInv B v5 v6 w T G) (hb : Below w.heap.size w w') : PInv B v5 v6 w' T G :=
  ⟨h.o5.kept (row := none) (only_of_below hb none) (by cases hv : v5.ownBlock <;> simp), h.o6.kept (row := none) (only_of_below hb none) (by cases hv : v6.ownBlock <;> simp), h.len, h.nodup, h.big, fun j hj => (h.hold j hj).below hb (h.hold j hj).lt⟩
theorem PInv.drew {B : Nat} {v5 v6 : Value} {w : World} {T : List (List UInt8)} {G : List Nat} (h : PInv B v5 v6 w T G) : PInv B v5 v6 w.drew T G := h.below (Below.refl _ _).drew
theorem strs_set (T : List (List UInt8)) (n : Nat) (t : List UInt8) : strs (T.set n t) = (strs T).set n (.string ⟨t.toArray⟩) := by simp [strs, List.map_set]
/-- a part is taken, and noted -/
theorem PInv.taken {B : Nat} {v5 : Value} {w w1 : World} {T : List (List UInt8)} {G : List Nat} {g6 c6 : Nat} (h : PInv B v5 (.slice (some ⟨g6, 0, none⟩) T.length c6) w T G) (n : Nat) (hn : n < G.length) (s : List UInt8)
    (hO : w.grownBy w1 (some G[n])) (hA : HAt w1 G[n] (T.getD n [] ++ s)) :
    PInv B v5 (.slice (some ⟨g6, 0, none⟩) T.length c6) (w1.setCell ⟨g6, n, none⟩ (.string ⟨(T.getD n [] ++ s).toArray⟩)) (T.set n (T.getD n [] ++ s)) G := by
  have h5 : w1.ownsRow B 31 1 v5 T.length (ptrs G) := h.o5.kept hO (.inr ((h.hold n hn).ne_own h.o5 (by decide)))
  have h6 : w1.ownsRow B 9 1 (.slice (some ⟨g6, 0, none⟩) T.length c6) T.length (strs T) := h.o6.kept hO (.inr ((h.hold n hn).ne_own h.o6 (by decide)))
  obtain ⟨hs, hg⟩ := h6.stored n (.string ⟨(T.getD n [] ++ s).toArray⟩)
  have h51 := h5.kept hg (own_ne_own h5 h6 (by decide))
  refine ⟨by rw [List.length_set]; exact h51, by rw [List.length_set, strs_set]; exact hs, by rw [List.length_set]; exact h.len, h.nodup, h.big, fun j hj => ?_⟩
  have hne : ∀ t, HAt w1 G[j] t → HAt (w1.setCell ⟨g6, n, none⟩ (.string ⟨(T.getD n [] ++ s).toArray⟩)) G[j] t := fun t ht => ht.same (Below.heap_setCell _ _ _ _ (fun e => ht.ne_own h6 (by decide) (by simp [Value.ownBlock, e])))
  by_cases e : j = n
  · subst e
    have : (T.set j (T.getD j [] ++ s)).getD j [] = T.getD j [] ++ s := by
      rw [List.getD_eq_getElem?_getD (l := T.set j _), List.getElem?_set_self (by have := h.len; omega)]; rfl
    rw [this]
    exact hne _ hA
  · have e2 : (T.set n (T.getD n [] ++ s)).getD j [] = T.getD j [] := by
      rw [List.getD_eq_getElem?_getD (l := T.set n _), List.getElem?_set_ne (by omega), ← List.getD_eq_getElem?_getD]
    rw [e2]
    have hj' := h.hold j hj
    refine hne _ (hj'.same (hO.block _ hj'.lt (fun he => e ?_)))
    have := Option.some.inj he
    have hp := List.pairwise_iff_getElem.1 h.nodup
    rcases Nat.lt_trichotomy j n with q | q | q
    · exact absurd this (hp j n hj hn q)
    · exact q
    · exact absurd this.symm (hp n j hn hj q)
/-- a clone is made, and kept -/
theorem PInv.cloned {B : Nat} {v5 v6 v5' v6' : Value} {w w1 w2 w3 : World} {T : List (List UInt8)} {G : List Nat} {c : Nat} {t : List UInt8} (h : PInv B v5 v6 w T G) (hc : HAt w c t) (hB : B ≤ c) (hne : c ∉ G)
    (h5 : w1.ownsRow B 31 1 v5' (T.length + 1) (ptrs G ++ [.pointer (some ⟨c, 0, none⟩)])) (g5 : w.grownBy w1 v5.ownBlock)
    (hb : Below w1.heap.size w1 w2) (h6 : w3.ownsRow B 9 1 v6' (T.length + 1) (strs T ++ [.string ⟨t.toArray⟩])) (g6 : w2.grownBy w3 v6.ownBlock) :
    PInv B v5' v6' w3 (T ++ [t]) (G ++ [c]) := by
  have h61 : w1.ownsRow B 9 1 v6 T.length (strs T) := h.o6.kept g5 (own_ne_own h.o6 h.o5 (by decide))
  have h62 : w2.ownsRow B 9 1 v6 T.length (strs T) := h61.kept (row := none) (only_of_below hb none) (by cases hv : v6.ownBlock <;> simp)
  have h52 : w2.ownsRow B 31 1 v5' (T.length + 1) (ptrs G ++ [.pointer (some ⟨c, 0, none⟩)]) := h5.kept (row := none) (only_of_below hb none) (by cases hv : v5'.ownBlock <;> simp)
  have h53 := h52.kept g6 (own_ne_own h52 h62 (by decide))
  have one : ∀ g q, HAt w g q → HAt w3 g q := fun g q hq => by
    have q1 : HAt w1 g q := hq.same (g5.block g hq.lt (fun e => hq.ne_own h.o5 (by decide) e.symm))
    have q2 : HAt w2 g q := q1.below hb q1.lt
    exact q2.same (g6.block g q2.lt (fun e => q2.ne_own h62 (by decide) e.symm))
  refine ⟨by rw [List.length_append]; simpa [ptrs] using h53, by rw [List.length_append]; simpa [strs] using h6, by simp [h.len], ?_, ?_, ?_⟩
  · rw [List.nodup_append]
    refine ⟨h.nodup, by simp, ?_⟩
    intro a ha b hb' e
    simp only [List.mem_singleton] at hb'
    subst e; subst hb'
    exact hne ha
  · intro g hg
    rcases List.mem_append.1 hg with hg | hg
    · exact h.big g hg
    · simp only [List.mem_singleton] at hg; subst hg; exact hB
  · intro j hj
    by_cases e : j < G.length
    · rw [List.getElem_append_left e]
      have : (T ++ [t]).getD j [] = T.getD j [] := by
        rw [List.getD_eq_getElem?_getD, List.getElem?_append_left (by have := h.len; omega), ← List.getD_eq_getElem?_getD]
      rw [this]
      exact one _ _ (h.hold j e)
    · have hj2 : j = G.length := by simp at hj; omega
      subst hj2
      rw [List.getElem_append_right (Nat.le_refl _)]
      simp only [Nat.sub_self, List.getElem_singleton]
      have : (T ++ [t]).getD G.length [] = t := by
        rw [List.getD_eq_getElem?_getD, h.len, List.getElem?_append_right (Nat.le_refl _)]; simp
      rw [this]
      exact one _ _ hc
theorem row_form {w : World} {B : Nat} {e : TypeId} {v : Value} {n : Nat} {xs : List Value} (h : w.ownsRow B e 1 v n xs) (hn : 0 < n) : ∃ g cap, v = .slice (some ⟨g, 0, none⟩) n cap := by
  rcases h.2 with ⟨_, h0⟩ | ⟨g, cap, cur, hv, _⟩
  · omega
  · exact ⟨g, cap, hv⟩
end Go.Proofs.YticmnckkhbniaaaDoor
