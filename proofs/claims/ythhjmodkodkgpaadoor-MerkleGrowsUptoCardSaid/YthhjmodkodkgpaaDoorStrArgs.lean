/- A slice of strings that comes in, read cell by cell. -/
import Derived.Test.YthhjmodkodkgpaaDoorReads
import Derived.Test.YthhjmodkodkgpaaDoorRowKit
import Derived.Test.YthhjmodkodkgpaaDoorBulk
import Derived.Deep.Slices
import Derived.ChangeSame
import Derived.Test.YthhjmodkodkgpaaDoorMem
namespace Go.Proofs.YthhjmodkodkgpaaDoor
open Go.ChangeShapes Go.WideShapes Go.ChangeAt Go.RowKit Go.Deep
open Go.ChangeMaps (open_string shut_string)

def SBulk (ps : List (List UInt8)) : Nat := (ps.map fun p => p.length + 1).sum
theorem sbulk_length (ps : List (List UInt8)) : ps.length ≤ SBulk ps := by
  unfold SBulk
  induction ps with
  | nil => simp
  | cons p ps ih => simp only [List.map_cons, List.sum_cons, List.length_cons]; omega
theorem sbulk_mem (ps : List (List UInt8)) (s : List UInt8) (h : s ∈ ps) : s.length + 1 ≤ SBulk ps := by
  unfold SBulk
  induction ps with
  | nil => cases h
  | cons p ps ih =>
    simp only [List.map_cons, List.sum_cons]
    rcases List.mem_cons.1 h with rfl | h2
    · omega
    · have := ih h2; omega
theorem exists_list_s {α : Type} (n : Nat) (Q : Nat → α → Prop) (h : ∀ i, i < n → ∃ a, Q i a) : ∃ l : List α, l.length = n ∧ ∀ i (hi : i < l.length), Q i l[i] := by
  induction n with
  | zero => exact ⟨[], rfl, fun i hi => absurd hi (by simp)⟩
  | succ n ih =>
    obtain ⟨l, hl, hq⟩ := ih (fun i hi => h i (by omega))
    obtain ⟨a, ha⟩ := h n (by omega)
    refine ⟨l ++ [a], by simp [hl], fun i hi => ?_⟩
    by_cases hil : i < l.length
    · rw [List.getElem_append_left hil]; exact hq i hil
    · have : i = l.length := by simp at hi; omega
      subst this
      rw [List.getElem_append_right (Nat.le_refl _)]
      simp only [Nat.sub_self, List.getElem_singleton]
      rw [hl]
      exact ha
theorem cellsStr : Tryd.prog.cellsOf 9 = 1 := by kernel_rfl
set_option maxRecDepth 100000 in
/-- an argument that is a slice of strings -/
theorem strings_arg {H : Type} {enc : TypeId × Value → H} {W : World} {base : Nat} {v : Value} {d : DataW H} {p : List MemPlace} (hv : Value.okWide Tryd.prog W .any base 22 v)
    (h : DataW.Trod enc Tryd.prog W 0 (fun _ => true) true 22 v d p) :
    ∃ A cap ps, v = .slice A (ps : List (List UInt8)).length cap ∧ ps.length ≤ cap ∧ cap ≤ maxLen ∧ Reads W W.heap.size A ps.length (fun j => .string ⟨(ps.getD j []).toArray⟩) ∧ SBulk ps ≤ Rows.uptoBulk d ∧ (d = .nil ∧ ps = [] ∨ ∃ e s, d = .slice e s ∧ e = ps.map (fun t => .lit (.string t))) := by
  obtain ⟨a0, len, cap, rfl⟩ := okWide_slice Tryd.underlying22 hv
  obtain ⟨fuel, hf⟩ := h
  rcases open_slice1 Tryd.underlying22 cellsStr hf with ⟨hcs, hx⟩ | ⟨a, len', cap', m, n, V, D, Pl, hcs, _, hl, hm, hmm, hx, hi⟩
  · simp [Value.cells] at hcs
    obtain ⟨rfl, rfl, rfl⟩ := hcs
    simp only [Prod.mk.injEq] at hx
    exact ⟨none, 0, [], rfl, by simp, by unfold maxLen; omega, fun i hi => absurd hi (by simp), by simp [SBulk], .inl ⟨hx.1, rfl⟩⟩
  · simp [Value.cells] at hcs
    obtain ⟨rfl, rfl, rfl⟩ := hcs
    simp only [if_true] at hmm
    subst hmm
    simp only [Prod.mk.injEq] at hx
    have each : ∀ i, i < len → ∃ q : List UInt8, D i = .lit (.string q) ∧ W.cell? (a.add i) = some (.string ⟨q.toArray⟩) := by
      intro i hil
      obtain ⟨hc, ht⟩ := hi i (by omega)
      obtain ⟨s2, q2, hx2, _⟩ := DataW.trod_string Tryd.underlying9 ht
      have q3 := List.singleton_inj.1 q2
      have hd : D i = .lit (.string s2.data.toList) := (Prod.mk.inj hx2).1
      refine ⟨s2.data.toList, hd, ?_⟩
      rw [hc.trans (congrArg some q3)]
    obtain ⟨ps, hpl, hps⟩ := exists_list_s len _ each
    have hdl : (List.range len).map D = ps.map (fun t => .lit (.string t)) := by
      apply List.ext_getElem (by simp [hpl])
      intro i h1 h2
      simp only [List.length_map] at h2
      simp [(hps i h2).1]
    refine ⟨some a, m, ps, by rw [hpl], by omega, hm, fun i hi => ?_, ?_, .inr ⟨_, _, hx.1, hdl⟩⟩
    · have c0 := (hps i hi).2
      obtain ⟨b, off, spot⟩ := a
      have d0 := (hps 0 (by omega)).2
      have hspot : spot = none := by simpa [Addr.add] using World.cell?_spot d0
      subst hspot
      rw [addr_add] at c0
      refine ⟨b, off, rfl, block_lt_of_cell c0, ?_⟩
      show _ = some (Value.string ⟨(ps.getD i []).toArray⟩)
      rw [c0, List.getD_eq_getElem?_getD, List.getElem?_eq_getElem (by omega)]
      rfl
    · rw [hx.1]
      have h1 := bulks.slice_elems ((List.range len).map D) ((List.range (m - len)).map fun j => D (len + j))
      have h2 : SBulk ps ≤ Rows.uptoBulkAll ((List.range len).map D) := by
        rw [hdl]
        clear hdl hps hpl each h1
        unfold SBulk
        induction ps with
        | nil => simp
        | cons p ps ih =>
          simp only [List.map_cons, List.sum_cons, Rows.uptoBulkAll]
          rw [bulks.string_eq]
          omega
      omega
end Go.Proofs.YthhjmodkodkgpaaDoor
