/- A slice of Parts that comes in, read cell by cell. -/
import Derived.Test.YticmnckkhbniaaaDoorArgs
import Derived.Test.YticmnckkhbniaaaDoorBulk
import Derived.Deep.Slices
import Derived.Deep.Fields
import Derived.ChangeSame
import Derived.Test.YticmnckkhbniaaaDoorMem
namespace Go.Proofs.YticmnckkhbniaaaDoor
open Go.ChangeShapes Go.WideShapes Go.ChangeAt Go.RowKit Go.Deep
open Go.ChangeMaps (open_string shut_string)

section
variable {H : Type} {enc : TypeId × Value → H} {P : Program} {w : World} {base : Nat} {spare : Nat → Bool} {held : Bool}
theorem open_slice_fields {t e : TypeId} {fs : Array Field} {fuel : Nat} {cs : List Value} {x : DataW H × List MemPlace} (ht : P.underlying t = some (.slice e)) (he : P.underlying e = some (.struct fs))
    (hone : oneCellFields P fs = true) (hC : P.cellsOf e = fs.size) (h : DataW.trod enc P w base spare held fuel t cs = some x) :
    (cs = [.slice none 0 0] ∧ x = (.nil, [])) ∨
    ∃ (a : Addr) (len cap m : Nat) (D : Nat → DataW H) (Pl : Nat → List MemPlace), cs = [.slice (some a) len cap] ∧ base ≤ a.block ∧ len ≤ cap ∧ cap ≤ maxLen ∧ m = (if spare a.block then cap else len) ∧
      x = (.slice ((List.range len).map D) ((List.range (m - len)).map fun j => D (len + j)), MemPlace.row a (m * fs.size) ++ (List.range m).flatMap Pl) ∧
      ∀ i, i < m → ∃ (ys : List (DataW H × List MemPlace)) (n : Nat), D i = .agg (ys.map (·.1)) ∧ Pl i = ys.flatMap (·.2) ∧ ys.length = fs.size ∧
        ∀ (j : Nat) (f : Field), fs[j]? = some f → ∃ (v : Value) (y : DataW H × List MemPlace), w.cell? (a.add (i * fs.size + j)) = some v ∧ ys[j]? = some y ∧ DataW.trod enc P w base spare held n f.type [v] = some y := by
  rcases open_slice ht h with h0 | ⟨a, len, cap, m, n, D, Pl, hcs, hb, hl, hm, hmm, hx, hi⟩
  · exact .inl h0
  · refine .inr ⟨a, len, cap, m, D, Pl, hcs, hb, hl, hm, hmm, by rw [hC] at hx; exact hx, fun i him => ?_⟩
    obtain ⟨cs', hc, ht'⟩ := hi i him
    rw [hC] at hc
    obtain ⟨ys, n', hn', hy, hlen, hyl, hf⟩ := DataW.trod_struct he ht'
    obtain ⟨_, hcl, hat⟩ := World.cells?_some hc
    simp only [Prod.mk.injEq] at hy
    refine ⟨ys, n', hy.1, hy.2, hyl, fun j f hj => ?_⟩
    obtain ⟨ho, hk⟩ := hone_of hone j f hj
    have hjl : j < fs.size := (Array.getElem?_eq_some_iff.1 hj).1
    have hcell := hat j hjl
    have hv : cs'[j]? = some (cs'[j]'(by omega)) := List.getElem?_eq_getElem (by omega)
    have h1 := hf j f hj
    rw [ho, hk] at h1
    have hone' : (cs'.drop j).take 1 = [cs'[j]'(by omega)] := by
      rw [List.drop_eq_getElem_cons (by omega)]
      rfl
    rw [hone'] at h1
    have hys : ys[j]? = some (ys[j]'(by omega)) := List.getElem?_eq_getElem (by omega)
    refine ⟨_, _, ?_, hys, h1.trans hys⟩
    rw [← Go.Deep.add_add, hcell, hv]
end
/-- one Part: which, what, its text -/
structure PartD where
  (which what : Int) (s : List UInt8)
/-- Parts from A on, in a block below B -/
def PReads (w : World) (B : Nat) (A : Option Addr) (ps : List PartD) : Prop :=
  ∀ i (h : i < ps.length), ∃ b off, A = some ⟨b, off, none⟩ ∧ b < B ∧ w.cell? ⟨b, off + i * 3, none⟩ = some (.int .i64 ps[i].which) ∧ w.cell? ⟨b, off + i * 3 + 1, none⟩ = some (.int .i64 ps[i].what) ∧ w.cell? ⟨b, off + i * 3 + 2, none⟩ = some (.string ⟨ps[i].s.toArray⟩)
theorem PReads.below {w w' : World} {B : Nat} {A : Option Addr} {ps : List PartD} (h : PReads w B A ps) (hb : Below B w w') : PReads w' B A ps := fun i hi => by
  obtain ⟨b, off, e, hlt, h1, h2, h3⟩ := h i hi
  exact ⟨b, off, e, hlt, (hb.cell (p := ⟨b, _, none⟩) hlt).trans h1, (hb.cell (p := ⟨b, _, none⟩) hlt).trans h2, (hb.cell (p := ⟨b, _, none⟩) hlt).trans h3⟩
def PWf (ps : List PartD) : Prop := ∀ p ∈ ps, (Lit.int .i64 p.which).wf = true ∧ (Lit.int .i64 p.what).wf = true
def PBulk (ps : List PartD) : Nat := (ps.map fun p => p.s.length + 1).sum
theorem pbulk_length (ps : List PartD) : ps.length ≤ PBulk ps := by
  unfold PBulk
  induction ps with
  | nil => simp
  | cons p ps ih => simp only [List.map_cons, List.sum_cons, List.length_cons]; omega
theorem partFields : ∃ f0 f1 f2, Tryd.prog.underlying 42 = some (.struct #[f0, f1, f2]) ∧ f0.type = 3 ∧ f1.type = 3 ∧ f2.type = 9 ∧ oneCellFields Tryd.prog #[f0, f1, f2] = true :=
  ⟨_, _, _, Tryd.underlying42, rfl, rfl, rfl, by kernel_rfl⟩
theorem cellsPart : Tryd.prog.cellsOf 42 = 3 := by kernel_rfl
theorem exists_list {α : Type} (n : Nat) (Q : Nat → α → Prop) (h : ∀ i, i < n → ∃ a, Q i a) : ∃ l : List α, l.length = n ∧ ∀ i (hi : i < l.length), Q i l[i] := by
  induction n with
  | zero => exact ⟨[], rfl, fun i hi => absurd hi (by simp)⟩
  | succ n ih =>
    obtain ⟨l, hl, hq⟩ := ih (fun i hi => h i (by omega))
    obtain ⟨a, ha⟩ := h n (by omega)
    refine ⟨l ++ [a], by simp [hl], fun i hi => ?_⟩
    by_cases hil : i < l.length
    · rw [List.getElem_append_left hil]; exact hq i hil
    · have : i = l.length := by simp at hi; omega
      subst this
      rw [List.getElem_append_right (Nat.le_refl _)]
      simp only [Nat.sub_self, List.getElem_singleton]
      rw [hl]
      exact ha
theorem parts_arg {H : Type} {enc : TypeId × Value → H} {W : World} {base : Nat} {v : Value} {d : DataW H} {p : List MemPlace} (hv : Value.okWide Tryd.prog W .any base 38 v)
    (h : DataW.Trod enc Tryd.prog W 0 (fun _ => true) true 38 v d p) :
    ∃ A cap ps, v = .slice A (ps : List PartD).length cap ∧ ps.length ≤ maxLen ∧ PReads W W.heap.size A ps ∧ PWf ps ∧ PBulk ps ≤ Rows.uptoBulk d := by
  obtain ⟨a0, len, cap, rfl⟩ := okWide_slice Tryd.underlying38 hv
  obtain ⟨fuel, hf⟩ := h
  obtain ⟨f0, f1, f2, hu, e0, e1, e2, hone⟩ := partFields
  rcases open_slice_fields Tryd.underlying38 hu hone cellsPart hf with ⟨hcs, hx⟩ | ⟨a, len', cap', m, D, Pl, hcs, _, hl, hm, hmm, hx, hi⟩
  · simp [Value.cells] at hcs
    obtain ⟨rfl, rfl, rfl⟩ := hcs
    exact ⟨none, 0, [], rfl, by simp, fun i hi => absurd hi (by simp), fun z hz => absurd hz (by simp), by simp [PBulk]⟩
  · simp [Value.cells] at hcs
    obtain ⟨rfl, rfl, rfl⟩ := hcs
    simp only [if_true] at hmm
    subst hmm
    simp only [Prod.mk.injEq] at hx
    -- each element
    have each : ∀ i, i < len → ∃ q : PartD, (Lit.int .i64 q.which).wf = true ∧ (Lit.int .i64 q.what).wf = true ∧ q.s.length + 1 ≤ Rows.uptoBulk (D i) ∧
        W.cell? (a.add (i * 3 + 0)) = some (.int .i64 q.which) ∧ W.cell? (a.add (i * 3 + 1)) = some (.int .i64 q.what) ∧ W.cell? (a.add (i * 3 + 2)) = some (.string ⟨q.s.toArray⟩) := by
      intro i hil
      obtain ⟨ys, n, hD, _, hyl, hf⟩ := hi i (by omega)
      obtain ⟨v0, y0, c0, hy0, t0⟩ := hf 0 f0 rfl
      obtain ⟨v1, y1, c1, hy1, t1⟩ := hf 1 f1 rfl
      obtain ⟨v2, y2, c2, hy2, t2⟩ := hf 2 f2 rfl
      rw [e0] at t0
      rw [e1] at t1
      rw [e2] at t2
      obtain ⟨z0, q0, _, w0⟩ := DataW.trod_int Tryd.underlying3 t0
      obtain ⟨z1, q1, _, w1⟩ := DataW.trod_int Tryd.underlying3 t1
      obtain ⟨s2, q2, hx2, _⟩ := DataW.trod_string Tryd.underlying9 t2
      obtain rfl := List.singleton_inj.1 q0
      obtain rfl := List.singleton_inj.1 q1
      obtain rfl := List.singleton_inj.1 q2
      obtain ⟨t, rfl⟩ := string_list s2
      refine ⟨⟨z0, z1, t⟩, w0, w1, ?_, c0, c1, c2⟩
      rw [hD]
      have hmem : y2.1 ∈ ys.map (·.1) := List.mem_map.2 ⟨y2, List.mem_of_getElem? hy2, rfl⟩
      have h1 := bulks.part_le hmem
      rw [hx2] at h1
      have h2 := bulks.string_eq (H := H) t
      have h3 : Rows.uptoBulkAll (ys.map (·.1)) ≤ Rows.uptoBulk (.agg (ys.map (·.1))) := by simp only [Rows.uptoBulk]; omega
      exact Nat.le_trans (Nat.le_of_eq h2.symm) (Nat.le_trans h1 h3)
    obtain ⟨ps, hpl, hps⟩ := exists_list len _ each
    refine ⟨some a, m, ps, by rw [hpl], by omega, fun i hi => ?_, fun q hq => ?_, ?_⟩
    · obtain ⟨_, _, _, c0, c1, c2⟩ := hps i hi
      obtain ⟨b, off, spot⟩ := a
      obtain ⟨_, _, _, d0, _, _⟩ := hps 0 (by omega)
      have hspot : spot = none := by simpa [Addr.add] using World.cell?_spot d0
      subst hspot
      rw [addr_add] at c0 c1 c2
      exact ⟨b, off, rfl, block_lt_of_cell c0, c0, c1, c2⟩
    · obtain ⟨i, hi, rfl⟩ := List.getElem_of_mem hq
      obtain ⟨w0, w1, _⟩ := hps i hi
      exact ⟨w0, w1⟩
    · rw [hx.1]
      have h1 := bulks.slice_elems ((List.range len).map D) ((List.range (m - len)).map fun j => D (len + j))
      have h2 : PBulk ps ≤ Rows.uptoBulkAll ((List.range len).map D) := by
        have h3 : ∀ n, n ≤ len → ((ps.take n).map fun p => p.s.length + 1).sum ≤ Rows.uptoBulkAll ((List.range n).map D) := by
          intro n
          induction n with
          | zero => intro _; simp
          | succ n ih =>
            intro hn
            have hl : n < ps.length := by omega
            rw [List.take_succ_eq_append_getElem hl, List.map_append, List.sum_append, List.range_succ, List.map_append, bulks.append]
            have := ih (by omega)
            have h4 := (hps n hl).2.2.1
            simp only [List.map_cons, List.map_nil, List.sum_cons, List.sum_nil, Rows.uptoBulkAll]
            omega
        have := h3 len (Nat.le_refl _)
        rw [List.take_of_length_le (by omega)] at this
        exact this
      omega
end Go.Proofs.YticmnckkhbniaaaDoor
