/- Small lemmas on memory and on single operations, for the walks. -/
import Derived.Test.YthhjmodkodkgpaaDoorProg
import Derived.Test.YthhjmodkodkgpaaDoorShaLaw
import Derived.WalkKit
import Derived.KernelRfl
import Derived.Lib.Hide
import Derived.StillTailTactics
import Derived.Deep.QuietTactic
import Derived.BigQuiet
import Derived.BigRegion
import Derived.Deep.LoopGhost
namespace Go.Proofs.YthhjmodkodkgpaaDoor
open Go.RowKit Sbx
theorem setRow_same {w : World} {g : Nat} {t : TypeId} {cs : Array Value} {fr : Nat × Nat} (h : w.heap[g]? = some (.cells cs t fr)) : w.setRow g cs = w := by
  obtain ⟨hlt, he⟩ := Array.getElem?_eq_some_iff.1 h
  have e : (w.setRow g cs).heap = w.heap := by
    apply Array.ext_getElem?
    intro i
    by_cases hi : i = g
    · subst hi; rw [setRow_heap w i cs _ t fr h, h]
    · exact setRow_other w g i cs hi
  show ({ w with heap := (w.setRow g cs).heap } : World) = w
  rw [e]
/-- 'return w' of a named array: the array is loaded whole and stored whole where it lay -/
theorem wpList_reload {P : Program} {ops : Array Oper} {rest : List Oper} {o1 o2 : Oper} {a : Act} {w : World} {Q : Exit → Act → World → Prop} (hg1 : o1.guard = none) (hg2 : o2.guard = none)
    (ty : TypeId) (p d : Tmp) (ho1 : o1.op = .load ty (.tmp p)) (hd : o1.dst = some d) (ho2 : o2.op = .store ty (.tmp p) (.tmp d)) (hpd : p ≠ d) (hlt : d < a.tmps.size)
    (g : Nat) (t : TypeId) (cs : Array Value) (de : TypeDesc) (hx : a.eval (.tmp p) = .pointer (some ⟨g, 0, none⟩)) (hg : w.heap[g]? = some (.cells cs t (0, 0)))
    (hu : P.underlying ty = some de) (hde : (match de with | .struct _ | .array _ _ => true | _ => false) = true) (hi : (P.info? ty).map (·.size) = some cs.size) (h1 : cs.all (·.oneCell') = true)
    (h : wpList P ops Q rest ((a.put (some d) (.agg cs)).put o2.dst undef) w) : wpList P ops Q (o1 :: o2 :: rest) a w := by
  refine wpList_load_row hg1 ty _ ho1 g hx t cs (0, 0) de hg hu hde hi ?_
  rw [hd]
  have hx2 : (a.put (some d) (.agg cs)).eval (.tmp p) = .pointer (some ⟨g, 0, none⟩) := by
    rw [← hx]
    simp [Act.eval, Act.put, Ne.symm hpd]
  have hy2 : (a.put (some d) (.agg cs)).eval (.tmp d) = .agg cs := by
    simp [Act.eval, Act.put, hlt]
  refine wpList_store_row hg2 ty _ _ ho2 g cs hx2 hy2 t cs hg hi rfl h1 ?_
  rw [setRow_same hg]
  exact h
theorem cell_ex {w : World} {g j : Nat} {cs : Array Value} {t : TypeId} {fr : Nat × Nat} (h : w.heap[g]? = some (.cells cs t fr)) (hj : j < cs.size) : ∃ v, w.cell? ⟨g, j, none⟩ = some v :=
  ⟨cs[j], by rw [cell_of_row w _ _ _ _ _ h]; simp [hj]⟩
theorem gate_op {P : Program} {ops : Array Oper} {Q : Exit → Act → World → Prop} {o : Oper} {rest : List Oper} {a : Act} {w : World} (op : Op) (_h : o.op = op) (k : wpList P ops Q (o :: rest) a w) : wpList P ops Q (o :: rest) a w := k
theorem setRow_alloc (w : World) (t : TypeId) (old cs : Array Value) (fr : Nat × Nat) : (w.alloc (.cells old t fr)).setRow w.heap.size cs = w.alloc (.cells cs t fr) := by
  have h0 := heap_alloc_new w (.cells old t fr)
  have e : ((w.alloc (.cells old t fr)).setRow w.heap.size cs).heap = (w.alloc (.cells cs t fr)).heap := by
    apply Array.ext_getElem?
    intro i
    by_cases hi : i = w.heap.size
    · subst hi; rw [setRow_heap _ _ _ cs t fr h0, heap_alloc_new]
    · rw [setRow_other _ _ _ cs hi]
      by_cases hlt : i < w.heap.size
      · rw [Below.heap_alloc _ _ _ hlt, Below.heap_alloc _ _ _ hlt]
      · rw [Array.getElem?_eq_none (by simp; omega), Array.getElem?_eq_none (by simp; omega)]
  show ({ (w.alloc (.cells cs t fr)) with heap := ((w.alloc (.cells old t fr)).setRow w.heap.size cs).heap } : World) = w.alloc (.cells cs t fr)
  rw [e]
theorem run_index_agg {P : Program} {t e : TypeId} {len : Nat} {kk : IntKind} (h : P.underlying t = some (.array len e)) (he : P.underlying e = some (.int kk)) (hs : (P.info? e).map (·.size) = some 1)
    (cs : Array Value) (ik : IntKind) (k : Nat) (hk : k < len) (v : Value) (hv : cs[k]? = some v) (w : World) : (Instr.index t (.agg cs) (.int ik (k : Int))).run P w = .ok v w := by
  cases hq : P.info? e with
  | none => simp [hq] at hs
  | some i =>
    have h1 : i.size = 1 := by simpa [hq] using hs
    simp [Instr.index, asIntOf, run_underlying h, part, isAgg, run_underlying he, sizeOf, typeInfo, hq, h1, hk, hv]
theorem drewN_below {B : Nat} {a w : World} (h : Below B a w) (n : Nat) : Below B a (w.drewN n) := ⟨h.os, h.tape, h.output, h.size, h.block⟩
theorem only_refl (a : World) (row : Option Nat) : a.grownBy a row := ⟨rfl, rfl, rfl, Nat.le_refl _, fun _ _ _ => rfl⟩
theorem only_drewN {a w : World} {row : Option Nat} (h : a.grownBy w row) (n : Nat) : a.grownBy (w.drewN n) row := ⟨h.os, h.tape, h.output, h.size, h.block⟩
theorem only_drew {a w : World} {row : Option Nat} (h : a.grownBy w row) : a.grownBy w.drew row := ⟨h.os, h.tape, h.output, h.size, h.block⟩
theorem only_alloc {a w : World} {row : Option Nat} (h : a.grownBy w row) (o : Obj) : a.grownBy (w.alloc o) row :=
  ⟨h.os, h.tape, h.output, Nat.le_trans h.size (by simp), fun i hi hne => (Below.heap_alloc w o i (Nat.lt_of_lt_of_le hi h.size)).trans (h.block i hi hne)⟩
theorem only_setCell {a w : World} {g : Nat} (h : a.grownBy w (some g)) {p : Addr} (hp : p.block = g ∨ a.heap.size ≤ p.block) (u : Value) : a.grownBy (w.setCell p u) (some g) :=
  ⟨h.os, h.tape, h.output, by simpa [World.setCell] using h.size, fun i hi hne => (Below.heap_setCell w p u i (by
    rintro rfl
    rcases hp with hp | hp
    · exact hne (by rw [hp])
    · omega)).trans (h.block i hi hne)⟩
theorem only_of_below {a w : World} (h : Below a.heap.size a w) (row : Option Nat) : a.grownBy w row := ⟨h.os, h.tape, h.output, h.size, fun i hi _ => h.block i hi⟩
theorem only_trans {a b c : World} {row : Option Nat} (h : a.grownBy b row) (k : b.grownBy c row) : a.grownBy c row :=
  ⟨k.os.trans h.os, k.tape.trans h.tape, k.output.trans h.output, Nat.le_trans h.size k.size, fun i hi hne => (k.block i (Nat.lt_of_lt_of_le hi h.size) hne).trans (h.block i hi hne)⟩
theorem below_of_only {a w : World} {B g : Nat} (h : a.grownBy w (some g)) (hB : B ≤ a.heap.size) (hg : B ≤ g) : Below B a w :=
  ⟨h.os, h.tape, h.output, h.size, fun i hi => h.block i (by omega) (fun e => by injection e; omega)⟩
theorem block_of_cells {w : World} {g : Nat} {o : Obj} (h : w.heap[g]? = some o) : g < w.heap.size := (Array.getElem?_eq_some_iff.1 h).1
theorem run_sliceAt_arr {P : Program} {t e : TypeId} {len : Nat} (ht : P.underlying t = some (.array len e)) (hs : (P.info? e).map (·.size) = some 1) (g o l : Nat) (kl : IntKind) (hl : l < len) (w : World) :
    (Instr.sliceAt t (.pointer (some ⟨g, o, none⟩)) (some (.int kl (l : Int))) none none).run P w = .ok (.slice (some ⟨g, o + l, none⟩) (len - l) (len - l)) w := by
  cases hq : P.info? e with
  | none => simp [hq] at hs
  | some i =>
    have h1 : i.size = 1 := by simpa [hq] using hs
    have h2 : ¬ len = l := by omega
    have hadd : (⟨g, o, none⟩ : Addr).add l = ⟨g, o + l, none⟩ := by unfold Addr.add; split <;> simp_all
    have h3 : (l : Int) ≤ (len : Int) := by omega
    simp [Instr.sliceAt, Instr.sureAddr, run_underlying ht, Instr.sliceBounds, run_sliceBound, sizeOf, typeInfo, hq, h1, h2, h3, hadd]
theorem run_sliceAt_whole {P : Program} {t e : TypeId} {len : Nat} (ht : P.underlying t = some (.array len e)) (hs : (P.info? e).map (·.size) = some 1) (hlen : 0 < len) (g o : Nat) (w : World) :
    (Instr.sliceAt t (.pointer (some ⟨g, o, none⟩)) none none none).run P w = .ok (.slice (some ⟨g, o, none⟩) len len) w := by
  cases hq : P.info? e with
  | none => simp [hq] at hs
  | some i =>
    have h1 : i.size = 1 := by simpa [hq] using hs
    have h2 : ¬ len = 0 := by omega
    have hadd : (⟨g, o, none⟩ : Addr).add 0 = ⟨g, o, none⟩ := by unfold Addr.add; split <;> simp_all
    simp [Instr.sliceAt, Instr.sureAddr, run_underlying ht, Instr.sliceBounds, sizeOf, typeInfo, hq, hadd]
theorem str_extract (l : List UInt8) (i j : Nat) : (⟨l.toArray⟩ : ByteArray).extract i j = ⟨((l.drop i).take (j - i)).toArray⟩ := by
  have e : ((⟨l.toArray⟩ : ByteArray).extract i j).data = ((l.drop i).take (j - i)).toArray := by
    rw [ByteArray.data_extract]
    apply Array.toList_inj.1
    rw [Array.toList_extract, List.extract_eq_take_drop]
  exact congrArg ByteArray.mk e
theorem str_drop (l : List UInt8) (i : Nat) : (⟨l.toArray⟩ : ByteArray).extract i l.length = ⟨(l.drop i).toArray⟩ := by
  rw [str_extract, List.take_of_length_le (by rw [List.length_drop]; omega)]
theorem run_loadVar_cells {P : Program} (w : World) (a : Addr) (ty : TypeId) (cs : Array Value) (d : TypeDesc) (hc : ∀ j v, cs[j]? = some v → w.cell? (a.add j) = some v)
    (hu : P.underlying ty = some d) (hd : (match d with | .struct _ | .array _ _ => true | _ => false) = true) (hi : (P.info? ty).map (·.size) = some cs.size) :
    (loadVar ty a).run P w = .ok (.agg cs) w := by
  have hl : (loadCells a cs.toList.length).run P w = .ok cs.toList.toArray w :=
    run_loadCells_list (P := P) w a cs.toList (fun j v hv => hc j v (by simpa using hv))
  cases hq : P.info? ty with
  | none => simp [hq] at hi
  | some i =>
    have hs : i.size = cs.size := by simpa [hq] using hi
    have hagg : (isAgg ty).run P w = .ok true w := by
      unfold isAgg
      rw [Sem.run_bind, run_underlying hu w]
      cases d <;> simp_all
    simp only [Array.length_toList, Array.toArray_toList] at hl
    simp [loadVar, Sem.run_bind, hagg, sizeOf, typeInfo, hq, hs, hl]
theorem wp_load_cells {P : Program} {o : Oper} {a : Act} {w : World} {K : Act → World → Prop} {Q : Exit → Act → World → Prop} (ty : TypeId) (x : Operand) (ho : o.op = .load ty x)
    (ad : Addr) (hx : a.eval x = .pointer (some ad)) (cs : Array Value) (d : TypeDesc) (hc : ∀ j v, cs[j]? = some v → w.cell? (ad.add j) = some v)
    (hu : P.underlying ty = some d) (hd : (match d with | .struct _ | .array _ _ => true | _ => false) = true) (hi : (P.info? ty).map (·.size) = some cs.size)
    (h : K (a.put o.dst (.agg cs)) w) : o.wp P a w K Q := by
  unfold Oper.wp execOp
  simp only [ho, hx, Instr.loadAt, Instr.sureAddr, Sem.run_bind, Sem.run_pure, Result.andThen_ok, run_loadVar_cells w ad ty cs d hc hu hd hi]
  exact h
/-- an array or struct loaded whole from cells that are known -/
theorem wpList_load_cells {P : Program} {ops : Array Oper} {rest : List Oper} {o : Oper} {a : Act} {w : World} {Q : Exit → Act → World → Prop} (hgd : o.guard = none) (ty : TypeId) (x : Operand) (ho : o.op = .load ty x)
    (ad : Addr) (hx : a.eval x = .pointer (some ad)) (cs : Array Value) (d : TypeDesc) (hc : ∀ j v, cs[j]? = some v → w.cell? (ad.add j) = some v)
    (hu : P.underlying ty = some d) (hd : (match d with | .struct _ | .array _ _ => true | _ => false) = true) (hi : (P.info? ty).map (·.size) = some cs.size)
    (h : wpList P ops Q rest (a.put o.dst (.agg cs)) w) : wpList P ops Q (o :: rest) a w :=
  wpList_plain hgd fun _ hK => wp_load_cells ty x ho ad hx cs d hc hu hd hi (hK _ _ h)
theorem addr_add (g o j : Nat) : (⟨g, o, none⟩ : Addr).add j = ⟨g, o + j, none⟩ := by unfold Addr.add; split <;> simp_all
theorem quiet_left {P : Program} {f : FuncId} {args : Array Value} {w : World} {n : Nat} {v : Value}
    (h : Calls P f args (w.drewN n) fun e w' => e = .returned v ∧ w.drewN n = w') : Calls P f args (w.drewN n) fun e w'' => e = .returned v ∧ ∃ m, w'' = w.drewN m :=
  h.mono fun _ _ ⟨he, hm⟩ => ⟨he, n, hm.symm⟩
end Go.Proofs.YthhjmodkodkgpaaDoor
