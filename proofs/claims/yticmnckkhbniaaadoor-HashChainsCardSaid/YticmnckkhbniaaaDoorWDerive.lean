/- strings.Builder's copyCheck, Len, WriteString, String at a builder of the call's own; hash.Derive. -/
import Derived.Test.YticmnckkhbniaaaDoorWMac
import Derived.Test.YticmnckkhbniaaaDoorDerives
import Derived.Lib.Builder
import Derived.Lib.AppendStr
import Derived.Lib.ConvBytes
import Derived.Test.YticmnckkhbniaaaDoorShelf
namespace Go.Proofs.YticmnckkhbniaaaDoor
open Go.RowKit Sbx Go.Sort

theorem sizeB : (Tryd.prog.info? 71).map (·.size) = some 2 := by kernel_rfl
theorem liesB : liesAt Tryd.prog Tryd.prog.depth 71 (2 / Tryd.prog.cellsOf 71) 0 71 1 = true := by kernel_rfl
def IsB (B b : Nat) (l : List UInt8) (w : World) : Prop := Lib.IsBuilder 71 5 B b (b8v l) w
def UsedB (B b : Nat) (l : List UInt8) (w : World) : Prop := Lib.BuilderAt 71 5 B b (.pointer (some ⟨b, 0, none⟩)) (b8v l) w

set_option maxRecDepth 100000 in
theorem copyCheck_used (b : Nat) (w : World) (h0 : w.cell? ⟨b, 0, none⟩ = some (.pointer (some ⟨b, 0, none⟩))) :
    Calls Tryd.prog 50 #[.pointer (some ⟨b, 0, none⟩)] w fun e w' => e = .returned (.tuple #[]) ∧ w = w' := by
  obtain ⟨j, hj, _⟩ := Option.map_eq_some_iff.1 sizeB
  go_enter Tryd.func50, Tryd.ntmps50
  go_wp2
  rw [Lib.run_neq_ptr_same w _ Tryd.underlying69 hj]
  go_wp2
  go_end0
  exact ⟨rfl, rfl⟩
set_option maxRecDepth 100000 in
theorem copyCheck_fresh (b : Nat) (w : World) (h0 : w.cell? ⟨b, 0, none⟩ = some (.pointer none)) (hsh : w.shape? b = some (71, 2)) (hfz : w.frozen? ⟨b, 0, none⟩ = false) :
    Calls Tryd.prog 50 #[.pointer (some ⟨b, 0, none⟩)] w fun e w' => e = .returned (.tuple #[]) ∧ w' = w.setCell ⟨b, 0, none⟩ (.pointer (some ⟨b, 0, none⟩)) := by
  obtain ⟨j, hj, hjs⟩ := Option.map_eq_some_iff.1 sizeB
  go_enter Tryd.func50, Tryd.ntmps50
  go_wp2
  rw [Lib.run_to_unsafe w ⟨b, 0, none⟩ Tryd.underlying69 Tryd.underlying83 hj (by rw [hjs]; decide) hsh (Nat.zero_lt_succ 1)]
  simp only [Result.andThen]
  rw [Oper.upon_value]
  go_wp2
  rw [run_callFunc_extern Tryd.func52 (by kernel_rfl) (by kernel_rfl) (by kernel_rfl) (e := Extern.AbiNoEscape.same) (by kernel_rfl)]
  rw [Lib.run_noEscape]
  simp only [Result.andThen]
  rw [Oper.upon_value]
  go_wp2
  rw [Lib.run_from_unsafe w ⟨b, 0, none⟩ Tryd.underlying83 Tryd.underlying69 hj hsh liesB]
  simp only [Result.andThen]
  rw [Oper.upon_value]
  go_wp2
  go_end0
  exact ⟨rfl, rfl⟩
theorem copyCheck_any (B b : Nat) (l : List UInt8) (w : World) (h : IsB B b l w) :
    Calls Tryd.prog 50 #[.pointer (some ⟨b, 0, none⟩)] w fun e w' => e = .returned (.tuple #[]) ∧ UsedB B b l w' ∧ Below B w w' := by
  rcases h with h | h
  · refine (copyCheck_fresh b w h.cell0 h.shape h.frozen0).mono ?_
    rintro e w' ⟨rfl, rfl⟩
    exact ⟨rfl, h.used _, (Below.refl B w).setCell (p := ⟨b, 0, none⟩) h.1 _⟩
  · refine (copyCheck_used b w h.cell0).mono ?_
    rintro e w' ⟨rfl, rfl⟩
    exact ⟨rfl, h, Below.refl B _⟩
theorem b8v_len (l : List UInt8) : (b8v l).length = l.length := by simp [b8v]
theorem isB_parts {B b : Nat} {l : List UInt8} {w : World} (h : IsB B b l w) : ∃ p v, Lib.BuilderAt 71 5 B b p (b8v l) w ∧ B ≤ b ∧ w.heap[b]? = some (.cells #[p, v] 71 (0, 0)) ∧ w.ownsRow B 5 1 v l.length (b8v l) ∧ ∃ ao cap, v = .slice ao l.length cap := by
  obtain ⟨p, h⟩ : ∃ p, Lib.BuilderAt 71 5 B b p (b8v l) w := by
    rcases h with h | h
    · exact ⟨_, h⟩
    · exact ⟨_, h⟩
  have h' := h
  obtain ⟨hB, v, hbk, hown, hne⟩ := h
  rw [b8v_len] at hown
  refine ⟨p, v, h', hB, hbk, hown, ?_⟩
  rcases hown.2 with ⟨hv, h0⟩ | ⟨g, cap, cur, hv, _⟩
  · exact ⟨none, 0, by rw [hv, h0]⟩
  · exact ⟨_, _, hv⟩
set_option maxRecDepth 100000 in
theorem blen_any (B b : Nat) (l : List UInt8) (w : World) (h : IsB B b l w) :
    Calls Tryd.prog 39 #[.pointer (some ⟨b, 0, none⟩)] w fun e w' => e = .returned (.int .i64 (l.length : Int)) ∧ w = w' := by
  obtain ⟨p, v, _, hB, hbk, hown, ao, cap, rfl⟩ := isB_parts h
  have c1 : w.cell? ⟨b, 1, none⟩ = some (.slice ao l.length cap) := by rw [Lib.cell_of_heap hbk]; rfl
  clear h hbk hown hB
  go_enter Tryd.func39, Tryd.ntmps39
  go_wp2
  go_ret
  exact ⟨rfl, rfl⟩
theorem strCells_b8v (l : List UInt8) : Lib.strCells ⟨l.toArray⟩ = b8v l := by
  simp [Lib.strCells, b8v]
theorem own_form {w : World} {base : Nat} {e : TypeId} {v : Value} {n : Nat} {xs : List Value} (h : w.ownsRow base e 1 v n xs) : ∃ ao cap, v = .slice ao n cap := by
  rcases h.2 with ⟨hv, h0⟩ | ⟨g, cap, cur, hv, _⟩
  · exact ⟨none, 0, by rw [hv, h0]⟩
  · exact ⟨_, _, hv⟩
set_option maxRecDepth 100000 in
set_option maxHeartbeats 1000000 in
theorem bwrite_any (B b : Nat) (l s : List UInt8) (w : World) (h : IsB B b l w) (hlen : l.length + s.length ≤ 140737488355328) (hBw : B ≤ w.heap.size) :
    Calls Tryd.prog 40 #[.pointer (some ⟨b, 0, none⟩), .string ⟨s.toArray⟩] w fun e w' => e = .returned (.tuple #[.int .i64 (s.length : Int), .nilIface]) ∧ IsB B b (l ++ s) w' ∧ Below B w w' := by
  obtain ⟨i0, hi, hz0, hz1, hz2⟩ := info_parts info_u8
  have HI := Lib.hid (And.intro hi (And.intro hz0 (And.intro hz1 hz2)))
  have HH := Lib.hid h
  have HL := Lib.hid hlen
  have HBw := Lib.hid hBw
  clear hi hz0 hz1 hz2 h hlen hBw
  go_enter Tryd.func40, Tryd.ntmps40
  go_wp2_with fail
  refine (copyCheck_any B b l w HH.out).mono ?_
  rintro e w1 ⟨rfl, hu, hb1⟩
  obtain ⟨p, v, hat, hB, hbk, hown, ao, cap, ev⟩ := isB_parts (.inr hu)
  have c1 : w1.cell? ⟨b, 1, none⟩ = some v := by rw [Lib.cell_of_heap hbk]; rfl
  have f1 : w1.frozen? ⟨b, 1, none⟩ = false := Lib.frozen_of_heap hbk 1
  have H1 := Lib.hid (And.intro hB (And.intro hbk (And.intro hown (And.intro hu (And.intro hb1 hat)))))
  have EV := Lib.hid ev
  clear hB hbk hown hu hb1 hat ev
  go_wp2_with ((with_reducible refine gate_op (Op.call { callee := .builtin .append, args := #[.tmp 12, .tmp 13], argTypes := #[46, 9] }) rfl ?_)
               refine Lib.wpList_append_own_string (w := w1) rfl (.tmp 12) (.tmp 13) 46 9 rfl B 5 i0 Tryd.underlying46 Tryd.underlying9 HI.out.1 HI.out.2.1 HI.out.2.2.1 HI.out.2.2.2 v l.length (b8v l) rfl H1.out.2.2.1 ⟨s.toArray⟩ rfl (by have := HL.out; unfold maxLen; simp [ByteArray.size]; omega) (by have := HL.out; simp [ByteArray.size]; omega) (Nat.le_trans HBw.out H1.out.2.2.2.2.1.size) ?_
               intro v' w2 hown2 hg2 _
               obtain ⟨ao2, cap2, rfl⟩ := own_form hown2
               have hbk2 : w2.heap[b]? = some (.cells #[p, v] 71 (0, 0)) := (hg2.block b (Lib.BuilderAt.lt H1.out.2.2.2.2.2) (fun e => Lib.ownBlock_ne H1.out.2.2.1 H1.out.2.1 (by decide) e.symm)).trans H1.out.2.1
               have c2 : w2.cell? ⟨b, 1, none⟩ = some v := (Lib.cell_of_heap hbk2 1)
               have f2 : w2.frozen? ⟨b, 1, none⟩ = false := Lib.frozen_of_heap hbk2 1
               have H2 := Lib.hid (And.intro hown2 (And.intro hg2 hbk2))
               clear hown2 hg2 hbk2)
  go_ret2
  obtain ⟨hB, hbk, hown, hu, hb1, hat⟩ := H1.out
  obtain ⟨hown2, hg2, hbk2⟩ := H2.out
  have hp := Lib.BuilderAt.same_addr hat hu
  subst hp
  have hsz : (⟨s.toArray⟩ : ByteArray).size = s.length := rfl
  have ho : w2.ownsRow B 5 1 (.slice ao2 (l.length + s.length) cap2) (b8v (l ++ s)).length (b8v (l ++ s)) := by
    rw [b8v_len, List.length_append]
    rw [strCells_b8v] at hown2
    unfold b8v at hown2 ⊢
    rw [List.map_append]
    exact hown2
  exact ⟨rfl, .inr (Lib.BuilderAt.put hB hbk2 ho (by decide)), ((hb1.grown hg2 (Nat.le_trans HBw.out hb1.size) (fun j hj => (hown.lt j hj).1)).setCell (p := ⟨b, 1, none⟩) hB _)⟩
theorem byteCells_b8v (l : List UInt8) : Lib.byteCells l = b8v l := rfl
theorem bstring_any (B b : Nat) (l : List UInt8) (w : World) (h : IsB B b l w) (hBw : B ≤ w.heap.size) :
    Calls Tryd.prog 41 #[.pointer (some ⟨b, 0, none⟩)] w fun e w' => e = .returned (.string ⟨l.toArray⟩) ∧ Below B w w' :=
  Tryd.Builder_String_any B b l w (by rw [byteCells_b8v]; exact h) hBw

theorem IsB.kept {B b : Nat} {l : List UInt8} {w w' : World} (h : IsB B b l w) (hb : Below w.heap.size w w') : IsB B b l w' := by
  have one : ∀ p, Lib.BuilderAt 71 5 B b p (b8v l) w → Lib.BuilderAt 71 5 B b p (b8v l) w' := by
    intro p h
    have hlt := h.lt
    obtain ⟨hB, v, hbk, hown, hne⟩ := h
    exact ⟨hB, v, (hb.block b hlt).trans hbk, hown.kept (row := none) (only_of_below hb none) (by cases hv : v.ownBlock <;> simp), hne⟩
  rcases h with h | h
  · exact .inl (one _ h)
  · exact .inr (one _ h)
/-- what Derive hands back -/
def deriveV (k info : List UInt8) (n : Int) : Value :=
  if n < 0 then .tuple #[.string ⟨#[]⟩, .int .i64 1] else if 8160 < n then .tuple #[.string ⟨#[]⟩, .int .i64 10] else .tuple #[.string ⟨(derive k info n.toNat).toArray⟩, .int .i64 0]
theorem run_convert_one (x : UInt8) (W : World) (fr : Nat × Nat) : (convert 46 9 (.slice (some ⟨W.heap.size, 0, none⟩) 1 1)).run Tryd.prog (W.alloc (.cells #[.int .u8 (x.toNat : Int)] 5 fr)) = .ok (.string ⟨#[x]⟩) (W.alloc (.cells #[.int .u8 (x.toNat : Int)] 5 fr)) := by
  have h := run_convert_b8 (P := Tryd.prog) (src := 46) (dst := 9) (e := 5) Tryd.underlying46 Tryd.underlying5 Tryd.underlying9 ⟨W.heap.size, 0, none⟩ [x] 1 (W.alloc (.cells #[.int .u8 (x.toNat : Int)] 5 fr)) (fun j hj => by
    obtain rfl : j = 0 := by simpa using hj
    rw [addr_add, Nat.zero_add, cell_of_row _ _ _ _ _ _ (heap_alloc_new W _)]
    rfl)
  exact h

set_option maxRecDepth 100000 in
set_option maxHeartbeats 1000000 in
theorem derive_any (k info : List UInt8) (n : Int) (w : World) (hG : Glob w) (hk : k.length ≤ 1152921504606846976) (hi : info.length ≤ 140737488355328) :
    Calls Tryd.prog 28 #[.string ⟨k.toArray⟩, .string ⟨info.toArray⟩, .int .i64 n] w fun e w' => e = .returned (deriveV k info n) ∧ Below w.heap.size w w' := by
  by_cases h0 : n < 0
  · have e : deriveV k info n = .tuple #[.string ⟨#[]⟩, .int .i64 1] := by unfold deriveV; rw [if_pos h0]
    rw [e]
    clear e
    go_enter Tryd.func28, Tryd.ntmps28
    go_wp2_with fail
    go_ret2
    exact ⟨rfl, Below.refl _ _⟩
  by_cases h1 : 8160 < n
  · have e : deriveV k info n = .tuple #[.string ⟨#[]⟩, .int .i64 10] := by unfold deriveV; rw [if_neg h0, if_pos h1]
    rw [e]
    clear e
    go_enter Tryd.func28, Tryd.ntmps28
    go_wp2_with fail
    go_ret2
    exact ⟨rfl, Below.refl _ _⟩
  obtain ⟨N, rfl⟩ : ∃ N : Nat, n = N := ⟨n.toNat, by omega⟩
  have hN : N ≤ 8160 := by omega
  have e : deriveV k info (N : Int) = .tuple #[.string ⟨(derive k info N).toArray⟩, .int .i64 0] := by unfold deriveV; rw [if_neg h0, if_neg h1]; rfl
  rw [e]
  obtain ⟨r, er⟩ : ∃ r, r = derive k info N := ⟨_, rfl⟩
  rw [← er]
  have ER := Lib.hid er
  have HG := Lib.hid hG
  have HK := Lib.hid hk
  have HI := Lib.hid hi
  clear e er h0 h1 hG hk hi
  have n0 : ¬ (N : Int) < 0 := by omega
  have n1 : ¬ (8160 : Int) < (N : Int) := by omega
  go_enter Tryd.func28, Tryd.ntmps28
  go_wp2_with fail
  have hB0 : Below w.heap.size w (w.alloc (.cells #[.pointer none, .slice none 0 0] 71)) := (Below.refl _ _).alloc (Nat.le_refl _) _
  have H0 : Hid (IsB w.heap.size w.heap.size (dout k info 0) (w.alloc (.cells #[.pointer none, .slice none 0 0] 71))) ∧ Hid (Below w.heap.size w (w.alloc (.cells #[.pointer none, .slice none 0 0] 71))) := ⟨Lib.fresh_isBuilder _ _ w, hB0⟩
  clear hB0
  go_loopg [9, 10] ((N + 31) / 32) (fun kq v9 v10 wr => ∃ i : Nat, Hid (i + kq = (N + 31) / 32) ∧ (∃ l, v9 = .string ⟨l.toArray⟩ ∧ Hid (l = dlast k info i)) ∧ (∃ x : UInt8, v10 = .int .u8 (x.toNat : Int) ∧ Hid (x = (i + 1).toUInt8)) ∧ Hid (IsB w.heap.size w.heap.size (dout k info i) wr) ∧ Hid (Below w.heap.size w wr))
  case atStart => exact ⟨0, Nat.zero_add _, ⟨[], rfl, rfl⟩, ⟨1, rfl, rfl⟩, H0.1, H0.2⟩
  case round =>
    clear H0
    obtain ⟨i, hk, ⟨l, hl9, hl⟩, ⟨x, hx10, hx⟩, hb, hB⟩ := hrel
    subst hl9
    subst hx10
    obtain ⟨d, ed⟩ : ∃ d, d = dout k info i := ⟨_, rfl⟩
    have hd : d.length = 32 * i := by rw [ed]; exact dout_length k info i
    rw [← ed] at hb
    obtain ⟨D, eD⟩ : ∃ D, D = d.length := ⟨_, rfl⟩
    have clen := fun (h : IsB w.heap.size w.heap.size d wr) => blen_any w.heap.size w.heap.size d wr h
    rw [← eD] at clen
    have CL := Lib.hid clen
    have E := Lib.hid (And.intro ed (And.intro hd eD))
    clear ed hd eD clen
    cases gk with
    | succ kq =>
      have hlt : (D : Int) < (N : Int) := by have h1 := hk.out; have h2 := E.out.2.1; have h3 := E.out.2.2; omega
      have hll : l.length ≤ 32 := by rw [hl.out]; exact dlast_le k info i
      have le1 : ¬ 9223372036854775807 < l.length + info.length := by have := HI.out; omega
      have le2 : ¬ 9223372036854775807 < l.length + info.length + 1 := by have := HI.out; omega
      have cv := fun W fr => run_convert_one x W fr
      go_wp2_with fail
      refine (CL.out hb.out).mono ?_
      rintro e w1 ⟨rfl, rfl⟩
      go_wp2_with fail
      have hB1 : Below wr.heap.size wr (wr.alloc (.cells #[.int .u8 (x.toNat : Int)] 5)) := (Below.refl _ _).alloc (Nat.le_refl _) _
      obtain ⟨m, em⟩ : ∃ m, m = hmac k (l ++ info ++ [x]) := ⟨_, rfl⟩
      have hm := mac_any k (l ++ info ++ [x]) (wr.alloc (.cells #[.int .u8 (x.toNat : Int)] 5)) (HG.out.below (hB.out.trans (hB1.mono hB.out.size))) HK.out (by have := HI.out; simp; omega)
      rw [← em, ← str_app, ← str_app] at hm
      have em2 : m = dlast k info (i + 1) := by rw [em, hl.out, hx.out]; rfl
      have hb1 : IsB w.heap.size w.heap.size d (wr.alloc (.cells #[.int .u8 (x.toNat : Int)] 5)) := hb.out.kept hB1
      have hml : m.length = 32 := by rw [em]; exact hmac_length _ _
      have M := Lib.hid (And.intro em2 (And.intro hb1 (And.intro (hB.out.trans (hB1.mono hB.out.size)) hml)))
      clear em em2 hb1 hB1 hml cv
      refine hm.mono ?_
      clear hm
      rintro e w2 ⟨rfl, hB2⟩
      have hb2 := M.out.2.1.kept hB2
      have hBB := M.out.2.2.1.trans (hB2.mono M.out.2.2.1.size)
      have M2 := Lib.hid (And.intro hb2 hBB)
      clear hb2 hBB hB2
      go_wp2_with fail
      refine (bwrite_any w.heap.size w.heap.size d m _ M2.out.1 (by have h1 := hk.out; have h2 := E.out.2.1; have h3 := M.out.2.2.2; omega) M2.out.2.size).mono ?_
      rintro e w3 ⟨rfl, hb3, hB3⟩
      have M3 := Lib.hid (And.intro hb3 (M2.out.2.trans hB3))
      clear hb3 hB3
      go_wp2_with fail
      go_roundg kq
      case measure => omega
      case rel =>
        refine ⟨i + 1, by have := hk.out; show i + 1 + kq = _; omega, ⟨m, rfl, M.out.1⟩, ⟨x + 1, ?_, show x + 1 = (i + 1 + 1).toUInt8 from by rw [hx.out]; simp⟩, ?_, M3.out.2⟩
        · rw [UInt8.toNat_add]; simp
        · rw [dout, ← E.out.1, ← M.out.1]; exact M3.out.1
    | zero =>
      have hge : ¬ (D : Int) < (N : Int) := by have h1 := hk.out; have h2 := E.out.2.1; have h3 := E.out.2.2; omega
      have hfin : d.take N = r := by
        rw [ER.out, E.out.1, show i = (N + 31) / 32 from hk.out]; rfl
      have hNd : N ≤ d.length := by have h1 := hk.out; have h2 := E.out.2.1; omega
      have F := Lib.hid (And.intro hfin hNd)
      clear hfin
      go_wp2_with fail
      refine (CL.out hb.out).mono ?_
      rintro e w1 ⟨rfl, rfl⟩
      go_wp2_with fail
      refine (bstring_any w.heap.size w.heap.size d _ hb.out hB.out.size).mono ?_
      rintro e w2 ⟨rfl, hB2⟩
      have M := Lib.hid (hB.out.trans hB2)
      have ex : (⟨d.toArray⟩ : ByteArray).extract 0 N = ⟨r.toArray⟩ := by rw [str_extract, List.drop_zero, Nat.sub_zero, F.out.1]
      clear hB2
      go_wp2_with fail
      go_ret2
      exact ⟨rfl, M.out⟩
end Go.Proofs.YticmnckkhbniaaaDoor
